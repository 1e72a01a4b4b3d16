/- Texts of one claim bound together: POy, POA, POC, POD, POE, POH, POI, POK, POL, POX, POY, POZ. -/
import Derived.Test.YtgdlkhgfehclpaaQK5

section
/- How many neighbours stand ahead: Back, both. No condition. -/
namespace Go.Proofs.Ytgdlkhgfehclpaa
open Go Go.AL
set_option linter.unusedVariables false
set_option linter.unusedSimpArgs false
def bools (S : List Bool) : AV := .isl 1 (List.map boolE S)
theorem frz_bools {h : Heap} {id len cap : Nat} {ex ex' : Bool} {l : List Bool} (hid : h[id]? = some (.arr 1 (List.map boolE l) ex')) (hn : l.length = len) : Frz h (.osl id 1 0 len cap ex) (bools l) := by
  have := Frz.flat (h := h) (id := id) (k := 1) (i := 0) (len := len) (cap := cap) (ex := ex) hid (by simp; omega) (fun e he => by
    obtain ⟨x, _, rfl⟩ := List.mem_map.1 he; rfl)
  rw [List.drop_zero, List.take_of_length_le (by simp; omega)] at this
  exact this
theorem ftake {α : Type} [Inhabited α] {p : α → Bool} {l : List α} {k : Nat} (hk : k < l.length) : ((l.take (k + 1)).filter p).length = ((l.take k).filter p).length + if p (l.getD k default) = true then 1 else 0 := by
  have e : l.getD k default = l[k] := by simp [List.getD_eq_getElem?_getD, List.getElem?_eq_getElem hk]
  rw [List.take_add_one, List.getElem?_eq_getElem hk, List.filter_append, List.length_append, e]
  simp only [Option.toList, List.filter_cons, List.filter_nil]
  split <;> rfl
set_option maxRecDepth 100000 in
theorem among_c (n : Nat) (st cs : List Int) (S : List Bool) (hb : st.length < 1000000000) (hb2 : cs.length < 1000000000) (hm : mayP n n st cs) (hn : n ≤ 128) (v : Nat) (hv : v < n) (hS : S.length = n) : APure Try.prog 93 [pat n n st cs, .int .i64 v, bools S] (.int .i64 (cnt st cs S v)) := by
  have q4 := (may_row hm (show v < (n : Int).toNat by omega)).2.2.2.1
  have hrl := row_len hm hv
  refine apure_of (wp93 rfl rfl ?_)
  simp (maxSteps := 4000000) +contextual only [↓packA0, ↓packA1, ↓packA2, ↓reduceIte, packB0, packB1, packB2, packB3, packB4, pureOp, quietOp, loadOp, quietB, fr0, cellsK, Option.getD_some, Option.getD_none, implies_true, ite_true, ite_false, eq_self, ne_eq, reduceCtorEq, Nat.reduceLT, Nat.reduceLeDiff, Nat.reduceAdd, Nat.reduceMul, Nat.reduceBEq, Nat.reduceEqDiff, Int.reduceToNat, Int.reduceLT, Int.reduceLE, Nat.reduceSub, pl93, tsize_3, tbytes_3, tagg_3, zcells_3, telem_3, tint_3, tnotIface_3, tsize_4, tbytes_4, tagg_4, zcells_4, telem_4, tbool_4, tnotIface_4, tsize_23, tbytes_23, tagg_23, zcells_23, telem_23, tnotIface_23, tsize_45, tbytes_45, tagg_45, zcells_45, telem_45, tnotIface_45, foff_45_0, foff_45_1, foff_45_2, foff_45_3, fplaces_45, tsize_52, tbytes_52, tagg_52, zcells_52, telem_52, tnotIface_52, ints, bools]
  refine acalls_pure (rneigh_c n n st cs hb hb2 hm v (by omega) (by omega)) rfl ?_
  simp (maxSteps := 4000000) +contextual only [↓packA0, ↓packA1, ↓packA2, ↓reduceIte, packB0, packB1, packB2, packB3, packB4, pureOp, quietOp, loadOp, quietB, fr0, cellsK, Option.getD_some, Option.getD_none, implies_true, ite_true, ite_false, eq_self, ne_eq, reduceCtorEq, Nat.reduceLT, Nat.reduceLeDiff, Nat.reduceAdd, Nat.reduceMul, Nat.reduceBEq, Nat.reduceEqDiff, Int.reduceToNat, Int.reduceLT, Int.reduceLE, Nat.reduceSub, pl93, tsize_3, tbytes_3, tagg_3, zcells_3, telem_3, tint_3, tnotIface_3, tsize_4, tbytes_4, tagg_4, zcells_4, telem_4, tbool_4, tnotIface_4, tsize_23, tbytes_23, tagg_23, zcells_23, telem_23, tnotIface_23, tsize_45, tbytes_45, tagg_45, zcells_45, telem_45, tnotIface_45, foff_45_0, foff_45_1, foff_45_2, foff_45_3, fplaces_45, tsize_52, tbytes_52, tagg_52, zcells_52, telem_52, tnotIface_52, ints, bools]
  refine LoopK.intro (fun m a h => ∃ j : Nat, m = (rowOf st cs v).length - j ∧ j ≤ (rowOf st cs v).length ∧ a 2 = bools S ∧ a 7 = .int .i64 (((rowOf st cs v).take j).filter (fun w => S.getD w.toNat false)).length ∧ a 8 = ints (rowOf st cs v) ∧ a 9 = .int .i64 j ∧ h = [patO n n st cs]) (rowOf st cs v).length ⟨0, rfl, Nat.zero_le _, ?_⟩ ?_
  · simp (maxSteps := 4000000) only [↓packA0, ↓packA1, ↓packA2, ↓reduceIte, packB0, packB1, packB2, packB3, packB4, pureOp, quietOp, loadOp, quietB, fr0, cellsK, Option.getD_some, Option.getD_none, implies_true, ite_true, ite_false, eq_self, ne_eq, reduceCtorEq, Nat.reduceLT, Nat.reduceLeDiff, Nat.reduceAdd, Nat.reduceMul, Nat.reduceBEq, Nat.reduceEqDiff, Int.reduceToNat, Int.reduceLT, Int.reduceLE, Nat.reduceSub, pl93, tsize_3, tbytes_3, tagg_3, zcells_3, telem_3, tint_3, tnotIface_3, tsize_4, tbytes_4, tagg_4, zcells_4, telem_4, tbool_4, tnotIface_4, tsize_23, tbytes_23, tagg_23, zcells_23, telem_23, tnotIface_23, tsize_45, tbytes_45, tagg_45, zcells_45, telem_45, tnotIface_45, foff_45_0, foff_45_1, foff_45_2, foff_45_3, fplaces_45, tsize_52, tbytes_52, tagg_52, zcells_52, telem_52, tnotIface_52, ints, bools, patO, Int.natCast_zero]
    rfl
  rintro m a h ⟨j, rfl, hj, a2, a7, a8, a9, rfl⟩
  simp (maxSteps := 4000000) +contextual only [↓packA0, ↓packA1, ↓packA2, ↓reduceIte, packB0, packB1, packB2, packB3, packB4, pureOp, quietOp, loadOp, quietB, fr0, cellsK, Option.getD_some, Option.getD_none, implies_true, ite_true, ite_false, eq_self, ne_eq, reduceCtorEq, Nat.reduceLT, Nat.reduceLeDiff, Nat.reduceAdd, Nat.reduceMul, Nat.reduceBEq, Nat.reduceEqDiff, Int.reduceToNat, Int.reduceLT, Int.reduceLE, Nat.reduceSub, pl93, tsize_3, tbytes_3, tagg_3, zcells_3, telem_3, tint_3, tnotIface_3, tsize_4, tbytes_4, tagg_4, zcells_4, telem_4, tbool_4, tnotIface_4, tsize_23, tbytes_23, tagg_23, zcells_23, telem_23, tnotIface_23, tsize_45, tbytes_45, tagg_45, zcells_45, telem_45, tnotIface_45, foff_45_0, foff_45_1, foff_45_2, foff_45_3, fplaces_45, tsize_52, tbytes_52, tagg_52, zcells_52, telem_52, tnotIface_52, ints, bools, patO, a2, a7, a8, a9]
  refine ⟨fun h2 => ?_, fun h2 => ?_⟩
  · have hj2 : j < (rowOf st cs v).length := by omega
    have h3 := row_nonneg q4 hj2
    have h4 := (q4 j hj2).2
    have hft := ftake (p := fun w : Int => S.getD w.toNat false) hj2
    have hfl : (((rowOf st cs v).take j).filter (fun w : Int => S.getD w.toNat false)).length ≤ 128 := Nat.le_trans (List.length_filter_le _ _) (by simp; omega)
    refine ⟨by omega, by omega, by omega, by omega, fun h5 => ?_, fun h5 => ?_⟩
    · rw [if_pos (show S.getD ((rowOf st cs v).getD j default).toNat false = true from h5)] at hft
      exact ⟨by omega, by omega, .inl ⟨(rowOf st cs v).length - (j + 1), by omega, j + 1, rfl, by omega, by omega, by omega⟩⟩
    · rw [if_neg (show ¬ S.getD ((rowOf st cs v).getD j default).toNat false = true from fun hc => by first | exact h5 hc | (rw [show S.getD ((rowOf st cs v).getD j default).toNat default = true from hc] at h5; cases h5))] at hft
      exact ⟨by omega, .inl ⟨(rowOf st cs v).length - (j + 1), by omega, j + 1, rfl, by omega, by omega, by omega⟩⟩
  · obtain rfl : j = (rowOf st cs v).length := by omega
    rw [List.take_length]
    exact .pure _ rfl
/-- How many of a vertex's neighbours have a lesser place. -/
def bk (st cs P : List Int) (v : Nat) : Nat := ((rowOf st cs v).filter (fun w => decide (P.getD w.toNat default < P.getD v default))).length
def bkL (st cs P : List Int) (n : Nat) : List Int := (List.range n).map fun v => ((bk st cs P v : Nat) : Int)
theorem bkL_len {st cs P : List Int} {n : Nat} : (bkL st cs P n).length = n := by simp [bkL]
theorem bkL_get {st cs P : List Int} {n v : Nat} (h : v < n) : (bkL st cs P n).getD v default = bk st cs P v := by
  simp [bkL, List.getD_eq_getElem?_getD, List.getElem?_map, List.getElem?_range h]
noncomputable def backV (rows width : Int) (st cs xs : List Int) : AV := if graphP rows width st cs then (if checkR rows xs = 0 then .tup [.int .i64 (mxK (bkL st cs (invR xs) rows.toNat) rows.toNat), ints (bkL st cs (invR xs) rows.toNat), .int .i64 0] else .tup [.int .i64 0, ints [], .int .i64 182]) else .tup [.int .i64 0, ints [], .int .i64 220]
theorem backV_form (rows width : Int) (st cs xs : List Int) : ∃ a l e, backV rows width st cs xs = .tup [.int .i64 a, ints l, .int .i64 e] ∧ l.length ≤ 128 := by
  unfold backV
  split
  · rename_i hg
    have := hg.1.1.1
    split
    · exact ⟨_, _, _, rfl, by rw [bkL_len]; omega⟩
    · exact ⟨_, _, _, rfl, Nat.zero_le _⟩
  · exact ⟨_, _, _, rfl, Nat.zero_le _⟩
set_option maxHeartbeats 4000000 in
set_option maxRecDepth 100000 in
theorem back_c (rows width : Int) (st cs xs : List Int) (hb : st.length < 1000000000) (hb2 : cs.length < 1000000000) (hbx : xs.length < 1000000000) : ACalls Try.prog 33 [pat rows width st cs, ints xs] [] fun v h => OFz h v (backV rows width st cs xs) := by
  refine (wp33 rfl rfl ?_)
  simp (maxSteps := 4000000) +contextual only [↓packA0, ↓packA1, ↓packA2, ↓reduceIte, packB0, packB1, packB2, packB3, packB4, pureOp, quietOp, loadOp, quietB, fr0, cellsK, Option.getD_some, Option.getD_none, implies_true, ite_true, ite_false, eq_self, ne_eq, reduceCtorEq, Nat.reduceLT, Nat.reduceLeDiff, Nat.reduceAdd, Nat.reduceMul, Nat.reduceBEq, Nat.reduceEqDiff, Int.reduceToNat, Int.reduceLT, Int.reduceLE, Nat.reduceSub, pl33, tsize_3, tbytes_3, tagg_3, zcells_3, telem_3, tint_3, tnotIface_3, tsize_4, tbytes_4, tagg_4, zcells_4, telem_4, tbool_4, tnotIface_4, tsize_23, tbytes_23, tagg_23, zcells_23, telem_23, tnotIface_23, tsize_45, tbytes_45, tagg_45, zcells_45, telem_45, tnotIface_45, foff_45_0, foff_45_1, foff_45_2, foff_45_3, fplaces_45, tsize_53, tbytes_53, tagg_53, zcells_53, telem_53, tint_53, tnotIface_53, ints]
  refine acalls_pure (graph_c rows width st cs hb hb2) rfl ?_
  simp (maxSteps := 4000000) +contextual only [↓packA0, ↓packA1, ↓packA2, ↓reduceIte, packB0, packB1, packB2, packB3, packB4, pureOp, quietOp, loadOp, quietB, fr0, cellsK, Option.getD_some, Option.getD_none, implies_true, ite_true, ite_false, eq_self, ne_eq, reduceCtorEq, Nat.reduceLT, Nat.reduceLeDiff, Nat.reduceAdd, Nat.reduceMul, Nat.reduceBEq, Nat.reduceEqDiff, Int.reduceToNat, Int.reduceLT, Int.reduceLE, Nat.reduceSub, pl33, tsize_3, tbytes_3, tagg_3, zcells_3, telem_3, tint_3, tnotIface_3, tsize_4, tbytes_4, tagg_4, zcells_4, telem_4, tbool_4, tnotIface_4, tsize_23, tbytes_23, tagg_23, zcells_23, telem_23, tnotIface_23, tsize_45, tbytes_45, tagg_45, zcells_45, telem_45, tnotIface_45, foff_45_0, foff_45_1, foff_45_2, foff_45_3, fplaces_45, tsize_53, tbytes_53, tagg_53, zcells_53, telem_53, tint_53, tnotIface_53, ints]
  refine ⟨fun hg => ?_, fun hg => ?_⟩
  rotate_left
  · rw [show backV rows width st cs xs = .tup [.int .i64 0, ints [], .int .i64 220] from if_neg hg]
    exact .three (.flat _ rfl) (.nils 1) (.flat _ rfl)
  obtain ⟨n, rfl, rfl, hn⟩ := graph_sides hg
  refine acalls_pure (check_c n xs) rfl ?_
  simp (maxSteps := 4000000) +contextual only [↓packA0, ↓packA1, ↓packA2, ↓reduceIte, packB0, packB1, packB2, packB3, packB4, pureOp, quietOp, loadOp, quietB, fr0, cellsK, Option.getD_some, Option.getD_none, implies_true, ite_true, ite_false, eq_self, ne_eq, reduceCtorEq, Nat.reduceLT, Nat.reduceLeDiff, Nat.reduceAdd, Nat.reduceMul, Nat.reduceBEq, Nat.reduceEqDiff, Int.reduceToNat, Int.reduceLT, Int.reduceLE, Nat.reduceSub, pl33, tsize_3, tbytes_3, tagg_3, zcells_3, telem_3, tint_3, tnotIface_3, tsize_4, tbytes_4, tagg_4, zcells_4, telem_4, tbool_4, tnotIface_4, tsize_23, tbytes_23, tagg_23, zcells_23, telem_23, tnotIface_23, tsize_45, tbytes_45, tagg_45, zcells_45, telem_45, tnotIface_45, foff_45_0, foff_45_1, foff_45_2, foff_45_3, fplaces_45, tsize_53, tbytes_53, tagg_53, zcells_53, telem_53, tint_53, tnotIface_53, ints]
  refine ⟨fun h1 => ?_, fun h1 => ?_⟩
  · rw [show backV n n st cs xs = .tup [.int .i64 0, ints [], .int .i64 182] from (if_pos hg).trans (if_neg h1)]
    exact .three (.flat _ rfl) (.nils 1) (.flat _ rfl)
  have hbv : backV n n st cs xs = .tup [.int .i64 (mxK (bkL st cs (invR xs) n) n), ints (bkL st cs (invR xs) n), .int .i64 0] := (if_pos hg).trans ((if_pos h1).trans (by rw [Int.toNat_natCast]))
  rw [hbv]
  obtain ⟨_, _, hxl, hord⟩ := checkR_zero h1
  have hxn : xs.length = n := by omega
  have hPl : (invR xs).length = n := by rw [(invR_ok (by rw [hxl]; exact h1)).1, invK_length]; exact hxn
  refine acalls_fresh (inverse_c xs (by omega)) ?_ (fun u h0 hz => ⟨_, hz, ?_⟩)
  · exact .cons (.pure _ rfl) .nil
  generalize invR xs = P at *
  simp (maxSteps := 4000000) +contextual only [↓packA0, ↓packA1, ↓packA2, ↓reduceIte, packB0, packB1, packB2, packB3, packB4, pureOp, quietOp, loadOp, quietB, fr0, cellsK, Option.getD_some, Option.getD_none, implies_true, ite_true, ite_false, eq_self, ne_eq, reduceCtorEq, Nat.reduceLT, Nat.reduceLeDiff, Nat.reduceAdd, Nat.reduceMul, Nat.reduceBEq, Nat.reduceEqDiff, Int.reduceToNat, Int.reduceLT, Int.reduceLE, Nat.reduceSub, pl33, tsize_3, tbytes_3, tagg_3, zcells_3, telem_3, tint_3, tnotIface_3, tsize_4, tbytes_4, tagg_4, zcells_4, telem_4, tbool_4, tnotIface_4, tsize_23, tbytes_23, tagg_23, zcells_23, telem_23, tnotIface_23, tsize_45, tbytes_45, tagg_45, zcells_45, telem_45, tnotIface_45, foff_45_0, foff_45_1, foff_45_2, foff_45_3, fplaces_45, tsize_53, tbytes_53, tagg_53, zcells_53, telem_53, tint_53, tnotIface_53, ints]
  refine ⟨by omega, ?_⟩
  refine LoopK.intro (fun m a h => ∃ (k : Nat) (L : List Int), m = n - k ∧ k ≤ n ∧ L.length = n ∧ (∀ u : Nat, u < k → L.getD u default = bk st cs P u) ∧ (∀ u : Nat, k ≤ u → u < n → L.getD u default = 0) ∧ a 2 = .op 0 4 0 0 ∧ a 7 = ints P ∧ a 9 = .int .i64 (mxK (bkL st cs P n) k) ∧ a 10 = .osl 1 1 0 n n true ∧ a 31 = .int .i64 n ∧ a 32 = .int .i64 k ∧ h = [patO n n st cs, Ob.arr 1 (List.map intE L) true]) n ⟨0, List.replicate n 0, rfl, Nat.zero_le _, by simp, fun u hu => by omega, fun u _ hu => by simp [List.getD_eq_getElem?_getD, List.getElem?_replicate, hu], ?_⟩ ?_
  · simp (maxSteps := 4000000) only [↓packA0, ↓packA1, ↓packA2, ↓reduceIte, packB0, packB1, packB2, packB3, packB4, pureOp, quietOp, loadOp, quietB, fr0, cellsK, Option.getD_some, Option.getD_none, implies_true, ite_true, ite_false, eq_self, ne_eq, reduceCtorEq, Nat.reduceLT, Nat.reduceLeDiff, Nat.reduceAdd, Nat.reduceMul, Nat.reduceBEq, Nat.reduceEqDiff, Int.reduceToNat, Int.reduceLT, Int.reduceLE, Nat.reduceSub, pl33, tsize_3, tbytes_3, tagg_3, zcells_3, telem_3, tint_3, tnotIface_3, tsize_4, tbytes_4, tagg_4, zcells_4, telem_4, tbool_4, tnotIface_4, tsize_23, tbytes_23, tagg_23, zcells_23, telem_23, tnotIface_23, tsize_45, tbytes_45, tagg_45, zcells_45, telem_45, tnotIface_45, foff_45_0, foff_45_1, foff_45_2, foff_45_3, fplaces_45, tsize_53, tbytes_53, tagg_53, zcells_53, telem_53, tint_53, tnotIface_53, ints, patO, mxK, Int.natCast_zero]
  rintro m a h ⟨k, L, rfl, hk, hL, hlo, hhi, a2, a7, a9, a10, a31, a32, rfl⟩
  simp (maxSteps := 4000000) +contextual only [↓packA0, ↓packA1, ↓packA2, ↓reduceIte, packB0, packB1, packB2, packB3, packB4, pureOp, quietOp, loadOp, quietB, fr0, cellsK, Option.getD_some, Option.getD_none, implies_true, ite_true, ite_false, eq_self, ne_eq, reduceCtorEq, Nat.reduceLT, Nat.reduceLeDiff, Nat.reduceAdd, Nat.reduceMul, Nat.reduceBEq, Nat.reduceEqDiff, Int.reduceToNat, Int.reduceLT, Int.reduceLE, Nat.reduceSub, pl33, tsize_3, tbytes_3, tagg_3, zcells_3, telem_3, tint_3, tnotIface_3, tsize_4, tbytes_4, tagg_4, zcells_4, telem_4, tbool_4, tnotIface_4, tsize_23, tbytes_23, tagg_23, zcells_23, telem_23, tnotIface_23, tsize_45, tbytes_45, tagg_45, zcells_45, telem_45, tnotIface_45, foff_45_0, foff_45_1, foff_45_2, foff_45_3, fplaces_45, tsize_53, tbytes_53, tagg_53, zcells_53, telem_53, tint_53, tnotIface_53, ints, patO, a2, a7, a9, a10, a31, a32]
  refine ⟨fun h2 => ?_, fun h2 => ?_⟩
  · have q4 := (may_row hg.1.1 (show k < (n : Int).toNat by omega)).2.2.2.1
    have hrl := row_len hg.1.1 (show k < n by omega)
    refine acalls_pure (neigh_c n n st cs hb hb2 hg.1.1 k (by omega) (by omega)) rfl ?_
    simp (maxSteps := 4000000) +contextual only [↓packA0, ↓packA1, ↓packA2, ↓reduceIte, packB0, packB1, packB2, packB3, packB4, pureOp, quietOp, loadOp, quietB, fr0, cellsK, Option.getD_some, Option.getD_none, implies_true, ite_true, ite_false, eq_self, ne_eq, reduceCtorEq, Nat.reduceLT, Nat.reduceLeDiff, Nat.reduceAdd, Nat.reduceMul, Nat.reduceBEq, Nat.reduceEqDiff, Int.reduceToNat, Int.reduceLT, Int.reduceLE, Nat.reduceSub, pl33, tsize_3, tbytes_3, tagg_3, zcells_3, telem_3, tint_3, tnotIface_3, tsize_4, tbytes_4, tagg_4, zcells_4, telem_4, tbool_4, tnotIface_4, tsize_23, tbytes_23, tagg_23, zcells_23, telem_23, tnotIface_23, tsize_45, tbytes_45, tagg_45, zcells_45, telem_45, tnotIface_45, foff_45_0, foff_45_1, foff_45_2, foff_45_3, fplaces_45, tsize_53, tbytes_53, tagg_53, zcells_53, telem_53, tint_53, tnotIface_53, ints, patO, a2, a7, a9, a10, a31, a32]
    refine LoopK.intro (fun m a h => ∃ (j : Nat) (L : List Int), m = (rowOf st cs k).length - j ∧ j ≤ (rowOf st cs k).length ∧ L.length = n ∧ (∀ u : Nat, u < k → L.getD u default = bk st cs P u) ∧ (∀ u : Nat, k < u → u < n → L.getD u default = 0) ∧ L.getD k default = (((rowOf st cs k).take j).filter (fun w => decide (P.getD w.toNat default < P.getD k default))).length ∧ a 2 = .op 0 4 0 0 ∧ a 7 = ints P ∧ a 9 = .int .i64 (mxK (bkL st cs P n) k) ∧ a 10 = .osl 1 1 0 n n true ∧ a 11 = .int .i64 k ∧ a 31 = .int .i64 n ∧ a 32 = .int .i64 k ∧ a 37 = ints (rowOf st cs k) ∧ a 38 = .int .i64 (rowOf st cs k).length ∧ a 39 = .int .i64 j ∧ h = [patO n n st cs, Ob.arr 1 (List.map intE L) true]) (rowOf st cs k).length ⟨0, L, rfl, Nat.zero_le _, hL, hlo, fun u h3 h4 => hhi u (by omega) h4, by rw [hhi k (Nat.le_refl _) (by omega)]; rfl, ?_⟩ ?_
    · simp (maxSteps := 4000000) only [↓packA0, ↓packA1, ↓packA2, ↓reduceIte, packB0, packB1, packB2, packB3, packB4, pureOp, quietOp, loadOp, quietB, fr0, cellsK, Option.getD_some, Option.getD_none, implies_true, ite_true, ite_false, eq_self, ne_eq, reduceCtorEq, Nat.reduceLT, Nat.reduceLeDiff, Nat.reduceAdd, Nat.reduceMul, Nat.reduceBEq, Nat.reduceEqDiff, Int.reduceToNat, Int.reduceLT, Int.reduceLE, Nat.reduceSub, pl33, tsize_3, tbytes_3, tagg_3, zcells_3, telem_3, tint_3, tnotIface_3, tsize_4, tbytes_4, tagg_4, zcells_4, telem_4, tbool_4, tnotIface_4, tsize_23, tbytes_23, tagg_23, zcells_23, telem_23, tnotIface_23, tsize_45, tbytes_45, tagg_45, zcells_45, telem_45, tnotIface_45, foff_45_0, foff_45_1, foff_45_2, foff_45_3, fplaces_45, tsize_53, tbytes_53, tagg_53, zcells_53, telem_53, tint_53, tnotIface_53, ints, patO, a2, a7, a9, a10, a31, a32, Int.natCast_zero]
    clear a2 a7 a9 a10 a31 a32
    rintro m a h ⟨j, L, rfl, hj, hL, hlo, hhi, hk3, a2, a7, a9, a10, a11, a31, a32, a37, a38, a39, rfl⟩
    simp (maxSteps := 4000000) +contextual only [↓packA0, ↓packA1, ↓packA2, ↓reduceIte, packB0, packB1, packB2, packB3, packB4, pureOp, quietOp, loadOp, quietB, fr0, cellsK, Option.getD_some, Option.getD_none, implies_true, ite_true, ite_false, eq_self, ne_eq, reduceCtorEq, Nat.reduceLT, Nat.reduceLeDiff, Nat.reduceAdd, Nat.reduceMul, Nat.reduceBEq, Nat.reduceEqDiff, Int.reduceToNat, Int.reduceLT, Int.reduceLE, Nat.reduceSub, pl33, tsize_3, tbytes_3, tagg_3, zcells_3, telem_3, tint_3, tnotIface_3, tsize_4, tbytes_4, tagg_4, zcells_4, telem_4, tbool_4, tnotIface_4, tsize_23, tbytes_23, tagg_23, zcells_23, telem_23, tnotIface_23, tsize_45, tbytes_45, tagg_45, zcells_45, telem_45, tnotIface_45, foff_45_0, foff_45_1, foff_45_2, foff_45_3, fplaces_45, tsize_53, tbytes_53, tagg_53, zcells_53, telem_53, tint_53, tnotIface_53, ints, patO, a2, a7, a9, a10, a11, a31, a32, a37, a38, a39, minK_2, imax_eq]
    refine ⟨fun h3 => ?_, fun h3 => ?_⟩
    · have hjl : j < (rowOf st cs k).length := by omega
      have h4 := row_nonneg q4 hjl
      have h5 := (q4 j hjl).2
      have hft := ftake (p := fun w : Int => decide (P.getD w.toNat default < P.getD k default)) hjl
      have hfl : (((rowOf st cs k).take j).filter (fun w : Int => decide (P.getD w.toNat default < P.getD k default))).length ≤ 128 := Nat.le_trans (List.length_filter_le _ _) (by simp; omega)
      refine ⟨by omega, by omega, by omega, by omega, by omega, by omega, fun h6 => ?_, fun h6 => ?_⟩
      · rw [if_pos (decide_eq_true h6)] at hft
        refine ⟨by omega, by omega, by omega, by omega, by omega, by omega, .inl ⟨(rowOf st cs k).length - (j + 1), by omega, j + 1, L.set k (L.getD k default + 1), rfl, by omega, by simp [hL], fun u hu => ?_, fun u hu1 hu2 => ?_, ?_, by omega, rfl⟩⟩
        · rw [getD_set_ne (by omega)]; exact hlo u hu
        · rw [getD_set_ne (by omega)]; exact hhi u hu1 hu2
        · rw [show (L.set k (L.getD k default + 1)).getD k default = L.getD k default + 1 by simp [List.getD_eq_getElem?_getD, List.getElem?_set_self (show k < L.length by omega)]]
          omega
      · rw [if_neg (by simpa using h6)] at hft
        exact ⟨by omega, .inl ⟨(rowOf st cs k).length - (j + 1), by omega, j + 1, L, rfl, by omega, hL, hlo, hhi, by omega, by omega, rfl⟩⟩
    · obtain rfl : j = (rowOf st cs k).length := by omega
      rw [List.take_length] at hk3
      have hbk : L.getD k default = bk st cs P k := hk3
      refine ⟨by omega, by omega, by omega, .inl ⟨n - (k + 1), by omega, k + 1, L, rfl, by omega, hL, fun u hu => ?_, fun u hu1 hu2 => hhi u (by omega) hu2, ?_, by omega, rfl⟩⟩
      · rcases Nat.lt_or_ge u k with h6 | h6
        · exact hlo u h6
        · rw [show u = k by omega]; exact hbk
      · simp only [mxK]
        rw [bkL_get (by omega), hbk]
  · obtain rfl : n = k := by omega
    have hLe : L = bkL st cs P n := list_ext_getD (by rw [hL, bkL_len]) fun u hu => by rw [hlo u (by omega), bkL_get (by omega)]
    subst hLe
    exact .three (.flat _ rfl) (ofz_ints (l := bkL st cs P n) rfl bkL_len.symm) (.flat _ rfl)
end Go.Proofs.Ytgdlkhgfehclpaa
end

section
/- How many neighbours stand ahead, the document's. No condition. -/
namespace Go.Proofs.Ytgdlkhgfehclpaa
open Go Go.AL
set_option linter.unusedVariables false
set_option linter.unusedSimpArgs false
theorem mxK_ge {C : List Int} : ∀ k, 0 ≤ mxK C k ∧ ∀ u, u < k → C.getD u default ≤ mxK C k
  | 0 => ⟨Int.le_refl _, fun u h => absurd h (Nat.not_lt_zero _)⟩
  | k + 1 => by
    obtain ⟨h1, h2⟩ := mxK_ge (C := C) k
    simp only [mxK]
    refine ⟨by omega, fun u hu => ?_⟩
    rcases Nat.lt_or_ge u k with h3 | h3
    · have := h2 u h3; omega
    · rw [show u = k by omega]; omega
theorem mxK_at {C : List Int} : ∀ k, mxK C k = 0 ∨ ∃ u, u < k ∧ mxK C k = C.getD u default
  | 0 => .inl rfl
  | k + 1 => by
    simp only [mxK]
    rcases Int.lt_or_le (mxK C k) (C.getD k default) with h1 | h1
    · exact .inr ⟨k, by omega, by omega⟩
    · rcases mxK_at (C := C) k with h2 | ⟨u, h2, h3⟩
      · left; omega
      · exact .inr ⟨u, by omega, by omega⟩
theorem mxK_uniq {C : List Int} {k : Nat} {M : Int} (h0 : 0 ≤ M) (h1 : ∀ u, u < k → C.getD u default ≤ M) (h2 : M = 0 ∨ ∃ u, u < k ∧ M = C.getD u default) : mxK C k = M := by
  obtain ⟨g0, g1⟩ := mxK_ge (C := C) k
  have ha : M ≤ mxK C k := by
    rcases h2 with h2 | ⟨u, h3, h4⟩
    · omega
    · have := g1 u h3; omega
  have hb : mxK C k ≤ M := by
    rcases mxK_at (C := C) k with h3 | ⟨u, h3, h4⟩
    · omega
    · have := h1 u h3; omega
  omega
theorem cnt_bk {st cs xs : List Int} {n : Nat} (hm : mayP n n st cs) (hxl : xs.length = n) (hord : ordOK xs.length xs) {S : List Bool} {i v : Nat} (hi : i < n) (hv : xs.getD i default = v) (hS : ∀ u : Nat, u < n → (S.getD u false = true ↔ ∃ j, j < i ∧ xs.getD j default = u)) : cnt st cs S v = bk st cs (invK xs xs.length) v := by
  have hvn : v < n := by
    have := (hord i (by omega)).2.1
    omega
  have q4 := (may_row hm (show v < (n : Int).toNat by omega)).2.2.2.1
  have hPv := invK_get hord xs.length (Nat.le_refl _) i (by omega)
  rw [hv, Int.toNat_natCast] at hPv
  unfold cnt bk
  congr 1
  refine List.filter_congr fun w hw => ?_
  obtain ⟨j, hj, e⟩ := mem_getD.1 hw
  have h1 := row_nonneg q4 hj
  have h2 := (q4 j hj).2
  obtain ⟨u, rfl⟩ := Int.eq_ofNat_of_zero_le (show 0 ≤ w by omega)
  rw [Int.toNat_natCast, hPv]
  obtain ⟨t, ht, e2⟩ := ord_onto hord (show u < xs.length by omega)
  have hPu := invK_get hord xs.length (Nat.le_refl _) t ht
  rw [e2, Int.toNat_natCast] at hPu
  rw [hPu]
  have key := hS u (by omega)
  rw [Bool.eq_iff_iff, key, decide_eq_true_iff]
  constructor
  · rintro ⟨j2, h3, h4⟩
    rcases Nat.lt_trichotomy j2 t with h5 | h5 | h5
    · have := (hord t ht).2.2 j2 h5; omega
    · omega
    · have := (hord j2 (by omega)).2.2 t h5; omega
  · intro h3; exact ⟨t, by omega, e2⟩
set_option maxHeartbeats 4000000 in
set_option maxRecDepth 100000 in
theorem backof_c (n : Nat) (st cs xs : List Int) (hb : st.length < 1000000000) (hb2 : cs.length < 1000000000) (hg : graphP n n st cs) (hn : n ≤ 128) (hxl : xs.length = n) (hord : ordOK xs.length xs) :
    ACalls Try.prog 87 [pat n n st cs, ints xs] [] fun v h => v = .tup [.int .i64 (mxK (bkL st cs (invK xs xs.length) n) n), .osl 2 1 0 n n true] ∧ h[2]? = some (.arr 1 (List.map intE (bkL st cs (invK xs xs.length) n)) true) := by
  refine (wp87 rfl rfl ?_)
  simp (maxSteps := 4000000) +contextual only [↓packA0, ↓packA1, ↓packA2, ↓reduceIte, packB0, packB1, packB2, packB3, packB4, pureOp, quietOp, loadOp, quietB, fr0, cellsK, Option.getD_some, Option.getD_none, implies_true, ite_true, ite_false, eq_self, ne_eq, reduceCtorEq, Nat.reduceLT, Nat.reduceLeDiff, Nat.reduceAdd, Nat.reduceMul, Nat.reduceBEq, Nat.reduceEqDiff, Int.reduceToNat, Int.reduceLT, Int.reduceLE, Nat.reduceSub, pl87, tsize_3, tbytes_3, tagg_3, zcells_3, telem_3, tint_3, tnotIface_3, tsize_4, tbytes_4, tagg_4, zcells_4, telem_4, tbool_4, tnotIface_4, tsize_23, tbytes_23, tagg_23, zcells_23, telem_23, tnotIface_23, tsize_45, tbytes_45, tagg_45, zcells_45, telem_45, tnotIface_45, foff_45_0, foff_45_1, foff_45_2, foff_45_3, fplaces_45, tsize_52, tbytes_52, tagg_52, zcells_52, telem_52, tnotIface_52, ints]
  refine ⟨by omega, by omega, ?_⟩
  refine LoopK.intro (fun m a h => ∃ (i : Nat) (S : List Bool) (L : List Int) (M : Int), m = n - i ∧ i ≤ n ∧ S.length = n ∧ L.length = n ∧ (∀ u : Nat, u < n → (S.getD u false = true ↔ ∃ j, j < i ∧ xs.getD j default = u)) ∧ (∀ j, j < i → L.getD (xs.getD j default).toNat default = bk st cs (invK xs xs.length) (xs.getD j default).toNat ∧ L.getD (xs.getD j default).toNat default ≤ M) ∧ 0 ≤ M ∧ (M = 0 ∨ ∃ j, j < i ∧ M = bk st cs (invK xs xs.length) (xs.getD j default).toNat) ∧
    a 1 = ints xs ∧ a 2 = .op 0 4 0 0 ∧ a 6 = .osl 1 1 0 n n true ∧ a 7 = .osl 2 1 0 n n true ∧ a 8 = .int .i64 M ∧ a 9 = .int .i64 i ∧ h = [patO n n st cs, Ob.arr 1 (List.map boolE S) true, Ob.arr 1 (List.map intE L) true]) n ⟨0, List.replicate n false, List.replicate n 0, 0, rfl, Nat.zero_le _, by simp, by simp, fun u hu => ?_, fun j hj => by omega, Int.le_refl _, .inl rfl, ?_⟩ ?_
  · rw [List.getD_eq_getElem?_getD, List.getElem?_replicate, if_pos hu]
    simp
  · simp (maxSteps := 4000000) only [↓packA0, ↓packA1, ↓packA2, ↓reduceIte, packB0, packB1, packB2, packB3, packB4, pureOp, quietOp, loadOp, quietB, fr0, cellsK, Option.getD_some, Option.getD_none, implies_true, ite_true, ite_false, eq_self, ne_eq, reduceCtorEq, Nat.reduceLT, Nat.reduceLeDiff, Nat.reduceAdd, Nat.reduceMul, Nat.reduceBEq, Nat.reduceEqDiff, Int.reduceToNat, Int.reduceLT, Int.reduceLE, Nat.reduceSub, pl87, tsize_3, tbytes_3, tagg_3, zcells_3, telem_3, tint_3, tnotIface_3, tsize_4, tbytes_4, tagg_4, zcells_4, telem_4, tbool_4, tnotIface_4, tsize_23, tbytes_23, tagg_23, zcells_23, telem_23, tnotIface_23, tsize_45, tbytes_45, tagg_45, zcells_45, telem_45, tnotIface_45, foff_45_0, foff_45_1, foff_45_2, foff_45_3, fplaces_45, tsize_52, tbytes_52, tagg_52, zcells_52, telem_52, tnotIface_52, ints, patO, Int.natCast_zero]
  rintro m a h ⟨i, S, L, M, rfl, hi, hS, hL, hSs, hLs, hM0, hMs, a1, a2, a6, a7, a8, a9, rfl⟩
  simp (maxSteps := 4000000) +contextual only [↓packA0, ↓packA1, ↓packA2, ↓reduceIte, packB0, packB1, packB2, packB3, packB4, pureOp, quietOp, loadOp, quietB, fr0, cellsK, Option.getD_some, Option.getD_none, implies_true, ite_true, ite_false, eq_self, ne_eq, reduceCtorEq, Nat.reduceLT, Nat.reduceLeDiff, Nat.reduceAdd, Nat.reduceMul, Nat.reduceBEq, Nat.reduceEqDiff, Int.reduceToNat, Int.reduceLT, Int.reduceLE, Nat.reduceSub, pl87, tsize_3, tbytes_3, tagg_3, zcells_3, telem_3, tint_3, tnotIface_3, tsize_4, tbytes_4, tagg_4, zcells_4, telem_4, tbool_4, tnotIface_4, tsize_23, tbytes_23, tagg_23, zcells_23, telem_23, tnotIface_23, tsize_45, tbytes_45, tagg_45, zcells_45, telem_45, tnotIface_45, foff_45_0, foff_45_1, foff_45_2, foff_45_3, fplaces_45, tsize_52, tbytes_52, tagg_52, zcells_52, telem_52, tnotIface_52, ints, patO, a1, a2, a6, a7, a8, a9]
  refine ⟨fun h2 => ?_, fun h2 => ?_⟩
  · have hin : i < n := by omega
    have hx0 := hord i (by omega)
    obtain ⟨v, hv⟩ := Int.eq_ofNat_of_zero_le hx0.1
    have hvn : v < n := by
      have := hx0.2.1
      omega
    have hcb := cnt_bk hg.1.1 hxl hord hin hv hSs
    simp only [hv, mk_eq]
    refine ⟨by omega, by omega, acalls_lend (among_c n st cs S hb hb2 hg.1.1 hn v hvn hS) ?_ rfl ?_⟩
    · exact .cons (.pure _ rfl) (.cons (.pure _ rfl) (.cons (frz_bools (l := S) rfl hS) .nil))
    rw [hcb]
    have hgs : ∀ z, (L.set v z).getD v default = z := fun z => by simp [List.getD_eq_getElem?_getD, List.getElem?_set_self (show v < L.length by omega)]
    simp (maxSteps := 4000000) +contextual only [↓packA0, ↓packA1, ↓packA2, ↓reduceIte, packB0, packB1, packB2, packB3, packB4, pureOp, quietOp, loadOp, quietB, fr0, cellsK, Option.getD_some, Option.getD_none, implies_true, ite_true, ite_false, eq_self, ne_eq, reduceCtorEq, Nat.reduceLT, Nat.reduceLeDiff, Nat.reduceAdd, Nat.reduceMul, Nat.reduceBEq, Nat.reduceEqDiff, Int.reduceToNat, Int.reduceLT, Int.reduceLE, Nat.reduceSub, pl87, tsize_3, tbytes_3, tagg_3, zcells_3, telem_3, tint_3, tnotIface_3, tsize_4, tbytes_4, tagg_4, zcells_4, telem_4, tbool_4, tnotIface_4, tsize_23, tbytes_23, tagg_23, zcells_23, telem_23, tnotIface_23, tsize_45, tbytes_45, tagg_45, zcells_45, telem_45, tnotIface_45, foff_45_0, foff_45_1, foff_45_2, foff_45_3, fplaces_45, tsize_52, tbytes_52, tagg_52, zcells_52, telem_52, tnotIface_52, ints, patO, a1, a2, a6, a7, a8, a9, hv, hgs]
    have hnj : ∀ j, j < i → (xs.getD j default).toNat ≠ v := fun j hj => by
      have h3 := hx0.2.2 j hj
      have h4 := (hord j (by omega)).1
      omega
    have fin1 : ∀ u : Nat, u < n → ((S.set v true).getD u false = true ↔ ∃ j, j < i + 1 ∧ xs.getD j default = u) := fun u hu => by
      by_cases c : v = u
      · subst c
        simp only [List.getD_eq_getElem?_getD, List.getElem?_set_self (show v < S.length by omega)]
        simp only [Option.getD_some, true_iff]
        exact ⟨i, by omega, by rw [← List.getD_eq_getElem?_getD]; exact hv⟩
      · simp only [List.getD_eq_getElem?_getD, List.getElem?_set_ne c]
        rw [← List.getD_eq_getElem?_getD, hSs u hu]
        constructor
        · rintro ⟨j, h3, h4⟩; exact ⟨j, by omega, by rw [← List.getD_eq_getElem?_getD]; exact h4⟩
        · rintro ⟨j, h3, h4⟩
          rw [← List.getD_eq_getElem?_getD] at h4
          refine ⟨j, ?_, h4⟩
          rcases Nat.lt_or_ge j i with h5 | h5
          · exact h5
          · rw [show j = i by omega] at h4; omega
    have fin2 : ∀ M' : Int, M ≤ M' → (bk st cs (invK xs xs.length) v : Int) ≤ M' → ∀ j, j < i + 1 → (L.set v (bk st cs (invK xs xs.length) v : Int)).getD (xs.getD j default).toNat default = bk st cs (invK xs xs.length) (xs.getD j default).toNat ∧ (L.set v (bk st cs (invK xs xs.length) v : Int)).getD (xs.getD j default).toNat default ≤ M' := fun M' h3 h4 j hj => by
      rcases Nat.lt_or_ge j i with h5 | h5
      · rw [getD_set_ne (Ne.symm (hnj j h5))]
        have := hLs j h5
        exact ⟨this.1, by omega⟩
      · rw [show j = i by omega, hv, Int.toNat_natCast, hgs]
        exact ⟨rfl, h4⟩
    refine ⟨by omega, by omega, by omega, by omega, fun h3 => ?_, fun h3 => ?_⟩
    · exact ⟨by omega, by omega, by omega, by omega, by omega, .inl ⟨n - (i + 1), by omega, i + 1, S.set v true, L.set v (bk st cs (invK xs xs.length) v : Int), _, rfl, by omega, by simp [hS], by simp [hL], fin1, fin2 _ (by omega) (Int.le_refl _), by omega, .inr ⟨i, by omega, by rw [hv, Int.toNat_natCast]⟩, rfl, by omega, rfl⟩⟩
    · exact ⟨by omega, by omega, by omega, .inl ⟨n - (i + 1), by omega, i + 1, S.set v true, L.set v (bk st cs (invK xs xs.length) v : Int), M, rfl, by omega, by simp [hS], by simp [hL], fin1, fin2 _ (Int.le_refl _) (by omega), hM0, hMs.imp_right fun ⟨j, h4, h5⟩ => ⟨j, by omega, h5⟩, rfl, by omega, rfl⟩⟩
  · obtain rfl : i = n := by omega
    have hon : ∀ u, u < i → ∃ j, j < i ∧ xs.getD j default = (u : Nat) := fun u hu => by
      obtain ⟨j, h3, h4⟩ := ord_onto hord (show u < xs.length by omega)
      exact ⟨j, by omega, h4⟩
    have hLe : L = bkL st cs (invK xs xs.length) i := list_ext_getD (by rw [hL, bkL_len]) fun u hu => by
      obtain ⟨j, h3, h4⟩ := hon u (by omega)
      have h5 := (hLs j h3).1
      rw [h4, Int.toNat_natCast] at h5
      rw [h5, bkL_get (by omega)]
    have hMe : mxK (bkL st cs (invK xs xs.length) i) i = M := mxK_uniq hM0 (fun u hu => by
      obtain ⟨j, h3, h4⟩ := hon u hu
      have h5 := (hLs j h3).2
      rw [h4, Int.toNat_natCast] at h5
      rw [← hLe]; exact h5) (hMs.imp_right fun ⟨j, h3, h4⟩ => by
      have h5 := hord j (by omega)
      exact ⟨(xs.getD j default).toNat, by have := h5.1; have := h5.2.1; omega, by rw [bkL_get (by have := h5.1; have := h5.2.1; omega)]; exact h4⟩)
    rw [hMe, ← hLe]
    exact ⟨rfl, rfl⟩
set_option maxRecDepth 100000 in
theorem rback_c (rows width : Int) (st cs xs : List Int) (hb : st.length < 1000000000) (hb2 : cs.length < 1000000000) (hbx : xs.length < 1000000000) : ACalls Try.prog 55 [pat rows width st cs, ints xs] [] fun v h => OFz h v (backV rows width st cs xs) := by
  refine (wp55 rfl rfl ?_)
  simp (maxSteps := 4000000) +contextual only [↓packA0, ↓packA1, ↓packA2, ↓reduceIte, packB0, packB1, packB2, packB3, packB4, pureOp, quietOp, loadOp, quietB, fr0, cellsK, Option.getD_some, Option.getD_none, implies_true, ite_true, ite_false, eq_self, ne_eq, reduceCtorEq, Nat.reduceLT, Nat.reduceLeDiff, Nat.reduceAdd, Nat.reduceMul, Nat.reduceBEq, Nat.reduceEqDiff, Int.reduceToNat, Int.reduceLT, Int.reduceLE, Nat.reduceSub, pl55, tsize_3, tbytes_3, tagg_3, zcells_3, telem_3, tint_3, tnotIface_3, tsize_4, tbytes_4, tagg_4, zcells_4, telem_4, tbool_4, tnotIface_4, tsize_23, tbytes_23, tagg_23, zcells_23, telem_23, tnotIface_23, tsize_45, tbytes_45, tagg_45, zcells_45, telem_45, tnotIface_45, foff_45_0, foff_45_1, foff_45_2, foff_45_3, fplaces_45, ints]
  refine acalls_pure (rgraph_c rows width st cs hb hb2) rfl ?_
  simp (maxSteps := 4000000) +contextual only [↓packA0, ↓packA1, ↓packA2, ↓reduceIte, packB0, packB1, packB2, packB3, packB4, pureOp, quietOp, loadOp, quietB, fr0, cellsK, Option.getD_some, Option.getD_none, implies_true, ite_true, ite_false, eq_self, ne_eq, reduceCtorEq, Nat.reduceLT, Nat.reduceLeDiff, Nat.reduceAdd, Nat.reduceMul, Nat.reduceBEq, Nat.reduceEqDiff, Int.reduceToNat, Int.reduceLT, Int.reduceLE, Nat.reduceSub, pl55, tsize_3, tbytes_3, tagg_3, zcells_3, telem_3, tint_3, tnotIface_3, tsize_4, tbytes_4, tagg_4, zcells_4, telem_4, tbool_4, tnotIface_4, tsize_23, tbytes_23, tagg_23, zcells_23, telem_23, tnotIface_23, tsize_45, tbytes_45, tagg_45, zcells_45, telem_45, tnotIface_45, foff_45_0, foff_45_1, foff_45_2, foff_45_3, fplaces_45, ints]
  refine ⟨fun hg => ?_, fun hg => ?_⟩
  rotate_left
  · rw [show backV rows width st cs xs = .tup [.int .i64 0, ints [], .int .i64 220] from if_neg hg]
    exact .three (.flat _ rfl) (.nils 1) (.flat _ rfl)
  obtain ⟨n, rfl, rfl, hn⟩ := graph_sides hg
  refine acalls_pure (checkr_c n xs) rfl ?_
  simp (maxSteps := 4000000) +contextual only [↓packA0, ↓packA1, ↓packA2, ↓reduceIte, packB0, packB1, packB2, packB3, packB4, pureOp, quietOp, loadOp, quietB, fr0, cellsK, Option.getD_some, Option.getD_none, implies_true, ite_true, ite_false, eq_self, ne_eq, reduceCtorEq, Nat.reduceLT, Nat.reduceLeDiff, Nat.reduceAdd, Nat.reduceMul, Nat.reduceBEq, Nat.reduceEqDiff, Int.reduceToNat, Int.reduceLT, Int.reduceLE, Nat.reduceSub, pl55, tsize_3, tbytes_3, tagg_3, zcells_3, telem_3, tint_3, tnotIface_3, tsize_4, tbytes_4, tagg_4, zcells_4, telem_4, tbool_4, tnotIface_4, tsize_23, tbytes_23, tagg_23, zcells_23, telem_23, tnotIface_23, tsize_45, tbytes_45, tagg_45, zcells_45, telem_45, tnotIface_45, foff_45_0, foff_45_1, foff_45_2, foff_45_3, fplaces_45, ints]
  refine ⟨fun h1 => ?_, fun h1 => ?_⟩
  · rw [show backV n n st cs xs = .tup [.int .i64 0, ints [], .int .i64 182] from (if_pos hg).trans (if_neg h1)]
    exact .three (.flat _ rfl) (.nils 1) (.flat _ rfl)
  obtain ⟨_, _, hxl, hord⟩ := checkR_zero h1
  rw [← hxl] at hord
  have hinv : invR xs = invK xs xs.length := (invR_ok (by rw [hxl]; exact h1)).1
  have hbv : backV n n st cs xs = .tup [.int .i64 (mxK (bkL st cs (invK xs xs.length) n) n), ints (bkL st cs (invK xs xs.length) n), .int .i64 0] := (if_pos hg).trans ((if_pos h1).trans (by rw [Int.toNat_natCast, hinv]))
  rw [hbv]
  refine acalls_shift (backof_c n st cs xs hb hb2 hg hn (by omega) hord) (by simp [pures, AV.pure, ints]) ?_
  rintro u h0 ⟨rfl, hz⟩
  generalize hh : ([Ob.arr 4 [[.int .i64 (n : Int), .int .i64 (n : Int), .isl 1 (List.map intE st), .isl 1 (List.map intE cs)]] true] : Heap) = hp
  have key : (behind hp h0)[2 + hp.length]? = some (.arr 1 (List.map intE (bkL st cs (invK xs xs.length) n)) true) := by
    rw [behind_eq, List.getElem?_append_right (by omega), Nat.add_sub_cancel, List.getElem?_map, hz]
    simp [ren_intEs]
  generalize behind hp h0 = G at *
  simp (maxSteps := 4000000) +contextual only [↓packA0, ↓packA1, ↓packA2, ↓reduceIte, packB0, packB1, packB2, packB3, packB4, pureOp, quietOp, loadOp, quietB, fr0, cellsK, Option.getD_some, Option.getD_none, implies_true, ite_true, ite_false, eq_self, ne_eq, reduceCtorEq, Nat.reduceLT, Nat.reduceLeDiff, Nat.reduceAdd, Nat.reduceMul, Nat.reduceBEq, Nat.reduceEqDiff, Int.reduceToNat, Int.reduceLT, Int.reduceLE, Nat.reduceSub, pl55, tsize_3, tbytes_3, tagg_3, zcells_3, telem_3, tint_3, tnotIface_3, tsize_4, tbytes_4, tagg_4, zcells_4, telem_4, tbool_4, tnotIface_4, tsize_23, tbytes_23, tagg_23, zcells_23, telem_23, tnotIface_23, tsize_45, tbytes_45, tagg_45, zcells_45, telem_45, tnotIface_45, foff_45_0, foff_45_1, foff_45_2, foff_45_3, fplaces_45, ints]
  exact .three (.flat _ rfl) (ofz_ints (l := bkL st cs (invK xs xs.length) n) key bkL_len.symm) (.flat _ rfl)
end Go.Proofs.Ytgdlkhgfehclpaa
end

section
/- Cores: what the numbers that taking away gives mean. No condition. -/
namespace Go.Proofs.Ytgdlkhgfehclpaa
open Go Go.AL
set_option linter.unusedVariables false
set_option linter.unusedSimpArgs false
theorem getB_set {S : List Bool} {v u : Nat} (hv : v < S.length) : (S.set v false).getD u false = (if u = v then false else S.getD u false) := by
  by_cases e : u = v
  · subst e; rw [if_pos rfl]; simp [List.getD_eq_getElem?_getD, List.getElem?_set_self hv]
  · rw [if_neg e]; simp only [List.getD_eq_getElem?_getD, List.getElem?_set_ne (Ne.symm e)]
theorem cnt_mono {st cs : List Int} {n : Nat} (hm : mayP n n st cs) {S T : List Bool} {v : Nat} (hv : v < n) (h : ∀ u, u < n → S.getD u false = true → T.getD u false = true) : cnt st cs S v ≤ cnt st cs T v := by
  have q4 := (may_row hm (show v < (n : Int).toNat by omega)).2.2.2.1
  unfold cnt
  have key : ∀ l : List Int, (∀ w ∈ l, S.getD w.toNat false = true → T.getD w.toNat false = true) → (l.filter (fun w => S.getD w.toNat false)).length ≤ (l.filter (fun w => T.getD w.toNat false)).length := by
    intro l
    induction l with
    | nil => intro _; exact Nat.le_refl _
    | cons x l ih =>
      intro hl
      have ih' := ih (fun w hw => hl w (List.mem_cons_of_mem _ hw))
      rw [List.filter_cons, List.filter_cons]
      by_cases hs : S.getD x.toNat false = true
      · rw [if_pos hs, if_pos (hl x List.mem_cons_self hs)]
        simp only [List.length_cons]; omega
      · rw [if_neg hs]
        split
        · simp only [List.length_cons]; omega
        · exact ih'
  refine key _ fun w hw => ?_
  obtain ⟨i, hi, e⟩ := mem_getD.1 hw
  have h1 := row_nonneg q4 hi
  have h2 := (q4 i hi).2
  exact h w.toNat (by omega)
theorem cnt_congr {st cs : List Int} {n : Nat} (hm : mayP n n st cs) {S T : List Bool} {v : Nat} (hv : v < n) (h : ∀ u, u < n → (S.getD u false = true ↔ T.getD u false = true)) : cnt st cs S v = cnt st cs T v :=
  Nat.le_antisymm (cnt_mono hm hv fun u hu => (h u hu).1) (cnt_mono hm hv fun u hu => (h u hu).2)
/-- There is always one to take away. -/
theorem pst_best (st cs : List Int) {n k : Nat} (hk : k < n) : ∃ v, Best st cs (pst st cs n k).S n v := by
  obtain ⟨u, hu, hs⟩ := trues_pos (S := (pst st cs n k).S) (by rw [pst_trues st cs n k (by omega)]; omega)
  rw [(pst_len st cs n k).1] at hu
  cases hb : bestB st cs (pst st cs n k).S n with
  | none =>
    have := best_none hb u hu
    rw [hs] at this; cases this
  | some v => exact ⟨v, best_some hb⟩
theorem pst_end (st cs : List Int) (n : Nat) : ∀ u, u < n → (pst st cs n n).S.getD u false = false := fun u hu => by
  have h := pst_trues st cs n n (Nat.le_refl _)
  cases hs : (pst st cs n n).S.getD u false with
  | false => rfl
  | true =>
    have := trues_set hs
    omega
theorem getI_set {C : List Int} {v u : Nat} {z : Int} (hv : v < C.length) : (C.set v z).getD u default = (if u = v then z else C.getD u default) := by
  by_cases e : u = v
  · subst e; rw [if_pos rfl]; simp [List.getD_eq_getElem?_getD, List.getElem?_set_self hv]
  · rw [if_neg e]; exact getD_set_ne (Ne.symm e)
/-- Whoever is in a set in which each has at least q neighbours has a core of at least q. -/
theorem core_ge {st cs : List Int} {n : Nat} (hm : mayP n n st cs) {T : List Bool} {q : Nat} (hT : ∀ u, u < n → T.getD u false = true → q ≤ cnt st cs T u) : ∀ u, u < n → T.getD u false = true → (q : Int) ≤ (coresOf st cs n).getD u default := by
  have key : ∀ k, k ≤ n → ((∀ u, u < n → T.getD u false = true → (pst st cs n k).S.getD u false = true) ∨ q ≤ (pst st cs n k).c) ∧ ∀ u, u < n → T.getD u false = true → (pst st cs n k).S.getD u false = false → (q : Int) ≤ (pst st cs n k).C.getD u default := by
    intro k
    induction k with
    | zero =>
      intro _
      refine ⟨.inl fun u hu _ => ?_, fun u hu _ h => ?_⟩
      · simp [pst, List.getD_eq_getElem?_getD, List.getElem?_replicate, hu]
      · simp [pst, List.getD_eq_getElem?_getD, List.getElem?_replicate, hu] at h
    | succ k ih =>
      intro hk
      obtain ⟨ih1, ih2⟩ := ih (by omega)
      obtain ⟨v, hb⟩ := pst_best st cs (show k < n by omega)
      have hl := pst_len st cs n k
      have hge : T.getD v false = true → q ≤ max (pst st cs n k).c (cnt st cs (pst st cs n k).S v) := fun hv => by
        rcases ih1 with h1 | h1
        · have h2 := hT v hb.1 hv
          have h3 := cnt_mono hm hb.1 h1
          omega
        · omega
      rw [pst_step hb]
      refine ⟨?_, fun u hu ht hs => ?_⟩
      · by_cases hv : T.getD v false = true
        · exact .inr (hge hv)
        · rcases ih1 with h1 | h1
          · refine .inl fun u hu ht => ?_
            simp only
            rw [getB_set (by rw [hl.1]; exact hb.1), if_neg (show ¬ u = v from fun e => hv (by rw [← e]; exact ht))]
            exact h1 u hu ht
          · right
            simp only
            omega
      · simp only at hs ⊢
        rw [getB_set (by rw [hl.1]; exact hb.1)] at hs
        rw [getI_set (by rw [hl.2.2]; exact hb.1)]
        by_cases e : u = v
        · subst e
          rw [if_pos rfl]
          have := hge ht
          omega
        · rw [if_neg e] at hs ⊢
          exact ih2 u hu ht hs
  intro u hu ht
  exact (key n (Nat.le_refl _)).2 u hu ht (pst_end st cs n u hu)
/-- Those with a core of at least q have each at least q neighbours among them. -/
theorem core_le {st cs : List Int} {n : Nat} (hm : mayP n n st cs) {H : List Bool} {q : Nat} (hH : ∀ u, u < n → (H.getD u false = true ↔ (q : Int) ≤ (coresOf st cs n).getD u default)) : ∀ u, u < n → H.getD u false = true → q ≤ cnt st cs H u := by
  have key : ∀ k, k ≤ n → ((pst st cs n k).c < q ∧ ∀ u, u < n → (pst st cs n k).S.getD u false = false → (pst st cs n k).C.getD u default < q) ∨ (∃ T : List Bool, q ≤ (pst st cs n k).c ∧ (∀ u, u < n → T.getD u false = true → q ≤ cnt st cs T u) ∧ (∀ u, u < n → (pst st cs n k).S.getD u false = true → T.getD u false = true) ∧ ∀ u, u < n → (pst st cs n k).S.getD u false = false → (T.getD u false = true ↔ (q : Int) ≤ (pst st cs n k).C.getD u default)) := by
    intro k
    induction k with
    | zero =>
      intro _
      rcases Nat.eq_zero_or_pos q with h0 | h0
      · subst h0
        refine .inr ⟨List.replicate n true, Nat.zero_le _, fun u _ _ => Nat.zero_le _, fun u hu h => h, fun u hu h => ?_⟩
        simp [pst, List.getD_eq_getElem?_getD, List.getElem?_replicate, hu] at h
      · refine .inl ⟨h0, fun u hu h => ?_⟩
        simp [pst, List.getD_eq_getElem?_getD, List.getElem?_replicate, hu] at h
    | succ k ih =>
      intro hk
      obtain ⟨v, hb⟩ := pst_best st cs (show k < n by omega)
      have hl := pst_len st cs n k
      rw [pst_step hb]
      simp only
      rcases ih (by omega) with ⟨h1, h2⟩ | ⟨T, h1, h2, h3, h4⟩
      · rcases Nat.lt_or_ge (cnt st cs (pst st cs n k).S v) q with h5 | h5
        · refine .inl ⟨by omega, fun u hu hs => ?_⟩
          rw [getB_set (by rw [hl.1]; exact hb.1)] at hs
          rw [getI_set (by rw [hl.2.2]; exact hb.1)]
          by_cases e : u = v
          · rw [if_pos e]; omega
          · rw [if_neg e] at hs ⊢; exact h2 u hu hs
        · refine .inr ⟨(pst st cs n k).S, by omega, fun u hu hs => ?_, fun u hu hs => ?_, fun u hu hs => ?_⟩
          · have := (hb.2.2 u hu hs).1
            omega
          · rw [getB_set (by rw [hl.1]; exact hb.1)] at hs
            by_cases e : u = v
            · rw [if_pos e] at hs; cases hs
            · rw [if_neg e] at hs; exact hs
          · rw [getB_set (by rw [hl.1]; exact hb.1)] at hs
            rw [getI_set (by rw [hl.2.2]; exact hb.1)]
            by_cases e : u = v
            · subst e
              rw [if_pos rfl]
              exact ⟨fun _ => by omega, fun _ => hb.2.1⟩
            · rw [if_neg e] at hs ⊢
              rw [hs]
              have := h2 u hu hs
              exact ⟨fun h => (by cases h), fun h => (by omega)⟩
      · refine .inr ⟨T, by omega, h2, fun u hu hs => ?_, fun u hu hs => ?_⟩
        · rw [getB_set (by rw [hl.1]; exact hb.1)] at hs
          by_cases e : u = v
          · rw [if_pos e] at hs; cases hs
          · rw [if_neg e] at hs; exact h3 u hu hs
        · rw [getB_set (by rw [hl.1]; exact hb.1)] at hs
          rw [getI_set (by rw [hl.2.2]; exact hb.1)]
          by_cases e : u = v
          · subst e
            rw [if_pos rfl]
            exact ⟨fun _ => by omega, fun _ => h3 u hu hb.2.1⟩
          · rw [if_neg e] at hs ⊢; exact h4 u hu hs
  intro u hu hh
  rcases key n (Nat.le_refl _) with ⟨h1, h2⟩ | ⟨T, h1, h2, h3, h4⟩
  · have h5 := h2 u hu (pst_end st cs n u hu)
    have h6 := (hH u hu).1 hh
    unfold coresOf at h6
    omega
  · have hTH : ∀ w, w < n → (T.getD w false = true ↔ H.getD w false = true) := fun w hw => by
      rw [h4 w hw (pst_end st cs n w hw), hH w hw]
      rfl
    rw [← cnt_congr hm hu hTH]
    exact h2 u hu ((hTH u hu).2 hh)
end Go.Proofs.Ytgdlkhgfehclpaa
end

section
/- Cores, the document's. No condition. -/
namespace Go.Proofs.Ytgdlkhgfehclpaa
open Go Go.AL
set_option linter.unusedVariables false
set_option linter.unusedSimpArgs false
theorem boolL_ext {xs ys : List Bool} (hl : xs.length = ys.length) (h : ∀ j, j < xs.length → xs.getD j false = ys.getD j false) : xs = ys := by
  apply List.ext_getElem hl
  intro i h1 h2
  have := h i h1
  simpa [List.getD_eq_getElem?_getD, List.getElem?_eq_getElem h1, List.getElem?_eq_getElem h2] using this
theorem getB_setT {S : List Bool} {v u : Nat} (hv : v < S.length) : (S.set v true).getD u false = (if u = v then true else S.getD u false) := by
  by_cases e : u = v
  · subst e; rw [if_pos rfl]; simp [List.getD_eq_getElem?_getD, List.getElem?_set_self hv]
  · rw [if_neg e]; simp only [List.getD_eq_getElem?_getD, List.getElem?_set_ne (Ne.symm e)]
theorem ofz_bools {h : Heap} {id len cap : Nat} {ex ex' : Bool} {l : List Bool} (hid : h[id]? = some (.arr 1 (List.map boolE l) ex')) (hl : len = l.length) : OFz h (.osl id 1 0 len cap ex) (bools l) := by
  have := OFz.osl (h := h) id 1 0 len cap ex ex' (List.map boolE l) hid (by simp; omega) (fun e he => by
    obtain ⟨x, _, rfl⟩ := List.mem_map.1 he; rfl)
  rw [List.drop_zero, List.take_of_length_le (by simp; omega)] at this
  exact this
set_option maxRecDepth 100000 in
theorem full_c (n : Nat) (hn : n ≤ 128) : ACalls Try.prog 92 [.int .i64 n] [] fun v h => v = .osl 0 1 0 n n true ∧ h = [Ob.arr 1 (List.map boolE (List.replicate n true)) true] := by
  refine (wp92 rfl rfl ?_)
  simp (maxSteps := 4000000) +contextual only [↓packA0, ↓packA1, ↓packA2, ↓reduceIte, packB0, packB1, packB2, packB3, packB4, pureOp, quietOp, loadOp, quietB, fr0, cellsK, Option.getD_some, Option.getD_none, implies_true, ite_true, ite_false, eq_self, ne_eq, reduceCtorEq, Nat.reduceLT, Nat.reduceLeDiff, Nat.reduceAdd, Nat.reduceMul, Nat.reduceBEq, Nat.reduceEqDiff, Int.reduceToNat, Int.reduceLT, Int.reduceLE, Nat.reduceSub, pl92, tsize_3, tbytes_3, tagg_3, zcells_3, telem_3, tint_3, tnotIface_3, tsize_4, tbytes_4, tagg_4, zcells_4, telem_4, tbool_4, tnotIface_4, tsize_52, tbytes_52, tagg_52, zcells_52, telem_52, tnotIface_52]
  refine ⟨by omega, ?_⟩
  refine LoopK.intro (fun m a h => ∃ (k : Nat) (S : List Bool), m = n - k ∧ k ≤ n ∧ S.length = n ∧ (∀ u, u < k → S.getD u false = true) ∧ a 0 = .int .i64 n ∧ a 3 = .osl 0 1 0 n n true ∧ a 4 = .int .i64 k ∧ h = [Ob.arr 1 (List.map boolE S) true]) n ⟨0, List.replicate n false, rfl, Nat.zero_le _, by simp, fun u hu => by omega, ?_⟩ ?_
  · simp (maxSteps := 4000000) only [↓packA0, ↓packA1, ↓packA2, ↓reduceIte, packB0, packB1, packB2, packB3, packB4, pureOp, quietOp, loadOp, quietB, fr0, cellsK, Option.getD_some, Option.getD_none, implies_true, ite_true, ite_false, eq_self, ne_eq, reduceCtorEq, Nat.reduceLT, Nat.reduceLeDiff, Nat.reduceAdd, Nat.reduceMul, Nat.reduceBEq, Nat.reduceEqDiff, Int.reduceToNat, Int.reduceLT, Int.reduceLE, Nat.reduceSub, pl92, tsize_3, tbytes_3, tagg_3, zcells_3, telem_3, tint_3, tnotIface_3, tsize_4, tbytes_4, tagg_4, zcells_4, telem_4, tbool_4, tnotIface_4, tsize_52, tbytes_52, tagg_52, zcells_52, telem_52, tnotIface_52, Int.natCast_zero]
  rintro m a h ⟨k, S, rfl, hk, hS, hlo, a0, a3, a4, rfl⟩
  simp (maxSteps := 4000000) +contextual only [↓packA0, ↓packA1, ↓packA2, ↓reduceIte, packB0, packB1, packB2, packB3, packB4, pureOp, quietOp, loadOp, quietB, fr0, cellsK, Option.getD_some, Option.getD_none, implies_true, ite_true, ite_false, eq_self, ne_eq, reduceCtorEq, Nat.reduceLT, Nat.reduceLeDiff, Nat.reduceAdd, Nat.reduceMul, Nat.reduceBEq, Nat.reduceEqDiff, Int.reduceToNat, Int.reduceLT, Int.reduceLE, Nat.reduceSub, pl92, tsize_3, tbytes_3, tagg_3, zcells_3, telem_3, tint_3, tnotIface_3, tsize_4, tbytes_4, tagg_4, zcells_4, telem_4, tbool_4, tnotIface_4, tsize_52, tbytes_52, tagg_52, zcells_52, telem_52, tnotIface_52, a0, a3, a4]
  refine ⟨fun h2 => ⟨by omega, by omega, by omega, .inl ⟨n - (k + 1), by omega, k + 1, S.set k true, rfl, by omega, by simp [hS], fun u hu => ?_, by omega, rfl⟩⟩, fun h2 => ?_⟩
  · rw [getB_setT (by omega)]
    split
    · rfl
    · exact hlo u (by omega)
  · obtain rfl : k = n := by omega
    rw [show S = List.replicate k true from boolL_ext (by simp [hS]) fun j hj => by rw [hlo j (by omega)]; simp [List.getD_eq_getElem?_getD, List.getElem?_replicate, show j < k by omega]]
def coreH (st cs : List Int) (n q : Nat) : List Bool := (List.range n).map fun u => decide ((q : Int) ≤ (coresOf st cs n).getD u default)
theorem coreH_len {st cs : List Int} {n q : Nat} : (coreH st cs n q).length = n := by simp [coreH]
theorem coreH_get {st cs : List Int} {n q u : Nat} (h : u < n) : ((coreH st cs n q).getD u false = true ↔ (q : Int) ≤ (coresOf st cs n).getD u default) := by
  simp [coreH, List.getD_eq_getElem?_getD, List.getElem?_map, List.getElem?_range h]
set_option maxHeartbeats 4000000 in
set_option maxRecDepth 100000 in
theorem rcore_c (n : Nat) (st cs : List Int) (q : Nat) (hb : st.length < 1000000000) (hb2 : cs.length < 1000000000) (hm : mayP n n st cs) (hn : n ≤ 128) : ACalls Try.prog 72 [pat n n st cs, .int .i64 q] [] fun v h => OFz h v (bools (coreH st cs n q)) := by
  refine (wp72 rfl rfl ?_)
  simp (maxSteps := 4000000) +contextual only [↓packA0, ↓packA1, ↓packA2, ↓reduceIte, packB0, packB1, packB2, packB3, packB4, pureOp, quietOp, loadOp, quietB, fr0, cellsK, Option.getD_some, Option.getD_none, implies_true, ite_true, ite_false, eq_self, ne_eq, reduceCtorEq, Nat.reduceLT, Nat.reduceLeDiff, Nat.reduceAdd, Nat.reduceMul, Nat.reduceBEq, Nat.reduceEqDiff, Int.reduceToNat, Int.reduceLT, Int.reduceLE, Nat.reduceSub, pl72, tsize_3, tbytes_3, tagg_3, zcells_3, telem_3, tint_3, tnotIface_3, tsize_4, tbytes_4, tagg_4, zcells_4, telem_4, tbool_4, tnotIface_4, tsize_23, tbytes_23, tagg_23, zcells_23, telem_23, tnotIface_23, tsize_45, tbytes_45, tagg_45, zcells_45, telem_45, tnotIface_45, foff_45_0, foff_45_1, foff_45_2, foff_45_3, fplaces_45, tsize_52, tbytes_52, tagg_52, zcells_52, telem_52, tnotIface_52, ints]
  refine acalls_shift (full_c n hn) rfl ?_
  rintro u h0 ⟨rfl, rfl⟩
  simp (maxSteps := 4000000) +contextual only [↓packA0, ↓packA1, ↓packA2, ↓reduceIte, packB0, packB1, packB2, packB3, packB4, pureOp, quietOp, loadOp, quietB, fr0, cellsK, Option.getD_some, Option.getD_none, implies_true, ite_true, ite_false, eq_self, ne_eq, reduceCtorEq, Nat.reduceLT, Nat.reduceLeDiff, Nat.reduceAdd, Nat.reduceMul, Nat.reduceBEq, Nat.reduceEqDiff, Int.reduceToNat, Int.reduceLT, Int.reduceLE, Nat.reduceSub, pl72, tsize_3, tbytes_3, tagg_3, zcells_3, telem_3, tint_3, tnotIface_3, tsize_4, tbytes_4, tagg_4, zcells_4, telem_4, tbool_4, tnotIface_4, tsize_23, tbytes_23, tagg_23, zcells_23, telem_23, tnotIface_23, tsize_45, tbytes_45, tagg_45, zcells_45, telem_45, tnotIface_45, foff_45_0, foff_45_1, foff_45_2, foff_45_3, fplaces_45, tsize_52, tbytes_52, tagg_52, zcells_52, telem_52, tnotIface_52, ints]
  refine LoopK.intro (fun m a h => ∃ (S : List Bool) (b : Bool), m = 2 * trues S + (if b = true then 1 else 0) ∧ S.length = n ∧ (∀ u, u < n → (coreH st cs n q).getD u false = true → S.getD u false = true) ∧ (b = false → ∀ u, u < n → S.getD u false = true → q ≤ cnt st cs S u) ∧ a 1 = .int .i64 q ∧ a 2 = .op 0 4 0 0 ∧ a 5 = .osl 1 1 0 n n true ∧ a 6 = .bool b ∧ h = [patO n n st cs, Ob.arr 1 (List.map boolE S) true]) (2 * trues (List.replicate n true) + 1) ⟨List.replicate n true, true, rfl, by simp, fun u hu _ => by simp [List.getD_eq_getElem?_getD, List.getElem?_replicate, hu], fun h => (by cases h), ?_⟩ ?_
  · simp (maxSteps := 4000000) only [↓packA0, ↓packA1, ↓packA2, ↓reduceIte, packB0, packB1, packB2, packB3, packB4, pureOp, quietOp, loadOp, quietB, fr0, cellsK, Option.getD_some, Option.getD_none, implies_true, ite_true, ite_false, eq_self, ne_eq, reduceCtorEq, Nat.reduceLT, Nat.reduceLeDiff, Nat.reduceAdd, Nat.reduceMul, Nat.reduceBEq, Nat.reduceEqDiff, Int.reduceToNat, Int.reduceLT, Int.reduceLE, Nat.reduceSub, pl72, tsize_3, tbytes_3, tagg_3, zcells_3, telem_3, tint_3, tnotIface_3, tsize_4, tbytes_4, tagg_4, zcells_4, telem_4, tbool_4, tnotIface_4, tsize_23, tbytes_23, tagg_23, zcells_23, telem_23, tnotIface_23, tsize_45, tbytes_45, tagg_45, zcells_45, telem_45, tnotIface_45, foff_45_0, foff_45_1, foff_45_2, foff_45_3, fplaces_45, tsize_52, tbytes_52, tagg_52, zcells_52, telem_52, tnotIface_52, ints, patO]
  rintro m a h ⟨S, b, rfl, hS, hH, hcl, a1, a2, a5, a6, rfl⟩
  cases b with
  | false =>
    simp (maxSteps := 4000000) +contextual only [↓packA0, ↓packA1, ↓packA2, ↓reduceIte, packB0, packB1, packB2, packB3, packB4, pureOp, quietOp, loadOp, quietB, fr0, cellsK, Option.getD_some, Option.getD_none, implies_true, ite_true, ite_false, eq_self, ne_eq, reduceCtorEq, Nat.reduceLT, Nat.reduceLeDiff, Nat.reduceAdd, Nat.reduceMul, Nat.reduceBEq, Nat.reduceEqDiff, Int.reduceToNat, Int.reduceLT, Int.reduceLE, Nat.reduceSub, pl72, tsize_3, tbytes_3, tagg_3, zcells_3, telem_3, tint_3, tnotIface_3, tsize_4, tbytes_4, tagg_4, zcells_4, telem_4, tbool_4, tnotIface_4, tsize_23, tbytes_23, tagg_23, zcells_23, telem_23, tnotIface_23, tsize_45, tbytes_45, tagg_45, zcells_45, telem_45, tnotIface_45, foff_45_0, foff_45_1, foff_45_2, foff_45_3, fplaces_45, tsize_52, tbytes_52, tagg_52, zcells_52, telem_52, tnotIface_52, ints, patO, a1, a2, a5, a6]
    have hSe : S = coreH st cs n q := boolL_ext (by rw [hS, coreH_len]) fun j hj => by
      have h1 := hH j (by omega)
      have h2 := core_ge hm (hcl rfl) j (by omega)
      rw [← coreH_get (by omega)] at h2
      cases hs : S.getD j false <;> cases hc : (coreH st cs n q).getD j false
      · rfl
      · rw [h1 hc] at hs; cases hs
      · rw [h2 hs] at hc; cases hc
      · rfl
    rw [← hSe]
    exact ofz_bools rfl hS.symm
  | true =>
    simp (maxSteps := 4000000) +contextual only [↓packA0, ↓packA1, ↓packA2, ↓reduceIte, packB0, packB1, packB2, packB3, packB4, pureOp, quietOp, loadOp, quietB, fr0, cellsK, Option.getD_some, Option.getD_none, implies_true, ite_true, ite_false, eq_self, ne_eq, reduceCtorEq, Nat.reduceLT, Nat.reduceLeDiff, Nat.reduceAdd, Nat.reduceMul, Nat.reduceBEq, Nat.reduceEqDiff, Int.reduceToNat, Int.reduceLT, Int.reduceLE, Nat.reduceSub, pl72, tsize_3, tbytes_3, tagg_3, zcells_3, telem_3, tint_3, tnotIface_3, tsize_4, tbytes_4, tagg_4, zcells_4, telem_4, tbool_4, tnotIface_4, tsize_23, tbytes_23, tagg_23, zcells_23, telem_23, tnotIface_23, tsize_45, tbytes_45, tagg_45, zcells_45, telem_45, tnotIface_45, foff_45_0, foff_45_1, foff_45_2, foff_45_3, fplaces_45, tsize_52, tbytes_52, tagg_52, zcells_52, telem_52, tnotIface_52, ints, patO, a1, a2, a5, a6]
    refine LoopK.intro (fun m a h => ∃ (v : Nat) (S1 : List Bool) (b : Bool), m = n - v ∧ v ≤ n ∧ S1.length = n ∧ (∀ u, u < n → (coreH st cs n q).getD u false = true → S1.getD u false = true) ∧ trues S1 + (if b = true then 1 else 0) ≤ trues S ∧ (b = false → ∀ u, u < v → S1.getD u false = true → q ≤ cnt st cs S1 u) ∧ a 1 = .int .i64 q ∧ a 2 = .op 0 4 0 0 ∧ a 5 = .osl 1 1 0 n n true ∧ a 6 = .bool b ∧ a 7 = .int .i64 v ∧ h = [patO n n st cs, Ob.arr 1 (List.map boolE S1) true]) n ⟨0, S, false, rfl, Nat.zero_le _, hS, hH, by simp, fun _ u hu => by omega, ?_⟩ ?_
    · simp (maxSteps := 4000000) only [↓packA0, ↓packA1, ↓packA2, ↓reduceIte, packB0, packB1, packB2, packB3, packB4, pureOp, quietOp, loadOp, quietB, fr0, cellsK, Option.getD_some, Option.getD_none, implies_true, ite_true, ite_false, eq_self, ne_eq, reduceCtorEq, Nat.reduceLT, Nat.reduceLeDiff, Nat.reduceAdd, Nat.reduceMul, Nat.reduceBEq, Nat.reduceEqDiff, Int.reduceToNat, Int.reduceLT, Int.reduceLE, Nat.reduceSub, pl72, tsize_3, tbytes_3, tagg_3, zcells_3, telem_3, tint_3, tnotIface_3, tsize_4, tbytes_4, tagg_4, zcells_4, telem_4, tbool_4, tnotIface_4, tsize_23, tbytes_23, tagg_23, zcells_23, telem_23, tnotIface_23, tsize_45, tbytes_45, tagg_45, zcells_45, telem_45, tnotIface_45, foff_45_0, foff_45_1, foff_45_2, foff_45_3, fplaces_45, tsize_52, tbytes_52, tagg_52, zcells_52, telem_52, tnotIface_52, ints, patO, a1, a2, a5, a6, Int.natCast_zero]
    clear a1 a2 a5 a6
    rintro m a h ⟨v, S1, b, rfl, hv, hS1, hH1, htr, hcl1, a1, a2, a5, a6, a7, rfl⟩
    simp (maxSteps := 4000000) +contextual only [↓packA0, ↓packA1, ↓packA2, ↓reduceIte, packB0, packB1, packB2, packB3, packB4, pureOp, quietOp, loadOp, quietB, fr0, cellsK, Option.getD_some, Option.getD_none, implies_true, ite_true, ite_false, eq_self, ne_eq, reduceCtorEq, Nat.reduceLT, Nat.reduceLeDiff, Nat.reduceAdd, Nat.reduceMul, Nat.reduceBEq, Nat.reduceEqDiff, Int.reduceToNat, Int.reduceLT, Int.reduceLE, Nat.reduceSub, pl72, tsize_3, tbytes_3, tagg_3, zcells_3, telem_3, tint_3, tnotIface_3, tsize_4, tbytes_4, tagg_4, zcells_4, telem_4, tbool_4, tnotIface_4, tsize_23, tbytes_23, tagg_23, zcells_23, telem_23, tnotIface_23, tsize_45, tbytes_45, tagg_45, zcells_45, telem_45, tnotIface_45, foff_45_0, foff_45_1, foff_45_2, foff_45_3, fplaces_45, tsize_52, tbytes_52, tagg_52, zcells_52, telem_52, tnotIface_52, ints, patO, a1, a2, a5, a6, a7]
    refine ⟨fun h2 => ⟨by omega, by omega, fun hs => acalls_lend (among_c n st cs S1 hb hb2 hm hn v (by omega) hS1) ?_ rfl ?_, fun hs => ?_⟩, fun h2 => ?_⟩
    · exact .cons (.pure _ rfl) (.cons (.pure _ rfl) (.cons (frz_bools (l := S1) rfl hS1) .nil))
    · have hs' : S1.getD v false = true := hs
      have htd := trues_set hs'
      simp (maxSteps := 4000000) +contextual only [↓packA0, ↓packA1, ↓packA2, ↓reduceIte, packB0, packB1, packB2, packB3, packB4, pureOp, quietOp, loadOp, quietB, fr0, cellsK, Option.getD_some, Option.getD_none, implies_true, ite_true, ite_false, eq_self, ne_eq, reduceCtorEq, Nat.reduceLT, Nat.reduceLeDiff, Nat.reduceAdd, Nat.reduceMul, Nat.reduceBEq, Nat.reduceEqDiff, Int.reduceToNat, Int.reduceLT, Int.reduceLE, Nat.reduceSub, pl72, tsize_3, tbytes_3, tagg_3, zcells_3, telem_3, tint_3, tnotIface_3, tsize_4, tbytes_4, tagg_4, zcells_4, telem_4, tbool_4, tnotIface_4, tsize_23, tbytes_23, tagg_23, zcells_23, telem_23, tnotIface_23, tsize_45, tbytes_45, tagg_45, zcells_45, telem_45, tnotIface_45, foff_45_0, foff_45_1, foff_45_2, foff_45_3, fplaces_45, tsize_52, tbytes_52, tagg_52, zcells_52, telem_52, tnotIface_52, ints, patO, a1, a2, a5, a6, a7, hs]
      refine ⟨fun h3 => ?_, fun h3 => ?_⟩
      · refine ⟨by omega, by omega, by omega, .inl ⟨n - (v + 1), by omega, v + 1, S1.set v false, true, rfl, by omega, by simp [hS1], fun u hu hc => ?_, ?_, fun h => (by cases h), rfl, by omega, rfl⟩⟩
        · rw [getB_set (by omega)]
          split
          · rename_i e
            subst e
            have h4 := core_le hm (H := coreH st cs n q) (fun w hw => coreH_get hw) u hu hc
            have h5 := cnt_mono hm hu hH1
            omega
          · exact hH1 u hu hc
        · cases b <;> simp at htr ⊢ <;> omega
      · refine ⟨by omega, .inl ⟨n - (v + 1), by omega, v + 1, S1, b, rfl, by omega, hS1, hH1, htr, fun hbf u hu hc => ?_, rfl, by omega, rfl⟩⟩
        rcases Nat.lt_or_ge u v with h4 | h4
        · exact hcl1 hbf u h4 hc
        · rw [show u = v by omega]; omega
    · have hs' : S1.getD v false = false := by
        cases hq : S1.getD v false with
        | false => rfl
        | true => exact absurd hq (by simpa using hs)
      refine ⟨by omega, .inl ⟨n - (v + 1), by omega, v + 1, S1, b, rfl, by omega, hS1, hH1, htr, fun hbf u hu hc => ?_, rfl, by omega, rfl⟩⟩
      rcases Nat.lt_or_ge u v with h4 | h4
      · exact hcl1 hbf u h4 hc
      · rw [show u = v by omega, hs'] at hc; cases hc
    · refine .inl ⟨2 * trues S1 + (if b = true then 1 else 0), ?_, S1, b, rfl, hS1, hH1, fun hbf u hu hc => hcl1 hbf u (by omega) hc, ?_⟩
      · cases b <;> simp at htr ⊢ <;> omega
      · exact ⟨rfl, rfl⟩
end Go.Proofs.Ytgdlkhgfehclpaa
end

section
/- Degeneracy, the document's. No condition. -/
namespace Go.Proofs.Ytgdlkhgfehclpaa
open Go Go.AL
set_option linter.unusedVariables false
set_option linter.unusedSimpArgs false
theorem row_len1 {n : Nat} {st cs : List Int} (hg : graphP n n st cs) {v : Nat} (hv : v < n) : (rowOf st cs v).length + 1 ≤ n := by
  obtain ⟨h1, h2, h3, h4, h5, h6, h7⟩ := may_row hg.1.1 (show v < (n : Int).toNat by omega)
  have := pigeon n (v :: (rowOf st cs v).map Int.toNat) (by
    refine List.nodup_cons.2 ⟨fun hc => ?_, ?_⟩
    · obtain ⟨w, hw, e⟩ := List.mem_map.1 hc
      obtain ⟨i, hi, e1⟩ := mem_getD.1 hw
      have := row_nonneg h4 hi
      exact hg.2 v (by omega) (by rw [show ((v : Nat) : Int) = w by omega]; exact hw)
    · refine List.pairwise_map.2 ?_
      refine List.Pairwise.imp_of_mem ?_ (nodup_row h4)
      intro a b ha hb hab
      obtain ⟨i, hi, e1⟩ := mem_getD.1 ha
      obtain ⟨j, hj, e2⟩ := mem_getD.1 hb
      have := row_nonneg h4 hi
      have := row_nonneg h4 hj
      omega) (fun x hx => by
    rcases List.mem_cons.1 hx with e | hx
    · omega
    · obtain ⟨y, hy, e⟩ := List.mem_map.1 hx
      obtain ⟨i, hi, e1⟩ := mem_getD.1 hy
      have := row_nonneg h4 hi
      have := (h4 i hi).2
      omega)
  simpa using this
theorem core_bounds {n : Nat} {st cs : List Int} (hg : graphP n n st cs) : ∀ k, k ≤ n → ((pst st cs n k).c + 1 ≤ n ∨ n = 0) ∧ ∀ u, u < n → 0 ≤ (pst st cs n k).C.getD u default ∧ (pst st cs n k).C.getD u default + 1 ≤ n
  | 0, _ => by
    refine ⟨by simp only [pst]; omega, fun u hu => ?_⟩
    simp [pst, List.getD_eq_getElem?_getD, List.getElem?_replicate, hu]
    omega
  | k + 1, hk => by
    obtain ⟨h1, h2⟩ := core_bounds hg k (by omega)
    obtain ⟨v, hb⟩ := pst_best st cs (show k < n by omega)
    have hl := pst_len st cs n k
    have h3 : cnt st cs (pst st cs n k).S v + 1 ≤ n := Nat.le_trans (Nat.succ_le_succ cnt_le) (row_len1 hg hb.1)
    rw [pst_step hb]
    refine ⟨by simp only; omega, fun u hu => ?_⟩
    simp only
    rw [getI_set (by rw [hl.2.2]; exact hb.1)]
    split
    · omega
    · exact h2 u hu
set_option maxHeartbeats 4000000 in
set_option maxRecDepth 100000 in
theorem rdegen_c (rows width : Int) (st cs : List Int) (hb : st.length < 1000000000) (hb2 : cs.length < 1000000000) : ACalls Try.prog 48 [pat rows width st cs] [] fun v h =>
    (graphP rows width st cs → OFz h v (.tup [.int .i64 (mxK (coresOf st cs rows.toNat) rows.toNat), ints (coresOf st cs rows.toNat), .int .i64 0])) ∧ (¬ graphP rows width st cs → OFz h v (.tup [.int .i64 0, ints [], .int .i64 220])) := by
  refine (wp48 rfl rfl ?_)
  simp (maxSteps := 4000000) +contextual only [↓packA0, ↓packA1, ↓packA2, ↓reduceIte, packB0, packB1, packB2, packB3, packB4, pureOp, quietOp, loadOp, quietB, fr0, cellsK, Option.getD_some, Option.getD_none, implies_true, ite_true, ite_false, eq_self, ne_eq, reduceCtorEq, Nat.reduceLT, Nat.reduceLeDiff, Nat.reduceAdd, Nat.reduceMul, Nat.reduceBEq, Nat.reduceEqDiff, Int.reduceToNat, Int.reduceLT, Int.reduceLE, Nat.reduceSub, pl48, tsize_3, tbytes_3, tagg_3, zcells_3, telem_3, tint_3, tnotIface_3, tsize_4, tbytes_4, tagg_4, zcells_4, telem_4, tbool_4, tnotIface_4, tsize_23, tbytes_23, tagg_23, zcells_23, telem_23, tnotIface_23, tsize_45, tbytes_45, tagg_45, zcells_45, telem_45, tnotIface_45, foff_45_0, foff_45_1, foff_45_2, foff_45_3, fplaces_45, tsize_52, tbytes_52, tagg_52, zcells_52, telem_52, tnotIface_52, ints]
  refine acalls_pure (rgraph_c rows width st cs hb hb2) rfl ?_
  simp (maxSteps := 4000000) +contextual only [↓packA0, ↓packA1, ↓packA2, ↓reduceIte, packB0, packB1, packB2, packB3, packB4, pureOp, quietOp, loadOp, quietB, fr0, cellsK, Option.getD_some, Option.getD_none, implies_true, ite_true, ite_false, eq_self, ne_eq, reduceCtorEq, Nat.reduceLT, Nat.reduceLeDiff, Nat.reduceAdd, Nat.reduceMul, Nat.reduceBEq, Nat.reduceEqDiff, Int.reduceToNat, Int.reduceLT, Int.reduceLE, Nat.reduceSub, pl48, tsize_3, tbytes_3, tagg_3, zcells_3, telem_3, tint_3, tnotIface_3, tsize_4, tbytes_4, tagg_4, zcells_4, telem_4, tbool_4, tnotIface_4, tsize_23, tbytes_23, tagg_23, zcells_23, telem_23, tnotIface_23, tsize_45, tbytes_45, tagg_45, zcells_45, telem_45, tnotIface_45, foff_45_0, foff_45_1, foff_45_2, foff_45_3, fplaces_45, tsize_52, tbytes_52, tagg_52, zcells_52, telem_52, tnotIface_52, ints]
  refine ⟨fun hg => ?_, fun hg => .three (.flat _ rfl) (.nils 1) (.flat _ rfl)⟩
  obtain ⟨n, rfl, rfl, hn⟩ := graph_sides hg
  have hCl := (pst_len st cs n n).2.2
  have hCb := (core_bounds hg n (Nat.le_refl _)).2
  refine ⟨by omega, ?_⟩
  refine LoopK.intro (fun m a h => ∃ (k : Nat) (L : List Int) (M : Int), m = n + 1 - k ∧ 1 ≤ k ∧ (k ≤ n ∨ k = 1) ∧ L.length = n ∧ (∀ u, u < n → L.getD u default = min ((coresOf st cs n).getD u default) ((k : Int) - 1)) ∧ M = min (mxK (coresOf st cs n) n) ((k : Int) - 1) ∧ a 1 = .op 0 4 0 0 ∧ a 5 = .osl 1 1 0 n n true ∧ a 6 = .int .i64 M ∧ a 7 = .int .i64 k ∧ h = [patO n n st cs, Ob.arr 1 (List.map intE L) true]) n ⟨1, List.replicate n 0, 0, by omega, by omega, by omega, by simp, fun u hu => ?_, ?_, ?_⟩ ?_
  · have := hCb u hu
    have e : (List.replicate n (0 : Int)).getD u default = 0 := by simp [List.getD_eq_getElem?_getD, List.getElem?_replicate, hu]
    rw [e]
    unfold coresOf
    omega
  · have := (mxK_ge (C := coresOf st cs n) n).1
    omega
  · simp (maxSteps := 4000000) only [↓packA0, ↓packA1, ↓packA2, ↓reduceIte, packB0, packB1, packB2, packB3, packB4, pureOp, quietOp, loadOp, quietB, fr0, cellsK, Option.getD_some, Option.getD_none, implies_true, ite_true, ite_false, eq_self, ne_eq, reduceCtorEq, Nat.reduceLT, Nat.reduceLeDiff, Nat.reduceAdd, Nat.reduceMul, Nat.reduceBEq, Nat.reduceEqDiff, Int.reduceToNat, Int.reduceLT, Int.reduceLE, Nat.reduceSub, pl48, tsize_3, tbytes_3, tagg_3, zcells_3, telem_3, tint_3, tnotIface_3, tsize_4, tbytes_4, tagg_4, zcells_4, telem_4, tbool_4, tnotIface_4, tsize_23, tbytes_23, tagg_23, zcells_23, telem_23, tnotIface_23, tsize_45, tbytes_45, tagg_45, zcells_45, telem_45, tnotIface_45, foff_45_0, foff_45_1, foff_45_2, foff_45_3, fplaces_45, tsize_52, tbytes_52, tagg_52, zcells_52, telem_52, tnotIface_52, ints, patO]
    rfl
  rintro m a h ⟨k, L, M, rfl, hk1, hk2, hL, hLc, hM, a1, a5, a6, a7, rfl⟩
  simp (maxSteps := 4000000) +contextual only [↓packA0, ↓packA1, ↓packA2, ↓reduceIte, packB0, packB1, packB2, packB3, packB4, pureOp, quietOp, loadOp, quietB, fr0, cellsK, Option.getD_some, Option.getD_none, implies_true, ite_true, ite_false, eq_self, ne_eq, reduceCtorEq, Nat.reduceLT, Nat.reduceLeDiff, Nat.reduceAdd, Nat.reduceMul, Nat.reduceBEq, Nat.reduceEqDiff, Int.reduceToNat, Int.reduceLT, Int.reduceLE, Nat.reduceSub, pl48, tsize_3, tbytes_3, tagg_3, zcells_3, telem_3, tint_3, tnotIface_3, tsize_4, tbytes_4, tagg_4, zcells_4, telem_4, tbool_4, tnotIface_4, tsize_23, tbytes_23, tagg_23, zcells_23, telem_23, tnotIface_23, tsize_45, tbytes_45, tagg_45, zcells_45, telem_45, tnotIface_45, foff_45_0, foff_45_1, foff_45_2, foff_45_3, fplaces_45, tsize_52, tbytes_52, tagg_52, zcells_52, telem_52, tnotIface_52, ints, patO, a1, a5, a6, a7]
  refine ⟨fun h2 => ?_, fun h2 => ?_⟩
  · refine acalls_fresh (rcore_c n st cs k hb hb2 hg.1.1 hn) ?_ (fun u h0 hz => ⟨_, hz, ?_⟩)
    · exact .cons (.pure _ rfl) (.cons (.pure _ rfl) .nil)
    simp (maxSteps := 4000000) +contextual only [↓packA0, ↓packA1, ↓packA2, ↓reduceIte, packB0, packB1, packB2, packB3, packB4, pureOp, quietOp, loadOp, quietB, fr0, cellsK, Option.getD_some, Option.getD_none, implies_true, ite_true, ite_false, eq_self, ne_eq, reduceCtorEq, Nat.reduceLT, Nat.reduceLeDiff, Nat.reduceAdd, Nat.reduceMul, Nat.reduceBEq, Nat.reduceEqDiff, Int.reduceToNat, Int.reduceLT, Int.reduceLE, Nat.reduceSub, pl48, tsize_3, tbytes_3, tagg_3, zcells_3, telem_3, tint_3, tnotIface_3, tsize_4, tbytes_4, tagg_4, zcells_4, telem_4, tbool_4, tnotIface_4, tsize_23, tbytes_23, tagg_23, zcells_23, telem_23, tnotIface_23, tsize_45, tbytes_45, tagg_45, zcells_45, telem_45, tnotIface_45, foff_45_0, foff_45_1, foff_45_2, foff_45_3, fplaces_45, tsize_52, tbytes_52, tagg_52, zcells_52, telem_52, tnotIface_52, ints, bools, patO, a1, a5, a6, a7]
    refine LoopK.intro (fun m a h => ∃ (v : Nat) (L2 : List Int) (M2 : Int), m = n - v ∧ v ≤ n ∧ L2.length = n ∧ (∀ u, u < v → L2.getD u default = min ((coresOf st cs n).getD u default) k) ∧ (∀ u, v ≤ u → u < n → L2.getD u default = min ((coresOf st cs n).getD u default) ((k : Int) - 1)) ∧ ((M2 = k ∧ ∃ u, u < v ∧ (k : Int) ≤ (coresOf st cs n).getD u default) ∨ (M2 = min (mxK (coresOf st cs n) n) ((k : Int) - 1) ∧ ∀ u, u < v → (coresOf st cs n).getD u default < k)) ∧ a 1 = .op 0 4 0 0 ∧ a 5 = .osl 1 1 0 n n true ∧ a 6 = .int .i64 M2 ∧ a 7 = .int .i64 k ∧ a 8 = bools (coreH st cs n k) ∧ a 9 = .int .i64 v ∧ h = [patO n n st cs, Ob.arr 1 (List.map intE L2) true]) n ⟨0, L, M, rfl, Nat.zero_le _, hL, fun u hu => by omega, fun u _ hu => hLc u hu, .inr ⟨hM, fun u hu => by omega⟩, ?_⟩ ?_
    · simp (maxSteps := 4000000) only [↓packA0, ↓packA1, ↓packA2, ↓reduceIte, packB0, packB1, packB2, packB3, packB4, pureOp, quietOp, loadOp, quietB, fr0, cellsK, Option.getD_some, Option.getD_none, implies_true, ite_true, ite_false, eq_self, ne_eq, reduceCtorEq, Nat.reduceLT, Nat.reduceLeDiff, Nat.reduceAdd, Nat.reduceMul, Nat.reduceBEq, Nat.reduceEqDiff, Int.reduceToNat, Int.reduceLT, Int.reduceLE, Nat.reduceSub, pl48, tsize_3, tbytes_3, tagg_3, zcells_3, telem_3, tint_3, tnotIface_3, tsize_4, tbytes_4, tagg_4, zcells_4, telem_4, tbool_4, tnotIface_4, tsize_23, tbytes_23, tagg_23, zcells_23, telem_23, tnotIface_23, tsize_45, tbytes_45, tagg_45, zcells_45, telem_45, tnotIface_45, foff_45_0, foff_45_1, foff_45_2, foff_45_3, fplaces_45, tsize_52, tbytes_52, tagg_52, zcells_52, telem_52, tnotIface_52, ints, bools, patO, a1, a5, a6, a7, Int.natCast_zero]
    clear a1 a5 a6 a7
    rintro m a h ⟨v, L2, M2, rfl, hv, hL2, hlo, hhi, hM2, a1, a5, a6, a7, a8, a9, rfl⟩
    have hHl := coreH_len (st := st) (cs := cs) (n := n) (q := k)
    have hHg : v < n → ((coreH st cs n k).getD v default = true ↔ (k : Int) ≤ (coresOf st cs n).getD v default) := fun h => coreH_get h
    generalize coreH st cs n k = Hk at *
    simp (maxSteps := 4000000) +contextual only [↓packA0, ↓packA1, ↓packA2, ↓reduceIte, packB0, packB1, packB2, packB3, packB4, pureOp, quietOp, loadOp, quietB, fr0, cellsK, Option.getD_some, Option.getD_none, implies_true, ite_true, ite_false, eq_self, ne_eq, reduceCtorEq, Nat.reduceLT, Nat.reduceLeDiff, Nat.reduceAdd, Nat.reduceMul, Nat.reduceBEq, Nat.reduceEqDiff, Int.reduceToNat, Int.reduceLT, Int.reduceLE, Nat.reduceSub, pl48, tsize_3, tbytes_3, tagg_3, zcells_3, telem_3, tint_3, tnotIface_3, tsize_4, tbytes_4, tagg_4, zcells_4, telem_4, tbool_4, tnotIface_4, tsize_23, tbytes_23, tagg_23, zcells_23, telem_23, tnotIface_23, tsize_45, tbytes_45, tagg_45, zcells_45, telem_45, tnotIface_45, foff_45_0, foff_45_1, foff_45_2, foff_45_3, fplaces_45, tsize_52, tbytes_52, tagg_52, zcells_52, telem_52, tnotIface_52, ints, bools, patO, a1, a5, a6, a7, a8, a9]
    refine ⟨fun h3 => ⟨by omega, by omega, fun h4 => ?_, fun h4 => ?_⟩, fun h3 => ?_⟩
    · have h5 := (hHg (by omega)).1 h4
      refine ⟨by omega, by omega, by omega, .inl ⟨n - (v + 1), by omega, v + 1, L2.set v k, k, rfl, by omega, by simp [hL2], fun u hu => ?_, fun u hu1 hu2 => ?_, .inl ⟨rfl, v, by omega, h5⟩, rfl, by omega, rfl⟩⟩
      · rw [getI_set (by omega)]
        split
        · rename_i e; subst e; omega
        · exact hlo u (by omega)
      · rw [getI_set (by omega), if_neg (by omega)]
        exact hhi u (by omega) hu2
    · have h5 : ¬ (k : Int) ≤ (coresOf st cs n).getD v default := fun hc => by
        have h6 := (hHg (by omega)).2 hc
        rw [h6] at h4
        first | exact h4 rfl | cases h4
      refine ⟨by omega, .inl ⟨n - (v + 1), by omega, v + 1, L2, M2, rfl, by omega, hL2, fun u hu => ?_, fun u hu1 hu2 => hhi u (by omega) hu2, ?_, rfl, by omega, rfl⟩⟩
      · rcases Nat.lt_or_ge u v with h6 | h6
        · exact hlo u h6
        · obtain rfl : u = v := by omega
          have := hhi u (Nat.le_refl _) (by omega)
          omega
      · rcases hM2 with ⟨h6, u, h7, h8⟩ | ⟨h6, h7⟩
        · exact .inl ⟨h6, u, by omega, h8⟩
        · refine .inr ⟨h6, fun u hu => ?_⟩
          rcases Nat.lt_or_ge u v with h8 | h8
          · exact h7 u h8
          · rw [show u = v by omega]; omega
    · obtain rfl : v = n := by omega
      obtain ⟨g0, g1⟩ := mxK_ge (C := coresOf st cs v) v
      refine ⟨by omega, .inl ⟨v + 1 - (k + 1), by omega, k + 1, L2, M2, rfl, by omega, by omega, hL2, fun u hu => by rw [hlo u hu]; omega, ?_, rfl, by omega, rfl⟩⟩
      rcases hM2 with ⟨h6, u, h7, h8⟩ | ⟨h6, h7⟩
      · have := g1 u h7
        omega
      · rcases mxK_at (C := coresOf st cs v) v with h8 | ⟨u, h8, h9⟩
        · omega
        · have := h7 u h8
          omega
  · have hLe : L = coresOf st cs n := list_ext_getD (by rw [hL]; exact hCl.symm) fun u hu => by
      have h3 := hLc u (by omega)
      have h4 := hCb u (by omega)
      unfold coresOf at h3 ⊢
      omega
    have hMe : M = mxK (coresOf st cs n) n := by
      rcases Nat.eq_zero_or_pos n with h3 | h3
      · subst h3
        simp only [mxK] at hM ⊢
        omega
      · obtain ⟨g0, g1⟩ := mxK_ge (C := coresOf st cs n) n
        rcases mxK_at (C := coresOf st cs n) n with h8 | ⟨u, h8, h9⟩
        · omega
        · have h4 := hCb u h8
          unfold coresOf at h9 hM ⊢
          omega
    rw [hMe, hLe]
    exact ⟨fun _ => .three (.flat _ rfl) (ofz_ints (l := coresOf st cs n) rfl hCl.symm) (.flat _ rfl), fun h => absurd hg h⟩
end Go.Proofs.Ytgdlkhgfehclpaa
end

section
/- What an order that is made by taking away is worth. No condition. -/
namespace Go.Proofs.Ytgdlkhgfehclpaa
open Go Go.AL
set_option linter.unusedVariables false
set_option linter.unusedSimpArgs false
/-- Who is taken away in step i. -/
def bv (st cs : List Int) (n i : Nat) : Nat := (bestB st cs (pst st cs n i).S n).getD 0
theorem bv_best {st cs : List Int} {n i : Nat} (hi : i < n) : Best st cs (pst st cs n i).S n (bv st cs n i) := by
  obtain ⟨v, hb⟩ := pst_best st cs hi
  unfold bv
  rw [best_uniq hb]
  exact hb
theorem pst_next {st cs : List Int} {n i : Nat} (hi : i < n) : pst st cs n (i + 1) = ⟨(pst st cs n i).S.set (bv st cs n i) false, max (pst st cs n i).c (cnt st cs (pst st cs n i).S (bv st cs n i)), (pst st cs n i).O.set (n - 1 - i) (bv st cs n i), (pst st cs n i).C.set (bv st cs n i) (max (pst st cs n i).c (cnt st cs (pst st cs n i).S (bv st cs n i)) : Nat)⟩ := pst_step (bv_best hi)
theorem S_next {st cs : List Int} {n i u : Nat} (hi : i < n) : (pst st cs n (i + 1)).S.getD u false = (if u = bv st cs n i then false else (pst st cs n i).S.getD u false) := by
  rw [pst_next hi]
  exact getB_set (by rw [(pst_len st cs n i).1]; exact (bv_best hi).1)
theorem S_mono {st cs : List Int} {n u : Nat} : ∀ {d i : Nat}, i + d ≤ n → (pst st cs n (i + d)).S.getD u false = true → (pst st cs n i).S.getD u false = true
  | 0, i, _, h => h
  | d + 1, i, hd, h => by
    rw [show i + (d + 1) = (i + d) + 1 by omega, S_next (by omega)] at h
    split at h
    · cases h
    · exact S_mono (by omega) h
theorem S_le {st cs : List Int} {n u i j : Nat} (hij : i ≤ j) (hj : j ≤ n) (h : (pst st cs n j).S.getD u false = true) : (pst st cs n i).S.getD u false = true := by
  have := S_mono (st := st) (cs := cs) (n := n) (u := u) (d := j - i) (i := i) (by omega) (by rw [show i + (j - i) = j by omega]; exact h)
  exact this
theorem bv_gone {st cs : List Int} {n i j : Nat} (hij : i < j) (hj : j ≤ n) : (pst st cs n j).S.getD (bv st cs n i) false = false := by
  cases h : (pst st cs n j).S.getD (bv st cs n i) false with
  | false => rfl
  | true =>
    have h1 := S_le (i := i + 1) (by omega) hj h
    rw [S_next (by omega), if_pos rfl] at h1
    cases h1
theorem bv_ne {st cs : List Int} {n i j : Nat} (hij : i < j) (hj : j < n) : bv st cs n i ≠ bv st cs n j := fun e => by
  have h1 := bv_gone (st := st) (cs := cs) hij (Nat.le_of_lt hj)
  rw [e, (bv_best hj).2.1] at h1
  cases h1
/-- Whoever is left is taken away later. -/
theorem bv_onto {st cs : List Int} {n u : Nat} (hu : u < n) : ∀ {d i : Nat}, i + d = n → (pst st cs n i).S.getD u false = true → ∃ j, i ≤ j ∧ j < n ∧ bv st cs n j = u
  | 0, i, e, h => by
    rw [show i = n by omega, pst_end st cs n u hu] at h
    cases h
  | d + 1, i, e, h => by
    by_cases c : u = bv st cs n i
    · exact ⟨i, Nat.le_refl _, by omega, c.symm⟩
    · obtain ⟨j, h1, h2, h3⟩ := bv_onto hu (d := d) (i := i + 1) (by omega) (by rw [S_next (by omega), if_neg c]; exact h)
      exact ⟨j, by omega, h2, h3⟩
theorem S_iff {st cs : List Int} {n i u : Nat} (hi : i ≤ n) (hu : u < n) : (pst st cs n i).S.getD u false = true ↔ ∃ j, i ≤ j ∧ j < n ∧ bv st cs n j = u := by
  constructor
  · exact bv_onto hu (d := n - i) (by omega)
  · rintro ⟨j, h1, h2, rfl⟩
    exact S_le h1 (by omega) (bv_best h2).2.1
theorem bv_all {st cs : List Int} {n u : Nat} (hu : u < n) : ∃ j, j < n ∧ bv st cs n j = u := by
  obtain ⟨j, _, h2, h3⟩ := (S_iff (st := st) (cs := cs) (Nat.zero_le n) hu).1 (by simp [pst, List.getD_eq_getElem?_getD, List.getElem?_replicate, hu])
  exact ⟨j, h2, h3⟩
theorem O_get {st cs : List Int} {n : Nat} : ∀ {k : Nat}, k ≤ n → ∀ i, i < k → (pst st cs n k).O.getD (n - 1 - i) default = bv st cs n i
  | 0, _, i, h => absurd h (Nat.not_lt_zero _)
  | k + 1, hk, i, h => by
    rw [pst_next (by omega)]
    simp only
    rw [getI_set (by rw [(pst_len st cs n k).2.1]; omega)]
    by_cases e : i = k
    · subst e; rw [if_pos rfl]
    · rw [if_neg (by omega)]; exact O_get (by omega) i (by omega)
theorem C_get {st cs : List Int} {n : Nat} : ∀ {k : Nat}, k ≤ n → ∀ i, i < k → (pst st cs n k).C.getD (bv st cs n i) default = (pst st cs n (i + 1)).c
  | 0, _, i, h => absurd h (Nat.not_lt_zero _)
  | k + 1, hk, i, h => by
    by_cases e : i = k
    · subst e
      rw [pst_next (by omega)]
      simp only
      rw [getI_set (by rw [(pst_len st cs n i).2.2]; exact (bv_best (by omega)).1), if_pos rfl]
    · rw [pst_next (show k < n by omega)]
      simp only
      rw [getI_set (by rw [(pst_len st cs n k).2.2]; exact (bv_best (by omega)).1), if_neg (bv_ne (by omega) (by omega))]
      exact C_get (by omega) i (by omega)
theorem c_at {st cs : List Int} {n : Nat} : ∀ {k : Nat}, k ≤ n → (pst st cs n k).c = 0 ∨ ∃ j, j < k ∧ (pst st cs n k).c = cnt st cs (pst st cs n j).S (bv st cs n j)
  | 0, _ => .inl rfl
  | k + 1, hk => by
    rw [pst_next (by omega)]
    simp only
    rcases Nat.lt_or_ge (pst st cs n k).c (cnt st cs (pst st cs n k).S (bv st cs n k)) with h1 | h1
    · exact .inr ⟨k, by omega, by omega⟩
    · rcases c_at (st := st) (cs := cs) (n := n) (k := k) (by omega) with h2 | ⟨j, h2, h3⟩
      · left; omega
      · exact .inr ⟨j, by omega, by omega⟩
theorem c_ge {st cs : List Int} {n i : Nat} (hi : i < n) : cnt st cs (pst st cs n i).S (bv st cs n i) ≤ (pst st cs n (i + 1)).c := by
  rw [pst_next hi]
  simp only
  omega
/-- The order that taking away gives. -/
def ordOf (st cs : List Int) (n : Nat) : List Int := (pst st cs n n).O
theorem ordOf_len {st cs : List Int} {n : Nat} : (ordOf st cs n).length = n := (pst_len st cs n n).2.1
theorem ordOf_get {st cs : List Int} {n p : Nat} (hp : p < n) : (ordOf st cs n).getD p default = bv st cs n (n - 1 - p) := by
  have := O_get (st := st) (cs := cs) (Nat.le_refl n) (n - 1 - p) (by omega)
  rw [show n - 1 - (n - 1 - p) = p by omega] at this
  exact this
theorem ordOf_ok {st cs : List Int} {n : Nat} : ordOK (ordOf st cs n).length (ordOf st cs n) := fun p hp => by
  rw [ordOf_len] at hp ⊢
  unfold okAt
  rw [ordOf_get hp]
  have h1 := (bv_best (st := st) (cs := cs) (show n - 1 - p < n by omega)).1
  refine ⟨by omega, by omega, fun q hq => ?_⟩
  rw [ordOf_get (by omega)]
  have := bv_ne (st := st) (cs := cs) (n := n) (show n - 1 - p < n - 1 - q by omega) (by omega)
  omega
theorem cnt_self {st cs : List Int} {n : Nat} (hg : graphP n n st cs) {S : List Bool} {v : Nat} (hv : v < n) (hs : S.getD v false = true) (hl : v < S.length) : cnt st cs (S.set v false) v = cnt st cs S v := by
  have := cnt_drop hg hv hv hs hl
  rw [if_neg (hg.2 v (by omega))] at this
  exact this
theorem bk_ord {st cs : List Int} {n i : Nat} (hg : graphP n n st cs) (hi : i < n) : bk st cs (invK (ordOf st cs n) (ordOf st cs n).length) (bv st cs n i) = cnt st cs (pst st cs n i).S (bv st cs n i) := by
  have hb := bv_best (st := st) (cs := cs) hi
  have hS : ∀ u : Nat, u < n → ((pst st cs n (i + 1)).S.getD u false = true ↔ ∃ j, j < n - 1 - i ∧ (ordOf st cs n).getD j default = u) := fun u hu => by
    rw [S_iff (by omega) hu]
    constructor
    · rintro ⟨j, h1, h2, h3⟩
      exact ⟨n - 1 - j, by omega, by rw [ordOf_get (by omega), show n - 1 - (n - 1 - j) = j by omega, h3]⟩
    · rintro ⟨j, h1, h2⟩
      rw [ordOf_get (by omega)] at h2
      exact ⟨n - 1 - j, by omega, by omega, by omega⟩
  have h1 := cnt_bk hg.1.1 ordOf_len ordOf_ok (show n - 1 - i < n by omega) (v := bv st cs n i) (by rw [ordOf_get (by omega), show n - 1 - (n - 1 - i) = i by omega]) hS
  rw [← h1, pst_next hi]
  simp only
  exact cnt_self hg hb.1 hb.2.1 (by rw [(pst_len st cs n i).1]; exact hb.1)
/-- The order that taking away gives is worth the greatest core. -/
theorem worth_eq {st cs : List Int} {n : Nat} (hg : graphP n n st cs) : mxK (bkL st cs (invK (ordOf st cs n) (ordOf st cs n).length) n) n = mxK (coresOf st cs n) n := by
  obtain ⟨g0, g1⟩ := mxK_ge (C := coresOf st cs n) n
  refine mxK_uniq g0 (fun u hu => ?_) ?_
  · obtain ⟨j, h1, h2⟩ := bv_all (st := st) (cs := cs) hu
    subst h2
    rw [bkL_get hu, bk_ord hg h1]
    have h3 := g1 _ hu
    rw [show (coresOf st cs n).getD (bv st cs n j) default = (pst st cs n (j + 1)).c from C_get (Nat.le_refl n) j h1] at h3
    have := c_ge (st := st) (cs := cs) h1
    omega
  · rcases mxK_at (C := coresOf st cs n) n with h1 | ⟨u, h1, h2⟩
    · exact .inl h1
    · obtain ⟨j, h3, h4⟩ := bv_all (st := st) (cs := cs) h1
      subst h4
      rw [show (coresOf st cs n).getD (bv st cs n j) default = (pst st cs n (j + 1)).c from C_get (Nat.le_refl n) j h3] at h2
      rcases c_at (st := st) (cs := cs) (n := n) (k := j + 1) (by omega) with h5 | ⟨i, h5, h6⟩
      · left; omega
      · refine .inr ⟨bv st cs n i, (bv_best (by omega)).1, ?_⟩
        rw [bkL_get (bv_best (by omega)).1, bk_ord hg (by omega)]
        omega
theorem last_of {Q : Nat → Prop} : ∀ n, (∃ i, i < n ∧ Q i) → ∃ p, p < n ∧ Q p ∧ ∀ i, p < i → i < n → ¬ Q i
  | 0, ⟨i, h, _⟩ => absurd h (Nat.not_lt_zero _)
  | n + 1, ⟨i, h, hq⟩ => by
    rcases Classical.em (Q n) with h1 | h1
    · exact ⟨n, by omega, h1, fun j h2 h3 => by omega⟩
    · have hin : i < n := by
        rcases Nat.lt_or_ge i n with h2 | h2
        · exact h2
        · rw [show i = n by omega] at hq; exact absurd hq h1
      obtain ⟨p, h2, h3, h4⟩ := last_of n ⟨i, hin, hq⟩
      refine ⟨p, by omega, h3, fun j h5 h6 => ?_⟩
      rcases Nat.lt_or_ge j n with h7 | h7
      · exact h4 j h5 h7
      · rw [show j = n by omega]; exact h1
/-- No order is worth less. -/
theorem worth_ge {st cs xs : List Int} {n : Nat} (hg : graphP n n st cs) (hxl : xs.length = n) (hord : ordOK xs.length xs) : mxK (coresOf st cs n) n ≤ mxK (bkL st cs (invK xs xs.length) n) n := by
  obtain ⟨b0, b1⟩ := mxK_ge (C := bkL st cs (invK xs xs.length) n) n
  rcases mxK_at (C := coresOf st cs n) n with h1 | ⟨u, h1, h2⟩
  · omega
  have hd0 := (mxK_ge (C := coresOf st cs n) n).1
  obtain ⟨d, hd⟩ := Int.eq_ofNat_of_zero_le hd0
  have hHu : (coreH st cs n d).getD u false = true := (coreH_get h1).2 (by omega)
  obtain ⟨j0, hj0, e0⟩ := ord_onto hord (show u < xs.length by omega)
  obtain ⟨p, hp, hq, hlast⟩ := last_of (Q := fun i => (coreH st cs n d).getD (xs.getD i default).toNat false = true) n ⟨j0, by omega, by rw [e0, Int.toNat_natCast]; exact hHu⟩
  have hx0 := hord p (by omega)
  obtain ⟨v, hv⟩ := Int.eq_ofNat_of_zero_le hx0.1
  have hvn : v < n := by have := hx0.2.1; omega
  rw [hv, Int.toNat_natCast] at hq
  have hPu : ∀ t, t < n → (invK xs xs.length).getD (xs.getD t default).toNat default = t := fun t ht => invK_get hord xs.length (Nat.le_refl _) t (by omega)
  have hS : ∀ w : Nat, w < n → (((List.range n).map fun w => decide ((invK xs xs.length).getD w default < (p : Int))).getD w false = true ↔ ∃ j, j < p ∧ xs.getD j default = w) := fun w hw => by
    simp only [List.getD_eq_getElem?_getD, List.getElem?_map, List.getElem?_range hw, Option.map_some, Option.getD_some, decide_eq_true_iff]
    obtain ⟨t, ht, e⟩ := ord_onto hord (show w < xs.length by omega)
    have h3 := hPu t (by omega)
    rw [e, Int.toNat_natCast, List.getD_eq_getElem?_getD] at h3
    rw [h3]
    constructor
    · intro h4; exact ⟨t, by omega, by rw [← List.getD_eq_getElem?_getD]; exact e⟩
    · rintro ⟨j, h4, h5⟩
      rw [← List.getD_eq_getElem?_getD] at h5
      rcases Nat.lt_trichotomy j t with h6 | h6 | h6
      · have := (hord t ht).2.2 j h6; omega
      · omega
      · have := (hord j (by omega)).2.2 t h6; omega
  have h3 := cnt_bk hg.1.1 hxl hord hp hv hS
  have h4 := core_le hg.1.1 (H := coreH st cs n d) (fun w hw => coreH_get hw) v hvn hq
  have h5 := cnt_self hg hvn hq (by rw [coreH_len]; exact hvn)
  have h6 := cnt_mono hg.1.1 (S := (coreH st cs n d).set v false) (T := (List.range n).map fun w => decide ((invK xs xs.length).getD w default < (p : Int))) hvn (fun w hw hws => by
    rw [getB_set (by rw [coreH_len]; exact hvn)] at hws
    split at hws
    · cases hws
    · rename_i hne
      refine (hS w hw).2 ?_
      obtain ⟨t, ht, e⟩ := ord_onto hord (show w < xs.length by omega)
      refine ⟨t, ?_, e⟩
      rcases Nat.lt_trichotomy t p with h7 | h7 | h7
      · exact h7
      · subst h7; omega
      · exact absurd (by rw [e, Int.toNat_natCast]; exact hws) (hlast t h7 (by omega)))
  have h7 := b1 v hvn
  rw [bkL_get hvn] at h7
  omega
end Go.Proofs.Ytgdlkhgfehclpaa
end

section
/- How many edges there can be. No condition. -/
namespace Go.Proofs.Ytgdlkhgfehclpaa
open Go Go.AL
set_option linter.unusedVariables false
set_option linter.unusedSimpArgs false
def rsum (f : Nat → Nat) : Nat → Nat
  | 0 => 0
  | n + 1 => rsum f n + f n
theorem rsum_congr {f g : Nat → Nat} : ∀ {n : Nat}, (∀ u, u < n → f u = g u) → rsum f n = rsum g n
  | 0, _ => rfl
  | n + 1, h => by
    simp only [rsum]
    rw [rsum_congr (fun u hu => h u (by omega)), h n (by omega)]
theorem rsum_add {f g : Nat → Nat} : ∀ {n : Nat}, rsum (fun u => f u + g u) n = rsum f n + rsum g n
  | 0 => rfl
  | n + 1 => by
    simp only [rsum]
    rw [rsum_add]
    omega
theorem rsum_zero : ∀ {n : Nat}, rsum (fun _ => 0) n = 0
  | 0 => rfl
  | n + 1 => by simp only [rsum]; rw [rsum_zero]
theorem rsum_one {v c : Nat} : ∀ {n : Nat}, rsum (fun u => if u = v then c else 0) n = if v < n then c else 0
  | 0 => by simp [rsum]
  | n + 1 => by
    simp only [rsum]
    rw [rsum_one]
    by_cases h1 : n = v
    · rw [if_neg (by omega), if_pos h1, if_pos (by omega)]; omega
    · rw [if_neg h1]
      by_cases h2 : v < n
      · rw [if_pos h2, if_pos (by omega)]; omega
      · rw [if_neg h2, if_neg (by omega)]
theorem rsum_mem {p : Nat → Bool} {n : Nat} : ∀ {l : List Int}, l.Nodup → (∀ w, w ∈ l → 0 ≤ w ∧ w < n) → rsum (fun u => if (u : Int) ∈ l ∧ p u = true then 1 else 0) n = (l.filter (fun w => p w.toNat)).length
  | [], _, _ => by
    simp only [List.not_mem_nil, false_and, if_false, List.filter_nil, List.length_nil]
    exact rsum_zero
  | x :: l, hn, hr => by
    rw [List.nodup_cons] at hn
    obtain ⟨x0, hx⟩ := Int.eq_ofNat_of_zero_le (hr x List.mem_cons_self).1
    have hxn := (hr x List.mem_cons_self).2
    have ih := rsum_mem (p := p) hn.2 (fun w hw => hr w (List.mem_cons_of_mem _ hw))
    have e : rsum (fun u => if (u : Int) ∈ x :: l ∧ p u = true then 1 else 0) n = rsum (fun u => (if u = x0 then (if p x0 = true then 1 else 0) else 0) + (if (u : Int) ∈ l ∧ p u = true then 1 else 0)) n := by
      refine rsum_congr fun u hu => ?_
      by_cases c : u = x0
      · subst c
        have n1 : ¬ ((u : Int) ∈ l ∧ p u = true) := fun h => hn.1 (by rw [hx]; exact h.1)
        have n2 : ((u : Int) ∈ x :: l ∧ p u = true) ↔ p u = true := by
          rw [hx]
          exact ⟨fun h => h.2, fun h => ⟨List.mem_cons_self, h⟩⟩
        simp only [n2, if_neg n1, if_true]
        omega
      · rw [if_neg c]
        have : ((u : Int) ∈ x :: l ∧ p u = true) ↔ ((u : Int) ∈ l ∧ p u = true) := by
          rw [List.mem_cons]
          constructor
          · rintro ⟨h | h, h2⟩
            · omega
            · exact ⟨h, h2⟩
          · rintro ⟨h, h2⟩; exact ⟨.inr h, h2⟩
        simp only [this]
        omega
    rw [e, rsum_add, ih, rsum_one, if_pos (by omega), List.filter_cons, hx, Int.toNat_natCast]
    split
    · simp only [List.length_cons]; omega
    · omega
/-- The degrees of a set, within it. -/
def degs (st cs : List Int) (n : Nat) (S : List Bool) : Nat := rsum (fun u => if S.getD u false = true then cnt st cs S u else 0) n
theorem degs_drop {st cs : List Int} {n : Nat} (hg : graphP n n st cs) {S : List Bool} {v : Nat} (hv : v < n) (hs : S.getD v false = true) (hl : v < S.length) : degs st cs n S = degs st cs n (S.set v false) + 2 * cnt st cs S v := by
  have q4 := (may_row hg.1.1 (show v < (n : Int).toNat by omega)).2.2.2.1
  have hm := rsum_mem (p := fun u => (S.set v false).getD u false) (n := n) (nodup_row q4) (fun w hw => by
    obtain ⟨i, hi, e⟩ := mem_getD.1 hw
    have := row_nonneg q4 hi
    have := (q4 i hi).2
    omega)
  have h1 : cnt st cs (S.set v false) v = cnt st cs S v := cnt_self hg hv hs hl
  have h2 : ((rowOf st cs v).filter (fun w : Int => (S.set v false).getD w.toNat false)).length = cnt st cs (S.set v false) v := rfl
  have h3 : degs st cs n S = rsum (fun u => ((if (S.set v false).getD u false = true then cnt st cs (S.set v false) u else 0) + (if (u : Int) ∈ rowOf st cs v ∧ (S.set v false).getD u false = true then 1 else 0)) + (if u = v then cnt st cs S v else 0)) n := by
    refine rsum_congr fun u hu => ?_
    rw [getB_set hl]
    by_cases c : u = v
    · subst c
      rw [if_pos rfl, if_pos hs, if_neg (by simp), if_neg (by simp), if_pos rfl]
      omega
    · rw [if_neg c, if_neg c]
      have h4 := cnt_drop hg hv hu hs hl
      cases hsu : S.getD u false with
      | false => simp
      | true =>
        rw [if_pos rfl, if_pos rfl, ← h4]
        simp only [and_true]
        omega
  have e1 := rsum_add (n := n) (f := fun u => ((if (S.set v false).getD u false = true then cnt st cs (S.set v false) u else 0) + (if (u : Int) ∈ rowOf st cs v ∧ (S.set v false).getD u false = true then 1 else 0))) (g := fun u => (if u = v then cnt st cs S v else 0))
  have e2 := rsum_add (n := n) (f := fun u => (if (S.set v false).getD u false = true then cnt st cs (S.set v false) u else 0)) (g := fun u => (if (u : Int) ∈ rowOf st cs v ∧ (S.set v false).getD u false = true then 1 else 0))
  have e3 := rsum_one (v := v) (c := cnt st cs S v) (n := n)
  rw [if_pos hv] at e3
  rw [h3, e1, e2, hm, h2, e3, h1]
  unfold degs
  omega
theorem degs_all {st cs : List Int} {n : Nat} (hm : mayP n n st cs) : degs st cs n (List.replicate n true) = cs.length := by
  have hS : ∀ w : Nat, w < n → (List.replicate n true).getD w false = true := fun w hw => by rw [List.getD_eq_getElem?_getD, List.getElem?_replicate, if_pos hw]; rfl
  have h1 : degs st cs n (List.replicate n true) = rsum (fun u => (rowOf st cs u).length) n := by
    refine rsum_congr fun u hu => ?_
    rw [if_pos (hS u hu), cnt, List.filter_eq_self.2]
    intro w hw
    have q4 := (may_row hm (show u < (n : Int).toNat by omega)).2.2.2.1
    obtain ⟨i, hi, e⟩ := mem_getD.1 hw
    have := row_nonneg q4 hi
    have := (q4 i hi).2
    exact hS _ (by omega)
  have h2 : ∀ k, k ≤ n → rsum (fun u => (rowOf st cs u).length) k = (st.getD k default).toNat := by
    intro k
    induction k with
    | zero => intro _; rw [hm.2.2.2.1]; rfl
    | succ k ih =>
      intro hk
      obtain ⟨q1, q2, q3, q4, q5, q6, q7⟩ := may_row hm (show k < (n : Int).toNat by omega)
      simp only [rsum]
      rw [ih (by omega), q5]
      omega
  have h3 := hm.2.2.2.2.1
  rw [Int.toNat_natCast] at h3
  rw [h1, h2 n (Nat.le_refl n), h3]
  exact Int.toNat_natCast _
theorem edges_le {st cs : List Int} {n : Nat} (hg : graphP n n st cs) : (cs.length : Int) ≤ 2 * mxK (coresOf st cs n) n * n := by
  obtain ⟨g0, g1⟩ := mxK_ge (C := coresOf st cs n) n
  obtain ⟨d, hd⟩ := Int.eq_ofNat_of_zero_le g0
  have key : ∀ k, k ≤ n → cs.length ≤ degs st cs n (pst st cs n k).S + 2 * (d * k) := by
    intro k
    induction k with
    | zero =>
      intro _
      rw [show (pst st cs n 0).S = List.replicate n true from rfl, degs_all hg.1.1]
      omega
    | succ k ih =>
      intro hk
      have hb := bv_best (st := st) (cs := cs) (show k < n by omega)
      have h1 := degs_drop hg hb.1 hb.2.1 (by rw [(pst_len st cs n k).1]; exact hb.1)
      have h2 : (pst st cs n (k + 1)).S = (pst st cs n k).S.set (bv st cs n k) false := by rw [pst_next (by omega)]
      have h3 := c_ge (st := st) (cs := cs) (show k < n by omega)
      have h4 := g1 _ hb.1
      rw [show (coresOf st cs n).getD (bv st cs n k) default = (pst st cs n (k + 1)).c from C_get (Nat.le_refl n) k (by omega)] at h4
      have h5 := ih (by omega)
      rw [h2, show d * (k + 1) = d * k + d from Nat.mul_succ d k]
      omega
  have h1 := key n (Nat.le_refl n)
  have h2 : degs st cs n (pst st cs n n).S = 0 := by
    unfold degs
    rw [rsum_congr (g := fun _ => 0) fun u hu => by rw [pst_end st cs n u hu]; rfl]
    exact rsum_zero
  rw [h2] at h1
  rw [hd, show 2 * (d : Int) * n = ((2 * (d * n) : Nat) : Int) by push_cast; rw [Int.mul_assoc]]
  omega
end Go.Proofs.Ytgdlkhgfehclpaa
end

section
/- A graph with its vertices renamed. No condition. -/
namespace Go.Proofs.Ytgdlkhgfehclpaa
open Go Go.AL
set_option linter.unusedVariables false
set_option linter.unusedSimpArgs false
theorem rsum_comm {f : Nat → Nat → Nat} {m : Nat} : ∀ {n : Nat}, rsum (fun u => rsum (fun k => f u k) m) n = rsum (fun k => rsum (fun u => f u k) n) m
  | 0 => by
    simp only [rsum]
    exact rsum_zero.symm
  | n + 1 => by
    simp only [rsum]
    rw [rsum_comm, rsum_add]
/-- A sum goes through all numbers in whatever order. -/
theorem rsum_perm {xs : List Int} {n : Nat} (hxl : xs.length = n) (hord : ordOK xs.length xs) (f : Nat → Nat) : rsum (fun k => f (xs.getD k default).toNat) n = rsum f n := by
  have h1 : rsum f n = rsum (fun u => rsum (fun k => if u = (xs.getD k default).toNat then f u else 0) n) n := by
    refine rsum_congr fun u hu => ?_
    obtain ⟨k0, hk0, e0⟩ := ord_onto hord (show u < xs.length by omega)
    have h2 : rsum (fun k => if u = (xs.getD k default).toNat then f u else 0) n = rsum (fun k => if k = k0 then f u else 0) n := by
      refine rsum_congr fun k hk => ?_
      by_cases c : k = k0
      · subst c
        rw [if_pos rfl, if_pos (by omega)]
      · rw [if_neg c, if_neg (fun e => ?_)]
        have g1 := (hord k (by omega)).1
        rcases Nat.lt_or_ge k k0 with h3 | h3
        · exact (hord k0 hk0).2.2 k h3 (by omega)
        · exact (hord k (by omega)).2.2 k0 (by omega) (by omega)
    rw [h2, rsum_one, if_pos (by omega)]
  rw [h1, rsum_comm]
  refine rsum_congr fun k hk => ?_
  have h3 : rsum (fun u => if u = (xs.getD k default).toNat then f u else 0) n = rsum (fun u => if u = (xs.getD k default).toNat then f (xs.getD k default).toNat else 0) n := by
    refine rsum_congr fun u hu => ?_
    by_cases c : u = (xs.getD k default).toNat
    · rw [if_pos c, if_pos c, c]
    · rw [if_neg c, if_neg c]
  have h4 := hord k (by omega)
  have h5 := h4.1
  have h6 := h4.2.1
  rw [h3, rsum_one, if_pos (by omega)]
theorem rsum_filter {p : Nat → Bool} : ∀ {n : Nat}, ((List.range n).filter p).length = rsum (fun k => if p k = true then 1 else 0) n
  | 0 => rfl
  | n + 1 => by
    rw [List.range_succ, List.filter_append, List.length_append, rsum_filter]
    simp only [rsum, List.filter_cons, List.filter_nil]
    split <;> simp
/-- Row i of the renamed graph. -/
def rq (st cs xs : List Int) (n i : Nat) : List Int := ((List.range n).filter (fun k => decide (xs.getD k default ∈ rowOf st cs (xs.getD i default).toNat))).map (fun k => ((k : Nat) : Int))
def csQ (st cs xs : List Int) (n : Nat) : Nat → List Int
  | 0 => []
  | k + 1 => csQ st cs xs n k ++ rq st cs xs n k
def stQ (st cs xs : List Int) (n k : Nat) : List Int := (List.range (k + 1)).map fun i => (((csQ st cs xs n i).length : Nat) : Int)
theorem stQ_len {st cs xs : List Int} {n k : Nat} : (stQ st cs xs n k).length = k + 1 := by simp [stQ]
theorem stQ_get {st cs xs : List Int} {n k i : Nat} (h : i ≤ k) : (stQ st cs xs n k).getD i default = (csQ st cs xs n i).length := by
  simp [stQ, List.getD_eq_getElem?_getD, List.getElem?_map, List.getElem?_range (show i < k + 1 by omega)]
theorem csQ_split {st cs xs : List Int} {n i : Nat} : ∀ d, ∃ l, csQ st cs xs n (i + d) = csQ st cs xs n i ++ l
  | 0 => ⟨[], by simp⟩
  | d + 1 => by
    obtain ⟨l, h⟩ := csQ_split (st := st) (cs := cs) (xs := xs) (n := n) (i := i) d
    exact ⟨l ++ rq st cs xs n (i + d), by rw [show i + (d + 1) = (i + d) + 1 by omega, csQ, h, List.append_assoc]⟩
theorem rq_row {st cs xs : List Int} {n i : Nat} (hi : i < n) : rowOf (stQ st cs xs n n) (csQ st cs xs n n) i = rq st cs xs n i := by
  obtain ⟨l, h⟩ := csQ_split (st := st) (cs := cs) (xs := xs) (n := n) (i := i + 1) (n - (i + 1))
  rw [show i + 1 + (n - (i + 1)) = n by omega, csQ, List.append_assoc] at h
  unfold rowOf
  rw [stQ_get (by omega), stQ_get (by omega), h, csQ, Int.toNat_natCast, Int.toNat_natCast, List.drop_left, List.length_append, Nat.add_sub_cancel_left, List.take_left]
theorem rq_mem {st cs xs : List Int} {n i : Nat} {w : Int} : w ∈ rq st cs xs n i ↔ ∃ k : Nat, w = k ∧ k < n ∧ xs.getD k default ∈ rowOf st cs (xs.getD i default).toNat := by
  unfold rq
  rw [List.mem_map]
  constructor
  · rintro ⟨k, hk, rfl⟩
    rw [List.mem_filter, List.mem_range, decide_eq_true_iff] at hk
    exact ⟨k, rfl, hk.1, hk.2⟩
  · rintro ⟨k, rfl, h1, h2⟩
    exact ⟨k, by rw [List.mem_filter, List.mem_range, decide_eq_true_iff]; exact ⟨h1, h2⟩, rfl⟩
theorem rowOK_of {n : Nat} {l : List Int} (hp : l.Pairwise (· < ·)) (hr : ∀ w, w ∈ l → 0 ≤ w ∧ w < n) : rowOK n l := fun j hj => by
  have hm := hr _ (mem_getD.2 ⟨j, hj, rfl⟩)
  refine ⟨?_, hm.2⟩
  unfold prv
  split
  · omega
  · have := List.pairwise_iff_getElem.1 hp (j - 1) j (by omega) hj (by omega)
    rw [gd (by omega), gd hj]
    exact this
theorem rq_ok {st cs xs : List Int} {n i : Nat} : rowOK n (rq st cs xs n i) := by
  refine rowOK_of ?_ fun w hw => ?_
  · unfold rq
    refine List.pairwise_map.2 ?_
    refine List.Pairwise.imp (fun h => by omega) (List.Pairwise.filter _ (List.pairwise_lt_range))
  · obtain ⟨k, rfl, h1, _⟩ := rq_mem.1 hw
    omega
theorem may_q {st cs xs : List Int} {n : Nat} (hn : n ≤ 128) : mayP n n (stQ st cs xs n n) (csQ st cs xs n n) := by
  refine ⟨by omega, by omega, by rw [stQ_len]; omega, by rw [stQ_get (Nat.zero_le _)]; rfl, by rw [Int.toNat_natCast, stQ_get (Nat.le_refl _)], fun i hi => ?_, fun r hr => ?_⟩
  · rw [stQ_len] at hi
    rw [stQ_get (by omega), stQ_get (by omega), csQ, List.length_append]
    omega
  · rw [rq_row (by omega)]
    exact rq_ok
theorem xs_in {xs : List Int} {n k : Nat} (hxl : xs.length = n) (hord : ordOK xs.length xs) (hk : k < n) : ∃ v : Nat, xs.getD k default = v ∧ v < n := by
  obtain ⟨v, hv⟩ := Int.eq_ofNat_of_zero_le (hord k (by omega)).1
  have := (hord k (by omega)).2.1
  exact ⟨v, hv, by omega⟩
theorem graph_q {st cs xs : List Int} {n : Nat} (hg : graphP n n st cs) (hn : n ≤ 128) (hxl : xs.length = n) (hord : ordOK xs.length xs) : graphP n n (stQ st cs xs n n) (csQ st cs xs n n) := by
  refine ⟨⟨may_q hn, rfl, fun r hr j hj => ?_⟩, fun v hv hc => ?_⟩
  · have hrr := rq_row (st := st) (cs := cs) (xs := xs) (show r < n by omega)
    rw [hrr] at hj ⊢
    obtain ⟨k, e, h1, h2⟩ := rq_mem.1 (mem_getD.2 ⟨j, hj, rfl⟩)
    rw [e, Int.toNat_natCast, rq_row h1]
    refine rq_mem.2 ⟨r, rfl, by omega, ?_⟩
    obtain ⟨a, ha, han⟩ := xs_in hxl hord (show r < n by omega)
    obtain ⟨b, hb, hbn⟩ := xs_in hxl hord h1
    rw [ha, hb, Int.toNat_natCast] at h2
    rw [ha, hb, Int.toNat_natCast]
    exact sym_row hg han h2
  · rw [rq_row (by omega)] at hc
    obtain ⟨k, e, h1, h2⟩ := rq_mem.1 hc
    obtain rfl : v = k := by omega
    obtain ⟨a, ha, han⟩ := xs_in hxl hord h1
    rw [ha, Int.toNat_natCast] at h2
    exact hg.2 a (by omega) h2
/-- How many of row i of the renamed graph fit: as many as of the row that it stands for. -/
theorem rq_count {st cs xs : List Int} {n i : Nat} (hm : mayP n n st cs) (hxl : xs.length = n) (hord : ordOK xs.length xs) (hi : i < n) {φ ψ : Nat → Bool} (h : ∀ k, k < n → φ k = ψ (xs.getD k default).toNat) :
    ((rq st cs xs n i).filter (fun w => φ w.toNat)).length = ((rowOf st cs (xs.getD i default).toNat).filter (fun w => ψ w.toNat)).length := by
  obtain ⟨a, ha, han⟩ := xs_in hxl hord hi
  rw [ha, Int.toNat_natCast]
  have q4 := (may_row hm (show a < (n : Int).toNat by omega)).2.2.2.1
  rw [← rsum_mem (n := n) (nodup_row q4) (fun w hw => by
    obtain ⟨i, hi, e⟩ := mem_getD.1 hw
    have := row_nonneg q4 hi
    have := (q4 i hi).2
    omega), ← rsum_perm hxl hord]
  unfold rq
  rw [List.filter_map, List.length_map, List.filter_filter, rsum_filter]
  refine rsum_congr fun k hk => ?_
  obtain ⟨b, hb, hbn⟩ := xs_in hxl hord hk
  have hφ := h k hk
  rw [hb, Int.toNat_natCast] at hφ
  simp only [Function.comp, Int.toNat_natCast, ha, hb, hφ, Bool.and_eq_true, decide_eq_true_iff]
  by_cases c : ψ b = true ∧ (b : Int) ∈ rowOf st cs a
  · rw [if_pos c, if_pos ⟨c.2, c.1⟩]
  · rw [if_neg c, if_neg (fun hc => c ⟨hc.2, hc.1⟩)]
theorem cnt_q {st cs xs : List Int} {n i : Nat} (hm : mayP n n st cs) (hxl : xs.length = n) (hord : ordOK xs.length xs) (hi : i < n) {T H : List Bool} (h : ∀ k, k < n → T.getD k false = H.getD (xs.getD k default).toNat false) :
    cnt (stQ st cs xs n n) (csQ st cs xs n n) T i = cnt st cs H (xs.getD i default).toNat := by
  unfold cnt
  rw [rq_row hi]
  exact rq_count hm hxl hord hi (φ := fun k => T.getD k false) (ψ := fun w => H.getD w false) h
/-- Cores go along. -/
theorem cores_q {st cs xs : List Int} {n i : Nat} (hg : graphP n n st cs) (hn : n ≤ 128) (hxl : xs.length = n) (hord : ordOK xs.length xs) (hi : i < n) : (coresOf (stQ st cs xs n n) (csQ st cs xs n n) n).getD i default = (coresOf st cs n).getD (xs.getD i default).toNat default := by
  have hgq := graph_q hg hn hxl hord
  obtain ⟨v, hv, hvn⟩ := xs_in hxl hord hi
  rw [hv, Int.toNat_natCast]
  have hbp := (core_bounds hg n (Nat.le_refl n)).2 v hvn
  have hbq := (core_bounds hgq n (Nat.le_refl n)).2 i hi
  obtain ⟨c, hc⟩ := Int.eq_ofNat_of_zero_le hbp.1
  obtain ⟨d, hd⟩ := Int.eq_ofNat_of_zero_le hbq.1
  have hP : ∀ k, k < n → (invK xs xs.length).getD (xs.getD k default).toNat default = k := fun k hk => invK_get hord xs.length (Nat.le_refl _) k (by omega)
  -- from the graph to the renamed one
  have h1 : (c : Int) ≤ (coresOf (stQ st cs xs n n) (csQ st cs xs n n) n).getD i default := by
    have hT : ∀ k, k < n → ((List.range n).map fun k => (coreH st cs n c).getD (xs.getD k default).toNat false).getD k false = (coreH st cs n c).getD (xs.getD k default).toNat false := fun k hk => by
      simp [List.getD_eq_getElem?_getD, List.getElem?_map, List.getElem?_range hk]
    refine core_ge (may_q hn) (T := (List.range n).map fun k => (coreH st cs n c).getD (xs.getD k default).toNat false) (fun k hk hs => ?_) i hi ?_
    · rw [cnt_q hg.1.1 hxl hord hk hT]
      rw [hT k hk] at hs
      obtain ⟨a, ha, han⟩ := xs_in hxl hord hk
      rw [ha, Int.toNat_natCast] at hs ⊢
      exact core_le hg.1.1 (H := coreH st cs n c) (fun w hw => coreH_get hw) a han hs
    · rw [hT i hi, hv, Int.toNat_natCast]
      refine (coreH_get hvn).2 ?_
      unfold coresOf
      omega
  -- and back
  have h2 : (d : Int) ≤ (coresOf st cs n).getD v default := by
    have hT : ∀ k, k < n → (coreH (stQ st cs xs n n) (csQ st cs xs n n) n d).getD k false = ((List.range n).map fun w => (coreH (stQ st cs xs n n) (csQ st cs xs n n) n d).getD ((invK xs xs.length).getD w default).toNat false).getD (xs.getD k default).toNat false := fun k hk => by
      obtain ⟨a, ha, han⟩ := xs_in hxl hord hk
      have h3 := hP k hk
      rw [ha, Int.toNat_natCast] at h3 ⊢
      simp only [List.getD_eq_getElem?_getD, List.getElem?_map, List.getElem?_range han, Option.map_some, Option.getD_some]
      rw [List.getD_eq_getElem?_getD] at h3
      rw [h3, Int.toNat_natCast]
    refine core_ge hg.1.1 (T := (List.range n).map fun w => (coreH (stQ st cs xs n n) (csQ st cs xs n n) n d).getD ((invK xs xs.length).getD w default).toNat false) (fun u hu hs => ?_) v hvn ?_
    · obtain ⟨k, hk, e⟩ := ord_onto hord (show u < xs.length by omega)
      have h3 := hT k (by omega)
      rw [e, Int.toNat_natCast, hs] at h3
      have h4 := cnt_q hg.1.1 hxl hord (show k < n by omega) hT
      rw [e, Int.toNat_natCast] at h4
      rw [← h4]
      exact core_le (may_q hn) (H := coreH (stQ st cs xs n n) (csQ st cs xs n n) n d) (fun w hw => coreH_get hw) k (by omega) h3
    · have h3 := hT i hi
      rw [hv, Int.toNat_natCast] at h3
      rw [← h3]
      refine (coreH_get hi).2 ?_
      unfold coresOf
      omega
  unfold coresOf at h1 h2 ⊢
  omega
theorem mx_perm {A B xs : List Int} {n : Nat} (hxl : xs.length = n) (hord : ordOK xs.length xs) (h : ∀ i, i < n → A.getD i default = B.getD (xs.getD i default).toNat default) : mxK A n = mxK B n := by
  obtain ⟨g0, g1⟩ := mxK_ge (C := B) n
  refine mxK_uniq g0 (fun u hu => ?_) ?_
  · obtain ⟨a, ha, han⟩ := xs_in hxl hord hu
    rw [h u hu, ha, Int.toNat_natCast]
    exact g1 a han
  · rcases mxK_at (C := B) n with h1 | ⟨u, h1, h2⟩
    · exact .inl h1
    · obtain ⟨k, hk, e⟩ := ord_onto hord (show u < xs.length by omega)
      exact .inr ⟨k, by omega, by rw [h k (by omega), e, Int.toNat_natCast]; exact h2⟩
/-- An order of the renamed graph, named as before. -/
def thereOf (xs ys : List Int) : List Int := ys.map fun y => xs.getD y.toNat default
theorem there_get {xs ys : List Int} {k : Nat} (hk : k < ys.length) : (thereOf xs ys).getD k default = xs.getD (ys.getD k default).toNat default := by
  simp [thereOf, List.getD_eq_getElem?_getD, List.getElem?_map, List.getElem?_eq_getElem hk]
theorem there_len {xs ys : List Int} : (thereOf xs ys).length = ys.length := by simp [thereOf]
theorem there_ok {xs ys : List Int} {n : Nat} (hxl : xs.length = n) (hord : ordOK xs.length xs) (hyl : ys.length = n) (hoy : ordOK ys.length ys) : ordOK (thereOf xs ys).length (thereOf xs ys) := fun i hi => by
  rw [there_len] at hi ⊢
  unfold okAt
  rw [there_get hi]
  obtain ⟨b, hb, hbn⟩ := xs_in hyl hoy (show i < n by omega)
  obtain ⟨a, ha, han⟩ := xs_in hxl hord hbn
  rw [hb, Int.toNat_natCast, ha]
  refine ⟨by omega, by omega, fun j hj => ?_⟩
  rw [there_get (by omega)]
  obtain ⟨b', hb', hbn'⟩ := xs_in hyl hoy (show j < n by omega)
  rw [hb', Int.toNat_natCast]
  have hne : b' ≠ b := fun e => (hoy i hi).2.2 j hj (by rw [hb, hb', e])
  rcases Nat.lt_or_ge b' b with h1 | h1
  · have := (hord b (by omega)).2.2 b' h1
    omega
  · have := (hord b' (by omega)).2.2 b (by omega)
    omega
/-- Backs go along. -/
theorem backs_q {st cs xs ys : List Int} {n i : Nat} (hg : graphP n n st cs) (hxl : xs.length = n) (hord : ordOK xs.length xs) (hyl : ys.length = n) (hoy : ordOK ys.length ys) (hi : i < n) :
    bk (stQ st cs xs n n) (csQ st cs xs n n) (invK ys ys.length) i = bk st cs (invK (thereOf xs ys) (thereOf xs ys).length) (xs.getD i default).toNat := by
  have hP : ∀ k, k < n → (invK (thereOf xs ys) (thereOf xs ys).length).getD (xs.getD k default).toNat default = (invK ys ys.length).getD k default := fun k hk => by
    obtain ⟨j, hj, e⟩ := ord_onto hoy (show k < ys.length by omega)
    have h1 := invK_get hoy ys.length (Nat.le_refl _) j hj
    rw [e, Int.toNat_natCast] at h1
    have h2 := invK_get (there_ok hxl hord hyl hoy) (thereOf xs ys).length (Nat.le_refl _) j (by rw [there_len]; exact hj)
    rw [there_get hj, e, Int.toNat_natCast] at h2
    rw [h1, h2]
  unfold bk
  rw [rq_row hi]
  have := rq_count (st := st) (cs := cs) hg.1.1 hxl hord hi (φ := fun k => decide ((invK ys ys.length).getD k default < (invK ys ys.length).getD i default)) (ψ := fun w => decide ((invK (thereOf xs ys) (thereOf xs ys).length).getD w default < (invK (thereOf xs ys) (thereOf xs ys).length).getD (xs.getD i default).toNat default)) (fun k hk => by rw [hP k hk, hP i hi])
  exact this
end Go.Proofs.Ytgdlkhgfehclpaa
end

section
/- renamed. No condition. -/
namespace Go.Proofs.Ytgdlkhgfehclpaa
open Go Go.AL
set_option linter.unusedVariables false
set_option linter.unusedSimpArgs false
theorem bc_ofz {F : Nat → Prop} {h : Heap} {x : AV} {l : List Int} (hb : BC F h x l) : OFz h x (ints l) := by
  rcases hb with ⟨rfl, rfl⟩ | ⟨id, len, cap, ex, es, ex', rfl, q1, q2, q3, q4, q5, rfl⟩
  · exact .nils 1
  · have := OFz.osl (h := h) id 1 0 len cap ex ex' (List.map intE es) q2 (by simp; omega) (fun e he => by
      obtain ⟨x, _, rfl⟩ := List.mem_map.1 he; rfl)
    rw [List.drop_zero, ← List.map_take] at this
    exact this
theorem ofz_pat {h : Heap} {x y : AV} {st cs : List Int} {r w : Int} (hx : OFz h x (ints st)) (hy : OFz h y (ints cs)) : OFz h (.agg [.int .i64 r, .int .i64 w, x, y]) (pat r w st cs) := by
  refine .agg _ _ rfl fun q u u' hu hu' => ?_
  match q with
  | 0 => simp at hu hu'; subst hu hu'; exact .flat _ rfl
  | 1 => simp at hu hu'; subst hu hu'; exact .flat _ rfl
  | 2 => simp at hu hu'; subst hu hu'; exact hx
  | 3 => simp at hu hu'; subst hu hu'; exact hy
  | q + 4 => simp at hu
/-- Row i, as far as k. -/
def rqk (st cs xs : List Int) (i k : Nat) : List Int := ((List.range k).filter (fun k => decide (xs.getD k default ∈ rowOf st cs (xs.getD i default).toNat))).map (fun k => ((k : Nat) : Int))
theorem rqk_succ {st cs xs : List Int} {i k : Nat} : rqk st cs xs i (k + 1) = if xs.getD k default ∈ rowOf st cs (xs.getD i default).toNat then rqk st cs xs i k ++ [(k : Int)] else rqk st cs xs i k := by
  unfold rqk
  rw [List.range_succ, List.filter_append, List.map_append, List.filter_cons, List.filter_nil]
  by_cases c : xs.getD k default ∈ rowOf st cs (xs.getD i default).toNat
  · rw [if_pos c, if_pos (decide_eq_true c)]; rfl
  · rw [if_neg c, if_neg (by simpa using c)]; simp
theorem rqk_len {st cs xs : List Int} {i k : Nat} : (rqk st cs xs i k).length ≤ k := by
  unfold rqk
  rw [List.length_map]
  refine Nat.le_trans (List.length_filter_le _ _) ?_
  simp
theorem csQ_len {st cs xs : List Int} {n : Nat} : ∀ k, (csQ st cs xs n k).length ≤ k * n
  | 0 => by simp [csQ]
  | k + 1 => by
    have h1 := csQ_len (st := st) (cs := cs) (xs := xs) (n := n) k
    have h2 : (rq st cs xs n k).length ≤ n := rqk_len
    rw [csQ, List.length_append, Nat.succ_mul]
    omega
def F4 : Nat → Prop := fun i => i = 0 ∨ i = 1 ∨ i = 3
set_option maxHeartbeats 4000000 in
set_option maxRecDepth 100000 in
theorem renamed_c (n : Nat) (st cs xs : List Int) (hb : st.length < 1000000000) (hb2 : cs.length < 1000000000) (hm : mayP n n st cs) (hn : n ≤ 128) (hxl : xs.length = n) (hord : ordOK xs.length xs) :
    ACalls Try.prog 34 [pat n n st cs, ints xs] [] fun v h => OFz h v (pat n n (stQ st cs xs n n) (csQ st cs xs n n)) := by
  have hnn : n * n ≤ 128 * 128 := Nat.mul_le_mul hn hn
  refine (wp34 rfl rfl ?_)
  simp (maxSteps := 4000000) +contextual only [↓packA0, ↓packA1, ↓packA2, ↓reduceIte, packB0, packB1, packB2, packB3, packB4, pureOp, quietOp, loadOp, quietB, fr0, cellsK, Option.getD_some, Option.getD_none, implies_true, ite_true, ite_false, eq_self, ne_eq, reduceCtorEq, Nat.reduceLT, Nat.reduceLeDiff, Nat.reduceAdd, Nat.reduceMul, Nat.reduceBEq, Nat.reduceEqDiff, Int.reduceToNat, Int.reduceLT, Int.reduceLE, Nat.reduceSub, pl34, tfun_1, telem_1, tsize_2, tbytes_2, tagg_2, zcells_2, telem_2, tint_2, tnotIface_2, tsize_3, tbytes_3, tagg_3, zcells_3, telem_3, tint_3, tnotIface_3, tsize_4, tbytes_4, tagg_4, zcells_4, telem_4, tbool_4, tnotIface_4, tsize_23, tbytes_23, tagg_23, zcells_23, telem_23, tnotIface_23, tsize_45, tbytes_45, tagg_45, zcells_45, telem_45, tnotIface_45, foff_45_0, foff_45_1, foff_45_2, foff_45_3, fplaces_45, patch, ints]
  refine LoopK.intro (fun m a h => ∃ (i : Nat) (x y : AV) (B : Nat → List Int), m = n - i ∧ i ≤ n ∧ PS F4 1 h [[x], [y]] B ∧ B 0 = stQ st cs xs n i ∧ B 1 = csQ st cs xs n i ∧ h[0]? = some (patO n n st cs) ∧ h[1]? = some (.arr 4 [[.int .i64 0, .int .i64 0, .nils, .nils]] true) ∧ h[3]? = some (.arr 4 [[.int .i64 n, .int .i64 n, x, y]] true) ∧
    a 1 = ints xs ∧ a 2 = .op 0 4 0 0 ∧ a 4 = .op 1 4 0 0 ∧ a 5 = .op 3 4 0 0 ∧ a 6 = .int .i64 i) n ⟨0, .osl 2 1 0 1 1 true, .nils, fun d => if d = 0 then [0] else [], ?_⟩ ?_
  · simp (maxSteps := 4000000) only [↓packA0, ↓packA1, ↓packA2, ↓reduceIte, packB0, packB1, packB2, packB3, packB4, pureOp, quietOp, loadOp, quietB, fr0, cellsK, Option.getD_some, Option.getD_none, implies_true, ite_true, ite_false, eq_self, ne_eq, reduceCtorEq, Nat.reduceLT, Nat.reduceLeDiff, Nat.reduceAdd, Nat.reduceMul, Nat.reduceBEq, Nat.reduceEqDiff, Int.reduceToNat, Int.reduceLT, Int.reduceLE, Nat.reduceSub, pl34, tfun_1, telem_1, tsize_2, tbytes_2, tagg_2, zcells_2, telem_2, tint_2, tnotIface_2, tsize_3, tbytes_3, tagg_3, zcells_3, telem_3, tint_3, tnotIface_3, tsize_4, tbytes_4, tagg_4, zcells_4, telem_4, tbool_4, tnotIface_4, tsize_23, tbytes_23, tagg_23, zcells_23, telem_23, tnotIface_23, tsize_45, tbytes_45, tagg_45, zcells_45, telem_45, tnotIface_45, foff_45_0, foff_45_1, foff_45_2, foff_45_3, fplaces_45, patO, ints, Int.natCast_zero]
    refine ⟨⟨fun i hi => by simp [F4] at hi ⊢; omega, rfl, fun d hd => ?_, fun d d' x y i hdd hx hy hxi => ?_⟩, by simp [stQ, csQ], rfl⟩
    · match d, hd with
      | 0, _ => exact ⟨_, rfl, .inr ⟨2, 1, 1, true, [0], true, rfl, by simp [F4], rfl, by omega, by simp, by simp, rfl⟩⟩
      | 1, _ => exact ⟨_, rfl, .inl ⟨rfl, rfl⟩⟩
      | d + 2, h => exact absurd h (by omega)
    · match d, d' with
      | 0, 0 => exact absurd rfl hdd
      | 0, 1 => simp at hy; subst hy; simp [idOf]
      | 0, d' + 2 => simp at hy
      | 1, _ => simp at hx; subst hx; cases hxi
      | d + 2, _ => simp at hx
  rintro m a h ⟨i, x, y, B, rfl, hi, hP, hB0, hB1, g0, g1, g3, a1, a2, a4, a5, a6⟩
  unfold patO ints at g0
  simp (maxSteps := 4000000) +contextual only [↓packA0, ↓packA1, ↓packA2, ↓reduceIte, packB0, packB1, packB2, packB3, packB4, pureOp, quietOp, loadOp, quietB, fr0, cellsK, Option.getD_some, Option.getD_none, implies_true, ite_true, ite_false, eq_self, ne_eq, reduceCtorEq, Nat.reduceLT, Nat.reduceLeDiff, Nat.reduceAdd, Nat.reduceMul, Nat.reduceBEq, Nat.reduceEqDiff, Int.reduceToNat, Int.reduceLT, Int.reduceLE, Nat.reduceSub, pl34, tfun_1, telem_1, tsize_2, tbytes_2, tagg_2, zcells_2, telem_2, tint_2, tnotIface_2, tsize_3, tbytes_3, tagg_3, zcells_3, telem_3, tint_3, tnotIface_3, tsize_4, tbytes_4, tagg_4, zcells_4, telem_4, tbool_4, tnotIface_4, tsize_23, tbytes_23, tagg_23, zcells_23, telem_23, tnotIface_23, tsize_45, tbytes_45, tagg_45, zcells_45, telem_45, tnotIface_45, foff_45_0, foff_45_1, foff_45_2, foff_45_3, fplaces_45, ints, g0, g1, g3, a1, a2, a4, a5, a6]
  refine ⟨fun h2 => ?_, fun h2 => ?_⟩
  · obtain ⟨v, hv, hvn⟩ := xs_in hxl hord (show i < n by omega)
    refine LoopK.intro (fun m a h => ∃ (k : Nat) (x y : AV) (B : Nat → List Int), m = n - k ∧ k ≤ n ∧ PS F4 1 h [[x], [y]] B ∧ B 0 = stQ st cs xs n i ∧ B 1 = csQ st cs xs n i ++ rqk st cs xs i k ∧ h[0]? = some (.arr 4 [[.int .i64 n, .int .i64 n, .isl 1 (List.map intE st), .isl 1 (List.map intE cs)]] true) ∧ h[1]? = some (.arr 4 [[.int .i64 0, .int .i64 0, .nils, .nils]] true) ∧ h[3]? = some (.arr 4 [[.int .i64 n, .int .i64 n, x, y]] true) ∧
      a 1 = ints xs ∧ a 2 = .op 0 4 0 0 ∧ a 4 = .op 1 4 0 0 ∧ a 5 = .op 3 4 0 0 ∧ a 6 = .int .i64 i ∧ a 7 = .int .i64 k) n ⟨0, x, y, B, rfl, Nat.zero_le _, hP, hB0, by rw [hB1]; simp [rqk], g0, g1, g3, ?_⟩ ?_
    · simp (maxSteps := 4000000) only [↓packA0, ↓packA1, ↓packA2, ↓reduceIte, packB0, packB1, packB2, packB3, packB4, pureOp, quietOp, loadOp, quietB, fr0, cellsK, Option.getD_some, Option.getD_none, implies_true, ite_true, ite_false, eq_self, ne_eq, reduceCtorEq, Nat.reduceLT, Nat.reduceLeDiff, Nat.reduceAdd, Nat.reduceMul, Nat.reduceBEq, Nat.reduceEqDiff, Int.reduceToNat, Int.reduceLT, Int.reduceLE, Nat.reduceSub, pl34, tfun_1, telem_1, tsize_2, tbytes_2, tagg_2, zcells_2, telem_2, tint_2, tnotIface_2, tsize_3, tbytes_3, tagg_3, zcells_3, telem_3, tint_3, tnotIface_3, tsize_4, tbytes_4, tagg_4, zcells_4, telem_4, tbool_4, tnotIface_4, tsize_23, tbytes_23, tagg_23, zcells_23, telem_23, tnotIface_23, tsize_45, tbytes_45, tagg_45, zcells_45, telem_45, tnotIface_45, foff_45_0, foff_45_1, foff_45_2, foff_45_3, fplaces_45, ints, a1, a2, a4, a5, a6, Int.natCast_zero]
    clear hP hB0 hB1 g0 g1 g3 a1 a2 a4 a5 a6
    rintro m a h ⟨k, x, y, B, rfl, hk, hP, hB0, hB1, g0, g1, g3, a1, a2, a4, a5, a6, a7⟩
    have hb0 : BC F4 h x (B 0) := by obtain ⟨z, h3, h4⟩ := hP.bc 0 (by omega); simp at h3; subst h3; exact h4
    have hb1 : BC F4 h y (B 1) := by obtain ⟨z, h3, h4⟩ := hP.bc 1 (by omega); simp at h3; subst h3; exact h4
    obtain ⟨N, hN⟩ : ∃ N, h.length = N := ⟨_, rfl⟩
    have l3 : 3 < N := by rw [← hN]; exact (List.getElem?_eq_some_iff.1 g3).1
    have ra : ∀ t i, i < N → (h ++ t)[i]? = h[i]? := fun t i hi => List.getElem?_append_left (by omega)
    have ra0 : ∀ t, (h ++ t)[0]? = h[0]? := fun t => ra t 0 (by omega)
    have ra1 : ∀ t, (h ++ t)[1]? = h[1]? := fun t => ra t 1 (by omega)
    have ra3 : ∀ t, (h ++ t)[3]? = h[3]? := fun t => ra t 3 (by omega)
    have rN : ∀ o, (h ++ [o])[N]? = some o := fun o => by rw [List.getElem?_append_right (by omega)]; simp [hN]
    simp (maxSteps := 4000000) +contextual only [↓packA0, ↓packA1, ↓packA2, ↓reduceIte, packB0, packB1, packB2, packB3, packB4, pureOp, quietOp, loadOp, quietB, fr0, cellsK, Option.getD_some, Option.getD_none, implies_true, ite_true, ite_false, eq_self, ne_eq, reduceCtorEq, Nat.reduceLT, Nat.reduceLeDiff, Nat.reduceAdd, Nat.reduceMul, Nat.reduceBEq, Nat.reduceEqDiff, Int.reduceToNat, Int.reduceLT, Int.reduceLE, Nat.reduceSub, pl34, tfun_1, telem_1, tsize_2, tbytes_2, tagg_2, zcells_2, telem_2, tint_2, tnotIface_2, tsize_3, tbytes_3, tagg_3, zcells_3, telem_3, tint_3, tnotIface_3, tsize_4, tbytes_4, tagg_4, zcells_4, telem_4, tbool_4, tnotIface_4, tsize_23, tbytes_23, tagg_23, zcells_23, telem_23, tnotIface_23, tsize_45, tbytes_45, tagg_45, zcells_45, telem_45, tnotIface_45, foff_45_0, foff_45_1, foff_45_2, foff_45_3, fplaces_45, ints, g0, g1, g3, a1, a2, a4, a5, a6, a7, hN, ra0, ra1, ra3, rN, lenK_bc hb1]
    refine ⟨fun h3 => ⟨by omega, by omega, by omega, by omega, ?_⟩, fun h3 => ?_⟩
    · refine acalls_pure (rhas_c n n st cs hb hb2 hm (xs.getD i default) (by omega) (by omega) (xs.getD k default)) rfl ?_
      have hsz : (B 1).length < 900000 := by
        have e1 := csQ_len (st := st) (cs := cs) (xs := xs) (n := n) i
        have e2 := rqk_len (st := st) (cs := cs) (xs := xs) (i := i) (k := k)
        have e3 : i * n ≤ n * n := Nat.mul_le_mul_right _ hi
        rw [hB1, List.length_append]
        omega
      simp (maxSteps := 4000000) +contextual only [↓packA0, ↓packA1, ↓packA2, ↓reduceIte, packB0, packB1, packB2, packB3, packB4, pureOp, quietOp, loadOp, quietB, fr0, cellsK, Option.getD_some, Option.getD_none, implies_true, ite_true, ite_false, eq_self, ne_eq, reduceCtorEq, Nat.reduceLT, Nat.reduceLeDiff, Nat.reduceAdd, Nat.reduceMul, Nat.reduceBEq, Nat.reduceEqDiff, Int.reduceToNat, Int.reduceLT, Int.reduceLE, Nat.reduceSub, pl34, tfun_1, telem_1, tsize_2, tbytes_2, tagg_2, zcells_2, telem_2, tint_2, tnotIface_2, tsize_3, tbytes_3, tagg_3, zcells_3, telem_3, tint_3, tnotIface_3, tsize_4, tbytes_4, tagg_4, zcells_4, telem_4, tbool_4, tnotIface_4, tsize_23, tbytes_23, tagg_23, zcells_23, telem_23, tnotIface_23, tsize_45, tbytes_45, tagg_45, zcells_45, telem_45, tnotIface_45, foff_45_0, foff_45_1, foff_45_2, foff_45_3, fplaces_45, ints, g0, g1, g3, a1, a2, a4, a5, a6, a7, hN, ra0, ra1, ra3, rN, lenK_bc hb1]
      refine ⟨fun h4 => ?_, fun h4 => ?_⟩
      · refine push_ps (hP.app _) (show 1 ≤ 1 by omega) rfl hsz fun x' G hcx hl' hf' hP' => ?_
        obtain ⟨xi, xl, xc, xe, rfl⟩ := hcx
        have f0 := ((hf' 0 (by simp [F4])).trans (ra0 _)).trans g0
        have f1 := ((hf' 1 (by simp [F4])).trans (ra1 _)).trans g1
        have f3 := ((hf' 3 (by simp [F4])).trans (ra3 _)).trans g3
        have l3' : 3 < G.length := (List.getElem?_eq_some_iff.1 f3).1
        have d3 : ∀ o : Ob, (G.set 3 o)[3]? = some o := fun o => List.getElem?_set_self l3'
        have d0 : ∀ o : Ob, (G.set 3 o)[0]? = G[0]? := fun o => List.getElem?_set_ne (by omega)
        have d1 : ∀ o : Ob, (G.set 3 o)[1]? = G[1]? := fun o => List.getElem?_set_ne (by omega)
        simp (maxSteps := 4000000) +contextual only [↓packA0, ↓packA1, ↓packA2, ↓reduceIte, packB0, packB1, packB2, packB3, packB4, pureOp, quietOp, loadOp, quietB, fr0, cellsK, Option.getD_some, Option.getD_none, implies_true, ite_true, ite_false, eq_self, ne_eq, reduceCtorEq, Nat.reduceLT, Nat.reduceLeDiff, Nat.reduceAdd, Nat.reduceMul, Nat.reduceBEq, Nat.reduceEqDiff, Int.reduceToNat, Int.reduceLT, Int.reduceLE, Nat.reduceSub, pl34, tfun_1, telem_1, tsize_2, tbytes_2, tagg_2, zcells_2, telem_2, tint_2, tnotIface_2, tsize_3, tbytes_3, tagg_3, zcells_3, telem_3, tint_3, tnotIface_3, tsize_4, tbytes_4, tagg_4, zcells_4, telem_4, tbool_4, tnotIface_4, tsize_23, tbytes_23, tagg_23, zcells_23, telem_23, tnotIface_23, tsize_45, tbytes_45, tagg_45, zcells_45, telem_45, tnotIface_45, foff_45_0, foff_45_1, foff_45_2, foff_45_3, fplaces_45, ints, f0, f1, f3, a1, a2, a4, a5, a6, a7, d3, d0, d1]
        refine ⟨by omega, .inl ⟨n - (k + 1), by omega, k + 1, x, .osl xi 1 0 xl xc xe, updB B 1 (B 1 ++ [(k : Int)]), rfl, by omega, hP'.set (by simp [F4]) _, by rw [updB_ne (by omega)]; exact hB0, ?_, rfl, by omega⟩⟩
        rw [updB_same, hB1, rqk_succ, if_pos h4, List.append_assoc]
      · refine ⟨by omega, .inl ⟨n - (k + 1), by omega, k + 1, x, y, B, rfl, by omega, hP, hB0, ?_, rfl, by omega⟩⟩
        rw [hB1, rqk_succ, if_neg h4]
    · obtain rfl : k = n := by omega
      have hst : stQ st cs xs k (i + 1) = stQ st cs xs k i ++ [((csQ st cs xs k (i + 1)).length : Int)] := by
        unfold stQ
        rw [List.range_succ (n := i + 1), List.map_append]
        rfl
      have hcsq : B 1 = csQ st cs xs k (i + 1) := by rw [hB1]; rfl
      have hsz : (B 0).length < 900000 := by
        rw [hB0, stQ_len]
        omega
      refine push_ps (hP.app _) (show 0 ≤ 1 by omega) rfl hsz fun x' G hcx hl' hf' hP' => ?_
      obtain ⟨xi, xl, xc, xe, rfl⟩ := hcx
      have f0 := ((hf' 0 (by simp [F4])).trans (ra0 _)).trans g0
      have f1 := ((hf' 1 (by simp [F4])).trans (ra1 _)).trans g1
      have f3 := ((hf' 3 (by simp [F4])).trans (ra3 _)).trans g3
      have l3' : 3 < G.length := (List.getElem?_eq_some_iff.1 f3).1
      have d3 : ∀ o : Ob, (G.set 3 o)[3]? = some o := fun o => List.getElem?_set_self l3'
      have d0 : ∀ o : Ob, (G.set 3 o)[0]? = G[0]? := fun o => List.getElem?_set_ne (by omega)
      have d1 : ∀ o : Ob, (G.set 3 o)[1]? = G[1]? := fun o => List.getElem?_set_ne (by omega)
      simp (maxSteps := 4000000) +contextual only [↓packA0, ↓packA1, ↓packA2, ↓reduceIte, packB0, packB1, packB2, packB3, packB4, pureOp, quietOp, loadOp, quietB, fr0, cellsK, Option.getD_some, Option.getD_none, implies_true, ite_true, ite_false, eq_self, ne_eq, reduceCtorEq, Nat.reduceLT, Nat.reduceLeDiff, Nat.reduceAdd, Nat.reduceMul, Nat.reduceBEq, Nat.reduceEqDiff, Int.reduceToNat, Int.reduceLT, Int.reduceLE, Nat.reduceSub, pl34, tfun_1, telem_1, tsize_2, tbytes_2, tagg_2, zcells_2, telem_2, tint_2, tnotIface_2, tsize_3, tbytes_3, tagg_3, zcells_3, telem_3, tint_3, tnotIface_3, tsize_4, tbytes_4, tagg_4, zcells_4, telem_4, tbool_4, tnotIface_4, tsize_23, tbytes_23, tagg_23, zcells_23, telem_23, tnotIface_23, tsize_45, tbytes_45, tagg_45, zcells_45, telem_45, tnotIface_45, foff_45_0, foff_45_1, foff_45_2, foff_45_3, fplaces_45, ints, patO, f0, f1, f3, a1, a2, a4, a5, a6, a7, d3, d0, d1]
      refine ⟨by omega, .inl ⟨k - (i + 1), by omega, i + 1, .osl xi 1 0 xl xc xe, y, updB B 0 (B 0 ++ [((B 1).length : Int)]), rfl, by omega, hP'.set (by simp [F4]) _, by rw [updB_same, hB0, hst, hcsq], by rw [updB_ne (by omega)]; exact hcsq, rfl, by omega⟩⟩
  · obtain rfl : i = n := by omega
    have l1 : 1 < h.length := (List.getElem?_eq_some_iff.1 g1).1
    have s1 : ∀ o : Ob, (h.set 1 o)[1]? = some o := fun o => List.getElem?_set_self l1
    simp (maxSteps := 4000000) +contextual only [↓packA0, ↓packA1, ↓packA2, ↓reduceIte, packB0, packB1, packB2, packB3, packB4, pureOp, quietOp, loadOp, quietB, fr0, cellsK, Option.getD_some, Option.getD_none, implies_true, ite_true, ite_false, eq_self, ne_eq, reduceCtorEq, Nat.reduceLT, Nat.reduceLeDiff, Nat.reduceAdd, Nat.reduceMul, Nat.reduceBEq, Nat.reduceEqDiff, Int.reduceToNat, Int.reduceLT, Int.reduceLE, Nat.reduceSub, pl34, tfun_1, telem_1, tsize_2, tbytes_2, tagg_2, zcells_2, telem_2, tint_2, tnotIface_2, tsize_3, tbytes_3, tagg_3, zcells_3, telem_3, tint_3, tnotIface_3, tsize_4, tbytes_4, tagg_4, zcells_4, telem_4, tbool_4, tnotIface_4, tsize_23, tbytes_23, tagg_23, zcells_23, telem_23, tnotIface_23, tsize_45, tbytes_45, tagg_45, zcells_45, telem_45, tnotIface_45, foff_45_0, foff_45_1, foff_45_2, foff_45_3, fplaces_45, ints, s1]
    have hP2 := hP.set (show F4 1 by simp [F4]) (.arr 4 [[.int .i64 i, .int .i64 i, x, y]] true)
    have hb0 : BC F4 (h.set 1 (.arr 4 [[.int .i64 i, .int .i64 i, x, y]] true)) x (B 0) := by obtain ⟨z, h3, h4⟩ := hP2.bc 0 (by omega); simp at h3; subst h3; exact h4
    have hb1 : BC F4 (h.set 1 (.arr 4 [[.int .i64 i, .int .i64 i, x, y]] true)) y (B 1) := by obtain ⟨z, h3, h4⟩ := hP2.bc 1 (by omega); simp at h3; subst h3; exact h4
    rw [hB0] at hb0
    rw [hB1] at hb1
    exact ofz_pat (bc_ofz hb0) (bc_ofz hb1)
end Go.Proofs.Ytgdlkhgfehclpaa
end

section
/- Natural orders. No condition. -/
namespace Go.Proofs.Ytgdlkhgfehclpaa
open Go Go.AL
set_option linter.unusedVariables false
set_option linter.unusedSimpArgs false
def natL (n : Nat) : List Int := (List.range n).map (fun i => ((i : Nat) : Int))
theorem natL_succ {n : Nat} : natL (n + 1) = natL n ++ [(n : Int)] := by unfold natL; rw [List.range_succ, List.map_append]; rfl
theorem natL_len {n : Nat} : (natL n).length = n := by simp [natL]
theorem natL_get {n i : Nat} (h : i < n) : gv (natL n) i = i := by
  unfold gv natL
  rw [List.getD_eq_getElem?_getD, List.getElem?_map, List.getElem?_range h]
  rfl
theorem BC.app {F : Nat → Prop} {h t : Heap} {x : AV} {l : List Int} (hb : BC F h x l) : BC F (h ++ t) x l := by
  rcases hb with ⟨rfl, rfl⟩ | ⟨id, len, cap, ex, es, ex', rfl, q1, q2, q3⟩
  · exact .inl ⟨rfl, rfl⟩
  · exact .inr ⟨id, len, cap, ex, es, ex', rfl, q1, by rw [List.getElem?_append_left (List.getElem?_eq_some_iff.1 q2).1]; exact q2, q3⟩
theorem BC.weak {F F' : Nat → Prop} {h : Heap} {x : AV} {l : List Int} (hb : BC F' h x l) (hF : ∀ i, F i → F' i) : BC F h x l := by
  rcases hb with ⟨rfl, rfl⟩ | ⟨id, len, cap, ex, es, ex', rfl, q1, q2⟩
  · exact .inl ⟨rfl, rfl⟩
  · exact .inr ⟨id, len, cap, ex, es, ex', rfl, fun h => q1 (hF _ h), q2⟩
theorem push_bc {F : Nat → Prop} {h : Heap} {x : AV} {l : List Int} (hF : ∀ i, F i → i < h.length) (hb : BC F h x l) (hsm : l.length < 900000) {w : Int} {K : AV → Heap → Prop}
    (hq : ∀ x' h', (∃ id len cap ex, x' = AV.osl id 1 0 len cap ex) → h.length ≤ h'.length → (∀ i, F i → h'[i]? = h[i]?) → BC F h' x' (l ++ [w]) → K x' h') : apK 1 8 h x [[.int .i64 w]] K := by
  refine push_ps (F := F) (n := 0) (cells := [[x]]) (B := fun _ => l) ⟨hF, rfl, fun d hd => ?_, fun d d' y z i hdd hy hz hi => ?_⟩ (Nat.le_refl 0) rfl hsm fun x' h' h1 h2 h3 h4 => hq x' h' h1 h2 h3 ?_
  · match d, hd with
    | 0, _ => exact ⟨_, rfl, hb⟩
    | d + 1, h => exact absurd h (by omega)
  · match d, d' with
    | 0, 0 => exact absurd rfl hdd
    | 0, d' + 1 => simp at hz
    | d + 1, _ => simp at hy
  · obtain ⟨z, h5, h6⟩ := h4.bc 0 (Nat.le_refl _)
    simp at h5
    subst h5
    rwa [updB_same] at h6
set_option maxRecDepth 100000 in
theorem nat_at (n : Nat) (hn : n ≤ 128) (st cs : List Int) {F : Nat → Prop} {h : Heap} (hF : ∀ i, F i → i < h.length) {xs : AV} {Q : AV → Heap → Prop}
    (hq : ∀ x h', h.length ≤ h'.length → (∀ i, F i → h'[i]? = h[i]?) → BC F h' x (natL n) → Q (.tup [x, .int .i64 0]) h') : ACalls Try.prog 82 [pat n n st cs, xs] h Q := by
  refine (wp82 rfl rfl ?_)
  obtain ⟨N, hN⟩ : ∃ N, h.length = N := ⟨_, rfl⟩
  have rN : ∀ o, (h ++ [o])[N]? = some o := fun o => by rw [List.getElem?_append_right (by omega)]; simp [hN]
  simp (maxSteps := 4000000) only [↓packA0, ↓packA1, ↓packA2, ↓reduceIte, packB0, packB1, packB2, packB3, packB4, pureOp, quietOp, loadOp, quietB, fr0, cellsK, Option.getD_some, Option.getD_none, implies_true, ite_true, ite_false, eq_self, ne_eq, reduceCtorEq, Nat.reduceLT, Nat.reduceLeDiff, Nat.reduceAdd, Nat.reduceMul, Nat.reduceBEq, Nat.reduceEqDiff, Int.reduceToNat, Int.reduceLT, Int.reduceLE, Nat.reduceSub, pl82, tfun_1, telem_1, tsize_3, tbytes_3, tagg_3, zcells_3, telem_3, tint_3, tnotIface_3, tsize_23, tbytes_23, tagg_23, zcells_23, telem_23, tnotIface_23, tsize_45, tbytes_45, tagg_45, zcells_45, telem_45, tnotIface_45, foff_45_0, foff_45_1, foff_45_2, foff_45_3, fplaces_45, ints, hN, rN]
  refine LoopK.intro (fun m a g => ∃ (i : Nat) (x : AV), m = n - i ∧ i ≤ n ∧ N < g.length ∧ (∀ i, F i → g[i]? = h[i]?) ∧ BC (fun i => F i ∨ i = N) g x (natL i) ∧ g[N]? = some (patO n n st cs) ∧ a 2 = .op N 4 0 0 ∧ a 6 = x ∧ a 9 = .int .i64 n ∧ a 10 = .int .i64 i) n ⟨0, .nils, rfl, Nat.zero_le _, by simp; omega, fun i hi => List.getElem?_append_left (hF i hi), .inl ⟨rfl, rfl⟩, ?_⟩ ?_
  · simp (maxSteps := 4000000) only [↓packA0, ↓packA1, ↓packA2, ↓reduceIte, packB0, packB1, packB2, packB3, packB4, pureOp, quietOp, loadOp, quietB, fr0, cellsK, Option.getD_some, Option.getD_none, implies_true, ite_true, ite_false, eq_self, ne_eq, reduceCtorEq, Nat.reduceLT, Nat.reduceLeDiff, Nat.reduceAdd, Nat.reduceMul, Nat.reduceBEq, Nat.reduceEqDiff, Int.reduceToNat, Int.reduceLT, Int.reduceLE, Nat.reduceSub, pl82, tfun_1, telem_1, tsize_3, tbytes_3, tagg_3, zcells_3, telem_3, tint_3, tnotIface_3, tsize_23, tbytes_23, tagg_23, zcells_23, telem_23, tnotIface_23, tsize_45, tbytes_45, tagg_45, zcells_45, telem_45, tnotIface_45, foff_45_0, foff_45_1, foff_45_2, foff_45_3, fplaces_45, patO, ints, Int.natCast_zero, rN]
  rintro m a g ⟨i, x, rfl, hi, hgl, hg, hb, gN, a2, a6, a9, a10⟩
  obtain ⟨M, hM⟩ : ∃ M, g.length = M := ⟨_, rfl⟩
  have rM : ∀ o, (g ++ [o])[M]? = some o := fun o => by rw [List.getElem?_append_right (by omega)]; simp [hM]
  have hF2 : ∀ i, F i ∨ i = N → i < g.length := fun i hi => by
    rcases hi with hi | rfl
    · have := hF i hi; omega
    · exact hgl
  by_cases r : i < n
  · have r1 : (i : Int) < (n : Int) := by omega
    simp (maxSteps := 4000000) only [↓packA0, ↓packA1, ↓packA2, ↓reduceIte, packB0, packB1, packB2, packB3, packB4, pureOp, quietOp, loadOp, quietB, fr0, cellsK, Option.getD_some, Option.getD_none, implies_true, ite_true, ite_false, eq_self, ne_eq, reduceCtorEq, Nat.reduceLT, Nat.reduceLeDiff, Nat.reduceAdd, Nat.reduceMul, Nat.reduceBEq, Nat.reduceEqDiff, Int.reduceToNat, Int.reduceLT, Int.reduceLE, Nat.reduceSub, pl82, tfun_1, telem_1, tsize_3, tbytes_3, tagg_3, zcells_3, telem_3, tint_3, tnotIface_3, tsize_23, tbytes_23, tagg_23, zcells_23, telem_23, tnotIface_23, tsize_45, tbytes_45, tagg_45, zcells_45, telem_45, tnotIface_45, foff_45_0, foff_45_1, foff_45_2, foff_45_3, fplaces_45, a2, a6, a9, a10, r1, hM, rM]
    refine push_bc (F := fun i => F i ∨ i = N) (fun i hi => by simp; have := hF2 i hi; omega) hb.app (by rw [natL_len]; omega) fun x' G hcx hl' hf' hb' => ?_
    obtain ⟨xi, xl, xc, xe, rfl⟩ := hcx
    simp (maxSteps := 4000000) only [↓packA0, ↓packA1, ↓packA2, ↓reduceIte, packB0, packB1, packB2, packB3, packB4, pureOp, quietOp, loadOp, quietB, fr0, cellsK, Option.getD_some, Option.getD_none, implies_true, ite_true, ite_false, eq_self, ne_eq, reduceCtorEq, Nat.reduceLT, Nat.reduceLeDiff, Nat.reduceAdd, Nat.reduceMul, Nat.reduceBEq, Nat.reduceEqDiff, Int.reduceToNat, Int.reduceLT, Int.reduceLE, Nat.reduceSub, pl82, tfun_1, telem_1, tsize_3, tbytes_3, tagg_3, zcells_3, telem_3, tint_3, tnotIface_3, tsize_23, tbytes_23, tagg_23, zcells_23, telem_23, tnotIface_23, tsize_45, tbytes_45, tagg_45, zcells_45, telem_45, tnotIface_45, foff_45_0, foff_45_1, foff_45_2, foff_45_3, fplaces_45, a2, a6, a9, a10]
    refine ⟨by omega, .inl ⟨n - (i + 1), by omega, i + 1, .osl xi 1 0 xl xc xe, rfl, by omega, by simp at hl'; omega, fun j hj => ?_, by rw [natL_succ]; exact hb', ?_, rfl, by omega⟩⟩
    · rw [hf' j (.inl hj), List.getElem?_append_left (by have := hF j hj; omega), hg j hj]
    · rw [hf' N (.inr rfl), List.getElem?_append_left (by omega), gN]
  · have r1 : ¬ (i : Int) < (n : Int) := by omega
    simp (maxSteps := 4000000) only [↓packA0, ↓packA1, ↓packA2, ↓reduceIte, packB0, packB1, packB2, packB3, packB4, pureOp, quietOp, loadOp, quietB, fr0, cellsK, Option.getD_some, Option.getD_none, implies_true, ite_true, ite_false, eq_self, ne_eq, reduceCtorEq, Nat.reduceLT, Nat.reduceLeDiff, Nat.reduceAdd, Nat.reduceMul, Nat.reduceBEq, Nat.reduceEqDiff, Int.reduceToNat, Int.reduceLT, Int.reduceLE, Nat.reduceSub, pl82, tfun_1, telem_1, tsize_3, tbytes_3, tagg_3, zcells_3, telem_3, tint_3, tnotIface_3, tsize_23, tbytes_23, tagg_23, zcells_23, telem_23, tnotIface_23, tsize_45, tbytes_45, tagg_45, zcells_45, telem_45, tnotIface_45, foff_45_0, foff_45_1, foff_45_2, foff_45_3, fplaces_45, a2, a6, a9, a10, r1]
    obtain rfl : i = n := by omega
    exact hq x g (by omega) hg (hb.weak fun i hi => .inl hi)
set_option maxRecDepth 100000 in
theorem rnat_c (n : Nat) (hn : n ≤ 128) : ACalls Try.prog 68 [.int .i64 n] [] fun v h => OFz h v (ints (natL n)) := by
  refine (wp68 rfl rfl ?_)
  simp (maxSteps := 4000000) only [↓packA0, ↓packA1, ↓packA2, ↓reduceIte, packB0, packB1, packB2, packB3, packB4, pureOp, quietOp, loadOp, quietB, fr0, cellsK, Option.getD_some, Option.getD_none, implies_true, ite_true, ite_false, eq_self, ne_eq, reduceCtorEq, Nat.reduceLT, Nat.reduceLeDiff, Nat.reduceAdd, Nat.reduceMul, Nat.reduceBEq, Nat.reduceEqDiff, Int.reduceToNat, Int.reduceLT, Int.reduceLE, Nat.reduceSub, pl68, tfun_1, telem_1, tsize_3, tbytes_3, tagg_3, zcells_3, telem_3, tint_3, tnotIface_3, tsize_23, tbytes_23, tagg_23, zcells_23, telem_23, tnotIface_23]
  refine LoopK.intro (fun m a g => ∃ (i : Nat) (x : AV), m = n - i ∧ i ≤ n ∧ BC (fun _ => False) g x (natL i) ∧ a 0 = .int .i64 n ∧ a 3 = x ∧ a 4 = .int .i64 i) n ⟨0, .nils, rfl, Nat.zero_le _, .inl ⟨rfl, rfl⟩, ?_⟩ ?_
  · simp (maxSteps := 4000000) only [↓packA0, ↓packA1, ↓packA2, ↓reduceIte, packB0, packB1, packB2, packB3, packB4, pureOp, quietOp, loadOp, quietB, fr0, cellsK, Option.getD_some, Option.getD_none, implies_true, ite_true, ite_false, eq_self, ne_eq, reduceCtorEq, Nat.reduceLT, Nat.reduceLeDiff, Nat.reduceAdd, Nat.reduceMul, Nat.reduceBEq, Nat.reduceEqDiff, Int.reduceToNat, Int.reduceLT, Int.reduceLE, Nat.reduceSub, pl68, tfun_1, telem_1, tsize_3, tbytes_3, tagg_3, zcells_3, telem_3, tint_3, tnotIface_3, tsize_23, tbytes_23, tagg_23, zcells_23, telem_23, tnotIface_23, Int.natCast_zero]
  rintro m a g ⟨i, x, rfl, hi, hb, a0, a3, a4⟩
  obtain ⟨M, hM⟩ : ∃ M, g.length = M := ⟨_, rfl⟩
  have rM : ∀ o, (g ++ [o])[M]? = some o := fun o => by rw [List.getElem?_append_right (by omega)]; simp [hM]
  by_cases r : i < n
  · have r1 : (i : Int) < (n : Int) := by omega
    simp (maxSteps := 4000000) only [↓packA0, ↓packA1, ↓packA2, ↓reduceIte, packB0, packB1, packB2, packB3, packB4, pureOp, quietOp, loadOp, quietB, fr0, cellsK, Option.getD_some, Option.getD_none, implies_true, ite_true, ite_false, eq_self, ne_eq, reduceCtorEq, Nat.reduceLT, Nat.reduceLeDiff, Nat.reduceAdd, Nat.reduceMul, Nat.reduceBEq, Nat.reduceEqDiff, Int.reduceToNat, Int.reduceLT, Int.reduceLE, Nat.reduceSub, pl68, tfun_1, telem_1, tsize_3, tbytes_3, tagg_3, zcells_3, telem_3, tint_3, tnotIface_3, tsize_23, tbytes_23, tagg_23, zcells_23, telem_23, tnotIface_23, a0, a3, a4, r1, hM, rM]
    refine push_bc (F := fun _ => False) (fun i hi => hi.elim) hb.app (by rw [natL_len]; omega) fun x' G hcx hl' hf' hb' => ?_
    obtain ⟨xi, xl, xc, xe, rfl⟩ := hcx
    simp (maxSteps := 4000000) only [↓packA0, ↓packA1, ↓packA2, ↓reduceIte, packB0, packB1, packB2, packB3, packB4, pureOp, quietOp, loadOp, quietB, fr0, cellsK, Option.getD_some, Option.getD_none, implies_true, ite_true, ite_false, eq_self, ne_eq, reduceCtorEq, Nat.reduceLT, Nat.reduceLeDiff, Nat.reduceAdd, Nat.reduceMul, Nat.reduceBEq, Nat.reduceEqDiff, Int.reduceToNat, Int.reduceLT, Int.reduceLE, Nat.reduceSub, pl68, tfun_1, telem_1, tsize_3, tbytes_3, tagg_3, zcells_3, telem_3, tint_3, tnotIface_3, tsize_23, tbytes_23, tagg_23, zcells_23, telem_23, tnotIface_23, a0, a3, a4]
    exact ⟨by omega, .inl ⟨n - (i + 1), by omega, i + 1, .osl xi 1 0 xl xc xe, rfl, by omega, by rw [natL_succ]; exact hb', rfl, by omega⟩⟩
  · have r1 : ¬ (i : Int) < (n : Int) := by omega
    simp (maxSteps := 4000000) only [↓packA0, ↓packA1, ↓packA2, ↓reduceIte, packB0, packB1, packB2, packB3, packB4, pureOp, quietOp, loadOp, quietB, fr0, cellsK, Option.getD_some, Option.getD_none, implies_true, ite_true, ite_false, eq_self, ne_eq, reduceCtorEq, Nat.reduceLT, Nat.reduceLeDiff, Nat.reduceAdd, Nat.reduceMul, Nat.reduceBEq, Nat.reduceEqDiff, Int.reduceToNat, Int.reduceLT, Int.reduceLE, Nat.reduceSub, pl68, tfun_1, telem_1, tsize_3, tbytes_3, tagg_3, zcells_3, telem_3, tint_3, tnotIface_3, tsize_23, tbytes_23, tagg_23, zcells_23, telem_23, tnotIface_23, a0, a3, a4, r1]
    obtain rfl : i = n := by omega
    exact bc_ofz hb
end Go.Proofs.Ytgdlkhgfehclpaa
end

section
/- Largest first. No condition. -/
namespace Go.Proofs.Ytgdlkhgfehclpaa
open Go Go.AL
set_option linter.unusedVariables false
set_option linter.unusedSimpArgs false
/-- The degree of a vertex. -/
def degI (st cs : List Int) (x : Int) : Int := ((rowOf st cs x.toNat).length : Int)
/-- Two strictly sorted lists of the same members are one. -/
theorem sorted_uniq {d : Int → Int} : ∀ (l1 l2 : List Int), l1.Pairwise (ltD d) → l2.Pairwise (ltD d) → (∀ x, x ∈ l1 ↔ x ∈ l2) → l1 = l2
  | [], [], _, _, _ => rfl
  | [], y :: l2, _, _, h => by have := (h y).2 (by simp); simp at this
  | x :: l1, [], _, _, h => by have := (h x).1 (by simp); simp at this
  | x :: l1, y :: l2, h1, h2, h => by
    have p1 := List.pairwise_cons.1 h1
    have p2 := List.pairwise_cons.1 h2
    have hxy : x = y := by
      have q1 := (h x).1 (by simp)
      have q2 := (h y).2 (by simp)
      rcases List.mem_cons.1 q1 with e | e
      · exact e
      rcases List.mem_cons.1 q2 with e2 | e2
      · exact e2.symm
      exact absurd (ltD_trans (p2.1 x e) (p1.1 y e2)) ltD_irrefl
    subst hxy
    congr 1
    refine sorted_uniq l1 l2 p1.2 p2.2 fun z => ⟨fun hz => ?_, fun hz => ?_⟩
    · rcases List.mem_cons.1 ((h z).1 (List.mem_cons_of_mem _ hz)) with e | e
      · subst e; exact absurd (p1.1 z hz) ltD_irrefl
      · exact e
    · rcases List.mem_cons.1 ((h z).2 (List.mem_cons_of_mem _ hz)) with e | e
      · subst e; exact absurd (p2.1 z hz) ltD_irrefl
      · exact e
/-- Sorted by falling degree, with all vertices. -/
structure LG (d : Int → Int) (n : Nat) (l : List Int) : Prop where
  pw : l.Pairwise (ltD d)
  mem : ∀ x, x ∈ l ↔ 0 ≤ x ∧ x < n
theorem LG.uniq {d : Int → Int} {n : Nat} {l l' : List Int} (h : LG d n l) (h' : LG d n l') : l = l' := sorted_uniq l l' h.pw h'.pw fun x => by rw [h.mem, h'.mem]
theorem gv_eq {l : List Int} {i : Nat} (h : i < l.length) : gv l i = l[i] := by simp [gv, List.getD_eq_getElem?_getD, List.getElem?_eq_getElem h]
theorem gv_take {l : List Int} {i n : Nat} (h : i < n) : gv (l.take n) i = gv l i := by
  unfold gv
  rw [List.getD_eq_getElem?_getD, List.getD_eq_getElem?_getD, List.getElem?_take_of_lt h]
theorem natL_mem {n : Nat} {x : Int} : x ∈ natL n ↔ 0 ≤ x ∧ x < n := by
  unfold natL
  rw [List.mem_map]
  constructor
  · rintro ⟨i, hi, rfl⟩; have := List.mem_range.1 hi; omega
  · rintro ⟨h1, h2⟩; exact ⟨x.toNat, List.mem_range.2 (by omega), by omega⟩
theorem lg_of {d : Int → Int} {es gs : List Int} {n : Nat} (hn : n ≤ es.length) (he : es.take n = natL n) (hs : Sm es gs 0 n) (hd : Sd d gs 0 n) : LG d n (gs.take n) := by
  have hl : (gs.take n).length = n := by rw [List.length_take, hs.len]; omega
  have hi : ∀ i, i < n → gv es i = i := fun i h => by rw [← gv_take h, he, natL_get h]
  refine ⟨List.pairwise_iff_getElem.2 fun i j h1 h2 h3 => ?_, fun x => ?_⟩
  · rw [← gv_eq h1, ← gv_eq h2, gv_take (by omega), gv_take (by omega)]
    exact hd i j (by omega) h3 (by omega)
  · constructor
    · intro h
      obtain ⟨i, h1, e⟩ := List.getElem_of_mem h
      rw [← gv_eq h1, gv_take (by omega)] at e
      obtain ⟨j, j1, j2, e2⟩ := hs.to i (Nat.zero_le _) (by omega)
      rw [e2, hi j j2] at e
      omega
    · rintro ⟨h1, h2⟩
      obtain ⟨j, j1, j2, e2⟩ := hs.fro x.toNat (Nat.zero_le _) (by omega)
      rw [hi _ (by omega), ← gv_take j2] at e2
      rw [show x = gv (gs.take n) j by omega, gv_eq (by omega)]
      exact List.getElem_mem _
/-- One degree's vertices below k. -/
def lgRow (d : Int → Int) (e : Int) (k : Nat) : List Int := (natL k).filter (fun v => decide (d v = e))
theorem lgRow_succ {d : Int → Int} {e : Int} {k : Nat} : lgRow d e (k + 1) = if d k = e then lgRow d e k ++ [(k : Int)] else lgRow d e k := by
  unfold lgRow
  rw [natL_succ, List.filter_append, List.filter_cons, List.filter_nil]
  by_cases c : d k = e
  · rw [if_pos c, if_pos (decide_eq_true c)]
  · rw [if_neg c, if_neg (by simpa using c), List.append_nil]
/-- The first k degrees from n downward. -/
def lgK (d : Int → Int) (n : Nat) : Nat → List Int
  | 0 => []
  | k + 1 => lgK d n k ++ lgRow d ((n : Int) - k) n
theorem lgRow_mem {d : Int → Int} {e : Int} {k : Nat} {x : Int} : x ∈ lgRow d e k ↔ (0 ≤ x ∧ x < k) ∧ d x = e := by
  unfold lgRow
  rw [List.mem_filter, natL_mem, decide_eq_true_eq]
theorem lgK_mem {d : Int → Int} {n : Nat} {x : Int} : ∀ k, x ∈ lgK d n k ↔ (0 ≤ x ∧ x < n) ∧ (n : Int) - k < d x ∧ d x ≤ n
  | 0 => by simp only [lgK, List.not_mem_nil, false_iff]; omega
  | k + 1 => by
    rw [lgK, List.mem_append, lgK_mem k, lgRow_mem]
    omega
theorem natL_pw {k : Nat} : (natL k).Pairwise (· < ·) := by
  unfold natL
  rw [List.pairwise_map]
  exact List.Pairwise.imp (fun h => by omega) List.pairwise_lt_range
theorem lgRow_pw {d : Int → Int} {e : Int} {k : Nat} : (lgRow d e k).Pairwise (ltD d) := by
  have h1 : (lgRow d e k).Pairwise (· < ·) := List.Pairwise.filter _ natL_pw
  refine List.Pairwise.imp_of_mem (fun {a b} ha hb hab => ?_) h1
  have h2 := (lgRow_mem.1 ha).2
  have h3 := (lgRow_mem.1 hb).2
  exact .inr ⟨by omega, hab⟩
theorem lgK_pw {d : Int → Int} {n : Nat} : ∀ k, (lgK d n k).Pairwise (ltD d)
  | 0 => .nil
  | k + 1 => by
    rw [lgK]
    refine List.pairwise_append.2 ⟨lgK_pw k, lgRow_pw, fun x hx y hy => ?_⟩
    have h1 := (lgK_mem k).1 hx
    have h2 := lgRow_mem.1 hy
    exact .inl (by omega)
def lgL (st cs : List Int) (n : Nat) : List Int := lgK (degI st cs) n (n + 1)
theorem lgL_ok {st cs : List Int} {n : Nat} (hm : mayP n n st cs) : LG (degI st cs) n (lgL st cs n) := by
  refine ⟨lgK_pw _, fun x => ?_⟩
  unfold lgL
  rw [lgK_mem]
  constructor
  · exact fun h => h.1
  · intro h
    refine ⟨h, ?_⟩
    have := row_len hm (v := x.toNat) (by omega)
    unfold degI
    omega
theorem nodup_natL {n : Nat} : (natL n).Nodup := List.Pairwise.imp (fun {a b} hab e => by subst e; omega) natL_pw
theorem LG.nodup {d : Int → Int} {n : Nat} {l : List Int} (h : LG d n l) : l.Nodup := List.Pairwise.imp (fun {a b} hab e => by subst e; exact ltD_irrefl hab) h.pw
theorem lg_len {d : Int → Int} {n : Nat} {l : List Int} (h : LG d n l) : l.length = n := by
  have := ((List.perm_ext_iff_of_nodup h.nodup nodup_natL).2 fun x => by rw [h.mem, natL_mem]).length_eq
  rw [this, natL_len]
theorem lgRow_len {d : Int → Int} {e : Int} {k : Nat} : (lgRow d e k).length ≤ k := by
  have := List.length_filter_le (fun v => decide (d v = e)) (natL k)
  rw [natL_len] at this
  exact this
theorem lgK_len {d : Int → Int} {n : Nat} : ∀ k, (lgK d n k).length ≤ k * n
  | 0 => by simp [lgK]
  | k + 1 => by
    have h1 := lgK_len (d := d) (n := n) k
    have h2 := lgRow_len (d := d) (e := (n : Int) - k) (k := n)
    rw [lgK, List.length_append, Nat.succ_mul]
    omega
theorem cmp_lg {n : Nat} {st cs : List Int} (hb : st.length < 1000000000) (hb2 : cs.length < 1000000000) (hm : mayP n n st cs) {pid : Nat} : Cmp pid (patO n n st cs) n (degI st cs) := by
  intro x y h Q hh hx hy hq
  refine lcmp_c n n st cs hb hb2 hm hx hy hh (hq _ ?_)
  unfold cmpI degI
  split
  · omega
  · split <;> omega
set_option maxRecDepth 100000 in
theorem rlar_c (n : Nat) (hn : n ≤ 128) (st cs : List Int) (hb : st.length < 1000000000) (hb2 : cs.length < 1000000000) (hm : mayP n n st cs) : ACalls Try.prog 69 [pat n n st cs] [] fun v h => OFz h v (ints (lgL st cs n)) := by
  refine (wp69 rfl rfl ?_)
  simp (maxSteps := 4000000) only [↓packA0, ↓packA1, ↓packA2, ↓reduceIte, packB0, packB1, packB2, packB3, packB4, pureOp, quietOp, loadOp, quietB, fr0, cellsK, Option.getD_some, Option.getD_none, implies_true, ite_true, ite_false, eq_self, ne_eq, reduceCtorEq, Nat.reduceLT, Nat.reduceLeDiff, Nat.reduceAdd, Nat.reduceMul, Nat.reduceBEq, Nat.reduceEqDiff, Int.reduceToNat, Int.reduceLT, Int.reduceLE, Nat.reduceSub, pl69, tfun_1, telem_1, tsize_3, tbytes_3, tagg_3, zcells_3, telem_3, tint_3, tnotIface_3, tsize_23, tbytes_23, tagg_23, zcells_23, telem_23, tnotIface_23, tsize_45, tbytes_45, tagg_45, zcells_45, telem_45, tnotIface_45, foff_45_0, foff_45_1, foff_45_2, foff_45_3, fplaces_45, ints]
  refine LoopK.intro (fun m a g => ∃ (k : Nat) (x : AV), m = n + 1 - k ∧ k ≤ n + 1 ∧ BC (fun i => i = 0) g x (lgK (degI st cs) n k) ∧ g[0]? = some (patO n n st cs) ∧ a 1 = .op 0 4 0 0 ∧ a 3 = x ∧ a 4 = .int .i64 ((n : Int) - k)) (n + 1) ⟨0, .nils, rfl, Nat.zero_le _, .inl ⟨rfl, rfl⟩, ?_⟩ ?_
  · simp (maxSteps := 4000000) only [↓packA0, ↓packA1, ↓packA2, ↓reduceIte, packB0, packB1, packB2, packB3, packB4, pureOp, quietOp, loadOp, quietB, fr0, cellsK, Option.getD_some, Option.getD_none, implies_true, ite_true, ite_false, eq_self, ne_eq, reduceCtorEq, Nat.reduceLT, Nat.reduceLeDiff, Nat.reduceAdd, Nat.reduceMul, Nat.reduceBEq, Nat.reduceEqDiff, Int.reduceToNat, Int.reduceLT, Int.reduceLE, Nat.reduceSub, pl69, tfun_1, telem_1, tsize_3, tbytes_3, tagg_3, zcells_3, telem_3, tint_3, tnotIface_3, tsize_23, tbytes_23, tagg_23, zcells_23, telem_23, tnotIface_23, tsize_45, tbytes_45, tagg_45, zcells_45, telem_45, tnotIface_45, foff_45_0, foff_45_1, foff_45_2, foff_45_3, fplaces_45, patO, ints]
    omega
  rintro m a g ⟨k, x, rfl, hk, hb1, g0, a1, a3, a4⟩
  unfold patO ints at g0
  by_cases r : k ≤ n
  · have r1 : (n : Int) - (k : Int) ≥ 0 := by omega
    simp (maxSteps := 4000000) only [↓packA0, ↓packA1, ↓packA2, ↓reduceIte, packB0, packB1, packB2, packB3, packB4, pureOp, quietOp, loadOp, quietB, fr0, cellsK, Option.getD_some, Option.getD_none, implies_true, ite_true, ite_false, eq_self, ne_eq, reduceCtorEq, Nat.reduceLT, Nat.reduceLeDiff, Nat.reduceAdd, Nat.reduceMul, Nat.reduceBEq, Nat.reduceEqDiff, Int.reduceToNat, Int.reduceLT, Int.reduceLE, Nat.reduceSub, pl69, tfun_1, telem_1, tsize_3, tbytes_3, tagg_3, zcells_3, telem_3, tint_3, tnotIface_3, tsize_23, tbytes_23, tagg_23, zcells_23, telem_23, tnotIface_23, tsize_45, tbytes_45, tagg_45, zcells_45, telem_45, tnotIface_45, foff_45_0, foff_45_1, foff_45_2, foff_45_3, fplaces_45, a1, a3, a4, r1, g0]
    refine LoopK.intro (fun m a g => ∃ (v : Nat) (x : AV), m = n - v ∧ v ≤ n ∧ BC (fun i => i = 0) g x (lgK (degI st cs) n k ++ lgRow (degI st cs) ((n : Int) - k) v) ∧ g[0]? = some (patO n n st cs) ∧ a 1 = .op 0 4 0 0 ∧ a 3 = x ∧ a 4 = .int .i64 ((n : Int) - k) ∧ a 5 = .int .i64 v) n ⟨0, x, rfl, Nat.zero_le _, ?_, g0, ?_⟩ ?_
    · rw [show lgRow (degI st cs) ((n : Int) - k) 0 = [] from rfl, List.append_nil]; exact hb1
    · simp (maxSteps := 4000000) only [↓packA0, ↓packA1, ↓packA2, ↓reduceIte, packB0, packB1, packB2, packB3, packB4, pureOp, quietOp, loadOp, quietB, fr0, cellsK, Option.getD_some, Option.getD_none, implies_true, ite_true, ite_false, eq_self, ne_eq, reduceCtorEq, Nat.reduceLT, Nat.reduceLeDiff, Nat.reduceAdd, Nat.reduceMul, Nat.reduceBEq, Nat.reduceEqDiff, Int.reduceToNat, Int.reduceLT, Int.reduceLE, Nat.reduceSub, pl69, tfun_1, telem_1, tsize_3, tbytes_3, tagg_3, zcells_3, telem_3, tint_3, tnotIface_3, tsize_23, tbytes_23, tagg_23, zcells_23, telem_23, tnotIface_23, tsize_45, tbytes_45, tagg_45, zcells_45, telem_45, tnotIface_45, foff_45_0, foff_45_1, foff_45_2, foff_45_3, fplaces_45, a1, a3, a4, Int.natCast_zero]
    clear hb1 g0 a1 a3 a4 x
    rintro m a g ⟨v, x, rfl, hv, hb1, g0, a1, a3, a4, a5⟩
    unfold patO ints at g0
    obtain ⟨M, hM⟩ : ∃ M, g.length = M := ⟨_, rfl⟩
    have l0 : 0 < M := by rw [← hM]; exact (List.getElem?_eq_some_iff.1 g0).1
    have rM : ∀ o, (g ++ [o])[M]? = some o := fun o => by rw [List.getElem?_append_right (by omega)]; simp [hM]
    by_cases r2 : v < n
    · have r3 : (v : Int) < (n : Int) := by omega
      simp (maxSteps := 4000000) only [↓packA0, ↓packA1, ↓packA2, ↓reduceIte, packB0, packB1, packB2, packB3, packB4, pureOp, quietOp, loadOp, quietB, fr0, cellsK, Option.getD_some, Option.getD_none, implies_true, ite_true, ite_false, eq_self, ne_eq, reduceCtorEq, Nat.reduceLT, Nat.reduceLeDiff, Nat.reduceAdd, Nat.reduceMul, Nat.reduceBEq, Nat.reduceEqDiff, Int.reduceToNat, Int.reduceLT, Int.reduceLE, Nat.reduceSub, pl69, tfun_1, telem_1, tsize_3, tbytes_3, tagg_3, zcells_3, telem_3, tint_3, tnotIface_3, tsize_23, tbytes_23, tagg_23, zcells_23, telem_23, tnotIface_23, tsize_45, tbytes_45, tagg_45, zcells_45, telem_45, tnotIface_45, foff_45_0, foff_45_1, foff_45_2, foff_45_3, fplaces_45, a1, a3, a4, a5, g0, r3]
      refine acalls_pure (rneigh_c n n st cs hb hb2 hm v (by omega) (by omega)) rfl ?_
      by_cases c : degI st cs v = (n : Int) - k
      · have c1 : ((rowOf st cs v).length : Int) = (n : Int) - (k : Int) := by unfold degI at c; rw [Int.toNat_natCast] at c; exact c
        simp (maxSteps := 4000000) only [↓packA0, ↓packA1, ↓packA2, ↓reduceIte, packB0, packB1, packB2, packB3, packB4, pureOp, quietOp, loadOp, quietB, fr0, cellsK, Option.getD_some, Option.getD_none, implies_true, ite_true, ite_false, eq_self, ne_eq, reduceCtorEq, Nat.reduceLT, Nat.reduceLeDiff, Nat.reduceAdd, Nat.reduceMul, Nat.reduceBEq, Nat.reduceEqDiff, Int.reduceToNat, Int.reduceLT, Int.reduceLE, Nat.reduceSub, pl69, tfun_1, telem_1, tsize_3, tbytes_3, tagg_3, zcells_3, telem_3, tint_3, tnotIface_3, tsize_23, tbytes_23, tagg_23, zcells_23, telem_23, tnotIface_23, tsize_45, tbytes_45, tagg_45, zcells_45, telem_45, tnotIface_45, foff_45_0, foff_45_1, foff_45_2, foff_45_3, fplaces_45, ints, a1, a3, a4, a5, g0, r3, c1, hM, rM]
        refine push_bc (F := fun i => i = 0) (fun i hi => by simp [hM]; omega) hb1.app ?_ fun x' G hcx hl' hf' hb' => ?_
        · have h1 := lgK_len (d := degI st cs) (n := n) k
          have h2 := lgRow_len (d := degI st cs) (e := (n : Int) - k) (k := v)
          have h3 : k * n ≤ 129 * 128 := Nat.mul_le_mul (by omega) hn
          rw [List.length_append]
          omega
        obtain ⟨xi, xl, xc, xe, rfl⟩ := hcx
        simp (maxSteps := 4000000) only [↓packA0, ↓packA1, ↓packA2, ↓reduceIte, packB0, packB1, packB2, packB3, packB4, pureOp, quietOp, loadOp, quietB, fr0, cellsK, Option.getD_some, Option.getD_none, implies_true, ite_true, ite_false, eq_self, ne_eq, reduceCtorEq, Nat.reduceLT, Nat.reduceLeDiff, Nat.reduceAdd, Nat.reduceMul, Nat.reduceBEq, Nat.reduceEqDiff, Int.reduceToNat, Int.reduceLT, Int.reduceLE, Nat.reduceSub, pl69, tfun_1, telem_1, tsize_3, tbytes_3, tagg_3, zcells_3, telem_3, tint_3, tnotIface_3, tsize_23, tbytes_23, tagg_23, zcells_23, telem_23, tnotIface_23, tsize_45, tbytes_45, tagg_45, zcells_45, telem_45, tnotIface_45, foff_45_0, foff_45_1, foff_45_2, foff_45_3, fplaces_45, a1, a3, a4, a5]
        refine ⟨by omega, .inl ⟨n - (v + 1), by omega, v + 1, .osl xi 1 0 xl xc xe, rfl, by omega, ?_, ?_, rfl, by omega⟩⟩
        · rw [lgRow_succ, if_pos c, ← List.append_assoc]; exact hb'
        · rw [hf' 0 rfl, List.getElem?_append_left (by omega), g0]; rfl
      · have c1 : ¬ ((rowOf st cs v).length : Int) = (n : Int) - (k : Int) := by unfold degI at c; rw [Int.toNat_natCast] at c; exact c
        simp (maxSteps := 4000000) only [↓packA0, ↓packA1, ↓packA2, ↓reduceIte, packB0, packB1, packB2, packB3, packB4, pureOp, quietOp, loadOp, quietB, fr0, cellsK, Option.getD_some, Option.getD_none, implies_true, ite_true, ite_false, eq_self, ne_eq, reduceCtorEq, Nat.reduceLT, Nat.reduceLeDiff, Nat.reduceAdd, Nat.reduceMul, Nat.reduceBEq, Nat.reduceEqDiff, Int.reduceToNat, Int.reduceLT, Int.reduceLE, Nat.reduceSub, pl69, tfun_1, telem_1, tsize_3, tbytes_3, tagg_3, zcells_3, telem_3, tint_3, tnotIface_3, tsize_23, tbytes_23, tagg_23, zcells_23, telem_23, tnotIface_23, tsize_45, tbytes_45, tagg_45, zcells_45, telem_45, tnotIface_45, foff_45_0, foff_45_1, foff_45_2, foff_45_3, fplaces_45, ints, a1, a3, a4, a5, g0, r3, c1]
        refine ⟨by omega, .inl ⟨n - (v + 1), by omega, v + 1, x, rfl, by omega, ?_, rfl, rfl, by omega⟩⟩
        rw [lgRow_succ, if_neg c]; exact hb1
    · have r3 : ¬ (v : Int) < (n : Int) := by omega
      simp (maxSteps := 4000000) only [↓packA0, ↓packA1, ↓packA2, ↓reduceIte, packB0, packB1, packB2, packB3, packB4, pureOp, quietOp, loadOp, quietB, fr0, cellsK, Option.getD_some, Option.getD_none, implies_true, ite_true, ite_false, eq_self, ne_eq, reduceCtorEq, Nat.reduceLT, Nat.reduceLeDiff, Nat.reduceAdd, Nat.reduceMul, Nat.reduceBEq, Nat.reduceEqDiff, Int.reduceToNat, Int.reduceLT, Int.reduceLE, Nat.reduceSub, pl69, tfun_1, telem_1, tsize_3, tbytes_3, tagg_3, zcells_3, telem_3, tint_3, tnotIface_3, tsize_23, tbytes_23, tagg_23, zcells_23, telem_23, tnotIface_23, tsize_45, tbytes_45, tagg_45, zcells_45, telem_45, tnotIface_45, foff_45_0, foff_45_1, foff_45_2, foff_45_3, fplaces_45, a1, a3, a4, a5, g0, r3]
      obtain rfl : v = n := by omega
      exact ⟨by omega, .inl ⟨v + 1 - (k + 1), by omega, k + 1, x, rfl, by omega, hb1, rfl, rfl, by omega⟩⟩
  · have r1 : ¬ (n : Int) - (k : Int) ≥ 0 := by omega
    simp (maxSteps := 4000000) only [↓packA0, ↓packA1, ↓packA2, ↓reduceIte, packB0, packB1, packB2, packB3, packB4, pureOp, quietOp, loadOp, quietB, fr0, cellsK, Option.getD_some, Option.getD_none, implies_true, ite_true, ite_false, eq_self, ne_eq, reduceCtorEq, Nat.reduceLT, Nat.reduceLeDiff, Nat.reduceAdd, Nat.reduceMul, Nat.reduceBEq, Nat.reduceEqDiff, Int.reduceToNat, Int.reduceLT, Int.reduceLE, Nat.reduceSub, pl69, tfun_1, telem_1, tsize_3, tbytes_3, tagg_3, zcells_3, telem_3, tint_3, tnotIface_3, tsize_23, tbytes_23, tagg_23, zcells_23, telem_23, tnotIface_23, tsize_45, tbytes_45, tagg_45, zcells_45, telem_45, tnotIface_45, foff_45_0, foff_45_1, foff_45_2, foff_45_3, fplaces_45, a1, a3, a4, r1, g0]
    obtain rfl : k = n + 1 := by omega
    exact bc_ofz hb1
set_option maxRecDepth 100000 in
theorem stable_nil {h : Heap} {fv : AV} {Q : AV → Heap → Prop} (hq : Q (.tup []) h) : ACalls Try.prog 116 [.nils, .int .i64 0, fv] h Q := by
  refine wp116 rfl rfl ?_
  simp (maxSteps := 4000000) only [↓packA0, ↓packA1, ↓packA2, ↓reduceIte, packB0, packB1, packB2, packB3, packB4, pureOp, quietOp, loadOp, quietB, fr0, cellsK, Option.getD_some, Option.getD_none, implies_true, ite_true, ite_false, eq_self, ne_eq, reduceCtorEq, Nat.reduceLT, Nat.reduceLeDiff, Nat.reduceAdd, Nat.reduceMul, Nat.reduceBEq, Nat.reduceEqDiff, Int.reduceToNat, Int.reduceLT, Int.reduceLE, Nat.reduceSub, pl116, tsize_3, tbytes_3, tagg_3, zcells_3, telem_3, tint_3, tnotIface_3, tsize_23, tbytes_23, tagg_23, zcells_23, telem_23, tnotIface_23, tfun_160, telem_160, Int.cast_ofNat_Int, Int.natCast_zero, Int.natCast_one, Int.reduceAdd, Int.reduceSub, Int.reduceNeg, Int.reduceMul, Int.reduceToNat, Int.reduceLT, Int.reduceLE, Int.reduceEq, Int.reduceBEq, Int.reduceBNe, Nat.reduceSub, Nat.reduceLT, List.getD_cons_zero, List.getD_cons_succ, List.length_singleton, Bool.and_true, Bool.and_false]
  refine LoopN.loop 1 ?_
  simp (maxSteps := 4000000) only [↓packA0, ↓packA1, ↓packA2, ↓reduceIte, packB0, packB1, packB2, packB3, packB4, pureOp, quietOp, loadOp, quietB, fr0, cellsK, Option.getD_some, Option.getD_none, implies_true, ite_true, ite_false, eq_self, ne_eq, reduceCtorEq, Nat.reduceLT, Nat.reduceLeDiff, Nat.reduceAdd, Nat.reduceMul, Nat.reduceBEq, Nat.reduceEqDiff, Int.reduceToNat, Int.reduceLT, Int.reduceLE, Nat.reduceSub, pl116, tsize_3, tbytes_3, tagg_3, zcells_3, telem_3, tint_3, tnotIface_3, tsize_23, tbytes_23, tagg_23, zcells_23, telem_23, tnotIface_23, tfun_160, telem_160, ↓LoopN_succ, Int.cast_ofNat_Int, Int.natCast_zero, Int.natCast_one, Int.reduceAdd, Int.reduceSub, Int.reduceNeg, Int.reduceMul, Int.reduceToNat, Int.reduceLT, Int.reduceLE, Int.reduceEq, Int.reduceBEq, Int.reduceBNe, Nat.reduceSub, Nat.reduceLT, List.getD_cons_zero, List.getD_cons_succ, List.length_singleton, Bool.and_true, Bool.and_false]
  refine wp125 rfl rfl ?_
  simp (maxSteps := 4000000) only [↓packA0, ↓packA1, ↓packA2, ↓reduceIte, packB0, packB1, packB2, packB3, packB4, pureOp, quietOp, loadOp, quietB, fr0, cellsK, Option.getD_some, Option.getD_none, implies_true, ite_true, ite_false, eq_self, ne_eq, reduceCtorEq, Nat.reduceLT, Nat.reduceLeDiff, Nat.reduceAdd, Nat.reduceMul, Nat.reduceBEq, Nat.reduceEqDiff, Int.reduceToNat, Int.reduceLT, Int.reduceLE, Nat.reduceSub, pl125, tsize_3, tbytes_3, tagg_3, zcells_3, telem_3, tint_3, tnotIface_3, tsize_23, tbytes_23, tagg_23, zcells_23, telem_23, tnotIface_23, pl116, tfun_160, telem_160, Int.cast_ofNat_Int, Int.natCast_zero, Int.natCast_one, Int.reduceAdd, Int.reduceSub, Int.reduceNeg, Int.reduceMul, Int.reduceToNat, Int.reduceLT, Int.reduceLE, Int.reduceEq, Int.reduceBEq, Int.reduceBNe, Nat.reduceSub, Nat.reduceLT, List.getD_cons_zero, List.getD_cons_succ, List.length_singleton, Bool.and_true, Bool.and_false]
  refine LoopN.loop 1 ?_
  simp (maxSteps := 4000000) only [↓packA0, ↓packA1, ↓packA2, ↓reduceIte, packB0, packB1, packB2, packB3, packB4, pureOp, quietOp, loadOp, quietB, fr0, cellsK, Option.getD_some, Option.getD_none, implies_true, ite_true, ite_false, eq_self, ne_eq, reduceCtorEq, Nat.reduceLT, Nat.reduceLeDiff, Nat.reduceAdd, Nat.reduceMul, Nat.reduceBEq, Nat.reduceEqDiff, Int.reduceToNat, Int.reduceLT, Int.reduceLE, Nat.reduceSub, pl125, tsize_3, tbytes_3, tagg_3, zcells_3, telem_3, tint_3, tnotIface_3, tsize_23, tbytes_23, tagg_23, zcells_23, telem_23, tnotIface_23, pl116, tfun_160, telem_160, ↓LoopN_succ, Int.cast_ofNat_Int, Int.natCast_zero, Int.natCast_one, Int.reduceAdd, Int.reduceSub, Int.reduceNeg, Int.reduceMul, Int.reduceToNat, Int.reduceLT, Int.reduceLE, Int.reduceEq, Int.reduceBEq, Int.reduceBNe, Nat.reduceSub, Nat.reduceLT, List.getD_cons_zero, List.getD_cons_succ, List.length_singleton, Bool.and_true, Bool.and_false]
  refine LoopN.loop 1 ?_
  simp (maxSteps := 4000000) only [↓packA0, ↓packA1, ↓packA2, ↓reduceIte, packB0, packB1, packB2, packB3, packB4, pureOp, quietOp, loadOp, quietB, fr0, cellsK, Option.getD_some, Option.getD_none, implies_true, ite_true, ite_false, eq_self, ne_eq, reduceCtorEq, Nat.reduceLT, Nat.reduceLeDiff, Nat.reduceAdd, Nat.reduceMul, Nat.reduceBEq, Nat.reduceEqDiff, Int.reduceToNat, Int.reduceLT, Int.reduceLE, Nat.reduceSub, pl125, tsize_3, tbytes_3, tagg_3, zcells_3, telem_3, tint_3, tnotIface_3, tsize_23, tbytes_23, tagg_23, zcells_23, telem_23, tnotIface_23, pl116, tfun_160, telem_160, ↓LoopN_succ, Int.cast_ofNat_Int, Int.natCast_zero, Int.natCast_one, Int.reduceAdd, Int.reduceSub, Int.reduceNeg, Int.reduceMul, Int.reduceToNat, Int.reduceLT, Int.reduceLE, Int.reduceEq, Int.reduceBEq, Int.reduceBNe, Nat.reduceSub, Nat.reduceLT, List.getD_cons_zero, List.getD_cons_succ, List.length_singleton, Bool.and_true, Bool.and_false]
  exact hq
set_option maxRecDepth 100000 in
theorem lar_at (n : Nat) (hn : n ≤ 128) (st cs : List Int) (hb : st.length < 1000000000) (hb2 : cs.length < 1000000000) (hm : mayP n n st cs) {h : Heap} {xs : AV} {Q : AV → Heap → Prop}
    (hq : ∀ x h', BC (fun _ => False) h' x (lgL st cs n) → Q (.tup [x, .int .i64 0]) h') : ACalls Try.prog 83 [pat n n st cs, xs] h Q := by
  obtain ⟨N, hN⟩ : ∃ N, h.length = N := ⟨_, rfl⟩
  have rN : ∀ o, (h ++ [o])[N]? = some o := fun o => by rw [List.getElem?_append_right (by omega)]; simp [hN]
  refine (wp83 rfl rfl ?_)
  simp (maxSteps := 4000000) only [↓packA0, ↓packA1, ↓packA2, ↓reduceIte, packB0, packB1, packB2, packB3, packB4, pureOp, quietOp, loadOp, quietB, fr0, cellsK, Option.getD_some, Option.getD_none, implies_true, ite_true, ite_false, eq_self, ne_eq, reduceCtorEq, Nat.reduceLT, Nat.reduceLeDiff, Nat.reduceAdd, Nat.reduceMul, Nat.reduceBEq, Nat.reduceEqDiff, Int.reduceToNat, Int.reduceLT, Int.reduceLE, Nat.reduceSub, pl83, tsize_3, tbytes_3, tagg_3, zcells_3, telem_3, tint_3, tnotIface_3, tsize_23, tbytes_23, tagg_23, zcells_23, telem_23, tnotIface_23, tsize_45, tbytes_45, tagg_45, zcells_45, telem_45, tnotIface_45, foff_45_0, foff_45_1, foff_45_2, foff_45_3, fplaces_45, tfun_160, telem_160, ints, hN, rN]
  refine nat_at n hn st cs (F := fun i => i = N) (fun i hi => by simp [hN]; omega) fun x g hl hf hB => ?_
  have gN : g[N]? = some (patO n n st cs) := by rw [hf N rfl, rN]; rfl
  simp (maxSteps := 4000000) only [↓packA0, ↓packA1, ↓packA2, ↓reduceIte, packB0, packB1, packB2, packB3, packB4, pureOp, quietOp, loadOp, quietB, fr0, cellsK, Option.getD_some, Option.getD_none, implies_true, ite_true, ite_false, eq_self, ne_eq, reduceCtorEq, Nat.reduceLT, Nat.reduceLeDiff, Nat.reduceAdd, Nat.reduceMul, Nat.reduceBEq, Nat.reduceEqDiff, Int.reduceToNat, Int.reduceLT, Int.reduceLE, Nat.reduceSub, pl83, tsize_3, tbytes_3, tagg_3, zcells_3, telem_3, tint_3, tnotIface_3, tsize_23, tbytes_23, tagg_23, zcells_23, telem_23, tnotIface_23, tsize_45, tbytes_45, tagg_45, zcells_45, telem_45, tnotIface_45, foff_45_0, foff_45_1, foff_45_2, foff_45_3, fplaces_45, tfun_160, telem_160]
  refine (wp101 rfl rfl ?_)
  rcases hB with ⟨rfl, e⟩ | ⟨id, len, cap, ex, es, ex', rfl, q1, q2, q3, q4, q5, q6⟩
  · have hn0 : n = 0 := by rw [← natL_len (n := n), e]; rfl
    subst hn0
    simp (maxSteps := 4000000) only [↓packA0, ↓packA1, ↓packA2, ↓reduceIte, packB0, packB1, packB2, packB3, packB4, pureOp, quietOp, loadOp, quietB, fr0, cellsK, Option.getD_some, Option.getD_none, implies_true, ite_true, ite_false, eq_self, ne_eq, reduceCtorEq, Nat.reduceLT, Nat.reduceLeDiff, Nat.reduceAdd, Nat.reduceMul, Nat.reduceBEq, Nat.reduceEqDiff, Int.reduceToNat, Int.reduceLT, Int.reduceLE, Nat.reduceSub, pl101, tsize_3, tbytes_3, tagg_3, zcells_3, telem_3, tint_3, tnotIface_3, tsize_23, tbytes_23, tagg_23, zcells_23, telem_23, tnotIface_23, tfun_160, telem_160, pl83, tsize_45, tbytes_45, tagg_45, zcells_45, telem_45, tnotIface_45, foff_45_0, foff_45_1, foff_45_2, foff_45_3, fplaces_45, Int.cast_ofNat_Int, Int.natCast_zero, Int.natCast_one, Int.reduceAdd, Int.reduceSub, Int.reduceNeg, Int.reduceMul, Int.reduceToNat, Int.reduceLT, Int.reduceLE, Int.reduceEq, Int.reduceBEq, Int.reduceBNe, Nat.reduceSub, Nat.reduceLT, List.getD_cons_zero, List.getD_cons_succ, List.length_singleton, Bool.and_true, Bool.and_false]
    refine stable_nil ?_
    simp (maxSteps := 4000000) only [↓packA0, ↓packA1, ↓packA2, ↓reduceIte, packB0, packB1, packB2, packB3, packB4, pureOp, quietOp, loadOp, quietB, fr0, cellsK, Option.getD_some, Option.getD_none, implies_true, ite_true, ite_false, eq_self, ne_eq, reduceCtorEq, Nat.reduceLT, Nat.reduceLeDiff, Nat.reduceAdd, Nat.reduceMul, Nat.reduceBEq, Nat.reduceEqDiff, Int.reduceToNat, Int.reduceLT, Int.reduceLE, Nat.reduceSub, pl101, tsize_3, tbytes_3, tagg_3, zcells_3, telem_3, tint_3, tnotIface_3, tsize_23, tbytes_23, tagg_23, zcells_23, telem_23, tnotIface_23, tfun_160, telem_160, pl83, tsize_45, tbytes_45, tagg_45, zcells_45, telem_45, tnotIface_45, foff_45_0, foff_45_1, foff_45_2, foff_45_3, fplaces_45, Int.cast_ofNat_Int, Int.natCast_zero, Int.natCast_one, Int.reduceAdd, Int.reduceSub, Int.reduceNeg, Int.reduceMul, Int.reduceToNat, Int.reduceLT, Int.reduceLE, Int.reduceEq, Int.reduceBEq, Int.reduceBNe, Nat.reduceSub, Nat.reduceLT, List.getD_cons_zero, List.getD_cons_succ, List.length_singleton, Bool.and_true, Bool.and_false]
    exact hq _ _ (.inl ⟨rfl, List.length_eq_zero_iff.1 (lg_len (lgL_ok hm))⟩)
  · have hlen : len = n := by
      have := congrArg List.length q6
      rw [natL_len, List.length_take] at this
      omega
    subst hlen
    simp (maxSteps := 4000000) only [↓packA0, ↓packA1, ↓packA2, ↓reduceIte, packB0, packB1, packB2, packB3, packB4, pureOp, quietOp, loadOp, quietB, fr0, cellsK, Option.getD_some, Option.getD_none, implies_true, ite_true, ite_false, eq_self, ne_eq, reduceCtorEq, Nat.reduceLT, Nat.reduceLeDiff, Nat.reduceAdd, Nat.reduceMul, Nat.reduceBEq, Nat.reduceEqDiff, Int.reduceToNat, Int.reduceLT, Int.reduceLE, Nat.reduceSub, pl101, tsize_3, tbytes_3, tagg_3, zcells_3, telem_3, tint_3, tnotIface_3, tsize_23, tbytes_23, tagg_23, zcells_23, telem_23, tnotIface_23, tfun_160, telem_160, pl83, tsize_45, tbytes_45, tagg_45, zcells_45, telem_45, tnotIface_45, foff_45_0, foff_45_1, foff_45_2, foff_45_3, fplaces_45]
    refine stable_c (cmp_lg hb hb2 hm) (es := es) (by omega) q2 gN q1 (by omega) (Nat.le_refl _) (fun i i1 i2 => ?_) (fun i j i1 i2 i3 => ?_) fun gs hs hd => ?_
    · rw [← gv_take i2, q6, natL_get i2]; omega
    · rw [← gv_take (show i < len by omega), ← gv_take i3, q6, natL_get (by omega), natL_get i3]; omega
    · simp (maxSteps := 4000000) only [↓packA0, ↓packA1, ↓packA2, ↓reduceIte, packB0, packB1, packB2, packB3, packB4, pureOp, quietOp, loadOp, quietB, fr0, cellsK, Option.getD_some, Option.getD_none, implies_true, ite_true, ite_false, eq_self, ne_eq, reduceCtorEq, Nat.reduceLT, Nat.reduceLeDiff, Nat.reduceAdd, Nat.reduceMul, Nat.reduceBEq, Nat.reduceEqDiff, Int.reduceToNat, Int.reduceLT, Int.reduceLE, Nat.reduceSub, pl101, tsize_3, tbytes_3, tagg_3, zcells_3, telem_3, tint_3, tnotIface_3, tsize_23, tbytes_23, tagg_23, zcells_23, telem_23, tnotIface_23, tfun_160, telem_160, pl83, tsize_45, tbytes_45, tagg_45, zcells_45, telem_45, tnotIface_45, foff_45_0, foff_45_1, foff_45_2, foff_45_3, fplaces_45]
      have hlg := lg_of (by omega) q6 hs hd
      have hlt : id < g.length := (List.getElem?_eq_some_iff.1 q2).1
      exact hq _ _ (.inr ⟨id, len, cap, ex, gs, ex', rfl, fun h => h, List.getElem?_set_self hlt, q3, by rw [hs.len]; exact q4, by rw [hs.len]; exact q5, hlg.uniq (lgL_ok hm)⟩)
end Go.Proofs.Ytgdlkhgfehclpaa
end

section
/- Answers behind other objects; the order of incidence: plain part. No condition. -/
namespace Go.AL
open Go
set_option linter.unusedVariables false
set_option linter.unusedSimpArgs false
mutual
theorem flat_ren (ρ : Nat → Option Nat) : ∀ u : AV, u.flat = true → u.ren ρ = u
  | .int .., _ => rfl
  | .bool _, _ => rfl
  | .str _, _ => rfl
  | .flt .., _ => rfl
  | .nilp, _ => rfl
  | .nils, _ => rfl
  | .nilf, _ => rfl
  | .nili, _ => rfl
  | .nilm, _ => rfl
  | .ip .., _ => rfl
  | .isl .., _ => rfl
  | .any, _ => rfl
  | .op .., h => by cases h
  | .osl .., h => by cases h
  | .om _, h => by cases h
  | .fn .., h => by cases h
  | .ifc .., h => by cases h
  | .agg cs, h => by simp only [AV.flat] at h; simp only [AV.ren, flats_ren ρ cs h]
  | .tup cs, h => by simp only [AV.flat] at h; simp only [AV.ren, flats_ren ρ cs h]
theorem flats_ren (ρ : Nat → Option Nat) : ∀ l : List AV, flats l = true → rens ρ l = l
  | [], _ => rfl
  | v :: r, h => by
    simp only [flats, Bool.and_eq_true] at h
    simp only [rens, flat_ren ρ v h.1, flats_ren ρ r h.2]
end
theorem rens_inv {ρ : Nat → Option Nat} : ∀ {l : List AV} {q : Nat} {u : AV}, (rens ρ l)[q]? = some u → ∃ v, l[q]? = some v ∧ u = v.ren ρ
  | [], q, u, h => by simp [rens] at h
  | v :: r, 0, u, h => by simp [rens] at h; exact ⟨v, rfl, h.symm⟩
  | v :: r, q + 1, u, h => by
    simp only [rens, List.getElem?_cons_succ] at h ⊢
    exact rens_inv h
theorem ofz_shift {h h0 : Heap} {u r : AV} (hz : OFz h0 u r) : OFz (behind h h0) (u.ren (sh h.length)) r := by
  induction hz with
  | flat u hf => rw [flat_ren _ u hf]; exact .flat u hf
  | nils k => exact .nils k
  | osl id k i len cap ex ex' es hid hl hf =>
    refine .osl (id + h.length) k i len cap ex ex' es ?_ hl hf
    unfold behind
    rw [List.getElem?_append_right (by omega), Nat.add_sub_cancel, List.getElem?_map, hid]
    simp only [Option.map_some, Ob.ren]
    congr 2
    refine (List.map_congr_left fun e he => ?_).trans (List.map_id es)
    exact flats_ren _ e (hf e he)
  | tup cs cs' hl _ ih =>
    refine .tup _ _ (by rw [rens_length]; exact hl) fun q u u' hu hu' => ?_
    obtain ⟨v, hv, rfl⟩ := rens_inv hu
    exact ih q v u' hv hu'
  | agg cs cs' hl _ ih =>
    refine .agg _ _ (by rw [rens_length]; exact hl) fun q u u' hu hu' => ?_
    obtain ⟨v, hv, rfl⟩ := rens_inv hu
    exact ih q v u' hv hu'
theorem acalls_ofz {P : Program} {f : FuncId} {args : List AV} {h : Heap} {V : AV} {Q : AV → Heap → Prop} (hc : ACalls P f args [] fun v h => OFz h v V) (ha : pures args = true) (hq : ∀ u h', OFz h' u V → (∀ i, i < h.length → h'[i]? = h[i]?) → Q u h') : ACalls P f args h Q :=
  acalls_shift hc ha fun u h0 hz => hq _ _ (ofz_shift hz) fun i hi => by unfold behind; exact List.getElem?_append_left hi
theorem ofz_pair {h : Heap} {u a b : AV} (hz : OFz h u (.tup [a, b])) : ∃ x y, u = .tup [x, y] ∧ OFz h x a ∧ OFz h y b := by
  cases hz with
  | flat _ hf =>
    simp only [AV.flat, flats, Bool.and_eq_true, Bool.and_true] at hf
    exact ⟨a, b, rfl, .flat _ hf.1, .flat _ hf.2⟩
  | tup cs _ hl hq =>
    match cs, hl with
    | [x, y], _ => exact ⟨x, y, rfl, hq 0 x a rfl rfl, hq 1 y b rfl rfl⟩
theorem ofz_int {h : Heap} {u : AV} {k : IntKind} {n : Int} (hz : OFz h u (.int k n)) : u = .int k n := by cases hz; rfl
end Go.AL
namespace Go.Proofs.Ytgdlkhgfehclpaa
open Go Go.AL
set_option linter.unusedVariables false
set_option linter.unusedSimpArgs false
/-- Does v come ahead of b? -/
def bts (st cs : List Int) (P : List Bool) (v b : Nat) : Prop := cnt st cs P b < cnt st cs P v ∨ (cnt st cs P v = cnt st cs P b ∧ (rowOf st cs b).length < (rowOf st cs v).length)
instance (st cs : List Int) (P : List Bool) (v b : Nat) : Decidable (bts st cs P v b) := by unfold bts; infer_instance
/-- The first below k of those that nobody beats; -1: there is none. -/
def bI (st cs : List Int) (P : List Bool) : Nat → Int
  | 0 => -1
  | k + 1 => if P.getD k false = false ∧ (bI st cs P k < 0 ∨ bts st cs P k (bI st cs P k).toNat) then k else bI st cs P k
theorem bI_in {st cs : List Int} {P : List Bool} : ∀ k, -1 ≤ bI st cs P k ∧ bI st cs P k < k
  | 0 => by simp [bI]
  | k + 1 => by
    have := bI_in (st := st) (cs := cs) (P := P) k
    simp only [bI]
    split <;> omega
theorem bI_neg {st cs : List Int} {P : List Bool} : ∀ k, bI st cs P k < 0 → ∀ v, v < k → P.getD v false = true
  | 0, _, v, h => by omega
  | k + 1, h, v, hv => by
    simp only [bI] at h
    split at h
    · omega
    · rename_i hc
      by_cases e : v = k
      · subst e
        cases hp : P.getD v false with
        | true => rfl
        | false => exact absurd ⟨hp, .inl h⟩ hc
      · exact bI_neg k h v (by omega)
theorem bI_pos {st cs : List Int} {P : List Bool} : ∀ k, 0 ≤ bI st cs P k → P.getD (bI st cs P k).toNat false = false ∧ ∀ v, v < k → P.getD v false = false → ¬ bts st cs P v (bI st cs P k).toNat
  | 0, h => by simp [bI] at h
  | k + 1, h => by
    simp only [bI] at h ⊢
    split
    · rename_i hc
      rw [Int.toNat_natCast]
      refine ⟨hc.1, fun v hv hp => ?_⟩
      by_cases e : v = k
      · subst e; unfold bts; omega
      by_cases hn : bI st cs P k < 0
      · have := bI_neg (st := st) (cs := cs) k hn v (by omega)
        rw [hp] at this; cases this
      · have h1 := (bI_pos (st := st) (cs := cs) (P := P) k (by omega)).2 v (by omega) hp
        have h2 := hc.2.resolve_left hn
        unfold bts at *
        omega
    · rename_i hc
      rw [if_neg hc] at h
      have h1 := bI_pos k h
      refine ⟨h1.1, fun v hv hp => ?_⟩
      by_cases e : v = k
      · subst e
        exact fun hb => hc ⟨hp, .inr hb⟩
      · exact h1.2 v (by omega) hp
structure IT where
  P : List Bool
  L : List Int
/-- What is put, and in which order, when k vertices have been put. -/
def ist (st cs : List Int) (n : Nat) : Nat → IT
  | 0 => ⟨List.replicate n false, []⟩
  | k + 1 => ⟨(ist st cs n k).P.set (bI st cs (ist st cs n k).P n).toNat true, (ist st cs n k).L ++ [bI st cs (ist st cs n k).P n]⟩
structure IstOK (n k : Nat) (t : IT) : Prop where
  pl : t.P.length = n
  ll : t.L.length = k
  mem : ∀ v : Nat, v < n → (t.P.getD v false = true ↔ (v : Int) ∈ t.L)
  nd : t.L.Nodup
  rng : ∀ x, x ∈ t.L → 0 ≤ x ∧ x < n
theorem ist_best {st cs : List Int} {n k : Nat} (h : IstOK n k (ist st cs n k)) (hk : k < n) : 0 ≤ bI st cs (ist st cs n k).P n := by
  by_cases hn : bI st cs (ist st cs n k).P n < 0
  · have h1 := bI_neg n hn
    have h2 : natL n ⊆ (ist st cs n k).L := fun x hx => by
      have := natL_mem.1 hx
      have := (h.mem x.toNat (by omega)).1 (h1 _ (by omega))
      rwa [show ((x.toNat : Nat) : Int) = x by omega] at this
    have h3 := List.Nodup.length_le_of_subset nodup_natL h2
    rw [natL_len, h.ll] at h3
    omega
  · omega
theorem ist_ok (st cs : List Int) (n : Nat) : ∀ k, k ≤ n → IstOK n k (ist st cs n k)
  | 0, _ => ⟨by simp [ist], rfl, fun v hv => by simp [ist, List.getD_eq_getElem?_getD, List.getElem?_replicate, hv], by simp [ist], fun x hx => by simp [ist] at hx⟩
  | k + 1, hk => by
    have h := ist_ok st cs n k (by omega)
    have hb := ist_best h (by omega)
    have hi := bI_in (st := st) (cs := cs) (P := (ist st cs n k).P) n
    have hp := (bI_pos n hb).1
    refine ⟨by simp [ist, h.pl], by simp [ist, h.ll], fun v hv => ?_, ?_, fun x hx => ?_⟩
    · simp only [ist]
      rw [getB_setT (by rw [h.pl]; omega), List.mem_append, List.mem_singleton]
      by_cases e : v = (bI st cs (ist st cs n k).P n).toNat
      · rw [if_pos e]; simp; omega
      · rw [if_neg e, h.mem v hv]
        constructor
        · exact .inl
        · rintro (h1 | h1)
          · exact h1
          · omega
    · simp only [ist]
      refine List.pairwise_append.2 ⟨h.nd, by simp, fun x hx y hy => ?_⟩
      rw [List.mem_singleton] at hy
      subst hy
      intro e
      have := (h.mem _ (show (bI st cs (ist st cs n k).P n).toNat < n by omega)).2 (by rw [show (((bI st cs (ist st cs n k).P n).toNat : Nat) : Int) = x by omega]; exact hx)
      rw [hp] at this; cases this
    · simp only [ist, List.mem_append, List.mem_singleton] at hx
      rcases hx with hx | hx
      · exact h.rng x hx
      · omega
def incL (st cs : List Int) (n : Nat) : List Int := (ist st cs n n).L
end Go.Proofs.Ytgdlkhgfehclpaa
end
