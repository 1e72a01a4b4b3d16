/- DeleteFunc of one number. No condition. -/
import Derived.Test.YtgdlkhgfehclpaaPOr
namespace Go.Proofs.Ytgdlkhgfehclpaa
open Go Go.AL
set_option linter.unusedVariables false
set_option linter.unusedSimpArgs false
def rid (v : Int) (l : List Int) : List Int := l.filter (fun x => decide (x ≠ v))
theorem gd0 {xs : List Int} {i : Nat} (h : i < xs.length) : xs.getD i default = xs[i] := by simp [List.getD_eq_getElem?_getD, List.getElem?_eq_getElem h]
theorem rid_none {v : Int} {l : List Int} (h : ∀ j, j < l.length → l.getD j default ≠ v) : rid v l = l := by
  refine List.filter_eq_self.2 fun x hx => ?_
  obtain ⟨i, hi, e⟩ := List.getElem_of_mem hx
  have := h i hi
  rw [gd0 hi, e] at this
  simpa using this
theorem rid_take {v : Int} {l : List Int} {k : Nat} (hk : k < l.length) : rid v (l.take (k + 1)) = if l.getD k default = v then rid v (l.take k) else rid v (l.take k) ++ [l.getD k default] := by
  rw [show l.take (k + 1) = l.take k ++ [l.getD k default] by rw [List.take_add_one, List.getElem?_eq_getElem hk, List.getD_eq_getElem?_getD, List.getElem?_eq_getElem hk]; rfl]
  simp only [rid, List.filter_append]
  by_cases e : l.getD k default = v
  · rw [if_pos e, e]; simp
  · rw [if_neg e]; simp only [List.filter_cons, List.filter_nil, ne_eq, e, not_false_eq_true, decide_true, if_true]
theorem take_set_one {l : List Int} {i : Nat} {y : Int} (h : i < l.length) : (l.set i y).take (i + 1) = l.take i ++ [y] := by
  rw [List.take_add_one, List.getElem?_set_self h, List.take_set, List.set_eq_of_length_le (by simp; omega)]
  rfl
theorem getD_set_ne {l : List Int} {i j : Nat} {y : Int} (h : i ≠ j) : (l.set i y).getD j default = l.getD j default := by
  simp only [List.getD_eq_getElem?_getD, List.getElem?_set_ne h]
set_option maxRecDepth 100000 in
theorem del_c {c : FuncId} (hclo : Clo c) {h : Heap} {id vid len cap : Nat} {ex ex' exv : Bool} {es : List Int} {v : Int} {Q : AV → Heap → Prop} (hb : es.length < 1000000000) (hid : h[id]? = some (.arr 1 (List.map intE es) ex')) (hvid : h[vid]? = some (.arr 1 [[.int .i64 v]] exv)) (hne : id ≠ vid) (hl : len ≤ es.length) (hc : len ≤ cap)
    (hq : ∀ es' : List Int, es'.length = es.length → es'.take (rid v (es.take len)).length = rid v (es.take len) → Q (.osl id 1 0 (rid v (es.take len)).length cap ex) (h.set id (.arr 1 (List.map intE es') ex'))) :
    ACalls Try.prog 78 [.osl id 1 0 len cap ex, .fn (.func c) [] [.op vid 1 0 0]] h Q := by
  have hlt : id < h.length := (List.getElem?_eq_some_iff.1 hid).1
  have hself : h.set id (.arr 1 (List.map intE es) ex') = h := by
    apply List.ext_getElem?
    intro i
    rw [List.getElem?_set]
    by_cases e : id = i
    · subst e; rw [if_pos rfl, if_pos hlt, hid]
    · rw [if_neg e]
  refine wp78 rfl rfl ?_
  simp (maxSteps := 4000000) +contextual only [↓packA0, ↓packA1, ↓packA2, ↓reduceIte, packB0, packB1, packB2, packB3, packB4, pureOp, quietOp, loadOp, quietB, fr0, cellsK, Option.getD_some, Option.getD_none, implies_true, ite_true, ite_false, eq_self, ne_eq, reduceCtorEq, Nat.reduceLT, Nat.reduceLeDiff, Nat.reduceAdd, Nat.reduceMul, Nat.reduceBEq, Nat.reduceEqDiff, Int.reduceToNat, Int.reduceLT, Int.reduceLE, Nat.reduceSub, pl78, tsize_3, tbytes_3, tagg_3, zcells_3, telem_3, tint_3, tnotIface_3, tsize_4, tbytes_4, tagg_4, zcells_4, telem_4, tbool_4, tnotIface_4, tsize_23, tbytes_23, tagg_23, zcells_23, telem_23, tnotIface_23, tfun_135, telem_135]
  refine index_c hclo hb hid hvid hl fun k hk => ?_
  rcases hk with ⟨rfl, hno⟩ | ⟨i, rfl, hi, hv, hno⟩
  · simp (maxSteps := 4000000) +contextual only [↓packA0, ↓packA1, ↓packA2, ↓reduceIte, packB0, packB1, packB2, packB3, packB4, pureOp, quietOp, loadOp, quietB, fr0, cellsK, Option.getD_some, Option.getD_none, implies_true, ite_true, ite_false, eq_self, ne_eq, reduceCtorEq, Nat.reduceLT, Nat.reduceLeDiff, Nat.reduceAdd, Nat.reduceMul, Nat.reduceBEq, Nat.reduceEqDiff, Int.reduceToNat, Int.reduceLT, Int.reduceLE, Nat.reduceSub, pl78, tsize_3, tbytes_3, tagg_3, zcells_3, telem_3, tint_3, tnotIface_3, tsize_4, tbytes_4, tagg_4, zcells_4, telem_4, tbool_4, tnotIface_4, tsize_23, tbytes_23, tagg_23, zcells_23, telem_23, tnotIface_23, tfun_135, telem_135, Int.cast_ofNat_Int, Int.natCast_zero, Int.natCast_one, Int.reduceAdd, Int.reduceSub, Int.reduceNeg, Int.reduceMul, Int.reduceToNat, Int.reduceLT, Int.reduceLE, Int.reduceEq, Int.reduceBEq, Int.reduceBNe, Nat.reduceSub, Nat.reduceLT, List.getD_cons_zero, List.getD_cons_succ, List.length_singleton, Bool.and_true, Bool.and_false]
    have hr : rid v (es.take len) = es.take len := rid_none fun j hj => by
      simp only [List.length_take] at hj
      have := hno j (by omega)
      rw [List.getD_eq_getElem?_getD, List.getElem?_take, if_pos (by omega), ← List.getD_eq_getElem?_getD]
      exact this
    have := hq es rfl (by rw [hr]; simp)
    rw [hr, hself] at this
    simp only [List.length_take, Nat.min_eq_left hl] at this
    exact this
  · simp (maxSteps := 4000000) +contextual only [↓packA0, ↓packA1, ↓packA2, ↓reduceIte, packB0, packB1, packB2, packB3, packB4, pureOp, quietOp, loadOp, quietB, fr0, cellsK, Option.getD_some, Option.getD_none, implies_true, ite_true, ite_false, eq_self, ne_eq, reduceCtorEq, Nat.reduceLT, Nat.reduceLeDiff, Nat.reduceAdd, Nat.reduceMul, Nat.reduceBEq, Nat.reduceEqDiff, Int.reduceToNat, Int.reduceLT, Int.reduceLE, Nat.reduceSub, pl78, tsize_3, tbytes_3, tagg_3, zcells_3, telem_3, tint_3, tnotIface_3, tsize_4, tbytes_4, tagg_4, zcells_4, telem_4, tbool_4, tnotIface_4, tsize_23, tbytes_23, tagg_23, zcells_23, telem_23, tnotIface_23, tfun_135, telem_135]
    have hse : ∀ o : Ob, (h.set id o)[id]? = some o := fun o => List.getElem?_set_self hlt
    have hsv : ∀ o : Ob, (h.set id o)[vid]? = some (.arr 1 [[.int .i64 v]] exv) := fun o => by rw [List.getElem?_set_ne hne]; exact hvid
    have hr0 : rid v (es.take i) = es.take i := rid_none fun j hj => by
      simp only [List.length_take] at hj
      have := hno j (by omega)
      rw [List.getD_eq_getElem?_getD, List.getElem?_take, if_pos (by omega), ← List.getD_eq_getElem?_getD]
      exact this
    have hr1 : rid v (es.take (i + 1)) = es.take i := by rw [rid_take (by omega), if_pos hv, hr0]
    refine ⟨by omega, ?_⟩
    refine LoopK.intro (fun m a h1 => ∃ (j : Nat) (es1 : List Int), m = len - j ∧ j ≤ len ∧ (rid v (es.take j)).length < j ∧ es1.length = es.length ∧ es1.take (rid v (es.take j)).length = rid v (es.take j) ∧ (∀ t, j ≤ t → es1.getD t default = es.getD t default) ∧ a 0 = .osl id 1 0 len cap ex ∧ a 1 = .fn (.func c) [] [.op vid 1 0 0] ∧ a 5 = .int .i64 (rid v (es.take j)).length ∧ a 6 = .int .i64 j ∧ h1 = h.set id (.arr 1 (List.map intE es1) ex')) (len - (i + 1)) ⟨i + 1, es, ?_⟩ ?_
    · simp (maxSteps := 4000000) only [↓packA0, ↓packA1, ↓packA2, ↓reduceIte, packB0, packB1, packB2, packB3, packB4, pureOp, quietOp, loadOp, quietB, fr0, cellsK, Option.getD_some, Option.getD_none, implies_true, ite_true, ite_false, eq_self, ne_eq, reduceCtorEq, Nat.reduceLT, Nat.reduceLeDiff, Nat.reduceAdd, Nat.reduceMul, Nat.reduceBEq, Nat.reduceEqDiff, Int.reduceToNat, Int.reduceLT, Int.reduceLE, Nat.reduceSub, pl78, tsize_3, tbytes_3, tagg_3, zcells_3, telem_3, tint_3, tnotIface_3, tsize_4, tbytes_4, tagg_4, zcells_4, telem_4, tbool_4, tnotIface_4, tsize_23, tbytes_23, tagg_23, zcells_23, telem_23, tnotIface_23, tfun_135, telem_135, hr1, hself]
      have hti : (List.take i es).length = i := by simp; omega
      rw [hti]
      exact ⟨by omega, by omega, rfl, rfl, by omega⟩
    rintro m a h1 ⟨j, es1, rfl, hj, hij, hes, htk, hdr, a0, a1, a5, a6, rfl⟩
    simp (maxSteps := 4000000) +contextual only [↓packA0, ↓packA1, ↓packA2, ↓reduceIte, packB0, packB1, packB2, packB3, packB4, pureOp, quietOp, loadOp, quietB, fr0, cellsK, Option.getD_some, Option.getD_none, implies_true, ite_true, ite_false, eq_self, ne_eq, reduceCtorEq, Nat.reduceLT, Nat.reduceLeDiff, Nat.reduceAdd, Nat.reduceMul, Nat.reduceBEq, Nat.reduceEqDiff, Int.reduceToNat, Int.reduceLT, Int.reduceLE, Nat.reduceSub, pl78, tsize_3, tbytes_3, tagg_3, zcells_3, telem_3, tint_3, tnotIface_3, tsize_4, tbytes_4, tagg_4, zcells_4, telem_4, tbool_4, tnotIface_4, tsize_23, tbytes_23, tagg_23, zcells_23, telem_23, tnotIface_23, tfun_135, telem_135, a0, a1, a5, a6, hse]
    refine ⟨fun h2 => ⟨by omega, by omega, hclo (hsv _) ?_⟩, fun h2 => ?_⟩
    · have hrt := rid_take (v := v) (l := es) (k := j) (by omega)
      simp (maxSteps := 4000000) +contextual only [↓packA0, ↓packA1, ↓packA2, ↓reduceIte, packB0, packB1, packB2, packB3, packB4, pureOp, quietOp, loadOp, quietB, fr0, cellsK, Option.getD_some, Option.getD_none, implies_true, ite_true, ite_false, eq_self, ne_eq, reduceCtorEq, Nat.reduceLT, Nat.reduceLeDiff, Nat.reduceAdd, Nat.reduceMul, Nat.reduceBEq, Nat.reduceEqDiff, Int.reduceToNat, Int.reduceLT, Int.reduceLE, Nat.reduceSub, pl78, tsize_3, tbytes_3, tagg_3, zcells_3, telem_3, tint_3, tnotIface_3, tsize_4, tbytes_4, tagg_4, zcells_4, telem_4, tbool_4, tnotIface_4, tsize_23, tbytes_23, tagg_23, zcells_23, telem_23, tnotIface_23, tfun_135, telem_135, a0, a1, a5, a6, hse, List.set_set]
      have hd := hdr j (Nat.le_refl _)
      rw [hd]
      refine ⟨fun h3 => ?_, fun h3 => ?_⟩
      · rw [if_pos h3] at hrt
        exact ⟨by omega, .inl ⟨len - (j + 1), by omega, j + 1, es1, rfl, by omega, by rw [hrt]; omega, hes, by rw [hrt]; exact htk, fun t ht => hdr t (by omega), by rw [hrt], by omega, rfl⟩⟩
      · rw [if_neg h3] at hrt
        refine ⟨by omega, by omega, by omega, by omega, .inl ⟨len - (j + 1), by omega, j + 1, es1.set (rid v (List.take j es)).length (es.getD j default), rfl, by omega, by rw [hrt]; simp; omega, by simp [hes], ?_, fun t ht => ?_, by rw [hrt]; simp, by omega, rfl⟩⟩
        · rw [hrt]
          simp only [List.length_append, List.length_singleton]
          rw [take_set_one (by omega), htk]
        · rw [getD_set_ne (by omega)]
          exact hdr t (by omega)
    · obtain rfl : j = len := by omega
      have hs2 : (rid v (List.take j es)).length < cap ∨ (rid v (List.take j es)).length = 0 := by omega
      rw [if_pos hs2]
      refine ⟨by omega, by omega, by omega, by omega, by omega, ?_⟩
      rw [List.set_set, ← List.map_take, ← List.map_drop, ← List.map_append, ← List.map_append]
      have hi1 : (List.take (rid v (List.take j es)).length es1).length = (rid v (List.take j es)).length := by simp only [List.length_take]; omega
      refine hq _ ?_ ?_
      · simp only [List.length_append, List.length_replicate, List.length_drop, hi1]
        omega
      · rw [List.append_assoc, List.take_left' hi1, htk]
end Go.Proofs.Ytgdlkhgfehclpaa
