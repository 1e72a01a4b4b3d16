/- Texts of one claim bound together: PSe, ALv, PSj, PSk, PSl, PSm, PSn, PSo, PSh, PSi, PSp, PZd, PZ3e. -/
import Derived.Test.YtgdlkhgfehclpaaEC4
import Derived.Test.YtgdlkhgfehclpaaEC2

section
/- Tapes composed: the program's walk. No condition. -/
namespace Go.Proofs.Ytgdlkhgfehclpaa
open Go Go.AL
set_option linter.unusedVariables false
set_option linter.unusedSimpArgs false
/-- A node of f behind g's nodes: a variable becomes a scaling by one of g's output. -/
def shiftN (k : Int) (outs : List Int) (n : Nd) : Nd :=
  if n.op = 1 then ⟨8, outs.getD n.a.toNat default, 0, 1, false, [], []⟩ else
  if two n.op = true then { n with a := n.a + k, b := n.b + k } else
  if one n.op = true then { n with a := n.a + k } else n
def zeroT : Tp := ⟨0, [], []⟩
def compT (f g : Tp) : Tp × Int × Int :=
  if f.check.2 ≠ 0 then (zeroT, f.check) else if g.check.2 ≠ 0 then (zeroT, g.check) else
  if f.vars ≠ g.outs.length then (zeroT, 0, 7) else if 2048 < g.ns.length + f.ns.length then (zeroT, 0, 101) else
  (⟨g.vars, g.ns ++ f.ns.map (shiftN g.ns.length g.outs), f.outs.map (· + g.ns.length)⟩, 0, 0)
def compV (r : Tp × Int × Int) : AV := .tup [r.1.V, .int .i64 r.2.1, .int .i64 r.2.2]
def Tp.cells (t : Tp) : List AV := [.int .i64 t.vars, .isl 7 (List.map Nd.cells t.ns), ints t.outs]
theorem frz_zero {h : Heap} {p r : Int} : Frz h (.tup [.agg [.int .i64 0, .nils, .nils], .int .i64 p, .int .i64 r]) (compV (zeroT, p, r)) := by
  refine .tup _ _ rfl fun q u u' hu hu' => ?_
  match q with
  | 0 =>
    simp [Tp.V, zeroT] at hu hu'; subst hu hu'
    refine .agg _ _ rfl fun q u u' hu hu' => ?_
    match q with
    | 0 => simp at hu hu'; subst hu hu'; exact .pure _ rfl
    | 1 => simp at hu hu'; subst hu hu'; exact .nils 7
    | 2 => simp at hu hu'; subst hu hu'; exact .nils 1
    | q + 3 => simp at hu
  | 1 => simp at hu hu'; subst hu hu'; exact .pure _ rfl
  | 2 => simp at hu hu'; subst hu hu'; exact .pure _ rfl
  | q + 3 => simp at hu
/-- A list of nodes under way: none yet, or a row of one's own that ends where the room ends. -/
def NL (h : Heap) (v : AV) (rows : List (List AV)) : Prop := (v = .nils ∧ rows = []) ∨ ∃ (id : Nat) (e e2 : Bool), v = .osl id 7 0 rows.length rows.length e ∧ 6 < id ∧ h[id]? = some (.arr 7 rows e2) ∧ 0 < rows.length
/-- A node's row as it stands: the node's cells, or with nothing in place of two empty lists. -/
def RowOk (row : List AV) (n : Nd) : Prop := row = n.cells ∨ (n.num = [] ∧ n.den = [] ∧ row = [.int .i64 n.op, .int .i64 n.a, .int .i64 n.b, .int .i64 n.c, .bool n.neg, .nils, .nils])
def RowsOk (rows : List (List AV)) (ns : List Nd) : Prop := rows.length = ns.length ∧ ∀ (i : Nat) (row : List AV) (n : Nd), rows[i]? = some row → ns[i]? = some n → RowOk row n
theorem RowsOk.refl {ns : List Nd} : RowsOk (ns.map Nd.cells) ns := ⟨by simp, fun i row n hr hn => by
  rw [List.getElem?_map, hn] at hr
  exact .inl (Option.some.inj hr).symm⟩
theorem RowsOk.snoc {rows : List (List AV)} {ns : List Nd} {row : List AV} {n : Nd} (h : RowsOk rows ns) (hr : RowOk row n) : RowsOk (rows ++ [row]) (ns ++ [n]) := by
  refine ⟨by simp [h.1], fun i r m hi hm => ?_⟩
  by_cases c : i < rows.length
  · rw [List.getElem?_append_left c] at hi
    rw [List.getElem?_append_left (by rw [← h.1]; exact c)] at hm
    exact h.2 i r m hi hm
  · rw [List.getElem?_append_right (by omega)] at hi
    rw [List.getElem?_append_right (by rw [← h.1]; omega), ← h.1] at hm
    cases hq : i - rows.length with
    | zero =>
      rw [hq] at hi hm
      obtain rfl := Option.some.inj hi
      obtain rfl := Option.some.inj hm
      exact hr
    | succ q => rw [hq] at hi; simp at hi
theorem nl_append {h : Heap} {v : AV} {rows : List (List AV)} {row : List AV} {zc : List AV} {K : AV → Heap → Prop} (hz : zc.length = 7) (hNL : NL h v rows) (h6 : 6 < h.length) (hb : rows.length < 100000000) (hK : ∀ v' h', NL h' v' (rows ++ [row]) → h.length ≤ h'.length → (∀ i, i ≤ 6 → h'[i]? = h[i]?) → K v' h') : apK zc 88 h v [row] K := by
  have hap : ∀ o : Ob, ∀ i, i ≤ 6 → (h ++ [o])[i]? = h[i]? := fun o i hi => by rw [List.getElem?_append_left (by omega)]
  rcases hNL with ⟨rfl, rfl⟩ | ⟨id, e, e2, rfl, hid, hrow, h0⟩
  · unfold apK
    refine ⟨by simp, fun h => absurd h (by simp), fun _ => ?_⟩
    unfold growK
    rw [if_neg (by decide), hz]
    exact hK _ _ (.inr ⟨h.length, false, false, rfl, h6, by rw [List.getElem?_append_right (Nat.le_refl _), Nat.sub_self]; rfl, by simp⟩) (by simp) (hap _)
  · have hidl := (List.getElem?_eq_some_iff.1 hrow).1
    unfold apK
    refine ⟨hz.symm, by simp; omega, rows, e2, hrow, by omega, fun h => absurd h (by simp), fun _ => ?_⟩
    cases e with
    | true =>
      show growK 7 88 zc h.length h _ K
      unfold growK
      rw [if_neg (by decide), List.drop_zero, List.take_length]
      exact hK _ _ (.inr ⟨h.length, false, false, rfl, h6, by rw [List.getElem?_append_right (Nat.le_refl _), Nat.sub_self]; rfl, by simp⟩) (by simp) (hap _)
    | false =>
      refine ⟨rfl, ?_⟩
      rw [List.take_length]
      refine hK _ _ (.inr ⟨h.length, false, false, by simp, h6, by rw [List.getElem?_append_right (by rw [List.length_set]; exact Nat.le_refl _), List.length_set, Nat.sub_self]; rfl, by simp⟩) (by simp) fun i hi => ?_
      rw [List.getElem?_append_left (by rw [List.length_set]; omega), List.getElem?_set_ne (by omega)]
theorem NL.set {h : Heap} {v : AV} {rows : List (List AV)} {i : Nat} {o : Ob} (hNL : NL h v rows) (hi : i ≤ 6) : NL (h.set i o) v rows := by
  rcases hNL with h1 | ⟨id, e, e2, rfl, hid, hrow, h0⟩
  · exact .inl h1
  · exact .inr ⟨id, e, e2, rfl, hid, by rw [List.getElem?_set_ne (by omega)]; exact hrow, h0⟩
theorem NL.ext {h t : Heap} {v : AV} {rows : List (List AV)} (hNL : NL h v rows) : NL (h ++ t) v rows := by
  rcases hNL with h1 | ⟨id, e, e2, rfl, hid, hrow, h0⟩
  · exact .inl h1
  · exact .inr ⟨id, e, e2, rfl, hid, by rw [List.getElem?_append_left (List.getElem?_eq_some_iff.1 hrow).1]; exact hrow, h0⟩
theorem NL.ol {h : Heap} {v : AV} {rows : List (List AV)} (hNL : NL h v rows) : OL (fun i => i ≤ 6) 7 h v rows := by
  rcases hNL with h1 | ⟨id, e, e2, rfl, hid, hrow, h0⟩
  · exact .inl h1
  · exact .inr ⟨id, rows.length, e, [], e2, rfl, by omega, by rw [List.append_nil]; exact hrow, Nat.le_refl _, by simp, by simp⟩
theorem pures_cells {n : Nd} : pures n.cells = true := rfl
theorem rowok_frz {h : Heap} {row : List AV} {n : Nd} (hr : RowOk row n) : n.cells.length = row.length ∧ ∀ (q : Nat) (u u' : AV), row[q]? = some u → n.cells[q]? = some u' → Frz h u u' := by
  rcases hr with rfl | ⟨e1, e2, rfl⟩
  · exact ⟨rfl, fun q u u' h1 h2 => by rw [h1] at h2; obtain rfl := Option.some.inj h2; exact .pure _ (pures_get pures_cells h1)⟩
  · refine ⟨rfl, fun q u u' h1 h2 => ?_⟩
    unfold Nd.cells at h2
    rw [e1, e2] at h2
    match q with
    | 0 => simp at h1 h2; subst h1 h2; exact .pure _ rfl
    | 1 => simp at h1 h2; subst h1 h2; exact .pure _ rfl
    | 2 => simp at h1 h2; subst h1 h2; exact .pure _ rfl
    | 3 => simp at h1 h2; subst h1 h2; exact .pure _ rfl
    | 4 => simp at h1 h2; subst h1 h2; exact .pure _ rfl
    | 5 => simp at h1 h2; subst h1 h2; exact .nils 1
    | 6 => simp at h1 h2; subst h1 h2; exact .nils 1
    | q + 7 => simp at h1
/-- What Compose hands back, frozen. -/
theorem frz_comp {h : Heap} {F F' : Nat → Prop} {v x : AV} {gv : Int} {rows : List (List AV)} {ns : List Nd} {os : List Int} (hv : OL F 7 h v rows) (hR : RowsOk rows ns) (hx : OL F' 1 h x (List.map intE os)) : Frz h (.tup [.agg [.int .i64 gv, v, x], .int .i64 0, .int .i64 0]) (compV (⟨gv, ns, os⟩, 0, 0)) := by
  refine .tup _ _ rfl fun q u u' hu hu' => ?_
  match q with
  | 0 =>
    simp [Tp.V] at hu hu'; subst hu hu'
    refine .agg _ _ rfl fun q u u' hu hu' => ?_
    match q with
    | 0 => simp at hu hu'; subst hu hu'; exact .pure _ rfl
    | 1 =>
      simp at hu hu'; subst hu hu'
      refine hv.frz (by rw [List.length_map, hR.1]) fun i e e' he he' => ?_
      rw [List.getElem?_map] at he'
      cases hn : ns[i]? with
      | none => rw [hn] at he'; cases he'
      | some n =>
        rw [hn] at he'
        obtain rfl := Option.some.inj he'
        exact rowok_frz (hR.2 i e n he hn)
    | 2 => simp at hu hu'; subst hu hu'; exact hx.frz_self fun e he => by obtain ⟨y, _, rfl⟩ := List.mem_map.1 he; rfl
    | q + 3 => simp at hu
  | 1 => simp at hu hu'; subst hu hu'; exact .pure _ rfl
  | 2 => simp at hu hu'; subst hu hu'; exact .pure _ rfl
  | q + 3 => simp at hu
set_option maxHeartbeats 16000000 in
set_option maxRecDepth 100000 in
theorem pcompose_c (f g : Tp) (hf : f.Ok) (hg : g.Ok) (hfl : f.ns.length < 100000000) (hgl : g.ns.length < 100000000) (hfo : f.outs.length < 100000000) (hgo : g.outs.length < 100000000) : APure Try.prog 35 [f.V, g.V] (compV (compT f g)) := by
  refine apure_of (wp35 rfl rfl ?_)
  have pf := pcheck_c f hf
  have pg := pcheck_c g hg
  obtain ⟨W, hW⟩ : ∃ W, W = compT f g := ⟨_, rfl⟩
  rw [← hW]
  unfold compT at hW
  generalize hcf : f.check = cf at *
  generalize hcg : g.check = cg at *
  obtain ⟨fv, fn, fo⟩ := f
  obtain ⟨gv, gn, go⟩ := g
  simp only at hW hfl hgl hfo hgo
  simp (maxSteps := 4000000) only [↓packA, ↓reduceIte, packB, pureOp, quietOp, loadOp, quietB, fr0, cellsK, implies_true, ite_true, ite_false, eq_self, ne_eq, reduceCtorEq, Nat.reduceLT, Nat.reduceLeDiff, Nat.reduceAdd, Nat.reduceMul, Nat.reduceBEq, Nat.reduceEqDiff, Int.reduceToNat, Int.reduceLT, Int.reduceLE, Nat.reduceSub, pl35, ft1, ft2, ft3, ft4, ft22, ft23, ft25, ft53, ft77, ft79, ft81, ft83, ft108, ft115, Tp.V, ints, Int.cast_ofNat_Int, Int.natCast_zero, Int.natCast_one, Int.reduceAdd, Int.reduceSub, Int.reduceNeg, Int.reduceMul, Int.reduceToNat, Int.reduceLT, Int.reduceLE, Int.reduceEq, Int.reduceBEq, Int.reduceBNe, Nat.reduceSub, Nat.reduceLT, List.getD_cons_zero, List.getD_cons_succ, List.length_singleton, Bool.and_true, Bool.and_false]
  refine LoopN.loop 3 ?_
  unfold LoopN
  simp (maxSteps := 4000000) only [↓packA, ↓reduceIte, packB, pureOp, quietOp, loadOp, quietB, fr0, cellsK, implies_true, ite_true, ite_false, eq_self, ne_eq, reduceCtorEq, Nat.reduceLT, Nat.reduceLeDiff, Nat.reduceAdd, Nat.reduceMul, Nat.reduceBEq, Nat.reduceEqDiff, Int.reduceToNat, Int.reduceLT, Int.reduceLE, Nat.reduceSub, pl35, ft1, ft2, ft3, ft4, ft22, ft23, ft25, ft53, ft77, ft79, ft81, ft83, ft108, ft115, Tp.V, ints, Int.cast_ofNat_Int, Int.natCast_zero, Int.natCast_one, Int.reduceAdd, Int.reduceSub, Int.reduceNeg, Int.reduceMul, Int.reduceToNat, Int.reduceLT, Int.reduceLE, Int.reduceEq, Int.reduceBEq, Int.reduceBNe, Nat.reduceSub, Nat.reduceLT, List.getD_cons_zero, List.getD_cons_succ, List.length_singleton, Bool.and_true, Bool.and_false]
  refine acalls_pure pf rfl ?_
  by_cases c1 : cf.2 = 0
  rotate_left
  · rw [if_pos c1] at hW
    subst hW
    simp (maxSteps := 4000000) only [↓packA, ↓reduceIte, packB, pureOp, quietOp, loadOp, quietB, fr0, cellsK, implies_true, ite_true, ite_false, eq_self, ne_eq, reduceCtorEq, Nat.reduceLT, Nat.reduceLeDiff, Nat.reduceAdd, Nat.reduceMul, Nat.reduceBEq, Nat.reduceEqDiff, Int.reduceToNat, Int.reduceLT, Int.reduceLE, Nat.reduceSub, pl35, ft1, ft2, ft3, ft4, ft22, ft23, ft25, ft53, ft77, ft79, ft81, ft83, ft108, ft115, Tp.V, ints, c1, patch, patch', Int.cast_ofNat_Int, Int.natCast_zero, Int.natCast_one, Int.reduceAdd, Int.reduceSub, Int.reduceNeg, Int.reduceMul, Int.reduceToNat, Int.reduceLT, Int.reduceLE, Int.reduceEq, Int.reduceBEq, Int.reduceBNe, Nat.reduceSub, Nat.reduceLT, List.getD_cons_zero, List.getD_cons_succ, List.length_singleton, Bool.and_true, Bool.and_false]
    exact frz_zero (p := cf.1) (r := cf.2)
  rw [if_neg (by omega)] at hW
  simp (maxSteps := 4000000) only [↓packA, ↓reduceIte, packB, pureOp, quietOp, loadOp, quietB, fr0, cellsK, implies_true, ite_true, ite_false, eq_self, ne_eq, reduceCtorEq, Nat.reduceLT, Nat.reduceLeDiff, Nat.reduceAdd, Nat.reduceMul, Nat.reduceBEq, Nat.reduceEqDiff, Int.reduceToNat, Int.reduceLT, Int.reduceLE, Nat.reduceSub, pl35, ft1, ft2, ft3, ft4, ft22, ft23, ft25, ft53, ft77, ft79, ft81, ft83, ft108, ft115, Tp.V, ints, c1, Int.cast_ofNat_Int, Int.natCast_zero, Int.natCast_one, Int.reduceAdd, Int.reduceSub, Int.reduceNeg, Int.reduceMul, Int.reduceToNat, Int.reduceLT, Int.reduceLE, Int.reduceEq, Int.reduceBEq, Int.reduceBNe, Nat.reduceSub, Nat.reduceLT, List.getD_cons_zero, List.getD_cons_succ, List.length_singleton, Bool.and_true, Bool.and_false]
  unfold LoopN
  simp (maxSteps := 4000000) only [↓packA, ↓reduceIte, packB, pureOp, quietOp, loadOp, quietB, fr0, cellsK, implies_true, ite_true, ite_false, eq_self, ne_eq, reduceCtorEq, Nat.reduceLT, Nat.reduceLeDiff, Nat.reduceAdd, Nat.reduceMul, Nat.reduceBEq, Nat.reduceEqDiff, Int.reduceToNat, Int.reduceLT, Int.reduceLE, Nat.reduceSub, pl35, ft1, ft2, ft3, ft4, ft22, ft23, ft25, ft53, ft77, ft79, ft81, ft83, ft108, ft115, Tp.V, ints, Int.cast_ofNat_Int, Int.natCast_zero, Int.natCast_one, Int.reduceAdd, Int.reduceSub, Int.reduceNeg, Int.reduceMul, Int.reduceToNat, Int.reduceLT, Int.reduceLE, Int.reduceEq, Int.reduceBEq, Int.reduceBNe, Nat.reduceSub, Nat.reduceLT, List.getD_cons_zero, List.getD_cons_succ, List.length_singleton, Bool.and_true, Bool.and_false]
  refine acalls_pure pg rfl ?_
  by_cases c2 : cg.2 = 0
  rotate_left
  · rw [if_pos c2] at hW
    subst hW
    simp (maxSteps := 4000000) only [↓packA, ↓reduceIte, packB, pureOp, quietOp, loadOp, quietB, fr0, cellsK, implies_true, ite_true, ite_false, eq_self, ne_eq, reduceCtorEq, Nat.reduceLT, Nat.reduceLeDiff, Nat.reduceAdd, Nat.reduceMul, Nat.reduceBEq, Nat.reduceEqDiff, Int.reduceToNat, Int.reduceLT, Int.reduceLE, Nat.reduceSub, pl35, ft1, ft2, ft3, ft4, ft22, ft23, ft25, ft53, ft77, ft79, ft81, ft83, ft108, ft115, Tp.V, ints, c2, patch, patch', Int.cast_ofNat_Int, Int.natCast_zero, Int.natCast_one, Int.reduceAdd, Int.reduceSub, Int.reduceNeg, Int.reduceMul, Int.reduceToNat, Int.reduceLT, Int.reduceLE, Int.reduceEq, Int.reduceBEq, Int.reduceBNe, Nat.reduceSub, Nat.reduceLT, List.getD_cons_zero, List.getD_cons_succ, List.length_singleton, Bool.and_true, Bool.and_false]
    exact frz_zero (p := cg.1) (r := cg.2)
  rw [if_neg (by omega)] at hW
  simp (maxSteps := 4000000) only [↓packA, ↓reduceIte, packB, pureOp, quietOp, loadOp, quietB, fr0, cellsK, implies_true, ite_true, ite_false, eq_self, ne_eq, reduceCtorEq, Nat.reduceLT, Nat.reduceLeDiff, Nat.reduceAdd, Nat.reduceMul, Nat.reduceBEq, Nat.reduceEqDiff, Int.reduceToNat, Int.reduceLT, Int.reduceLE, Nat.reduceSub, pl35, ft1, ft2, ft3, ft4, ft22, ft23, ft25, ft53, ft77, ft79, ft81, ft83, ft108, ft115, Tp.V, ints, c2, Int.cast_ofNat_Int, Int.natCast_zero, Int.natCast_one, Int.reduceAdd, Int.reduceSub, Int.reduceNeg, Int.reduceMul, Int.reduceToNat, Int.reduceLT, Int.reduceLE, Int.reduceEq, Int.reduceBEq, Int.reduceBNe, Nat.reduceSub, Nat.reduceLT, List.getD_cons_zero, List.getD_cons_succ, List.length_singleton, Bool.and_true, Bool.and_false]
  unfold LoopN
  by_cases c3 : fv = (go.length : Int)
  rotate_left
  · rw [if_pos c3] at hW
    subst hW
    simp (maxSteps := 4000000) only [↓packA, ↓reduceIte, packB, pureOp, quietOp, loadOp, quietB, fr0, cellsK, implies_true, ite_true, ite_false, eq_self, ne_eq, reduceCtorEq, Nat.reduceLT, Nat.reduceLeDiff, Nat.reduceAdd, Nat.reduceMul, Nat.reduceBEq, Nat.reduceEqDiff, Int.reduceToNat, Int.reduceLT, Int.reduceLE, Nat.reduceSub, pl35, ft1, ft2, ft3, ft4, ft22, ft23, ft25, ft53, ft77, ft79, ft81, ft83, ft108, ft115, Tp.V, ints, c3, patch, patch', List.length_map, Int.cast_ofNat_Int, Int.natCast_zero, Int.natCast_one, Int.reduceAdd, Int.reduceSub, Int.reduceNeg, Int.reduceMul, Int.reduceToNat, Int.reduceLT, Int.reduceLE, Int.reduceEq, Int.reduceBEq, Int.reduceBNe, Nat.reduceSub, Nat.reduceLT, List.getD_cons_zero, List.getD_cons_succ, List.length_singleton, Bool.and_true, Bool.and_false]
    exact frz_zero (p := 0) (r := 7)
  rw [if_neg (by omega)] at hW
  by_cases c4 : 2048 < gn.length + fn.length
  · rw [if_pos c4] at hW
    subst hW
    have r4 : (gn.length : Int) + fn.length > 2048 := by omega
    simp (maxSteps := 4000000) only [↓packA, ↓reduceIte, packB, pureOp, quietOp, loadOp, quietB, fr0, cellsK, implies_true, ite_true, ite_false, eq_self, ne_eq, reduceCtorEq, Nat.reduceLT, Nat.reduceLeDiff, Nat.reduceAdd, Nat.reduceMul, Nat.reduceBEq, Nat.reduceEqDiff, Int.reduceToNat, Int.reduceLT, Int.reduceLE, Nat.reduceSub, pl35, ft1, ft2, ft3, ft4, ft22, ft23, ft25, ft53, ft77, ft79, ft81, ft83, ft108, ft115, Tp.V, ints, c3, r4, patch, patch', List.length_map, bne_self_eq_false, ne_eq, not_true_eq_false, Int.cast_ofNat_Int, Int.natCast_zero, Int.natCast_one, Int.reduceAdd, Int.reduceSub, Int.reduceNeg, Int.reduceMul, Int.reduceToNat, Int.reduceLT, Int.reduceLE, Int.reduceEq, Int.reduceBEq, Int.reduceBNe, Nat.reduceSub, Nat.reduceLT, List.getD_cons_zero, List.getD_cons_succ, List.length_singleton, Bool.and_true, Bool.and_false]
    exact ⟨by omega, frz_zero (p := 0) (r := 101)⟩
  have r4 : ¬ (gn.length : Int) + fn.length > 2048 := by omega
  rw [if_neg c4] at hW
  simp (maxSteps := 4000000) only [↓packA, ↓reduceIte, packB, pureOp, quietOp, loadOp, quietB, fr0, cellsK, implies_true, ite_true, ite_false, eq_self, ne_eq, reduceCtorEq, Nat.reduceLT, Nat.reduceLeDiff, Nat.reduceAdd, Nat.reduceMul, Nat.reduceBEq, Nat.reduceEqDiff, Int.reduceToNat, Int.reduceLT, Int.reduceLE, Nat.reduceSub, pl35, ft1, ft2, ft3, ft4, ft22, ft23, ft25, ft53, ft77, ft79, ft81, ft83, ft108, ft115, Tp.V, ints, c3, r4, patch, patch', List.length_map, bne_self_eq_false, ne_eq, not_true_eq_false, Int.cast_ofNat_Int, Int.natCast_zero, Int.natCast_one, Int.reduceAdd, Int.reduceSub, Int.reduceNeg, Int.reduceMul, Int.reduceToNat, Int.reduceLT, Int.reduceLE, Int.reduceEq, Int.reduceBEq, Int.reduceBNe, Nat.reduceSub, Nat.reduceLT, List.getD_cons_zero, List.getD_cons_succ, List.length_singleton, Bool.and_true, Bool.and_false]
  refine ⟨by omega, ?_⟩
  subst c3
  obtain ⟨_, _, okfo, okfn, okfo2⟩ := check_ok ⟨go.length, fn, fo⟩ (by rw [hcf]; exact c1)
  obtain ⟨_, _, okgo, okgn, okgo2⟩ := check_ok ⟨gv, gn, go⟩ (by rw [hcg]; exact c2)
  clear c1 c2 c4
  refine LoopK.intro (fun x w z => ∃ (k : Nat) (v : AV), x = gn.length - k ∧ k ≤ gn.length ∧ NL z v ((gn.take k).map Nd.cells) ∧ 6 < z.length ∧ z[0]? = some (.arr 3 [Tp.cells ⟨go.length, fn, fo⟩] true) ∧ z[1]? = some (.arr 3 [Tp.cells ⟨gv, gn, go⟩] true) ∧ z[2]? = some (.arr 3 [[.int .i64 0, .nils, .nils]] true) ∧ z[6]? = some (.arr 3 [[.int .i64 gv, v, .nils]] true) ∧ w 2 = .op 0 3 0 0 ∧ w 3 = .op 1 3 0 0 ∧ w 4 = .op 2 3 0 0 ∧ w 11 = .int .i64 gn.length ∧ w 12 = .op 6 3 0 0 ∧ w 61 = .isl 7 (List.map Nd.cells gn) ∧ w 62 = .int .i64 gn.length ∧ w 63 = .int .i64 k) gn.length ⟨0, .nils, rfl, by omega, .inl ⟨rfl, rfl⟩, ?_, rfl, rfl, rfl, ?_, ?_, ?_, ?_, ?_, ?_, ?_, ?_, ?_⟩ ?_
  · simp
  rotate_right
  all_goals (try (simp (maxSteps := 4000000) only [↓packA, ↓reduceIte, packB, pureOp, quietOp, loadOp, quietB, fr0, cellsK, implies_true, ite_true, ite_false, eq_self, ne_eq, reduceCtorEq, Nat.reduceLT, Nat.reduceLeDiff, Nat.reduceAdd, Nat.reduceMul, Nat.reduceBEq, Nat.reduceEqDiff, Int.reduceToNat, Int.reduceLT, Int.reduceLE, Nat.reduceSub, pl35, ft1, ft2, ft3, ft4, ft22, ft23, ft25, ft53, ft77, ft79, ft81, ft83, ft108, ft115, patch, patch', Int.natCast_zero, Int.cast_ofNat_Int, Int.natCast_zero, Int.natCast_one, Int.reduceAdd, Int.reduceSub, Int.reduceNeg, Int.reduceMul, Int.reduceToNat, Int.reduceLT, Int.reduceLE, Int.reduceEq, Int.reduceBEq, Int.reduceBNe, Nat.reduceSub, Nat.reduceLT, List.getD_cons_zero, List.getD_cons_succ, List.length_singleton, Bool.and_true, Bool.and_false]; done))
  rintro x w z ⟨k, v, rfl, hk, hNL, hzl, h0, h1, h2, h6, a2, a3, a4, a11, a12, a61, a62, a63⟩
  by_cases c : k < gn.length
  · have r1 : (k : Int) < (gn.length : Int) := by omega
    obtain ⟨n, hnk⟩ : ∃ n, gn[k]? = some n := ⟨_, List.getElem?_eq_getElem c⟩
    have rk : (List.map Nd.cells gn)[k]? = some (Nd.cells n) := by rw [List.getElem?_map, hnk]; rfl
    have hnok : n.Ok := hg.ns n (List.mem_of_getElem? hnk)
    have hown := own_c n.neg n.num n.den hnok.ln hnok.ld
    obtain ⟨M, hM⟩ : ∃ M, z.length = M := ⟨_, rfl⟩
    have rM : ∀ o, (z ++ [o])[M]? = some o := fun o => by rw [List.getElem?_append_right (by omega)]; simp [hM]
    have sM : ∀ o o', (z ++ [o]).set M o' = z ++ [o'] := fun o o' => by rw [List.set_append_right _ _ (by omega)]; simp [hM]
    have r6 : ∀ o, (z ++ [o])[6]? = some (.arr 3 [[.int .i64 gv, v, .nils]] true) := fun o => by rw [List.getElem?_append_left hzl]; exact h6
    simp (maxSteps := 4000000) only [↓packA, ↓reduceIte, packB, pureOp, quietOp, loadOp, quietB, fr0, cellsK, implies_true, ite_true, ite_false, eq_self, ne_eq, reduceCtorEq, Nat.reduceLT, Nat.reduceLeDiff, Nat.reduceAdd, Nat.reduceMul, Nat.reduceBEq, Nat.reduceEqDiff, Int.reduceToNat, Int.reduceLT, Int.reduceLE, Nat.reduceSub, pl35, ft1, ft2, ft3, ft4, ft22, ft23, ft25, ft53, ft77, ft79, ft81, ft83, ft108, ft115, a2, a3, a4, a11, a12, a61, a62, a63, r1, rk, hM, rM, sM, r6, Nd.cells, patch, patch', Int.cast_ofNat_Int, Int.natCast_zero, Int.natCast_one, Int.reduceAdd, Int.reduceSub, Int.reduceNeg, Int.reduceMul, Int.reduceToNat, Int.reduceLT, Int.reduceLE, Int.reduceEq, Int.reduceBEq, Int.reduceBNe, Nat.reduceSub, Nat.reduceLT, List.getD_cons_zero, List.getD_cons_succ, List.length_singleton, Bool.and_true, Bool.and_false]
    refine ⟨by omega, ?_⟩
    refine acalls_fresh hown ?_ fun u hx hz => ⟨_, hz, ?_⟩
    · exact .cons (.pure _ rfl) .nil
    simp (maxSteps := 4000000) only [↓packA, ↓reduceIte, packB, pureOp, quietOp, loadOp, quietB, fr0, cellsK, implies_true, ite_true, ite_false, eq_self, ne_eq, reduceCtorEq, Nat.reduceLT, Nat.reduceLeDiff, Nat.reduceAdd, Nat.reduceMul, Nat.reduceBEq, Nat.reduceEqDiff, Int.reduceToNat, Int.reduceLT, Int.reduceLE, Nat.reduceSub, pl35, ft1, ft2, ft3, ft4, ft22, ft23, ft25, ft53, ft77, ft79, ft81, ft83, ft108, ft115, ratV, a2, a3, a4, a11, a12, a61, a62, a63, r1, rk, hM, rM, sM, r6, Nd.cells, patch, patch', Int.cast_ofNat_Int, Int.natCast_zero, Int.natCast_one, Int.reduceAdd, Int.reduceSub, Int.reduceNeg, Int.reduceMul, Int.reduceToNat, Int.reduceLT, Int.reduceLE, Int.reduceEq, Int.reduceBEq, Int.reduceBNe, Nat.reduceSub, Nat.reduceLT, List.getD_cons_zero, List.getD_cons_succ, List.length_singleton, Bool.and_true, Bool.and_false]
    obtain ⟨o1, ho1⟩ : ∃ o1 : Ob, o1 = .arr 7 [[AV.int .i64 n.op, AV.int .i64 n.a, AV.int .i64 n.b, AV.int .i64 n.c, AV.bool n.neg, lims n.num, lims n.den]] true := ⟨_, rfl⟩
    have rM1 : (z ++ [o1] ++ [o1])[M + 1]? = some o1 := by rw [List.getElem?_append_right (by simp; omega)]; simp [hM]
    simp only [lims] at ho1 rM1 ⊢
    rw [← ho1, rM1, show some o1 = some (Ob.arr 7 [[AV.int .i64 n.op, AV.int .i64 n.a, AV.int .i64 n.b, AV.int .i64 n.c, AV.bool n.neg, .isl 1 (List.map u32E n.num), .isl 1 (List.map u32E n.den)]] true) from congrArg some ho1]
    have t1 : ∀ o : List AV, List.take 1 [o] = [o] := fun o => rfl
    simp (maxSteps := 4000000) only [↓packA, ↓reduceIte, packB, pureOp, quietOp, loadOp, quietB, fr0, cellsK, implies_true, ite_true, ite_false, eq_self, ne_eq, reduceCtorEq, Nat.reduceLT, Nat.reduceLeDiff, Nat.reduceAdd, Nat.reduceMul, Nat.reduceBEq, Nat.reduceEqDiff, Int.reduceToNat, Int.reduceLT, Int.reduceLE, Nat.reduceSub, pl35, ft1, ft2, ft3, ft4, ft22, ft23, ft25, ft53, ft77, ft79, ft81, ft83, ft108, ft115, t1, List.drop_zero, Int.cast_ofNat_Int, Int.natCast_zero, Int.natCast_one, Int.reduceAdd, Int.reduceSub, Int.reduceNeg, Int.reduceMul, Int.reduceToNat, Int.reduceLT, Int.reduceLE, Int.reduceEq, Int.reduceBEq, Int.reduceBNe, Nat.reduceSub, Nat.reduceLT, List.getD_cons_zero, List.getD_cons_succ, List.length_singleton, Bool.and_true, Bool.and_false]
    refine nl_append rfl (NL.ext (NL.ext hNL)) (by simp; omega) (by rw [List.length_map, List.length_take]; omega) fun v' z' hNL' hlz' hz' => ?_
    have h6' : z'[6]? = some (.arr 3 [[.int .i64 gv, v, .nils]] true) := by rw [hz' 6 (by omega), List.getElem?_append_left (by simp; omega), r6]
    have hNL2 := hNL'
    rcases hNL' with ⟨_, hn⟩ | ⟨id', e', e2', hv', hid', hrow', h0'⟩
    · exact absurd hn (by simp)
    subst hv'
    have etk : (gn.take (k + 1)).map Nd.cells = (gn.take k).map Nd.cells ++ [Nd.cells n] := by
      rw [List.take_add_one, hnk, List.map_append]
      rfl
    simp (maxSteps := 4000000) only [↓packA, ↓reduceIte, packB, pureOp, quietOp, loadOp, quietB, fr0, cellsK, implies_true, ite_true, ite_false, eq_self, ne_eq, reduceCtorEq, Nat.reduceLT, Nat.reduceLeDiff, Nat.reduceAdd, Nat.reduceMul, Nat.reduceBEq, Nat.reduceEqDiff, Int.reduceToNat, Int.reduceLT, Int.reduceLE, Nat.reduceSub, pl35, ft1, ft2, ft3, ft4, ft22, ft23, ft25, ft53, ft77, ft79, ft81, ft83, ft108, ft115, a2, a3, a4, a11, a12, a61, a62, a63, h6', patch, patch', Int.cast_ofNat_Int, Int.natCast_zero, Int.natCast_one, Int.reduceAdd, Int.reduceSub, Int.reduceNeg, Int.reduceMul, Int.reduceToNat, Int.reduceLT, Int.reduceLE, Int.reduceEq, Int.reduceBEq, Int.reduceBNe, Nat.reduceSub, Nat.reduceLT, List.getD_cons_zero, List.getD_cons_succ, List.length_singleton, Bool.and_true, Bool.and_false]
    have hlen : ((gn.take k).map Nd.cells ++ [Nd.cells n]).length = (gn.take k).length + 1 := by simp
    have hNL3 : NL z' (.osl id' 7 0 ((gn.take k).length + 1) ((gn.take k).length + 1) e') ((gn.take k).map Nd.cells ++ [Nd.cells n]) := by
      rw [← hlen]
      exact hNL2
    have hzz : ∀ i, i ≤ 6 → z'[i]? = z[i]? := fun i hi => by rw [hz' i hi, List.getElem?_append_left (by simp; omega), List.getElem?_append_left (by omega)]
    have hzl' : 6 < z'.length := by simp at hlz'; omega
    refine ⟨by omega, .inl ⟨gn.length - (k + 1), by omega, k + 1, _, rfl, by omega, by rw [etk]; exact hNL3.set (by omega), hzl', ?_, ?_, ?_, ?_, ?_⟩⟩
    · rw [List.getElem?_set_ne (by omega), hzz 0 (by omega), h0]
    · rw [List.getElem?_set_ne (by omega), hzz 1 (by omega), h1]
    · rw [List.getElem?_set_ne (by omega), hzz 2 (by omega), h2]
    · rw [List.getElem?_set_self hzl']
    · omega
  · have r1 : ¬ (k : Int) < (gn.length : Int) := by omega
    obtain rfl : k = gn.length := by omega
    rw [List.take_length] at hNL
    simp (maxSteps := 4000000) only [↓packA, ↓reduceIte, packB, pureOp, quietOp, loadOp, quietB, fr0, cellsK, implies_true, ite_true, ite_false, eq_self, ne_eq, reduceCtorEq, Nat.reduceLT, Nat.reduceLeDiff, Nat.reduceAdd, Nat.reduceMul, Nat.reduceBEq, Nat.reduceEqDiff, Int.reduceToNat, Int.reduceLT, Int.reduceLE, Nat.reduceSub, pl35, ft1, ft2, ft3, ft4, ft22, ft23, ft25, ft53, ft77, ft79, ft81, ft83, ft108, ft115, a2, a3, a4, a11, a12, a61, a62, a63, r1, h0, Tp.cells, List.length_map, Int.cast_ofNat_Int, Int.natCast_zero, Int.natCast_one, Int.reduceAdd, Int.reduceSub, Int.reduceNeg, Int.reduceMul, Int.reduceToNat, Int.reduceLT, Int.reduceLE, Int.reduceEq, Int.reduceBEq, Int.reduceBNe, Nat.reduceSub, Nat.reduceLT, List.getD_cons_zero, List.getD_cons_succ, List.length_singleton, Bool.and_true, Bool.and_false]
    refine LoopK.intro (fun x w z => ∃ (k : Nat) (v : AV) (rows : List (List AV)), x = fn.length - k ∧ k ≤ fn.length ∧ NL z v rows ∧ RowsOk rows (gn ++ (fn.take k).map (shiftN gn.length go)) ∧ 6 < z.length ∧ z[0]? = some (.arr 3 [Tp.cells ⟨go.length, fn, fo⟩] true) ∧ z[1]? = some (.arr 3 [Tp.cells ⟨gv, gn, go⟩] true) ∧ z[2]? = some (.arr 3 [[.int .i64 0, .nils, .nils]] true) ∧ z[6]? = some (.arr 3 [[.int .i64 gv, v, .nils]] true) ∧ w 2 = .op 0 3 0 0 ∧ w 3 = .op 1 3 0 0 ∧ w 4 = .op 2 3 0 0 ∧ w 11 = .int .i64 gn.length ∧ w 12 = .op 6 3 0 0 ∧ w 79 = .isl 7 (List.map Nd.cells fn) ∧ w 80 = .int .i64 fn.length ∧ w 81 = .int .i64 k) fn.length ⟨0, v, _, rfl, by omega, hNL, by rw [List.take_zero, List.map_nil, List.append_nil]; exact RowsOk.refl, hzl, h0, h1, h2, h6, ?_, ?_, ?_, ?_, ?_, ?_, ?_, ?_⟩ ?_
    rotate_right
    all_goals (try (simp (maxSteps := 4000000) only [↓packA, ↓reduceIte, packB, pureOp, quietOp, loadOp, quietB, fr0, cellsK, implies_true, ite_true, ite_false, eq_self, ne_eq, reduceCtorEq, Nat.reduceLT, Nat.reduceLeDiff, Nat.reduceAdd, Nat.reduceMul, Nat.reduceBEq, Nat.reduceEqDiff, Int.reduceToNat, Int.reduceLT, Int.reduceLE, Nat.reduceSub, pl35, ft1, ft2, ft3, ft4, ft22, ft23, ft25, ft53, ft77, ft79, ft81, ft83, ft108, ft115, a2, a3, a4, a11, a12, Tp.cells, List.length_map, Int.natCast_zero, Int.cast_ofNat_Int, Int.natCast_zero, Int.natCast_one, Int.reduceAdd, Int.reduceSub, Int.reduceNeg, Int.reduceMul, Int.reduceToNat, Int.reduceLT, Int.reduceLE, Int.reduceEq, Int.reduceBEq, Int.reduceBNe, Nat.reduceSub, Nat.reduceLT, List.getD_cons_zero, List.getD_cons_succ, List.length_singleton, Bool.and_true, Bool.and_false]; done))
    clear a2 a3 a4 a11 a12 a61 a62 a63 hNL hzl h0 h1 h2 h6 v w
    rintro x w z ⟨k, v, rows, rfl, hk, hNL, hR, hzl, h0, h1, h2, h6, a2, a3, a4, a11, a12, a79, a80, a81⟩
    by_cases c : k < fn.length
    · have r1 : (k : Int) < (fn.length : Int) := by omega
      obtain ⟨n, hnk⟩ : ∃ n, fn[k]? = some n := ⟨_, List.getElem?_eq_getElem c⟩
      have rk : (List.map Nd.cells fn)[k]? = some (Nd.cells n) := by rw [List.getElem?_map, hnk]; rfl
      have hnok : n.Ok := hf.ns n (List.mem_of_getElem? hnk)
      obtain ⟨w1, w2, w3, w4⟩ := wrong_ok (okfn k n hnk)
      have hown := own_c n.neg n.num n.den hnok.ln hnok.ld
      obtain ⟨M, hM⟩ : ∃ M, z.length = M := ⟨_, rfl⟩
      have rM : ∀ o, (z ++ [o])[M]? = some o := fun o => by rw [List.getElem?_append_right (by omega)]; simp [hM]
      have sM : ∀ o o', (z ++ [o]).set M o' = z ++ [o'] := fun o o' => by rw [List.set_append_right _ _ (by omega)]; simp [hM]
      have r6 : ∀ o, (z ++ [o])[6]? = some (.arr 3 [[.int .i64 gv, v, .nils]] true) := fun o => by rw [List.getElem?_append_left hzl]; exact h6
      have r1' : ∀ o, (z ++ [o])[1]? = some (.arr 3 [Tp.cells ⟨gv, gn, go⟩] true) := fun o => by rw [List.getElem?_append_left (by omega)]; exact h1
      simp (maxSteps := 4000000) only [↓packA, ↓reduceIte, packB, pureOp, quietOp, loadOp, quietB, fr0, cellsK, implies_true, ite_true, ite_false, eq_self, ne_eq, reduceCtorEq, Nat.reduceLT, Nat.reduceLeDiff, Nat.reduceAdd, Nat.reduceMul, Nat.reduceBEq, Nat.reduceEqDiff, Int.reduceToNat, Int.reduceLT, Int.reduceLE, Nat.reduceSub, pl35, ft1, ft2, ft3, ft4, ft22, ft23, ft25, ft53, ft77, ft79, ft81, ft83, ft108, ft115, a2, a3, a4, a11, a12, a79, a80, a81, r1, rk, hM, rM, sM, r6, Nd.cells, patch, patch', Int.cast_ofNat_Int, Int.natCast_zero, Int.natCast_one, Int.reduceAdd, Int.reduceSub, Int.reduceNeg, Int.reduceMul, Int.reduceToNat, Int.reduceLT, Int.reduceLE, Int.reduceEq, Int.reduceBEq, Int.reduceBNe, Nat.reduceSub, Nat.reduceLT, List.getD_cons_zero, List.getD_cons_succ, List.length_singleton, Bool.and_true, Bool.and_false]
      refine ⟨by omega, ?_⟩
      refine acalls_fresh hown ?_ fun u hx hz => ⟨_, hz, ?_⟩
      · exact .cons (.pure _ rfl) .nil
      have t1 : ∀ o : List AV, List.take 1 [o] = [o] := fun o => rfl
      have rr : ∀ o o', (z ++ [o] ++ [o'])[M + 1]? = some o' := fun o o' => by rw [List.getElem?_append_right (by simp; omega)]; simp [hM]
      have hrl : rows.length < 100000000 := by have := hR.1; simp at this; omega
      have etk : gn ++ (fn.take (k + 1)).map (shiftN gn.length go) = (gn ++ (fn.take k).map (shiftN gn.length go)) ++ [shiftN gn.length go n] := by
        rw [List.take_add_one, hnk, List.map_append, ← List.append_assoc]
        rfl
      by_cases o1 : n.op = 1
      · simp (maxSteps := 4000000) only [↓packA, ↓reduceIte, packB, pureOp, quietOp, loadOp, quietB, fr0, cellsK, implies_true, ite_true, ite_false, eq_self, ne_eq, reduceCtorEq, Nat.reduceLT, Nat.reduceLeDiff, Nat.reduceAdd, Nat.reduceMul, Nat.reduceBEq, Nat.reduceEqDiff, Int.reduceToNat, Int.reduceLT, Int.reduceLE, Nat.reduceSub, pl35, ft1, ft2, ft3, ft4, ft22, ft23, ft25, ft53, ft77, ft79, ft81, ft83, ft108, ft115, ratV, lims, ints, o1, a2, a3, a4, a11, a12, a79, a80, a81, r1, rk, hM, rM, sM, r6, r1', Tp.cells, Nd.cells, t1, rr, List.drop_zero, patch, patch', Int.cast_ofNat_Int, Int.natCast_zero, Int.natCast_one, Int.reduceAdd, Int.reduceSub, Int.reduceNeg, Int.reduceMul, Int.reduceToNat, Int.reduceLT, Int.reduceLE, Int.reduceEq, Int.reduceBEq, Int.reduceBNe, Nat.reduceSub, Nat.reduceLT, List.getD_cons_zero, List.getD_cons_succ, List.length_singleton, Bool.and_true, Bool.and_false]
        have w2' : 0 ≤ n.a ∧ n.a < (go.length : Int) := w2 o1
        refine ⟨by omega, by omega, nl_append rfl (NL.ext (NL.ext hNL)) (by simp; omega) hrl fun v' z' hNL' hlz' hz' => ?_⟩
        have h6' : z'[6]? = some (.arr 3 [[.int .i64 gv, v, .nils]] true) := by rw [hz' 6 (by omega), List.getElem?_append_left (by simp; omega), r6]
        have hNL2 := hNL'
        rcases hNL' with ⟨_, hn⟩ | ⟨id', e', e2', hv', hid', hrow', h0'⟩
        · exact absurd hn (by simp)
        subst hv'
        have hzz : ∀ i, i ≤ 6 → z'[i]? = z[i]? := fun i hi => by rw [hz' i hi, List.getElem?_append_left (by simp; omega), List.getElem?_append_left (by omega)]
        have hzl' : 6 < z'.length := by simp at hlz'; omega
        have eS : shiftN gn.length go n = ⟨8, go.getD n.a.toNat default, 0, 1, false, [], []⟩ := if_pos o1
        have hRn := hR.snoc (row := [.int .i64 8, .int .i64 (go.getD n.a.toNat default), .int .i64 0, .int .i64 1, .bool false, .nils, .nils]) (n := shiftN gn.length go n) (by rw [eS]; exact .inr ⟨rfl, rfl, rfl⟩)
        simp (maxSteps := 4000000) only [↓packA, ↓reduceIte, packB, pureOp, quietOp, loadOp, quietB, fr0, cellsK, implies_true, ite_true, ite_false, eq_self, ne_eq, reduceCtorEq, Nat.reduceLT, Nat.reduceLeDiff, Nat.reduceAdd, Nat.reduceMul, Nat.reduceBEq, Nat.reduceEqDiff, Int.reduceToNat, Int.reduceLT, Int.reduceLE, Nat.reduceSub, pl35, ft1, ft2, ft3, ft4, ft22, ft23, ft25, ft53, ft77, ft79, ft81, ft83, ft108, ft115, a2, a3, a4, a11, a12, a79, a80, a81, h6', patch, patch', Int.cast_ofNat_Int, Int.natCast_zero, Int.natCast_one, Int.reduceAdd, Int.reduceSub, Int.reduceNeg, Int.reduceMul, Int.reduceToNat, Int.reduceLT, Int.reduceLE, Int.reduceEq, Int.reduceBEq, Int.reduceBNe, Nat.reduceSub, Nat.reduceLT, List.getD_cons_zero, List.getD_cons_succ, List.length_singleton, Bool.and_true, Bool.and_false]
        rw [List.length_append, List.length_singleton] at hNL2
        refine ⟨by omega, .inl ⟨fn.length - (k + 1), by omega, k + 1, _, _, rfl, by omega, hNL2.set (by omega), by rw [etk]; exact hRn, hzl', ?_, ?_, ?_, ?_, ?_⟩⟩
        · rw [List.getElem?_set_ne (by omega), hzz 0 (by omega), h0]
        · rw [List.getElem?_set_ne (by omega), hzz 1 (by omega), h1]
        · rw [List.getElem?_set_ne (by omega), hzz 2 (by omega), h2]
        · rw [List.getElem?_set_self hzl']
        · omega
      by_cases o2 : n.op = 2
      · simp (maxSteps := 4000000) only [↓packA, ↓reduceIte, packB, pureOp, quietOp, loadOp, quietB, fr0, cellsK, implies_true, ite_true, ite_false, eq_self, ne_eq, reduceCtorEq, Nat.reduceLT, Nat.reduceLeDiff, Nat.reduceAdd, Nat.reduceMul, Nat.reduceBEq, Nat.reduceEqDiff, Int.reduceToNat, Int.reduceLT, Int.reduceLE, Nat.reduceSub, pl35, ft1, ft2, ft3, ft4, ft22, ft23, ft25, ft53, ft77, ft79, ft81, ft83, ft108, ft115, ratV, lims, ints, o1, o2, a2, a3, a4, a11, a12, a79, a80, a81, r1, rk, hM, rM, sM, r6, r1', Tp.cells, Nd.cells, t1, rr, List.drop_zero, patch, patch', Int.cast_ofNat_Int, Int.natCast_zero, Int.natCast_one, Int.reduceAdd, Int.reduceSub, Int.reduceNeg, Int.reduceMul, Int.reduceToNat, Int.reduceLT, Int.reduceLE, Int.reduceEq, Int.reduceBEq, Int.reduceBNe, Nat.reduceSub, Nat.reduceLT, List.getD_cons_zero, List.getD_cons_succ, List.length_singleton, Bool.and_true, Bool.and_false]
        refine nl_append rfl (NL.ext (NL.ext hNL)) (by simp; omega) hrl fun v' z' hNL' hlz' hz' => ?_
        have h6' : z'[6]? = some (.arr 3 [[.int .i64 gv, v, .nils]] true) := by rw [hz' 6 (by omega), List.getElem?_append_left (by simp; omega), r6]
        have hNL2 := hNL'
        rcases hNL' with ⟨_, hn⟩ | ⟨id', e', e2', hv', hid', hrow', h0'⟩
        · exact absurd hn (by simp)
        subst hv'
        have hzz : ∀ i, i ≤ 6 → z'[i]? = z[i]? := fun i hi => by rw [hz' i hi, List.getElem?_append_left (by simp; omega), List.getElem?_append_left (by omega)]
        have hzl' : 6 < z'.length := by simp at hlz'; omega
        have eS : shiftN gn.length go n = n := by unfold shiftN; rw [if_neg o1, o2]; rfl
        have hRn := hR.snoc (row := [.int .i64 2, .int .i64 n.a, .int .i64 n.b, .int .i64 n.c, .bool n.neg, .isl 1 (List.map u32E n.num), .isl 1 (List.map u32E n.den)]) (n := shiftN gn.length go n) (by rw [eS]; exact .inl (by unfold Nd.cells; rw [o2]; rfl))
        simp (maxSteps := 4000000) only [↓packA, ↓reduceIte, packB, pureOp, quietOp, loadOp, quietB, fr0, cellsK, implies_true, ite_true, ite_false, eq_self, ne_eq, reduceCtorEq, Nat.reduceLT, Nat.reduceLeDiff, Nat.reduceAdd, Nat.reduceMul, Nat.reduceBEq, Nat.reduceEqDiff, Int.reduceToNat, Int.reduceLT, Int.reduceLE, Nat.reduceSub, pl35, ft1, ft2, ft3, ft4, ft22, ft23, ft25, ft53, ft77, ft79, ft81, ft83, ft108, ft115, a2, a3, a4, a11, a12, a79, a80, a81, h6', patch, patch', Int.cast_ofNat_Int, Int.natCast_zero, Int.natCast_one, Int.reduceAdd, Int.reduceSub, Int.reduceNeg, Int.reduceMul, Int.reduceToNat, Int.reduceLT, Int.reduceLE, Int.reduceEq, Int.reduceBEq, Int.reduceBNe, Nat.reduceSub, Nat.reduceLT, List.getD_cons_zero, List.getD_cons_succ, List.length_singleton, Bool.and_true, Bool.and_false]
        rw [List.length_append, List.length_singleton] at hNL2
        refine ⟨by omega, .inl ⟨fn.length - (k + 1), by omega, k + 1, _, _, rfl, by omega, hNL2.set (by omega), by rw [etk]; exact hRn, hzl', ?_, ?_, ?_, ?_, ?_⟩⟩
        · rw [List.getElem?_set_ne (by omega), hzz 0 (by omega), h0]
        · rw [List.getElem?_set_ne (by omega), hzz 1 (by omega), h1]
        · rw [List.getElem?_set_ne (by omega), hzz 2 (by omega), h2]
        · rw [List.getElem?_set_self hzl']
        · omega
      · by_cases o3 : two n.op = true
        · have hop : n.op = 3 ∨ n.op = 4 ∨ n.op = 5 ∨ n.op = 6 := of_decide_eq_true o3
          have ba := w3 (by omega)
          have bb := w4 o3
          have eS : shiftN gn.length go n = { n with a := n.a + gn.length, b := n.b + gn.length } := by unfold shiftN; rw [if_neg o1, if_pos o3]
          have hRn := hR.snoc (row := [.int .i64 n.op, .int .i64 (n.a + gn.length), .int .i64 (n.b + gn.length), .int .i64 n.c, .bool n.neg, .isl 1 (List.map u32E n.num), .isl 1 (List.map u32E n.den)]) (n := shiftN gn.length go n) (by rw [eS]; exact .inl rfl)
          rcases hop with hop | hop | hop | hop
          all_goals
            rw [hop] at hRn
            simp (maxSteps := 4000000) only [↓packA, ↓reduceIte, packB, pureOp, quietOp, loadOp, quietB, fr0, cellsK, implies_true, ite_true, ite_false, eq_self, ne_eq, reduceCtorEq, Nat.reduceLT, Nat.reduceLeDiff, Nat.reduceAdd, Nat.reduceMul, Nat.reduceBEq, Nat.reduceEqDiff, Int.reduceToNat, Int.reduceLT, Int.reduceLE, Nat.reduceSub, pl35, ft1, ft2, ft3, ft4, ft22, ft23, ft25, ft53, ft77, ft79, ft81, ft83, ft108, ft115, ratV, lims, ints, o1, o2, hop, a2, a3, a4, a11, a12, a79, a80, a81, r1, rk, hM, rM, sM, r6, r1', Tp.cells, Nd.cells, t1, rr, List.drop_zero, patch, patch', Int.cast_ofNat_Int, Int.natCast_zero, Int.natCast_one, Int.reduceAdd, Int.reduceSub, Int.reduceNeg, Int.reduceMul, Int.reduceToNat, Int.reduceLT, Int.reduceLE, Int.reduceEq, Int.reduceBEq, Int.reduceBNe, Nat.reduceSub, Nat.reduceLT, List.getD_cons_zero, List.getD_cons_succ, List.length_singleton, Bool.and_true, Bool.and_false]
            refine ⟨by omega, by omega, nl_append rfl (NL.ext (NL.ext hNL)) (by simp; omega) hrl fun v' z' hNL' hlz' hz' => ?_⟩
            have h6' : z'[6]? = some (.arr 3 [[.int .i64 gv, v, .nils]] true) := by rw [hz' 6 (by omega), List.getElem?_append_left (by simp; omega), r6]
            have hNL2 := hNL'
            rcases hNL' with ⟨_, hn⟩ | ⟨id', e', e2', hv', hid', hrow', h0'⟩
            · exact absurd hn (by simp)
            subst hv'
            have hzz : ∀ i, i ≤ 6 → z'[i]? = z[i]? := fun i hi => by rw [hz' i hi, List.getElem?_append_left (by simp; omega), List.getElem?_append_left (by omega)]
            have hzl' : 6 < z'.length := by simp at hlz'; omega
            simp (maxSteps := 4000000) only [↓packA, ↓reduceIte, packB, pureOp, quietOp, loadOp, quietB, fr0, cellsK, implies_true, ite_true, ite_false, eq_self, ne_eq, reduceCtorEq, Nat.reduceLT, Nat.reduceLeDiff, Nat.reduceAdd, Nat.reduceMul, Nat.reduceBEq, Nat.reduceEqDiff, Int.reduceToNat, Int.reduceLT, Int.reduceLE, Nat.reduceSub, pl35, ft1, ft2, ft3, ft4, ft22, ft23, ft25, ft53, ft77, ft79, ft81, ft83, ft108, ft115, a2, a3, a4, a11, a12, a79, a80, a81, h6', patch, patch', Int.cast_ofNat_Int, Int.natCast_zero, Int.natCast_one, Int.reduceAdd, Int.reduceSub, Int.reduceNeg, Int.reduceMul, Int.reduceToNat, Int.reduceLT, Int.reduceLE, Int.reduceEq, Int.reduceBEq, Int.reduceBNe, Nat.reduceSub, Nat.reduceLT, List.getD_cons_zero, List.getD_cons_succ, List.length_singleton, Bool.and_true, Bool.and_false]
            rw [List.length_append, List.length_singleton] at hNL2
            refine ⟨by omega, .inl ⟨fn.length - (k + 1), by omega, k + 1, _, _, rfl, by omega, hNL2.set (by omega), by rw [etk]; exact hRn, hzl', ?_, ?_, ?_, ?_, ?_⟩⟩
            · rw [List.getElem?_set_ne (by omega), hzz 0 (by omega), h0]
            · rw [List.getElem?_set_ne (by omega), hzz 1 (by omega), h1]
            · rw [List.getElem?_set_ne (by omega), hzz 2 (by omega), h2]
            · rw [List.getElem?_set_self hzl']
            · omega
        · have hop : n.op = 7 ∨ n.op = 8 := by
            have : ¬ (n.op = 3 ∨ n.op = 4 ∨ n.op = 5 ∨ n.op = 6) := fun hc => o3 (decide_eq_true hc)
            omega
          have o4 : one n.op = true := decide_eq_true hop
          have ba := w3 (by omega)
          have eS : shiftN gn.length go n = { n with a := n.a + gn.length } := by unfold shiftN; rw [if_neg o1, if_neg o3, if_pos o4]
          have hRn := hR.snoc (row := [.int .i64 n.op, .int .i64 (n.a + gn.length), .int .i64 n.b, .int .i64 n.c, .bool n.neg, .isl 1 (List.map u32E n.num), .isl 1 (List.map u32E n.den)]) (n := shiftN gn.length go n) (by rw [eS]; exact .inl rfl)
          rcases hop with hop | hop
          all_goals
            rw [hop] at hRn
            simp (maxSteps := 4000000) only [↓packA, ↓reduceIte, packB, pureOp, quietOp, loadOp, quietB, fr0, cellsK, implies_true, ite_true, ite_false, eq_self, ne_eq, reduceCtorEq, Nat.reduceLT, Nat.reduceLeDiff, Nat.reduceAdd, Nat.reduceMul, Nat.reduceBEq, Nat.reduceEqDiff, Int.reduceToNat, Int.reduceLT, Int.reduceLE, Nat.reduceSub, pl35, ft1, ft2, ft3, ft4, ft22, ft23, ft25, ft53, ft77, ft79, ft81, ft83, ft108, ft115, ratV, lims, ints, o1, o2, hop, a2, a3, a4, a11, a12, a79, a80, a81, r1, rk, hM, rM, sM, r6, r1', Tp.cells, Nd.cells, t1, rr, List.drop_zero, patch, patch', Int.cast_ofNat_Int, Int.natCast_zero, Int.natCast_one, Int.reduceAdd, Int.reduceSub, Int.reduceNeg, Int.reduceMul, Int.reduceToNat, Int.reduceLT, Int.reduceLE, Int.reduceEq, Int.reduceBEq, Int.reduceBNe, Nat.reduceSub, Nat.reduceLT, List.getD_cons_zero, List.getD_cons_succ, List.length_singleton, Bool.and_true, Bool.and_false]
            refine ⟨by omega, nl_append rfl (NL.ext (NL.ext hNL)) (by simp; omega) hrl fun v' z' hNL' hlz' hz' => ?_⟩
            have h6' : z'[6]? = some (.arr 3 [[.int .i64 gv, v, .nils]] true) := by rw [hz' 6 (by omega), List.getElem?_append_left (by simp; omega), r6]
            have hNL2 := hNL'
            rcases hNL' with ⟨_, hn⟩ | ⟨id', e', e2', hv', hid', hrow', h0'⟩
            · exact absurd hn (by simp)
            subst hv'
            have hzz : ∀ i, i ≤ 6 → z'[i]? = z[i]? := fun i hi => by rw [hz' i hi, List.getElem?_append_left (by simp; omega), List.getElem?_append_left (by omega)]
            have hzl' : 6 < z'.length := by simp at hlz'; omega
            simp (maxSteps := 4000000) only [↓packA, ↓reduceIte, packB, pureOp, quietOp, loadOp, quietB, fr0, cellsK, implies_true, ite_true, ite_false, eq_self, ne_eq, reduceCtorEq, Nat.reduceLT, Nat.reduceLeDiff, Nat.reduceAdd, Nat.reduceMul, Nat.reduceBEq, Nat.reduceEqDiff, Int.reduceToNat, Int.reduceLT, Int.reduceLE, Nat.reduceSub, pl35, ft1, ft2, ft3, ft4, ft22, ft23, ft25, ft53, ft77, ft79, ft81, ft83, ft108, ft115, a2, a3, a4, a11, a12, a79, a80, a81, h6', patch, patch', Int.cast_ofNat_Int, Int.natCast_zero, Int.natCast_one, Int.reduceAdd, Int.reduceSub, Int.reduceNeg, Int.reduceMul, Int.reduceToNat, Int.reduceLT, Int.reduceLE, Int.reduceEq, Int.reduceBEq, Int.reduceBNe, Nat.reduceSub, Nat.reduceLT, List.getD_cons_zero, List.getD_cons_succ, List.length_singleton, Bool.and_true, Bool.and_false]
            rw [List.length_append, List.length_singleton] at hNL2
            refine ⟨by omega, .inl ⟨fn.length - (k + 1), by omega, k + 1, _, _, rfl, by omega, hNL2.set (by omega), by rw [etk]; exact hRn, hzl', ?_, ?_, ?_, ?_, ?_⟩⟩
            · rw [List.getElem?_set_ne (by omega), hzz 0 (by omega), h0]
            · rw [List.getElem?_set_ne (by omega), hzz 1 (by omega), h1]
            · rw [List.getElem?_set_ne (by omega), hzz 2 (by omega), h2]
            · rw [List.getElem?_set_self hzl']
            · omega
    · have r1 : ¬ (k : Int) < (fn.length : Int) := by omega
      obtain rfl : k = fn.length := by omega
      rw [List.take_length] at hR
      simp (maxSteps := 4000000) only [↓packA, ↓reduceIte, packB, pureOp, quietOp, loadOp, quietB, fr0, cellsK, implies_true, ite_true, ite_false, eq_self, ne_eq, reduceCtorEq, Nat.reduceLT, Nat.reduceLeDiff, Nat.reduceAdd, Nat.reduceMul, Nat.reduceBEq, Nat.reduceEqDiff, Int.reduceToNat, Int.reduceLT, Int.reduceLE, Nat.reduceSub, pl35, ft1, ft2, ft3, ft4, ft22, ft23, ft25, ft53, ft77, ft79, ft81, ft83, ft108, ft115, a2, a3, a4, a11, a12, a79, a80, a81, r1, h0, Tp.cells, ints, List.length_map, Int.cast_ofNat_Int, Int.natCast_zero, Int.natCast_one, Int.reduceAdd, Int.reduceSub, Int.reduceNeg, Int.reduceMul, Int.reduceToNat, Int.reduceLT, Int.reduceLE, Int.reduceEq, Int.reduceBEq, Int.reduceBNe, Nat.reduceSub, Nat.reduceLT, List.getD_cons_zero, List.getD_cons_succ, List.length_singleton, Bool.and_true, Bool.and_false]
      have hV := hNL.ol
      have hVl : ∀ i, oid v = some i → i < z.length := fun i hi => by
        rcases hNL with ⟨rfl, _⟩ | ⟨id, e, e2, rfl, hid, hrow, _⟩
        · cases hi
        · cases hi; exact (List.getElem?_eq_some_iff.1 hrow).1
      have hV6 : ∀ i, oid v = some i → 6 < i := fun i hi => by
        rcases hNL with ⟨rfl, _⟩ | ⟨id, e, e2, rfl, hid, hrow, _⟩
        · cases hi
        · cases hi; exact hid
      refine LoopK.intro (fun x w z => ∃ (k : Nat) (y : AV), x = fo.length - k ∧ k ≤ fo.length ∧ OL (fun i => i ≤ 6) 7 z v rows ∧ OL (fun i => i ≤ 6 ∨ oid v = some i) 1 z y (List.map intE ((fo.take k).map (· + (gn.length : Int)))) ∧ 6 < z.length ∧ (∀ i, oid v = some i → i < z.length) ∧ z[2]? = some (.arr 3 [[.int .i64 0, .nils, .nils]] true) ∧ z[6]? = some (.arr 3 [[.int .i64 gv, v, y]] true) ∧ w 4 = .op 2 3 0 0 ∧ w 11 = .int .i64 gn.length ∧ w 12 = .op 6 3 0 0 ∧ w 131 = ints fo ∧ w 132 = .int .i64 fo.length ∧ w 133 = .int .i64 k) fo.length ⟨0, .nils, rfl, by omega, hV, OL.nil, hzl, hVl, h2, h6, ?_, ?_, ?_, ?_, ?_, ?_⟩ ?_
      rotate_right
      all_goals (try (simp (maxSteps := 4000000) only [↓packA, ↓reduceIte, packB, pureOp, quietOp, loadOp, quietB, fr0, cellsK, implies_true, ite_true, ite_false, eq_self, ne_eq, reduceCtorEq, Nat.reduceLT, Nat.reduceLeDiff, Nat.reduceAdd, Nat.reduceMul, Nat.reduceBEq, Nat.reduceEqDiff, Int.reduceToNat, Int.reduceLT, Int.reduceLE, Nat.reduceSub, pl35, ft1, ft2, ft3, ft4, ft22, ft23, ft25, ft53, ft77, ft79, ft81, ft83, ft108, ft115, a2, a3, a4, a11, a12, ints, Tp.cells, List.length_map, Int.natCast_zero, Int.cast_ofNat_Int, Int.natCast_zero, Int.natCast_one, Int.reduceAdd, Int.reduceSub, Int.reduceNeg, Int.reduceMul, Int.reduceToNat, Int.reduceLT, Int.reduceLE, Int.reduceEq, Int.reduceBEq, Int.reduceBNe, Nat.reduceSub, Nat.reduceLT, List.getD_cons_zero, List.getD_cons_succ, List.length_singleton, Bool.and_true, Bool.and_false]; done))
      clear a2 a3 a4 a11 a12 a79 a80 a81 hNL hV hVl hzl h0 h1 h2 h6
      rintro x w z ⟨k, y, rfl, hk, hV, hY, hzl, hVl, h2, h6, a4, a11, a12, a131, a132, a133⟩
      by_cases c : k < fo.length
      · have r1 : (k : Int) < (fo.length : Int) := by omega
        have bo := okfo2 k c
        simp only at bo
        obtain ⟨M, hM⟩ : ∃ M, z.length = M := ⟨_, rfl⟩
        have rM : ∀ o, (z ++ [o])[M]? = some o := fun o => by rw [List.getElem?_append_right (by omega)]; simp [hM]
        have r6 : ∀ o, (z ++ [o])[6]? = some (.arr 3 [[.int .i64 gv, v, y]] true) := fun o => by rw [List.getElem?_append_left hzl]; exact h6
        simp (maxSteps := 4000000) only [↓packA, ↓reduceIte, packB, pureOp, quietOp, loadOp, quietB, fr0, cellsK, implies_true, ite_true, ite_false, eq_self, ne_eq, reduceCtorEq, Nat.reduceLT, Nat.reduceLeDiff, Nat.reduceAdd, Nat.reduceMul, Nat.reduceBEq, Nat.reduceEqDiff, Int.reduceToNat, Int.reduceLT, Int.reduceLE, Nat.reduceSub, pl35, ft1, ft2, ft3, ft4, ft22, ft23, ft25, ft53, ft77, ft79, ft81, ft83, ft108, ft115, ints, a4, a11, a12, a131, a132, a133, r1, hM, rM, h6, patch, patch', Int.cast_ofNat_Int, Int.natCast_zero, Int.natCast_one, Int.reduceAdd, Int.reduceSub, Int.reduceNeg, Int.reduceMul, Int.reduceToNat, Int.reduceLT, Int.reduceLE, Int.reduceEq, Int.reduceBEq, Int.reduceBNe, Nat.reduceSub, Nat.reduceLT, List.getD_cons_zero, List.getD_cons_succ, List.length_singleton, Bool.and_true, Bool.and_false]
        refine ⟨by omega, by omega, by omega, ol_append (F := fun i => i ≤ 6 ∨ oid v = some i) rfl rfl (fun i hi => ?_) hY.app (by simp) (by simp; omega) fun y' z' hy' hY' hl' hk' hF' => ?_⟩
        · rw [List.length_append]
          rcases hi with hi | hi
          · omega
          · have := hVl i hi; omega
        obtain ⟨yi, yc, ye, rfl, hyi⟩ := hy'
        simp only [List.length_map, List.length_cons, List.length_nil, Nat.zero_add] at hY'
        have h6' : z'[6]? = some (.arr 3 [[.int .i64 gv, v, y]] true) := by rw [hF' 6 (.inl (by omega)), r6]
        have hzl' : 6 < z'.length := by simp at hl'; omega
        have etk : List.map intE ((fo.take (k + 1)).map (· + (gn.length : Int))) = List.map intE ((fo.take k).map (· + (gn.length : Int))) ++ [[.int .i64 (fo.getD k default + gn.length)]] := by
          rw [List.take_add_one, List.map_append, List.map_append, List.getD_eq_getElem?_getD, List.getElem?_eq_getElem c]
          rfl
        simp (maxSteps := 4000000) only [↓packA, ↓reduceIte, packB, pureOp, quietOp, loadOp, quietB, fr0, cellsK, implies_true, ite_true, ite_false, eq_self, ne_eq, reduceCtorEq, Nat.reduceLT, Nat.reduceLeDiff, Nat.reduceAdd, Nat.reduceMul, Nat.reduceBEq, Nat.reduceEqDiff, Int.reduceToNat, Int.reduceLT, Int.reduceLE, Nat.reduceSub, pl35, ft1, ft2, ft3, ft4, ft22, ft23, ft25, ft53, ft77, ft79, ft81, ft83, ft108, ft115, a4, a11, a12, a131, a132, a133, h6', patch, patch', Int.cast_ofNat_Int, Int.natCast_zero, Int.natCast_one, Int.reduceAdd, Int.reduceSub, Int.reduceNeg, Int.reduceMul, Int.reduceToNat, Int.reduceLT, Int.reduceLE, Int.reduceEq, Int.reduceBEq, Int.reduceBNe, Nat.reduceSub, Nat.reduceLT, List.getD_cons_zero, List.getD_cons_succ, List.length_singleton, Bool.and_true, Bool.and_false]
        refine ⟨by omega, .inl ⟨fo.length - (k + 1), by omega, k + 1, _, rfl, by omega, (hV.keep fun id hi hlt hn => ⟨hn, ?_⟩).set (Nat.le_refl _) _, by rw [etk]; exact hY'.set (.inl (Nat.le_refl _)) _, hzl', fun i hi => ?_, ?_, ?_, ?_⟩⟩
        · rw [hF' id (.inr hi), List.getElem?_append_left hlt]
        · have := hVl i hi
          simp at hl'
          omega
        · rw [List.getElem?_set_ne (by omega), hF' 2 (.inl (by omega)), List.getElem?_append_left (by omega), h2]
        · rw [List.getElem?_set_self hzl']
        · omega
      · have r1 : ¬ (k : Int) < (fo.length : Int) := by omega
        obtain rfl : k = fo.length := by omega
        rw [List.take_length] at hY
        have s2 : ∀ o, (z.set 2 o)[2]? = some o := fun o => List.getElem?_set_self (by omega)
        simp (maxSteps := 4000000) only [↓packA, ↓reduceIte, packB, pureOp, quietOp, loadOp, quietB, fr0, cellsK, implies_true, ite_true, ite_false, eq_self, ne_eq, reduceCtorEq, Nat.reduceLT, Nat.reduceLeDiff, Nat.reduceAdd, Nat.reduceMul, Nat.reduceBEq, Nat.reduceEqDiff, Int.reduceToNat, Int.reduceLT, Int.reduceLE, Nat.reduceSub, pl35, ft1, ft2, ft3, ft4, ft22, ft23, ft25, ft53, ft77, ft79, ft81, ft83, ft108, ft115, ints, a4, a11, a12, a131, a132, a133, r1, h2, h6, s2, patch, patch', Int.cast_ofNat_Int, Int.natCast_zero, Int.natCast_one, Int.reduceAdd, Int.reduceSub, Int.reduceNeg, Int.reduceMul, Int.reduceToNat, Int.reduceLT, Int.reduceLE, Int.reduceEq, Int.reduceBEq, Int.reduceBNe, Nat.reduceSub, Nat.reduceLT, List.getD_cons_zero, List.getD_cons_succ, List.length_singleton, Bool.and_true, Bool.and_false]
        subst hW
        exact frz_comp (hV.set (by omega) _) hR (hY.set (.inl (by omega)) _)
end Go.Proofs.Ytgdlkhgfehclpaa
end

section
/- Objects that nobody writes any more become frozen at a call's end: told by what lies there. No condition. -/
namespace Go.AL
set_option linter.unusedVariables false
set_option linter.unusedSimpArgs false
/-- Partly frozen: what lies in hS is told by content. -/
inductive FzP (hS : Heap) : AV → AV → Prop
  | same (u : AV) : FzP hS u u
  | frz (u u' : AV) : Frz hS u u' → FzP hS u u'
  | agg (cs cs' : List AV) : cs'.length = cs.length → (∀ (q : Nat) (u u' : AV), cs[q]? = some u → cs'[q]? = some u' → FzP hS u u') → FzP hS (.agg cs) (.agg cs')
  | tup (cs cs' : List AV) : cs'.length = cs.length → (∀ (q : Nat) (u u' : AV), cs[q]? = some u → cs'[q]? = some u' → FzP hS u u') → FzP hS (.tup cs) (.tup cs')
def RowF (hS : Heap) (e e' : List AV) : Prop := e'.length = e.length ∧ ∀ (q : Nat) (u u' : AV), e[q]? = some u → e'[q]? = some u' → FzP hS u u'
theorem RowF.same {hS : Heap} (e : List AV) : RowF hS e e := ⟨rfl, fun q u u' h h' => by rw [h] at h'; obtain rfl := Option.some.inj h'; exact .same _⟩
theorem RowF.one {hS : Heap} {u u' : AV} (h : FzP hS u u') : RowF hS [u] [u'] := ⟨rfl, fun q x x' hx hx' => by
  cases q with
  | zero => simp at hx hx'; subst hx hx'; exact h
  | succ q => simp at hx⟩
def ObF (hS : Heap) : Ob → Ob → Prop
  | .arr k es ex, o => ∃ es', o = .arr k es' ex ∧ es'.length = es.length ∧ ∀ (i : Nat) (e e' : List AV), es[i]? = some e → es'[i]? = some e' → RowF hS e e'
  | .map es c, o => o = .map es c
  | .dead, _ => False
theorem ObF.same {hS : Heap} {o : Ob} (h : o ≠ .dead) : ObF hS o o := by
  cases o with
  | dead => exact absurd rfl h
  | arr k es ex => exact ⟨es, rfl, rfl, fun i e e' h h' => by rw [h] at h'; obtain rfl := Option.some.inj h'; exact .same _⟩
  | map es c => rfl
structure Frozen (h hS hK : Heap) : Prop where
  lenS : hS.length = h.length
  lenK : hK.length = h.length
  s : ∀ (id : Nat) (o : Ob), hS[id]? = some o → o ≠ .dead → h[id]? = some o
  k : ∀ (id : Nat) (o : Ob), hK[id]? = some o → o ≠ .dead → hS[id]? = some .dead ∧ ∃ o0, h[id]? = some o0 ∧ o0 ≠ .dead ∧ ObF hS o0 o
section
variable {I : Nat → Prop} {β : Nat → Nat} {h hS hK : Heap} {w : World}
theorem Frozen.relS (r : Rel I β h w) (f : Frozen h hS hK) : Rel I β hS w :=
  ⟨r.imm, fun id o h1 h2 => by rw [f.lenS]; exact r.obj id o (f.s id o h1 h2) h2, fun id id' o o' h1 h2 h3 h4 => r.inj id id' o o' (f.s id o h1 h2) h2 (f.s id' o' h3 h4) h4⟩
theorem FzP.rel (r : Rel I β h w) (f : Frozen h hS hK) {u u' : AV} (hf : FzP hS u u') : ∀ {v : Value}, VRel I β h.length w u v → VRel (IO I β hS) β hK.length w u' v := by
  induction hf with
  | same u => intro v hv; exact hv.mono (fun b hb => .inl hb) (fun _ _ => rfl) (by rw [f.lenK]; exact Nat.le_refl _) (fun _ _ => rfl) (fun _ _ x => x)
  | frz u u' hu => intro v hv; exact .imm _ _ (hu.rel (f.relS r) (by rw [f.lenS]; exact hv))
  | agg cs cs' h1 _ ih =>
    intro v hv
    obtain ⟨xs, rfl, h2, h3, h4⟩ := hv.agg_inv
    refine .agg cs' xs (by omega) h3 (fun j u' v hu' hv => ?_)
    obtain ⟨u, hu⟩ := getElem?_lt h1 hu'
    exact ih j u u' hu hu' (h4 j u v hu hv)
  | tup cs cs' h1 _ ih =>
    intro v hv
    obtain ⟨xs, rfl, h2, h4⟩ := hv.tup_inv
    refine .tup cs' xs (by omega) (fun j u' v hu' hv => ?_)
    obtain ⟨u, hu⟩ := getElem?_lt h1 hu'
    exact ih j u u' hu hu' (h4 j u v hu hv)
theorem Frozen.own (f : Frozen h hS hK) {b : Nat} (ho : Own hS β b) : Own h β b := by
  obtain ⟨id, o, h1, h2, h3⟩ := ho
  exact ⟨id, o, f.s id o h1 h2, h2, h3⟩
theorem Frozen.rel (r : Rel I β h w) (f : Frozen h hS hK) : Rel (IO I β hS) β hK w := by
  refine ⟨fun b hb => ?_, fun id o h1 h2 => ?_, fun id id' o o' h1 h2 h3 h4 hb => ?_⟩
  · rcases hb with hb | ⟨id, o, h1, h2, rfl⟩
    · exact r.imm b hb
    · exact ((f.relS r).obj id o h1 h2).1
  · obtain ⟨hd, o0, g1, g2, g3⟩ := f.k id o h1 h2
    obtain ⟨q1, q2, q3⟩ := r.obj id o0 g1 g2
    refine ⟨q1, ?_, ?_⟩
    · rintro (hi | ⟨id', o', e1, e2, e3⟩)
      · exact q2 hi
      · obtain rfl := r.inj id' id o' o0 (f.s id' o' e1 e2) e2 g1 g2 e3
        rw [hd] at e1
        exact e2 (Option.some.inj e1).symm
    · cases o0 with
      | dead => exact absurd rfl g2
      | arr k es ex =>
        obtain ⟨es', rfl, hl, hr⟩ := g3
        obtain ⟨cur, t, c1, c2, c3, c4, c5⟩ := q3
        have key : ∀ (i : Nat) (e' : List AV), es'[i]? = some e' → ∃ e, es[i]? = some e ∧ RowF hS e e' := fun i e' he' => by
          have hlt := (List.getElem?_eq_some_iff.1 he').1
          have he : es[i]? = some (es[i]'(by omega)) := List.getElem?_eq_getElem (by omega)
          exact ⟨_, he, hr i _ e' he he'⟩
        refine ⟨cur, t, c1, fun i e' he' => ?_, by rw [hl]; exact c3, fun hx => by rw [hl]; exact c4 hx, fun i e' j u' he' hu' => ?_⟩
        · obtain ⟨e, he, h5⟩ := key i e' he'
          rw [h5.1]
          exact c2 i e he
        · obtain ⟨e, he, h5⟩ := key i e' he'
          have hjl := (List.getElem?_eq_some_iff.1 hu').1
          have h51 := h5.1
          have hu : e[j]? = some (e[j]'(by omega)) := List.getElem?_eq_getElem (by omega)
          obtain ⟨v, d1, d2, d3⟩ := c5 i e j _ he hu
          exact ⟨v, d1, (h5.2 j _ u' hu hu').rel r f d2, d3⟩
      | map es c =>
        subst g3
        refine q3.mono fun u v hv => ?_
        exact hv.mono (fun b hb => .inl hb) (fun _ _ => rfl) (by rw [f.lenK]; exact Nat.le_refl _) (fun _ _ => rfl) (fun _ _ x => x)
  · obtain ⟨_, a, g1, g2, _⟩ := f.k id o h1 h2
    obtain ⟨_, a', g3, g4, _⟩ := f.k id' o' h3 h4
    exact r.inj id id' a a' g1 g2 g3 g4 hb
theorem Frozen.ext (f : Frozen h hS hK) : Ext I β h w (IO I β hS) β hK w :=
  ⟨rfl, rfl, rfl, Nat.le_refl _, by rw [f.lenK]; exact Nat.le_refl _, fun _ _ => rfl, fun _ x => .inl x, fun b hb => by
    rcases hb with hb | hb
    · exact .inl hb
    · exact .inr (.inl (f.own hb)), fun b hb => by
    obtain ⟨id, o, h1, h2, h3⟩ := hb
    obtain ⟨_, o0, g1, g2, _⟩ := f.k id o h1 h2
    exact .inl ⟨id, o0, g1, g2, h3⟩, fun _ _ _ => rfl, fun _ _ x => x⟩
end
section
variable {P : Program}
/-- At a call's end. -/
theorem acalls_freeze {f : FuncId} {args : List AV} {h : Heap} {Q : AV → Heap → Prop} (hc : ACalls P f args h fun u h' => ∃ hS hK u', Frozen h' hS hK ∧ FzP hS u u' ∧ Q u' hK) : ACalls P f args h Q := by
  refine ⟨hc.1, fun I β w vs r hv => (hc.2 I β w vs r hv).mono ?_⟩
  rintro e w' ⟨cv, u, I', β', h', h1, ⟨hS, hK, u', hf, hu, hq⟩, h5, h6, h7⟩
  exact ⟨cv, u', _, β', hK, h1, hq, h5.trans hf.ext, hf.rel h6, hu.rel h6 hf h7⟩
/-- At a call's beginning. -/
theorem acalls_freeze_pre {f : FuncId} {args args' : List AV} {h hS hK : Heap} {Q : AV → Heap → Prop} (hf : Frozen h hS hK) (ha : args'.length = args.length) (hu : ∀ (q : Nat) (u u' : AV), args[q]? = some u → args'[q]? = some u' → FzP hS u u') (hc : ACalls P f args' hK Q) : ACalls P f args h Q := by
  refine ⟨hc.1, fun I β w vs r hv => (hc.2 (IO I β hS) β w vs (hf.rel r) ⟨by rw [ha]; exact hv.1, fun j u' v hj hv' => ?_⟩).mono ?_⟩
  · obtain ⟨u, hu0⟩ := getElem?_lt ha hj
    exact (hu j u u' hu0 hj).rel r hf (hv.2 j u v hu0 hv')
  · rintro e w' ⟨cv, u, I', β', h', h1, h2, h3, h4, h5⟩
    exact ⟨cv, u, I', β', h', h1, h2, hf.ext.trans h3, h4, h5⟩
end
/-- One object that one list's rows name. -/
theorem frozen_one {h : Heap} {M L k : Nat} {o : Ob} {rows rows' : List (List AV)} {ex : Bool} (hM : h[M]? = some o) (hd : o ≠ .dead) (hLM : L ≠ M) (hL : h[L]? = some (.arr k rows ex)) (hr : rows'.length = rows.length) (hrows : ∀ (i : Nat) (e e' : List AV), rows[i]? = some e → rows'[i]? = some e' → RowF ((List.replicate h.length Ob.dead).set M o) e e') :
    Frozen h ((List.replicate h.length Ob.dead).set M o) ((h.set M .dead).set L (.arr k rows' ex)) := by
  have hMl := (List.getElem?_eq_some_iff.1 hM).1
  have hLl := (List.getElem?_eq_some_iff.1 hL).1
  have hdead : ∀ id, id < h.length → id ≠ M → ((List.replicate h.length Ob.dead).set M o)[id]? = some .dead := fun id hl hne => by
    rw [List.getElem?_set_ne (Ne.symm hne), List.getElem?_replicate, if_pos hl]
  refine ⟨by simp, by simp, fun id x h1 h2 => ?_, fun id x h1 h2 => ?_⟩
  · by_cases e : id = M
    · subst e
      rw [List.getElem?_set_self (by simpa using hMl)] at h1
      rw [← h1]
      exact hM
    · rw [List.getElem?_set_ne (Ne.symm e), List.getElem?_replicate] at h1
      split at h1
      · exact absurd (Option.some.inj h1).symm h2
      · cases h1
  · have hlt := (List.getElem?_eq_some_iff.1 h1).1
    simp only [List.length_set] at hlt
    by_cases e : id = L
    · subst e
      rw [List.getElem?_set_self (by simpa using hLl)] at h1
      obtain rfl := Option.some.inj h1
      exact ⟨hdead id hlt hLM, _, hL, by simp, rows', rfl, hr, hrows⟩
    · rw [List.getElem?_set_ne (Ne.symm e)] at h1
      by_cases e2 : id = M
      · subst e2
        rw [List.getElem?_set_self hMl] at h1
        exact absurd (Option.some.inj h1).symm h2
      · rw [List.getElem?_set_ne (Ne.symm e2)] at h1
        exact ⟨hdead id hlt e2, x, h1, h2, ObF.same h2⟩
end Go.AL
end

section
/- The book of what was handed in: lists of lists, each in an object of its own. No condition. -/
namespace Go.Proofs.Ytgdlkhgfehclpaa
open Go Go.AL
set_option linter.unusedVariables false
set_option linter.unusedSimpArgs false
def upB (B : Nat → List (List AV)) (j : Nat) (l : List (List AV)) : Nat → List (List AV) := fun i => if i = j then l else B i
theorem upB_same {B : Nat → List (List AV)} {j : Nat} {l : List (List AV)} : upB B j l j = l := if_pos rfl
theorem upB_ne {B : Nat → List (List AV)} {i j : Nat} {l : List (List AV)} (h : i ≠ j) : upB B j l i = B i := if_neg h
theorem upB_up {B : Nat → List (List AV)} {j : Nat} {l l' : List (List AV)} : upB (upB B j l) j l' = upB B j l' := by
  funext i
  unfold upB
  split <;> rfl
/-- The book lies at g: twenty lists, none of which shares an object with another or with what is fixed. -/
structure Bk (F : Nat → Prop) (g : Nat) (h : Heap) (cs : List AV) (B : Nat → List (List AV)) : Prop where
  fix : ∀ i, F i → i < h.length
  ng : ¬ F g
  len : cs.length = 20
  obj : ∃ ev, h[g]? = some (.arr 20 [cs] ev)
  ol : ∀ (j : Nat) (c : AV), cs[j]? = some c → OL (fun i => F i ∨ i = g) 1 h c (B j)
  dj : ∀ (j j' : Nat) (c c' : AV) (i : Nat), j ≠ j' → cs[j]? = some c → cs[j']? = some c' → oid c = some i → oid c' ≠ some i
section
variable {F F' : Nat → Prop} {g : Nat} {h h' : Heap} {cs : List AV} {B : Nat → List (List AV)}
theorem Bk.lt (b : Bk F g h cs B) : g < h.length := by
  obtain ⟨ev, e⟩ := b.obj
  exact (List.getElem?_eq_some_iff.1 e).1
theorem Bk.get (b : Bk F g h cs B) {j : Nat} (hj : j < 20) : ∃ c, cs[j]? = some c := ⟨_, List.getElem?_eq_getElem (by rw [b.len]; exact hj)⟩
theorem Bk.keep (b : Bk F g h cs B) (hl : h.length ≤ h'.length) (hh : ∀ i, i < h.length → ¬ F i → h'[i]? = h[i]?) : Bk F g h' cs B :=
  ⟨fun i hi => Nat.lt_of_lt_of_le (b.fix i hi) hl, b.ng, b.len, by
    obtain ⟨ev, e⟩ := b.obj
    exact ⟨ev, by rw [hh g b.lt b.ng]; exact e⟩, fun j c hc => (b.ol j c hc).keep fun id _ hlt hn => ⟨hn, hh id hlt fun e => hn (.inl e)⟩, b.dj⟩
theorem Bk.app (b : Bk F g h cs B) (t : Heap) : Bk F g (h ++ t) cs B := b.keep (by simp) fun i hi _ => List.getElem?_append_left hi
theorem Bk.set (b : Bk F g h cs B) {i : Nat} (hi : F i) (o : Ob) : Bk F g (h.set i o) cs B :=
  b.keep (by simp) fun j _ hj => List.getElem?_set_ne (fun e => hj (by rw [← e]; exact hi))
/-- More is fixed, of what is new. -/
theorem Bk.more (b : Bk F g h cs B) (hl : h.length ≤ h'.length) (hh : ∀ i, i < h.length → ¬ F i → h'[i]? = h[i]?) (hF : ∀ i, F' i → F i ∨ (h.length ≤ i ∧ i < h'.length)) : Bk F' g h' cs B :=
  ⟨fun i hi => by
    rcases hF i hi with h1 | h1
    · have := b.fix i h1; omega
    · exact h1.2, fun e => by
    rcases hF g e with h1 | h1
    · exact b.ng h1
    · have := b.lt; omega, b.len, by
    obtain ⟨ev, e⟩ := b.obj
    exact ⟨ev, by rw [hh g b.lt b.ng]; exact e⟩, fun j c hc => (b.ol j c hc).keep fun id _ hlt hn => ⟨fun e => by
      rcases e with e | e
      · rcases hF id e with h1 | h1
        · exact hn (.inl h1)
        · omega
      · exact hn (.inr e), hh id hlt fun e => hn (.inl e)⟩, b.dj⟩
theorem Bk.less (b : Bk F g h cs B) (hF : ∀ i, F' i → F i) : Bk F' g h cs B := b.more (Nat.le_refl _) (fun _ _ _ => rfl) fun i hi => .inl (hF i hi)
/-- One more row of one list. -/
theorem Bk.push (b : Bk F g h cs B) {j : Nat} {c : AV} (hj : cs[j]? = some c) {bb : Nat} {z row : List AV} {K : AV → Heap → Prop} (hz : z.length = 1) (hzf : flats z = true) (hs : ((B j).length + 1) * bb ≤ 140737488355328)
    (hK : ∀ c' h', (∃ id l cap ex, c' = .osl id 1 0 l cap ex) → h'[g]? = h[g]? → (∀ ev, Bk F g (h'.set g (.arr 20 [cs.set j c'] ev)) (cs.set j c') (upB B j (B j ++ [row]))) → (∀ i, F i → h'[i]? = h[i]?) → h.length ≤ h'.length → K c' h') : apK z bb h c [row] K := by
  have hjl := (List.getElem?_eq_some_iff.1 hj).1
  refine ol_push (F := fun i => F i ∨ i = g) 1 hz hzf (fun i hi => ?_) (b.ol j c hj) hs fun c' h' ⟨id, cap, ex, e1, e2⟩ hO hl hk hF => ?_
  · rcases hi with hi | rfl
    · exact b.fix i hi
    · exact b.lt
  have old : ∀ {q x}, q ≠ j → (cs.set j c')[q]? = some x → cs[q]? = some x := fun hq hx => by rwa [List.getElem?_set_ne (Ne.symm hq)] at hx
  have here : ∀ {x}, (cs.set j c')[j]? = some x → x = c' := fun hx => by
    rw [List.getElem?_set_self hjl] at hx
    exact (Option.some.inj hx).symm
  have hgl : g < h'.length := Nat.lt_of_lt_of_le b.lt hl
  refine hK c' h' ⟨_, _, _, _, e1⟩ (hF g (.inr rfl)) (fun ev => ⟨fun i hi => by rw [List.length_set]; exact Nat.lt_of_lt_of_le (b.fix i hi) hl, b.ng, by rw [List.length_set]; exact b.len, ⟨ev, List.getElem?_set_self hgl⟩, fun q x hx => ?_, fun q q' x x' i hq hx hx' hi => ?_⟩) (fun i hi => hF i (.inl hi)) hl
  · by_cases hq : q = j
    · subst hq
      obtain rfl := here hx
      rw [upB_same]
      exact hO.set (.inr rfl) _
    · rw [upB_ne hq]
      have hx0 := old hq hx
      refine ((b.ol q x hx0).keep fun i hi hlt hn => ⟨hn, hk i hlt fun e => b.dj j q c x i (Ne.symm hq) hj hx0 e hi⟩).set (.inr rfl) _
  · have hnew : ∀ {q x i}, q ≠ j → cs[q]? = some x → oid x = some i → oid c' ≠ some i := fun {q x i} hq hx hi => by
      rw [e1]
      intro e
      cases e
      rcases e2 with e2 | e2
      · exact b.dj j q c x _ (Ne.symm hq) hj hx e2 hi
      · rcases b.ol q x hx with ⟨rfl, _⟩ | ⟨id', _, _, _, _, rfl, _, hrow, _⟩
        · cases hi
        · cases hi
          have := (List.getElem?_eq_some_iff.1 hrow).1
          omega
    by_cases h1 : q = j
    · subst h1
      obtain rfl := here hx
      exact fun e => hnew (Ne.symm hq) (old (Ne.symm hq) hx') e hi
    · by_cases h2 : q' = j
      · subst h2
        obtain rfl := here hx'
        exact hnew h1 (old h1 hx) hi
      · exact b.dj q q' x x' i hq (old h1 hx) (old h2 hx') hi
/-- A fixed object that one list's last row names is frozen. -/
theorem Bk.freeze (b : Bk F g h cs B) {j : Nat} (hj : j < 20) {R : List (List AV)} {u u' : AV} {M : Nat} {o : Ob} (hB : B j = R ++ [[u]]) (hM : h[M]? = some o) (hd : o ≠ .dead) (hMF : F M) (hu : Frz ((List.replicate h.length Ob.dead).set M o) u u') :
    ∃ hK, Frozen h ((List.replicate h.length Ob.dead).set M o) hK ∧ Bk (fun i => F i ∧ i ≠ M) g hK cs (upB B j (R ++ [[u']])) ∧ (∀ i, F i → i ≠ M → hK[i]? = h[i]?) ∧ hK.length = h.length := by
  obtain ⟨c, hc⟩ := b.get hj
  have hO := b.ol j c hc
  rw [hB] at hO
  rcases hO with ⟨_, h0⟩ | ⟨L, cap, ex, rest, ex', rfl, hL, hrow, hlc, hce, hre⟩
  · exact absurd h0 (by simp)
  have hLM : L ≠ M := fun e => hL (.inl (e ▸ hMF))
  have hLg : L ≠ g := fun e => hL (.inr e)
  have hgM : g ≠ M := fun e => b.ng (e ▸ hMF)
  have hLl := (List.getElem?_eq_some_iff.1 hrow).1
  refine ⟨(h.set M .dead).set L (.arr 1 (R ++ [[u']] ++ rest) ex'), frozen_one hM hd hLM hrow (by simp) (fun i e e' he he' => ?_), ⟨fun i hi => by simp; exact b.fix i hi.1, fun e => b.ng e.1, b.len, ?_, fun q x hx => ?_, b.dj⟩, fun i hi hne => ?_, by simp⟩
  · by_cases c1 : i < R.length
    · rw [List.append_assoc, List.getElem?_append_left c1] at he he'
      rw [he] at he'
      obtain rfl := Option.some.inj he'
      exact .same _
    · rw [List.append_assoc, List.getElem?_append_right (by omega)] at he he'
      cases hq : i - R.length with
      | zero =>
        rw [hq] at he he'
        simp at he he'
        subst he he'
        exact .one (.frz _ _ hu)
      | succ q =>
        rw [hq] at he he'
        simp at he he'
        rw [he] at he'
        obtain rfl := Option.some.inj he'
        exact .same _
  · obtain ⟨ev, e⟩ := b.obj
    exact ⟨ev, by rw [List.getElem?_set_ne hLg, List.getElem?_set_ne (Ne.symm hgM)]; exact e⟩
  · by_cases hq : q = j
    · subst hq
      rw [hc] at hx
      obtain rfl := Option.some.inj hx
      rw [upB_same]
      exact .inr ⟨L, cap, ex, rest, ex', by simp, fun e => hL (by rcases e with e | e; exact .inl e.1; exact .inr e), List.getElem?_set_self (by simpa using hLl), by simpa using hlc, by simpa using hce, hre⟩
    · rw [upB_ne hq]
      refine (b.ol q x hx).keep fun i hi hlt hn => ⟨fun e => hn (by rcases e with e | e; exact .inl e.1; exact .inr e), ?_⟩
      rw [List.getElem?_set_ne (fun e => b.dj j q _ x i (Ne.symm hq) hc hx (by rw [← e]; rfl) hi), List.getElem?_set_ne (fun e => hn (.inl (by rw [← e]; exact hMF)))]
  · rw [List.getElem?_set_ne (fun e => hL (.inl (by rw [e]; exact hi))), List.getElem?_set_ne (Ne.symm hne)]
end
end Go.Proofs.Ytgdlkhgfehclpaa
end

section
/- Numbers and lists of numbers that are handed in. No condition. -/
namespace Go.Proofs.Ytgdlkhgfehclpaa
open Go Go.AL
set_option linter.unusedVariables false
set_option linter.unusedSimpArgs false
def limM (l : List Int) : List Int := l ++ [42405, 23130, 42330]
theorem limM_ok {l : List Int} (h : LI l) : LI (limM l) := h.app fun x hx => by simp at hx; omega
def bkNat (B : Nat → List (List AV)) (l : List Int) : Nat → List (List AV) := upB (upB B 0 (B 0 ++ [[lims (limM l)]])) 1 (B 1 ++ [[lims (limM l)]])
theorem copyNat_f (l : List Int) (hL : LI l) (hl : l.length < 100000000) : ACalls Try.prog 90 [lims l] [] fun v h => OFz h v (lims l) := copyNat_o l hL hl (ofz_pre (t := [0, 0, 0]) rfl)
theorem upB_swap {B : Nat → List (List AV)} {i j : Nat} {x y z : List (List AV)} (h : i ≠ j) : upB (upB (upB B i x) j y) i z = upB (upB B i z) j y := by
  funext q
  unfold upB
  by_cases h1 : q = i
  · subst h1
    rw [if_pos rfl, if_neg h, if_pos rfl]
  · rw [if_neg h1, if_neg h1, if_neg h1]
theorem only_get {h : Heap} {M : Nat} {o : Ob} (hM : M < h.length) : ((List.replicate h.length Ob.dead).set M o)[M]? = some o := List.getElem?_set_self (by simpa using hM)
set_option maxHeartbeats 4000000 in
set_option maxRecDepth 100000 in
theorem gnat_c (l : List Int) (hL : LI l) (hl : l.length < 10000000) {F : Nat → Prop} {g : Nat} {h : Heap} {cs : List AV} {B : Nat → List (List AV)} (b : Bk F g h cs B) (hb0 : (B 0).length < 100000000) (hb1 : (B 1).length < 100000000) {Q : AV → Heap → Prop}
    (hq : ∀ h' cs', Bk F g h' cs' (bkNat B l) → (∀ i, F i → h'[i]? = h[i]?) → h.length ≤ h'.length → Q (lims l) h') : ACalls Try.prog 63 [.op g 20 0 0, lims l] h Q := by
  refine acalls_freeze (wp63 rfl rfl ?_)
  obtain ⟨M, hM⟩ : ∃ M, h.length = M := ⟨_, rfl⟩
  have tM := tailR hM
  have e3 : List.take l.length (List.map u32E (l ++ [0, 0, 0])) ++ [[AV.int IntKind.u32 42405], [AV.int IntKind.u32 23130], [AV.int IntKind.u32 42330]] ++ List.drop (l.length + 3) (List.map u32E (l ++ [0, 0, 0])) = List.map u32E (limM l) := by
    rw [← List.map_take, ← List.map_drop, List.take_left, List.drop_of_length_le (by simp), limM, List.map_append, List.map_nil, List.append_nil]
    rfl
  obtain ⟨ev, hg⟩ := b.obj
  have hgl := b.lt
  have rg : ∀ t, (h ++ t)[g]? = some (.arr 20 [cs] ev) := fun t => by rw [List.getElem?_append_left hgl]; exact hg
  obtain ⟨c0, hc0⟩ := b.get (j := 0) (by decide)
  have en : ((l.length + 3 : Nat) : Int) = (l.length : Int) + 3 := by omega
  simp (maxSteps := 4000000) only [↓packA, ↓reduceIte, packB, pureOp, quietOp, loadOp, quietB, fr0, cellsK, implies_true, ite_true, ite_false, eq_self, ne_eq, reduceCtorEq, Nat.reduceLT, Nat.reduceLeDiff, Nat.reduceAdd, Nat.reduceMul, Nat.reduceBEq, Nat.reduceEqDiff, Int.reduceToNat, Int.reduceLT, Int.reduceLE, Nat.reduceSub, pl63, ft1, ft3, ft22, ft23, ft27, ft28, ft29, ft30, ft31, ft32, ft33, ft34, ft35, ft36, ft38, ft78, ft79, ft87, ft89, ft91, ft115, ft119, ft122, ft128, lims]
  refine copyNat_o l hL (by omega) ?_
  simp (maxSteps := 4000000) only [↓packA, ↓reduceIte, packB, pureOp, quietOp, loadOp, quietB, fr0, cellsK, implies_true, ite_true, ite_false, eq_self, ne_eq, reduceCtorEq, Nat.reduceLT, Nat.reduceLeDiff, Nat.reduceAdd, Nat.reduceMul, Nat.reduceBEq, Nat.reduceEqDiff, Int.reduceToNat, Int.reduceLT, Int.reduceLE, Nat.reduceSub, pl63, ft1, ft3, ft22, ft23, ft27, ft28, ft29, ft30, ft31, ft32, ft33, ft34, ft35, ft36, ft38, ft78, ft79, ft87, ft89, ft91, ft115, ft119, ft122, ft128, lims, limR, hM, tM, e3, rg, hc0]
  refine ⟨by omega, by omega, ?_⟩
  have b1 : Bk (fun i => F i ∨ i = M) g (h ++ [Ob.arr 1 (List.map u32E (limM l)) true, Ob.arr 1 [[AV.int IntKind.u32 42405], [AV.int IntKind.u32 23130], [AV.int IntKind.u32 42330]] true, Ob.arr 1 [[AV.osl M 1 0 (l.length + 3) (l.length + 3) true]] true]) cs B := b.more (by simp) (fun i hi _ => List.getElem?_append_left hi) fun i hi => by
    rcases hi with hi | rfl
    · exact .inl hi
    · exact .inr ⟨by omega, by simp; omega⟩
  refine b1.push hc0 rfl rfl (by omega) fun c1 h1 ⟨_, _, _, _, ec1⟩ hg1 hb1' hF1 hl1 => ?_
  subst ec1
  have b2 := hb1' ev
  have hM1 : h1[M]? = some (Ob.arr 1 (List.map u32E (limM l)) true) := by rw [hF1 M (.inr rfl)]; exact tM.1 _
  have hg1' : h1[g]? = some (.arr 20 [cs] ev) := by rw [hg1]; exact rg _
  have hgl1 : g < h1.length := by simp at hl1; omega
  have hgM : g ≠ M := by omega
  have sg : ∀ o, (h1.set g o)[g]? = some o := fun o => List.getElem?_set_self hgl1
  obtain ⟨c1, hc1⟩ := b.get (j := 1) (by decide)
  have hc1' : ∀ x, (cs.set 0 x)[1]? = some c1 := fun x => by rw [List.getElem?_set_ne (by decide)]; exact hc1
  have hcl : 1 ≤ cs.length := by rw [b.len]; decide
  simp (maxSteps := 4000000) only [↓packA, ↓reduceIte, packB, pureOp, quietOp, loadOp, quietB, fr0, cellsK, implies_true, ite_true, ite_false, eq_self, ne_eq, reduceCtorEq, Nat.reduceLT, Nat.reduceLeDiff, Nat.reduceAdd, Nat.reduceMul, Nat.reduceBEq, Nat.reduceEqDiff, Int.reduceToNat, Int.reduceLT, Int.reduceLE, Nat.reduceSub, pl63, ft1, ft3, ft22, ft23, ft27, ft28, ft29, ft30, ft31, ft32, ft33, ft34, ft35, ft36, ft38, ft78, ft79, ft87, ft89, ft91, ft115, ft119, ft122, ft128, lims, limR, hM, hg1', hc0, sg, hc1', hcl]
  refine acalls_fresh (copyNat_f (limM l) (limM_ok hL) (by simp [limM]; omega)) (.cons (Frz.whole (es := List.map u32E (limM l)) (ex' := true) (by rw [List.getElem?_set_ne hgM]; exact hM1) (fun e he => by obtain ⟨x, _, rfl⟩ := List.mem_map.1 he; rfl) (by simp [limM])) .nil) fun u hx hz => ⟨_, hz, ?_⟩
  generalize hcs2 : cs.set 0 _ = cs2 at *
  generalize hh2 : h1.set g _ = h2 at *
  have hg2 : h2[g]? = some (.arr 20 [cs2] ev) := by rw [← hh2]; exact sg _
  have hc2 : cs2[1]? = some c1 := by rw [← hcs2]; exact hc1' _
  have hl2 : h2.length = h1.length := by rw [← hh2]; simp
  have rg2 : ∀ t, (h2 ++ t)[g]? = some (.arr 20 [cs2] ev) := fun t => by rw [List.getElem?_append_left (by omega)]; exact hg2
  obtain ⟨M2, hM2⟩ : ∃ M2, h2.length = M2 := ⟨_, rfl⟩
  have tM2 := tailR hM2
  simp (maxSteps := 4000000) only [↓packA, ↓reduceIte, packB, pureOp, quietOp, loadOp, quietB, fr0, cellsK, implies_true, ite_true, ite_false, eq_self, ne_eq, reduceCtorEq, Nat.reduceLT, Nat.reduceLeDiff, Nat.reduceAdd, Nat.reduceMul, Nat.reduceBEq, Nat.reduceEqDiff, Int.reduceToNat, Int.reduceLT, Int.reduceLE, Nat.reduceSub, pl63, ft1, ft3, ft22, ft23, ft27, ft28, ft29, ft30, ft31, ft32, ft33, ft34, ft35, ft36, ft38, ft78, ft79, ft87, ft89, ft91, ft115, ft119, ft122, ft128, lims, limR, hM2, tM2, hg2, rg2, hc2]
  have eB1 : upB B 0 (B 0 ++ [[AV.osl M 1 0 (l.length + 3) (l.length + 3) true]]) 1 = B 1 := upB_ne (by decide)
  refine (b2.app _).push hc2 rfl rfl (by rw [eB1]; omega) fun c3 h3 ⟨_, _, _, _, ec3⟩ hg3 hb3 hF3 hl3 => ?_
  subst ec3
  have hg3' : h3[g]? = some (.arr 20 [cs2] ev) := by rw [hg3]; exact rg2 _
  have hgl3 : g < h3.length := by simp at hl3; omega
  have hcl2 : 1 + 1 ≤ cs2.length := by rw [← hcs2, List.length_set, b.len]; decide
  have b3 := hb3 ev
  simp (maxSteps := 4000000) only [↓packA, ↓reduceIte, packB, pureOp, quietOp, loadOp, quietB, fr0, cellsK, implies_true, ite_true, ite_false, eq_self, ne_eq, reduceCtorEq, Nat.reduceLT, Nat.reduceLeDiff, Nat.reduceAdd, Nat.reduceMul, Nat.reduceBEq, Nat.reduceEqDiff, Int.reduceToNat, Int.reduceLT, Int.reduceLE, Nat.reduceSub, pl63, ft1, ft3, ft22, ft23, ft27, ft28, ft29, ft30, ft31, ft32, ft33, ft34, ft35, ft36, ft38, ft78, ft79, ft87, ft89, ft91, ft115, ft119, ft122, ft128, lims, limR, hg3', hc2, hcl2]
  generalize hcs4 : cs2.set 1 _ = cs4 at *
  generalize hh4 : h3.set g _ = h4 at *
  refine ⟨by omega, ?_⟩
  have hM4 : h4[M]? = some (Ob.arr 1 (List.map u32E (limM l)) true) := by
    rw [← hh4, List.getElem?_set_ne hgM, hF3 M (.inr rfl), List.getElem?_append_left (by rw [hl2]; exact (List.getElem?_eq_some_iff.1 hM1).1), ← hh2, List.getElem?_set_ne hgM]
    exact hM1
  rw [eB1] at b3
  have hMl4 := (List.getElem?_eq_some_iff.1 hM4).1
  obtain ⟨hK, f1, f2, f3, f4⟩ := b3.freeze (j := 0) (by decide) (R := B 0) (by rw [upB_ne (by decide), upB_same]) hM4 (by simp) (.inr rfl) (u' := lims (limM l)) (Frz.whole (only_get hMl4) (fun e he => by obtain ⟨x, _, rfl⟩ := List.mem_map.1 he; rfl) (by simp [limM]))
  refine ⟨by omega, _, hK, lims l, f1, .frz _ _ ?_, hq hK cs4 ?_ (fun i hi => ?_) ?_⟩
  · have := Frz.flat (id := M) (k := 1) (i := 0) (len := l.length) (cap := l.length + 3) (ex := true) (only_get (o := Ob.arr 1 (List.map u32E (limM l)) true) hMl4) (by simp [limM]) (fun e he => by obtain ⟨x, _, rfl⟩ := List.mem_map.1 he; rfl)
    rw [List.drop_zero, ← List.map_take, limM, List.take_left] at this
    exact this
  · rw [upB_swap (by decide)] at f2
    exact f2.less fun i hi => ⟨.inl hi, fun e => by have := b.fix i hi; omega⟩
  · have hil := b.fix i hi
    rw [f3 i (.inl hi) (by omega), ← hh4, List.getElem?_set_ne (fun e => b.ng (by rw [e]; exact hi)), hF3 i (.inl hi)]
    simp only [List.length_append] at hl1
    rw [List.getElem?_append_left (by omega), ← hh2, List.getElem?_set_ne (fun e => b.ng (by rw [e]; exact hi)), hF1 i (.inl hi), List.getElem?_append_left hil]
  · rw [f4, ← hh4, List.length_set]
    simp at hl1 hl3
    omega
/-- The same for lists of numbers. -/
def intM (l : List Int) : List Int := l ++ [-41, -42, -43]
def bkInts (B : Nat → List (List AV)) (l : List Int) : Nat → List (List AV) := upB (upB B 4 (B 4 ++ [[ints (intM l)]])) 5 (B 5 ++ [[ints (intM l)]])
theorem copyInts_o (l : List Int) (hl : l.length < 100000000) {h : Heap} {Q : AV → Heap → Prop} (hq : Q (.osl h.length 1 0 l.length (l.length + 3) true) (h ++ [.arr 1 (List.map intE (l ++ [0, 0, 0])) true])) : ACalls Try.prog 47 [ints l] h Q := by
  refine acalls_shift (copy_c l (by omega)) rfl fun u h0 ⟨hu, hh⟩ => ?_
  subst hu hh
  rw [behind_eq, map_one, ren_intEs, ren_osl, Nat.zero_add]
  exact hq
theorem copyInts_f (l : List Int) (hl : l.length < 100000000) : ACalls Try.prog 47 [ints l] [] fun v h => OFz h v (ints l) := copyInts_o l hl (by
  have := OFz.osl (h := [.arr 1 (List.map intE (l ++ [0, 0, 0])) true]) 0 1 0 l.length (l.length + 3) true true _ rfl (by simp) (fun e he => by obtain ⟨x, _, rfl⟩ := List.mem_map.1 he; rfl)
  rw [List.drop_zero, ← List.map_take, List.take_left] at this
  exact this)
set_option maxHeartbeats 4000000 in
set_option maxRecDepth 100000 in
theorem gints_c (l : List Int) (hl : l.length < 10000000) {F : Nat → Prop} {g : Nat} {h : Heap} {cs : List AV} {B : Nat → List (List AV)} (b : Bk F g h cs B) (hb0 : (B 4).length < 100000000) (hb1 : (B 5).length < 100000000) {Q : AV → Heap → Prop}
    (hq : ∀ h' cs', Bk F g h' cs' (bkInts B l) → (∀ i, F i → h'[i]? = h[i]?) → h.length ≤ h'.length → Q (ints l) h') : ACalls Try.prog 17 [.op g 20 0 0, ints l] h Q := by
  refine acalls_freeze (wp17 rfl rfl ?_)
  obtain ⟨M, hM⟩ : ∃ M, h.length = M := ⟨_, rfl⟩
  have tM := tailR hM
  have e3 : List.take l.length (List.map intE (l ++ [0, 0, 0])) ++ [[AV.int IntKind.i64 (-41)], [AV.int IntKind.i64 (-42)], [AV.int IntKind.i64 (-43)]] ++ List.drop (l.length + 3) (List.map intE (l ++ [0, 0, 0])) = List.map intE (intM l) := by
    rw [← List.map_take, ← List.map_drop, List.take_left, List.drop_of_length_le (by simp), intM, List.map_append, List.map_nil, List.append_nil]
    rfl
  obtain ⟨ev, hg⟩ := b.obj
  have hgl := b.lt
  have rg : ∀ t, (h ++ t)[g]? = some (.arr 20 [cs] ev) := fun t => by rw [List.getElem?_append_left hgl]; exact hg
  obtain ⟨c0, hc0⟩ := b.get (j := 4) (by decide)
  have en : ((l.length + 3 : Nat) : Int) = (l.length : Int) + 3 := by omega
  simp (maxSteps := 4000000) only [↓packA, ↓reduceIte, packB, pureOp, quietOp, loadOp, quietB, fr0, cellsK, implies_true, ite_true, ite_false, eq_self, ne_eq, reduceCtorEq, Nat.reduceLT, Nat.reduceLeDiff, Nat.reduceAdd, Nat.reduceMul, Nat.reduceBEq, Nat.reduceEqDiff, Int.reduceToNat, Int.reduceLT, Int.reduceLE, Nat.reduceSub, pl17, ft1, ft3, ft4, ft5, ft22, ft23, ft27, ft28, ft29, ft30, ft31, ft32, ft33, ft34, ft35, ft36, ft38, ft78, ft87, ft89, ft91, ft119, ft122, ft128, ints]
  refine copyInts_o l (by omega) ?_
  simp (maxSteps := 4000000) only [↓packA, ↓reduceIte, packB, pureOp, quietOp, loadOp, quietB, fr0, cellsK, implies_true, ite_true, ite_false, eq_self, ne_eq, reduceCtorEq, Nat.reduceLT, Nat.reduceLeDiff, Nat.reduceAdd, Nat.reduceMul, Nat.reduceBEq, Nat.reduceEqDiff, Int.reduceToNat, Int.reduceLT, Int.reduceLE, Nat.reduceSub, pl17, ft1, ft3, ft4, ft5, ft22, ft23, ft27, ft28, ft29, ft30, ft31, ft32, ft33, ft34, ft35, ft36, ft38, ft78, ft87, ft89, ft91, ft119, ft122, ft128, ints, hM, tM, e3, rg, hc0]
  refine ⟨by omega, by omega, ?_⟩
  have b1 : Bk (fun i => F i ∨ i = M) g (h ++ [Ob.arr 1 (List.map intE (intM l)) true, Ob.arr 1 [[AV.int IntKind.i64 (-41)], [AV.int IntKind.i64 (-42)], [AV.int IntKind.i64 (-43)]] true, Ob.arr 1 [[AV.osl M 1 0 (l.length + 3) (l.length + 3) true]] true]) cs B := b.more (by simp) (fun i hi _ => List.getElem?_append_left hi) fun i hi => by
    rcases hi with hi | rfl
    · exact .inl hi
    · exact .inr ⟨by omega, by simp; omega⟩
  refine b1.push hc0 rfl rfl (by omega) fun c1 h1 ⟨_, _, _, _, ec1⟩ hg1 hb1' hF1 hl1 => ?_
  subst ec1
  have b2 := hb1' ev
  have hM1 : h1[M]? = some (Ob.arr 1 (List.map intE (intM l)) true) := by rw [hF1 M (.inr rfl)]; exact tM.1 _
  have hg1' : h1[g]? = some (.arr 20 [cs] ev) := by rw [hg1]; exact rg _
  have hgl1 : g < h1.length := by simp at hl1; omega
  have hgM : g ≠ M := by omega
  have sg : ∀ o, (h1.set g o)[g]? = some o := fun o => List.getElem?_set_self hgl1
  obtain ⟨c1, hc1⟩ := b.get (j := 5) (by decide)
  have hc1' : ∀ x, (cs.set 4 x)[5]? = some c1 := fun x => by rw [List.getElem?_set_ne (by decide)]; exact hc1
  have hcl : 5 ≤ cs.length := by rw [b.len]; decide
  simp (maxSteps := 4000000) only [↓packA, ↓reduceIte, packB, pureOp, quietOp, loadOp, quietB, fr0, cellsK, implies_true, ite_true, ite_false, eq_self, ne_eq, reduceCtorEq, Nat.reduceLT, Nat.reduceLeDiff, Nat.reduceAdd, Nat.reduceMul, Nat.reduceBEq, Nat.reduceEqDiff, Int.reduceToNat, Int.reduceLT, Int.reduceLE, Nat.reduceSub, pl17, ft1, ft3, ft4, ft5, ft22, ft23, ft27, ft28, ft29, ft30, ft31, ft32, ft33, ft34, ft35, ft36, ft38, ft78, ft87, ft89, ft91, ft119, ft122, ft128, ints, hM, hg1', hc0, sg, hc1', hcl]
  refine acalls_fresh (copyInts_f (intM l) (by simp [intM]; omega)) (.cons (Frz.whole (es := List.map intE (intM l)) (ex' := true) (by rw [List.getElem?_set_ne hgM]; exact hM1) (fun e he => by obtain ⟨x, _, rfl⟩ := List.mem_map.1 he; rfl) (by simp [intM])) .nil) fun u hx hz => ⟨_, hz, ?_⟩
  generalize hcs2 : cs.set 4 _ = cs2 at *
  generalize hh2 : h1.set g _ = h2 at *
  have hg2 : h2[g]? = some (.arr 20 [cs2] ev) := by rw [← hh2]; exact sg _
  have hc2 : cs2[5]? = some c1 := by rw [← hcs2]; exact hc1' _
  have hl2 : h2.length = h1.length := by rw [← hh2]; simp
  have rg2 : ∀ t, (h2 ++ t)[g]? = some (.arr 20 [cs2] ev) := fun t => by rw [List.getElem?_append_left (by omega)]; exact hg2
  obtain ⟨M2, hM2⟩ : ∃ M2, h2.length = M2 := ⟨_, rfl⟩
  have tM2 := tailR hM2
  simp (maxSteps := 4000000) only [↓packA, ↓reduceIte, packB, pureOp, quietOp, loadOp, quietB, fr0, cellsK, implies_true, ite_true, ite_false, eq_self, ne_eq, reduceCtorEq, Nat.reduceLT, Nat.reduceLeDiff, Nat.reduceAdd, Nat.reduceMul, Nat.reduceBEq, Nat.reduceEqDiff, Int.reduceToNat, Int.reduceLT, Int.reduceLE, Nat.reduceSub, pl17, ft1, ft3, ft4, ft5, ft22, ft23, ft27, ft28, ft29, ft30, ft31, ft32, ft33, ft34, ft35, ft36, ft38, ft78, ft87, ft89, ft91, ft119, ft122, ft128, ints, hM2, tM2, hg2, rg2, hc2]
  have eB1 : upB B 4 (B 4 ++ [[AV.osl M 1 0 (l.length + 3) (l.length + 3) true]]) 5 = B 5 := upB_ne (by decide)
  refine (b2.app _).push hc2 rfl rfl (by rw [eB1]; omega) fun c3 h3 ⟨_, _, _, _, ec3⟩ hg3 hb3 hF3 hl3 => ?_
  subst ec3
  have hg3' : h3[g]? = some (.arr 20 [cs2] ev) := by rw [hg3]; exact rg2 _
  have hgl3 : g < h3.length := by simp at hl3; omega
  have hcl2 : 5 + 1 ≤ cs2.length := by rw [← hcs2, List.length_set, b.len]; decide
  have b3 := hb3 ev
  simp (maxSteps := 4000000) only [↓packA, ↓reduceIte, packB, pureOp, quietOp, loadOp, quietB, fr0, cellsK, implies_true, ite_true, ite_false, eq_self, ne_eq, reduceCtorEq, Nat.reduceLT, Nat.reduceLeDiff, Nat.reduceAdd, Nat.reduceMul, Nat.reduceBEq, Nat.reduceEqDiff, Int.reduceToNat, Int.reduceLT, Int.reduceLE, Nat.reduceSub, pl17, ft1, ft3, ft4, ft5, ft22, ft23, ft27, ft28, ft29, ft30, ft31, ft32, ft33, ft34, ft35, ft36, ft38, ft78, ft87, ft89, ft91, ft119, ft122, ft128, ints, hg3', hc2, hcl2]
  generalize hcs4 : cs2.set 5 _ = cs4 at *
  generalize hh4 : h3.set g _ = h4 at *
  refine ⟨by omega, ?_⟩
  have hM4 : h4[M]? = some (Ob.arr 1 (List.map intE (intM l)) true) := by
    rw [← hh4, List.getElem?_set_ne hgM, hF3 M (.inr rfl), List.getElem?_append_left (by rw [hl2]; exact (List.getElem?_eq_some_iff.1 hM1).1), ← hh2, List.getElem?_set_ne hgM]
    exact hM1
  rw [eB1] at b3
  have hMl4 := (List.getElem?_eq_some_iff.1 hM4).1
  obtain ⟨hK, f1, f2, f3, f4⟩ := b3.freeze (j := 4) (by decide) (R := B 4) (by rw [upB_ne (by decide), upB_same]) hM4 (by simp) (.inr rfl) (u' := ints (intM l)) (Frz.whole (only_get hMl4) (fun e he => by obtain ⟨x, _, rfl⟩ := List.mem_map.1 he; rfl) (by simp [intM]))
  refine ⟨by omega, _, hK, ints l, f1, .frz _ _ ?_, hq hK cs4 ?_ (fun i hi => ?_) ?_⟩
  · have := Frz.flat (id := M) (k := 1) (i := 0) (len := l.length) (cap := l.length + 3) (ex := true) (only_get (o := Ob.arr 1 (List.map intE (intM l)) true) hMl4) (by simp [intM]) (fun e he => by obtain ⟨x, _, rfl⟩ := List.mem_map.1 he; rfl)
    rw [List.drop_zero, ← List.map_take, intM, List.take_left] at this
    exact this
  · rw [upB_swap (by decide)] at f2
    exact f2.less fun i hi => ⟨.inl hi, fun e => by have := b.fix i hi; omega⟩
  · have hil := b.fix i hi
    rw [f3 i (.inl hi) (by omega), ← hh4, List.getElem?_set_ne (fun e => b.ng (by rw [e]; exact hi)), hF3 i (.inl hi)]
    simp only [List.length_append] at hl1
    rw [List.getElem?_append_left (by omega), ← hh2, List.getElem?_set_ne (fun e => b.ng (by rw [e]; exact hi)), hF1 i (.inl hi), List.getElem?_append_left hil]
  · rw [f4, ← hh4, List.length_set]
    simp at hl1 hl3
    omega
end Go.Proofs.Ytgdlkhgfehclpaa
end

section
/- Rationals that are handed in. No condition. -/
namespace Go.Proofs.Ytgdlkhgfehclpaa
open Go Go.AL
set_option linter.unusedVariables false
set_option linter.unusedSimpArgs false
set_option maxHeartbeats 4000000 in
set_option maxRecDepth 100000 in
theorem grat_c (neg : Bool) (num den : List Int) (hnL : LI num) (hdL : LI den) (hn : num.length < 10000000) (hd : den.length < 10000000) {F : Nat → Prop} {g : Nat} {h : Heap} {cs : List AV} {B : Nat → List (List AV)} (b : Bk F g h cs B) (hb0 : (B 0).length < 90000000) (hb1 : (B 1).length < 90000000) {Q : AV → Heap → Prop}
    (hq : ∀ h' cs', Bk F g h' cs' (bkNat (bkNat B num) den) → (∀ i, F i → h'[i]? = h[i]?) → h.length ≤ h'.length → Q (ratV neg num den) h') : ACalls Try.prog 38 [.op g 20 0 0, ratV neg num den] h Q := by
  refine wp38 rfl rfl ?_
  obtain ⟨M, hM⟩ : ∃ M, h.length = M := ⟨_, rfl⟩
  have tM := tailR hM
  have bm : ∀ x y : Ob, Bk (fun i => F i ∨ i = M ∨ i = M + 1) g (h ++ [x, y]) cs B := fun x y => b.more (by simp) (fun i hi _ => List.getElem?_append_left hi) fun i hi => by
    rcases hi with hi | hi
    · exact .inl hi
    · exact .inr ⟨by omega, by simp; omega⟩
  simp (maxSteps := 4000000) only [↓packA, ↓reduceIte, packB, pureOp, quietOp, loadOp, quietB, fr0, cellsK, implies_true, ite_true, ite_false, eq_self, ne_eq, reduceCtorEq, Nat.reduceLT, Nat.reduceLeDiff, Nat.reduceAdd, Nat.reduceMul, Nat.reduceBEq, Nat.reduceEqDiff, Int.reduceToNat, Int.reduceLT, Int.reduceLE, Nat.reduceSub, pl38, ft1, ft2, ft4, ft26, ft38, ft79, ft81, ft115, ratV, hM, tM]
  refine gnat_c num hnL hn (bm _ _) (by omega) (by omega) fun h1 cs1 b1 hF1 hl1 => ?_
  have e0 : h1[M]? = some (.arr 3 [[.bool neg, lims num, lims den]] true) := by rw [hF1 M (.inr (.inl rfl))]; exact tM.1 _
  have e1 : h1[M + 1]? = some (.arr 3 [[.bool false, .nils, .nils]] true) := by rw [hF1 (M + 1) (.inr (.inr rfl))]; exact tM.2.1 _ 1
  simp (maxSteps := 4000000) only [↓packA, ↓reduceIte, packB, pureOp, quietOp, loadOp, quietB, fr0, cellsK, implies_true, ite_true, ite_false, eq_self, ne_eq, reduceCtorEq, Nat.reduceLT, Nat.reduceLeDiff, Nat.reduceAdd, Nat.reduceMul, Nat.reduceBEq, Nat.reduceEqDiff, Int.reduceToNat, Int.reduceLT, Int.reduceLE, Nat.reduceSub, pl38, ft1, ft2, ft4, ft26, ft38, ft79, ft81, ft115, e0, e1]
  refine gnat_c den hdL hd b1 (by simp [bkNat, upB]; omega) (by simp [bkNat, upB]; omega) fun h2 cs2 b2 hF2 hl2 => ?_
  have e2 : h2[M]? = some (.arr 3 [[.bool neg, lims num, lims den]] true) := by rw [hF2 M (.inr (.inl rfl))]; exact e0
  have e3 : h2[M + 1]? = some (.arr 3 [[.bool false, .nils, .nils]] true) := by rw [hF2 (M + 1) (.inr (.inr rfl))]; exact e1
  have e4 : ∀ o, (h2.set (M + 1) o)[M + 1]? = some o := fun o => List.getElem?_set_self (by simp at hl1; omega)
  simp (maxSteps := 4000000) only [↓packA, ↓reduceIte, packB, pureOp, quietOp, loadOp, quietB, fr0, cellsK, implies_true, ite_true, ite_false, eq_self, ne_eq, reduceCtorEq, Nat.reduceLT, Nat.reduceLeDiff, Nat.reduceAdd, Nat.reduceMul, Nat.reduceBEq, Nat.reduceEqDiff, Int.reduceToNat, Int.reduceLT, Int.reduceLE, Nat.reduceSub, pl38, ft1, ft2, ft4, ft26, ft38, ft79, ft81, ft115, lims, ratV, e2, e3, e4, patch, patch', Int.cast_ofNat_Int, Int.natCast_zero, Int.natCast_one, Int.reduceAdd, Int.reduceSub, Int.reduceNeg, Int.reduceMul, Int.reduceToNat, Int.reduceLT, Int.reduceLE, Int.reduceEq, Int.reduceBEq, Int.reduceBNe, Nat.reduceSub, Nat.reduceLT, List.getD_cons_zero, List.getD_cons_succ, List.length_singleton, Bool.and_true, Bool.and_false]
  refine hq _ cs2 ((b2.set (.inr (.inr rfl)) _).less fun i hi => .inl hi) (fun i hi => ?_) (by simp at hl1 ⊢; omega)
  have := b.fix i hi
  rw [List.getElem?_set_ne (by omega), hF2 i (.inl hi), hF1 i (.inl hi), List.getElem?_append_left this]
end Go.Proofs.Ytgdlkhgfehclpaa
end

section
/- The copy of a list of nodes of one's own, frozen. No condition. -/
namespace Go.Proofs.Ytgdlkhgfehclpaa
open Go Go.AL
set_option linter.unusedVariables false
set_option linter.unusedSimpArgs false
theorem frozen_none {h : Heap} {M : Nat} {o : Ob} (hM : h[M]? = some o) (hd : o ≠ .dead) : Frozen h ((List.replicate h.length Ob.dead).set M o) (h.set M .dead) := by
  have hMl := (List.getElem?_eq_some_iff.1 hM).1
  refine ⟨by simp, by simp, fun id x h1 h2 => ?_, fun id x h1 h2 => ?_⟩
  · by_cases e : id = M
    · subst e
      rw [only_get hMl] at h1
      rw [← h1]
      exact hM
    · rw [List.getElem?_set_ne (Ne.symm e), List.getElem?_replicate] at h1
      split at h1
      · exact absurd (Option.some.inj h1).symm h2
      · cases h1
  · have hlt := (List.getElem?_eq_some_iff.1 h1).1
    rw [List.length_set] at hlt
    by_cases e : id = M
    · subst e
      rw [List.getElem?_set_self hMl] at h1
      exact absurd (Option.some.inj h1).symm h2
    · rw [List.getElem?_set_ne (Ne.symm e)] at h1
      exact ⟨by rw [List.getElem?_set_ne (Ne.symm e), List.getElem?_replicate, if_pos hlt], x, h1, h2, ObF.same h2⟩
theorem rowok_xy {row : List AV} {n : Nd} (h : RowOk row n) : ∃ X Y, row = [.int .i64 n.op, .int .i64 n.a, .int .i64 n.b, .int .i64 n.c, .bool n.neg, X, Y] ∧ (∀ h, Frz h X (lims n.num)) ∧ ∀ h, Frz h Y (lims n.den) := by
  rcases h with rfl | ⟨e1, e2, rfl⟩
  · exact ⟨_, _, rfl, fun _ => .pure _ rfl, fun _ => .pure _ rfl⟩
  · exact ⟨_, _, rfl, fun _ => by rw [e1]; exact .nils 1, fun _ => by rw [e2]; exact .nils 1⟩
theorem frz_rat {h : Heap} {neg : Bool} {X Y : AV} {num den : List Int} (hX : Frz h X (lims num)) (hY : Frz h Y (lims den)) : Frz h (.agg [.bool neg, X, Y]) (ratV neg num den) := .agg _ _ rfl fun q u u' hu hu' => by
  match q with
  | 0 => simp at hu hu'; subst hu hu'; exact .pure _ rfl
  | 1 => simp at hu hu'; subst hu hu'; exact hX
  | 2 => simp at hu hu'; subst hu hu'; exact hY
  | q + 3 => simp at hu
set_option maxHeartbeats 4000000 in
set_option maxRecDepth 100000 in
theorem copyTapeO_c (vars : Int) (ns : List Nd) (hns : ∀ n, n ∈ ns → n.Ok) (hn : ns.length < 100000000) {h : Heap} {A cap : Nat} {ex ex' : Bool} {rows : List (List AV)} (hA : h[A]? = some (.arr 7 rows ex')) (hR : RowsOk rows ns) {Q : AV → Heap → Prop}
    (hq : ∀ h', (∀ i, i < h.length → h'[i]? = h[i]?) → h.length ≤ h'.length → Q (.agg [.int .i64 vars, .isl 7 (ns.map Nd.cells), .isl 1 []]) h') : ACalls Try.prog 39 [.agg [.int .i64 vars, .osl A 7 0 ns.length cap ex, .nils]] h Q := by
  refine acalls_freeze (wp39 rfl rfl ?_)
  obtain ⟨M, hM⟩ : ∃ M, h.length = M := ⟨_, rfl⟩
  have hAl := (List.getElem?_eq_some_iff.1 hA).1
  have hrl := hR.1
  have tM := tailR hM
  have rA : ∀ t, (h ++ t)[A]? = some (.arr 7 rows ex') := fun t => by rw [List.getElem?_append_left hAl]; exact hA
  have en : (ns.length : Int) + 3 = ((ns.length + 3 : Nat) : Int) := by omega
  simp (maxSteps := 4000000) only [↓packA, ↓reduceIte, packB, pureOp, quietOp, loadOp, quietB, fr0, cellsK, implies_true, ite_true, ite_false, eq_self, ne_eq, reduceCtorEq, Nat.reduceLT, Nat.reduceLeDiff, Nat.reduceAdd, Nat.reduceMul, Nat.reduceBEq, Nat.reduceEqDiff, Int.reduceToNat, Int.reduceLT, Int.reduceLE, Nat.reduceSub, pl39, ft1, ft2, ft3, ft4, ft22, ft23, ft25, ft77, ft79, ft81, ft83, ft115, hM, tM, List.length_map, en]
  refine ⟨by omega, by omega, ?_⟩
  refine LoopK.intro (fun x w z => ∃ (k : Nat) (R : List (List AV)), x = ns.length - k ∧ k ≤ ns.length ∧ RowsW R ns k (ns.length + 3) ∧ w 1 = .op M 3 0 0 ∧ w 2 = .op (M + 1) 3 0 0 ∧ w 3 = .osl (M + 2) 7 0 ns.length (ns.length + 3) true ∧ w 4 = .int .i64 k ∧ z = h ++ [.arr 3 [[AV.int IntKind.i64 vars, .osl A 7 0 ns.length cap ex, .nils]] true, .arr 3 [[AV.int IntKind.i64 0, AV.nils, AV.nils]] true, .arr 7 R true]) ns.length ⟨0, _, rfl, by omega, RowsW.start, ?_, ?_, ?_, ?_, rfl⟩ ?_
  rotate_right
  all_goals (try (simp (maxSteps := 4000000) only [↓packA, ↓reduceIte, packB, pureOp, quietOp, loadOp, quietB, fr0, cellsK, implies_true, ite_true, ite_false, eq_self, ne_eq, reduceCtorEq, Nat.reduceLT, Nat.reduceLeDiff, Nat.reduceAdd, Nat.reduceMul, Nat.reduceBEq, Nat.reduceEqDiff, Int.reduceToNat, Int.reduceLT, Int.reduceLE, Nat.reduceSub, pl39, ft1, ft2, ft3, ft4, ft22, ft23, ft25, ft77, ft79, ft81, ft83, ft115, Int.natCast_zero]; done))
  rintro x w z ⟨k, R, rfl, hk, hW, a1, a2, a3, a4, rfl⟩
  by_cases c : k < ns.length
  · have q1 : (k : Int) < (ns.length : Int) := by omega
    obtain ⟨n, hnk⟩ : ∃ n, ns[k]? = some n := ⟨_, List.getElem?_eq_getElem c⟩
    obtain ⟨row, hrk⟩ : ∃ row, rows[k]? = some row := ⟨_, List.getElem?_eq_getElem (by omega)⟩
    obtain ⟨X, Y, erow, hX, hY⟩ := rowok_xy (hR.2 k row n hrk hnk)
    subst erow
    have hnok : n.Ok := hns n (List.mem_of_getElem? hnk)
    have hcp := copyRat_c n.neg n.num n.den hnok.num hnok.den hnok.ln hnok.ld
    have rR : R[k]? = some zrow := hW.2.2 k (Nat.le_refl _) (by omega)
    have hRl := hW.1
    have rS : ∀ e, (R.set k e)[k]? = some e := fun e => List.getElem?_set_self (by omega)
    have hst := hW.step hnk (by omega)
    simp (maxSteps := 4000000) only [↓packA, ↓reduceIte, packB, pureOp, quietOp, loadOp, quietB, fr0, cellsK, implies_true, ite_true, ite_false, eq_self, ne_eq, reduceCtorEq, Nat.reduceLT, Nat.reduceLeDiff, Nat.reduceAdd, Nat.reduceMul, Nat.reduceBEq, Nat.reduceEqDiff, Int.reduceToNat, Int.reduceLT, Int.reduceLE, Nat.reduceSub, pl39, ft1, ft2, ft3, ft4, ft22, ft23, ft25, ft77, ft79, ft81, ft83, ft115, a1, a2, a3, a4, q1, rR, rS, rA, hrk, hM, tM, List.length_map, List.set_set, zrow, patch, patch', Nat.zero_add, Int.cast_ofNat_Int, Int.natCast_zero, Int.natCast_one, Int.reduceAdd, Int.reduceSub, Int.reduceNeg, Int.reduceMul, Int.reduceToNat, Int.reduceLT, Int.reduceLE, Int.reduceEq, Int.reduceBEq, Int.reduceBNe, Nat.reduceSub, Nat.reduceLT, List.getD_cons_zero, List.getD_cons_succ, List.length_singleton, Bool.and_true, Bool.and_false]
    refine ⟨by omega, by omega, by omega, acalls_fresh hcp (.cons (frz_rat (hX _) (hY _)) .nil) fun u hx hz => ⟨_, hz, ?_⟩⟩
    simp (maxSteps := 4000000) only [↓packA, ↓reduceIte, packB, pureOp, quietOp, loadOp, quietB, fr0, cellsK, implies_true, ite_true, ite_false, eq_self, ne_eq, reduceCtorEq, Nat.reduceLT, Nat.reduceLeDiff, Nat.reduceAdd, Nat.reduceMul, Nat.reduceBEq, Nat.reduceEqDiff, Int.reduceToNat, Int.reduceLT, Int.reduceLE, Nat.reduceSub, pl39, ft1, ft2, ft3, ft4, ft22, ft23, ft25, ft77, ft79, ft81, ft83, ft115, ratV, lims, a1, a2, a3, a4, q1, rR, rS, rA, hrk, hM, tM, List.length_map, List.set_set, zrow, patch, patch', Nat.zero_add, Int.cast_ofNat_Int, Int.natCast_zero, Int.natCast_one, Int.reduceAdd, Int.reduceSub, Int.reduceNeg, Int.reduceMul, Int.reduceToNat, Int.reduceLT, Int.reduceLE, Int.reduceEq, Int.reduceBEq, Int.reduceBNe, Nat.reduceSub, Nat.reduceLT, List.getD_cons_zero, List.getD_cons_succ, List.length_singleton, Bool.and_true, Bool.and_false]
    exact ⟨by omega, by omega, .inl ⟨ns.length - (k + 1), by omega, k + 1, _, rfl, by omega, hst, by omega, rfl⟩⟩
  · have q1 : ¬ (k : Int) < (ns.length : Int) := by omega
    obtain rfl : k = ns.length := by omega
    have hRf := hW.full
    simp (maxSteps := 4000000) only [↓packA, ↓reduceIte, packB, pureOp, quietOp, loadOp, quietB, fr0, cellsK, implies_true, ite_true, ite_false, eq_self, ne_eq, reduceCtorEq, Nat.reduceLT, Nat.reduceLeDiff, Nat.reduceAdd, Nat.reduceMul, Nat.reduceBEq, Nat.reduceEqDiff, Int.reduceToNat, Int.reduceLT, Int.reduceLE, Nat.reduceSub, pl39, ft1, ft2, ft3, ft4, ft22, ft23, ft25, ft77, ft79, ft81, ft83, ft115, a1, a2, a3, a4, q1, hM, tM, List.length_map]
    refine acalls_fresh (copyInts_f [] (by decide)) (.cons (.nils 1) .nil) fun u hx hz => ⟨_, hz, ?_⟩
    simp (maxSteps := 4000000) only [↓packA, ↓reduceIte, packB, pureOp, quietOp, loadOp, quietB, fr0, cellsK, implies_true, ite_true, ite_false, eq_self, ne_eq, reduceCtorEq, Nat.reduceLT, Nat.reduceLeDiff, Nat.reduceAdd, Nat.reduceMul, Nat.reduceBEq, Nat.reduceEqDiff, Int.reduceToNat, Int.reduceLT, Int.reduceLE, Nat.reduceSub, pl39, ft1, ft2, ft3, ft4, ft22, ft23, ft25, ft77, ft79, ft81, ft83, ft115, ints, a1, a2, a3, a4, q1, hM, tM, List.map_nil, List.length_map, patch, patch', Int.cast_ofNat_Int, Int.natCast_zero, Int.natCast_one, Int.reduceAdd, Int.reduceSub, Int.reduceNeg, Int.reduceMul, Int.reduceToNat, Int.reduceLT, Int.reduceLE, Int.reduceEq, Int.reduceBEq, Int.reduceBNe, Nat.reduceSub, Nat.reduceLT, List.getD_cons_zero, List.getD_cons_succ, List.length_singleton, Bool.and_true, Bool.and_false]
    have hg1 : ∀ x y : Ob, (h ++ [x, y, Ob.arr 7 R true])[M + 2]? = some (Ob.arr 7 R true) := fun x y => gR hM _ 2
    refine ⟨_, _, .agg [.int .i64 vars, .isl 7 (ns.map Nd.cells), .isl 1 []], frozen_none (hg1 _ _) (by simp), .agg _ _ rfl fun q u u' hu hu' => ?_, hq _ (fun i hi => ?_) (by simp)⟩
    · match q with
      | 0 => simp at hu hu'; subst hu hu'; exact .same _
      | 1 =>
        simp at hu hu'; subst hu hu'
        have := Frz.flat (k := 7) (i := 0) (len := ns.length) (cap := ns.length + 3) (ex := true) (only_get (h := h ++ [Ob.arr 3 [[AV.int IntKind.i64 vars, AV.osl A 7 0 ns.length cap ex, AV.nils]] true, Ob.arr 3 [[AV.int IntKind.i64 vars, AV.osl (M + 2) 7 0 ns.length (ns.length + 3) true, AV.isl 1 []]] true, Ob.arr 7 R true]) (M := M + 2) (o := Ob.arr 7 R true) (by simp; omega)) (by rw [hRf]; simp) (fun e he => by
          rw [hRf] at he
          rcases List.mem_append.1 he with h1 | h1
          · obtain ⟨n, _, rfl⟩ := List.mem_map.1 h1; rfl
          · simp at h1; subst h1; rfl)
        rw [List.drop_zero, hRf, List.take_left' (by simp)] at this
        rw [hRf]
        exact .frz _ _ this
      | 2 => simp at hu hu'; subst hu hu'; exact .same _
      | q + 3 => simp at hu
    · rw [List.getElem?_set_ne (by omega), List.getElem?_append_left hi]
end Go.Proofs.Ytgdlkhgfehclpaa
end

section
/- Tapes that are handed in. No condition. -/
namespace Go.Proofs.Ytgdlkhgfehclpaa
open Go Go.AL
set_option linter.unusedVariables false
set_option linter.unusedSimpArgs false
def bkNs (B : Nat → List (List AV)) (ns : List Nd) : Nat → List (List AV) := ns.foldl (fun B n => bkNat (bkNat B n.num) n.den) B
theorem bkNs_succ {B : Nat → List (List AV)} {ns : List Nd} {k : Nat} {n : Nd} (h : ns[k]? = some n) : bkNs B (ns.take (k + 1)) = bkNat (bkNat (bkNs B (ns.take k)) n.num) n.den := by
  unfold bkNs
  rw [List.take_add_one, h, List.foldl_append]
  rfl
theorem bkNat_len (B : Nat → List (List AV)) (l : List Int) : (bkNat B l 0).length = (B 0).length + 1 ∧ (bkNat B l 1).length = (B 1).length + 1 ∧ ∀ i, 2 ≤ i → bkNat B l i = B i := by
  refine ⟨?_, ?_, fun i hi => ?_⟩
  · unfold bkNat; rw [upB_ne (by decide), upB_same]; simp
  · unfold bkNat; rw [upB_same]; simp
  · unfold bkNat; rw [upB_ne (by omega), upB_ne (by omega)]
theorem bkNs_len (ns : List Nd) : ∀ B : Nat → List (List AV), (bkNs B ns 0).length = (B 0).length + 2 * ns.length ∧ (bkNs B ns 1).length = (B 1).length + 2 * ns.length ∧ ∀ i, 2 ≤ i → bkNs B ns i = B i := by
  induction ns with
  | nil => intro B; exact ⟨rfl, rfl, fun _ _ => rfl⟩
  | cons n ns ih =>
    intro B
    obtain ⟨h1, h2, h3⟩ := ih (bkNat (bkNat B n.num) n.den)
    obtain ⟨a1, a2, a3⟩ := bkNat_len B n.num
    obtain ⟨b1, b2, b3⟩ := bkNat_len (bkNat B n.num) n.den
    refine ⟨?_, ?_, fun i hi => ?_⟩
    · show (bkNs (bkNat (bkNat B n.num) n.den) ns 0).length = _
      rw [h1, b1, a1]; simp; omega
    · show (bkNs (bkNat (bkNat B n.num) n.den) ns 1).length = _
      rw [h2, b2, a2]; simp; omega
    · show bkNs (bkNat (bkNat B n.num) n.den) ns i = _
      rw [h3 i hi, b3 i hi, a3 i hi]
def markN (x : Int) : Nd := ⟨0, x, 0, 0, false, [], []⟩
def opM (ns : List Nd) : List Nd := ns ++ [markN (-41), markN (-42), markN (-43)]
def markR (x : Int) : List AV := [.int .i64 0, .int .i64 x, .int .i64 0, .int .i64 0, .bool false, .nils, .nils]
def bkOps (B : Nat → List (List AV)) (ns : List Nd) : Nat → List (List AV) := upB (upB B 14 (B 14 ++ [[.isl 7 ((opM ns).map Nd.cells)]])) 15 (B 15 ++ [[.isl 7 ((opM ns).map Nd.cells)]])
def bkTape (B : Nat → List (List AV)) (t : Tp) : Nat → List (List AV) := bkInts (bkOps (bkNs B t.ns) t.ns) t.outs
theorem rows_opM {ns : List Nd} : RowsOk (ns.map Nd.cells ++ [markR (-41), markR (-42), markR (-43)]) (opM ns) := by
  have h1 : ∀ x, RowOk (markR x) (markN x) := fun x => .inr ⟨rfl, rfl, rfl⟩
  have := (((RowsOk.refl (ns := ns)).snoc (h1 (-41))).snoc (h1 (-42))).snoc (h1 (-43))
  simpa [opM] using this
set_option maxHeartbeats 4000000 in
set_option maxRecDepth 100000 in
theorem gtape_c (t : Tp) (ht : t.Ok) (hn : t.ns.length < 10000000) (ho : t.outs.length < 10000000) (hnl : ∀ n, n ∈ t.ns → n.num.length < 10000000 ∧ n.den.length < 10000000) {F : Nat → Prop} {g : Nat} {h : Heap} {cs : List AV} {B : Nat → List (List AV)} (b : Bk F g h cs B) (hb : ∀ i, (B i).length < 60000000) {Q : AV → Heap → Prop}
    (hq : ∀ h' cs', Bk F g h' cs' (bkTape B t) → (∀ i, F i → h'[i]? = h[i]?) → h.length ≤ h'.length → Q t.V h') : ACalls Try.prog 13 [.op g 20 0 0, t.V] h Q := by
  refine acalls_freeze (wp13 rfl rfl ?_)
  have hns := ht.ns
  obtain ⟨vars, ns, outs⟩ := t
  simp only at hns hn ho hnl hq
  obtain ⟨M, hM⟩ : ∃ M, h.length = M := ⟨_, rfl⟩
  have tM := tailR hM
  have en : (ns.length : Int) + 3 = ((ns.length + 3 : Nat) : Int) := by omega
  have hgl := b.lt
  have bm : ∀ x y z : Ob, Bk (fun i => F i ∨ i = M ∨ i = M + 1 ∨ i = M + 2) g (h ++ [x, y, z]) cs B := fun x y z => b.more (by simp) (fun i hi _ => List.getElem?_append_left hi) fun i hi => by
    rcases hi with hi | hi
    · exact .inl hi
    · exact .inr ⟨by omega, by simp; omega⟩
  simp (maxSteps := 4000000) only [↓packA, ↓reduceIte, packB, pureOp, quietOp, loadOp, quietB, fr0, cellsK, implies_true, ite_true, ite_false, eq_self, ne_eq, reduceCtorEq, Nat.reduceLT, Nat.reduceLeDiff, Nat.reduceAdd, Nat.reduceMul, Nat.reduceBEq, Nat.reduceEqDiff, Int.reduceToNat, Int.reduceLT, Int.reduceLE, Nat.reduceSub, pl13, ft1, ft2, ft3, ft4, ft9, ft12, ft14, ft15, ft22, ft23, ft25, ft26, ft27, ft28, ft29, ft30, ft31, ft32, ft33, ft34, ft35, ft36, ft38, ft77, ft78, ft79, ft81, ft83, ft87, ft89, ft91, ft115, ft119, ft122, ft128, ft210, Tp.V, ints, hM, tM, List.length_map, en]
  refine ⟨by omega, by omega, ?_⟩
  refine LoopK.intro (fun x w z => ∃ (k : Nat) (R : List (List AV)) (cs' : List AV), x = ns.length - k ∧ k ≤ ns.length ∧ RowsW R ns k (ns.length + 3) ∧ Bk (fun i => F i ∨ i = M ∨ i = M + 1 ∨ i = M + 2) g z cs' (bkNs B (ns.take k)) ∧ (∀ i, F i → z[i]? = h[i]?) ∧ w 0 = .op g 20 0 0 ∧ w 3 = .op M 3 0 0 ∧ w 4 = .op (M + 1) 3 0 0 ∧ w 5 = .osl (M + 2) 7 0 ns.length (ns.length + 3) true ∧ w 6 = .int .i64 k ∧ z[M]? = some (.arr 3 [[AV.int IntKind.i64 vars, AV.isl 7 (List.map Nd.cells ns), AV.isl 1 (List.map intE outs)]] true) ∧ z[M + 1]? = some (.arr 3 [[AV.int IntKind.i64 0, AV.nils, AV.nils]] true) ∧ z[M + 2]? = some (.arr 7 R true)) ns.length ⟨0, _, cs, rfl, by omega, RowsW.start, bm _ _ _, fun i hi => List.getElem?_append_left (b.fix i hi), ?_, ?_, ?_, ?_, ?_, tM.1 _, tM.2.1 _ 1, tM.2.1 _ 2⟩ ?_
  rotate_right
  all_goals (try (simp (maxSteps := 4000000) only [↓packA, ↓reduceIte, packB, pureOp, quietOp, loadOp, quietB, fr0, cellsK, implies_true, ite_true, ite_false, eq_self, ne_eq, reduceCtorEq, Nat.reduceLT, Nat.reduceLeDiff, Nat.reduceAdd, Nat.reduceMul, Nat.reduceBEq, Nat.reduceEqDiff, Int.reduceToNat, Int.reduceLT, Int.reduceLE, Nat.reduceSub, pl13, ft1, ft2, ft3, ft4, ft9, ft12, ft14, ft15, ft22, ft23, ft25, ft26, ft27, ft28, ft29, ft30, ft31, ft32, ft33, ft34, ft35, ft36, ft38, ft77, ft78, ft79, ft81, ft83, ft87, ft89, ft91, ft115, ft119, ft122, ft128, ft210, Int.natCast_zero]; done))
  rintro x w z ⟨k, R, cs', rfl, hk, hW, hB, hF, a0, a3, a4, a5, a6, z0, z1, z2⟩
  have hzl : M + 2 < z.length := (List.getElem?_eq_some_iff.1 z2).1
  have hBl := bkNs_len (ns.take k) B
  have hb0 := hb 0
  have hb1 := hb 1
  by_cases c : k < ns.length
  · have q1 : (k : Int) < (ns.length : Int) := by omega
    obtain ⟨n, hnk⟩ : ∃ n, ns[k]? = some n := ⟨_, List.getElem?_eq_getElem c⟩
    have rk : (List.map Nd.cells ns)[k]? = some (Nd.cells n) := by rw [List.getElem?_map, hnk]; rfl
    have hnok : n.Ok := hns n (List.mem_of_getElem? hnk)
    have hnn := hnl n (List.mem_of_getElem? hnk)
    have rR : R[k]? = some zrow := hW.2.2 k (Nat.le_refl _) (by omega)
    have hRl := hW.1
    have rS : ∀ e, (R.set k e)[k]? = some e := fun e => List.getElem?_set_self (by omega)
    have hst := hW.step hnk (by omega)
    have y0 : ∀ o, (z.set (M + 2) o)[M]? = some (.arr 3 [[AV.int IntKind.i64 vars, AV.isl 7 (List.map Nd.cells ns), AV.isl 1 (List.map intE outs)]] true) := fun o => by rw [List.getElem?_set_ne (by omega)]; exact z0
    have y2 : ∀ o, (z.set (M + 2) o)[M + 2]? = some o := fun o => List.getElem?_set_self hzl
    simp (maxSteps := 4000000) only [↓packA, ↓reduceIte, packB, pureOp, quietOp, loadOp, quietB, fr0, cellsK, implies_true, ite_true, ite_false, eq_self, ne_eq, reduceCtorEq, Nat.reduceLT, Nat.reduceLeDiff, Nat.reduceAdd, Nat.reduceMul, Nat.reduceBEq, Nat.reduceEqDiff, Int.reduceToNat, Int.reduceLT, Int.reduceLE, Nat.reduceSub, pl13, ft1, ft2, ft3, ft4, ft9, ft12, ft14, ft15, ft22, ft23, ft25, ft26, ft27, ft28, ft29, ft30, ft31, ft32, ft33, ft34, ft35, ft36, ft38, ft77, ft78, ft79, ft81, ft83, ft87, ft89, ft91, ft115, ft119, ft122, ft128, ft210, a0, a3, a4, a5, a6, q1, rk, rR, rS, z0, z1, z2, y0, y2, List.length_map, zrow, Nd.cells, patch, patch', Nat.zero_add, Int.cast_ofNat_Int, Int.natCast_zero, Int.natCast_one, Int.reduceAdd, Int.reduceSub, Int.reduceNeg, Int.reduceMul, Int.reduceToNat, Int.reduceLT, Int.reduceLE, Int.reduceEq, Int.reduceBEq, Int.reduceBNe, Nat.reduceSub, Nat.reduceLT, List.getD_cons_zero, List.getD_cons_succ, List.length_singleton, Bool.and_true, Bool.and_false]
    refine ⟨by omega, by omega, by omega, ?_⟩
    refine grat_c n.neg n.num n.den hnok.num hnok.den hnn.1 hnn.2 (hB.set (.inr (.inr (.inr rfl))) _) (by rw [hBl.1, List.length_take]; omega) (by rw [hBl.2.1, List.length_take]; omega) fun h1 cs1 b1 hF1 hl1 => ?_
    rw [← bkNs_succ hnk] at b1
    have y0' : h1[M]? = some (.arr 3 [[AV.int IntKind.i64 vars, AV.isl 7 (List.map Nd.cells ns), AV.isl 1 (List.map intE outs)]] true) := by rw [hF1 M (.inr (.inl rfl))]; exact y0 _
    have y1' : h1[M + 1]? = some (.arr 3 [[AV.int IntKind.i64 0, AV.nils, AV.nils]] true) := by rw [hF1 (M + 1) (.inr (.inr (.inl rfl))), List.getElem?_set_ne (by omega)]; exact z1
    have y2' := (hF1 (M + 2) (.inr (.inr (.inr rfl)))).trans (y2 _)
    rw [List.length_set] at hl1
    simp (maxSteps := 4000000) only [↓packA, ↓reduceIte, packB, pureOp, quietOp, loadOp, quietB, fr0, cellsK, implies_true, ite_true, ite_false, eq_self, ne_eq, reduceCtorEq, Nat.reduceLT, Nat.reduceLeDiff, Nat.reduceAdd, Nat.reduceMul, Nat.reduceBEq, Nat.reduceEqDiff, Int.reduceToNat, Int.reduceLT, Int.reduceLE, Nat.reduceSub, pl13, ft1, ft2, ft3, ft4, ft9, ft12, ft14, ft15, ft22, ft23, ft25, ft26, ft27, ft28, ft29, ft30, ft31, ft32, ft33, ft34, ft35, ft36, ft38, ft77, ft78, ft79, ft81, ft83, ft87, ft89, ft91, ft115, ft119, ft122, ft128, ft210, ratV, lims, a0, a3, a4, a5, a6, q1, rk, rR, rS, y0', y1', y2', List.length_map, List.set_set, zrow, Nd.cells, patch, patch', Nat.zero_add, Int.cast_ofNat_Int, Int.natCast_zero, Int.natCast_one, Int.reduceAdd, Int.reduceSub, Int.reduceNeg, Int.reduceMul, Int.reduceToNat, Int.reduceLT, Int.reduceLE, Int.reduceEq, Int.reduceBEq, Int.reduceBNe, Nat.reduceSub, Nat.reduceLT, List.getD_cons_zero, List.getD_cons_succ, List.length_singleton, Bool.and_true, Bool.and_false]
    refine ⟨by omega, by omega, .inl ⟨ns.length - (k + 1), by omega, k + 1, _, cs1, rfl, by omega, hst, b1.set (.inr (.inr (.inr rfl))) _, fun i hi => ?_, by omega, ?_, ?_, ?_⟩⟩
    · have := b.fix i hi
      rw [List.getElem?_set_ne (by omega), hF1 i (.inl hi), List.getElem?_set_ne (by omega), hF i hi]
    · rw [List.getElem?_set_ne (by omega)]; exact y0'
    · rw [List.getElem?_set_ne (by omega)]; exact y1'
    · rw [List.getElem?_set_self (by omega)]; rfl
  · have q1 : ¬ (k : Int) < (ns.length : Int) := by omega
    obtain rfl : k = ns.length := by omega
    have hRf := hW.full
    subst hRf
    rw [List.take_length] at hB hBl
    obtain ⟨N, hN⟩ : ∃ N, z.length = N := ⟨_, rfl⟩
    have tN := tailR hN
    have x0 : ∀ t, (z ++ t)[M]? = some (.arr 3 [[AV.int IntKind.i64 vars, AV.isl 7 (List.map Nd.cells ns), AV.isl 1 (List.map intE outs)]] true) := fun t => by rw [List.getElem?_append_left (by omega)]; exact z0
    have x2 : ∀ t, (z ++ t)[M + 2]? = some (.arr 7 (List.map Nd.cells ns ++ [zrow, zrow, zrow]) true) := fun t => by rw [List.getElem?_append_left (by omega)]; exact z2
    have s2 : ∀ t o, (z ++ t).set (M + 2) o = z.set (M + 2) o ++ t := fun t o => List.set_append_left _ _ (by omega)
    have eR : ∀ a b c : List AV, List.take ns.length (List.map Nd.cells ns ++ [zrow, zrow, zrow]) ++ [a, b, c] ++ List.drop (ns.length + 3) (List.map Nd.cells ns ++ [zrow, zrow, zrow]) = List.map Nd.cells ns ++ [a, b, c] := fun a b c => by
      rw [List.take_left' (by simp), List.drop_of_length_le (by simp), List.append_nil]
    obtain ⟨ev, hg⟩ := hB.obj
    have hgz : g < z.length := hB.lt
    have xg : ∀ o t, (z.set (M + 2) o ++ t)[g]? = some (.arr 20 [cs'] ev) := fun o t => by rw [List.getElem?_append_left (by simpa using hgz), List.getElem?_set_ne (by omega)]; exact hg
    obtain ⟨c14, hc14⟩ := hB.get (j := 14) (by decide)
    have n0 : ∀ o t, (z.set (M + 2) o ++ t)[N]? = t[0]? := fun o t => gR0 (by simpa using hN) t
    have n1 : ∀ o t j, (z.set (M + 2) o ++ t)[N + j]? = t[j]? := fun o t j => gR (by simpa using hN) t j
    simp (maxSteps := 4000000) only [↓packA, ↓reduceIte, packB, pureOp, quietOp, loadOp, quietB, fr0, cellsK, implies_true, ite_true, ite_false, eq_self, ne_eq, reduceCtorEq, Nat.reduceLT, Nat.reduceLeDiff, Nat.reduceAdd, Nat.reduceMul, Nat.reduceBEq, Nat.reduceEqDiff, Int.reduceToNat, Int.reduceLT, Int.reduceLE, Nat.reduceSub, pl13, ft1, ft2, ft3, ft4, ft9, ft12, ft14, ft15, ft22, ft23, ft25, ft26, ft27, ft28, ft29, ft30, ft31, ft32, ft33, ft34, ft35, ft36, ft38, ft77, ft78, ft79, ft81, ft83, ft87, ft89, ft91, ft115, ft119, ft122, ft128, ft210, a0, a3, a4, a5, a6, q1, z0, z1, z2, hN, tN, n0, n1, x0, x2, s2, eR, xg, hc14, List.length_map, patch, patch', Int.cast_ofNat_Int, Int.natCast_zero, Int.natCast_one, Int.reduceAdd, Int.reduceSub, Int.reduceNeg, Int.reduceMul, Int.reduceToNat, Int.reduceLT, Int.reduceLE, Int.reduceEq, Int.reduceBEq, Int.reduceBNe, Nat.reduceSub, Nat.reduceLT, List.getD_cons_zero, List.getD_cons_succ, List.length_singleton, Bool.and_true, Bool.and_false]
    refine ⟨by omega, by omega, ?_⟩
    refine ((hB.set (.inr (.inr (.inr rfl))) _).app _).push hc14 rfl rfl (by rw [hBl.2.2 14 (by omega)]; have := hb 14; omega) fun c1 h1 ⟨_, _, _, _, ec1⟩ hg1 hb1' hF1 hl1 => ?_
    subst ec1
    have b1 := hb1' ev
    rw [hBl.2.2 14 (by omega)] at b1
    have hg1' : h1[g]? = some (.arr 20 [cs'] ev) := by rw [hg1]; exact xg _ _
    simp only [List.length_append, List.length_set] at hl1
    have hgl1 : g < h1.length := by omega
    have hcl : 14 + 1 ≤ cs'.length := by rw [hB.len]; decide
    have hgM : g ≠ M + 2 := by omega
    have hM1 : h1[M + 2]? = some (.arr 7 (List.map Nd.cells ns ++ [markR (-41), markR (-42), markR (-43)]) true) := by rw [hF1 (M + 2) (.inr (.inr (.inr rfl))), List.getElem?_append_left (by simpa using hzl), List.getElem?_set_self hzl]; rfl
    have hM0 : h1[M]? = some (.arr 3 [[AV.int IntKind.i64 vars, AV.isl 7 (List.map Nd.cells ns), AV.isl 1 (List.map intE outs)]] true) := by rw [hF1 M (.inr (.inl rfl)), List.getElem?_append_left (by simp; omega), List.getElem?_set_ne (by omega)]; exact z0
    have hMy : h1[M + 1]? = some (.arr 3 [[AV.int IntKind.i64 0, AV.nils, AV.nils]] true) := by rw [hF1 (M + 1) (.inr (.inr (.inl rfl))), List.getElem?_append_left (by simp; omega), List.getElem?_set_ne (by omega)]; exact z1
    have hFh1 : ∀ i, F i → h1[i]? = h[i]? := fun i hi => by
      have := b.fix i hi
      rw [hF1 i (.inl hi), List.getElem?_append_left (by simp; omega), List.getElem?_set_ne (by omega), hF i hi]
    have sg : ∀ o, (h1.set g o)[g]? = some o := fun o => List.getElem?_set_self hgl1
    obtain ⟨c15, hc15⟩ := hB.get (j := 15) (by decide)
    have hc15' : ∀ x, (cs'.set 14 x)[15]? = some c15 := fun x => by rw [List.getElem?_set_ne (by decide)]; exact hc15
    simp (maxSteps := 4000000) only [↓packA, ↓reduceIte, packB, pureOp, quietOp, loadOp, quietB, fr0, cellsK, implies_true, ite_true, ite_false, eq_self, ne_eq, reduceCtorEq, Nat.reduceLT, Nat.reduceLeDiff, Nat.reduceAdd, Nat.reduceMul, Nat.reduceBEq, Nat.reduceEqDiff, Int.reduceToNat, Int.reduceLT, Int.reduceLE, Nat.reduceSub, pl13, ft1, ft2, ft3, ft4, ft9, ft12, ft14, ft15, ft22, ft23, ft25, ft26, ft27, ft28, ft29, ft30, ft31, ft32, ft33, ft34, ft35, ft36, ft38, ft77, ft78, ft79, ft81, ft83, ft87, ft89, ft91, ft115, ft119, ft122, ft128, ft210, a0, a3, a4, hg1', hc14, sg, hc15', hcl, List.length_map, patch, patch', Int.cast_ofNat_Int, Int.natCast_zero, Int.natCast_one, Int.reduceAdd, Int.reduceSub, Int.reduceNeg, Int.reduceMul, Int.reduceToNat, Int.reduceLT, Int.reduceLE, Int.reduceEq, Int.reduceBEq, Int.reduceBNe, Nat.reduceSub, Nat.reduceLT, List.getD_cons_zero, List.getD_cons_succ, List.length_singleton, Bool.and_true, Bool.and_false]
    generalize hcs2 : cs'.set 14 _ = cs2 at *
    generalize hh2 : h1.set g _ = h2 at *
    have hM2 : h2[M + 2]? = some (.arr 7 (List.map Nd.cells ns ++ [markR (-41), markR (-42), markR (-43)]) true) := by rw [← hh2, List.getElem?_set_ne hgM]; exact hM1
    have hgF : ∀ i, (F i ∨ i = M ∨ i = M + 1 ∨ i = M + 2) → h2[i]? = h1[i]? := fun i hi => by rw [← hh2, List.getElem?_set_ne (fun e => hB.ng (by rw [e]; exact hi))]
    have hl2 : h2.length = h1.length := by rw [← hh2]; simp
    have hg2 : h2[g]? = some (.arr 20 [cs2] ev) := by rw [← hh2]; exact sg _
    have hc2 : cs2[15]? = some c15 := by rw [← hcs2]; exact hc15' _
    have el : (opM ns).length = ns.length + 3 := by simp [opM]
    have hok : ∀ n, n ∈ opM ns → n.Ok := fun n hm => by
      rcases List.mem_append.1 hm with h1 | h1
      · exact hns n h1
      · have h0 : ∀ x, (markN x).Ok := fun x => ⟨LI.nil, LI.nil, (by decide : 0 < 100000000), (by decide : 0 < 100000000)⟩
        simp at h1
        rcases h1 with rfl | rfl | rfl <;> exact h0 _
    have hco := fun Q => copyTapeO_c 0 (opM ns) hok (by omega) (cap := ns.length + 3) (ex := true) hM2 rows_opM (Q := Q)
    rw [el] at hco
    refine hco _ fun h3 hH3 hl3 => ?_
    clear hco
    have hg3 : h3[g]? = some (.arr 20 [cs2] ev) := by rw [hH3 g (by omega)]; exact hg2
    have hM3 : h3[M + 2]? = some (.arr 7 (List.map Nd.cells ns ++ [markR (-41), markR (-42), markR (-43)]) true) := by rw [hH3 (M + 2) (by omega)]; exact hM2
    have b3 := b1.keep hl3 fun i hi _ => hH3 i hi
    obtain ⟨N3, hN3⟩ : ∃ N3, h3.length = N3 := ⟨_, rfl⟩
    have tN3 := tailR hN3
    have rg3 : ∀ t, (h3 ++ t)[g]? = some (.arr 20 [cs2] ev) := fun t => by rw [List.getElem?_append_left (by omega)]; exact hg3
    simp (maxSteps := 4000000) only [↓packA, ↓reduceIte, packB, pureOp, quietOp, loadOp, quietB, fr0, cellsK, implies_true, ite_true, ite_false, eq_self, ne_eq, reduceCtorEq, Nat.reduceLT, Nat.reduceLeDiff, Nat.reduceAdd, Nat.reduceMul, Nat.reduceBEq, Nat.reduceEqDiff, Int.reduceToNat, Int.reduceLT, Int.reduceLE, Nat.reduceSub, pl13, ft1, ft2, ft3, ft4, ft9, ft12, ft14, ft15, ft22, ft23, ft25, ft26, ft27, ft28, ft29, ft30, ft31, ft32, ft33, ft34, ft35, ft36, ft38, ft77, ft78, ft79, ft81, ft83, ft87, ft89, ft91, ft115, ft119, ft122, ft128, ft210, a0, a3, a4, hN3, tN3, hg3, rg3, hc2, List.length_map, patch, patch', Int.cast_ofNat_Int, Int.natCast_zero, Int.natCast_one, Int.reduceAdd, Int.reduceSub, Int.reduceNeg, Int.reduceMul, Int.reduceToNat, Int.reduceLT, Int.reduceLE, Int.reduceEq, Int.reduceBEq, Int.reduceBNe, Nat.reduceSub, Nat.reduceLT, List.getD_cons_zero, List.getD_cons_succ, List.length_singleton, Bool.and_true, Bool.and_false]
    have e15 : upB (bkNs B ns) 14 (B 14 ++ [[AV.osl (M + 2) 7 0 (ns.length + 3) (ns.length + 3) true]]) 15 = B 15 := by rw [upB_ne (by decide), hBl.2.2 15 (by omega)]
    refine (b3.app _).push hc2 rfl rfl (by rw [e15]; have := hb 15; omega) fun c4 h4 ⟨_, _, _, _, ec4⟩ hg4 hb4' hF4 hl4 => ?_
    subst ec4
    have b4 := hb4' ev
    rw [e15] at b4
    have hg4' : h4[g]? = some (.arr 20 [cs2] ev) := by rw [hg4]; exact rg3 _
    simp only [List.length_append] at hl4
    have hgl4 : g < h4.length := by omega
    have hcl2 : 15 + 1 ≤ cs2.length := by rw [← hcs2, List.length_set, hB.len]; decide
    have sg4 : ∀ o, (h4.set g o)[g]? = some o := fun o => List.getElem?_set_self hgl4
    have hF4' : ∀ i, (F i ∨ i = M ∨ i = M + 1 ∨ i = M + 2) → ∀ o, (h4.set g o)[i]? = h1[i]? := fun i hi o => by
      have hil : i < h2.length := by rw [hl2]; have := hB.fix i hi; omega
      rw [List.getElem?_set_ne (fun e => hB.ng (by rw [e]; exact hi)), hF4 i hi, List.getElem?_append_left (by omega), hH3 i hil, hgF i hi]
    have e40 := fun o => (hF4' M (.inr (.inl rfl)) o).trans hM0
    have e41 := fun o => (hF4' (M + 1) (.inr (.inr (.inl rfl))) o).trans hMy
    have e42 := fun o => (hF4' (M + 2) (.inr (.inr (.inr rfl))) o).trans hM1
    simp (maxSteps := 4000000) only [↓packA, ↓reduceIte, packB, pureOp, quietOp, loadOp, quietB, fr0, cellsK, implies_true, ite_true, ite_false, eq_self, ne_eq, reduceCtorEq, Nat.reduceLT, Nat.reduceLeDiff, Nat.reduceAdd, Nat.reduceMul, Nat.reduceBEq, Nat.reduceEqDiff, Int.reduceToNat, Int.reduceLT, Int.reduceLE, Nat.reduceSub, pl13, ft1, ft2, ft3, ft4, ft9, ft12, ft14, ft15, ft22, ft23, ft25, ft26, ft27, ft28, ft29, ft30, ft31, ft32, ft33, ft34, ft35, ft36, ft38, ft77, ft78, ft79, ft81, ft83, ft87, ft89, ft91, ft115, ft119, ft122, ft128, ft210, a0, a3, a4, hg4', sg4, hc2, hcl2, e40, e41, e42, List.length_map, patch, patch', Int.cast_ofNat_Int, Int.natCast_zero, Int.natCast_one, Int.reduceAdd, Int.reduceSub, Int.reduceNeg, Int.reduceMul, Int.reduceToNat, Int.reduceLT, Int.reduceLE, Int.reduceEq, Int.reduceBEq, Int.reduceBNe, Nat.reduceSub, Nat.reduceLT, List.getD_cons_zero, List.getD_cons_succ, List.length_singleton, Bool.and_true, Bool.and_false]
    refine ⟨by omega, by omega, ?_⟩
    have e4 : upB (upB (bkNs B ns) 14 (B 14 ++ [[AV.osl (M + 2) 7 0 (ns.length + 3) (ns.length + 3) true]])) 15 (B 15 ++ [[.isl 7 ((opM ns).map Nd.cells)]]) 4 = B 4 := by rw [upB_ne (by decide), upB_ne (by decide), hBl.2.2 4 (by omega)]
    have e5 : upB (upB (bkNs B ns) 14 (B 14 ++ [[AV.osl (M + 2) 7 0 (ns.length + 3) (ns.length + 3) true]])) 15 (B 15 ++ [[.isl 7 ((opM ns).map Nd.cells)]]) 5 = B 5 := by rw [upB_ne (by decide), upB_ne (by decide), hBl.2.2 5 (by omega)]
    refine gints_c outs ho b4 (by rw [e4]; have := hb 4; omega) (by rw [e5]; have := hb 5; omega) fun h5 cs5 b5 hF5 hl5 => ?_
    rw [List.length_set] at hl5
    have f50 := (hF5 M (.inr (.inl rfl))).trans (e40 _)
    have f51 := (hF5 (M + 1) (.inr (.inr (.inl rfl)))).trans (e41 _)
    have f52 := (hF5 (M + 2) (.inr (.inr (.inr rfl)))).trans (e42 _)
    have s51 : ∀ o, (h5.set (M + 1) o)[M + 1]? = some o := fun o => List.getElem?_set_self (by omega)
    simp (maxSteps := 4000000) only [↓packA, ↓reduceIte, packB, pureOp, quietOp, loadOp, quietB, fr0, cellsK, implies_true, ite_true, ite_false, eq_self, ne_eq, reduceCtorEq, Nat.reduceLT, Nat.reduceLeDiff, Nat.reduceAdd, Nat.reduceMul, Nat.reduceBEq, Nat.reduceEqDiff, Int.reduceToNat, Int.reduceLT, Int.reduceLE, Nat.reduceSub, pl13, ft1, ft2, ft3, ft4, ft9, ft12, ft14, ft15, ft22, ft23, ft25, ft26, ft27, ft28, ft29, ft30, ft31, ft32, ft33, ft34, ft35, ft36, ft38, ft77, ft78, ft79, ft81, ft83, ft87, ft89, ft91, ft115, ft119, ft122, ft128, ft210, a0, a3, a4, f50, f51, f52, s51, ints, List.length_map, patch, patch', Int.cast_ofNat_Int, Int.natCast_zero, Int.natCast_one, Int.reduceAdd, Int.reduceSub, Int.reduceNeg, Int.reduceMul, Int.reduceToNat, Int.reduceLT, Int.reduceLE, Int.reduceEq, Int.reduceBEq, Int.reduceBNe, Nat.reduceSub, Nat.reduceLT, List.getD_cons_zero, List.getD_cons_succ, List.length_singleton, Bool.and_true, Bool.and_false]
    generalize hh6 : h5.set (M + 1) _ = h6 at *
    have f62 : h6[M + 2]? = some (.arr 7 (List.map Nd.cells ns ++ [markR (-41), markR (-42), markR (-43)]) true) := by rw [← hh6, List.getElem?_set_ne (by omega)]; exact f52
    have hMl6 := (List.getElem?_eq_some_iff.1 f62).1
    have b6 := b5.set (i := M + 1) (.inr (.inr (.inl rfl))) (.arr 3 [[AV.int IntKind.i64 vars, AV.osl (M + 2) 7 0 ns.length (ns.length + 3) true, AV.isl 1 (List.map intE outs)]] true)
    rw [hh6] at b6
    have fr : ∀ len cap ex rows', len ≤ ns.length + 3 → rows' = ((opM ns).map Nd.cells).take len → Frz ((List.replicate h6.length Ob.dead).set (M + 2) (.arr 7 (List.map Nd.cells ns ++ [markR (-41), markR (-42), markR (-43)]) true)) (.osl (M + 2) 7 0 len cap ex) (.isl 7 rows') := fun len cap ex rows' hle he => by
      have hro := rows_opM (ns := ns)
      subst he
      have key : ∀ (j : Nat) (e e' : List AV), (List.map Nd.cells ns ++ [markR (-41), markR (-42), markR (-43)])[0 + j]? = some e → (((opM ns).map Nd.cells).take len)[j]? = some e' → ∃ n, e' = Nd.cells n ∧ RowOk e n := fun j e e' h1 h2 => by
        rw [List.getElem?_take] at h2
        split at h2
        · rw [List.getElem?_map] at h2
          cases hx : (opM ns)[j]? with
          | none => rw [hx] at h2; cases h2
          | some n =>
            rw [hx] at h2
            rw [Nat.zero_add] at h1
            exact ⟨n, (Option.some.inj h2).symm, hro.2 j e n h1 hx⟩
        · cases h2
      refine .osl (M + 2) 7 0 len cap ex true _ _ (only_get hMl6) (by simp; omega) (by simp [el]; omega) (fun j e e' h1 h2 => ?_) (fun j e e' q u u' h1 h2 => ?_)
      · obtain ⟨n, rfl, hr⟩ := key j e e' h1 h2
        exact (rowok_frz (h := []) hr).1
      · obtain ⟨n, rfl, hr⟩ := key j e e' h1 h2
        exact (rowok_frz hr).2 q u u'
    obtain ⟨hK, g1, g2, g3, g4⟩ := b6.freeze (j := 14) (by decide) (R := B 14) (by unfold bkInts; rw [upB_ne (by decide), upB_ne (by decide), upB_ne (by decide), upB_same]) f62 (by simp) (.inr (.inr (.inr rfl))) (u' := .isl 7 ((opM ns).map Nd.cells)) (fr _ _ _ _ (Nat.le_refl _) (by rw [List.take_of_length_le (by simp [el])]))
    refine ⟨_, hK, Tp.V ⟨vars, ns, outs⟩, g1, .agg _ _ rfl fun q u u' hu hu' => ?_, hq hK cs5 ?_ (fun i hi => ?_) ?_⟩
    · match q with
      | 0 => simp at hu hu'; subst hu hu'; exact .same _
      | 1 => simp at hu hu'; subst hu hu'; exact .frz _ _ (fr _ _ _ _ (by omega) (by rw [opM, List.map_append, List.take_left' (by simp)]))
      | 2 => simp at hu hu'; subst hu hu'; exact .same _
      | q + 3 => simp at hu
    · have e : upB (bkInts (upB (upB (bkNs B ns) 14 (B 14 ++ [[AV.osl (M + 2) 7 0 (ns.length + 3) (ns.length + 3) true]])) 15 (B 15 ++ [[.isl 7 ((opM ns).map Nd.cells)]])) outs) 14 (B 14 ++ [[.isl 7 ((opM ns).map Nd.cells)]]) = bkTape B ⟨vars, ns, outs⟩ := by
        funext q
        simp only [bkTape, bkInts, bkOps, upB, hBl.2.2 14 (by omega), hBl.2.2 15 (by omega)]
        by_cases h14 : q = 14
        · subst h14; simp
        · simp [h14]
      rw [e] at g2
      exact g2.less fun i hi => ⟨.inl hi, fun e => by have := b.fix i hi; omega⟩
    · have := b.fix i hi
      rw [g3 i (.inl hi) (by omega), ← hh6, List.getElem?_set_ne (by omega), hF5 i (.inl hi), hF4' i (.inl hi), hFh1 i hi]
    · rw [g4, ← hh6, List.length_set]
      omega
end Go.Proofs.Ytgdlkhgfehclpaa
end

section
/- What was handed in is whole: Given.Intact over a book of tapes. No condition. -/
namespace Go.Proofs.Ytgdlkhgfehclpaa
open Go Go.AL
set_option linter.unusedVariables false
set_option linter.unusedSimpArgs false
structure BkI (B : Nat → List (List AV)) : Prop where
  e0 : B 1 = B 0
  r0 : ∀ row, row ∈ B 0 → ∃ l, row = [lims l] ∧ l.length < 100000000
  e4 : B 5 = B 4
  r4 : ∀ row, row ∈ B 4 → ∃ l, row = [ints l] ∧ l.length < 100000000
  e14 : B 15 = B 14
  r14 : ∀ row, row ∈ B 14 → ∃ ns : List Nd, row = [.isl 7 (ns.map Nd.cells)] ∧ (∀ n, n ∈ ns → n.Ok) ∧ ns.length < 100000000
  z : ∀ j, 2 ≤ j → j ≠ 4 → j ≠ 5 → j ≠ 14 → j ≠ 15 → B j = []
  sm : ∀ j, (B j).length < 100000000
theorem ol_len {F : Nat → Prop} {k : Nat} {h : Heap} {c : AV} {rows : List (List AV)} (o : OL F k h c rows) : ∀ (t : TypeId) (K : AV → Prop), lenK Try.prog t c K = ((telem Try.prog t).isSome = true ∧ K (.int .i64 rows.length)) := by
  intro t K
  rcases o with ⟨rfl, rfl⟩ | ⟨id, cap, ex, rest, ex', rfl, h1⟩
  · rw [lenK_nils]; rfl
  · rw [lenK_osl]
theorem ol_row {F : Nat → Prop} {k : Nat} {h : Heap} {c : AV} {rows : List (List AV)} {i : Nat} {e : List AV} (o : OL F k h c rows) (he : rows[i]? = some e) : ∃ (id cap : Nat) (ex ex' : Bool) (es : List (List AV)), c = .osl id k 0 rows.length cap ex ∧ h[id]? = some (.arr k es ex') ∧ es[i]? = some e := by
  have hl := (List.getElem?_eq_some_iff.1 he).1
  rcases o with ⟨rfl, rfl⟩ | ⟨id, cap, ex, rest, ex', rfl, h1, h2, h3⟩
  · simp at hl
  · exact ⟨id, cap, ex, ex', _, rfl, h2, by rw [List.getElem?_append_left hl]; exact he⟩
set_option maxHeartbeats 4000000 in
set_option maxRecDepth 100000 in
theorem whole_c {F : Nat → Prop} {g : Nat} {h : Heap} {cs : List AV} {B : Nat → List (List AV)} (b : Bk F g h cs B) (bi : BkI B) {Q : AV → Heap → Prop} (hq : Q (.bool true) h) : ACalls Try.prog 45 [.op g 20 0 0] h Q := by
  refine wp45 rfl rfl ?_
  obtain ⟨ev, hg⟩ := b.obj
  obtain ⟨c12, hc12⟩ := b.get (j := 12) (by decide)
  obtain ⟨c14, hc14⟩ := b.get (j := 14) (by decide)
  obtain ⟨c15, hc15⟩ := b.get (j := 15) (by decide)
  obtain ⟨c16, hc16⟩ := b.get (j := 16) (by decide)
  obtain ⟨c18, hc18⟩ := b.get (j := 18) (by decide)
  have o14 := b.ol 14 c14 hc14
  have o15 := b.ol 15 c15 hc15
  rw [bi.e14] at o15
  have l12 := ol_len (b.ol 12 c12 hc12)
  have l14 := ol_len o14
  have l16 := ol_len (b.ol 16 c16 hc16)
  have l18 := ol_len (b.ol 18 c18 hc18)
  rw [bi.z 12 (by omega) (by omega) (by omega) (by omega) (by omega)] at l12
  rw [bi.z 16 (by omega) (by omega) (by omega) (by omega) (by omega)] at l16
  rw [bi.z 18 (by omega) (by omega) (by omega) (by omega) (by omega)] at l18
  have hs := bi.sm 14
  simp (maxSteps := 4000000) only [↓packA, ↓reduceIte, packB, pureOp, quietOp, loadOp, quietB, fr0, cellsK, implies_true, ite_true, ite_false, eq_self, ne_eq, reduceCtorEq, Nat.reduceLT, Nat.reduceLeDiff, Nat.reduceAdd, Nat.reduceMul, Nat.reduceBEq, Nat.reduceEqDiff, Int.reduceToNat, Int.reduceLT, Int.reduceLE, Nat.reduceSub, pl45, ft3, ft4, ft9, ft12, ft13, ft14, ft15, ft16, ft17, ft18, ft19, ft22, ft23, ft25, ft27, ft28, ft29, ft30, ft31, ft32, ft33, ft34, ft35, ft36, ft38, ft45, ft78, ft83, ft87, ft89, ft91, ft119, ft121, ft122, ft124, ft125, ft126, ft128, ft143, ft145, ft147, ft150, ft210, ft213, ft222, hg, hc12, l12, Int.cast_ofNat_Int, Int.natCast_zero, Int.natCast_one, Int.reduceAdd, Int.reduceSub, Int.reduceNeg, Int.reduceMul, Int.reduceToNat, Int.reduceLT, Int.reduceLE, Int.reduceEq, Int.reduceBEq, Int.reduceBNe, Nat.reduceSub, Nat.reduceLT, List.getD_cons_zero, List.getD_cons_succ, List.length_singleton, Bool.and_true, Bool.and_false]
  refine LoopN.loop 1 ?_
  simp (maxSteps := 4000000) only [↓packA, ↓reduceIte, packB, pureOp, quietOp, loadOp, quietB, fr0, cellsK, implies_true, ite_true, ite_false, eq_self, ne_eq, reduceCtorEq, Nat.reduceLT, Nat.reduceLeDiff, Nat.reduceAdd, Nat.reduceMul, Nat.reduceBEq, Nat.reduceEqDiff, Int.reduceToNat, Int.reduceLT, Int.reduceLE, Nat.reduceSub, pl45, ft3, ft4, ft9, ft12, ft13, ft14, ft15, ft16, ft17, ft18, ft19, ft22, ft23, ft25, ft27, ft28, ft29, ft30, ft31, ft32, ft33, ft34, ft35, ft36, ft38, ft45, ft78, ft83, ft87, ft89, ft91, ft119, ft121, ft122, ft124, ft125, ft126, ft128, ft143, ft145, ft147, ft150, ft210, ft213, ft222, hg, hc12, l12, ↓LoopN_succ, Int.cast_ofNat_Int, Int.natCast_zero, Int.natCast_one, Int.reduceAdd, Int.reduceSub, Int.reduceNeg, Int.reduceMul, Int.reduceToNat, Int.reduceLT, Int.reduceLE, Int.reduceEq, Int.reduceBEq, Int.reduceBNe, Nat.reduceSub, Nat.reduceLT, List.getD_cons_zero, List.getD_cons_succ, List.length_singleton, Bool.and_true, Bool.and_false]
  refine LoopK.intro (fun m w z => ∃ i : Nat, m = (B 14).length - i ∧ i ≤ (B 14).length ∧ w 0 = .op g 20 0 0 ∧ w 4 = .int .i64 i ∧ z = h) (B 14).length ⟨0, rfl, Nat.zero_le _, ?_, ?_, rfl⟩ ?_
  · simp (maxSteps := 4000000) only [↓packA, ↓reduceIte, packB, pureOp, quietOp, loadOp, quietB, fr0, cellsK, implies_true, ite_true, ite_false, eq_self, ne_eq, reduceCtorEq, Nat.reduceLT, Nat.reduceLeDiff, Nat.reduceAdd, Nat.reduceMul, Nat.reduceBEq, Nat.reduceEqDiff, Int.reduceToNat, Int.reduceLT, Int.reduceLE, Nat.reduceSub, pl45, ft3, ft4, ft9, ft12, ft13, ft14, ft15, ft16, ft17, ft18, ft19, ft22, ft23, ft25, ft27, ft28, ft29, ft30, ft31, ft32, ft33, ft34, ft35, ft36, ft38, ft45, ft78, ft83, ft87, ft89, ft91, ft119, ft121, ft122, ft124, ft125, ft126, ft128, ft143, ft145, ft147, ft150, ft210, ft213, ft222]
  · simp (maxSteps := 4000000) only [↓packA, ↓reduceIte, packB, pureOp, quietOp, loadOp, quietB, fr0, cellsK, implies_true, ite_true, ite_false, eq_self, ne_eq, reduceCtorEq, Nat.reduceLT, Nat.reduceLeDiff, Nat.reduceAdd, Nat.reduceMul, Nat.reduceBEq, Nat.reduceEqDiff, Int.reduceToNat, Int.reduceLT, Int.reduceLE, Nat.reduceSub, pl45, ft3, ft4, ft9, ft12, ft13, ft14, ft15, ft16, ft17, ft18, ft19, ft22, ft23, ft25, ft27, ft28, ft29, ft30, ft31, ft32, ft33, ft34, ft35, ft36, ft38, ft45, ft78, ft83, ft87, ft89, ft91, ft119, ft121, ft122, ft124, ft125, ft126, ft128, ft143, ft145, ft147, ft150, ft210, ft213, ft222, Int.natCast_zero]
  rintro m w z ⟨i, rfl, hi, a0, a4, rfl⟩
  by_cases c : i < (B 14).length
  · have q1 : (i : Int) < ((B 14).length : Int) := by omega
    obtain ⟨row, hrow⟩ : ∃ row, (B 14)[i]? = some row := ⟨_, List.getElem?_eq_getElem c⟩
    obtain ⟨ns, rfl, hok, hnl⟩ := bi.r14 row (List.mem_of_getElem? hrow)
    obtain ⟨id1, cap1, ex1, ex1', es1, rfl, ho1, he1⟩ := ol_row o14 hrow
    obtain ⟨id2, cap2, ex2, ex2', es2, rfl, ho2, he2⟩ := ol_row o15 hrow
    have hsame := sameTape_c ⟨0, ns, []⟩ ⟨hok⟩ hnl (by simp)
    simp (maxSteps := 4000000) only [↓packA, ↓reduceIte, packB, pureOp, quietOp, loadOp, quietB, fr0, cellsK, implies_true, ite_true, ite_false, eq_self, ne_eq, reduceCtorEq, Nat.reduceLT, Nat.reduceLeDiff, Nat.reduceAdd, Nat.reduceMul, Nat.reduceBEq, Nat.reduceEqDiff, Int.reduceToNat, Int.reduceLT, Int.reduceLE, Nat.reduceSub, pl45, ft3, ft4, ft9, ft12, ft13, ft14, ft15, ft16, ft17, ft18, ft19, ft22, ft23, ft25, ft27, ft28, ft29, ft30, ft31, ft32, ft33, ft34, ft35, ft36, ft38, ft45, ft78, ft83, ft87, ft89, ft91, ft119, ft121, ft122, ft124, ft125, ft126, ft128, ft143, ft145, ft147, ft150, ft210, ft213, ft222, hg, hc14, hc15, a0, a4, q1, ho1, he1, ho2, he2, patch, patch', Int.cast_ofNat_Int, Int.natCast_zero, Int.natCast_one, Int.reduceAdd, Int.reduceSub, Int.reduceNeg, Int.reduceMul, Int.reduceToNat, Int.reduceLT, Int.reduceLE, Int.reduceEq, Int.reduceBEq, Int.reduceBNe, Nat.reduceSub, Nat.reduceLT, List.getD_cons_zero, List.getD_cons_succ, List.length_singleton, Bool.and_true, Bool.and_false]
    have hfz : Frz z (.agg [.int .i64 0, .isl 7 (List.map Nd.cells ns), .nils]) (Tp.V ⟨0, ns, []⟩) := .agg _ _ rfl fun q u u' hu hu' => by
      match q with
      | 0 => simp at hu hu'; subst hu hu'; exact .pure _ rfl
      | 1 => simp at hu hu'; subst hu hu'; exact .pure _ rfl
      | 2 => simp at hu hu'; subst hu hu'; exact .nils 1
      | q + 3 => simp at hu
    refine ⟨by omega, by omega, acalls_lend hsame (.cons hfz (.cons hfz .nil)) rfl ?_⟩
    simp (maxSteps := 4000000) only [↓packA, ↓reduceIte, packB, pureOp, quietOp, loadOp, quietB, fr0, cellsK, implies_true, ite_true, ite_false, eq_self, ne_eq, reduceCtorEq, Nat.reduceLT, Nat.reduceLeDiff, Nat.reduceAdd, Nat.reduceMul, Nat.reduceBEq, Nat.reduceEqDiff, Int.reduceToNat, Int.reduceLT, Int.reduceLE, Nat.reduceSub, pl45, ft3, ft4, ft9, ft12, ft13, ft14, ft15, ft16, ft17, ft18, ft19, ft22, ft23, ft25, ft27, ft28, ft29, ft30, ft31, ft32, ft33, ft34, ft35, ft36, ft38, ft45, ft78, ft83, ft87, ft89, ft91, ft119, ft121, ft122, ft124, ft125, ft126, ft128, ft143, ft145, ft147, ft150, ft210, ft213, ft222, hg, hc14, hc15, a0, a4, q1, ho1, he1, ho2, he2, patch, patch', Int.cast_ofNat_Int, Int.natCast_zero, Int.natCast_one, Int.reduceAdd, Int.reduceSub, Int.reduceNeg, Int.reduceMul, Int.reduceToNat, Int.reduceLT, Int.reduceLE, Int.reduceEq, Int.reduceBEq, Int.reduceBNe, Nat.reduceSub, Nat.reduceLT, List.getD_cons_zero, List.getD_cons_succ, List.length_singleton, Bool.and_true, Bool.and_false]
    exact ⟨by omega, .inl ⟨(B 14).length - (i + 1), by omega, i + 1, rfl, by omega, by omega⟩⟩
  · have q1 : ¬ (i : Int) < ((B 14).length : Int) := by omega
    simp (maxSteps := 4000000) only [↓packA, ↓reduceIte, packB, pureOp, quietOp, loadOp, quietB, fr0, cellsK, implies_true, ite_true, ite_false, eq_self, ne_eq, reduceCtorEq, Nat.reduceLT, Nat.reduceLeDiff, Nat.reduceAdd, Nat.reduceMul, Nat.reduceBEq, Nat.reduceEqDiff, Int.reduceToNat, Int.reduceLT, Int.reduceLE, Nat.reduceSub, pl45, ft3, ft4, ft9, ft12, ft13, ft14, ft15, ft16, ft17, ft18, ft19, ft22, ft23, ft25, ft27, ft28, ft29, ft30, ft31, ft32, ft33, ft34, ft35, ft36, ft38, ft45, ft78, ft83, ft87, ft89, ft91, ft119, ft121, ft122, ft124, ft125, ft126, ft128, ft143, ft145, ft147, ft150, ft210, ft213, ft222, hg, hc14, l14, a0, a4, q1, Int.cast_ofNat_Int, Int.natCast_zero, Int.natCast_one, Int.reduceAdd, Int.reduceSub, Int.reduceNeg, Int.reduceMul, Int.reduceToNat, Int.reduceLT, Int.reduceLE, Int.reduceEq, Int.reduceBEq, Int.reduceBNe, Nat.reduceSub, Nat.reduceLT, List.getD_cons_zero, List.getD_cons_succ, List.length_singleton, Bool.and_true, Bool.and_false]
    refine LoopN.loop 1 ?_
    simp (maxSteps := 4000000) only [↓packA, ↓reduceIte, packB, pureOp, quietOp, loadOp, quietB, fr0, cellsK, implies_true, ite_true, ite_false, eq_self, ne_eq, reduceCtorEq, Nat.reduceLT, Nat.reduceLeDiff, Nat.reduceAdd, Nat.reduceMul, Nat.reduceBEq, Nat.reduceEqDiff, Int.reduceToNat, Int.reduceLT, Int.reduceLE, Nat.reduceSub, pl45, ft3, ft4, ft9, ft12, ft13, ft14, ft15, ft16, ft17, ft18, ft19, ft22, ft23, ft25, ft27, ft28, ft29, ft30, ft31, ft32, ft33, ft34, ft35, ft36, ft38, ft45, ft78, ft83, ft87, ft89, ft91, ft119, ft121, ft122, ft124, ft125, ft126, ft128, ft143, ft145, ft147, ft150, ft210, ft213, ft222, hg, hc16, l16, a0, ↓LoopN_succ, Int.cast_ofNat_Int, Int.natCast_zero, Int.natCast_one, Int.reduceAdd, Int.reduceSub, Int.reduceNeg, Int.reduceMul, Int.reduceToNat, Int.reduceLT, Int.reduceLE, Int.reduceEq, Int.reduceBEq, Int.reduceBNe, Nat.reduceSub, Nat.reduceLT, List.getD_cons_zero, List.getD_cons_succ, List.length_singleton, Bool.and_true, Bool.and_false]
    refine LoopN.loop 1 ?_
    simp (maxSteps := 4000000) only [↓packA, ↓reduceIte, packB, pureOp, quietOp, loadOp, quietB, fr0, cellsK, implies_true, ite_true, ite_false, eq_self, ne_eq, reduceCtorEq, Nat.reduceLT, Nat.reduceLeDiff, Nat.reduceAdd, Nat.reduceMul, Nat.reduceBEq, Nat.reduceEqDiff, Int.reduceToNat, Int.reduceLT, Int.reduceLE, Nat.reduceSub, pl45, ft3, ft4, ft9, ft12, ft13, ft14, ft15, ft16, ft17, ft18, ft19, ft22, ft23, ft25, ft27, ft28, ft29, ft30, ft31, ft32, ft33, ft34, ft35, ft36, ft38, ft45, ft78, ft83, ft87, ft89, ft91, ft119, ft121, ft122, ft124, ft125, ft126, ft128, ft143, ft145, ft147, ft150, ft210, ft213, ft222, hg, hc18, l18, a0, ↓LoopN_succ, Int.cast_ofNat_Int, Int.natCast_zero, Int.natCast_one, Int.reduceAdd, Int.reduceSub, Int.reduceNeg, Int.reduceMul, Int.reduceToNat, Int.reduceLT, Int.reduceLE, Int.reduceEq, Int.reduceBEq, Int.reduceBNe, Nat.reduceSub, Nat.reduceLT, List.getD_cons_zero, List.getD_cons_succ, List.length_singleton, Bool.and_true, Bool.and_false]
    exact hq
set_option maxHeartbeats 4000000 in
set_option maxRecDepth 100000 in
theorem intactB_c {F : Nat → Prop} {g : Nat} {h : Heap} {cs : List AV} {B : Nat → List (List AV)} (b : Bk F g h cs B) (bi : BkI B) {Q : AV → Heap → Prop} (hq : Q (.bool true) h) : ACalls Try.prog 14 [.op g 20 0 0] h Q := by
  refine wp14 rfl rfl ?_
  obtain ⟨ev, hg⟩ := b.obj
  obtain ⟨c0, hc0⟩ := b.get (j := 0) (by decide)
  obtain ⟨c1, hc1⟩ := b.get (j := 1) (by decide)
  obtain ⟨c2, hc2⟩ := b.get (j := 2) (by decide)
  obtain ⟨c4, hc4⟩ := b.get (j := 4) (by decide)
  obtain ⟨c5, hc5⟩ := b.get (j := 5) (by decide)
  obtain ⟨c6, hc6⟩ := b.get (j := 6) (by decide)
  obtain ⟨c8, hc8⟩ := b.get (j := 8) (by decide)
  obtain ⟨c10, hc10⟩ := b.get (j := 10) (by decide)
  have o0 := b.ol 0 c0 hc0
  have o1 := b.ol 1 c1 hc1
  have o4 := b.ol 4 c4 hc4
  have o5 := b.ol 5 c5 hc5
  rw [bi.e0] at o1
  rw [bi.e4] at o5
  have l0 := ol_len o0
  have l4 := ol_len o4
  have l2 := ol_len (b.ol 2 c2 hc2)
  have l6 := ol_len (b.ol 6 c6 hc6)
  have l8 := ol_len (b.ol 8 c8 hc8)
  have l10 := ol_len (b.ol 10 c10 hc10)
  rw [bi.z 2 (by omega) (by omega) (by omega) (by omega) (by omega)] at l2
  rw [bi.z 6 (by omega) (by omega) (by omega) (by omega) (by omega)] at l6
  rw [bi.z 8 (by omega) (by omega) (by omega) (by omega) (by omega)] at l8
  rw [bi.z 10 (by omega) (by omega) (by omega) (by omega) (by omega)] at l10
  have hs0 := bi.sm 0
  have hs4 := bi.sm 4
  simp (maxSteps := 4000000) only [↓packA, ↓reduceIte, packB, pureOp, quietOp, loadOp, quietB, fr0, cellsK, implies_true, ite_true, ite_false, eq_self, ne_eq, reduceCtorEq, Nat.reduceLT, Nat.reduceLeDiff, Nat.reduceAdd, Nat.reduceMul, Nat.reduceBEq, Nat.reduceEqDiff, Int.reduceToNat, Int.reduceLT, Int.reduceLE, Nat.reduceSub, pl14, ft1, ft2, ft3, ft4, ft5, ft6, ft7, ft8, ft9, ft10, ft11, ft22, ft23, ft26, ft27, ft28, ft29, ft30, ft31, ft32, ft33, ft34, ft35, ft36, ft38, ft78, ft79, ft81, ft87, ft89, ft91, ft115, ft116, ft119, ft122, ft128, hg, hc0, l0, Int.cast_ofNat_Int, Int.natCast_zero, Int.natCast_one, Int.reduceAdd, Int.reduceSub, Int.reduceNeg, Int.reduceMul, Int.reduceToNat, Int.reduceLT, Int.reduceLE, Int.reduceEq, Int.reduceBEq, Int.reduceBNe, Nat.reduceSub, Nat.reduceLT, List.getD_cons_zero, List.getD_cons_succ, List.length_singleton, Bool.and_true, Bool.and_false]
  refine LoopK.intro (fun m w z => ∃ i : Nat, m = (B 0).length - i ∧ i ≤ (B 0).length ∧ w 0 = .op g 20 0 0 ∧ w 3 = .int .i64 i ∧ z = h) (B 0).length ⟨0, rfl, Nat.zero_le _, ?_, ?_, rfl⟩ ?_
  · simp (maxSteps := 4000000) only [↓packA, ↓reduceIte, packB, pureOp, quietOp, loadOp, quietB, fr0, cellsK, implies_true, ite_true, ite_false, eq_self, ne_eq, reduceCtorEq, Nat.reduceLT, Nat.reduceLeDiff, Nat.reduceAdd, Nat.reduceMul, Nat.reduceBEq, Nat.reduceEqDiff, Int.reduceToNat, Int.reduceLT, Int.reduceLE, Nat.reduceSub, pl14, ft1, ft2, ft3, ft4, ft5, ft6, ft7, ft8, ft9, ft10, ft11, ft22, ft23, ft26, ft27, ft28, ft29, ft30, ft31, ft32, ft33, ft34, ft35, ft36, ft38, ft78, ft79, ft81, ft87, ft89, ft91, ft115, ft116, ft119, ft122, ft128]
  · simp (maxSteps := 4000000) only [↓packA, ↓reduceIte, packB, pureOp, quietOp, loadOp, quietB, fr0, cellsK, implies_true, ite_true, ite_false, eq_self, ne_eq, reduceCtorEq, Nat.reduceLT, Nat.reduceLeDiff, Nat.reduceAdd, Nat.reduceMul, Nat.reduceBEq, Nat.reduceEqDiff, Int.reduceToNat, Int.reduceLT, Int.reduceLE, Nat.reduceSub, pl14, ft1, ft2, ft3, ft4, ft5, ft6, ft7, ft8, ft9, ft10, ft11, ft22, ft23, ft26, ft27, ft28, ft29, ft30, ft31, ft32, ft33, ft34, ft35, ft36, ft38, ft78, ft79, ft81, ft87, ft89, ft91, ft115, ft116, ft119, ft122, ft128, Int.natCast_zero]
  rintro m w z ⟨i, rfl, hi, a0, a3, rfl⟩
  by_cases c : i < (B 0).length
  · have q1 : (i : Int) < ((B 0).length : Int) := by omega
    obtain ⟨row, hrow⟩ : ∃ row, (B 0)[i]? = some row := ⟨_, List.getElem?_eq_getElem c⟩
    obtain ⟨l, rfl, hll⟩ := bi.r0 row (List.mem_of_getElem? hrow)
    obtain ⟨id1, cap1, ex1, ex1', es1, rfl, ho1, he1⟩ := ol_row o0 hrow
    obtain ⟨id2, cap2, ex2, ex2', es2, rfl, ho2, he2⟩ := ol_row o1 hrow
    simp (maxSteps := 4000000) only [↓packA, ↓reduceIte, packB, pureOp, quietOp, loadOp, quietB, fr0, cellsK, implies_true, ite_true, ite_false, eq_self, ne_eq, reduceCtorEq, Nat.reduceLT, Nat.reduceLeDiff, Nat.reduceAdd, Nat.reduceMul, Nat.reduceBEq, Nat.reduceEqDiff, Int.reduceToNat, Int.reduceLT, Int.reduceLE, Nat.reduceSub, pl14, ft1, ft2, ft3, ft4, ft5, ft6, ft7, ft8, ft9, ft10, ft11, ft22, ft23, ft26, ft27, ft28, ft29, ft30, ft31, ft32, ft33, ft34, ft35, ft36, ft38, ft78, ft79, ft81, ft87, ft89, ft91, ft115, ft116, ft119, ft122, ft128, hg, hc0, hc1, a0, a3, q1, ho1, he1, ho2, he2, patch, patch', Int.cast_ofNat_Int, Int.natCast_zero, Int.natCast_one, Int.reduceAdd, Int.reduceSub, Int.reduceNeg, Int.reduceMul, Int.reduceToNat, Int.reduceLT, Int.reduceLE, Int.reduceEq, Int.reduceBEq, Int.reduceBNe, Nat.reduceSub, Nat.reduceLT, List.getD_cons_zero, List.getD_cons_succ, List.length_singleton, Bool.and_true, Bool.and_false]
    refine ⟨by omega, by omega, acalls_pure (sameNat_c l hll) rfl ?_⟩
    simp (maxSteps := 4000000) only [↓packA, ↓reduceIte, packB, pureOp, quietOp, loadOp, quietB, fr0, cellsK, implies_true, ite_true, ite_false, eq_self, ne_eq, reduceCtorEq, Nat.reduceLT, Nat.reduceLeDiff, Nat.reduceAdd, Nat.reduceMul, Nat.reduceBEq, Nat.reduceEqDiff, Int.reduceToNat, Int.reduceLT, Int.reduceLE, Nat.reduceSub, pl14, ft1, ft2, ft3, ft4, ft5, ft6, ft7, ft8, ft9, ft10, ft11, ft22, ft23, ft26, ft27, ft28, ft29, ft30, ft31, ft32, ft33, ft34, ft35, ft36, ft38, ft78, ft79, ft81, ft87, ft89, ft91, ft115, ft116, ft119, ft122, ft128, hg, hc0, hc1, a0, a3, q1, ho1, he1, ho2, he2, patch, patch', Int.cast_ofNat_Int, Int.natCast_zero, Int.natCast_one, Int.reduceAdd, Int.reduceSub, Int.reduceNeg, Int.reduceMul, Int.reduceToNat, Int.reduceLT, Int.reduceLE, Int.reduceEq, Int.reduceBEq, Int.reduceBNe, Nat.reduceSub, Nat.reduceLT, List.getD_cons_zero, List.getD_cons_succ, List.length_singleton, Bool.and_true, Bool.and_false]
    exact ⟨by omega, .inl ⟨(B 0).length - (i + 1), by omega, i + 1, rfl, by omega, by omega⟩⟩
  · have q1 : ¬ (i : Int) < ((B 0).length : Int) := by omega
    simp (maxSteps := 4000000) only [↓packA, ↓reduceIte, packB, pureOp, quietOp, loadOp, quietB, fr0, cellsK, implies_true, ite_true, ite_false, eq_self, ne_eq, reduceCtorEq, Nat.reduceLT, Nat.reduceLeDiff, Nat.reduceAdd, Nat.reduceMul, Nat.reduceBEq, Nat.reduceEqDiff, Int.reduceToNat, Int.reduceLT, Int.reduceLE, Nat.reduceSub, pl14, ft1, ft2, ft3, ft4, ft5, ft6, ft7, ft8, ft9, ft10, ft11, ft22, ft23, ft26, ft27, ft28, ft29, ft30, ft31, ft32, ft33, ft34, ft35, ft36, ft38, ft78, ft79, ft81, ft87, ft89, ft91, ft115, ft116, ft119, ft122, ft128, hg, hc0, l0, a0, a3, q1, Int.cast_ofNat_Int, Int.natCast_zero, Int.natCast_one, Int.reduceAdd, Int.reduceSub, Int.reduceNeg, Int.reduceMul, Int.reduceToNat, Int.reduceLT, Int.reduceLE, Int.reduceEq, Int.reduceBEq, Int.reduceBNe, Nat.reduceSub, Nat.reduceLT, List.getD_cons_zero, List.getD_cons_succ, List.length_singleton, Bool.and_true, Bool.and_false]
    refine LoopN.loop 1 ?_
    simp (maxSteps := 4000000) only [↓packA, ↓reduceIte, packB, pureOp, quietOp, loadOp, quietB, fr0, cellsK, implies_true, ite_true, ite_false, eq_self, ne_eq, reduceCtorEq, Nat.reduceLT, Nat.reduceLeDiff, Nat.reduceAdd, Nat.reduceMul, Nat.reduceBEq, Nat.reduceEqDiff, Int.reduceToNat, Int.reduceLT, Int.reduceLE, Nat.reduceSub, pl14, ft1, ft2, ft3, ft4, ft5, ft6, ft7, ft8, ft9, ft10, ft11, ft22, ft23, ft26, ft27, ft28, ft29, ft30, ft31, ft32, ft33, ft34, ft35, ft36, ft38, ft78, ft79, ft81, ft87, ft89, ft91, ft115, ft116, ft119, ft122, ft128, hg, hc2, l2, a0, ↓LoopN_succ, Int.cast_ofNat_Int, Int.natCast_zero, Int.natCast_one, Int.reduceAdd, Int.reduceSub, Int.reduceNeg, Int.reduceMul, Int.reduceToNat, Int.reduceLT, Int.reduceLE, Int.reduceEq, Int.reduceBEq, Int.reduceBNe, Nat.reduceSub, Nat.reduceLT, List.getD_cons_zero, List.getD_cons_succ, List.length_singleton, Bool.and_true, Bool.and_false]
    refine LoopK.intro (fun m w y => ∃ i : Nat, m = (B 4).length - i ∧ i ≤ (B 4).length ∧ w 0 = .op g 20 0 0 ∧ w 5 = .int .i64 i ∧ y = z) (B 4).length ⟨0, rfl, Nat.zero_le _, ?_, ?_, rfl⟩ ?_
    · simp (maxSteps := 4000000) only [↓packA, ↓reduceIte, packB, pureOp, quietOp, loadOp, quietB, fr0, cellsK, implies_true, ite_true, ite_false, eq_self, ne_eq, reduceCtorEq, Nat.reduceLT, Nat.reduceLeDiff, Nat.reduceAdd, Nat.reduceMul, Nat.reduceBEq, Nat.reduceEqDiff, Int.reduceToNat, Int.reduceLT, Int.reduceLE, Nat.reduceSub, pl14, ft1, ft2, ft3, ft4, ft5, ft6, ft7, ft8, ft9, ft10, ft11, ft22, ft23, ft26, ft27, ft28, ft29, ft30, ft31, ft32, ft33, ft34, ft35, ft36, ft38, ft78, ft79, ft81, ft87, ft89, ft91, ft115, ft116, ft119, ft122, ft128, a0]
    · simp (maxSteps := 4000000) only [↓packA, ↓reduceIte, packB, pureOp, quietOp, loadOp, quietB, fr0, cellsK, implies_true, ite_true, ite_false, eq_self, ne_eq, reduceCtorEq, Nat.reduceLT, Nat.reduceLeDiff, Nat.reduceAdd, Nat.reduceMul, Nat.reduceBEq, Nat.reduceEqDiff, Int.reduceToNat, Int.reduceLT, Int.reduceLE, Nat.reduceSub, pl14, ft1, ft2, ft3, ft4, ft5, ft6, ft7, ft8, ft9, ft10, ft11, ft22, ft23, ft26, ft27, ft28, ft29, ft30, ft31, ft32, ft33, ft34, ft35, ft36, ft38, ft78, ft79, ft81, ft87, ft89, ft91, ft115, ft116, ft119, ft122, ft128, Int.natCast_zero]
    clear a0 a3 c q1
    rintro m w y ⟨i, rfl, hi, a0, a3, rfl⟩
    by_cases c : i < (B 4).length
    · have q1 : (i : Int) < ((B 4).length : Int) := by omega
      obtain ⟨row, hrow⟩ : ∃ row, (B 4)[i]? = some row := ⟨_, List.getElem?_eq_getElem c⟩
      obtain ⟨l, rfl, hll⟩ := bi.r4 row (List.mem_of_getElem? hrow)
      obtain ⟨id1, cap1, ex1, ex1', es1, rfl, ho1, he1⟩ := ol_row o4 hrow
      obtain ⟨id2, cap2, ex2, ex2', es2, rfl, ho2, he2⟩ := ol_row o5 hrow
      have hs := same_pure l l (by omega)
      rw [decide_eq_true rfl] at hs
      simp (maxSteps := 4000000) only [↓packA, ↓reduceIte, packB, pureOp, quietOp, loadOp, quietB, fr0, cellsK, implies_true, ite_true, ite_false, eq_self, ne_eq, reduceCtorEq, Nat.reduceLT, Nat.reduceLeDiff, Nat.reduceAdd, Nat.reduceMul, Nat.reduceBEq, Nat.reduceEqDiff, Int.reduceToNat, Int.reduceLT, Int.reduceLE, Nat.reduceSub, pl14, ft1, ft2, ft3, ft4, ft5, ft6, ft7, ft8, ft9, ft10, ft11, ft22, ft23, ft26, ft27, ft28, ft29, ft30, ft31, ft32, ft33, ft34, ft35, ft36, ft38, ft78, ft79, ft81, ft87, ft89, ft91, ft115, ft116, ft119, ft122, ft128, hg, hc4, hc5, a0, a3, q1, ho1, he1, ho2, he2, patch, patch', Int.cast_ofNat_Int, Int.natCast_zero, Int.natCast_one, Int.reduceAdd, Int.reduceSub, Int.reduceNeg, Int.reduceMul, Int.reduceToNat, Int.reduceLT, Int.reduceLE, Int.reduceEq, Int.reduceBEq, Int.reduceBNe, Nat.reduceSub, Nat.reduceLT, List.getD_cons_zero, List.getD_cons_succ, List.length_singleton, Bool.and_true, Bool.and_false]
      refine ⟨by omega, by omega, acalls_pure hs rfl ?_⟩
      simp (maxSteps := 4000000) only [↓packA, ↓reduceIte, packB, pureOp, quietOp, loadOp, quietB, fr0, cellsK, implies_true, ite_true, ite_false, eq_self, ne_eq, reduceCtorEq, Nat.reduceLT, Nat.reduceLeDiff, Nat.reduceAdd, Nat.reduceMul, Nat.reduceBEq, Nat.reduceEqDiff, Int.reduceToNat, Int.reduceLT, Int.reduceLE, Nat.reduceSub, pl14, ft1, ft2, ft3, ft4, ft5, ft6, ft7, ft8, ft9, ft10, ft11, ft22, ft23, ft26, ft27, ft28, ft29, ft30, ft31, ft32, ft33, ft34, ft35, ft36, ft38, ft78, ft79, ft81, ft87, ft89, ft91, ft115, ft116, ft119, ft122, ft128, hg, hc4, hc5, a0, a3, q1, ho1, he1, ho2, he2, patch, patch', Int.cast_ofNat_Int, Int.natCast_zero, Int.natCast_one, Int.reduceAdd, Int.reduceSub, Int.reduceNeg, Int.reduceMul, Int.reduceToNat, Int.reduceLT, Int.reduceLE, Int.reduceEq, Int.reduceBEq, Int.reduceBNe, Nat.reduceSub, Nat.reduceLT, List.getD_cons_zero, List.getD_cons_succ, List.length_singleton, Bool.and_true, Bool.and_false]
      exact ⟨by omega, .inl ⟨(B 4).length - (i + 1), by omega, i + 1, rfl, by omega, by omega⟩⟩
    · have q1 : ¬ (i : Int) < ((B 4).length : Int) := by omega
      simp (maxSteps := 4000000) only [↓packA, ↓reduceIte, packB, pureOp, quietOp, loadOp, quietB, fr0, cellsK, implies_true, ite_true, ite_false, eq_self, ne_eq, reduceCtorEq, Nat.reduceLT, Nat.reduceLeDiff, Nat.reduceAdd, Nat.reduceMul, Nat.reduceBEq, Nat.reduceEqDiff, Int.reduceToNat, Int.reduceLT, Int.reduceLE, Nat.reduceSub, pl14, ft1, ft2, ft3, ft4, ft5, ft6, ft7, ft8, ft9, ft10, ft11, ft22, ft23, ft26, ft27, ft28, ft29, ft30, ft31, ft32, ft33, ft34, ft35, ft36, ft38, ft78, ft79, ft81, ft87, ft89, ft91, ft115, ft116, ft119, ft122, ft128, hg, hc4, l4, a0, a3, q1, Int.cast_ofNat_Int, Int.natCast_zero, Int.natCast_one, Int.reduceAdd, Int.reduceSub, Int.reduceNeg, Int.reduceMul, Int.reduceToNat, Int.reduceLT, Int.reduceLE, Int.reduceEq, Int.reduceBEq, Int.reduceBNe, Nat.reduceSub, Nat.reduceLT, List.getD_cons_zero, List.getD_cons_succ, List.length_singleton, Bool.and_true, Bool.and_false]
      refine LoopN.loop 1 ?_
      simp (maxSteps := 4000000) only [↓packA, ↓reduceIte, packB, pureOp, quietOp, loadOp, quietB, fr0, cellsK, implies_true, ite_true, ite_false, eq_self, ne_eq, reduceCtorEq, Nat.reduceLT, Nat.reduceLeDiff, Nat.reduceAdd, Nat.reduceMul, Nat.reduceBEq, Nat.reduceEqDiff, Int.reduceToNat, Int.reduceLT, Int.reduceLE, Nat.reduceSub, pl14, ft1, ft2, ft3, ft4, ft5, ft6, ft7, ft8, ft9, ft10, ft11, ft22, ft23, ft26, ft27, ft28, ft29, ft30, ft31, ft32, ft33, ft34, ft35, ft36, ft38, ft78, ft79, ft81, ft87, ft89, ft91, ft115, ft116, ft119, ft122, ft128, hg, hc6, l6, a0, ↓LoopN_succ, Int.cast_ofNat_Int, Int.natCast_zero, Int.natCast_one, Int.reduceAdd, Int.reduceSub, Int.reduceNeg, Int.reduceMul, Int.reduceToNat, Int.reduceLT, Int.reduceLE, Int.reduceEq, Int.reduceBEq, Int.reduceBNe, Nat.reduceSub, Nat.reduceLT, List.getD_cons_zero, List.getD_cons_succ, List.length_singleton, Bool.and_true, Bool.and_false]
      refine LoopN.loop 1 ?_
      simp (maxSteps := 4000000) only [↓packA, ↓reduceIte, packB, pureOp, quietOp, loadOp, quietB, fr0, cellsK, implies_true, ite_true, ite_false, eq_self, ne_eq, reduceCtorEq, Nat.reduceLT, Nat.reduceLeDiff, Nat.reduceAdd, Nat.reduceMul, Nat.reduceBEq, Nat.reduceEqDiff, Int.reduceToNat, Int.reduceLT, Int.reduceLE, Nat.reduceSub, pl14, ft1, ft2, ft3, ft4, ft5, ft6, ft7, ft8, ft9, ft10, ft11, ft22, ft23, ft26, ft27, ft28, ft29, ft30, ft31, ft32, ft33, ft34, ft35, ft36, ft38, ft78, ft79, ft81, ft87, ft89, ft91, ft115, ft116, ft119, ft122, ft128, hg, hc8, l8, a0, ↓LoopN_succ, Int.cast_ofNat_Int, Int.natCast_zero, Int.natCast_one, Int.reduceAdd, Int.reduceSub, Int.reduceNeg, Int.reduceMul, Int.reduceToNat, Int.reduceLT, Int.reduceLE, Int.reduceEq, Int.reduceBEq, Int.reduceBNe, Nat.reduceSub, Nat.reduceLT, List.getD_cons_zero, List.getD_cons_succ, List.length_singleton, Bool.and_true, Bool.and_false]
      refine LoopN.loop 1 ?_
      simp (maxSteps := 4000000) only [↓packA, ↓reduceIte, packB, pureOp, quietOp, loadOp, quietB, fr0, cellsK, implies_true, ite_true, ite_false, eq_self, ne_eq, reduceCtorEq, Nat.reduceLT, Nat.reduceLeDiff, Nat.reduceAdd, Nat.reduceMul, Nat.reduceBEq, Nat.reduceEqDiff, Int.reduceToNat, Int.reduceLT, Int.reduceLE, Nat.reduceSub, pl14, ft1, ft2, ft3, ft4, ft5, ft6, ft7, ft8, ft9, ft10, ft11, ft22, ft23, ft26, ft27, ft28, ft29, ft30, ft31, ft32, ft33, ft34, ft35, ft36, ft38, ft78, ft79, ft81, ft87, ft89, ft91, ft115, ft116, ft119, ft122, ft128, hg, hc10, l10, a0, ↓LoopN_succ, Int.cast_ofNat_Int, Int.natCast_zero, Int.natCast_one, Int.reduceAdd, Int.reduceSub, Int.reduceNeg, Int.reduceMul, Int.reduceToNat, Int.reduceLT, Int.reduceLE, Int.reduceEq, Int.reduceBEq, Int.reduceBNe, Nat.reduceSub, Nat.reduceLT, List.getD_cons_zero, List.getD_cons_succ, List.length_singleton, Bool.and_true, Bool.and_false]
      refine whole_c b bi ?_
      simp (maxSteps := 4000000) only [↓packA, ↓reduceIte, packB, pureOp, quietOp, loadOp, quietB, fr0, cellsK, implies_true, ite_true, ite_false, eq_self, ne_eq, reduceCtorEq, Nat.reduceLT, Nat.reduceLeDiff, Nat.reduceAdd, Nat.reduceMul, Nat.reduceBEq, Nat.reduceEqDiff, Int.reduceToNat, Int.reduceLT, Int.reduceLE, Nat.reduceSub, pl14, ft1, ft2, ft3, ft4, ft5, ft6, ft7, ft8, ft9, ft10, ft11, ft22, ft23, ft26, ft27, ft28, ft29, ft30, ft31, ft32, ft33, ft34, ft35, ft36, ft38, ft78, ft79, ft81, ft87, ft89, ft91, ft115, ft116, ft119, ft122, ft128, Int.cast_ofNat_Int, Int.natCast_zero, Int.natCast_one, Int.reduceAdd, Int.reduceSub, Int.reduceNeg, Int.reduceMul, Int.reduceToNat, Int.reduceLT, Int.reduceLE, Int.reduceEq, Int.reduceBEq, Int.reduceBNe, Nat.reduceSub, Nat.reduceLT, List.getD_cons_zero, List.getD_cons_succ, List.length_singleton, Bool.and_true, Bool.and_false]
      exact hq
end Go.Proofs.Ytgdlkhgfehclpaa
end

section
/- Tapes composed: the document's walk. No condition. -/
namespace Go.Proofs.Ytgdlkhgfehclpaa
open Go Go.AL
set_option linter.unusedVariables false
set_option linter.unusedSimpArgs false
set_option maxHeartbeats 16000000 in
set_option maxRecDepth 100000 in
theorem rcompose_c (f g : Tp) (hf : f.Ok) (hg : g.Ok) (hfl : f.ns.length < 100000000) (hgl : g.ns.length < 100000000) (hfo : f.outs.length < 100000000) (hgo : g.outs.length < 100000000) : APure Try.prog 36 [f.V, g.V] (compV (compT f g)) := by
  refine apure_of (wp36 rfl rfl ?_)
  have pf := rcheck_c f hf
  have pg := rcheck_c g hg
  obtain ⟨W, hW⟩ : ∃ W, W = compT f g := ⟨_, rfl⟩
  rw [← hW]
  unfold compT at hW
  generalize hcf : f.check = cf at *
  generalize hcg : g.check = cg at *
  have hcp := fun (h : Heap) (Q : AV → Heap → Prop) => copyTape_c g hg hgl hgo (h := h) (Q := Q)
  obtain ⟨fv, fn, fo⟩ := f
  obtain ⟨gv, gn, go⟩ := g
  simp only at hW hfl hgl hfo hgo hcp
  simp (maxSteps := 4000000) only [↓packA, ↓reduceIte, packB, pureOp, quietOp, loadOp, quietB, fr0, cellsK, implies_true, ite_true, ite_false, eq_self, ne_eq, reduceCtorEq, Nat.reduceLT, Nat.reduceLeDiff, Nat.reduceAdd, Nat.reduceMul, Nat.reduceBEq, Nat.reduceEqDiff, Int.reduceToNat, Int.reduceLT, Int.reduceLE, Nat.reduceSub, pl36, ft1, ft2, ft3, ft4, ft22, ft23, ft25, ft77, ft79, ft81, ft83, ft115, Tp.V, ints, Int.cast_ofNat_Int, Int.natCast_zero, Int.natCast_one, Int.reduceAdd, Int.reduceSub, Int.reduceNeg, Int.reduceMul, Int.reduceToNat, Int.reduceLT, Int.reduceLE, Int.reduceEq, Int.reduceBEq, Int.reduceBNe, Nat.reduceSub, Nat.reduceLT, List.getD_cons_zero, List.getD_cons_succ, List.length_singleton, Bool.and_true, Bool.and_false]
  refine acalls_pure pf rfl ?_
  by_cases c1 : cf.2 = 0
  rotate_left
  · rw [if_pos c1] at hW
    subst hW
    simp (maxSteps := 4000000) only [↓packA, ↓reduceIte, packB, pureOp, quietOp, loadOp, quietB, fr0, cellsK, implies_true, ite_true, ite_false, eq_self, ne_eq, reduceCtorEq, Nat.reduceLT, Nat.reduceLeDiff, Nat.reduceAdd, Nat.reduceMul, Nat.reduceBEq, Nat.reduceEqDiff, Int.reduceToNat, Int.reduceLT, Int.reduceLE, Nat.reduceSub, pl36, ft1, ft2, ft3, ft4, ft22, ft23, ft25, ft77, ft79, ft81, ft83, ft115, Tp.V, ints, c1, patch, patch', Int.cast_ofNat_Int, Int.natCast_zero, Int.natCast_one, Int.reduceAdd, Int.reduceSub, Int.reduceNeg, Int.reduceMul, Int.reduceToNat, Int.reduceLT, Int.reduceLE, Int.reduceEq, Int.reduceBEq, Int.reduceBNe, Nat.reduceSub, Nat.reduceLT, List.getD_cons_zero, List.getD_cons_succ, List.length_singleton, Bool.and_true, Bool.and_false]
    exact frz_zero (p := cf.1) (r := cf.2)
  rw [if_neg (by omega)] at hW
  simp (maxSteps := 4000000) only [↓packA, ↓reduceIte, packB, pureOp, quietOp, loadOp, quietB, fr0, cellsK, implies_true, ite_true, ite_false, eq_self, ne_eq, reduceCtorEq, Nat.reduceLT, Nat.reduceLeDiff, Nat.reduceAdd, Nat.reduceMul, Nat.reduceBEq, Nat.reduceEqDiff, Int.reduceToNat, Int.reduceLT, Int.reduceLE, Nat.reduceSub, pl36, ft1, ft2, ft3, ft4, ft22, ft23, ft25, ft77, ft79, ft81, ft83, ft115, Tp.V, ints, c1, Int.cast_ofNat_Int, Int.natCast_zero, Int.natCast_one, Int.reduceAdd, Int.reduceSub, Int.reduceNeg, Int.reduceMul, Int.reduceToNat, Int.reduceLT, Int.reduceLE, Int.reduceEq, Int.reduceBEq, Int.reduceBNe, Nat.reduceSub, Nat.reduceLT, List.getD_cons_zero, List.getD_cons_succ, List.length_singleton, Bool.and_true, Bool.and_false]
  refine acalls_pure pg rfl ?_
  by_cases c2 : cg.2 = 0
  rotate_left
  · rw [if_pos c2] at hW
    subst hW
    simp (maxSteps := 4000000) only [↓packA, ↓reduceIte, packB, pureOp, quietOp, loadOp, quietB, fr0, cellsK, implies_true, ite_true, ite_false, eq_self, ne_eq, reduceCtorEq, Nat.reduceLT, Nat.reduceLeDiff, Nat.reduceAdd, Nat.reduceMul, Nat.reduceBEq, Nat.reduceEqDiff, Int.reduceToNat, Int.reduceLT, Int.reduceLE, Nat.reduceSub, pl36, ft1, ft2, ft3, ft4, ft22, ft23, ft25, ft77, ft79, ft81, ft83, ft115, Tp.V, ints, c2, patch, patch', Int.cast_ofNat_Int, Int.natCast_zero, Int.natCast_one, Int.reduceAdd, Int.reduceSub, Int.reduceNeg, Int.reduceMul, Int.reduceToNat, Int.reduceLT, Int.reduceLE, Int.reduceEq, Int.reduceBEq, Int.reduceBNe, Nat.reduceSub, Nat.reduceLT, List.getD_cons_zero, List.getD_cons_succ, List.length_singleton, Bool.and_true, Bool.and_false]
    exact frz_zero (p := cg.1) (r := cg.2)
  rw [if_neg (by omega)] at hW
  by_cases c3 : fv = (go.length : Int)
  rotate_left
  · rw [if_pos c3] at hW
    subst hW
    simp (maxSteps := 4000000) only [↓packA, ↓reduceIte, packB, pureOp, quietOp, loadOp, quietB, fr0, cellsK, implies_true, ite_true, ite_false, eq_self, ne_eq, reduceCtorEq, Nat.reduceLT, Nat.reduceLeDiff, Nat.reduceAdd, Nat.reduceMul, Nat.reduceBEq, Nat.reduceEqDiff, Int.reduceToNat, Int.reduceLT, Int.reduceLE, Nat.reduceSub, pl36, ft1, ft2, ft3, ft4, ft22, ft23, ft25, ft77, ft79, ft81, ft83, ft115, Tp.V, ints, c2, c3, patch, patch', List.length_map, Int.cast_ofNat_Int, Int.natCast_zero, Int.natCast_one, Int.reduceAdd, Int.reduceSub, Int.reduceNeg, Int.reduceMul, Int.reduceToNat, Int.reduceLT, Int.reduceLE, Int.reduceEq, Int.reduceBEq, Int.reduceBNe, Nat.reduceSub, Nat.reduceLT, List.getD_cons_zero, List.getD_cons_succ, List.length_singleton, Bool.and_true, Bool.and_false]
    exact frz_zero (p := 0) (r := 7)
  rw [if_neg (by omega)] at hW
  by_cases c4 : 2048 < gn.length + fn.length
  · rw [if_pos c4] at hW
    subst hW
    have r4 : (gn.length : Int) + fn.length > 2048 := by omega
    simp (maxSteps := 4000000) only [↓packA, ↓reduceIte, packB, pureOp, quietOp, loadOp, quietB, fr0, cellsK, implies_true, ite_true, ite_false, eq_self, ne_eq, reduceCtorEq, Nat.reduceLT, Nat.reduceLeDiff, Nat.reduceAdd, Nat.reduceMul, Nat.reduceBEq, Nat.reduceEqDiff, Int.reduceToNat, Int.reduceLT, Int.reduceLE, Nat.reduceSub, pl36, ft1, ft2, ft3, ft4, ft22, ft23, ft25, ft77, ft79, ft81, ft83, ft115, Tp.V, ints, c2, c3, r4, patch, patch', List.length_map, bne_self_eq_false, ne_eq, not_true_eq_false, Int.cast_ofNat_Int, Int.natCast_zero, Int.natCast_one, Int.reduceAdd, Int.reduceSub, Int.reduceNeg, Int.reduceMul, Int.reduceToNat, Int.reduceLT, Int.reduceLE, Int.reduceEq, Int.reduceBEq, Int.reduceBNe, Nat.reduceSub, Nat.reduceLT, List.getD_cons_zero, List.getD_cons_succ, List.length_singleton, Bool.and_true, Bool.and_false]
    exact ⟨by omega, frz_zero (p := 0) (r := 101)⟩
  have r4 : ¬ (gn.length : Int) + fn.length > 2048 := by omega
  rw [if_neg c4] at hW
  simp (maxSteps := 4000000) only [↓packA, ↓reduceIte, packB, pureOp, quietOp, loadOp, quietB, fr0, cellsK, implies_true, ite_true, ite_false, eq_self, ne_eq, reduceCtorEq, Nat.reduceLT, Nat.reduceLeDiff, Nat.reduceAdd, Nat.reduceMul, Nat.reduceBEq, Nat.reduceEqDiff, Int.reduceToNat, Int.reduceLT, Int.reduceLE, Nat.reduceSub, pl36, ft1, ft2, ft3, ft4, ft22, ft23, ft25, ft77, ft79, ft81, ft83, ft115, Tp.V, ints, c2, c3, r4, patch, patch', List.length_map, bne_self_eq_false, ne_eq, not_true_eq_false, Int.cast_ofNat_Int, Int.natCast_zero, Int.natCast_one, Int.reduceAdd, Int.reduceSub, Int.reduceNeg, Int.reduceMul, Int.reduceToNat, Int.reduceLT, Int.reduceLE, Int.reduceEq, Int.reduceBEq, Int.reduceBNe, Nat.reduceSub, Nat.reduceLT, List.getD_cons_zero, List.getD_cons_succ, List.length_singleton, Bool.and_true, Bool.and_false]
  refine ⟨by omega, ?_⟩
  subst c3
  obtain ⟨_, _, okfo, okfn, okfo2⟩ := check_ok ⟨go.length, fn, fo⟩ (by rw [hcf]; exact c1)
  obtain ⟨_, _, okgo, okgn, okgo2⟩ := check_ok ⟨gv, gn, go⟩ (by rw [hcg]; exact c2)
  clear c1 c2 c4
  refine hcp _ _ fun v x H hv hx hHl hH ⟨va, vb, vc, hvs⟩ => ?_
  obtain ⟨L, hL⟩ : ∃ L, H.length = L := ⟨_, rfl⟩
  have tL := tailR hL
  have h0 : H[0]? = some (.arr 3 [Tp.cells ⟨go.length, fn, fo⟩] true) := by rw [hH 0 (by simp)]; rfl
  have h1 : H[1]? = some (.arr 3 [Tp.cells ⟨gv, gn, go⟩] true) := by rw [hH 1 (by simp)]; rfl
  have h2 : H[2]? = some (.arr 3 [[.int .i64 0, .nils, .nils]] true) := by rw [hH 2 (by simp)]; rfl
  have hH3 : 3 < L := by rw [← hL]; exact hHl
  have hv' : OL (fun i => i ≤ 2 ∨ i = L) 7 H v (List.map Nd.cells gn) := hv.keep fun id _ hlt hn => ⟨fun e => by
    rcases e with e | e
    · exact hn (show id < 3 by omega)
    · omega, rfl⟩
  clear hcp hv hx hHl hH hvs
  simp (maxSteps := 4000000) only [↓packA, ↓reduceIte, packB, pureOp, quietOp, loadOp, quietB, fr0, cellsK, implies_true, ite_true, ite_false, eq_self, ne_eq, reduceCtorEq, Nat.reduceLT, Nat.reduceLeDiff, Nat.reduceAdd, Nat.reduceMul, Nat.reduceBEq, Nat.reduceEqDiff, Int.reduceToNat, Int.reduceLT, Int.reduceLE, Nat.reduceSub, pl36, ft1, ft2, ft3, ft4, ft22, ft23, ft25, ft77, ft79, ft81, ft83, ft115, hL, tL, List.length_map, patch, patch', Int.cast_ofNat_Int, Int.natCast_zero, Int.natCast_one, Int.reduceAdd, Int.reduceSub, Int.reduceNeg, Int.reduceMul, Int.reduceToNat, Int.reduceLT, Int.reduceLE, Int.reduceEq, Int.reduceBEq, Int.reduceBNe, Nat.reduceSub, Nat.reduceLT, List.getD_cons_zero, List.getD_cons_succ, List.length_singleton, Bool.and_true, Bool.and_false]
  refine LoopK.intro (fun m w z => ∃ (k : Nat) (v : AV) (rows : List (List AV)), m = fn.length - k ∧ k ≤ fn.length ∧ OL (fun i => i ≤ 2 ∨ i = L) 7 z v rows ∧ RowsOk rows (gn ++ (fn.take k).map (shiftN gn.length go)) ∧ L < z.length ∧ z[0]? = some (.arr 3 [Tp.cells ⟨go.length, fn, fo⟩] true) ∧ z[1]? = some (.arr 3 [Tp.cells ⟨gv, gn, go⟩] true) ∧ z[2]? = some (.arr 3 [[.int .i64 0, .nils, .nils]] true) ∧ z[L]? = some (.arr 3 [[.int .i64 gv, v, .nils]] true) ∧ w 2 = .op 0 3 0 0 ∧ w 3 = .op 1 3 0 0 ∧ w 4 = .op 2 3 0 0 ∧ w 9 = .int .i64 gn.length ∧ w 10 = .op L 3 0 0 ∧ w 11 = .int .i64 k) fn.length ⟨0, v, _, rfl, by omega, hv'.app, by rw [List.take_zero, List.map_nil, List.append_nil]; exact RowsOk.refl, by simp; omega, by rw [List.getElem?_append_left (by omega)]; exact h0, by rw [List.getElem?_append_left (by omega)]; exact h1, by rw [List.getElem?_append_left (by omega)]; exact h2, tL.1 _, ?_, ?_, ?_, ?_, ?_, ?_⟩ ?_
  rotate_right
  all_goals (try (simp (maxSteps := 4000000) only [↓packA, ↓reduceIte, packB, pureOp, quietOp, loadOp, quietB, fr0, cellsK, implies_true, ite_true, ite_false, eq_self, ne_eq, reduceCtorEq, Nat.reduceLT, Nat.reduceLeDiff, Nat.reduceAdd, Nat.reduceMul, Nat.reduceBEq, Nat.reduceEqDiff, Int.reduceToNat, Int.reduceLT, Int.reduceLE, Nat.reduceSub, pl36, ft1, ft2, ft3, ft4, ft22, ft23, ft25, ft77, ft79, ft81, ft83, ft115, Int.natCast_zero, Int.cast_ofNat_Int, Int.natCast_zero, Int.natCast_one, Int.reduceAdd, Int.reduceSub, Int.reduceNeg, Int.reduceMul, Int.reduceToNat, Int.reduceLT, Int.reduceLE, Int.reduceEq, Int.reduceBEq, Int.reduceBNe, Nat.reduceSub, Nat.reduceLT, List.getD_cons_zero, List.getD_cons_succ, List.length_singleton, Bool.and_true, Bool.and_false]; done))
  clear hv' h0 h1 h2 tL hL
  rintro m w z ⟨k, v, rows, rfl, hk, hv, hR, hzl, h0, h1, h2, h6, a2, a3, a4, a9, a10, a11⟩
  by_cases c : k < fn.length
  · have r1 : (k : Int) < (fn.length : Int) := by omega
    obtain ⟨n, hnk⟩ : ∃ n, fn[k]? = some n := ⟨_, List.getElem?_eq_getElem c⟩
    have rk : (List.map Nd.cells fn)[k]? = some (Nd.cells n) := by rw [List.getElem?_map, hnk]; rfl
    have hnok : n.Ok := hf.ns n (List.mem_of_getElem? hnk)
    obtain ⟨w1, w2, w3, w4⟩ := wrong_ok (okfn k n hnk)
    have hcp := copyRat_c n.neg n.num n.den hnok.num hnok.den hnok.ln hnok.ld
    obtain ⟨M, hM⟩ : ∃ M, z.length = M := ⟨_, rfl⟩
    have tM := tailR hM
    have r0 : ∀ t, (z ++ t)[0]? = some (.arr 3 [Tp.cells ⟨go.length, fn, fo⟩] true) := fun t => by rw [List.getElem?_append_left (by omega)]; exact h0
    have r1' : ∀ t, (z ++ t)[1]? = some (.arr 3 [Tp.cells ⟨gv, gn, go⟩] true) := fun t => by rw [List.getElem?_append_left (by omega)]; exact h1
    have r6 : ∀ t, (z ++ t)[L]? = some (.arr 3 [[.int .i64 gv, v, .nils]] true) := fun t => by rw [List.getElem?_append_left hzl]; exact h6
    simp (maxSteps := 4000000) only [↓packA, ↓reduceIte, packB, pureOp, quietOp, loadOp, quietB, fr0, cellsK, implies_true, ite_true, ite_false, eq_self, ne_eq, reduceCtorEq, Nat.reduceLT, Nat.reduceLeDiff, Nat.reduceAdd, Nat.reduceMul, Nat.reduceBEq, Nat.reduceEqDiff, Int.reduceToNat, Int.reduceLT, Int.reduceLE, Nat.reduceSub, pl36, ft1, ft2, ft3, ft4, ft22, ft23, ft25, ft77, ft79, ft81, ft83, ft115, a2, a3, a4, a9, a10, a11, r1, rk, h0, hM, tM, r0, r1', r6, Tp.cells, Nd.cells, List.length_map, patch, patch', Int.cast_ofNat_Int, Int.natCast_zero, Int.natCast_one, Int.reduceAdd, Int.reduceSub, Int.reduceNeg, Int.reduceMul, Int.reduceToNat, Int.reduceLT, Int.reduceLE, Int.reduceEq, Int.reduceBEq, Int.reduceBNe, Nat.reduceSub, Nat.reduceLT, List.getD_cons_zero, List.getD_cons_succ, List.length_singleton, Bool.and_true, Bool.and_false]
    refine ⟨by omega, ?_⟩
    refine acalls_fresh hcp (.cons (.pure _ rfl) .nil) fun u hx hz => ⟨_, hz, ?_⟩
    have hrl : rows.length < 100000000 := by have := hR.1; simp at this; omega
    have etk : gn ++ (fn.take (k + 1)).map (shiftN gn.length go) = (gn ++ (fn.take k).map (shiftN gn.length go)) ++ [shiftN gn.length go n] := by
      rw [List.take_add_one, hnk, List.map_append, ← List.append_assoc]
      rfl
    by_cases o1 : n.op = 1
    · have w2' : 0 ≤ n.a ∧ n.a < (go.length : Int) := w2 o1
      have eS : shiftN gn.length go n = ⟨8, go.getD n.a.toNat default, 0, 1, false, [], []⟩ := if_pos o1
      have hRn := hR.snoc (row := [.int .i64 8, .int .i64 (go.getD n.a.toNat default), .int .i64 0, .int .i64 1, .bool false, .nils, .nils]) (n := shiftN gn.length go n) (by rw [eS]; exact .inr ⟨rfl, rfl, rfl⟩)
      simp (maxSteps := 4000000) only [↓packA, ↓reduceIte, packB, pureOp, quietOp, loadOp, quietB, fr0, cellsK, implies_true, ite_true, ite_false, eq_self, ne_eq, reduceCtorEq, Nat.reduceLT, Nat.reduceLeDiff, Nat.reduceAdd, Nat.reduceMul, Nat.reduceBEq, Nat.reduceEqDiff, Int.reduceToNat, Int.reduceLT, Int.reduceLE, Nat.reduceSub, pl36, ft1, ft2, ft3, ft4, ft22, ft23, ft25, ft77, ft79, ft81, ft83, ft115, ratV, lims, ints, o1, a2, a3, a4, a9, a10, a11, r1, rk, h0, hM, tM, r0, r1', r6, Tp.cells, Nd.cells, List.length_map, patch, patch', Int.cast_ofNat_Int, Int.natCast_zero, Int.natCast_one, Int.reduceAdd, Int.reduceSub, Int.reduceNeg, Int.reduceMul, Int.reduceToNat, Int.reduceLT, Int.reduceLE, Int.reduceEq, Int.reduceBEq, Int.reduceBNe, Nat.reduceSub, Nat.reduceLT, List.getD_cons_zero, List.getD_cons_succ, List.length_singleton, Bool.and_true, Bool.and_false]
      refine ⟨by omega, by omega, ?_⟩
      refine ol_push (F := fun i => i ≤ 2 ∨ i = L) 7 rfl rfl (fun i hi => by simp; omega) hv.app (by omega) fun v' z' hv' hV' hl' hk' hF' => ?_
      obtain ⟨vi, vc, ve, rfl, hvi⟩ := hv'
      have h6' : z'[L]? = some (.arr 3 [[.int .i64 gv, v, .nils]] true) := by rw [hF' L (.inr rfl)]; exact r6 _
      have hzl' : L < z'.length := by simp at hl'; omega
      simp (maxSteps := 4000000) only [↓packA, ↓reduceIte, packB, pureOp, quietOp, loadOp, quietB, fr0, cellsK, implies_true, ite_true, ite_false, eq_self, ne_eq, reduceCtorEq, Nat.reduceLT, Nat.reduceLeDiff, Nat.reduceAdd, Nat.reduceMul, Nat.reduceBEq, Nat.reduceEqDiff, Int.reduceToNat, Int.reduceLT, Int.reduceLE, Nat.reduceSub, pl36, ft1, ft2, ft3, ft4, ft22, ft23, ft25, ft77, ft79, ft81, ft83, ft115, a2, a3, a4, a9, a10, a11, h6', patch, patch', Int.cast_ofNat_Int, Int.natCast_zero, Int.natCast_one, Int.reduceAdd, Int.reduceSub, Int.reduceNeg, Int.reduceMul, Int.reduceToNat, Int.reduceLT, Int.reduceLE, Int.reduceEq, Int.reduceBEq, Int.reduceBNe, Nat.reduceSub, Nat.reduceLT, List.getD_cons_zero, List.getD_cons_succ, List.length_singleton, Bool.and_true, Bool.and_false]
      refine ⟨by omega, .inl ⟨fn.length - (k + 1), by omega, k + 1, _, _, rfl, by omega, hV'.set (.inr rfl) _, by rw [etk]; exact hRn, hzl', ?_, ?_, ?_, ?_, ?_⟩⟩
      · rw [List.getElem?_set_ne (by omega), hF' 0 (.inl (by omega))]; exact r0 _
      · rw [List.getElem?_set_ne (by omega), hF' 1 (.inl (by omega))]; exact r1' _
      · rw [List.getElem?_set_ne (by omega), hF' 2 (.inl (by omega)), List.getElem?_append_left (by omega)]; exact h2
      · rw [List.getElem?_set_self hzl']
      · omega
    by_cases o2 : n.op = 2
    · have eS : shiftN gn.length go n = n := by unfold shiftN; rw [if_neg o1, o2]; rfl
      have hRn := hR.snoc (row := [.int .i64 2, .int .i64 n.a, .int .i64 n.b, .int .i64 n.c, .bool n.neg, .isl 1 (List.map u32E n.num), .isl 1 (List.map u32E n.den)]) (n := shiftN gn.length go n) (by rw [eS]; exact .inl (by unfold Nd.cells; rw [o2]; rfl))
      simp (maxSteps := 4000000) only [↓packA, ↓reduceIte, packB, pureOp, quietOp, loadOp, quietB, fr0, cellsK, implies_true, ite_true, ite_false, eq_self, ne_eq, reduceCtorEq, Nat.reduceLT, Nat.reduceLeDiff, Nat.reduceAdd, Nat.reduceMul, Nat.reduceBEq, Nat.reduceEqDiff, Int.reduceToNat, Int.reduceLT, Int.reduceLE, Nat.reduceSub, pl36, ft1, ft2, ft3, ft4, ft22, ft23, ft25, ft77, ft79, ft81, ft83, ft115, ratV, lims, ints, o1, o2, a2, a3, a4, a9, a10, a11, r1, rk, h0, hM, tM, r0, r1', r6, Tp.cells, Nd.cells, List.length_map, patch, patch', Int.cast_ofNat_Int, Int.natCast_zero, Int.natCast_one, Int.reduceAdd, Int.reduceSub, Int.reduceNeg, Int.reduceMul, Int.reduceToNat, Int.reduceLT, Int.reduceLE, Int.reduceEq, Int.reduceBEq, Int.reduceBNe, Nat.reduceSub, Nat.reduceLT, List.getD_cons_zero, List.getD_cons_succ, List.length_singleton, Bool.and_true, Bool.and_false]
      refine ol_push (F := fun i => i ≤ 2 ∨ i = L) 7 rfl rfl (fun i hi => by simp; omega) hv.app (by omega) fun v' z' hv' hV' hl' hk' hF' => ?_
      obtain ⟨vi, vc, ve, rfl, hvi⟩ := hv'
      have h6' : z'[L]? = some (.arr 3 [[.int .i64 gv, v, .nils]] true) := by rw [hF' L (.inr rfl)]; exact r6 _
      have hzl' : L < z'.length := by simp at hl'; omega
      simp (maxSteps := 4000000) only [↓packA, ↓reduceIte, packB, pureOp, quietOp, loadOp, quietB, fr0, cellsK, implies_true, ite_true, ite_false, eq_self, ne_eq, reduceCtorEq, Nat.reduceLT, Nat.reduceLeDiff, Nat.reduceAdd, Nat.reduceMul, Nat.reduceBEq, Nat.reduceEqDiff, Int.reduceToNat, Int.reduceLT, Int.reduceLE, Nat.reduceSub, pl36, ft1, ft2, ft3, ft4, ft22, ft23, ft25, ft77, ft79, ft81, ft83, ft115, a2, a3, a4, a9, a10, a11, h6', patch, patch', Int.cast_ofNat_Int, Int.natCast_zero, Int.natCast_one, Int.reduceAdd, Int.reduceSub, Int.reduceNeg, Int.reduceMul, Int.reduceToNat, Int.reduceLT, Int.reduceLE, Int.reduceEq, Int.reduceBEq, Int.reduceBNe, Nat.reduceSub, Nat.reduceLT, List.getD_cons_zero, List.getD_cons_succ, List.length_singleton, Bool.and_true, Bool.and_false]
      refine ⟨by omega, .inl ⟨fn.length - (k + 1), by omega, k + 1, _, _, rfl, by omega, hV'.set (.inr rfl) _, by rw [etk]; exact hRn, hzl', ?_, ?_, ?_, ?_, ?_⟩⟩
      · rw [List.getElem?_set_ne (by omega), hF' 0 (.inl (by omega))]; exact r0 _
      · rw [List.getElem?_set_ne (by omega), hF' 1 (.inl (by omega))]; exact r1' _
      · rw [List.getElem?_set_ne (by omega), hF' 2 (.inl (by omega)), List.getElem?_append_left (by omega)]; exact h2
      · rw [List.getElem?_set_self hzl']
      · omega
    by_cases o3 : two n.op = true
    · have hop : n.op = 3 ∨ n.op = 4 ∨ n.op = 5 ∨ n.op = 6 := of_decide_eq_true o3
      have ba := w3 (by omega)
      have bb := w4 o3
      have eS : shiftN gn.length go n = { n with a := n.a + gn.length, b := n.b + gn.length } := by unfold shiftN; rw [if_neg o1, if_pos o3]
      have hRn := hR.snoc (row := [.int .i64 n.op, .int .i64 (n.a + gn.length), .int .i64 (n.b + gn.length), .int .i64 n.c, .bool n.neg, .isl 1 (List.map u32E n.num), .isl 1 (List.map u32E n.den)]) (n := shiftN gn.length go n) (by rw [eS]; exact .inl rfl)
      have n7 : ¬ n.op = 7 := by omega
      have n8 : ¬ n.op = 8 := by omega
      simp (maxSteps := 4000000) only [↓packA, ↓reduceIte, packB, pureOp, quietOp, loadOp, quietB, fr0, cellsK, implies_true, ite_true, ite_false, eq_self, ne_eq, reduceCtorEq, Nat.reduceLT, Nat.reduceLeDiff, Nat.reduceAdd, Nat.reduceMul, Nat.reduceBEq, Nat.reduceEqDiff, Int.reduceToNat, Int.reduceLT, Int.reduceLE, Nat.reduceSub, pl36, ft1, ft2, ft3, ft4, ft22, ft23, ft25, ft77, ft79, ft81, ft83, ft115, ratV, lims, ints, o1, o2, n7, n8, a2, a3, a4, a9, a10, a11, r1, rk, h0, hM, tM, r0, r1', r6, Tp.cells, Nd.cells, List.length_map, patch, patch', Int.cast_ofNat_Int, Int.natCast_zero, Int.natCast_one, Int.reduceAdd, Int.reduceSub, Int.reduceNeg, Int.reduceMul, Int.reduceToNat, Int.reduceLT, Int.reduceLE, Int.reduceEq, Int.reduceBEq, Int.reduceBNe, Nat.reduceSub, Nat.reduceLT, List.getD_cons_zero, List.getD_cons_succ, List.length_singleton, Bool.and_true, Bool.and_false]
      refine ⟨by omega, by omega, ?_⟩
      refine ol_push (F := fun i => i ≤ 2 ∨ i = L) 7 rfl rfl (fun i hi => by simp; omega) hv.app (by omega) fun v' z' hv' hV' hl' hk' hF' => ?_
      obtain ⟨vi, vc, ve, rfl, hvi⟩ := hv'
      have h6' : z'[L]? = some (.arr 3 [[.int .i64 gv, v, .nils]] true) := by rw [hF' L (.inr rfl)]; exact r6 _
      have hzl' : L < z'.length := by simp at hl'; omega
      simp (maxSteps := 4000000) only [↓packA, ↓reduceIte, packB, pureOp, quietOp, loadOp, quietB, fr0, cellsK, implies_true, ite_true, ite_false, eq_self, ne_eq, reduceCtorEq, Nat.reduceLT, Nat.reduceLeDiff, Nat.reduceAdd, Nat.reduceMul, Nat.reduceBEq, Nat.reduceEqDiff, Int.reduceToNat, Int.reduceLT, Int.reduceLE, Nat.reduceSub, pl36, ft1, ft2, ft3, ft4, ft22, ft23, ft25, ft77, ft79, ft81, ft83, ft115, a2, a3, a4, a9, a10, a11, h6', patch, patch', Int.cast_ofNat_Int, Int.natCast_zero, Int.natCast_one, Int.reduceAdd, Int.reduceSub, Int.reduceNeg, Int.reduceMul, Int.reduceToNat, Int.reduceLT, Int.reduceLE, Int.reduceEq, Int.reduceBEq, Int.reduceBNe, Nat.reduceSub, Nat.reduceLT, List.getD_cons_zero, List.getD_cons_succ, List.length_singleton, Bool.and_true, Bool.and_false]
      refine ⟨by omega, .inl ⟨fn.length - (k + 1), by omega, k + 1, _, _, rfl, by omega, hV'.set (.inr rfl) _, by rw [etk]; exact hRn, hzl', ?_, ?_, ?_, ?_, ?_⟩⟩
      · rw [List.getElem?_set_ne (by omega), hF' 0 (.inl (by omega))]; exact r0 _
      · rw [List.getElem?_set_ne (by omega), hF' 1 (.inl (by omega))]; exact r1' _
      · rw [List.getElem?_set_ne (by omega), hF' 2 (.inl (by omega)), List.getElem?_append_left (by omega)]; exact h2
      · rw [List.getElem?_set_self hzl']
      · omega
    · have hop : n.op = 7 ∨ n.op = 8 := by
        have : ¬ (n.op = 3 ∨ n.op = 4 ∨ n.op = 5 ∨ n.op = 6) := fun hc => o3 (decide_eq_true hc)
        omega
      have o4 : one n.op = true := decide_eq_true hop
      have ba := w3 (by omega)
      have eS : shiftN gn.length go n = { n with a := n.a + gn.length } := by unfold shiftN; rw [if_neg o1, if_neg o3, if_pos o4]
      have hRn := hR.snoc (row := [.int .i64 n.op, .int .i64 (n.a + gn.length), .int .i64 n.b, .int .i64 n.c, .bool n.neg, .isl 1 (List.map u32E n.num), .isl 1 (List.map u32E n.den)]) (n := shiftN gn.length go n) (by rw [eS]; exact .inl rfl)
      rcases hop with hop | hop
      all_goals
        rw [hop] at hRn
        simp (maxSteps := 4000000) only [↓packA, ↓reduceIte, packB, pureOp, quietOp, loadOp, quietB, fr0, cellsK, implies_true, ite_true, ite_false, eq_self, ne_eq, reduceCtorEq, Nat.reduceLT, Nat.reduceLeDiff, Nat.reduceAdd, Nat.reduceMul, Nat.reduceBEq, Nat.reduceEqDiff, Int.reduceToNat, Int.reduceLT, Int.reduceLE, Nat.reduceSub, pl36, ft1, ft2, ft3, ft4, ft22, ft23, ft25, ft77, ft79, ft81, ft83, ft115, ratV, lims, ints, o1, o2, hop, a2, a3, a4, a9, a10, a11, r1, rk, h0, hM, tM, r0, r1', r6, Tp.cells, Nd.cells, List.length_map, patch, patch', Int.cast_ofNat_Int, Int.natCast_zero, Int.natCast_one, Int.reduceAdd, Int.reduceSub, Int.reduceNeg, Int.reduceMul, Int.reduceToNat, Int.reduceLT, Int.reduceLE, Int.reduceEq, Int.reduceBEq, Int.reduceBNe, Nat.reduceSub, Nat.reduceLT, List.getD_cons_zero, List.getD_cons_succ, List.length_singleton, Bool.and_true, Bool.and_false]
        refine ⟨by omega, ?_⟩
        refine ol_push (F := fun i => i ≤ 2 ∨ i = L) 7 rfl rfl (fun i hi => by simp; omega) hv.app (by omega) fun v' z' hv' hV' hl' hk' hF' => ?_
        obtain ⟨vi, vc, ve, rfl, hvi⟩ := hv'
        have h6' : z'[L]? = some (.arr 3 [[.int .i64 gv, v, .nils]] true) := by rw [hF' L (.inr rfl)]; exact r6 _
        have hzl' : L < z'.length := by simp at hl'; omega
        simp (maxSteps := 4000000) only [↓packA, ↓reduceIte, packB, pureOp, quietOp, loadOp, quietB, fr0, cellsK, implies_true, ite_true, ite_false, eq_self, ne_eq, reduceCtorEq, Nat.reduceLT, Nat.reduceLeDiff, Nat.reduceAdd, Nat.reduceMul, Nat.reduceBEq, Nat.reduceEqDiff, Int.reduceToNat, Int.reduceLT, Int.reduceLE, Nat.reduceSub, pl36, ft1, ft2, ft3, ft4, ft22, ft23, ft25, ft77, ft79, ft81, ft83, ft115, a2, a3, a4, a9, a10, a11, h6', patch, patch', Int.cast_ofNat_Int, Int.natCast_zero, Int.natCast_one, Int.reduceAdd, Int.reduceSub, Int.reduceNeg, Int.reduceMul, Int.reduceToNat, Int.reduceLT, Int.reduceLE, Int.reduceEq, Int.reduceBEq, Int.reduceBNe, Nat.reduceSub, Nat.reduceLT, List.getD_cons_zero, List.getD_cons_succ, List.length_singleton, Bool.and_true, Bool.and_false]
        refine ⟨by omega, .inl ⟨fn.length - (k + 1), by omega, k + 1, _, _, rfl, by omega, hV'.set (.inr rfl) _, by rw [etk]; exact hRn, hzl', ?_, ?_, ?_, ?_, ?_⟩⟩
        · rw [List.getElem?_set_ne (by omega), hF' 0 (.inl (by omega))]; exact r0 _
        · rw [List.getElem?_set_ne (by omega), hF' 1 (.inl (by omega))]; exact r1' _
        · rw [List.getElem?_set_ne (by omega), hF' 2 (.inl (by omega)), List.getElem?_append_left (by omega)]; exact h2
        · rw [List.getElem?_set_self hzl']
        · omega
  · have r1 : ¬ (k : Int) < (fn.length : Int) := by omega
    obtain rfl : k = fn.length := by omega
    rw [List.take_length] at hR
    simp (maxSteps := 4000000) only [↓packA, ↓reduceIte, packB, pureOp, quietOp, loadOp, quietB, fr0, cellsK, implies_true, ite_true, ite_false, eq_self, ne_eq, reduceCtorEq, Nat.reduceLT, Nat.reduceLeDiff, Nat.reduceAdd, Nat.reduceMul, Nat.reduceBEq, Nat.reduceEqDiff, Int.reduceToNat, Int.reduceLT, Int.reduceLE, Nat.reduceSub, pl36, ft1, ft2, ft3, ft4, ft22, ft23, ft25, ft77, ft79, ft81, ft83, ft115, a2, a3, a4, a9, a10, a11, r1, h0, Tp.cells, ints, List.length_map, Int.cast_ofNat_Int, Int.natCast_zero, Int.natCast_one, Int.reduceAdd, Int.reduceSub, Int.reduceNeg, Int.reduceMul, Int.reduceToNat, Int.reduceLT, Int.reduceLE, Int.reduceEq, Int.reduceBEq, Int.reduceBNe, Nat.reduceSub, Nat.reduceLT, List.getD_cons_zero, List.getD_cons_succ, List.length_singleton, Bool.and_true, Bool.and_false]
    have hVl : ∀ i, oid v = some i → i < z.length := fun i hi => by
      rcases hv with ⟨rfl, _⟩ | ⟨id, cap, ex, rest, ex', rfl, hid, hrow, _⟩
      · cases hi
      · cases hi; exact (List.getElem?_eq_some_iff.1 hrow).1
    refine LoopK.intro (fun m w z => ∃ (k : Nat) (y : AV), m = fo.length - k ∧ k ≤ fo.length ∧ OL (fun i => i ≤ 2 ∨ i = L) 7 z v rows ∧ OL (fun i => (i ≤ 2 ∨ i = L) ∨ oid v = some i) 1 z y (List.map intE ((fo.take k).map (· + (gn.length : Int)))) ∧ L < z.length ∧ (∀ i, oid v = some i → i < z.length) ∧ z[0]? = some (.arr 3 [Tp.cells ⟨go.length, fn, fo⟩] true) ∧ z[2]? = some (.arr 3 [[.int .i64 0, .nils, .nils]] true) ∧ z[L]? = some (.arr 3 [[.int .i64 gv, v, y]] true) ∧ w 2 = .op 0 3 0 0 ∧ w 4 = .op 2 3 0 0 ∧ w 9 = .int .i64 gn.length ∧ w 10 = .op L 3 0 0 ∧ w 13 = .int .i64 k) fo.length ⟨0, .nils, rfl, by omega, hv, OL.nil, hzl, hVl, h0, h2, h6, ?_, ?_, ?_, ?_, ?_⟩ ?_
    rotate_right
    all_goals (try (simp (maxSteps := 4000000) only [↓packA, ↓reduceIte, packB, pureOp, quietOp, loadOp, quietB, fr0, cellsK, implies_true, ite_true, ite_false, eq_self, ne_eq, reduceCtorEq, Nat.reduceLT, Nat.reduceLeDiff, Nat.reduceAdd, Nat.reduceMul, Nat.reduceBEq, Nat.reduceEqDiff, Int.reduceToNat, Int.reduceLT, Int.reduceLE, Nat.reduceSub, pl36, ft1, ft2, ft3, ft4, ft22, ft23, ft25, ft77, ft79, ft81, ft83, ft115, a2, a4, a9, a10, Int.natCast_zero, Int.cast_ofNat_Int, Int.natCast_zero, Int.natCast_one, Int.reduceAdd, Int.reduceSub, Int.reduceNeg, Int.reduceMul, Int.reduceToNat, Int.reduceLT, Int.reduceLE, Int.reduceEq, Int.reduceBEq, Int.reduceBNe, Nat.reduceSub, Nat.reduceLT, List.getD_cons_zero, List.getD_cons_succ, List.length_singleton, Bool.and_true, Bool.and_false]; done))
    clear a2 a3 a4 a9 a10 a11 hv hVl hzl h0 h1 h2 h6
    rintro m w z ⟨k, y, rfl, hk, hv, hY, hzl, hVl, h0, h2, h6, a2, a4, a9, a10, a13⟩
    by_cases c : k < fo.length
    · have r1 : (k : Int) < (fo.length : Int) := by omega
      have bo := okfo2 k c
      simp only at bo
      obtain ⟨M, hM⟩ : ∃ M, z.length = M := ⟨_, rfl⟩
      have tM := tailR hM
      have r6 : ∀ t, (z ++ t)[L]? = some (.arr 3 [[.int .i64 gv, v, y]] true) := fun t => by rw [List.getElem?_append_left hzl]; exact h6
      have r0 : ∀ t, (z ++ t)[0]? = some (.arr 3 [Tp.cells ⟨go.length, fn, fo⟩] true) := fun t => by rw [List.getElem?_append_left (by omega)]; exact h0
      simp (maxSteps := 4000000) only [↓packA, ↓reduceIte, packB, pureOp, quietOp, loadOp, quietB, fr0, cellsK, implies_true, ite_true, ite_false, eq_self, ne_eq, reduceCtorEq, Nat.reduceLT, Nat.reduceLeDiff, Nat.reduceAdd, Nat.reduceMul, Nat.reduceBEq, Nat.reduceEqDiff, Int.reduceToNat, Int.reduceLT, Int.reduceLE, Nat.reduceSub, pl36, ft1, ft2, ft3, ft4, ft22, ft23, ft25, ft77, ft79, ft81, ft83, ft115, ints, a2, a4, a9, a10, a13, r1, h0, hM, tM, r0, r6, h6, Tp.cells, patch, patch', Int.cast_ofNat_Int, Int.natCast_zero, Int.natCast_one, Int.reduceAdd, Int.reduceSub, Int.reduceNeg, Int.reduceMul, Int.reduceToNat, Int.reduceLT, Int.reduceLE, Int.reduceEq, Int.reduceBEq, Int.reduceBNe, Nat.reduceSub, Nat.reduceLT, List.getD_cons_zero, List.getD_cons_succ, List.length_singleton, Bool.and_true, Bool.and_false]
      refine ⟨by omega, by omega, by omega, ol_push (F := fun i => (i ≤ 2 ∨ i = L) ∨ oid v = some i) 1 rfl rfl (fun i hi => ?_) hY.app (by simp; omega) fun y' z' hy' hY' hl' hk' hF' => ?_⟩
      · rw [List.length_append]
        rcases hi with hi | hi
        · omega
        · have := hVl i hi; omega
      obtain ⟨yi, yc, ye, rfl, hyi⟩ := hy'
      simp only [List.length_map] at hY'
      have h6' : z'[L]? = some (.arr 3 [[.int .i64 gv, v, y]] true) := by rw [hF' L (.inl (.inr rfl))]; exact r6 _
      have h0' : z'[0]? = some (.arr 3 [Tp.cells ⟨go.length, fn, fo⟩] true) := by rw [hF' 0 (.inl (.inl (by omega)))]; exact r0 _
      have h2' : z'[2]? = some (.arr 3 [[.int .i64 0, .nils, .nils]] true) := by rw [hF' 2 (.inl (.inl (by omega))), List.getElem?_append_left (by omega)]; exact h2
      have hzl' : L < z'.length := by simp at hl'; omega
      have etk : List.map intE ((fo.take (k + 1)).map (· + (gn.length : Int))) = List.map intE ((fo.take k).map (· + (gn.length : Int))) ++ [[.int .i64 (fo.getD k default + gn.length)]] := by
        rw [List.take_add_one, List.map_append, List.map_append, List.getD_eq_getElem?_getD, List.getElem?_eq_getElem c]
        rfl
      simp (maxSteps := 4000000) only [↓packA, ↓reduceIte, packB, pureOp, quietOp, loadOp, quietB, fr0, cellsK, implies_true, ite_true, ite_false, eq_self, ne_eq, reduceCtorEq, Nat.reduceLT, Nat.reduceLeDiff, Nat.reduceAdd, Nat.reduceMul, Nat.reduceBEq, Nat.reduceEqDiff, Int.reduceToNat, Int.reduceLT, Int.reduceLE, Nat.reduceSub, pl36, ft1, ft2, ft3, ft4, ft22, ft23, ft25, ft77, ft79, ft81, ft83, ft115, ints, a2, a4, a9, a10, a13, h0', h6', Tp.cells, patch, patch', Int.cast_ofNat_Int, Int.natCast_zero, Int.natCast_one, Int.reduceAdd, Int.reduceSub, Int.reduceNeg, Int.reduceMul, Int.reduceToNat, Int.reduceLT, Int.reduceLE, Int.reduceEq, Int.reduceBEq, Int.reduceBNe, Nat.reduceSub, Nat.reduceLT, List.getD_cons_zero, List.getD_cons_succ, List.length_singleton, Bool.and_true, Bool.and_false]
      refine ⟨by omega, .inl ⟨fo.length - (k + 1), by omega, k + 1, _, rfl, by omega, (hv.keep fun id hi hlt hn => ⟨hn, ?_⟩).set (.inr rfl) _, by rw [etk]; exact hY'.set (.inl (.inr rfl)) _, hzl', fun i hi => ?_, ?_, ?_, ?_, ?_⟩⟩
      · rw [hF' id (.inr hi), List.getElem?_append_left hlt]
      · have := hVl i hi
        simp at hl'
        omega
      · rw [List.getElem?_set_ne (by omega), h0']; rfl
      · rw [List.getElem?_set_ne (by omega), h2']
      · rw [List.getElem?_set_self hzl']
      · omega
    · have r1 : ¬ (k : Int) < (fo.length : Int) := by omega
      obtain rfl : k = fo.length := by omega
      rw [List.take_length] at hY
      have s2 : ∀ o, (z.set 2 o)[2]? = some o := fun o => List.getElem?_set_self (by omega)
      simp (maxSteps := 4000000) only [↓packA, ↓reduceIte, packB, pureOp, quietOp, loadOp, quietB, fr0, cellsK, implies_true, ite_true, ite_false, eq_self, ne_eq, reduceCtorEq, Nat.reduceLT, Nat.reduceLeDiff, Nat.reduceAdd, Nat.reduceMul, Nat.reduceBEq, Nat.reduceEqDiff, Int.reduceToNat, Int.reduceLT, Int.reduceLE, Nat.reduceSub, pl36, ft1, ft2, ft3, ft4, ft22, ft23, ft25, ft77, ft79, ft81, ft83, ft115, ints, a2, a4, a9, a10, a13, r1, h0, h2, h6, s2, Tp.cells, patch, patch', Int.cast_ofNat_Int, Int.natCast_zero, Int.natCast_one, Int.reduceAdd, Int.reduceSub, Int.reduceNeg, Int.reduceMul, Int.reduceToNat, Int.reduceLT, Int.reduceLE, Int.reduceEq, Int.reduceBEq, Int.reduceBNe, Nat.reduceSub, Nat.reduceLT, List.getD_cons_zero, List.getD_cons_succ, List.length_singleton, Bool.and_true, Bool.and_false]
      subst hW
      exact frz_comp (hv.set (.inl (by omega)) _) hR (hY.set (.inl (.inl (by omega))) _)
end Go.Proofs.Ytgdlkhgfehclpaa
end

section
/- Both Composes answer alike. No condition. -/
namespace Go.Proofs.Ytgdlkhgfehclpaa
open Go Go.AL
set_option linter.unusedVariables false
set_option linter.unusedSimpArgs false
structure Tp.Sm (t : Tp) : Prop where
  ok : t.Ok
  nl : t.ns.length < 100000000
  ol : t.outs.length < 100000000
theorem shift_ok {k : Int} {outs : List Int} {n : Nd} (h : n.Ok) : (shiftN k outs n).Ok := by
  unfold shiftN
  split
  · exact ⟨LI.nil, LI.nil, by simp, by simp⟩
  · split
    · exact ⟨h.num, h.den, h.ln, h.ld⟩
    · split
      · exact ⟨h.num, h.den, h.ln, h.ld⟩
      · exact h
theorem compT_sm {f g : Tp} (hf : f.Sm) (hg : g.Sm) : (compT f g).1.Sm := by
  have hz : zeroT.Sm := ⟨⟨fun n hn => by cases hn⟩, by decide, by decide⟩
  unfold compT
  split
  · exact hz
  · split
    · exact hz
    · split
      · exact hz
      · split
        · exact hz
        · refine ⟨⟨fun n hn => ?_⟩, by simp; omega, by simpa using hf.ol⟩
          rcases List.mem_append.1 hn with h | h
          · exact hg.ok.ns n h
          · obtain ⟨m, hm, rfl⟩ := List.mem_map.1 h
            exact shift_ok (hf.ok.ns m hm)
set_option maxHeartbeats 4000000 in
set_option maxRecDepth 100000 in
theorem composes_c (f g : Tp) (hf : f.Sm) (hg : g.Sm) : APure Try.prog 12 [f.V, g.V, f.V, g.V] (.bool true) := by
  refine apure_of (wp12 rfl rfl ?_)
  have p1 := pcompose_c f g hf.ok hg.ok hf.nl hg.nl hf.ol hg.ol
  have p2 := rcompose_c f g hf.ok hg.ok hf.nl hg.nl hf.ol hg.ol
  have p3 := pcompose_c f f hf.ok hf.ok hf.nl hf.nl hf.ol hf.ol
  have p4 := rcompose_c f f hf.ok hf.ok hf.nl hf.nl hf.ol hf.ol
  have s1 := compT_sm hf hg
  have s2 := compT_sm hf hf
  have q1 := sameTape_c _ s1.ok s1.nl s1.ol
  have q2 := sameTape_c _ s2.ok s2.nl s2.ol
  clear s1 s2
  generalize compT f g = A at *
  generalize compT f f = B at *
  obtain ⟨⟨av, an, ao⟩, ap, ae⟩ := A
  obtain ⟨⟨bv, bn, bo⟩, bp, be⟩ := B
  obtain ⟨fv, fn, fo⟩ := f
  obtain ⟨gv, gn, go⟩ := g
  simp only [Tp.V, compV] at p1 p2 p3 p4 q1 q2
  simp (maxSteps := 4000000) only [↓packA, ↓reduceIte, packB, pureOp, quietOp, loadOp, quietB, fr0, cellsK, implies_true, ite_true, ite_false, eq_self, ne_eq, reduceCtorEq, Nat.reduceLT, Nat.reduceLeDiff, Nat.reduceAdd, Nat.reduceMul, Nat.reduceBEq, Nat.reduceEqDiff, Int.reduceToNat, Int.reduceLT, Int.reduceLE, Nat.reduceSub, pl12, ft3, ft4, ft22, ft23, ft25, ft83, Tp.V, Int.cast_ofNat_Int, Int.natCast_zero, Int.natCast_one, Int.reduceAdd, Int.reduceSub, Int.reduceNeg, Int.reduceMul, Int.reduceToNat, Int.reduceLT, Int.reduceLE, Int.reduceEq, Int.reduceBEq, Int.reduceBNe, Nat.reduceSub, Nat.reduceLT, List.getD_cons_zero, List.getD_cons_succ, List.length_singleton, Bool.and_true, Bool.and_false]
  refine acalls_pure p1 rfl ?_
  simp (maxSteps := 4000000) only [↓packA, ↓reduceIte, packB, pureOp, quietOp, loadOp, quietB, fr0, cellsK, implies_true, ite_true, ite_false, eq_self, ne_eq, reduceCtorEq, Nat.reduceLT, Nat.reduceLeDiff, Nat.reduceAdd, Nat.reduceMul, Nat.reduceBEq, Nat.reduceEqDiff, Int.reduceToNat, Int.reduceLT, Int.reduceLE, Nat.reduceSub, pl12, ft3, ft4, ft22, ft23, ft25, ft83, Int.cast_ofNat_Int, Int.natCast_zero, Int.natCast_one, Int.reduceAdd, Int.reduceSub, Int.reduceNeg, Int.reduceMul, Int.reduceToNat, Int.reduceLT, Int.reduceLE, Int.reduceEq, Int.reduceBEq, Int.reduceBNe, Nat.reduceSub, Nat.reduceLT, List.getD_cons_zero, List.getD_cons_succ, List.length_singleton, Bool.and_true, Bool.and_false]
  refine acalls_pure p2 rfl ?_
  simp (maxSteps := 4000000) only [↓packA, ↓reduceIte, packB, pureOp, quietOp, loadOp, quietB, fr0, cellsK, implies_true, ite_true, ite_false, eq_self, ne_eq, reduceCtorEq, Nat.reduceLT, Nat.reduceLeDiff, Nat.reduceAdd, Nat.reduceMul, Nat.reduceBEq, Nat.reduceEqDiff, Int.reduceToNat, Int.reduceLT, Int.reduceLE, Nat.reduceSub, pl12, ft3, ft4, ft22, ft23, ft25, ft83, bne_self_eq_false, ne_eq, not_true_eq_false, Int.cast_ofNat_Int, Int.natCast_zero, Int.natCast_one, Int.reduceAdd, Int.reduceSub, Int.reduceNeg, Int.reduceMul, Int.reduceToNat, Int.reduceLT, Int.reduceLE, Int.reduceEq, Int.reduceBEq, Int.reduceBNe, Nat.reduceSub, Nat.reduceLT, List.getD_cons_zero, List.getD_cons_succ, List.length_singleton, Bool.and_true, Bool.and_false]
  refine acalls_pure q1 rfl ?_
  simp (maxSteps := 4000000) only [↓packA, ↓reduceIte, packB, pureOp, quietOp, loadOp, quietB, fr0, cellsK, implies_true, ite_true, ite_false, eq_self, ne_eq, reduceCtorEq, Nat.reduceLT, Nat.reduceLeDiff, Nat.reduceAdd, Nat.reduceMul, Nat.reduceBEq, Nat.reduceEqDiff, Int.reduceToNat, Int.reduceLT, Int.reduceLE, Nat.reduceSub, pl12, ft3, ft4, ft22, ft23, ft25, ft83, Int.cast_ofNat_Int, Int.natCast_zero, Int.natCast_one, Int.reduceAdd, Int.reduceSub, Int.reduceNeg, Int.reduceMul, Int.reduceToNat, Int.reduceLT, Int.reduceLE, Int.reduceEq, Int.reduceBEq, Int.reduceBNe, Nat.reduceSub, Nat.reduceLT, List.getD_cons_zero, List.getD_cons_succ, List.length_singleton, Bool.and_true, Bool.and_false]
  refine acalls_pure p3 rfl ?_
  simp (maxSteps := 4000000) only [↓packA, ↓reduceIte, packB, pureOp, quietOp, loadOp, quietB, fr0, cellsK, implies_true, ite_true, ite_false, eq_self, ne_eq, reduceCtorEq, Nat.reduceLT, Nat.reduceLeDiff, Nat.reduceAdd, Nat.reduceMul, Nat.reduceBEq, Nat.reduceEqDiff, Int.reduceToNat, Int.reduceLT, Int.reduceLE, Nat.reduceSub, pl12, ft3, ft4, ft22, ft23, ft25, ft83, Int.cast_ofNat_Int, Int.natCast_zero, Int.natCast_one, Int.reduceAdd, Int.reduceSub, Int.reduceNeg, Int.reduceMul, Int.reduceToNat, Int.reduceLT, Int.reduceLE, Int.reduceEq, Int.reduceBEq, Int.reduceBNe, Nat.reduceSub, Nat.reduceLT, List.getD_cons_zero, List.getD_cons_succ, List.length_singleton, Bool.and_true, Bool.and_false]
  refine acalls_pure p4 rfl ?_
  simp (maxSteps := 4000000) only [↓packA, ↓reduceIte, packB, pureOp, quietOp, loadOp, quietB, fr0, cellsK, implies_true, ite_true, ite_false, eq_self, ne_eq, reduceCtorEq, Nat.reduceLT, Nat.reduceLeDiff, Nat.reduceAdd, Nat.reduceMul, Nat.reduceBEq, Nat.reduceEqDiff, Int.reduceToNat, Int.reduceLT, Int.reduceLE, Nat.reduceSub, pl12, ft3, ft4, ft22, ft23, ft25, ft83, beq_self_eq_true, patch, patch', Int.cast_ofNat_Int, Int.natCast_zero, Int.natCast_one, Int.reduceAdd, Int.reduceSub, Int.reduceNeg, Int.reduceMul, Int.reduceToNat, Int.reduceLT, Int.reduceLE, Int.reduceEq, Int.reduceBEq, Int.reduceBNe, Nat.reduceSub, Nat.reduceLT, List.getD_cons_zero, List.getD_cons_succ, List.length_singleton, Bool.and_true, Bool.and_false]
  refine acalls_pure q2 rfl ?_
  simp (maxSteps := 4000000) only [↓packA, ↓reduceIte, packB, pureOp, quietOp, loadOp, quietB, fr0, cellsK, implies_true, ite_true, ite_false, eq_self, ne_eq, reduceCtorEq, Nat.reduceLT, Nat.reduceLeDiff, Nat.reduceAdd, Nat.reduceMul, Nat.reduceBEq, Nat.reduceEqDiff, Int.reduceToNat, Int.reduceLT, Int.reduceLE, Nat.reduceSub, pl12, ft3, ft4, ft22, ft23, ft25, ft83, Int.cast_ofNat_Int, Int.natCast_zero, Int.natCast_one, Int.reduceAdd, Int.reduceSub, Int.reduceNeg, Int.reduceMul, Int.reduceToNat, Int.reduceLT, Int.reduceLE, Int.reduceEq, Int.reduceBEq, Int.reduceBNe, Nat.reduceSub, Nat.reduceLT, List.getD_cons_zero, List.getD_cons_succ, List.length_singleton, Bool.and_true, Bool.and_false]
  exact .pure _ rfl
end Go.Proofs.Ytgdlkhgfehclpaa
end

section
/- The law of Compose. No condition. -/
namespace Go.Proofs.Ytgdlkhgfehclpaa
open Go Go.AL
set_option linter.unusedVariables false
set_option linter.unusedSimpArgs false
/-- A tape as small as the statement lets in. -/
structure Tp.In (t : Tp) : Prop where
  ok : t.Ok
  nl : t.ns.length < 10000000
  ol : t.outs.length < 10000000
  cl : ∀ n, n ∈ t.ns → n.num.length < 10000000 ∧ n.den.length < 10000000
theorem Tp.In.sm {t : Tp} (h : t.In) : t.Sm := ⟨h.ok, by have := h.nl; omega, by have := h.ol; omega⟩
def B0 : Nat → List (List AV) := fun _ => []
theorem bk_start (F : Nat → Prop) (g : Nat) (h : Heap) (hF : ∀ i, F i → i < h.length) (hg : ¬ F g) {ev : Bool} (ho : h[g]? = some (.arr 20 [List.replicate 20 .nils] ev)) : Bk F g h (List.replicate 20 .nils) B0 :=
  by
  have key : ∀ (j : Nat) (c : AV), (List.replicate 20 AV.nils)[j]? = some c → c = .nils := fun j c hc => by
    rw [List.getElem?_replicate] at hc
    split at hc
    · exact (Option.some.inj hc).symm
    · cases hc
  exact ⟨hF, hg, by simp, ⟨ev, ho⟩, fun j c hc => .inl ⟨key j c hc, rfl⟩, fun j j' c c' i _ hc _ hi => by rw [key j c hc] at hi; cases hi⟩
theorem bki_start : BkI B0 := ⟨rfl, fun row h => (by cases h), rfl, fun row h => (by cases h), rfl, fun row h => (by cases h), fun _ _ _ _ _ _ => rfl, fun _ => by simp [B0]⟩
theorem bki_nat {B : Nat → List (List AV)} {l : List Int} (h : BkI B) (hl : l.length < 10000000) (hs : (B 0).length < 90000000) : BkI (bkNat B l) := by
  obtain ⟨a1, a2, a3⟩ := bkNat_len B l
  have e0 : bkNat B l 0 = B 0 ++ [[lims (limM l)]] := by unfold bkNat; rw [upB_ne (by decide), upB_same]
  refine ⟨?_, fun row hr => ?_, by rw [a3 5 (by omega), a3 4 (by omega)]; exact h.e4, by rw [a3 4 (by omega)]; exact h.r4, by rw [a3 15 (by omega), a3 14 (by omega)]; exact h.e14, by rw [a3 14 (by omega)]; exact h.r14, fun j h1 h2 h3 h4 h5 => by rw [a3 j h1]; exact h.z j h1 h2 h3 h4 h5, fun j => ?_⟩
  · rw [e0]; unfold bkNat; rw [upB_same, h.e0]
  · rw [e0] at hr
    rcases List.mem_append.1 hr with h1 | h1
    · exact h.r0 row h1
    · simp at h1; subst h1; exact ⟨_, rfl, by simp [limM]; omega⟩
  · match j with
    | 0 => rw [a1]; omega
    | 1 => rw [a2, h.e0]; omega
    | j + 2 => rw [a3 (j + 2) (by omega)]; exact h.sm _
theorem bki_ns {ns : List Nd} : ∀ {B : Nat → List (List AV)}, BkI B → (∀ n, n ∈ ns → n.num.length < 10000000 ∧ n.den.length < 10000000) → (B 0).length + 2 * ns.length < 90000000 → BkI (bkNs B ns) := by
  induction ns with
  | nil => intro B h _ _; exact h
  | cons n ns ih =>
    intro B h hl hs
    have hn := hl n (by simp)
    simp only [List.length_cons] at hs
    have h1 := bki_nat (l := n.num) h hn.1 (by omega)
    have h2 := bki_nat (l := n.den) h1 hn.2 (by rw [(bkNat_len B n.num).1]; omega)
    exact ih h2 (fun m hm => hl m (by simp [hm])) (by rw [(bkNat_len _ n.den).1, (bkNat_len B n.num).1]; omega)
theorem bki_tape {B : Nat → List (List AV)} {t : Tp} (h : BkI B) (ht : t.In) (hs : (B 0).length < 20000000) (hs4 : (B 4).length < 20000000) (hs14 : (B 14).length < 20000000) : BkI (bkTape B t) ∧ (bkTape B t 0).length = (B 0).length + 2 * t.ns.length ∧ (bkTape B t 4).length = (B 4).length + 1 ∧ (bkTape B t 14).length = (B 14).length + 1 := by
  have hn := ht.nl
  have ho := ht.ol
  have h1 := bki_ns h ht.cl (by omega)
  obtain ⟨a1, a2, a3⟩ := bkNs_len t.ns B
  have k0 : bkTape B t 0 = bkNs B t.ns 0 := by unfold bkTape bkInts bkOps; simp [upB]
  have k1 : bkTape B t 1 = bkNs B t.ns 1 := by unfold bkTape bkInts bkOps; simp [upB]
  have k4 : bkTape B t 4 = B 4 ++ [[ints (intM t.outs)]] := by unfold bkTape bkInts bkOps; simp [upB, a3 4]
  have k5 : bkTape B t 5 = B 5 ++ [[ints (intM t.outs)]] := by unfold bkTape bkInts bkOps; simp [upB, a3 5]
  have k14 : bkTape B t 14 = B 14 ++ [[.isl 7 ((opM t.ns).map Nd.cells)]] := by unfold bkTape bkInts bkOps; simp [upB, a3 14]
  have k15 : bkTape B t 15 = B 15 ++ [[.isl 7 ((opM t.ns).map Nd.cells)]] := by unfold bkTape bkInts bkOps; simp [upB, a3 15]
  have kj : ∀ j, 2 ≤ j → j ≠ 4 → j ≠ 5 → j ≠ 14 → j ≠ 15 → bkTape B t j = B j := fun j h2 h4 h5 h14 h15 => by unfold bkTape bkInts bkOps; simp [upB, h4, h5, h14, h15, a3 j h2]
  refine ⟨⟨by rw [k0, k1]; exact h1.e0, by rw [k0]; exact h1.r0, by rw [k4, k5, h.e4], fun row hr => ?_, by rw [k14, k15, h.e14], fun row hr => ?_, fun j g2 g4 g5 g14 g15 => by rw [kj j g2 g4 g5 g14 g15]; exact h.z j g2 g4 g5 g14 g15, fun j => ?_⟩, by rw [k0, a1], by rw [k4]; simp, by rw [k14]; simp⟩
  · rw [k4] at hr
    rcases List.mem_append.1 hr with g1 | g1
    · exact h.r4 row g1
    · simp at g1; subst g1; exact ⟨_, rfl, by simp [intM]; omega⟩
  · rw [k14] at hr
    rcases List.mem_append.1 hr with g1 | g1
    · exact h.r14 row g1
    · simp only [List.mem_singleton] at g1
      subst g1
      refine ⟨_, rfl, fun n hm => ?_, by simp [opM]; omega⟩
      rcases List.mem_append.1 hm with g1 | g1
      · exact ht.ok.ns n g1
      · have h0 : ∀ x, (markN x).Ok := fun x => ⟨LI.nil, LI.nil, (by decide : 0 < 100000000), (by decide : 0 < 100000000)⟩
        simp at g1
        rcases g1 with rfl | rfl | rfl <;> exact h0 _
  · by_cases j0 : j = 0
    · rw [j0, k0, a1]; omega
    by_cases j1 : j = 1
    · rw [j1, k1, a2, h.e0]; omega
    by_cases j4 : j = 4
    · rw [j4, k4]; simp; omega
    by_cases j5 : j = 5
    · rw [j5, k5, h.e4]; simp; omega
    by_cases j14 : j = 14
    · rw [j14, k14]; simp; omega
    by_cases j15 : j = 15
    · rw [j15, k15, h.e14]; simp; omega
    rw [kj j (by omega) j4 j5 j14 j15]; exact h.sm j
theorem BkI.all {B : Nat → List (List AV)} (h : BkI B) (h0 : (B 0).length < 60000000) (h4 : (B 4).length < 60000000) (h14 : (B 14).length < 60000000) : ∀ j, (B j).length < 60000000 := fun j => by
  by_cases j0 : j = 0
  · rw [j0]; exact h0
  by_cases j1 : j = 1
  · rw [j1, h.e0]; exact h0
  by_cases j4 : j = 4
  · rw [j4]; exact h4
  by_cases j5 : j = 5
  · rw [j5, h.e4]; exact h4
  by_cases j14 : j = 14
  · rw [j14]; exact h14
  by_cases j15 : j = 15
  · rw [j15, h.e14]; exact h14
  rw [h.z j (by omega) j4 j5 j14 j15]; simp
set_option maxHeartbeats 4000000 in
set_option maxRecDepth 100000 in
theorem law_composes (f g : Tp) (hf : f.In) (hg : g.In) : ACalls Try.prog 3 [f.V, g.V] [] fun v h => OFz h v (.bool true) := by
  refine wp3 rfl rfl ?_
  have hc := composes_c f g hf.sm hg.sm
  simp (maxSteps := 4000000) only [↓packA, ↓reduceIte, packB, pureOp, quietOp, loadOp, quietB, fr0, cellsK, implies_true, ite_true, ite_false, eq_self, ne_eq, reduceCtorEq, Nat.reduceLT, Nat.reduceLeDiff, Nat.reduceAdd, Nat.reduceMul, Nat.reduceBEq, Nat.reduceEqDiff, Int.reduceToNat, Int.reduceLT, Int.reduceLE, Nat.reduceSub, pl3, ft3, ft22, ft23, ft25, ft26, ft27, ft28, ft29, ft30, ft31, ft32, ft33, ft34, ft35, ft36, ft38, ft78, ft83, ft87, ft89, ft91, ft119, ft122, ft128, Tp.V, patch, patch', Int.cast_ofNat_Int, Int.natCast_zero, Int.natCast_one, Int.reduceAdd, Int.reduceSub, Int.reduceNeg, Int.reduceMul, Int.reduceToNat, Int.reduceLT, Int.reduceLE, Int.reduceEq, Int.reduceBEq, Int.reduceBNe, Nat.reduceSub, Nat.reduceLT, List.getD_cons_zero, List.getD_cons_succ, List.length_singleton, Bool.and_true, Bool.and_false]
  have i0 := bki_start
  obtain ⟨i1, k0, k4, k14⟩ := bki_tape i0 hf (by decide) (by decide) (by decide)
  have hfn := hf.nl
  have hgn := hg.nl
  have z0 : (B0 0).length = 0 := rfl
  have z4 : (B0 4).length = 0 := rfl
  have z14 : (B0 14).length = 0 := rfl
  obtain ⟨i2, m0, m4, m14⟩ := bki_tape i1 hg (by omega) (by omega) (by omega)
  refine gtape_c f hf.ok hf.nl hf.ol hf.cl (bk_start (fun i => i ≤ 1) 2 _ (fun i hi => by simp; omega) (by omega) rfl) (fun i => by simp [B0]) fun h1 cs1 b1 hF1 hl1 => ?_
  have e0 : h1[0]? = some (.arr 3 [[AV.int IntKind.i64 f.vars, AV.isl 7 (List.map Nd.cells f.ns), ints f.outs]] true) := hF1 0 (by omega)
  have e1 : h1[1]? = some (.arr 3 [[AV.int IntKind.i64 g.vars, AV.isl 7 (List.map Nd.cells g.ns), ints g.outs]] true) := hF1 1 (by omega)
  simp (maxSteps := 4000000) only [↓packA, ↓reduceIte, packB, pureOp, quietOp, loadOp, quietB, fr0, cellsK, implies_true, ite_true, ite_false, eq_self, ne_eq, reduceCtorEq, Nat.reduceLT, Nat.reduceLeDiff, Nat.reduceAdd, Nat.reduceMul, Nat.reduceBEq, Nat.reduceEqDiff, Int.reduceToNat, Int.reduceLT, Int.reduceLE, Nat.reduceSub, pl3, ft3, ft22, ft23, ft25, ft26, ft27, ft28, ft29, ft30, ft31, ft32, ft33, ft34, ft35, ft36, ft38, ft78, ft83, ft87, ft89, ft91, ft119, ft122, ft128, Tp.V, e0, e1, Int.cast_ofNat_Int, Int.natCast_zero, Int.natCast_one, Int.reduceAdd, Int.reduceSub, Int.reduceNeg, Int.reduceMul, Int.reduceToNat, Int.reduceLT, Int.reduceLE, Int.reduceEq, Int.reduceBEq, Int.reduceBNe, Nat.reduceSub, Nat.reduceLT, List.getD_cons_zero, List.getD_cons_succ, List.length_singleton, Bool.and_true, Bool.and_false]
  refine gtape_c g hg.ok hg.nl hg.ol hg.cl b1 (i1.all (by omega) (by omega) (by omega)) fun h2 cs2 b2 hF2 hl2 => ?_
  have e20 := (hF2 0 (by omega)).trans e0
  have e21 := (hF2 1 (by omega)).trans e1
  simp only [Tp.V] at hc
  simp (maxSteps := 4000000) only [↓packA, ↓reduceIte, packB, pureOp, quietOp, loadOp, quietB, fr0, cellsK, implies_true, ite_true, ite_false, eq_self, ne_eq, reduceCtorEq, Nat.reduceLT, Nat.reduceLeDiff, Nat.reduceAdd, Nat.reduceMul, Nat.reduceBEq, Nat.reduceEqDiff, Int.reduceToNat, Int.reduceLT, Int.reduceLE, Nat.reduceSub, pl3, ft3, ft22, ft23, ft25, ft26, ft27, ft28, ft29, ft30, ft31, ft32, ft33, ft34, ft35, ft36, ft38, ft78, ft83, ft87, ft89, ft91, ft119, ft122, ft128, Tp.V, e0, e1, e20, e21, Int.cast_ofNat_Int, Int.natCast_zero, Int.natCast_one, Int.reduceAdd, Int.reduceSub, Int.reduceNeg, Int.reduceMul, Int.reduceToNat, Int.reduceLT, Int.reduceLE, Int.reduceEq, Int.reduceBEq, Int.reduceBNe, Nat.reduceSub, Nat.reduceLT, List.getD_cons_zero, List.getD_cons_succ, List.length_singleton, Bool.and_true, Bool.and_false]
  refine acalls_pure hc rfl ?_
  simp (maxSteps := 4000000) only [↓packA, ↓reduceIte, packB, pureOp, quietOp, loadOp, quietB, fr0, cellsK, implies_true, ite_true, ite_false, eq_self, ne_eq, reduceCtorEq, Nat.reduceLT, Nat.reduceLeDiff, Nat.reduceAdd, Nat.reduceMul, Nat.reduceBEq, Nat.reduceEqDiff, Int.reduceToNat, Int.reduceLT, Int.reduceLE, Nat.reduceSub, pl3, ft3, ft22, ft23, ft25, ft26, ft27, ft28, ft29, ft30, ft31, ft32, ft33, ft34, ft35, ft36, ft38, ft78, ft83, ft87, ft89, ft91, ft119, ft122, ft128, Tp.V, e0, e1, e20, e21, Int.cast_ofNat_Int, Int.natCast_zero, Int.natCast_one, Int.reduceAdd, Int.reduceSub, Int.reduceNeg, Int.reduceMul, Int.reduceToNat, Int.reduceLT, Int.reduceLE, Int.reduceEq, Int.reduceBEq, Int.reduceBNe, Nat.reduceSub, Nat.reduceLT, List.getD_cons_zero, List.getD_cons_succ, List.length_singleton, Bool.and_true, Bool.and_false]
  refine intactB_c b2 i2 ?_
  simp (maxSteps := 4000000) only [↓packA, ↓reduceIte, packB, pureOp, quietOp, loadOp, quietB, fr0, cellsK, implies_true, ite_true, ite_false, eq_self, ne_eq, reduceCtorEq, Nat.reduceLT, Nat.reduceLeDiff, Nat.reduceAdd, Nat.reduceMul, Nat.reduceBEq, Nat.reduceEqDiff, Int.reduceToNat, Int.reduceLT, Int.reduceLE, Nat.reduceSub, pl3, ft3, ft22, ft23, ft25, ft26, ft27, ft28, ft29, ft30, ft31, ft32, ft33, ft34, ft35, ft36, ft38, ft78, ft83, ft87, ft89, ft91, ft119, ft122, ft128, Tp.V, e0, e1, e20, e21, Int.cast_ofNat_Int, Int.natCast_zero, Int.natCast_one, Int.reduceAdd, Int.reduceSub, Int.reduceNeg, Int.reduceMul, Int.reduceToNat, Int.reduceLT, Int.reduceLE, Int.reduceEq, Int.reduceBEq, Int.reduceBNe, Nat.reduceSub, Nat.reduceLT, List.getD_cons_zero, List.getD_cons_succ, List.length_singleton, Bool.and_true, Bool.and_false]
  exact .flat _ rfl
end Go.Proofs.Ytgdlkhgfehclpaa
end

section
/- Arguments that are tapes. No condition. -/
namespace Go.Proofs.Ytgdlkhgfehclpaa
open Go Go.AL Go.ChangeShapes Go.WideShapes Go.ChangeAt Go.RowKit
set_option linter.unusedVariables false
set_option linter.unusedSimpArgs false
/-- Cells and values, pairwise. -/
def CR (W : World) (us : List AV) (vs : List Value) : Prop := us.length = vs.length ∧ ∀ (j : Nat) (u : AV) (v : Value), us[j]? = some u → vs[j]? = some v → IRel (allOf W) W u v ∧ v.oneCell' = true
theorem CR.nil {W : World} : CR W [] [] := ⟨rfl, fun j u v h => by simp at h⟩
theorem CR.cons {W : World} {u : AV} {v : Value} {us : List AV} {vs : List Value} (h : IRel (allOf W) W u v) (h1 : v.oneCell' = true) (h2 : CR W us vs) : CR W (u :: us) (v :: vs) := by
  refine ⟨by simp [h2.1], fun j x y hx hy => ?_⟩
  cases j with
  | zero => simp at hx hy; subst hx hy; exact ⟨h, h1⟩
  | succ j => simp at hx hy; exact h2.2 j x y hx hy
theorem CR.head {W : World} {u : AV} {v : Value} {us : List AV} {vs : List Value} (h : CR W (u :: us) (v :: vs)) : IRel (allOf W) W u v ∧ v.oneCell' = true := h.2 0 u v rfl rfl
theorem CR.tail {W : World} {u : AV} {v : Value} {us : List AV} {vs : List Value} (h : CR W (u :: us) (v :: vs)) : CR W us vs := ⟨by have := h.1; simp at this; exact this, fun j x y hx hy => h.2 (j + 1) x y (by simpa using hx) (by simpa using hy)⟩
/-- A list of things that one knows how to read. -/
theorem open_sl {H : Type} {enc : TypeId × Value → H} {W : World} {α : Type} (cellsF : α → List AV) (Pr : α → DataW H → Prop) {k : Nat} {t e : TypeId} (ht : Try.prog.underlying t = some (.slice e)) (hk : Try.prog.cellsOf e = k) (hcl : ∀ x, (cellsF x).length = k) (hk0 : 0 < k)
    (hel : ∀ (fuel : Nat) (cs : List Value) (d : DataW H) (p : List MemPlace), DataW.trod enc Try.prog W 0 (fun _ => true) true fuel e cs = some (d, p) → ∃ x, Pr x d ∧ CR W (cellsF x) cs)
    {fuel : Nat} {cs : List Value} {d : DataW H} {p : List MemPlace} (h : DataW.trod enc Try.prog W 0 (fun _ => true) true fuel t cs = some (d, p)) : ∃ xs : List α, CR W [.isl k (xs.map cellsF)] cs ∧ xs.length ≤ Rows.uptoBulk d ∧ ∀ x, x ∈ xs → ∃ d', Pr x d' ∧ Rows.uptoBulk d' ≤ Rows.uptoBulk d := by
  rcases DataW.trod_slice ht h with ⟨rfl, hx⟩ | ⟨a, len, cap, elems, rest, n, _, rfl, hx, hb, hl, hm, hlen, hel2, hsp, hns⟩
  · simp only [Prod.mk.injEq] at hx
    obtain ⟨rfl, _⟩ := hx
    exact ⟨[], .cons (.isl0 k _ _) rfl .nil, by simp, fun x hx => by cases hx⟩
  simp only [Prod.mk.injEq] at hx
  obtain ⟨rfl, _⟩ := hx
  have each : ∀ i, i < len → ∃ (x : α) (vs : List Value), (∃ d', Pr x d' ∧ Rows.uptoBulk d' ≤ Rows.uptoBulk (DataW.slice (elems.map (·.1)) (rest.map (·.1)))) ∧ CR W (cellsF x) vs ∧ W.cells? 0 (a.add (i * k)) k = some vs := fun i hi => by
    have h1 := hel2 i hi
    have h2 : elems[i]? = some (elems[i]'(by omega)) := List.getElem?_eq_getElem (by omega)
    rw [h2, hk, Option.bind_eq_some_iff] at h1
    obtain ⟨vs, e1, e2⟩ := h1
    obtain ⟨x, p1, p2⟩ := hel _ _ _ _ e2
    refine ⟨x, vs, ⟨_, p1, ?_⟩, p2, e1⟩
    have h3 : (elems[i]'(by omega)).1 ∈ elems.map (·.1) := List.mem_map.2 ⟨_, List.mem_of_getElem? h2, rfl⟩
    have h4 := bulk_part h3
    refine Nat.le_trans h4 ?_
    show _ ≤ Rows.uptoBulkAll _ + Rows.uptoBulkAll _ + 1
    omega
  rcases Nat.eq_zero_or_pos len with h0 | h0
  · subst h0
    exact ⟨[], .cons (.isl0 k _ _) rfl .nil, by simp, fun x hx => by cases hx⟩
  obtain ⟨x0, _⟩ := each 0 h0
  have hch : ∃ f : Nat → α, ∀ i, i < len → ∃ vs : List Value, (∃ d', Pr (f i) d' ∧ Rows.uptoBulk d' ≤ Rows.uptoBulk (DataW.slice (elems.map (·.1)) (rest.map (·.1)))) ∧ CR W (cellsF (f i)) vs ∧ W.cells? 0 (a.add (i * k)) k = some vs :=
    ⟨fun i => if hi : i < len then Classical.choose (each i hi) else x0, fun i hi => by dsimp only; rw [dif_pos hi]; exact Classical.choose_spec (each i hi)⟩
  obtain ⟨f, hf⟩ := hch
  have hgv : ∃ g : Nat → List Value, ∀ i, i < len → CR W (cellsF (f i)) (g i) ∧ W.cells? 0 (a.add (i * k)) k = some (g i) :=
    ⟨fun i => if hi : i < len then Classical.choose (hf i hi) else [], fun i hi => by dsimp only; rw [dif_pos hi]; exact (Classical.choose_spec (hf i hi)).2⟩
  obtain ⟨g, hg⟩ := hgv
  have hcell : ∀ i j, i < len → j < k → W.cell? ((a.add (i * k)).add j) = (g i)[j]? := fun i j hi hj => (World.cells?_some (hg i hi).2).2.2 j hj
  have hgl : ∀ i, i < len → (g i).length = k := fun i hi => (World.cells?_some (hg i hi).2).2.1
  obtain ⟨b, off, spot⟩ := a
  have hspot : spot = none := by
    have h1 := hcell 0 0 h0 hk0
    have h2 : (g 0)[0]? = some ((g 0)[0]'(by rw [hgl 0 h0]; exact hk0)) := List.getElem?_eq_getElem _
    rw [h2] at h1
    simpa [Addr.add] using World.cell?_spot h1
  subst hspot
  have hcell2 : ∀ i j, i < len → j < k → W.cell? ⟨b, off + (i * k + j), none⟩ = (g i)[j]? := fun i j hi hj => by
    have h1 := hcell i j hi hj
    rwa [Go.WideShapes.add_plain, Go.WideShapes.add_plain, Nat.add_assoc] at h1
  have hxs : ∀ (i : Nat) (e : List AV), (List.map cellsF (List.map f (List.range len)))[i]? = some e → i < len ∧ e = cellsF (f i) := fun i e he => by
    have hi := (List.getElem?_eq_some_iff.1 he).1
    simp only [List.length_map, List.length_range] at hi
    rw [List.getElem?_map, List.getElem?_map, List.getElem?_range hi] at he
    exact ⟨hi, (Option.some.inj he).symm⟩
  refine ⟨(List.range len).map f, .cons ?_ rfl .nil, ?_, fun x hx => ?_⟩
  · have hcl2 : ∀ i, i < len → ∀ j u, (cellsF (f i))[j]? = some u → j < k ∧ ∃ v, (g i)[j]? = some v := fun i hi j u hu => by
      have := (List.getElem?_eq_some_iff.1 hu).1
      rw [hcl] at this
      exact ⟨this, _, List.getElem?_eq_getElem (by rw [hgl i hi]; exact this)⟩
    have hr := IRel.isl (I := allOf W) (w := W) k (List.map cellsF (List.map f (List.range len))) b off cap (fun i j => ((g i)[j]?).getD undef) (by intro e; have := congrArg List.length e; simp at this; omega) (by simp; exact hl) (by
      have h1 := hcell2 0 0 h0 hk0
      have h2 : (g 0)[0]? = some ((g 0)[0]'(by rw [hgl 0 h0]; exact hk0)) := List.getElem?_eq_getElem _
      rw [h2] at h1
      exact cell_lt h1) (fun i e he => by rw [(hxs i e he).2]; exact hcl _) (fun i e j u he hu => by
        obtain ⟨hi, rfl⟩ := hxs i e he
        obtain ⟨hj, v, hv⟩ := hcl2 i hi j u hu
        rw [hcell2 i j hi hj, hv]; rfl) (fun i e j u he hu => by
        obtain ⟨hi, rfl⟩ := hxs i e he
        obtain ⟨hj, v, hv⟩ := hcl2 i hi j u hu
        rw [hv]; exact ((hg i hi).1.2 j u v hu hv).2) (fun i e j u he hu => by
        obtain ⟨hi, rfl⟩ := hxs i e he
        obtain ⟨hj, v, hv⟩ := hcl2 i hi j u hu
        rw [hv]; exact ((hg i hi).1.2 j u v hu hv).1)
    simpa using hr
  · have := bulk_slice (elems.map (·.1)) (rest.map (·.1))
    simp at this ⊢
    omega
  · obtain ⟨i, hi, rfl⟩ := List.mem_map.1 hx
    obtain ⟨vs, h1, _⟩ := hf i (List.mem_range.1 hi)
    exact h1
theorem len3 {α : Type} {l : List α} (h : l.length = 3) : ∃ a b c, l = [a, b, c] := by
  match l, h with
  | [a, b, c], _ => exact ⟨_, _, _, rfl⟩
theorem len7 {α : Type} {l : List α} (h : l.length = 7) : ∃ a b c d e f g, l = [a, b, c, d, e, f, g] := by
  match l, h with
  | [a, b, c, d, e, f, g], _ => exact ⟨_, _, _, _, _, _, _, rfl⟩
theorem CR.one {W : World} {u : AV} {v : Value} (h : CR W [u] [v]) : IRel (allOf W) W u v ∧ v.oneCell' = true := h.head
section
variable {H : Type} {enc : TypeId × Value → H} {W : World} {fuel : Nat} {cs : List Value} {d : DataW H} {p : List MemPlace}
theorem st3 {t : TypeId} {f0 f1 f2 : Field} {x : DataW H × List MemPlace} (ht : Try.prog.underlying t = some (.struct #[f0, f1, f2])) (h : DataW.trod enc Try.prog W 0 (fun _ => true) true fuel t cs = some x) :
    ∃ y0 y1 y2 n, x = (.agg [y0.1, y1.1, y2.1], y0.2 ++ (y1.2 ++ y2.2)) ∧ cs.length = Try.prog.cellsOf t ∧ DataW.trod enc Try.prog W 0 (fun _ => true) true n f0.type ((cs.drop f0.offset).take (Try.prog.cellsOf f0.type)) = some y0 ∧
      DataW.trod enc Try.prog W 0 (fun _ => true) true n f1.type ((cs.drop f1.offset).take (Try.prog.cellsOf f1.type)) = some y1 ∧ DataW.trod enc Try.prog W 0 (fun _ => true) true n f2.type ((cs.drop f2.offset).take (Try.prog.cellsOf f2.type)) = some y2 := by
  obtain ⟨xs, n, _, rfl, hl, hlen, hf⟩ := DataW.trod_struct ht h
  match xs, hlen with
  | [y0, y1, y2], _ => exact ⟨y0, y1, y2, n, by simp, hl, by simpa using hf 0 f0 rfl, by simpa using hf 1 f1 rfl, by simpa using hf 2 f2 rfl⟩
theorem open_nat (h : DataW.trod enc Try.prog W 0 (fun _ => true) true fuel 79 cs = some (d, p)) : ∃ l : List Int, CR W [lims l] cs ∧ LI l ∧ l.length ≤ Rows.uptoBulk d := by
  obtain ⟨xs, h1, h2, h3⟩ := open_sl (enc := enc) (W := W) u32E (fun x (_ : DataW H) => 0 ≤ x ∧ x < 4294967296) (k := 1) Try.underlying79 (by kernel_rfl) (fun _ => rfl) (by decide) (fun fuel cs d p hh => by
    obtain ⟨n, rfl, _, hw⟩ := DataW.trod_int Try.underlying115 hh
    refine ⟨n, ?_, .cons (.int _ _) rfl .nil⟩
    simp only [Lit.wf, Bool.and_eq_true, decide_eq_true_eq] at hw
    have h0 : IntKind.u32.min = 0 := by decide
    have h1 : IntKind.u32.max = 4294967295 := by decide
    omega) h
  exact ⟨xs, h1, fun x hx => by obtain ⟨_, h4, _⟩ := h3 x hx; exact h4, h2⟩
theorem open_rat (h : DataW.trod enc Try.prog W 0 (fun _ => true) true fuel 81 cs = some (d, p)) : ∃ (neg : Bool) (num den : List Int), CR W [.bool neg, lims num, lims den] cs ∧ LI num ∧ LI den ∧ num.length ≤ Rows.uptoBulk d ∧ den.length ≤ Rows.uptoBulk d := by
  obtain ⟨y0, y1, y2, n, hx, hlen, h0, h1, h2⟩ := st3 Try.underlying81 h
  simp only [Prod.mk.injEq] at hx
  obtain ⟨rfl, _⟩ := hx
  rw [show Try.prog.cellsOf 81 = 3 by kernel_rfl] at hlen
  obtain ⟨a, b, c, rfl⟩ := len3 hlen
  rw [show Try.prog.cellsOf 4 = 1 by kernel_rfl] at h0
  rw [show Try.prog.cellsOf 79 = 1 by kernel_rfl] at h1 h2
  simp only [List.drop_zero, List.drop_succ_cons, List.take_succ_cons, List.take_zero] at h0 h1 h2
  obtain ⟨neg, e0, _⟩ := DataW.trod_bool Try.underlying4 h0
  obtain ⟨num, c1, l1, b1⟩ := open_nat h1
  obtain ⟨den, c2, l2, b2⟩ := open_nat h2
  simp only [List.cons.injEq, and_true] at e0
  subst e0
  have hb : ∀ y, y ∈ [y0.1, y1.1, y2.1] → Rows.uptoBulk y ≤ Rows.uptoBulk (DataW.agg [y0.1, y1.1, y2.1]) := fun y hy => Nat.le_trans (bulk_part hy) (bulk_agg _)
  exact ⟨neg, num, den, .cons (.bool _) rfl (.cons c1.one.1 c1.one.2 (.cons c2.one.1 c2.one.2 .nil)), l1, l2, Nat.le_trans b1 (hb _ (by simp)), Nat.le_trans b2 (hb _ (by simp))⟩
def NdP {H : Type} (n : Nd) (d : DataW H) : Prop := LI n.num ∧ LI n.den ∧ n.num.length ≤ Rows.uptoBulk d ∧ n.den.length ≤ Rows.uptoBulk d
theorem open_op (h : DataW.trod enc Try.prog W 0 (fun _ => true) true fuel 83 cs = some (d, p)) : ∃ n : Nd, NdP n d ∧ CR W n.cells cs := by
  obtain ⟨xs, n, _, hx, hlen, hxl, hf⟩ := DataW.trod_struct Try.underlying83 h
  simp only [Prod.mk.injEq] at hx
  obtain ⟨rfl, _⟩ := hx
  rw [show Try.prog.cellsOf 83 = 7 by kernel_rfl] at hlen
  obtain ⟨a, b, c, dd, e, f, g, rfl⟩ := len7 hlen
  have hxl5 : xs.length = 5 := hxl
  obtain ⟨x0, x1, x2, x3, x4, rfl⟩ : ∃ x0 x1 x2 x3 x4, xs = [x0, x1, x2, x3, x4] := by
    match hm : xs, hxl5 with
    | [x0, x1, x2, x3, x4], _ => exact ⟨_, _, _, _, _, rfl⟩
  have h0 : DataW.trod enc Try.prog W 0 (fun _ => true) true n 77 (([a, b, c, dd, e, f, g].drop 0).take (Try.prog.cellsOf 77)) = [x0, x1, x2, x3, x4][0]? := hf 0 _ rfl
  have h1 : DataW.trod enc Try.prog W 0 (fun _ => true) true n 3 (([a, b, c, dd, e, f, g].drop 1).take (Try.prog.cellsOf 3)) = [x0, x1, x2, x3, x4][1]? := hf 1 _ rfl
  have h2 : DataW.trod enc Try.prog W 0 (fun _ => true) true n 3 (([a, b, c, dd, e, f, g].drop 2).take (Try.prog.cellsOf 3)) = [x0, x1, x2, x3, x4][2]? := hf 2 _ rfl
  have h3 : DataW.trod enc Try.prog W 0 (fun _ => true) true n 3 (([a, b, c, dd, e, f, g].drop 3).take (Try.prog.cellsOf 3)) = [x0, x1, x2, x3, x4][3]? := hf 3 _ rfl
  have h4 : DataW.trod enc Try.prog W 0 (fun _ => true) true n 81 (([a, b, c, dd, e, f, g].drop 4).take (Try.prog.cellsOf 81)) = [x0, x1, x2, x3, x4][4]? := hf 4 _ rfl
  rw [show Try.prog.cellsOf 77 = 1 by kernel_rfl] at h0
  rw [show Try.prog.cellsOf 3 = 1 by kernel_rfl] at h1 h2 h3
  rw [show Try.prog.cellsOf 81 = 3 by kernel_rfl] at h4
  simp only [List.drop_zero, List.drop_succ_cons, List.take_succ_cons, List.take_zero, List.getElem?_cons_zero, List.getElem?_cons_succ] at h0 h1 h2 h3 h4
  obtain ⟨z0, e0, _, _⟩ := DataW.trod_int Try.underlying77 h0
  obtain ⟨z1, e1, _, _⟩ := DataW.trod_int Try.underlying3 h1
  obtain ⟨z2, e2, _, _⟩ := DataW.trod_int Try.underlying3 h2
  obtain ⟨z3, e3, _, _⟩ := DataW.trod_int Try.underlying3 h3
  obtain ⟨neg, num, den, c4, l1, l2, b1, b2⟩ := open_rat (d := x4.1) (p := x4.2) h4
  simp only [List.cons.injEq, and_true] at e0 e1 e2 e3
  subst e0 e1 e2 e3
  have hb : Rows.uptoBulk x4.1 ≤ Rows.uptoBulk (DataW.agg ([x0, x1, x2, x3, x4].map (·.1))) := Nat.le_trans (bulk_part (by simp)) (bulk_agg _)
  exact ⟨⟨z0, z1, z2, z3, neg, num, den⟩, ⟨l1, l2, Nat.le_trans b1 hb, Nat.le_trans b2 hb⟩, .cons (.int _ _) rfl (.cons (.int _ _) rfl (.cons (.int _ _) rfl (.cons (.int _ _) rfl c4)))⟩
theorem open_tape {v : Value} (hv : ∃ cs, v = .agg cs ∧ cs.size = Try.prog.cellsOf 25) (h : DataW.trod enc Try.prog W 0 (fun _ => true) true fuel 25 v.cells.toList = some (d, p)) (hs : Rows.uptoBulk d ≤ 1048576) : ∃ t : Tp, IRel (allOf W) W t.V v ∧ t.In := by
  obtain ⟨cells, rfl, hsz⟩ := hv
  obtain ⟨y0, y1, y2, n, hx, hlen, h0, h1, h2⟩ := st3 Try.underlying25 h
  simp only [Prod.mk.injEq] at hx
  obtain ⟨rfl, _⟩ := hx
  rw [show Try.prog.cellsOf 25 = 3 by kernel_rfl] at hlen
  obtain ⟨a, b, c, hcl⟩ := len3 hlen
  rw [hcl] at h0 h1 h2
  rw [show Try.prog.cellsOf 3 = 1 by kernel_rfl] at h0
  rw [show Try.prog.cellsOf 22 = 1 by kernel_rfl] at h1
  rw [show Try.prog.cellsOf 23 = 1 by kernel_rfl] at h2
  simp only [List.drop_zero, List.drop_succ_cons, List.take_succ_cons, List.take_zero] at h0 h1 h2
  obtain ⟨vars, e0, _, _⟩ := DataW.trod_int Try.underlying3 h0
  obtain ⟨ns, c1, b1, p1⟩ := open_sl (enc := enc) (W := W) Nd.cells NdP (k := 7) Try.underlying22 (by kernel_rfl) (fun _ => rfl) (by decide) (fun fuel cs d p hh => open_op hh) (d := y1.1) (p := y1.2) h1
  obtain ⟨outs, c2, b2, _⟩ := open_sl (enc := enc) (W := W) intE (fun _ (_ : DataW H) => True) (k := 1) Try.underlying23 (by kernel_rfl) (fun _ => rfl) (by decide) (fun fuel cs d p hh => by
    obtain ⟨z, rfl, _, _⟩ := DataW.trod_int Try.underlying3 hh
    exact ⟨z, trivial, .cons (.int _ _) rfl .nil⟩) (d := y2.1) (p := y2.2) h2
  simp only [List.cons.injEq, and_true] at e0
  subst e0
  have hb : ∀ y, y ∈ [y0.1, y1.1, y2.1] → Rows.uptoBulk y ≤ Rows.uptoBulk (DataW.agg [y0.1, y1.1, y2.1]) := fun y hy => Nat.le_trans (bulk_part hy) (bulk_agg _)
  have hb1 := hb y1.1 (by simp)
  have hb2 := hb y2.1 (by simp)
  have hcr : CR W [.int .i64 vars, .isl 7 (ns.map Nd.cells), ints outs] [.int .i64 vars, b, c] := .cons (.int _ _) rfl (.cons c1.one.1 c1.one.2 (.cons c2.one.1 c2.one.2 .nil))
  have hca : cells = #[.int .i64 vars, b, c] := by
    apply Array.ext'
    exact hcl
  subst hca
  have hn : ∀ m, m ∈ ns → LI m.num ∧ LI m.den ∧ m.num.length < 10000000 ∧ m.den.length < 10000000 := fun m hm => by
    obtain ⟨d', ⟨q1, q2, q3, q4⟩, q5⟩ := p1 m hm
    exact ⟨q1, q2, by omega, by omega⟩
  refine ⟨⟨vars, ns, outs⟩, .agg _ _ rfl (fun j v hj => ?_) (fun j u v hu hj => (hcr.2 j u v hu (by simpa using hj)).1), ⟨⟨fun m hm => ?_⟩, by simp only; omega, by simp only; omega, fun m hm => (hn m hm).2.2⟩⟩
  · have hj' : [Value.int .i64 vars, b, c][j]? = some v := by simpa using hj
    have hjl := (List.getElem?_eq_some_iff.1 hj').1
    exact (hcr.2 j _ v (List.getElem?_eq_getElem (by simpa using hjl)) hj').2
  · obtain ⟨q1, q2, q3, q4⟩ := hn m hm
    exact ⟨q1, q2, by omega, by omega⟩
end
end Go.Proofs.Ytgdlkhgfehclpaa
end

section
/- EngineComposes is true of all arguments of the stated size. No condition. -/
namespace Go.Proofs.Ytgdlkhgfehclpaa
open Go Go.AL Go.ChangeShapes Go.WideShapes Go.ChangeAt Go.RowKit
set_option linter.unusedVariables false
set_option linter.unusedSimpArgs false
namespace law3
set_option maxRecDepth 100000 in
theorem contract (H : Type) (enc : TypeId × Value → H) (W : World) (base : Nat) (args : Array Value) (ds gs : List (DataW H)) (before : List MemPlace)
    (hval : ∀ (j : Nat) t v, Try.f3.params[j]? = some t → args[j]? = some v → Value.okWide Try.prog W .any base t v)
    (hW : DataW.Whole enc Try.prog Try.f3.params.toList Rows.engineComposesSpec.vars false W args.toList ds gs before) (hk : Rows.uptoSmall H (ds ++ gs) = true) :
    Calls Try.prog 3 args W fun e W' => ∃ v, e = .returned v ∧ Rows.engineComposesSpec.post enc Try.prog Try.f3 false true false false W args v W' := by
  have hW' := hW
  obtain ⟨p, q, hA0, hV, rfl, hfz, hnd⟩ := hW
  have hA : DataW.TrodAll enc Try.prog W 0 (fun _ => true) true Try.f3.params.toList args.toList ds p := hA0
  rw [Try.params3] at hA hval
  obtain ⟨v0, vs0, d0, ds0, p0, q0, hargs, rfl, rfl, h0, r0⟩ := trodAll_cons hA
  obtain ⟨v1, vs1, d1, ds1, p1, q1, rfl, rfl, rfl, h1, r1⟩ := trodAll_cons r0
  obtain ⟨rfl, rfl, rfl⟩ := trodAll_nil r1
  obtain rfl : args = #[v0, v1] := by cases args; simp_all
  obtain ⟨rfl, rfl⟩ := trodVars_none hV
  have hb := bulk_ok hk
  obtain ⟨fuel0, hf0⟩ := h0
  obtain ⟨tp0, hxs0, hin0⟩ := open_tape (okWide_struct Try.underlying25 (hval 0 25 v0 rfl rfl)) hf0 (by
    have := bulk_part (show d0 ∈ [d0, d1] ++ [] by simp)
    omega)
  obtain ⟨fuel1, hf1⟩ := h1
  obtain ⟨tp1, hxs1, hin1⟩ := open_tape (okWide_struct Try.underlying25 (hval 1 25 v1 rfl rfl)) hf1 (by
    have := bulk_part (show d1 ∈ [d0, d1] ++ [] by simp)
    omega)
  have hc := calls_true (W := W) (us := [tp0.V, tp1.V]) (vs := [v0, v1]) (law_composes tp0 tp1 hin0 hin1) rfl (fun j u v hu hv => by
    match j with
    | 0 => simp at hu hv; subst hu; subst hv; exact hxs0
    | 1 => simp at hu hv; subst hu; subst hv; exact hxs1
    | j + 2 => simp at hu)
  refine hc.mono fun e W' ⟨he, hbe⟩ => ?_
  subst he
  exact ⟨_, rfl, post_true hW' hA0 (by rw [Try.params3]; decide +kernel) (by kernel_rfl) rfl rfl hbe⟩
set_option maxRecDepth 100000 in
theorem lifted (os : Os) (started : os.Started) (H : Type) (enc : TypeId × Value → H) (F : Stop.Interp) :
    ReturnsInHanded {} Try.checked os 3 .any ((Rows.OpenSpec.upto Rows.engineComposesSpec).pre6 enc Try.prog Try.f3 Rows.engineComposesUptoRow.domain false) (((Rows.OpenSpec.upto Rows.engineComposesSpec).at F).post enc Try.prog Try.f3 false true false false) := by
  refine returnsInHanded_of_cond (C := Try.checked) (s := Rows.OpenSpec.upto Rows.engineComposesSpec) (k := Rows.uptoSmall) rfl zOwn started (by kernel_rfl) Try.func3
    (OpenSpec.witness (enc := enc) (C := Try.checked) (s := Rows.OpenSpec.upto Rows.engineComposesSpec) (k := Rows.uptoSmall) rfl false ⟨#[], #[.agg #[.int .i64 0, .slice none 0 0, .slice none 0 0], .agg #[.int .i64 0, .slice none 0 0, .slice none 0 0]], []⟩ 8 (by kernel_rfl) (by kernel_rfl) (by kernel_rfl)
      (x := ([.agg [.lit (.int .i64 0), .nil, .nil], .agg [.lit (.int .i64 0), .nil, .nil]], [], [])) (by kernel_rfl) rfl (by kernel_rfl)) ?_
  intro W base args ds gs before hval hW _ hk _
  exact contract H enc W base args ds gs before hval hW hk
theorem over : Rows.engineComposesUptoRow.holds Try.pinned (Rows.OpenSpec.upto Rows.engineComposesSpec) :=
  OpenClaim.holds_of_cond 3 Try.f3 rfl rfl rfl rfl rfl rfl rfl ⟨rfl, rfl, rfl, rfl, rfl⟩ rfl rfl rfl rfl rfl (by kernel_rfl) Try.func3 (by kernel_rfl)
    (of_decide_eq_true (by kernel_rfl)) (by unfold Func.isWrapper; first | (rw [if_pos (by decide +kernel)]; kernel_rfl) | (rw [if_neg (by decide +kernel)]; exact ⟨rfl, rfl⟩))
    (fun os started H enc _ F => lifted os started H enc F)
end law3
theorem engineComposesProved : Rows.EngineComposesUptoSaid := law3.over
#print axioms engineComposesProved
end Go.Proofs.Ytgdlkhgfehclpaa
end
