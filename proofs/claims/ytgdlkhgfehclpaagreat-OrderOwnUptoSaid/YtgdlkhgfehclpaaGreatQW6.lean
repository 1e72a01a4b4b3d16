/- Texts of one claim bound together: POY, POZ, PPa, PPb, PPc, PPd, PPe, PPf, PPl, PQa, PQb, PQc. -/
import Derived.Test.YtgdlkhgfehclpaaGreatQW5

section
/- Largest first. No condition. -/
namespace Go.Proofs.YtgdlkhgfehclpaaGreat
open Go Go.AL
set_option linter.unusedVariables false
set_option linter.unusedSimpArgs false
/-- The degree of a vertex. -/
def degI (st cs : List Int) (x : Int) : Int := ((rowOf st cs x.toNat).length : Int)
/-- Two strictly sorted lists of the same members are one. -/
theorem sorted_uniq {d : Int → Int} : ∀ (l1 l2 : List Int), l1.Pairwise (ltD d) → l2.Pairwise (ltD d) → (∀ x, x ∈ l1 ↔ x ∈ l2) → l1 = l2
  | [], [], _, _, _ => rfl
  | [], y :: l2, _, _, h => by have := (h y).2 (by simp); simp at this
  | x :: l1, [], _, _, h => by have := (h x).1 (by simp); simp at this
  | x :: l1, y :: l2, h1, h2, h => by
    have p1 := List.pairwise_cons.1 h1
    have p2 := List.pairwise_cons.1 h2
    have hxy : x = y := by
      have q1 := (h x).1 (by simp)
      have q2 := (h y).2 (by simp)
      rcases List.mem_cons.1 q1 with e | e
      · exact e
      rcases List.mem_cons.1 q2 with e2 | e2
      · exact e2.symm
      exact absurd (ltD_trans (p2.1 x e) (p1.1 y e2)) ltD_irrefl
    subst hxy
    congr 1
    refine sorted_uniq l1 l2 p1.2 p2.2 fun z => ⟨fun hz => ?_, fun hz => ?_⟩
    · rcases List.mem_cons.1 ((h z).1 (List.mem_cons_of_mem _ hz)) with e | e
      · subst e; exact absurd (p1.1 z hz) ltD_irrefl
      · exact e
    · rcases List.mem_cons.1 ((h z).2 (List.mem_cons_of_mem _ hz)) with e | e
      · subst e; exact absurd (p2.1 z hz) ltD_irrefl
      · exact e
/-- Sorted by falling degree, with all vertices. -/
structure LG (d : Int → Int) (n : Nat) (l : List Int) : Prop where
  pw : l.Pairwise (ltD d)
  mem : ∀ x, x ∈ l ↔ 0 ≤ x ∧ x < n
theorem LG.uniq {d : Int → Int} {n : Nat} {l l' : List Int} (h : LG d n l) (h' : LG d n l') : l = l' := sorted_uniq l l' h.pw h'.pw fun x => by rw [h.mem, h'.mem]
theorem gv_eq {l : List Int} {i : Nat} (h : i < l.length) : gv l i = l[i] := by simp [gv, List.getD_eq_getElem?_getD, List.getElem?_eq_getElem h]
theorem gv_take {l : List Int} {i n : Nat} (h : i < n) : gv (l.take n) i = gv l i := by
  unfold gv
  rw [List.getD_eq_getElem?_getD, List.getD_eq_getElem?_getD, List.getElem?_take_of_lt h]
theorem natL_mem {n : Nat} {x : Int} : x ∈ natL n ↔ 0 ≤ x ∧ x < n := by
  unfold natL
  rw [List.mem_map]
  constructor
  · rintro ⟨i, hi, rfl⟩; have := List.mem_range.1 hi; omega
  · rintro ⟨h1, h2⟩; exact ⟨x.toNat, List.mem_range.2 (by omega), by omega⟩
theorem lg_of {d : Int → Int} {es gs : List Int} {n : Nat} (hn : n ≤ es.length) (he : es.take n = natL n) (hs : Sm es gs 0 n) (hd : Sd d gs 0 n) : LG d n (gs.take n) := by
  have hl : (gs.take n).length = n := by rw [List.length_take, hs.len]; omega
  have hi : ∀ i, i < n → gv es i = i := fun i h => by rw [← gv_take h, he, natL_get h]
  refine ⟨List.pairwise_iff_getElem.2 fun i j h1 h2 h3 => ?_, fun x => ?_⟩
  · rw [← gv_eq h1, ← gv_eq h2, gv_take (by omega), gv_take (by omega)]
    exact hd i j (by omega) h3 (by omega)
  · constructor
    · intro h
      obtain ⟨i, h1, e⟩ := List.getElem_of_mem h
      rw [← gv_eq h1, gv_take (by omega)] at e
      obtain ⟨j, j1, j2, e2⟩ := hs.to i (Nat.zero_le _) (by omega)
      rw [e2, hi j j2] at e
      omega
    · rintro ⟨h1, h2⟩
      obtain ⟨j, j1, j2, e2⟩ := hs.fro x.toNat (Nat.zero_le _) (by omega)
      rw [hi _ (by omega), ← gv_take j2] at e2
      rw [show x = gv (gs.take n) j by omega, gv_eq (by omega)]
      exact List.getElem_mem _
/-- One degree's vertices below k. -/
def lgRow (d : Int → Int) (e : Int) (k : Nat) : List Int := (natL k).filter (fun v => decide (d v = e))
theorem lgRow_succ {d : Int → Int} {e : Int} {k : Nat} : lgRow d e (k + 1) = if d k = e then lgRow d e k ++ [(k : Int)] else lgRow d e k := by
  unfold lgRow
  rw [natL_succ, List.filter_append, List.filter_cons, List.filter_nil]
  by_cases c : d k = e
  · rw [if_pos c, if_pos (decide_eq_true c)]
  · rw [if_neg c, if_neg (by simpa using c), List.append_nil]
/-- The first k degrees from n downward. -/
def lgK (d : Int → Int) (n : Nat) : Nat → List Int
  | 0 => []
  | k + 1 => lgK d n k ++ lgRow d ((n : Int) - k) n
theorem lgRow_mem {d : Int → Int} {e : Int} {k : Nat} {x : Int} : x ∈ lgRow d e k ↔ (0 ≤ x ∧ x < k) ∧ d x = e := by
  unfold lgRow
  rw [List.mem_filter, natL_mem, decide_eq_true_eq]
theorem lgK_mem {d : Int → Int} {n : Nat} {x : Int} : ∀ k, x ∈ lgK d n k ↔ (0 ≤ x ∧ x < n) ∧ (n : Int) - k < d x ∧ d x ≤ n
  | 0 => by simp only [lgK, List.not_mem_nil, false_iff]; omega
  | k + 1 => by
    rw [lgK, List.mem_append, lgK_mem k, lgRow_mem]
    omega
theorem natL_pw {k : Nat} : (natL k).Pairwise (· < ·) := by
  unfold natL
  rw [List.pairwise_map]
  exact List.Pairwise.imp (fun h => by omega) List.pairwise_lt_range
theorem lgRow_pw {d : Int → Int} {e : Int} {k : Nat} : (lgRow d e k).Pairwise (ltD d) := by
  have h1 : (lgRow d e k).Pairwise (· < ·) := List.Pairwise.filter _ natL_pw
  refine List.Pairwise.imp_of_mem (fun {a b} ha hb hab => ?_) h1
  have h2 := (lgRow_mem.1 ha).2
  have h3 := (lgRow_mem.1 hb).2
  exact .inr ⟨by omega, hab⟩
theorem lgK_pw {d : Int → Int} {n : Nat} : ∀ k, (lgK d n k).Pairwise (ltD d)
  | 0 => .nil
  | k + 1 => by
    rw [lgK]
    refine List.pairwise_append.2 ⟨lgK_pw k, lgRow_pw, fun x hx y hy => ?_⟩
    have h1 := (lgK_mem k).1 hx
    have h2 := lgRow_mem.1 hy
    exact .inl (by omega)
def lgL (st cs : List Int) (n : Nat) : List Int := lgK (degI st cs) n (n + 1)
theorem lgL_ok {st cs : List Int} {n : Nat} (hm : mayP n n st cs) : LG (degI st cs) n (lgL st cs n) := by
  refine ⟨lgK_pw _, fun x => ?_⟩
  unfold lgL
  rw [lgK_mem]
  constructor
  · exact fun h => h.1
  · intro h
    refine ⟨h, ?_⟩
    have := row_len hm (v := x.toNat) (by omega)
    unfold degI
    omega
theorem nodup_natL {n : Nat} : (natL n).Nodup := List.Pairwise.imp (fun {a b} hab e => by subst e; omega) natL_pw
theorem LG.nodup {d : Int → Int} {n : Nat} {l : List Int} (h : LG d n l) : l.Nodup := List.Pairwise.imp (fun {a b} hab e => by subst e; exact ltD_irrefl hab) h.pw
theorem lg_len {d : Int → Int} {n : Nat} {l : List Int} (h : LG d n l) : l.length = n := by
  have := ((List.perm_ext_iff_of_nodup h.nodup nodup_natL).2 fun x => by rw [h.mem, natL_mem]).length_eq
  rw [this, natL_len]
theorem lgRow_len {d : Int → Int} {e : Int} {k : Nat} : (lgRow d e k).length ≤ k := by
  have := List.length_filter_le (fun v => decide (d v = e)) (natL k)
  rw [natL_len] at this
  exact this
theorem lgK_len {d : Int → Int} {n : Nat} : ∀ k, (lgK d n k).length ≤ k * n
  | 0 => by simp [lgK]
  | k + 1 => by
    have h1 := lgK_len (d := d) (n := n) k
    have h2 := lgRow_len (d := d) (e := (n : Int) - k) (k := n)
    rw [lgK, List.length_append, Nat.succ_mul]
    omega
theorem cmp_lg {n : Nat} {st cs : List Int} (hb : st.length < 1000000000) (hb2 : cs.length < 1000000000) (hm : mayP n n st cs) {pid : Nat} : Cmp pid (patO n n st cs) n (degI st cs) := by
  intro x y h Q hh hx hy hq
  refine lcmp_c n n st cs hb hb2 hm hx hy hh (hq _ ?_)
  unfold cmpI degI
  split
  · omega
  · split <;> omega
set_option maxRecDepth 100000 in
theorem rlar_c (n : Nat) (hn : n ≤ 128) (st cs : List Int) (hb : st.length < 1000000000) (hb2 : cs.length < 1000000000) (hm : mayP n n st cs) : ACalls Tryz.prog 92 [pat n n st cs] [] fun v h => OFz h v (ints (lgL st cs n)) := by
  refine (wp92 rfl rfl ?_)
  simp (maxSteps := 4000000) only [↓packA, ↓reduceIte, packB, pureOp, quietOp, loadOp, quietB, fr0, cellsK, implies_true, ite_true, ite_false, eq_self, ne_eq, reduceCtorEq, Nat.reduceLT, Nat.reduceLeDiff, Nat.reduceAdd, Nat.reduceMul, Nat.reduceBEq, Nat.reduceEqDiff, Int.reduceToNat, Int.reduceLT, Int.reduceLE, Nat.reduceSub, pl92, ft1, ft3, ft22, ft24, ints]
  refine LoopK.intro (fun m a g => ∃ (k : Nat) (x : AV), m = n + 1 - k ∧ k ≤ n + 1 ∧ BC (fun i => i = 0) g x (lgK (degI st cs) n k) ∧ g[0]? = some (patO n n st cs) ∧ a 1 = .op 0 4 0 0 ∧ a 3 = x ∧ a 4 = .int .i64 ((n : Int) - k)) (n + 1) ⟨0, .nils, rfl, Nat.zero_le _, .inl ⟨rfl, rfl⟩, ?_⟩ ?_
  · simp (maxSteps := 4000000) only [↓packA, ↓reduceIte, packB, pureOp, quietOp, loadOp, quietB, fr0, cellsK, implies_true, ite_true, ite_false, eq_self, ne_eq, reduceCtorEq, Nat.reduceLT, Nat.reduceLeDiff, Nat.reduceAdd, Nat.reduceMul, Nat.reduceBEq, Nat.reduceEqDiff, Int.reduceToNat, Int.reduceLT, Int.reduceLE, Nat.reduceSub, pl92, ft1, ft3, ft22, ft24, patO, ints]
    omega
  rintro m a g ⟨k, x, rfl, hk, hb1, g0, a1, a3, a4⟩
  unfold patO ints at g0
  by_cases r : k ≤ n
  · have r1 : (n : Int) - (k : Int) ≥ 0 := by omega
    simp (maxSteps := 4000000) only [↓packA, ↓reduceIte, packB, pureOp, quietOp, loadOp, quietB, fr0, cellsK, implies_true, ite_true, ite_false, eq_self, ne_eq, reduceCtorEq, Nat.reduceLT, Nat.reduceLeDiff, Nat.reduceAdd, Nat.reduceMul, Nat.reduceBEq, Nat.reduceEqDiff, Int.reduceToNat, Int.reduceLT, Int.reduceLE, Nat.reduceSub, pl92, ft1, ft3, ft22, ft24, a1, a3, a4, r1, g0]
    refine LoopK.intro (fun m a g => ∃ (v : Nat) (x : AV), m = n - v ∧ v ≤ n ∧ BC (fun i => i = 0) g x (lgK (degI st cs) n k ++ lgRow (degI st cs) ((n : Int) - k) v) ∧ g[0]? = some (patO n n st cs) ∧ a 1 = .op 0 4 0 0 ∧ a 3 = x ∧ a 4 = .int .i64 ((n : Int) - k) ∧ a 5 = .int .i64 v) n ⟨0, x, rfl, Nat.zero_le _, ?_, g0, ?_⟩ ?_
    · rw [show lgRow (degI st cs) ((n : Int) - k) 0 = [] from rfl, List.append_nil]; exact hb1
    · simp (maxSteps := 4000000) only [↓packA, ↓reduceIte, packB, pureOp, quietOp, loadOp, quietB, fr0, cellsK, implies_true, ite_true, ite_false, eq_self, ne_eq, reduceCtorEq, Nat.reduceLT, Nat.reduceLeDiff, Nat.reduceAdd, Nat.reduceMul, Nat.reduceBEq, Nat.reduceEqDiff, Int.reduceToNat, Int.reduceLT, Int.reduceLE, Nat.reduceSub, pl92, ft1, ft3, ft22, ft24, a1, a3, a4, Int.natCast_zero]
    clear hb1 g0 a1 a3 a4 x
    rintro m a g ⟨v, x, rfl, hv, hb1, g0, a1, a3, a4, a5⟩
    unfold patO ints at g0
    obtain ⟨M, hM⟩ : ∃ M, g.length = M := ⟨_, rfl⟩
    have l0 : 0 < M := by rw [← hM]; exact (List.getElem?_eq_some_iff.1 g0).1
    have rM : ∀ o, (g ++ [o])[M]? = some o := fun o => by rw [List.getElem?_append_right (by omega)]; simp [hM]
    by_cases r2 : v < n
    · have r3 : (v : Int) < (n : Int) := by omega
      simp (maxSteps := 4000000) only [↓packA, ↓reduceIte, packB, pureOp, quietOp, loadOp, quietB, fr0, cellsK, implies_true, ite_true, ite_false, eq_self, ne_eq, reduceCtorEq, Nat.reduceLT, Nat.reduceLeDiff, Nat.reduceAdd, Nat.reduceMul, Nat.reduceBEq, Nat.reduceEqDiff, Int.reduceToNat, Int.reduceLT, Int.reduceLE, Nat.reduceSub, pl92, ft1, ft3, ft22, ft24, a1, a3, a4, a5, g0, r3]
      refine acalls_pure (rneigh_c n n st cs hb hb2 hm v (by omega) (by omega)) rfl ?_
      by_cases c : degI st cs v = (n : Int) - k
      · have c1 : ((rowOf st cs v).length : Int) = (n : Int) - (k : Int) := by unfold degI at c; rw [Int.toNat_natCast] at c; exact c
        simp (maxSteps := 4000000) only [↓packA, ↓reduceIte, packB, pureOp, quietOp, loadOp, quietB, fr0, cellsK, implies_true, ite_true, ite_false, eq_self, ne_eq, reduceCtorEq, Nat.reduceLT, Nat.reduceLeDiff, Nat.reduceAdd, Nat.reduceMul, Nat.reduceBEq, Nat.reduceEqDiff, Int.reduceToNat, Int.reduceLT, Int.reduceLE, Nat.reduceSub, pl92, ft1, ft3, ft22, ft24, ints, a1, a3, a4, a5, g0, r3, c1, hM, rM]
        refine push_bc (F := fun i => i = 0) (fun i hi => by simp [hM]; omega) hb1.app ?_ fun x' G hcx hl' hf' hb' => ?_
        · have h1 := lgK_len (d := degI st cs) (n := n) k
          have h2 := lgRow_len (d := degI st cs) (e := (n : Int) - k) (k := v)
          have h3 : k * n ≤ 129 * 128 := Nat.mul_le_mul (by omega) hn
          rw [List.length_append]
          omega
        obtain ⟨xi, xl, xc, xe, rfl⟩ := hcx
        simp (maxSteps := 4000000) only [↓packA, ↓reduceIte, packB, pureOp, quietOp, loadOp, quietB, fr0, cellsK, implies_true, ite_true, ite_false, eq_self, ne_eq, reduceCtorEq, Nat.reduceLT, Nat.reduceLeDiff, Nat.reduceAdd, Nat.reduceMul, Nat.reduceBEq, Nat.reduceEqDiff, Int.reduceToNat, Int.reduceLT, Int.reduceLE, Nat.reduceSub, pl92, ft1, ft3, ft22, ft24, a1, a3, a4, a5]
        refine ⟨by omega, .inl ⟨n - (v + 1), by omega, v + 1, .osl xi 1 0 xl xc xe, rfl, by omega, ?_, ?_, rfl, by omega⟩⟩
        · rw [lgRow_succ, if_pos c, ← List.append_assoc]; exact hb'
        · rw [hf' 0 rfl, List.getElem?_append_left (by omega), g0]; rfl
      · have c1 : ¬ ((rowOf st cs v).length : Int) = (n : Int) - (k : Int) := by unfold degI at c; rw [Int.toNat_natCast] at c; exact c
        simp (maxSteps := 4000000) only [↓packA, ↓reduceIte, packB, pureOp, quietOp, loadOp, quietB, fr0, cellsK, implies_true, ite_true, ite_false, eq_self, ne_eq, reduceCtorEq, Nat.reduceLT, Nat.reduceLeDiff, Nat.reduceAdd, Nat.reduceMul, Nat.reduceBEq, Nat.reduceEqDiff, Int.reduceToNat, Int.reduceLT, Int.reduceLE, Nat.reduceSub, pl92, ft1, ft3, ft22, ft24, ints, a1, a3, a4, a5, g0, r3, c1]
        refine ⟨by omega, .inl ⟨n - (v + 1), by omega, v + 1, x, rfl, by omega, ?_, rfl, rfl, by omega⟩⟩
        rw [lgRow_succ, if_neg c]; exact hb1
    · have r3 : ¬ (v : Int) < (n : Int) := by omega
      simp (maxSteps := 4000000) only [↓packA, ↓reduceIte, packB, pureOp, quietOp, loadOp, quietB, fr0, cellsK, implies_true, ite_true, ite_false, eq_self, ne_eq, reduceCtorEq, Nat.reduceLT, Nat.reduceLeDiff, Nat.reduceAdd, Nat.reduceMul, Nat.reduceBEq, Nat.reduceEqDiff, Int.reduceToNat, Int.reduceLT, Int.reduceLE, Nat.reduceSub, pl92, ft1, ft3, ft22, ft24, a1, a3, a4, a5, g0, r3]
      obtain rfl : v = n := by omega
      exact ⟨by omega, .inl ⟨v + 1 - (k + 1), by omega, k + 1, x, rfl, by omega, hb1, rfl, rfl, by omega⟩⟩
  · have r1 : ¬ (n : Int) - (k : Int) ≥ 0 := by omega
    simp (maxSteps := 4000000) only [↓packA, ↓reduceIte, packB, pureOp, quietOp, loadOp, quietB, fr0, cellsK, implies_true, ite_true, ite_false, eq_self, ne_eq, reduceCtorEq, Nat.reduceLT, Nat.reduceLeDiff, Nat.reduceAdd, Nat.reduceMul, Nat.reduceBEq, Nat.reduceEqDiff, Int.reduceToNat, Int.reduceLT, Int.reduceLE, Nat.reduceSub, pl92, ft1, ft3, ft22, ft24, a1, a3, a4, r1, g0]
    obtain rfl : k = n + 1 := by omega
    exact bc_ofz hb1
set_option maxRecDepth 100000 in
theorem stable_nil {h : Heap} {fv : AV} {Q : AV → Heap → Prop} (hq : Q (.tup []) h) : ACalls Tryz.prog 99 [.nils, .int .i64 0, fv] h Q := by
  refine wp99 rfl rfl ?_
  simp (maxSteps := 4000000) only [↓packA, ↓reduceIte, packB, pureOp, quietOp, loadOp, quietB, fr0, cellsK, implies_true, ite_true, ite_false, eq_self, ne_eq, reduceCtorEq, Nat.reduceLT, Nat.reduceLeDiff, Nat.reduceAdd, Nat.reduceMul, Nat.reduceBEq, Nat.reduceEqDiff, Int.reduceToNat, Int.reduceLT, Int.reduceLE, Nat.reduceSub, pl99, ft3, ft22, ft94, Int.cast_ofNat_Int, Int.natCast_zero, Int.natCast_one, Int.reduceAdd, Int.reduceSub, Int.reduceNeg, Int.reduceMul, Int.reduceToNat, Int.reduceLT, Int.reduceLE, Int.reduceEq, Int.reduceBEq, Int.reduceBNe, Nat.reduceSub, Nat.reduceLT, List.getD_cons_zero, List.getD_cons_succ, List.length_singleton, Bool.and_true, Bool.and_false]
  refine LoopN.loop 1 ?_
  simp (maxSteps := 4000000) only [↓packA, ↓reduceIte, packB, pureOp, quietOp, loadOp, quietB, fr0, cellsK, implies_true, ite_true, ite_false, eq_self, ne_eq, reduceCtorEq, Nat.reduceLT, Nat.reduceLeDiff, Nat.reduceAdd, Nat.reduceMul, Nat.reduceBEq, Nat.reduceEqDiff, Int.reduceToNat, Int.reduceLT, Int.reduceLE, Nat.reduceSub, pl99, ft3, ft22, ft94, ↓LoopN_succ, Int.cast_ofNat_Int, Int.natCast_zero, Int.natCast_one, Int.reduceAdd, Int.reduceSub, Int.reduceNeg, Int.reduceMul, Int.reduceToNat, Int.reduceLT, Int.reduceLE, Int.reduceEq, Int.reduceBEq, Int.reduceBNe, Nat.reduceSub, Nat.reduceLT, List.getD_cons_zero, List.getD_cons_succ, List.length_singleton, Bool.and_true, Bool.and_false]
  refine wp106 rfl rfl ?_
  simp (maxSteps := 4000000) only [↓packA, ↓reduceIte, packB, pureOp, quietOp, loadOp, quietB, fr0, cellsK, implies_true, ite_true, ite_false, eq_self, ne_eq, reduceCtorEq, Nat.reduceLT, Nat.reduceLeDiff, Nat.reduceAdd, Nat.reduceMul, Nat.reduceBEq, Nat.reduceEqDiff, Int.reduceToNat, Int.reduceLT, Int.reduceLE, Nat.reduceSub, pl106, ft3, ft22, pl99, ft94, Int.cast_ofNat_Int, Int.natCast_zero, Int.natCast_one, Int.reduceAdd, Int.reduceSub, Int.reduceNeg, Int.reduceMul, Int.reduceToNat, Int.reduceLT, Int.reduceLE, Int.reduceEq, Int.reduceBEq, Int.reduceBNe, Nat.reduceSub, Nat.reduceLT, List.getD_cons_zero, List.getD_cons_succ, List.length_singleton, Bool.and_true, Bool.and_false]
  refine LoopN.loop 1 ?_
  simp (maxSteps := 4000000) only [↓packA, ↓reduceIte, packB, pureOp, quietOp, loadOp, quietB, fr0, cellsK, implies_true, ite_true, ite_false, eq_self, ne_eq, reduceCtorEq, Nat.reduceLT, Nat.reduceLeDiff, Nat.reduceAdd, Nat.reduceMul, Nat.reduceBEq, Nat.reduceEqDiff, Int.reduceToNat, Int.reduceLT, Int.reduceLE, Nat.reduceSub, pl106, ft3, ft22, pl99, ft94, ↓LoopN_succ, Int.cast_ofNat_Int, Int.natCast_zero, Int.natCast_one, Int.reduceAdd, Int.reduceSub, Int.reduceNeg, Int.reduceMul, Int.reduceToNat, Int.reduceLT, Int.reduceLE, Int.reduceEq, Int.reduceBEq, Int.reduceBNe, Nat.reduceSub, Nat.reduceLT, List.getD_cons_zero, List.getD_cons_succ, List.length_singleton, Bool.and_true, Bool.and_false]
  refine LoopN.loop 1 ?_
  simp (maxSteps := 4000000) only [↓packA, ↓reduceIte, packB, pureOp, quietOp, loadOp, quietB, fr0, cellsK, implies_true, ite_true, ite_false, eq_self, ne_eq, reduceCtorEq, Nat.reduceLT, Nat.reduceLeDiff, Nat.reduceAdd, Nat.reduceMul, Nat.reduceBEq, Nat.reduceEqDiff, Int.reduceToNat, Int.reduceLT, Int.reduceLE, Nat.reduceSub, pl106, ft3, ft22, pl99, ft94, ↓LoopN_succ, Int.cast_ofNat_Int, Int.natCast_zero, Int.natCast_one, Int.reduceAdd, Int.reduceSub, Int.reduceNeg, Int.reduceMul, Int.reduceToNat, Int.reduceLT, Int.reduceLE, Int.reduceEq, Int.reduceBEq, Int.reduceBNe, Nat.reduceSub, Nat.reduceLT, List.getD_cons_zero, List.getD_cons_succ, List.length_singleton, Bool.and_true, Bool.and_false]
  exact hq
set_option maxRecDepth 100000 in
theorem lar_at (n : Nat) (hn : n ≤ 128) (st cs : List Int) (hb : st.length < 1000000000) (hb2 : cs.length < 1000000000) (hm : mayP n n st cs) {h : Heap} {xs : AV} {Q : AV → Heap → Prop}
    (hq : ∀ x h', BC (fun _ => False) h' x (lgL st cs n) → Q (.tup [x, .int .i64 0]) h') : ACalls Tryz.prog 54 [pat n n st cs, xs] h Q := by
  obtain ⟨N, hN⟩ : ∃ N, h.length = N := ⟨_, rfl⟩
  have rN : ∀ o, (h ++ [o])[N]? = some o := fun o => by rw [List.getElem?_append_right (by omega)]; simp [hN]
  refine (wp54 rfl rfl ?_)
  simp (maxSteps := 4000000) only [↓packA, ↓reduceIte, packB, pureOp, quietOp, loadOp, quietB, fr0, cellsK, implies_true, ite_true, ite_false, eq_self, ne_eq, reduceCtorEq, Nat.reduceLT, Nat.reduceLeDiff, Nat.reduceAdd, Nat.reduceMul, Nat.reduceBEq, Nat.reduceEqDiff, Int.reduceToNat, Int.reduceLT, Int.reduceLE, Nat.reduceSub, pl54, ft3, ft22, ft24, ft94, ints, hN, rN]
  refine nat_at n hn st cs (F := fun i => i = N) (fun i hi => by simp [hN]; omega) fun x g hl hf hB => ?_
  have gN : g[N]? = some (patO n n st cs) := by rw [hf N rfl, rN]; rfl
  simp (maxSteps := 4000000) only [↓packA, ↓reduceIte, packB, pureOp, quietOp, loadOp, quietB, fr0, cellsK, implies_true, ite_true, ite_false, eq_self, ne_eq, reduceCtorEq, Nat.reduceLT, Nat.reduceLeDiff, Nat.reduceAdd, Nat.reduceMul, Nat.reduceBEq, Nat.reduceEqDiff, Int.reduceToNat, Int.reduceLT, Int.reduceLE, Nat.reduceSub, pl54, ft3, ft22, ft24, ft94]
  refine (wp83 rfl rfl ?_)
  rcases hB with ⟨rfl, e⟩ | ⟨id, len, cap, ex, es, ex', rfl, q1, q2, q3, q4, q5, q6⟩
  · have hn0 : n = 0 := by rw [← natL_len (n := n), e]; rfl
    subst hn0
    simp (maxSteps := 4000000) only [↓packA, ↓reduceIte, packB, pureOp, quietOp, loadOp, quietB, fr0, cellsK, implies_true, ite_true, ite_false, eq_self, ne_eq, reduceCtorEq, Nat.reduceLT, Nat.reduceLeDiff, Nat.reduceAdd, Nat.reduceMul, Nat.reduceBEq, Nat.reduceEqDiff, Int.reduceToNat, Int.reduceLT, Int.reduceLE, Nat.reduceSub, pl83, ft3, ft22, ft94, pl54, ft24, Int.cast_ofNat_Int, Int.natCast_zero, Int.natCast_one, Int.reduceAdd, Int.reduceSub, Int.reduceNeg, Int.reduceMul, Int.reduceToNat, Int.reduceLT, Int.reduceLE, Int.reduceEq, Int.reduceBEq, Int.reduceBNe, Nat.reduceSub, Nat.reduceLT, List.getD_cons_zero, List.getD_cons_succ, List.length_singleton, Bool.and_true, Bool.and_false]
    refine stable_nil ?_
    simp (maxSteps := 4000000) only [↓packA, ↓reduceIte, packB, pureOp, quietOp, loadOp, quietB, fr0, cellsK, implies_true, ite_true, ite_false, eq_self, ne_eq, reduceCtorEq, Nat.reduceLT, Nat.reduceLeDiff, Nat.reduceAdd, Nat.reduceMul, Nat.reduceBEq, Nat.reduceEqDiff, Int.reduceToNat, Int.reduceLT, Int.reduceLE, Nat.reduceSub, pl83, ft3, ft22, ft94, pl54, ft24, Int.cast_ofNat_Int, Int.natCast_zero, Int.natCast_one, Int.reduceAdd, Int.reduceSub, Int.reduceNeg, Int.reduceMul, Int.reduceToNat, Int.reduceLT, Int.reduceLE, Int.reduceEq, Int.reduceBEq, Int.reduceBNe, Nat.reduceSub, Nat.reduceLT, List.getD_cons_zero, List.getD_cons_succ, List.length_singleton, Bool.and_true, Bool.and_false]
    exact hq _ _ (.inl ⟨rfl, List.length_eq_zero_iff.1 (lg_len (lgL_ok hm))⟩)
  · have hlen : len = n := by
      have := congrArg List.length q6
      rw [natL_len, List.length_take] at this
      omega
    subst hlen
    simp (maxSteps := 4000000) only [↓packA, ↓reduceIte, packB, pureOp, quietOp, loadOp, quietB, fr0, cellsK, implies_true, ite_true, ite_false, eq_self, ne_eq, reduceCtorEq, Nat.reduceLT, Nat.reduceLeDiff, Nat.reduceAdd, Nat.reduceMul, Nat.reduceBEq, Nat.reduceEqDiff, Int.reduceToNat, Int.reduceLT, Int.reduceLE, Nat.reduceSub, pl83, ft3, ft22, ft94, pl54, ft24]
    refine stable_c (cmp_lg hb hb2 hm) (es := es) (by omega) q2 gN q1 (by omega) (Nat.le_refl _) (fun i i1 i2 => ?_) (fun i j i1 i2 i3 => ?_) fun gs hs hd => ?_
    · rw [← gv_take i2, q6, natL_get i2]; omega
    · rw [← gv_take (show i < len by omega), ← gv_take i3, q6, natL_get (by omega), natL_get i3]; omega
    · simp (maxSteps := 4000000) only [↓packA, ↓reduceIte, packB, pureOp, quietOp, loadOp, quietB, fr0, cellsK, implies_true, ite_true, ite_false, eq_self, ne_eq, reduceCtorEq, Nat.reduceLT, Nat.reduceLeDiff, Nat.reduceAdd, Nat.reduceMul, Nat.reduceBEq, Nat.reduceEqDiff, Int.reduceToNat, Int.reduceLT, Int.reduceLE, Nat.reduceSub, pl83, ft3, ft22, ft94, pl54, ft24]
      have hlg := lg_of (by omega) q6 hs hd
      have hlt : id < g.length := (List.getElem?_eq_some_iff.1 q2).1
      exact hq _ _ (.inr ⟨id, len, cap, ex, gs, ex', rfl, fun h => h, List.getElem?_set_self hlt, q3, by rw [hs.len]; exact q4, q5, hlg.uniq (lgL_ok hm)⟩)
end Go.Proofs.YtgdlkhgfehclpaaGreat
end

section
/- Answers behind other objects; the order of incidence: plain part. No condition. -/
namespace Go.AL
open Go
set_option linter.unusedVariables false
set_option linter.unusedSimpArgs false
mutual
theorem flat_ren (ρ : Nat → Option Nat) : ∀ u : AV, u.flat = true → u.ren ρ = u
  | .int .., _ => rfl
  | .bool _, _ => rfl
  | .str _, _ => rfl
  | .flt .., _ => rfl
  | .nilp, _ => rfl
  | .nils, _ => rfl
  | .nilf, _ => rfl
  | .nili, _ => rfl
  | .nilm, _ => rfl
  | .ip .., _ => rfl
  | .isl .., _ => rfl
  | .any, _ => rfl
  | .op .., h => by cases h
  | .osl .., h => by cases h
  | .om _, h => by cases h
  | .fn .., h => by cases h
  | .ifc .., h => by cases h
  | .agg cs, h => by simp only [AV.flat] at h; simp only [AV.ren, flats_ren ρ cs h]
  | .tup cs, h => by simp only [AV.flat] at h; simp only [AV.ren, flats_ren ρ cs h]
theorem flats_ren (ρ : Nat → Option Nat) : ∀ l : List AV, flats l = true → rens ρ l = l
  | [], _ => rfl
  | v :: r, h => by
    simp only [flats, Bool.and_eq_true] at h
    simp only [rens, flat_ren ρ v h.1, flats_ren ρ r h.2]
end
theorem rens_inv {ρ : Nat → Option Nat} : ∀ {l : List AV} {q : Nat} {u : AV}, (rens ρ l)[q]? = some u → ∃ v, l[q]? = some v ∧ u = v.ren ρ
  | [], q, u, h => by simp [rens] at h
  | v :: r, 0, u, h => by simp [rens] at h; exact ⟨v, rfl, h.symm⟩
  | v :: r, q + 1, u, h => by
    simp only [rens, List.getElem?_cons_succ] at h ⊢
    exact rens_inv h
theorem ofz_shift {h h0 : Heap} {u r : AV} (hz : OFz h0 u r) : OFz (behind h h0) (u.ren (sh h.length)) r := by
  induction hz with
  | flat u hf => rw [flat_ren _ u hf]; exact .flat u hf
  | nils k => exact .nils k
  | osl id k i len cap ex ex' es hid hl hf =>
    refine .osl (id + h.length) k i len cap ex ex' es ?_ hl hf
    unfold behind
    rw [List.getElem?_append_right (by omega), Nat.add_sub_cancel, List.getElem?_map, hid]
    simp only [Option.map_some, Ob.ren]
    congr 2
    refine (List.map_congr_left fun e he => ?_).trans (List.map_id es)
    exact flats_ren _ e (hf e he)
  | tup cs cs' hl _ ih =>
    refine .tup _ _ (by rw [rens_length]; exact hl) fun q u u' hu hu' => ?_
    obtain ⟨v, hv, rfl⟩ := rens_inv hu
    exact ih q v u' hv hu'
  | agg cs cs' hl _ ih =>
    refine .agg _ _ (by rw [rens_length]; exact hl) fun q u u' hu hu' => ?_
    obtain ⟨v, hv, rfl⟩ := rens_inv hu
    exact ih q v u' hv hu'
theorem acalls_ofz {P : Program} {f : FuncId} {args : List AV} {h : Heap} {V : AV} {Q : AV → Heap → Prop} (hc : ACalls P f args [] fun v h => OFz h v V) (ha : pures args = true) (hq : ∀ u h', OFz h' u V → (∀ i, i < h.length → h'[i]? = h[i]?) → Q u h') : ACalls P f args h Q :=
  acalls_shift hc ha fun u h0 hz => hq _ _ (ofz_shift hz) fun i hi => by unfold behind; exact List.getElem?_append_left hi
theorem ofz_pair {h : Heap} {u a b : AV} (hz : OFz h u (.tup [a, b])) : ∃ x y, u = .tup [x, y] ∧ OFz h x a ∧ OFz h y b := by
  cases hz with
  | flat _ hf =>
    simp only [AV.flat, flats, Bool.and_eq_true, Bool.and_true] at hf
    exact ⟨a, b, rfl, .flat _ hf.1, .flat _ hf.2⟩
  | tup cs _ hl hq =>
    match cs, hl with
    | [x, y], _ => exact ⟨x, y, rfl, hq 0 x a rfl rfl, hq 1 y b rfl rfl⟩
theorem ofz_int {h : Heap} {u : AV} {k : IntKind} {n : Int} (hz : OFz h u (.int k n)) : u = .int k n := by cases hz; rfl
end Go.AL
namespace Go.Proofs.YtgdlkhgfehclpaaGreat
open Go Go.AL
set_option linter.unusedVariables false
set_option linter.unusedSimpArgs false
/-- Does v come ahead of b? -/
def bts (st cs : List Int) (P : List Bool) (v b : Nat) : Prop := cnt st cs P b < cnt st cs P v ∨ (cnt st cs P v = cnt st cs P b ∧ (rowOf st cs b).length < (rowOf st cs v).length)
instance (st cs : List Int) (P : List Bool) (v b : Nat) : Decidable (bts st cs P v b) := by unfold bts; infer_instance
/-- The first below k of those that nobody beats; -1: there is none. -/
def bI (st cs : List Int) (P : List Bool) : Nat → Int
  | 0 => -1
  | k + 1 => if P.getD k false = false ∧ (bI st cs P k < 0 ∨ bts st cs P k (bI st cs P k).toNat) then k else bI st cs P k
theorem bI_in {st cs : List Int} {P : List Bool} : ∀ k, -1 ≤ bI st cs P k ∧ bI st cs P k < k
  | 0 => by simp [bI]
  | k + 1 => by
    have := bI_in (st := st) (cs := cs) (P := P) k
    simp only [bI]
    split <;> omega
theorem bI_neg {st cs : List Int} {P : List Bool} : ∀ k, bI st cs P k < 0 → ∀ v, v < k → P.getD v false = true
  | 0, _, v, h => by omega
  | k + 1, h, v, hv => by
    simp only [bI] at h
    split at h
    · omega
    · rename_i hc
      by_cases e : v = k
      · subst e
        cases hp : P.getD v false with
        | true => rfl
        | false => exact absurd ⟨hp, .inl h⟩ hc
      · exact bI_neg k h v (by omega)
theorem bI_pos {st cs : List Int} {P : List Bool} : ∀ k, 0 ≤ bI st cs P k → P.getD (bI st cs P k).toNat false = false ∧ ∀ v, v < k → P.getD v false = false → ¬ bts st cs P v (bI st cs P k).toNat
  | 0, h => by simp [bI] at h
  | k + 1, h => by
    simp only [bI] at h ⊢
    split
    · rename_i hc
      rw [Int.toNat_natCast]
      refine ⟨hc.1, fun v hv hp => ?_⟩
      by_cases e : v = k
      · subst e; unfold bts; omega
      by_cases hn : bI st cs P k < 0
      · have := bI_neg (st := st) (cs := cs) k hn v (by omega)
        rw [hp] at this; cases this
      · have h1 := (bI_pos (st := st) (cs := cs) (P := P) k (by omega)).2 v (by omega) hp
        have h2 := hc.2.resolve_left hn
        unfold bts at *
        omega
    · rename_i hc
      rw [if_neg hc] at h
      have h1 := bI_pos k h
      refine ⟨h1.1, fun v hv hp => ?_⟩
      by_cases e : v = k
      · subst e
        exact fun hb => hc ⟨hp, .inr hb⟩
      · exact h1.2 v (by omega) hp
structure IT where
  P : List Bool
  L : List Int
/-- What is put, and in which order, when k vertices have been put. -/
def ist (st cs : List Int) (n : Nat) : Nat → IT
  | 0 => ⟨List.replicate n false, []⟩
  | k + 1 => ⟨(ist st cs n k).P.set (bI st cs (ist st cs n k).P n).toNat true, (ist st cs n k).L ++ [bI st cs (ist st cs n k).P n]⟩
structure IstOK (n k : Nat) (t : IT) : Prop where
  pl : t.P.length = n
  ll : t.L.length = k
  mem : ∀ v : Nat, v < n → (t.P.getD v false = true ↔ (v : Int) ∈ t.L)
  nd : t.L.Nodup
  rng : ∀ x, x ∈ t.L → 0 ≤ x ∧ x < n
theorem ist_best {st cs : List Int} {n k : Nat} (h : IstOK n k (ist st cs n k)) (hk : k < n) : 0 ≤ bI st cs (ist st cs n k).P n := by
  by_cases hn : bI st cs (ist st cs n k).P n < 0
  · have h1 := bI_neg n hn
    have h2 : natL n ⊆ (ist st cs n k).L := fun x hx => by
      have := natL_mem.1 hx
      have := (h.mem x.toNat (by omega)).1 (h1 _ (by omega))
      rwa [show ((x.toNat : Nat) : Int) = x by omega] at this
    have h3 := List.Nodup.length_le_of_subset nodup_natL h2
    rw [natL_len, h.ll] at h3
    omega
  · omega
theorem ist_ok (st cs : List Int) (n : Nat) : ∀ k, k ≤ n → IstOK n k (ist st cs n k)
  | 0, _ => ⟨by simp [ist], rfl, fun v hv => by simp [ist, List.getD_eq_getElem?_getD, List.getElem?_replicate, hv], by simp [ist], fun x hx => by simp [ist] at hx⟩
  | k + 1, hk => by
    have h := ist_ok st cs n k (by omega)
    have hb := ist_best h (by omega)
    have hi := bI_in (st := st) (cs := cs) (P := (ist st cs n k).P) n
    have hp := (bI_pos n hb).1
    refine ⟨by simp [ist, h.pl], by simp [ist, h.ll], fun v hv => ?_, ?_, fun x hx => ?_⟩
    · simp only [ist]
      rw [getB_setT (by rw [h.pl]; omega), List.mem_append, List.mem_singleton]
      by_cases e : v = (bI st cs (ist st cs n k).P n).toNat
      · rw [if_pos e]; simp; omega
      · rw [if_neg e, h.mem v hv]
        constructor
        · exact .inl
        · rintro (h1 | h1)
          · exact h1
          · omega
    · simp only [ist]
      refine List.pairwise_append.2 ⟨h.nd, by simp, fun x hx y hy => ?_⟩
      rw [List.mem_singleton] at hy
      subst hy
      intro e
      have := (h.mem _ (show (bI st cs (ist st cs n k).P n).toNat < n by omega)).2 (by rw [show (((bI st cs (ist st cs n k).P n).toNat : Nat) : Int) = x by omega]; exact hx)
      rw [hp] at this; cases this
    · simp only [ist, List.mem_append, List.mem_singleton] at hx
      rcases hx with hx | hx
      · exact h.rng x hx
      · omega
def incL (st cs : List Int) (n : Nat) : List Int := (ist st cs n n).L
end Go.Proofs.YtgdlkhgfehclpaaGreat
end

section
/- The order of incidence, the document's. No condition. -/
namespace Go.Proofs.YtgdlkhgfehclpaaGreat
open Go Go.AL
set_option linter.unusedVariables false
set_option linter.unusedSimpArgs false
set_option maxRecDepth 100000 in
theorem ahead_c (n : Nat) (st cs : List Int) (S : List Bool) (hb : st.length < 1000000000) (hb2 : cs.length < 1000000000) (hm : mayP n n st cs) (hn : n ≤ 128) (v b : Nat) (hv : v < n) (hbn : b < n) (hS : S.length = n) : APure Tryz.prog 104 [pat n n st cs, .int .i64 v, .int .i64 b, bools S] (.bool (decide (bts st cs S v b))) := by
  refine apure_of (wp104 rfl rfl ?_)
  simp (maxSteps := 4000000) only [↓packA, ↓reduceIte, packB, pureOp, quietOp, loadOp, quietB, fr0, cellsK, implies_true, ite_true, ite_false, eq_self, ne_eq, reduceCtorEq, Nat.reduceLT, Nat.reduceLeDiff, Nat.reduceAdd, Nat.reduceMul, Nat.reduceBEq, Nat.reduceEqDiff, Int.reduceToNat, Int.reduceLT, Int.reduceLE, Nat.reduceSub, pl104, ft3, ft4, ft22, ft24, ft96, ints]
  refine acalls_pure (among_c n st cs S hb hb2 hm hn v hv hS) rfl ?_
  simp (maxSteps := 4000000) only [↓packA, ↓reduceIte, packB, pureOp, quietOp, loadOp, quietB, fr0, cellsK, implies_true, ite_true, ite_false, eq_self, ne_eq, reduceCtorEq, Nat.reduceLT, Nat.reduceLeDiff, Nat.reduceAdd, Nat.reduceMul, Nat.reduceBEq, Nat.reduceEqDiff, Int.reduceToNat, Int.reduceLT, Int.reduceLE, Nat.reduceSub, pl104, ft3, ft4, ft22, ft24, ft96, ints]
  refine acalls_pure (among_c n st cs S hb hb2 hm hn b hbn hS) rfl ?_
  by_cases c1 : cnt st cs S b < cnt st cs S v
  · have f1 : ((cnt st cs S b : Nat) : Int) < ((cnt st cs S v : Nat) : Int) := by omega
    simp (maxSteps := 4000000) only [↓packA, ↓reduceIte, packB, pureOp, quietOp, loadOp, quietB, fr0, cellsK, implies_true, ite_true, ite_false, eq_self, ne_eq, reduceCtorEq, Nat.reduceLT, Nat.reduceLeDiff, Nat.reduceAdd, Nat.reduceMul, Nat.reduceBEq, Nat.reduceEqDiff, Int.reduceToNat, Int.reduceLT, Int.reduceLE, Nat.reduceSub, pl104, ft3, ft4, ft22, ft24, ft96, ints, f1]
    rw [decide_eq_true (show bts st cs S v b from .inl c1)]
    exact .pure _ rfl
  · have f1 : ¬ ((cnt st cs S b : Nat) : Int) < ((cnt st cs S v : Nat) : Int) := by omega
    by_cases c2 : cnt st cs S v = cnt st cs S b
    · have f2 : ((cnt st cs S v : Nat) : Int) = ((cnt st cs S b : Nat) : Int) := by omega
      rw [f2] at f1
      simp (maxSteps := 4000000) only [↓packA, ↓reduceIte, packB, pureOp, quietOp, loadOp, quietB, fr0, cellsK, implies_true, ite_true, ite_false, eq_self, ne_eq, reduceCtorEq, Nat.reduceLT, Nat.reduceLeDiff, Nat.reduceAdd, Nat.reduceMul, Nat.reduceBEq, Nat.reduceEqDiff, Int.reduceToNat, Int.reduceLT, Int.reduceLE, Nat.reduceSub, pl104, ft3, ft4, ft22, ft24, ft96, ints, f1, f2]
      refine acalls_pure (rneigh_c n n st cs hb hb2 hm v (by omega) (by omega)) rfl ?_
      simp (maxSteps := 4000000) only [↓packA, ↓reduceIte, packB, pureOp, quietOp, loadOp, quietB, fr0, cellsK, implies_true, ite_true, ite_false, eq_self, ne_eq, reduceCtorEq, Nat.reduceLT, Nat.reduceLeDiff, Nat.reduceAdd, Nat.reduceMul, Nat.reduceBEq, Nat.reduceEqDiff, Int.reduceToNat, Int.reduceLT, Int.reduceLE, Nat.reduceSub, pl104, ft3, ft4, ft22, ft24, ft96, ints, f1, f2]
      refine acalls_pure (rneigh_c n n st cs hb hb2 hm b (by omega) (by omega)) rfl ?_
      simp (maxSteps := 4000000) only [↓packA, ↓reduceIte, packB, pureOp, quietOp, loadOp, quietB, fr0, cellsK, implies_true, ite_true, ite_false, eq_self, ne_eq, reduceCtorEq, Nat.reduceLT, Nat.reduceLeDiff, Nat.reduceAdd, Nat.reduceMul, Nat.reduceBEq, Nat.reduceEqDiff, Int.reduceToNat, Int.reduceLT, Int.reduceLE, Nat.reduceSub, pl104, ft3, ft4, ft22, ft24, ft96, ints, f1, f2]
      rw [show (decide (bts st cs S v b)) = decide (((rowOf st cs b).length : Int) < (rowOf st cs v).length) from decide_eq_decide.2 ⟨fun h => by unfold bts at h; omega, fun h => by unfold bts; omega⟩]
      exact .pure _ rfl
    · have f2 : ¬ ((cnt st cs S v : Nat) : Int) = ((cnt st cs S b : Nat) : Int) := by omega
      simp (maxSteps := 4000000) only [↓packA, ↓reduceIte, packB, pureOp, quietOp, loadOp, quietB, fr0, cellsK, implies_true, ite_true, ite_false, eq_self, ne_eq, reduceCtorEq, Nat.reduceLT, Nat.reduceLeDiff, Nat.reduceAdd, Nat.reduceMul, Nat.reduceBEq, Nat.reduceEqDiff, Int.reduceToNat, Int.reduceLT, Int.reduceLE, Nat.reduceSub, pl104, ft3, ft4, ft22, ft24, ft96, ints, f1, f2]
      rw [decide_eq_false (show ¬ bts st cs S v b by unfold bts; omega)]
      exact .pure _ rfl
def F01 : Nat → Prop := fun i => i = 0 ∨ i = 1
set_option maxRecDepth 100000 in
theorem rinc_c (n : Nat) (hn : n ≤ 128) (st cs : List Int) (hb : st.length < 1000000000) (hb2 : cs.length < 1000000000) (hm : mayP n n st cs) : ACalls Tryz.prog 94 [pat n n st cs] [] fun v h => OFz h v (ints (incL st cs n)) := by
  refine (wp94 rfl rfl ?_)
  simp (maxSteps := 4000000) only [↓packA, ↓reduceIte, packB, pureOp, quietOp, loadOp, quietB, fr0, cellsK, implies_true, ite_true, ite_false, eq_self, ne_eq, reduceCtorEq, Nat.reduceLT, Nat.reduceLeDiff, Nat.reduceAdd, Nat.reduceMul, Nat.reduceBEq, Nat.reduceEqDiff, Int.reduceToNat, Int.reduceLT, Int.reduceLE, Nat.reduceSub, pl94, ft1, ft3, ft4, ft22, ft24, ft96, ints]
  refine ⟨by omega, ?_⟩
  refine LoopK.intro (fun m a g => ∃ (k : Nat) (x : AV), m = n - k ∧ k ≤ n ∧ BC F01 g x (ist st cs n k).L ∧ g[0]? = some (patO n n st cs) ∧ g[1]? = some (.arr 1 (List.map boolE (ist st cs n k).P) true) ∧ a 1 = .op 0 4 0 0 ∧ a 3 = .osl 1 1 0 n n true ∧ a 4 = x) n ⟨0, .nils, rfl, Nat.zero_le _, .inl ⟨rfl, rfl⟩, ?_⟩ ?_
  · simp (maxSteps := 4000000) only [↓packA, ↓reduceIte, packB, pureOp, quietOp, loadOp, quietB, fr0, cellsK, implies_true, ite_true, ite_false, eq_self, ne_eq, reduceCtorEq, Nat.reduceLT, Nat.reduceLeDiff, Nat.reduceAdd, Nat.reduceMul, Nat.reduceBEq, Nat.reduceEqDiff, Int.reduceToNat, Int.reduceLT, Int.reduceLE, Nat.reduceSub, pl94, ft1, ft3, ft4, ft22, ft24, ft96, patO, ints, ist]
  rintro m a g ⟨k, x, rfl, hk, hb1, g0, g1, a1, a3, a4⟩
  unfold patO ints at g0
  have hI := ist_ok st cs n k hk
  have hll := hI.ll
  have hpl := hI.pl
  by_cases r : k < n
  · have r1 : ((ist st cs n k).L.length : Int) < (n : Int) := by omega
    simp (maxSteps := 4000000) only [↓packA, ↓reduceIte, packB, pureOp, quietOp, loadOp, quietB, fr0, cellsK, implies_true, ite_true, ite_false, eq_self, ne_eq, reduceCtorEq, Nat.reduceLT, Nat.reduceLeDiff, Nat.reduceAdd, Nat.reduceMul, Nat.reduceBEq, Nat.reduceEqDiff, Int.reduceToNat, Int.reduceLT, Int.reduceLE, Nat.reduceSub, pl94, ft1, ft3, ft4, ft22, ft24, ft96, a1, a3, a4, r1, g0, lenK_bc hb1]
    refine LoopK.intro (fun m a g' => ∃ (v : Nat), m = n - v ∧ v ≤ n ∧ a 1 = .op 0 4 0 0 ∧ a 3 = .osl 1 1 0 n n true ∧ a 4 = x ∧ a 5 = .int .i64 (bI st cs (ist st cs n k).P v) ∧ a 6 = .int .i64 v ∧ g' = g) n ⟨0, rfl, Nat.zero_le _, ?_⟩ ?_
    · simp (maxSteps := 4000000) only [↓packA, ↓reduceIte, packB, pureOp, quietOp, loadOp, quietB, fr0, cellsK, implies_true, ite_true, ite_false, eq_self, ne_eq, reduceCtorEq, Nat.reduceLT, Nat.reduceLeDiff, Nat.reduceAdd, Nat.reduceMul, Nat.reduceBEq, Nat.reduceEqDiff, Int.reduceToNat, Int.reduceLT, Int.reduceLE, Nat.reduceSub, pl94, ft1, ft3, ft4, ft22, ft24, ft96, a1, a3, a4, bI, Int.natCast_zero]
      trace_state
    clear a1 a3 a4
    rintro m a g' ⟨v, rfl, hv, a1, a3, a4, a5, a6, rfl⟩
    have hi := bI_in (st := st) (cs := cs) (P := (ist st cs n k).P) v
    by_cases r2 : v < n
    · have r3 : (v : Int) < (n : Int) := by omega
      have hd := fun c => show bI st cs (ist st cs n k).P (v + 1) = _ from if_neg c
      have he := fun c => show bI st cs (ist st cs n k).P (v + 1) = _ from if_pos c
      cases hP : (ist st cs n k).P.getD v false with
      | true =>
        have hP' : (ist st cs n k).P.getD v default = true := hP
        simp (maxSteps := 4000000) only [↓packA, ↓reduceIte, packB, pureOp, quietOp, loadOp, quietB, fr0, cellsK, implies_true, ite_true, ite_false, eq_self, ne_eq, reduceCtorEq, Nat.reduceLT, Nat.reduceLeDiff, Nat.reduceAdd, Nat.reduceMul, Nat.reduceBEq, Nat.reduceEqDiff, Int.reduceToNat, Int.reduceLT, Int.reduceLE, Nat.reduceSub, pl94, ft1, ft3, ft4, ft22, ft24, ft96, a1, a3, a4, a5, a6, r3, g0, g1, hP']
        exact ⟨by omega, by omega, by omega, .inl ⟨n - (v + 1), by omega, v + 1, rfl, by omega, (hd (by rw [hP]; simp)).symm, by omega⟩⟩
      | false =>
        have hP' : (ist st cs n k).P.getD v default = false := hP
        by_cases r4 : bI st cs (ist st cs n k).P v < 0
        · simp (maxSteps := 4000000) only [↓packA, ↓reduceIte, packB, pureOp, quietOp, loadOp, quietB, fr0, cellsK, implies_true, ite_true, ite_false, eq_self, ne_eq, reduceCtorEq, Nat.reduceLT, Nat.reduceLeDiff, Nat.reduceAdd, Nat.reduceMul, Nat.reduceBEq, Nat.reduceEqDiff, Int.reduceToNat, Int.reduceLT, Int.reduceLE, Nat.reduceSub, pl94, ft1, ft3, ft4, ft22, ft24, ft96, a1, a3, a4, a5, a6, r3, g0, g1, hP', r4]
          exact ⟨by omega, by omega, by omega, .inl ⟨n - (v + 1), by omega, v + 1, rfl, by omega, (he ⟨hP, .inl r4⟩).symm, by omega⟩⟩
        · have hgf : (decide (bts st cs (ist st cs n k).P v (bI st cs (ist st cs n k).P v).toNat) : Bool) = decide (bts st cs (ist st cs n k).P v (bI st cs (ist st cs n k).P v).toNat) := rfl
          obtain ⟨b, hb4⟩ : ∃ b : Nat, bI st cs (ist st cs n k).P v = (b : Int) := ⟨(bI st cs (ist st cs n k).P v).toNat, by omega⟩
          rw [hb4] at hd he r4 a5 hi
          rw [Int.toNat_natCast] at hd he
          have haa := ahead_c n st cs (ist st cs n k).P hb hb2 hm hn v b (by omega) (by omega) hpl
          cases hB : decide (bts st cs (ist st cs n k).P v b) with
          | true =>
            rw [hB] at haa
            have hB' := of_decide_eq_true hB
            simp (maxSteps := 4000000) only [↓packA, ↓reduceIte, packB, pureOp, quietOp, loadOp, quietB, fr0, cellsK, implies_true, ite_true, ite_false, eq_self, ne_eq, reduceCtorEq, Nat.reduceLT, Nat.reduceLeDiff, Nat.reduceAdd, Nat.reduceMul, Nat.reduceBEq, Nat.reduceEqDiff, Int.reduceToNat, Int.reduceLT, Int.reduceLE, Nat.reduceSub, pl94, ft1, ft3, ft4, ft22, ft24, ft96, a1, a3, a4, a5, a6, r3, g0, g1, hP', r4]
            refine ⟨by omega, by omega, acalls_lend haa (.cons (.pure _ rfl) (.cons (.pure _ rfl) (.cons (.pure _ rfl) (.cons (frz_bools g1 hpl) .nil)))) rfl ?_⟩
            simp (maxSteps := 4000000) only [↓packA, ↓reduceIte, packB, pureOp, quietOp, loadOp, quietB, fr0, cellsK, implies_true, ite_true, ite_false, eq_self, ne_eq, reduceCtorEq, Nat.reduceLT, Nat.reduceLeDiff, Nat.reduceAdd, Nat.reduceMul, Nat.reduceBEq, Nat.reduceEqDiff, Int.reduceToNat, Int.reduceLT, Int.reduceLE, Nat.reduceSub, pl94, ft1, ft3, ft4, ft22, ft24, ft96, a1, a3, a4, a5, a6, r3, g0, g1, hP', r4]
            exact ⟨by omega, .inl ⟨n - (v + 1), by omega, v + 1, rfl, by omega, (he ⟨hP, .inr hB'⟩).symm, by omega⟩⟩
          | false =>
            rw [hB] at haa
            have hB' := of_decide_eq_false hB
            simp (maxSteps := 4000000) only [↓packA, ↓reduceIte, packB, pureOp, quietOp, loadOp, quietB, fr0, cellsK, implies_true, ite_true, ite_false, eq_self, ne_eq, reduceCtorEq, Nat.reduceLT, Nat.reduceLeDiff, Nat.reduceAdd, Nat.reduceMul, Nat.reduceBEq, Nat.reduceEqDiff, Int.reduceToNat, Int.reduceLT, Int.reduceLE, Nat.reduceSub, pl94, ft1, ft3, ft4, ft22, ft24, ft96, a1, a3, a4, a5, a6, r3, g0, g1, hP', r4]
            refine ⟨by omega, by omega, acalls_lend haa (.cons (.pure _ rfl) (.cons (.pure _ rfl) (.cons (.pure _ rfl) (.cons (frz_bools g1 hpl) .nil)))) rfl ?_⟩
            simp (maxSteps := 4000000) only [↓packA, ↓reduceIte, packB, pureOp, quietOp, loadOp, quietB, fr0, cellsK, implies_true, ite_true, ite_false, eq_self, ne_eq, reduceCtorEq, Nat.reduceLT, Nat.reduceLeDiff, Nat.reduceAdd, Nat.reduceMul, Nat.reduceBEq, Nat.reduceEqDiff, Int.reduceToNat, Int.reduceLT, Int.reduceLE, Nat.reduceSub, pl94, ft1, ft3, ft4, ft22, ft24, ft96, a1, a3, a4, a5, a6, r3, g0, g1, hP', r4]
            exact ⟨by omega, .inl ⟨n - (v + 1), by omega, v + 1, rfl, by omega, (hd (fun hc => hc.2.elim r4 hB')).symm, by omega⟩⟩
    · have r3 : ¬ (v : Int) < (n : Int) := by omega
      obtain rfl : v = n := by omega
      have hbb := ist_best hI r
      obtain ⟨b, hb4⟩ : ∃ b : Nat, bI st cs (ist st cs v k).P v = (b : Int) := ⟨(bI st cs (ist st cs v k).P v).toNat, by omega⟩
      have hsP : (ist st cs v (k + 1)).P = (ist st cs v k).P.set b true := by show List.set _ _ _ = _; rw [hb4, Int.toNat_natCast]
      have hsL : (ist st cs v (k + 1)).L = (ist st cs v k).L ++ [(b : Int)] := by show _ ++ [_] = _; rw [hb4]
      rw [hb4] at a5 hi
      obtain ⟨M, hM⟩ : ∃ M, g'.length = M := ⟨_, rfl⟩
      have rM : ∀ o, ((g'.set 1 (.arr 1 (List.map boolE ((ist st cs v k).P.set b true)) true)) ++ [o])[M]? = some o := fun o => by rw [List.getElem?_append_right (by simp [hM])]; simp [hM]
      simp (maxSteps := 4000000) only [↓packA, ↓reduceIte, packB, pureOp, quietOp, loadOp, quietB, fr0, cellsK, implies_true, ite_true, ite_false, eq_self, ne_eq, reduceCtorEq, Nat.reduceLT, Nat.reduceLeDiff, Nat.reduceAdd, Nat.reduceMul, Nat.reduceBEq, Nat.reduceEqDiff, Int.reduceToNat, Int.reduceLT, Int.reduceLE, Nat.reduceSub, pl94, ft1, ft3, ft4, ft22, ft24, ft96, a1, a3, a4, a5, a6, r3, g0, g1, hM, rM]
      have l1 : 1 < g'.length := (List.getElem?_eq_some_iff.1 g1).1
      refine ⟨by omega, by omega, push_bc (F := F01) (fun i hi => by simp [hM]; rcases hi with rfl | rfl <;> omega) ((hb1.keep (F' := F01) (fun id e h1 h2 => ⟨h2, by rw [List.getElem?_set_ne (fun e => h2 (.inr e.symm))]⟩)).app) (by omega) fun x' G hcx hl' hf' hb' => ?_⟩
      obtain ⟨xi, xl, xc, xe, rfl⟩ := hcx
      simp (maxSteps := 4000000) only [↓packA, ↓reduceIte, packB, pureOp, quietOp, loadOp, quietB, fr0, cellsK, implies_true, ite_true, ite_false, eq_self, ne_eq, reduceCtorEq, Nat.reduceLT, Nat.reduceLeDiff, Nat.reduceAdd, Nat.reduceMul, Nat.reduceBEq, Nat.reduceEqDiff, Int.reduceToNat, Int.reduceLT, Int.reduceLE, Nat.reduceSub, pl94, ft1, ft3, ft4, ft22, ft24, ft96, a1, a3, a4, a5, a6, g0, g1]
      refine .inl ⟨v - (k + 1), by omega, k + 1, .osl xi 1 0 xl xc xe, rfl, by omega, by rw [hsL]; exact hb', ?_, ?_, rfl⟩
      · rw [hf' 0 (.inl rfl), List.getElem?_append_left (by simp; omega), List.getElem?_set_ne (by omega), g0]; rfl
      · rw [hf' 1 (.inr rfl), List.getElem?_append_left (by simp; omega), List.getElem?_set_self l1, hsP]
  · have r1 : ¬ ((ist st cs n k).L.length : Int) < (n : Int) := by omega
    simp (maxSteps := 4000000) only [↓packA, ↓reduceIte, packB, pureOp, quietOp, loadOp, quietB, fr0, cellsK, implies_true, ite_true, ite_false, eq_self, ne_eq, reduceCtorEq, Nat.reduceLT, Nat.reduceLeDiff, Nat.reduceAdd, Nat.reduceMul, Nat.reduceBEq, Nat.reduceEqDiff, Int.reduceToNat, Int.reduceLT, Int.reduceLE, Nat.reduceSub, pl94, ft1, ft3, ft4, ft22, ft24, ft96, a1, a3, a4, r1, g0, lenK_bc hb1]
    obtain rfl : k = n := by omega
    exact bc_ofz hb1
end Go.Proofs.YtgdlkhgfehclpaaGreat
end

section
/- The order of incidence, the program's. No condition. -/
namespace Go.Proofs.YtgdlkhgfehclpaaGreat
open Go Go.AL
set_option linter.unusedVariables false
set_option linter.unusedSimpArgs false
def orI (a b : Int) : Int := if a = 0 then b else a
set_option maxRecDepth 100000 in
theorem or_c (a b : Int) : APure Tryz.prog 86 [ints [a, b]] (.int .i64 (orI a b)) := by
  refine apure_of (wp86 rfl rfl ?_)
  by_cases c : a = 0
  · have e : orI a b = b := if_pos c
    rw [e]
    by_cases c2 : b = 0
    · subst c c2
      simp (maxSteps := 4000000) only [↓packA, ↓reduceIte, packB, pureOp, quietOp, loadOp, quietB, fr0, cellsK, implies_true, ite_true, ite_false, eq_self, ne_eq, reduceCtorEq, Nat.reduceLT, Nat.reduceLeDiff, Nat.reduceAdd, Nat.reduceMul, Nat.reduceBEq, Nat.reduceEqDiff, Int.reduceToNat, Int.reduceLT, Int.reduceLE, Nat.reduceSub, pl86, ft3, ft22, ints, intE, List.map_cons, List.map_nil, Int.cast_ofNat_Int, Int.natCast_zero, Int.natCast_one, Int.reduceAdd, Int.reduceSub, Int.reduceNeg, Int.reduceMul, Int.reduceToNat, Int.reduceLT, Int.reduceLE, Int.reduceEq, Int.reduceBEq, Int.reduceBNe, Nat.reduceSub, Nat.reduceLT, List.getD_cons_zero, List.getD_cons_succ, List.length_singleton, Bool.and_true, Bool.and_false]
      refine LoopN.loop 3 ?_
      simp (maxSteps := 4000000) only [↓packA, ↓reduceIte, packB, pureOp, quietOp, loadOp, quietB, fr0, cellsK, implies_true, ite_true, ite_false, eq_self, ne_eq, reduceCtorEq, Nat.reduceLT, Nat.reduceLeDiff, Nat.reduceAdd, Nat.reduceMul, Nat.reduceBEq, Nat.reduceEqDiff, Int.reduceToNat, Int.reduceLT, Int.reduceLE, Nat.reduceSub, pl86, ft3, ft22, ↓LoopN_succ, Int.cast_ofNat_Int, Int.natCast_zero, Int.natCast_one, Int.reduceAdd, Int.reduceSub, Int.reduceNeg, Int.reduceMul, Int.reduceToNat, Int.reduceLT, Int.reduceLE, Int.reduceEq, Int.reduceBEq, Int.reduceBNe, Nat.reduceSub, Nat.reduceLT, List.getD_cons_zero, List.getD_cons_succ, List.length_singleton, Bool.and_true, Bool.and_false]
      exact .pure _ rfl
    · subst c
      simp (maxSteps := 4000000) only [↓packA, ↓reduceIte, packB, pureOp, quietOp, loadOp, quietB, fr0, cellsK, implies_true, ite_true, ite_false, eq_self, ne_eq, reduceCtorEq, Nat.reduceLT, Nat.reduceLeDiff, Nat.reduceAdd, Nat.reduceMul, Nat.reduceBEq, Nat.reduceEqDiff, Int.reduceToNat, Int.reduceLT, Int.reduceLE, Nat.reduceSub, pl86, ft3, ft22, ints, intE, List.map_cons, List.map_nil, c2, Int.cast_ofNat_Int, Int.natCast_zero, Int.natCast_one, Int.reduceAdd, Int.reduceSub, Int.reduceNeg, Int.reduceMul, Int.reduceToNat, Int.reduceLT, Int.reduceLE, Int.reduceEq, Int.reduceBEq, Int.reduceBNe, Nat.reduceSub, Nat.reduceLT, List.getD_cons_zero, List.getD_cons_succ, List.length_singleton, Bool.and_true, Bool.and_false]
      refine LoopN.loop 3 ?_
      simp (maxSteps := 4000000) only [↓packA, ↓reduceIte, packB, pureOp, quietOp, loadOp, quietB, fr0, cellsK, implies_true, ite_true, ite_false, eq_self, ne_eq, reduceCtorEq, Nat.reduceLT, Nat.reduceLeDiff, Nat.reduceAdd, Nat.reduceMul, Nat.reduceBEq, Nat.reduceEqDiff, Int.reduceToNat, Int.reduceLT, Int.reduceLE, Nat.reduceSub, pl86, ft3, ft22, ↓LoopN_succ, c2, Int.cast_ofNat_Int, Int.natCast_zero, Int.natCast_one, Int.reduceAdd, Int.reduceSub, Int.reduceNeg, Int.reduceMul, Int.reduceToNat, Int.reduceLT, Int.reduceLE, Int.reduceEq, Int.reduceBEq, Int.reduceBNe, Nat.reduceSub, Nat.reduceLT, List.getD_cons_zero, List.getD_cons_succ, List.length_singleton, Bool.and_true, Bool.and_false]
      exact .pure _ rfl
  · have e : orI a b = a := if_neg c
    rw [e]
    simp (maxSteps := 4000000) only [↓packA, ↓reduceIte, packB, pureOp, quietOp, loadOp, quietB, fr0, cellsK, implies_true, ite_true, ite_false, eq_self, ne_eq, reduceCtorEq, Nat.reduceLT, Nat.reduceLeDiff, Nat.reduceAdd, Nat.reduceMul, Nat.reduceBEq, Nat.reduceEqDiff, Int.reduceToNat, Int.reduceLT, Int.reduceLE, Nat.reduceSub, pl86, ft3, ft22, ints, intE, List.map_cons, List.map_nil, c, Int.cast_ofNat_Int, Int.natCast_zero, Int.natCast_one, Int.reduceAdd, Int.reduceSub, Int.reduceNeg, Int.reduceMul, Int.reduceToNat, Int.reduceLT, Int.reduceLE, Int.reduceEq, Int.reduceBEq, Int.reduceBNe, Nat.reduceSub, Nat.reduceLT, List.getD_cons_zero, List.getD_cons_succ, List.length_singleton, Bool.and_true, Bool.and_false]
    refine LoopN.loop 3 ?_
    simp (maxSteps := 4000000) only [↓packA, ↓reduceIte, packB, pureOp, quietOp, loadOp, quietB, fr0, cellsK, implies_true, ite_true, ite_false, eq_self, ne_eq, reduceCtorEq, Nat.reduceLT, Nat.reduceLeDiff, Nat.reduceAdd, Nat.reduceMul, Nat.reduceBEq, Nat.reduceEqDiff, Int.reduceToNat, Int.reduceLT, Int.reduceLE, Nat.reduceSub, pl86, ft3, ft22, ↓LoopN_succ, c, Int.cast_ofNat_Int, Int.natCast_zero, Int.natCast_one, Int.reduceAdd, Int.reduceSub, Int.reduceNeg, Int.reduceMul, Int.reduceToNat, Int.reduceLT, Int.reduceLE, Int.reduceEq, Int.reduceBEq, Int.reduceBNe, Nat.reduceSub, Nat.reduceLT, List.getD_cons_zero, List.getD_cons_succ, List.length_singleton, Bool.and_true, Bool.and_false]
    exact .pure _ rfl
theorem orI_bts {st cs : List Int} {P : List Bool} {v b : Nat} : 0 < orI (cmpI (cnt st cs P v) (cnt st cs P b)) (cmpI (rowOf st cs v).length (rowOf st cs b).length) ↔ bts st cs P v b := by
  unfold orI cmpI bts
  split <;> split <;> (try split) <;> (try split) <;> omega
theorem cnt_put {st cs : List Int} {n : Nat} (hg : graphP n n st cs) {S : List Bool} {u v : Nat} (hv : v < n) (hu : u < n) (hs : S.getD v false = false) (hl : v < S.length) : cnt st cs (S.set v true) u = cnt st cs S u + (if (u : Int) ∈ rowOf st cs v then 1 else 0) := by
  have h1 := cnt_drop (S := S.set v true) hg hv hu (by rw [getB_setT hl, if_pos rfl]) (by simpa using hl)
  rw [List.set_set] at h1
  rw [← h1]
  congr 1
  have : S.set v false = S := by
    refine boolL_ext (by simp) fun j hj => ?_
    rw [getB_set hl]
    split
    · rename_i e; subst e; exact hs.symm
    · rfl
  rw [this]
end Go.Proofs.YtgdlkhgfehclpaaGreat
end

section
/- The order of incidence, the program's, walked. No condition. -/
namespace Go.Proofs.YtgdlkhgfehclpaaGreat
open Go Go.AL
set_option linter.unusedVariables false
set_option linter.unusedSimpArgs false
def F012 : Nat → Prop := fun i => i = 0 ∨ i = 1 ∨ i = 2
set_option maxHeartbeats 4000000 in
set_option maxRecDepth 100000 in
theorem inc_b (n : Nat) (hn : n ≤ 128) (st cs : List Int) (hb : st.length < 1000000000) (hb2 : cs.length < 1000000000) (hg : graphP n n st cs) (xs : AV) : ACalls Tryz.prog 56 [pat n n st cs, xs] [] fun v h => ∃ x, v = .tup [x, .int .i64 0] ∧ BC (fun _ => False) h x (incL st cs n) := by
  have hm := hg.1.1
  refine (wp56 rfl rfl ?_)
  simp (maxSteps := 4000000) only [↓packA, ↓reduceIte, packB, pureOp, quietOp, loadOp, quietB, fr0, cellsK, implies_true, ite_true, ite_false, eq_self, ne_eq, reduceCtorEq, Nat.reduceLT, Nat.reduceLeDiff, Nat.reduceAdd, Nat.reduceMul, Nat.reduceBEq, Nat.reduceEqDiff, Int.reduceToNat, Int.reduceLT, Int.reduceLE, Nat.reduceSub, pl56, ft1, ft2, ft3, ft4, ft22, ft24, ft96, ints]
  refine ⟨by omega, by omega, ?_⟩
  refine LoopK.intro (fun m a g => ∃ (k : Nat) (x : AV) (A : List Int), m = n - k ∧ k ≤ n ∧ BC F012 g x (ist st cs n k).L ∧ A.length = n ∧ (∀ u : Nat, u < n → A.getD u default = cnt st cs (ist st cs n k).P u) ∧ g[0]? = some (patO n n st cs) ∧ g[1]? = some (.arr 1 (List.map boolE (ist st cs n k).P) true) ∧ g[2]? = some (.arr 1 (List.map intE A) true) ∧ a 2 = .op 0 4 0 0 ∧ a 6 = .osl 1 1 0 n n true ∧ a 7 = .osl 2 1 0 n n true ∧ a 8 = x ∧ a 20 = .int .i64 n ∧ a 21 = .int .i64 k) n ⟨0, .nils, List.replicate n 0, rfl, Nat.zero_le _, .inl ⟨rfl, rfl⟩, by simp, fun u hu => ?_, ?_⟩ ?_
  · rw [show cnt st cs (ist st cs n 0).P u = 0 from ?_]
    · simp [List.getD_eq_getElem?_getD, List.getElem?_replicate, hu]
    · unfold cnt
      rw [List.filter_eq_nil_iff.2 fun w hw => by
        simp only [ist, List.getD_eq_getElem?_getD, List.getElem?_replicate]
        split <;> simp]
      rfl
  · simp (maxSteps := 4000000) only [↓packA, ↓reduceIte, packB, pureOp, quietOp, loadOp, quietB, fr0, cellsK, implies_true, ite_true, ite_false, eq_self, ne_eq, reduceCtorEq, Nat.reduceLT, Nat.reduceLeDiff, Nat.reduceAdd, Nat.reduceMul, Nat.reduceBEq, Nat.reduceEqDiff, Int.reduceToNat, Int.reduceLT, Int.reduceLE, Nat.reduceSub, pl56, ft1, ft2, ft3, ft4, ft22, ft24, ft96, patO, ints, ist, Int.natCast_zero]
    trace_state
  rintro m a g ⟨k, x, A, rfl, hk, hb1, hA, hAc, g0, g1, g2, a2, a6, a7, a8, a20, a21⟩
  unfold patO ints at g0
  have hI := ist_ok st cs n k hk
  have hll := hI.ll
  have hpl := hI.pl
  by_cases r : k < n
  · have r1 : (k : Int) < (n : Int) := by omega
    simp (maxSteps := 4000000) only [↓packA, ↓reduceIte, packB, pureOp, quietOp, loadOp, quietB, fr0, cellsK, implies_true, ite_true, ite_false, eq_self, ne_eq, reduceCtorEq, Nat.reduceLT, Nat.reduceLeDiff, Nat.reduceAdd, Nat.reduceMul, Nat.reduceBEq, Nat.reduceEqDiff, Int.reduceToNat, Int.reduceLT, Int.reduceLE, Nat.reduceSub, pl56, ft1, ft2, ft3, ft4, ft22, ft24, ft96, a2, a6, a7, a8, a20, a21, r1, g0]
    refine LoopK.intro (fun m a g' => ∃ (v : Nat) (t : Heap), m = n - v ∧ v ≤ n ∧ g' = g ++ t ∧ a 2 = .op 0 4 0 0 ∧ a 6 = .osl 1 1 0 n n true ∧ a 7 = .osl 2 1 0 n n true ∧ a 8 = x ∧ a 20 = .int .i64 n ∧ a 21 = .int .i64 k ∧ a 9 = .int .i64 (bI st cs (ist st cs n k).P v) ∧ a 24 = .int .i64 n ∧ a 25 = .int .i64 v) n ⟨0, [], rfl, Nat.zero_le _, by simp, ?_⟩ ?_
    · simp (maxSteps := 4000000) only [↓packA, ↓reduceIte, packB, pureOp, quietOp, loadOp, quietB, fr0, cellsK, implies_true, ite_true, ite_false, eq_self, ne_eq, reduceCtorEq, Nat.reduceLT, Nat.reduceLeDiff, Nat.reduceAdd, Nat.reduceMul, Nat.reduceBEq, Nat.reduceEqDiff, Int.reduceToNat, Int.reduceLT, Int.reduceLE, Nat.reduceSub, pl56, ft1, ft2, ft3, ft4, ft22, ft24, ft96, a2, a6, a7, a8, a20, a21, bI, Int.natCast_zero]
    clear a2 a6 a7 a8 a20 a21
    rintro m a g' ⟨v, t, rfl, hv, rfl, a2, a6, a7, a8, a20, a21, a9, a24, a25⟩
    have hi := bI_in (st := st) (cs := cs) (P := (ist st cs n k).P) v
    have l2 : 2 < g.length := (List.getElem?_eq_some_iff.1 g2).1
    have ra : ∀ i, i < g.length → (g ++ t)[i]? = g[i]? := fun i hi => List.getElem?_append_left hi
    have e0 := (ra 0 (by omega)).trans g0
    have e1 := (ra 1 (by omega)).trans g1
    have e2 := (ra 2 (by omega)).trans g2
    by_cases r2 : v < n
    · have r3 : (v : Int) < (n : Int) := by omega
      have hd := fun c => show bI st cs (ist st cs n k).P (v + 1) = _ from if_neg c
      have he := fun c => show bI st cs (ist st cs n k).P (v + 1) = _ from if_pos c
      cases hP : (ist st cs n k).P.getD v false with
      | true =>
        have hP' : (ist st cs n k).P.getD v default = true := hP
        simp (maxSteps := 4000000) only [↓packA, ↓reduceIte, packB, pureOp, quietOp, loadOp, quietB, fr0, cellsK, implies_true, ite_true, ite_false, eq_self, ne_eq, reduceCtorEq, Nat.reduceLT, Nat.reduceLeDiff, Nat.reduceAdd, Nat.reduceMul, Nat.reduceBEq, Nat.reduceEqDiff, Int.reduceToNat, Int.reduceLT, Int.reduceLE, Nat.reduceSub, pl56, ft1, ft2, ft3, ft4, ft22, ft24, ft96, a2, a6, a7, a8, a9, a20, a21, a24, a25, r3, e0, e1, e2, hP']
        exact ⟨by omega, by omega, by omega, .inl ⟨n - (v + 1), by omega, v + 1, t, rfl, by omega, rfl, (hd (by rw [hP]; simp)).symm, by omega⟩⟩
      | false =>
        have hP' : (ist st cs n k).P.getD v default = false := hP
        by_cases r4 : bI st cs (ist st cs n k).P v < 0
        · simp (maxSteps := 4000000) only [↓packA, ↓reduceIte, packB, pureOp, quietOp, loadOp, quietB, fr0, cellsK, implies_true, ite_true, ite_false, eq_self, ne_eq, reduceCtorEq, Nat.reduceLT, Nat.reduceLeDiff, Nat.reduceAdd, Nat.reduceMul, Nat.reduceBEq, Nat.reduceEqDiff, Int.reduceToNat, Int.reduceLT, Int.reduceLE, Nat.reduceSub, pl56, ft1, ft2, ft3, ft4, ft22, ft24, ft96, a2, a6, a7, a8, a9, a20, a21, a24, a25, r3, e0, e1, e2, hP', r4]
          exact ⟨by omega, by omega, by omega, .inl ⟨n - (v + 1), by omega, v + 1, t, rfl, by omega, rfl, (he ⟨hP, .inl r4⟩).symm, by omega⟩⟩
        · obtain ⟨b, hb4⟩ : ∃ b : Nat, bI st cs (ist st cs n k).P v = (b : Int) := ⟨(bI st cs (ist st cs n k).P v).toNat, by omega⟩
          rw [hb4] at hd he r4 a9 hi
          rw [Int.toNat_natCast] at hd he
          have hAv := hAc v r2
          have hAb := hAc b (by omega)
          simp (maxSteps := 4000000) only [↓packA, ↓reduceIte, packB, pureOp, quietOp, loadOp, quietB, fr0, cellsK, implies_true, ite_true, ite_false, eq_self, ne_eq, reduceCtorEq, Nat.reduceLT, Nat.reduceLeDiff, Nat.reduceAdd, Nat.reduceMul, Nat.reduceBEq, Nat.reduceEqDiff, Int.reduceToNat, Int.reduceLT, Int.reduceLE, Nat.reduceSub, pl56, ft1, ft2, ft3, ft4, ft22, ft24, ft96, a2, a6, a7, a8, a9, a20, a21, a24, a25, r3, e0, e1, e2, hP', r4, hAv, hAb]
          obtain ⟨M, hM⟩ : ∃ M, (g ++ t).length = M := ⟨_, rfl⟩
          have rM : ∀ o, (g ++ t ++ [o])[M]? = some o := fun o => by rw [List.getElem?_append_right (by omega)]; simp only [hM, Nat.sub_self, List.getElem?_cons_zero]
          refine ⟨by omega, by omega, by omega, by omega, by omega, by omega, acalls_pure (cmp_c _ _) rfl ?_⟩
          simp (maxSteps := 4000000) only [↓packA, ↓reduceIte, packB, pureOp, quietOp, loadOp, quietB, fr0, cellsK, implies_true, ite_true, ite_false, eq_self, ne_eq, reduceCtorEq, Nat.reduceLT, Nat.reduceLeDiff, Nat.reduceAdd, Nat.reduceMul, Nat.reduceBEq, Nat.reduceEqDiff, Int.reduceToNat, Int.reduceLT, Int.reduceLE, Nat.reduceSub, pl56, ft1, ft2, ft3, ft4, ft22, ft24, ft96, a2, a6, a7, a8, a9, a20, a21, a24, a25, r3, e0, e1, e2, hP', r4, hAv, hAb, hM, rM]
          refine acalls_pure (degree_c n n st cs hb hb2 hm v (by omega) (by omega)) rfl ?_
          simp (maxSteps := 4000000) only [↓packA, ↓reduceIte, packB, pureOp, quietOp, loadOp, quietB, fr0, cellsK, implies_true, ite_true, ite_false, eq_self, ne_eq, reduceCtorEq, Nat.reduceLT, Nat.reduceLeDiff, Nat.reduceAdd, Nat.reduceMul, Nat.reduceBEq, Nat.reduceEqDiff, Int.reduceToNat, Int.reduceLT, Int.reduceLE, Nat.reduceSub, pl56, ft1, ft2, ft3, ft4, ft22, ft24, ft96, a2, a6, a7, a8, a9, a20, a21, a24, a25, r3, e0, e1, e2, hP', r4, hAv, hAb, hM, rM]
          refine acalls_pure (degree_c n n st cs hb hb2 hm b (by omega) (by omega)) rfl ?_
          simp (maxSteps := 4000000) only [↓packA, ↓reduceIte, packB, pureOp, quietOp, loadOp, quietB, fr0, cellsK, implies_true, ite_true, ite_false, eq_self, ne_eq, reduceCtorEq, Nat.reduceLT, Nat.reduceLeDiff, Nat.reduceAdd, Nat.reduceMul, Nat.reduceBEq, Nat.reduceEqDiff, Int.reduceToNat, Int.reduceLT, Int.reduceLE, Nat.reduceSub, pl56, ft1, ft2, ft3, ft4, ft22, ft24, ft96, a2, a6, a7, a8, a9, a20, a21, a24, a25, r3, e0, e1, e2, hP', r4, hAv, hAb, hM, rM]
          refine acalls_pure (cmp_c _ _) rfl ?_
          simp (maxSteps := 4000000) only [↓packA, ↓reduceIte, packB, pureOp, quietOp, loadOp, quietB, fr0, cellsK, implies_true, ite_true, ite_false, eq_self, ne_eq, reduceCtorEq, Nat.reduceLT, Nat.reduceLeDiff, Nat.reduceAdd, Nat.reduceMul, Nat.reduceBEq, Nat.reduceEqDiff, Int.reduceToNat, Int.reduceLT, Int.reduceLE, Nat.reduceSub, pl56, ft1, ft2, ft3, ft4, ft22, ft24, ft96, a2, a6, a7, a8, a9, a20, a21, a24, a25, r3, e0, e1, e2, hP', r4, hAv, hAb, hM, rM]
          have ra0 : ∀ o, (g ++ t ++ [o])[0]? = _ := fun o => (List.getElem?_append_left (by simp; omega)).trans e0
          have ra1 : ∀ o, (g ++ t ++ [o])[1]? = _ := fun o => (List.getElem?_append_left (by simp; omega)).trans e1
          have ra2 : ∀ o, (g ++ t ++ [o])[2]? = _ := fun o => (List.getElem?_append_left (by simp; omega)).trans e2
          refine acalls_lend (or_c (cmpI (cnt st cs (ist st cs n k).P v) (cnt st cs (ist st cs n k).P b)) (cmpI (rowOf st cs v).length (rowOf st cs b).length)) (.cons (frz_ints (l := [cmpI (cnt st cs (ist st cs n k).P v) (cnt st cs (ist st cs n k).P b), cmpI (rowOf st cs v).length (rowOf st cs b).length]) (l' := [cmpI (cnt st cs (ist st cs n k).P v) (cnt st cs (ist st cs n k).P b), cmpI (rowOf st cs v).length (rowOf st cs b).length]) (rM (.arr 1 (List.map intE [cmpI (cnt st cs (ist st cs n k).P v) (cnt st cs (ist st cs n k).P b), cmpI (rowOf st cs v).length (rowOf st cs b).length]) true)) rfl rfl) .nil) rfl ?_
          by_cases hB : bts st cs (ist st cs n k).P v b
          · have r5 := orI_bts.2 hB
            simp (maxSteps := 4000000) only [↓packA, ↓reduceIte, packB, pureOp, quietOp, loadOp, quietB, fr0, cellsK, implies_true, ite_true, ite_false, eq_self, ne_eq, reduceCtorEq, Nat.reduceLT, Nat.reduceLeDiff, Nat.reduceAdd, Nat.reduceMul, Nat.reduceBEq, Nat.reduceEqDiff, Int.reduceToNat, Int.reduceLT, Int.reduceLE, Nat.reduceSub, pl56, ft1, ft2, ft3, ft4, ft22, ft24, ft96, a2, a6, a7, a8, a9, a20, a21, a24, a25, r3, e0, e1, e2, hP', r4, hAv, hAb, hM, rM, ra0, ra1, ra2, r5]
            exact ⟨by omega, .inl ⟨n - (v + 1), by omega, v + 1, t ++ [_], rfl, by omega, List.append_assoc _ _ _, (he ⟨hP, .inr hB⟩).symm, by omega⟩⟩
          · have r5 : ¬ 0 < orI (cmpI (cnt st cs (ist st cs n k).P v) (cnt st cs (ist st cs n k).P b)) (cmpI (rowOf st cs v).length (rowOf st cs b).length) := fun h => hB (orI_bts.1 h)
            simp (maxSteps := 4000000) only [↓packA, ↓reduceIte, packB, pureOp, quietOp, loadOp, quietB, fr0, cellsK, implies_true, ite_true, ite_false, eq_self, ne_eq, reduceCtorEq, Nat.reduceLT, Nat.reduceLeDiff, Nat.reduceAdd, Nat.reduceMul, Nat.reduceBEq, Nat.reduceEqDiff, Int.reduceToNat, Int.reduceLT, Int.reduceLE, Nat.reduceSub, pl56, ft1, ft2, ft3, ft4, ft22, ft24, ft96, a2, a6, a7, a8, a9, a20, a21, a24, a25, r3, e0, e1, e2, hP', r4, hAv, hAb, hM, rM, ra0, ra1, ra2, r5]
            exact ⟨by omega, .inl ⟨n - (v + 1), by omega, v + 1, t ++ [_], rfl, by omega, List.append_assoc _ _ _, (hd (fun hc => hc.2.elim r4 hB)).symm, by omega⟩⟩
    · have r3 : ¬ (v : Int) < (n : Int) := by omega
      obtain rfl : v = n := by omega
      have hbb := ist_best hI r
      have hfb := (bI_pos v hbb).1
      obtain ⟨b, hb4⟩ : ∃ b : Nat, bI st cs (ist st cs v k).P v = (b : Int) := ⟨(bI st cs (ist st cs v k).P v).toNat, by omega⟩
      have hsP : (ist st cs v (k + 1)).P = (ist st cs v k).P.set b true := by show List.set _ _ _ = _; rw [hb4, Int.toNat_natCast]
      have hsL : (ist st cs v (k + 1)).L = (ist st cs v k).L ++ [(b : Int)] := by show _ ++ [_] = _; rw [hb4]
      rw [hb4] at a9 hi hfb
      rw [Int.toNat_natCast] at hfb
      have hbn : b < v := by omega
      have hbG : BC F012 (g ++ t) x (ist st cs v k).L := hb1.app
      have lG : 2 < (g ++ t).length := by simp; omega
      generalize g ++ t = G at *
      obtain ⟨M, hM⟩ : ∃ M, G.length = M := ⟨_, rfl⟩
      have rM : ∀ o, ((G.set 1 (.arr 1 (List.map boolE ((ist st cs v k).P.set b true)) true)) ++ [o])[M]? = some o := fun o => by rw [List.getElem?_append_right (by simp [hM])]; simp [hM]
      simp (maxSteps := 4000000) only [↓packA, ↓reduceIte, packB, pureOp, quietOp, loadOp, quietB, fr0, cellsK, implies_true, ite_true, ite_false, eq_self, ne_eq, reduceCtorEq, Nat.reduceLT, Nat.reduceLeDiff, Nat.reduceAdd, Nat.reduceMul, Nat.reduceBEq, Nat.reduceEqDiff, Int.reduceToNat, Int.reduceLT, Int.reduceLE, Nat.reduceSub, pl56, ft1, ft2, ft3, ft4, ft22, ft24, ft96, a2, a6, a7, a8, a9, a20, a21, a24, a25, r3, e0, e1, e2, hM, rM]
      refine ⟨by omega, by omega, push_bc (F := F012) (fun i hi => by simp [hM]; rcases hi with rfl | rfl | rfl <;> omega) ((hbG.keep (F' := F012) (fun id e h1 h2 => ⟨h2, by rw [List.getElem?_set_ne (fun e => h2 (.inr (.inl e.symm)))]⟩)).app) (by omega) fun x' G' hcx hl' hf' hb' => ?_⟩
      obtain ⟨xi, xl, xc, xe, rfl⟩ := hcx
      have f0 : G'[0]? = _ := (hf' 0 (.inl rfl)).trans ((List.getElem?_append_left (by simp; omega)).trans ((List.getElem?_set_ne (by omega)).trans e0))
      have f1 : G'[1]? = _ := (hf' 1 (.inr (.inl rfl))).trans ((List.getElem?_append_left (by simp; omega)).trans (List.getElem?_set_self (by omega)))
      have f2 : G'[2]? = _ := (hf' 2 (.inr (.inr rfl))).trans ((List.getElem?_append_left (by simp; omega)).trans ((List.getElem?_set_ne (by omega)).trans e2))
      simp (maxSteps := 4000000) only [↓packA, ↓reduceIte, packB, pureOp, quietOp, loadOp, quietB, fr0, cellsK, implies_true, ite_true, ite_false, eq_self, ne_eq, reduceCtorEq, Nat.reduceLT, Nat.reduceLeDiff, Nat.reduceAdd, Nat.reduceMul, Nat.reduceBEq, Nat.reduceEqDiff, Int.reduceToNat, Int.reduceLT, Int.reduceLE, Nat.reduceSub, pl56, ft1, ft2, ft3, ft4, ft22, ft24, ft96, a2, a6, a7, a8, a9, a20, a21, a24, a25, f0, f1, f2]
      refine acalls_pure (neigh_c v v st cs hb hb2 hm b (by omega) (by omega)) rfl ?_
      simp (maxSteps := 4000000) only [↓packA, ↓reduceIte, packB, pureOp, quietOp, loadOp, quietB, fr0, cellsK, implies_true, ite_true, ite_false, eq_self, ne_eq, reduceCtorEq, Nat.reduceLT, Nat.reduceLeDiff, Nat.reduceAdd, Nat.reduceMul, Nat.reduceBEq, Nat.reduceEqDiff, Int.reduceToNat, Int.reduceLT, Int.reduceLE, Nat.reduceSub, pl56, ft1, ft2, ft3, ft4, ft22, ft24, ft96, ints, a2, a6, a7, a8, a9, a20, a21, a24, a25, f0, f1, f2]
      have q4 := (may_row hm (show b < (v : Int).toNat by omega)).2.2.2.1
      have hrl := row_len hm hbn
      refine LoopK.intro (fun m a h2 => ∃ (j : Nat) (A2 : List Int), m = (rowOf st cs b).length - j ∧ j ≤ (rowOf st cs b).length ∧ BC F012 h2 (.osl xi 1 0 xl xc xe) ((ist st cs v k).L ++ [(b : Int)]) ∧ A2.length = v ∧ (∀ u : Nat, u < v → A2.getD u default = cnt st cs (ist st cs v k).P u + (if (u : Int) ∈ (rowOf st cs b).take j then 1 else 0)) ∧ h2[0]? = some (patO v v st cs) ∧ h2[1]? = some (.arr 1 (List.map boolE ((ist st cs v k).P.set b true)) true) ∧ h2[2]? = some (.arr 1 (List.map intE A2) true) ∧ a 2 = .op 0 4 0 0 ∧ a 6 = .osl 1 1 0 v v true ∧ a 7 = .osl 2 1 0 v v true ∧ a 8 = .osl xi 1 0 xl xc xe ∧ a 20 = .int .i64 v ∧ a 21 = .int .i64 k ∧ a 69 = ints (rowOf st cs b) ∧ a 70 = .int .i64 (rowOf st cs b).length ∧ a 71 = .int .i64 j) (rowOf st cs b).length ⟨0, A, rfl, Nat.zero_le _, hb', hA, fun u hu => by rw [hAc u hu]; simp, f0, f1, f2, ?_⟩ ?_
      · simp (maxSteps := 4000000) only [↓packA, ↓reduceIte, packB, pureOp, quietOp, loadOp, quietB, fr0, cellsK, implies_true, ite_true, ite_false, eq_self, ne_eq, reduceCtorEq, Nat.reduceLT, Nat.reduceLeDiff, Nat.reduceAdd, Nat.reduceMul, Nat.reduceBEq, Nat.reduceEqDiff, Int.reduceToNat, Int.reduceLT, Int.reduceLE, Nat.reduceSub, pl56, ft1, ft2, ft3, ft4, ft22, ft24, ft96, a2, a6, a7, a8, a9, a20, a21, a24, a25, ints, Int.natCast_zero]
      clear a2 a6 a7 a8 a9 a20 a21 a24 a25 f0 f1 f2 hb' hf' hl'
      rintro m a h2 ⟨j, A2, rfl, hj, hb', hA2, hA2c, f0, f1, f2, a2, a6, a7, a8, a20, a21, a69, a70, a71⟩
      have lh : 2 < h2.length := (List.getElem?_eq_some_iff.1 f2).1
      by_cases r5 : j < (rowOf st cs b).length
      · have r6 : (j : Int) < ((rowOf st cs b).length : Int) := by omega
        obtain ⟨w, hw, hwn⟩ : ∃ w : Nat, (rowOf st cs b).getD j default = w ∧ w < v := by
          have h4 := row_nonneg q4 r5
          have h5 := (q4 j r5).2
          exact ⟨((rowOf st cs b).getD j default).toNat, by omega, by omega⟩
        have hAw := hA2c w hwn
        simp (maxSteps := 4000000) only [↓packA, ↓reduceIte, packB, pureOp, quietOp, loadOp, quietB, fr0, cellsK, implies_true, ite_true, ite_false, eq_self, ne_eq, reduceCtorEq, Nat.reduceLT, Nat.reduceLeDiff, Nat.reduceAdd, Nat.reduceMul, Nat.reduceBEq, Nat.reduceEqDiff, Int.reduceToNat, Int.reduceLT, Int.reduceLE, Nat.reduceSub, pl56, ft1, ft2, ft3, ft4, ft22, ft24, ft96, a2, a6, a7, a8, a20, a21, a69, a70, a71, r6, f0, f1, f2, ints, hw, hAw]
        have htk : ∀ u : Nat, ((u : Int) ∈ (rowOf st cs b).take (j + 1) ↔ (u : Int) ∈ (rowOf st cs b).take j ∨ u = w) := fun u => by
          rw [List.take_add_one, List.getElem?_eq_getElem r5, ← gd r5, hw, List.mem_append]
          simp only [Option.toList, List.mem_singleton]
          constructor
          · rintro (h5 | h5)
            · exact .inl h5
            · exact .inr (by omega)
          · rintro (h5 | h5)
            · exact .inl h5
            · exact .inr (by omega)
        have hnt : ¬ ((w : Nat) : Int) ∈ (rowOf st cs b).take j := fun hc => by
          obtain ⟨i, hi, e⟩ := mem_getD.1 hc
          simp only [List.length_take] at hi
          rw [List.getD_eq_getElem?_getD, List.getElem?_take, if_pos (by omega), ← List.getD_eq_getElem?_getD] at e
          have := row_lt q4 (show i < j by omega) r5
          omega
        rw [if_neg hnt] at hAw
        have hcl : cnt st cs (ist st cs v k).P w ≤ v := Nat.le_trans cnt_le (row_len hm hwn)
        simp only [if_neg hnt]
        refine ⟨by omega, by omega, by omega, by omega, by omega, by omega, by omega, by omega, .inl ⟨(rowOf st cs b).length - (j + 1), by omega, j + 1, _, rfl, by omega, hb'.keep (fun id e h1 h2 => ⟨h2, by rw [List.getElem?_set_ne (fun e => h2 (.inr (.inr e.symm)))]⟩), by rw [List.length_set]; exact hA2, fun u hu => ?_, (List.getElem?_set_ne (by omega)).trans f0, (List.getElem?_set_ne (by omega)).trans f1, List.getElem?_set_self lh, by omega⟩⟩
        rw [getI_set (by omega)]
        by_cases e : u = w
        · subst e
          rw [if_pos rfl, if_pos ((htk u).2 (.inr rfl))]
          omega
        · rw [if_neg e, hA2c u hu]
          have : ((u : Int) ∈ (rowOf st cs b).take (j + 1) ↔ (u : Int) ∈ (rowOf st cs b).take j) := by rw [htk]; simp [e]
          simp only [this]
      · have r6 : ¬ (j : Int) < ((rowOf st cs b).length : Int) := by omega
        obtain rfl : j = (rowOf st cs b).length := by omega
        simp (maxSteps := 4000000) only [↓packA, ↓reduceIte, packB, pureOp, quietOp, loadOp, quietB, fr0, cellsK, implies_true, ite_true, ite_false, eq_self, ne_eq, reduceCtorEq, Nat.reduceLT, Nat.reduceLeDiff, Nat.reduceAdd, Nat.reduceMul, Nat.reduceBEq, Nat.reduceEqDiff, Int.reduceToNat, Int.reduceLT, Int.reduceLE, Nat.reduceSub, pl56, ft1, ft2, ft3, ft4, ft22, ft24, ft96, a2, a6, a7, a8, a20, a21, a69, a70, a71, r6, f0, f1, f2, ints]
        refine ⟨by omega, .inl ⟨v - (k + 1), by omega, k + 1, _, A2, rfl, by omega, by rw [hsL]; exact hb', hA2, fun u hu => ?_, by rw [hsP], rfl, rfl, by omega⟩⟩
        rw [hA2c u hu, List.take_of_length_le (Nat.le_refl _), hsP, cnt_put hg hbn hu hfb (by omega)]
        split <;> simp
  · have r1 : ¬ (k : Int) < (n : Int) := by omega
    obtain rfl : k = n := by omega
    simp (maxSteps := 4000000) only [↓packA, ↓reduceIte, packB, pureOp, quietOp, loadOp, quietB, fr0, cellsK, implies_true, ite_true, ite_false, eq_self, ne_eq, reduceCtorEq, Nat.reduceLT, Nat.reduceLeDiff, Nat.reduceAdd, Nat.reduceMul, Nat.reduceBEq, Nat.reduceEqDiff, Int.reduceToNat, Int.reduceLT, Int.reduceLE, Nat.reduceSub, pl56, ft1, ft2, ft3, ft4, ft22, ft24, ft96, a2, a6, a7, a8, a20, a21, r1, g0]
    exact ⟨_, rfl, hb1.keep fun id _ _ _ => ⟨fun h => h, rfl⟩⟩
theorem inc_c (n : Nat) (hn : n ≤ 128) (st cs : List Int) (hb : st.length < 1000000000) (hb2 : cs.length < 1000000000) (hg : graphP n n st cs) (xs : AV) : ACalls Tryz.prog 56 [pat n n st cs, xs] [] fun v h => OFz h v (.tup [ints (incL st cs n), .int .i64 0]) := (inc_b n hn st cs hb hb2 hg xs).mono fun u h hh => by
  obtain ⟨x, rfl, hx⟩ := hh
  exact .two (bc_ofz hx) (.flat _ rfl)
end Go.Proofs.YtgdlkhgfehclpaaGreat
end

section
/- Order of any kind: scripts, both. No condition. -/
namespace Go.Proofs.YtgdlkhgfehclpaaGreat
open Go Go.AL
set_option linter.unusedVariables false
set_option linter.unusedSimpArgs false
set_option maxRecDepth 100000 in
theorem clone_b (xs : List Int) (hb : xs.length < 1000000) : ACalls Tryz.prog 87 [ints xs] [] fun v h => BC (fun _ => False) h v xs := by
  refine (wp87 rfl rfl ?_)
  simp (maxSteps := 4000000) only [↓packA, ↓reduceIte, packB, pureOp, quietOp, loadOp, quietB, fr0, cellsK, implies_true, ite_true, ite_false, eq_self, ne_eq, reduceCtorEq, Nat.reduceLT, Nat.reduceLeDiff, Nat.reduceAdd, Nat.reduceMul, Nat.reduceBEq, Nat.reduceEqDiff, Int.reduceToNat, Int.reduceLT, Int.reduceLE, Nat.reduceSub, pl87, ft3, ft22, ints]
  refine ⟨fun e => .inl ⟨rfl, by simpa using e⟩, by omega, fun e => ⟨e, ?_⟩, fun e c hc => ?_⟩
  · obtain rfl : xs = [] := List.length_eq_zero_iff.1 (by omega)
    exact .inr ⟨0, 0, 0, true, [], true, rfl, fun h => h, rfl, by simp, by simp, ⟨by simp, rfl⟩, rfl⟩
  · exact .inr ⟨1, xs.length, c, true, xs ++ List.replicate (c - xs.length) 0, true, rfl, fun h => h, by rw [List.map_append]; rfl, hc, by simp; omega, ⟨hb, rfl⟩, List.take_left' rfl⟩
theorem clone_c (xs : List Int) (hb : xs.length < 1000000) : ACalls Tryz.prog 87 [ints xs] [] fun v h => OFz h v (ints xs) := (clone_b xs hb).mono fun u h hh => bc_ofz hh
noncomputable def scrE (n : Int) (xs : List Int) : Int := if checkR n xs = 0 then 0 else 182
noncomputable def scrL (n : Int) (xs : List Int) : List Int := if checkR n xs = 0 then xs else []
set_option maxRecDepth 100000 in
theorem scr_c (n : Nat) (hn : n ≤ 128) (st cs xs : List Int) : ACalls Tryz.prog 57 [pat n n st cs, ints xs] [] fun v h => OFz h v (.tup [ints (scrL n xs), .int .i64 (scrE n xs)]) := by
  refine (wp57 rfl rfl ?_)
  simp (maxSteps := 4000000) only [↓packA, ↓reduceIte, packB, pureOp, quietOp, loadOp, quietB, fr0, cellsK, implies_true, ite_true, ite_false, eq_self, ne_eq, reduceCtorEq, Nat.reduceLT, Nat.reduceLeDiff, Nat.reduceAdd, Nat.reduceMul, Nat.reduceBEq, Nat.reduceEqDiff, Int.reduceToNat, Int.reduceLT, Int.reduceLE, Nat.reduceSub, pl57, ft3, ft22, ft24, ft50, ints]
  refine acalls_pure (check_c n xs) rfl ?_
  by_cases c : checkR n xs = 0
  · simp (maxSteps := 4000000) only [↓packA, ↓reduceIte, packB, pureOp, quietOp, loadOp, quietB, fr0, cellsK, implies_true, ite_true, ite_false, eq_self, ne_eq, reduceCtorEq, Nat.reduceLT, Nat.reduceLeDiff, Nat.reduceAdd, Nat.reduceMul, Nat.reduceBEq, Nat.reduceEqDiff, Int.reduceToNat, Int.reduceLT, Int.reduceLE, Nat.reduceSub, pl57, ft3, ft22, ft24, ft50, ints, c, Int.cast_ofNat_Int, Int.natCast_zero, Int.natCast_one, Int.reduceAdd, Int.reduceSub, Int.reduceNeg, Int.reduceMul, Int.reduceToNat, Int.reduceLT, Int.reduceLE, Int.reduceEq, Int.reduceBEq, Int.reduceBNe, Nat.reduceSub, Nat.reduceLT, List.getD_cons_zero, List.getD_cons_succ, List.length_singleton, Bool.and_true, Bool.and_false]
    have hxl : xs.length ≤ 128 := by have := checkR_zero c; omega
    refine acalls_ofz (clone_c xs (by omega)) rfl (fun u h0 hz _ => ?_)
    simp (maxSteps := 4000000) only [↓packA, ↓reduceIte, packB, pureOp, quietOp, loadOp, quietB, fr0, cellsK, implies_true, ite_true, ite_false, eq_self, ne_eq, reduceCtorEq, Nat.reduceLT, Nat.reduceLeDiff, Nat.reduceAdd, Nat.reduceMul, Nat.reduceBEq, Nat.reduceEqDiff, Int.reduceToNat, Int.reduceLT, Int.reduceLE, Nat.reduceSub, pl57, ft3, ft22, ft24, ft50, ints]
    have e1 : scrL n xs = xs := if_pos c
    have e2 : scrE n xs = 0 := if_pos c
    rw [e1, e2]
    exact .two hz (.flat _ rfl)
  · simp (maxSteps := 4000000) only [↓packA, ↓reduceIte, packB, pureOp, quietOp, loadOp, quietB, fr0, cellsK, implies_true, ite_true, ite_false, eq_self, ne_eq, reduceCtorEq, Nat.reduceLT, Nat.reduceLeDiff, Nat.reduceAdd, Nat.reduceMul, Nat.reduceBEq, Nat.reduceEqDiff, Int.reduceToNat, Int.reduceLT, Int.reduceLE, Nat.reduceSub, pl57, ft3, ft22, ft24, ft50, ints, c]
    have e1 : scrL n xs = [] := if_neg c
    have e2 : scrE n xs = 182 := if_neg c
    have e3 : checkR n xs = 182 := by
      unfold checkR at c ⊢
      rw [if_neg (by omega)] at c ⊢
      split
      · rfl
      · rename_i h1
        rw [if_neg h1] at c
        split
        · rename_i h2
          rw [if_pos h2] at c; exact absurd rfl c
        · rfl
    rw [e1, e2, e3]
    exact .two (.nils 1) (.flat _ rfl)
end Go.Proofs.YtgdlkhgfehclpaaGreat
end

section
/- Smallest last, the document's. No condition. -/
namespace Go.Proofs.YtgdlkhgfehclpaaGreat
open Go Go.AL
set_option linter.unusedVariables false
set_option linter.unusedSimpArgs false
def bestI (st cs : List Int) (S : List Bool) (k : Nat) : Int := match bestB st cs S k with
  | none => -1
  | some b => b
theorem bestI_succ {st cs : List Int} {S : List Bool} {k : Nat} : bestI st cs S (k + 1) = if S.getD k false = true ∧ (bestI st cs S k < 0 ∨ cnt st cs S k ≤ cnt st cs S (bestI st cs S k).toNat) then (k : Int) else bestI st cs S k := by
  unfold bestI
  rw [bestB]
  cases hb : bestB st cs S k with
  | none =>
    simp only
    by_cases c : S.getD k false = true
    · rw [if_pos c, if_pos ⟨c, .inl (by omega)⟩]
    · rw [if_neg c, if_neg (fun h => c h.1)]
  | some b =>
    simp only [Int.toNat_natCast]
    by_cases c : S.getD k false = true ∧ cnt st cs S k ≤ cnt st cs S b
    · rw [if_pos c, if_pos ⟨c.1, .inr c.2⟩]
    · rw [if_neg c, if_neg (fun h => c ⟨h.1, h.2.resolve_left (by omega)⟩)]
theorem bestI_in {st cs : List Int} {S : List Bool} {k : Nat} : -1 ≤ bestI st cs S k ∧ bestI st cs S k < k := by
  unfold bestI
  cases hb : bestB st cs S k with
  | none => simp only; omega
  | some b => have := (best_some hb).1; simp only; omega
set_option maxHeartbeats 4000000 in
set_option maxRecDepth 100000 in
theorem rsmall_c (n : Nat) (hn : n ≤ 128) (st cs : List Int) (hb : st.length < 1000000000) (hb2 : cs.length < 1000000000) (hm : mayP n n st cs) : ACalls Tryz.prog 93 [pat n n st cs] [] fun v h => ∃ H : List Int, OFz h v (.tup [ints (ordOf st cs n), ints H]) := by
  refine (wp93 rfl rfl ?_)
  simp (maxSteps := 4000000) only [↓packA, ↓reduceIte, packB, pureOp, quietOp, loadOp, quietB, fr0, cellsK, implies_true, ite_true, ite_false, eq_self, ne_eq, reduceCtorEq, Nat.reduceLT, Nat.reduceLeDiff, Nat.reduceAdd, Nat.reduceMul, Nat.reduceBEq, Nat.reduceEqDiff, Int.reduceToNat, Int.reduceLT, Int.reduceLE, Nat.reduceSub, pl93, ft3, ft4, ft22, ft24, ft96, ints]
  refine acalls_shift (full_c n hn) rfl ?_
  rintro u h0 ⟨rfl, rfl⟩
  simp (maxSteps := 4000000) only [↓packA, ↓reduceIte, packB, pureOp, quietOp, loadOp, quietB, fr0, cellsK, implies_true, ite_true, ite_false, eq_self, ne_eq, reduceCtorEq, Nat.reduceLT, Nat.reduceLeDiff, Nat.reduceAdd, Nat.reduceMul, Nat.reduceBEq, Nat.reduceEqDiff, Int.reduceToNat, Int.reduceLT, Int.reduceLE, Nat.reduceSub, pl93, ft3, ft4, ft22, ft24, ft96, ints]
  refine ⟨by omega, by omega, by omega, ?_⟩
  refine LoopK.intro (fun m a g => ∃ (k : Nat) (H : List Int), m = n - k ∧ k ≤ n ∧ H.length = n ∧ g = [patO n n st cs, .arr 1 (List.map boolE (pst st cs n k).S) true, .arr 1 (List.map intE (pst st cs n k).O) true, .arr 1 (List.map intE H) true] ∧ a 1 = .op 0 4 0 0 ∧ a 4 = .osl 1 1 0 n n true ∧ a 5 = .osl 2 1 0 n n true ∧ a 6 = .osl 3 1 0 n n true ∧ a 7 = .int .i64 ((n : Int) - 1 - k)) n ⟨0, List.replicate n 0, rfl, Nat.zero_le _, by simp, ?_⟩ ?_
  · simp (maxSteps := 4000000) only [↓packA, ↓reduceIte, packB, pureOp, quietOp, loadOp, quietB, fr0, cellsK, implies_true, ite_true, ite_false, eq_self, ne_eq, reduceCtorEq, Nat.reduceLT, Nat.reduceLeDiff, Nat.reduceAdd, Nat.reduceMul, Nat.reduceBEq, Nat.reduceEqDiff, Int.reduceToNat, Int.reduceLT, Int.reduceLE, Nat.reduceSub, pl93, ft3, ft4, ft22, ft24, ft96, patO, ints, pst, Int.natCast_zero, Int.sub_zero]
  rintro m a g ⟨k, H, rfl, hk, hH, rfl, a1, a4, a5, a6, a7⟩
  obtain ⟨pS, pO, pC⟩ := pst_len st cs n k
  by_cases r : k < n
  · have r1 : (n : Int) - 1 - (k : Int) ≥ 0 := by omega
    simp (maxSteps := 4000000) only [↓packA, ↓reduceIte, packB, pureOp, quietOp, loadOp, quietB, fr0, cellsK, implies_true, ite_true, ite_false, eq_self, ne_eq, reduceCtorEq, Nat.reduceLT, Nat.reduceLeDiff, Nat.reduceAdd, Nat.reduceMul, Nat.reduceBEq, Nat.reduceEqDiff, Int.reduceToNat, Int.reduceLT, Int.reduceLE, Nat.reduceSub, pl93, ft3, ft4, ft22, ft24, ft96, a1, a4, a5, a6, a7, r1, patO, ints]
    refine LoopK.intro (fun m a g => ∃ (v : Nat), m = n - v ∧ v ≤ n ∧ g = [patO n n st cs, .arr 1 (List.map boolE (pst st cs n k).S) true, .arr 1 (List.map intE (pst st cs n k).O) true, .arr 1 (List.map intE H) true] ∧ a 1 = .op 0 4 0 0 ∧ a 4 = .osl 1 1 0 n n true ∧ a 5 = .osl 2 1 0 n n true ∧ a 6 = .osl 3 1 0 n n true ∧ a 7 = .int .i64 ((n : Int) - 1 - k) ∧ a 8 = .int .i64 (bestI st cs (pst st cs n k).S v) ∧ a 9 = .int .i64 v) n ⟨0, rfl, Nat.zero_le _, ?_⟩ ?_
    · simp (maxSteps := 4000000) only [↓packA, ↓reduceIte, packB, pureOp, quietOp, loadOp, quietB, fr0, cellsK, implies_true, ite_true, ite_false, eq_self, ne_eq, reduceCtorEq, Nat.reduceLT, Nat.reduceLeDiff, Nat.reduceAdd, Nat.reduceMul, Nat.reduceBEq, Nat.reduceEqDiff, Int.reduceToNat, Int.reduceLT, Int.reduceLE, Nat.reduceSub, pl93, ft3, ft4, ft22, ft24, ft96, a1, a4, a5, a6, a7, patO, ints, bestI, bestB, Int.natCast_zero]
    clear a1 a4 a5 a6 a7
    rintro m a g ⟨v, rfl, hv, rfl, a1, a4, a5, a6, a7, a8, a9⟩
    have hi := bestI_in (st := st) (cs := cs) (S := (pst st cs n k).S) (k := v)
    have hsu := bestI_succ (st := st) (cs := cs) (S := (pst st cs n k).S) (k := v)
    by_cases r2 : v < n
    · have r3 : (v : Int) < (n : Int) := by omega
      cases hP : (pst st cs n k).S.getD v false with
      | false =>
        have hP' : (pst st cs n k).S.getD v default = false := hP
        rw [if_neg (by rw [hP]; simp)] at hsu
        simp (maxSteps := 4000000) only [↓packA, ↓reduceIte, packB, pureOp, quietOp, loadOp, quietB, fr0, cellsK, implies_true, ite_true, ite_false, eq_self, ne_eq, reduceCtorEq, Nat.reduceLT, Nat.reduceLeDiff, Nat.reduceAdd, Nat.reduceMul, Nat.reduceBEq, Nat.reduceEqDiff, Int.reduceToNat, Int.reduceLT, Int.reduceLE, Nat.reduceSub, pl93, ft3, ft4, ft22, ft24, ft96, a1, a4, a5, a6, a7, a8, a9, r3, hP', patO, ints]
        exact ⟨by omega, by omega, by omega, .inl ⟨n - (v + 1), by omega, v + 1, rfl, by omega, hsu.symm, by omega⟩⟩
      | true =>
        have hP' : (pst st cs n k).S.getD v default = true := hP
        by_cases r4 : bestI st cs (pst st cs n k).S v < 0
        · rw [if_pos ⟨hP, .inl r4⟩] at hsu
          simp (maxSteps := 4000000) only [↓packA, ↓reduceIte, packB, pureOp, quietOp, loadOp, quietB, fr0, cellsK, implies_true, ite_true, ite_false, eq_self, ne_eq, reduceCtorEq, Nat.reduceLT, Nat.reduceLeDiff, Nat.reduceAdd, Nat.reduceMul, Nat.reduceBEq, Nat.reduceEqDiff, Int.reduceToNat, Int.reduceLT, Int.reduceLE, Nat.reduceSub, pl93, ft3, ft4, ft22, ft24, ft96, a1, a4, a5, a6, a7, a8, a9, r3, hP', r4, patO, ints]
          exact ⟨by omega, by omega, by omega, .inl ⟨n - (v + 1), by omega, v + 1, rfl, by omega, hsu.symm, by omega⟩⟩
        · obtain ⟨b, hb4⟩ : ∃ b : Nat, bestI st cs (pst st cs n k).S v = (b : Int) := ⟨(bestI st cs (pst st cs n k).S v).toNat, by omega⟩
          rw [hb4] at hsu r4 a8 hi
          rw [Int.toNat_natCast] at hsu
          simp (maxSteps := 4000000) only [↓packA, ↓reduceIte, packB, pureOp, quietOp, loadOp, quietB, fr0, cellsK, implies_true, ite_true, ite_false, eq_self, ne_eq, reduceCtorEq, Nat.reduceLT, Nat.reduceLeDiff, Nat.reduceAdd, Nat.reduceMul, Nat.reduceBEq, Nat.reduceEqDiff, Int.reduceToNat, Int.reduceLT, Int.reduceLE, Nat.reduceSub, pl93, ft3, ft4, ft22, ft24, ft96, a1, a4, a5, a6, a7, a8, a9, r3, hP', r4, patO, ints]
          refine ⟨by omega, by omega, acalls_lend (among_c n st cs (pst st cs n k).S hb hb2 hm hn v r2 pS) (.cons (.pure _ rfl) (.cons (.pure _ rfl) (.cons (frz_bools rfl pS) .nil))) rfl ?_⟩
          simp (maxSteps := 4000000) only [↓packA, ↓reduceIte, packB, pureOp, quietOp, loadOp, quietB, fr0, cellsK, implies_true, ite_true, ite_false, eq_self, ne_eq, reduceCtorEq, Nat.reduceLT, Nat.reduceLeDiff, Nat.reduceAdd, Nat.reduceMul, Nat.reduceBEq, Nat.reduceEqDiff, Int.reduceToNat, Int.reduceLT, Int.reduceLE, Nat.reduceSub, pl93, ft3, ft4, ft22, ft24, ft96, a1, a4, a5, a6, a7, a8, a9, r3, hP', r4, patO, ints]
          refine acalls_lend (among_c n st cs (pst st cs n k).S hb hb2 hm hn b (by omega) pS) (.cons (.pure _ rfl) (.cons (.pure _ rfl) (.cons (frz_bools rfl pS) .nil))) rfl ?_
          by_cases r5 : cnt st cs (pst st cs n k).S v ≤ cnt st cs (pst st cs n k).S b
          · rw [if_pos ⟨hP, .inr r5⟩] at hsu
            have r6 : ((cnt st cs (pst st cs n k).S v : Nat) : Int) ≤ (cnt st cs (pst st cs n k).S b : Nat) := by omega
            simp (maxSteps := 4000000) only [↓packA, ↓reduceIte, packB, pureOp, quietOp, loadOp, quietB, fr0, cellsK, implies_true, ite_true, ite_false, eq_self, ne_eq, reduceCtorEq, Nat.reduceLT, Nat.reduceLeDiff, Nat.reduceAdd, Nat.reduceMul, Nat.reduceBEq, Nat.reduceEqDiff, Int.reduceToNat, Int.reduceLT, Int.reduceLE, Nat.reduceSub, pl93, ft3, ft4, ft22, ft24, ft96, a1, a4, a5, a6, a7, a8, a9, r3, hP', r4, patO, ints, r6]
            exact ⟨by omega, .inl ⟨n - (v + 1), by omega, v + 1, rfl, by omega, hsu.symm, by omega⟩⟩
          · rw [if_neg (fun h => h.2.elim r4 r5)] at hsu
            have r6 : ¬ ((cnt st cs (pst st cs n k).S v : Nat) : Int) ≤ (cnt st cs (pst st cs n k).S b : Nat) := by omega
            simp (maxSteps := 4000000) only [↓packA, ↓reduceIte, packB, pureOp, quietOp, loadOp, quietB, fr0, cellsK, implies_true, ite_true, ite_false, eq_self, ne_eq, reduceCtorEq, Nat.reduceLT, Nat.reduceLeDiff, Nat.reduceAdd, Nat.reduceMul, Nat.reduceBEq, Nat.reduceEqDiff, Int.reduceToNat, Int.reduceLT, Int.reduceLE, Nat.reduceSub, pl93, ft3, ft4, ft22, ft24, ft96, a1, a4, a5, a6, a7, a8, a9, r3, hP', r4, patO, ints, r6]
            exact ⟨by omega, .inl ⟨n - (v + 1), by omega, v + 1, rfl, by omega, hsu.symm, by omega⟩⟩
    · have r3 : ¬ (v : Int) < (n : Int) := by omega
      obtain rfl : v = n := by omega
      have hbv := best_uniq (bv_best (st := st) (cs := cs) r)
      have hbi : bestI st cs (pst st cs v k).S v = bv st cs v k := by unfold bestI; rw [hbv]
      rw [hbi] at a8 hi
      have hps := pst_next (st := st) (cs := cs) r
      generalize bv st cs v k = b at *
      simp (maxSteps := 4000000) only [↓packA, ↓reduceIte, packB, pureOp, quietOp, loadOp, quietB, fr0, cellsK, implies_true, ite_true, ite_false, eq_self, ne_eq, reduceCtorEq, Nat.reduceLT, Nat.reduceLeDiff, Nat.reduceAdd, Nat.reduceMul, Nat.reduceBEq, Nat.reduceEqDiff, Int.reduceToNat, Int.reduceLT, Int.reduceLE, Nat.reduceSub, pl93, ft3, ft4, ft22, ft24, ft96, a1, a4, a5, a6, a7, a8, a9, r3, patO, ints]
      refine acalls_lend (among_c v st cs (pst st cs v k).S hb hb2 hm hn b (by omega) pS) (.cons (.pure _ rfl) (.cons (.pure _ rfl) (.cons (frz_bools rfl pS) .nil))) rfl ?_
      simp (maxSteps := 4000000) only [↓packA, ↓reduceIte, packB, pureOp, quietOp, loadOp, quietB, fr0, cellsK, implies_true, ite_true, ite_false, eq_self, ne_eq, reduceCtorEq, Nat.reduceLT, Nat.reduceLeDiff, Nat.reduceAdd, Nat.reduceMul, Nat.reduceBEq, Nat.reduceEqDiff, Int.reduceToNat, Int.reduceLT, Int.reduceLE, Nat.reduceSub, pl93, ft3, ft4, ft22, ft24, ft96, a1, a4, a5, a6, a7, a8, a9, r3, patO, ints]
      refine ⟨by omega, by omega, by omega, by omega, by omega, by omega, by omega, .inl ⟨v - (k + 1), by omega, k + 1, H.set b (cnt st cs (pst st cs v k).S b), rfl, by omega, by rw [List.length_set]; exact hH, ?_, by omega⟩⟩
      rw [hps, show ((v : Int) - 1 - k).toNat = v - 1 - k by omega]
  · have r1 : ¬ (n : Int) - 1 - (k : Int) ≥ 0 := by omega
    obtain rfl : k = n := by omega
    simp (maxSteps := 4000000) only [↓packA, ↓reduceIte, packB, pureOp, quietOp, loadOp, quietB, fr0, cellsK, implies_true, ite_true, ite_false, eq_self, ne_eq, reduceCtorEq, Nat.reduceLT, Nat.reduceLeDiff, Nat.reduceAdd, Nat.reduceMul, Nat.reduceBEq, Nat.reduceEqDiff, Int.reduceToNat, Int.reduceLT, Int.reduceLE, Nat.reduceSub, pl93, ft3, ft4, ft22, ft24, ft96, a1, a4, a5, a6, a7, r1, patO, ints]
    exact ⟨H, .two (ofz_ints (l := (pst st cs k k).O) rfl pO.symm) (ofz_ints rfl hH.symm)⟩
end Go.Proofs.YtgdlkhgfehclpaaGreat
end

section
/- Order of every kind, both; the law OrderOrders, walked. No condition. -/
namespace Go.Proofs.YtgdlkhgfehclpaaGreat
open Go Go.AL
set_option linter.unusedVariables false
set_option linter.unusedSimpArgs false
/-- The order of a kind, and the error's number. -/
noncomputable def ordL (kd rows width : Int) (st cs xs : List Int) : List Int :=
  if graphP rows width st cs then (if kd = 1 then natL rows.toNat else if kd = 2 then lgL st cs rows.toNat else if kd = 3 then ordOf st cs rows.toNat else if kd = 4 then incL st cs rows.toNat else if kd = 5 then scrL rows xs else []) else []
noncomputable def ordE (kd rows width : Int) (st cs xs : List Int) : Int :=
  if graphP rows width st cs then (if kd = 1 then 0 else if kd = 2 then 0 else if kd = 3 then 0 else if kd = 4 then 0 else if kd = 5 then scrE rows xs else 221) else 220
noncomputable def ordV (kd rows width : Int) (st cs xs : List Int) : AV := .tup [ints (ordL kd rows width st cs xs), .int .i64 (ordE kd rows width st cs xs)]
set_option maxHeartbeats 4000000 in
set_option maxRecDepth 100000 in
theorem order_c (kd rows width : Int) (st cs xs : List Int) (hb : st.length < 1000000000) (hb2 : cs.length < 1000000000) (hbx : xs.length < 1000000000) : ACalls Tryz.prog 6 [.int .i64 kd, pat rows width st cs, ints xs] [] fun v h => OFz h v (ordV kd rows width st cs xs) := by
  refine (wp6 rfl rfl ?_)
  simp (maxSteps := 4000000) only [↓packA, ↓reduceIte, packB, pureOp, quietOp, loadOp, quietB, fr0, cellsK, implies_true, ite_true, ite_false, eq_self, ne_eq, reduceCtorEq, Nat.reduceLT, Nat.reduceLeDiff, Nat.reduceAdd, Nat.reduceMul, Nat.reduceBEq, Nat.reduceEqDiff, Int.reduceToNat, Int.reduceLT, Int.reduceLE, Nat.reduceSub, pl6, ft3, ft4, ft22, ft24, ft49, ft63, ft65, ft66, ints]
  refine acalls_pure (graph_c rows width st cs hb hb2) rfl ?_
  by_cases hg : graphP rows width st cs
  · obtain ⟨n, rfl, rfl, hn⟩ := graph_sides hg
    have hm := hg.1.1
    by_cases c1 : kd < 1
    · have e : ordV kd n n st cs xs = .tup [ints [], .int .i64 221] := by
        unfold ordV ordL ordE
        simp only [if_pos hg, if_neg (show ¬ kd = 1 by omega), if_neg (show ¬ kd = 2 by omega), if_neg (show ¬ kd = 3 by omega), if_neg (show ¬ kd = 4 by omega), if_neg (show ¬ kd = 5 by omega)]
      rw [e]
      simp (maxSteps := 4000000) only [↓packA, ↓reduceIte, packB, pureOp, quietOp, loadOp, quietB, fr0, cellsK, implies_true, ite_true, ite_false, eq_self, ne_eq, reduceCtorEq, Nat.reduceLT, Nat.reduceLeDiff, Nat.reduceAdd, Nat.reduceMul, Nat.reduceBEq, Nat.reduceEqDiff, Int.reduceToNat, Int.reduceLT, Int.reduceLE, Nat.reduceSub, pl6, ft3, ft4, ft22, ft24, ft49, ft63, ft65, ft66, ints, hg, c1]
      exact .two (.nils 1) (.flat _ rfl)
    by_cases c5 : kd > 5
    · have e : ordV kd n n st cs xs = .tup [ints [], .int .i64 221] := by
        unfold ordV ordL ordE
        simp only [if_pos hg, if_neg (show ¬ kd = 1 by omega), if_neg (show ¬ kd = 2 by omega), if_neg (show ¬ kd = 3 by omega), if_neg (show ¬ kd = 4 by omega), if_neg (show ¬ kd = 5 by omega)]
      rw [e]
      simp (maxSteps := 4000000) only [↓packA, ↓reduceIte, packB, pureOp, quietOp, loadOp, quietB, fr0, cellsK, implies_true, ite_true, ite_false, eq_self, ne_eq, reduceCtorEq, Nat.reduceLT, Nat.reduceLeDiff, Nat.reduceAdd, Nat.reduceMul, Nat.reduceBEq, Nat.reduceEqDiff, Int.reduceToNat, Int.reduceLT, Int.reduceLE, Nat.reduceSub, pl6, ft3, ft4, ft22, ft24, ft49, ft63, ft65, ft66, ints, hg, c1, c5]
      exact .two (.nils 1) (.flat _ rfl)
    have hk : kd = 1 ∨ kd = 2 ∨ kd = 3 ∨ kd = 4 ∨ kd = 5 := by omega
    have he : ∀ d l e, d = kd → ordL d n n st cs xs = l → ordE d n n st cs xs = e → ordV kd n n st cs xs = .tup [ints l, .int .i64 e] := fun d l e h1 h2 h3 => by rw [← h2, ← h3, h1]; rfl
    rcases hk with rfl | rfl | rfl | rfl | rfl
    · rw [he 1 (natL n) 0 rfl (by unfold ordL; simp [hg]) (by unfold ordE; simp [hg])]
      simp (maxSteps := 4000000) only [↓packA, ↓reduceIte, packB, pureOp, quietOp, loadOp, quietB, fr0, cellsK, implies_true, ite_true, ite_false, eq_self, ne_eq, reduceCtorEq, Nat.reduceLT, Nat.reduceLeDiff, Nat.reduceAdd, Nat.reduceMul, Nat.reduceBEq, Nat.reduceEqDiff, Int.reduceToNat, Int.reduceLT, Int.reduceLE, Nat.reduceSub, pl6, ft3, ft4, ft22, ft24, ft49, ft63, ft65, ft66, ints, hg, Int.cast_ofNat_Int, Int.natCast_zero, Int.natCast_one, Int.reduceAdd, Int.reduceSub, Int.reduceNeg, Int.reduceMul, Int.reduceToNat, Int.reduceLT, Int.reduceLE, Int.reduceEq, Int.reduceBEq, Int.reduceBNe, Nat.reduceSub, Nat.reduceLT, List.getD_cons_zero, List.getD_cons_succ, List.length_singleton, Bool.and_true, Bool.and_false]
      refine wp20 rfl rfl ?_
      simp (maxSteps := 4000000) only [↓packA, ↓reduceIte, packB, pureOp, quietOp, loadOp, quietB, fr0, cellsK, implies_true, ite_true, ite_false, eq_self, ne_eq, reduceCtorEq, Nat.reduceLT, Nat.reduceLeDiff, Nat.reduceAdd, Nat.reduceMul, Nat.reduceBEq, Nat.reduceEqDiff, Int.reduceToNat, Int.reduceLT, Int.reduceLE, Nat.reduceSub, pl20, ft63, ft65, ft66, pl6, ft3, ft4, ft22, ft24, ft49, fpl102, patch, tagg99, tsize99, Int.cast_ofNat_Int, Int.natCast_zero, Int.natCast_one, Int.reduceAdd, Int.reduceSub, Int.reduceNeg, Int.reduceMul, Int.reduceToNat, Int.reduceLT, Int.reduceLE, Int.reduceEq, Int.reduceBEq, Int.reduceBNe, Nat.reduceSub, Nat.reduceLT, List.getD_cons_zero, List.getD_cons_succ, List.length_singleton, Bool.and_true, Bool.and_false]
      refine nat_at n hn st cs (F := fun _ => False) (fun i hi => hi.elim) (fun x G _ _ hbx => ?_)
      simp (maxSteps := 4000000) only [↓packA, ↓reduceIte, packB, pureOp, quietOp, loadOp, quietB, fr0, cellsK, implies_true, ite_true, ite_false, eq_self, ne_eq, reduceCtorEq, Nat.reduceLT, Nat.reduceLeDiff, Nat.reduceAdd, Nat.reduceMul, Nat.reduceBEq, Nat.reduceEqDiff, Int.reduceToNat, Int.reduceLT, Int.reduceLE, Nat.reduceSub, pl6, ft3, ft4, ft22, ft24, ft49, ft63, ft65, ft66, Int.cast_ofNat_Int, Int.natCast_zero, Int.natCast_one, Int.reduceAdd, Int.reduceSub, Int.reduceNeg, Int.reduceMul, Int.reduceToNat, Int.reduceLT, Int.reduceLE, Int.reduceEq, Int.reduceBEq, Int.reduceBNe, Nat.reduceSub, Nat.reduceLT, List.getD_cons_zero, List.getD_cons_succ, List.length_singleton, Bool.and_true, Bool.and_false]
      exact .two (bc_ofz hbx) (.flat _ rfl)
    · rw [he 2 (lgL st cs n) 0 rfl (by unfold ordL; simp [hg]) (by unfold ordE; simp [hg])]
      simp (maxSteps := 4000000) only [↓packA, ↓reduceIte, packB, pureOp, quietOp, loadOp, quietB, fr0, cellsK, implies_true, ite_true, ite_false, eq_self, ne_eq, reduceCtorEq, Nat.reduceLT, Nat.reduceLeDiff, Nat.reduceAdd, Nat.reduceMul, Nat.reduceBEq, Nat.reduceEqDiff, Int.reduceToNat, Int.reduceLT, Int.reduceLE, Nat.reduceSub, pl6, ft3, ft4, ft22, ft24, ft49, ft63, ft65, ft66, ints, hg, Int.cast_ofNat_Int, Int.natCast_zero, Int.natCast_one, Int.reduceAdd, Int.reduceSub, Int.reduceNeg, Int.reduceMul, Int.reduceToNat, Int.reduceLT, Int.reduceLE, Int.reduceEq, Int.reduceBEq, Int.reduceBNe, Nat.reduceSub, Nat.reduceLT, List.getD_cons_zero, List.getD_cons_succ, List.length_singleton, Bool.and_true, Bool.and_false]
      refine wp20 rfl rfl ?_
      simp (maxSteps := 4000000) only [↓packA, ↓reduceIte, packB, pureOp, quietOp, loadOp, quietB, fr0, cellsK, implies_true, ite_true, ite_false, eq_self, ne_eq, reduceCtorEq, Nat.reduceLT, Nat.reduceLeDiff, Nat.reduceAdd, Nat.reduceMul, Nat.reduceBEq, Nat.reduceEqDiff, Int.reduceToNat, Int.reduceLT, Int.reduceLE, Nat.reduceSub, pl20, ft63, ft65, ft66, pl6, ft3, ft4, ft22, ft24, ft49, fpl102, patch, tagg99, tsize99, Int.cast_ofNat_Int, Int.natCast_zero, Int.natCast_one, Int.reduceAdd, Int.reduceSub, Int.reduceNeg, Int.reduceMul, Int.reduceToNat, Int.reduceLT, Int.reduceLE, Int.reduceEq, Int.reduceBEq, Int.reduceBNe, Nat.reduceSub, Nat.reduceLT, List.getD_cons_zero, List.getD_cons_succ, List.length_singleton, Bool.and_true, Bool.and_false]
      refine lar_at n hn st cs hb hb2 hm (fun x G hbx => ?_)
      simp (maxSteps := 4000000) only [↓packA, ↓reduceIte, packB, pureOp, quietOp, loadOp, quietB, fr0, cellsK, implies_true, ite_true, ite_false, eq_self, ne_eq, reduceCtorEq, Nat.reduceLT, Nat.reduceLeDiff, Nat.reduceAdd, Nat.reduceMul, Nat.reduceBEq, Nat.reduceEqDiff, Int.reduceToNat, Int.reduceLT, Int.reduceLE, Nat.reduceSub, pl6, ft3, ft4, ft22, ft24, ft49, ft63, ft65, ft66, Int.cast_ofNat_Int, Int.natCast_zero, Int.natCast_one, Int.reduceAdd, Int.reduceSub, Int.reduceNeg, Int.reduceMul, Int.reduceToNat, Int.reduceLT, Int.reduceLE, Int.reduceEq, Int.reduceBEq, Int.reduceBNe, Nat.reduceSub, Nat.reduceLT, List.getD_cons_zero, List.getD_cons_succ, List.length_singleton, Bool.and_true, Bool.and_false]
      exact .two (bc_ofz hbx) (.flat _ rfl)
    · rw [he 3 (ordOf st cs n) 0 rfl (by unfold ordL; simp [hg]) (by unfold ordE; simp [hg])]
      simp (maxSteps := 4000000) only [↓packA, ↓reduceIte, packB, pureOp, quietOp, loadOp, quietB, fr0, cellsK, implies_true, ite_true, ite_false, eq_self, ne_eq, reduceCtorEq, Nat.reduceLT, Nat.reduceLeDiff, Nat.reduceAdd, Nat.reduceMul, Nat.reduceBEq, Nat.reduceEqDiff, Int.reduceToNat, Int.reduceLT, Int.reduceLE, Nat.reduceSub, pl6, ft3, ft4, ft22, ft24, ft49, ft63, ft65, ft66, ints, hg, Int.cast_ofNat_Int, Int.natCast_zero, Int.natCast_one, Int.reduceAdd, Int.reduceSub, Int.reduceNeg, Int.reduceMul, Int.reduceToNat, Int.reduceLT, Int.reduceLE, Int.reduceEq, Int.reduceBEq, Int.reduceBNe, Nat.reduceSub, Nat.reduceLT, List.getD_cons_zero, List.getD_cons_succ, List.length_singleton, Bool.and_true, Bool.and_false]
      refine wp20 rfl rfl ?_
      simp (maxSteps := 4000000) only [↓packA, ↓reduceIte, packB, pureOp, quietOp, loadOp, quietB, fr0, cellsK, implies_true, ite_true, ite_false, eq_self, ne_eq, reduceCtorEq, Nat.reduceLT, Nat.reduceLeDiff, Nat.reduceAdd, Nat.reduceMul, Nat.reduceBEq, Nat.reduceEqDiff, Int.reduceToNat, Int.reduceLT, Int.reduceLE, Nat.reduceSub, pl20, ft63, ft65, ft66, pl6, ft3, ft4, ft22, ft24, ft49, fpl102, patch, tagg99, tsize99, Int.cast_ofNat_Int, Int.natCast_zero, Int.natCast_one, Int.reduceAdd, Int.reduceSub, Int.reduceNeg, Int.reduceMul, Int.reduceToNat, Int.reduceLT, Int.reduceLE, Int.reduceEq, Int.reduceBEq, Int.reduceBNe, Nat.reduceSub, Nat.reduceLT, List.getD_cons_zero, List.getD_cons_succ, List.length_singleton, Bool.and_true, Bool.and_false]
      refine wp55 rfl rfl ?_
      simp (maxSteps := 4000000) +contextual only [↓packA, ↓reduceIte, packB, pureOp, quietOp, loadOp, quietB, fr0, cellsK, implies_true, ite_true, ite_false, eq_self, ne_eq, reduceCtorEq, Nat.reduceLT, Nat.reduceLeDiff, Nat.reduceAdd, Nat.reduceMul, Nat.reduceBEq, Nat.reduceEqDiff, Int.reduceToNat, Int.reduceLT, Int.reduceLE, Nat.reduceSub, pl55, ft3, ft22, ft24, pl6, ft4, ft49, ft63, ft65, ft66, Int.cast_ofNat_Int, Int.natCast_zero, Int.natCast_one, Int.reduceAdd, Int.reduceSub, Int.reduceNeg, Int.reduceMul, Int.reduceToNat, Int.reduceLT, Int.reduceLE, Int.reduceEq, Int.reduceBEq, Int.reduceBNe, Nat.reduceSub, Nat.reduceLT, List.getD_cons_zero, List.getD_cons_succ, List.length_singleton, Bool.and_true, Bool.and_false]
      refine peel_at n hn st cs hb hb2 hg fun G o7 o8 hG g7 g8 => ?_
      have g0 := hG 0 (by simp)
      simp only [List.getElem?_cons_zero] at g0
      simp (maxSteps := 4000000) +contextual only [↓packA, ↓reduceIte, packB, pureOp, quietOp, loadOp, quietB, fr0, cellsK, implies_true, ite_true, ite_false, eq_self, ne_eq, reduceCtorEq, Nat.reduceLT, Nat.reduceLeDiff, Nat.reduceAdd, Nat.reduceMul, Nat.reduceBEq, Nat.reduceEqDiff, Int.reduceToNat, Int.reduceLT, Int.reduceLE, Nat.reduceSub, pl55, ft3, ft22, ft24, pl6, ft4, ft49, ft63, ft65, ft66, g0, Int.cast_ofNat_Int, Int.natCast_zero, Int.natCast_one, Int.reduceAdd, Int.reduceSub, Int.reduceNeg, Int.reduceMul, Int.reduceToNat, Int.reduceLT, Int.reduceLE, Int.reduceEq, Int.reduceBEq, Int.reduceBNe, Nat.reduceSub, Nat.reduceLT, List.getD_cons_zero, List.getD_cons_succ, List.length_singleton, Bool.and_true, Bool.and_false]
      exact .two (ofz_ints (l := ordOf st cs n) g7 ordOf_len.symm) (.flat _ rfl)
    · rw [he 4 (incL st cs n) 0 rfl (by unfold ordL; simp [hg]) (by unfold ordE; simp [hg])]
      simp (maxSteps := 4000000) only [↓packA, ↓reduceIte, packB, pureOp, quietOp, loadOp, quietB, fr0, cellsK, implies_true, ite_true, ite_false, eq_self, ne_eq, reduceCtorEq, Nat.reduceLT, Nat.reduceLeDiff, Nat.reduceAdd, Nat.reduceMul, Nat.reduceBEq, Nat.reduceEqDiff, Int.reduceToNat, Int.reduceLT, Int.reduceLE, Nat.reduceSub, pl6, ft3, ft4, ft22, ft24, ft49, ft63, ft65, ft66, ints, hg, Int.cast_ofNat_Int, Int.natCast_zero, Int.natCast_one, Int.reduceAdd, Int.reduceSub, Int.reduceNeg, Int.reduceMul, Int.reduceToNat, Int.reduceLT, Int.reduceLE, Int.reduceEq, Int.reduceBEq, Int.reduceBNe, Nat.reduceSub, Nat.reduceLT, List.getD_cons_zero, List.getD_cons_succ, List.length_singleton, Bool.and_true, Bool.and_false]
      refine wp20 rfl rfl ?_
      simp (maxSteps := 4000000) only [↓packA, ↓reduceIte, packB, pureOp, quietOp, loadOp, quietB, fr0, cellsK, implies_true, ite_true, ite_false, eq_self, ne_eq, reduceCtorEq, Nat.reduceLT, Nat.reduceLeDiff, Nat.reduceAdd, Nat.reduceMul, Nat.reduceBEq, Nat.reduceEqDiff, Int.reduceToNat, Int.reduceLT, Int.reduceLE, Nat.reduceSub, pl20, ft63, ft65, ft66, pl6, ft3, ft4, ft22, ft24, ft49, fpl102, patch, tagg99, tsize99, Int.cast_ofNat_Int, Int.natCast_zero, Int.natCast_one, Int.reduceAdd, Int.reduceSub, Int.reduceNeg, Int.reduceMul, Int.reduceToNat, Int.reduceLT, Int.reduceLE, Int.reduceEq, Int.reduceBEq, Int.reduceBNe, Nat.reduceSub, Nat.reduceLT, List.getD_cons_zero, List.getD_cons_succ, List.length_singleton, Bool.and_true, Bool.and_false]
      refine acalls_ofz (inc_c n hn st cs hb hb2 hg (ints xs)) rfl (fun u G hz _ => ?_)
      obtain ⟨x, y, rfl, hx, hy⟩ := ofz_pair hz
      obtain rfl := ofz_int hy
      simp (maxSteps := 4000000) only [↓packA, ↓reduceIte, packB, pureOp, quietOp, loadOp, quietB, fr0, cellsK, implies_true, ite_true, ite_false, eq_self, ne_eq, reduceCtorEq, Nat.reduceLT, Nat.reduceLeDiff, Nat.reduceAdd, Nat.reduceMul, Nat.reduceBEq, Nat.reduceEqDiff, Int.reduceToNat, Int.reduceLT, Int.reduceLE, Nat.reduceSub, pl6, ft3, ft4, ft22, ft24, ft49, ft63, ft65, ft66, Int.cast_ofNat_Int, Int.natCast_zero, Int.natCast_one, Int.reduceAdd, Int.reduceSub, Int.reduceNeg, Int.reduceMul, Int.reduceToNat, Int.reduceLT, Int.reduceLE, Int.reduceEq, Int.reduceBEq, Int.reduceBNe, Nat.reduceSub, Nat.reduceLT, List.getD_cons_zero, List.getD_cons_succ, List.length_singleton, Bool.and_true, Bool.and_false]
      exact .two hx (.flat _ rfl)
    · rw [he 5 (scrL n xs) (scrE n xs) rfl (by unfold ordL; simp [hg]) (by unfold ordE; simp [hg])]
      simp (maxSteps := 4000000) only [↓packA, ↓reduceIte, packB, pureOp, quietOp, loadOp, quietB, fr0, cellsK, implies_true, ite_true, ite_false, eq_self, ne_eq, reduceCtorEq, Nat.reduceLT, Nat.reduceLeDiff, Nat.reduceAdd, Nat.reduceMul, Nat.reduceBEq, Nat.reduceEqDiff, Int.reduceToNat, Int.reduceLT, Int.reduceLE, Nat.reduceSub, pl6, ft3, ft4, ft22, ft24, ft49, ft63, ft65, ft66, ints, hg, Int.cast_ofNat_Int, Int.natCast_zero, Int.natCast_one, Int.reduceAdd, Int.reduceSub, Int.reduceNeg, Int.reduceMul, Int.reduceToNat, Int.reduceLT, Int.reduceLE, Int.reduceEq, Int.reduceBEq, Int.reduceBNe, Nat.reduceSub, Nat.reduceLT, List.getD_cons_zero, List.getD_cons_succ, List.length_singleton, Bool.and_true, Bool.and_false]
      refine wp20 rfl rfl ?_
      simp (maxSteps := 4000000) only [↓packA, ↓reduceIte, packB, pureOp, quietOp, loadOp, quietB, fr0, cellsK, implies_true, ite_true, ite_false, eq_self, ne_eq, reduceCtorEq, Nat.reduceLT, Nat.reduceLeDiff, Nat.reduceAdd, Nat.reduceMul, Nat.reduceBEq, Nat.reduceEqDiff, Int.reduceToNat, Int.reduceLT, Int.reduceLE, Nat.reduceSub, pl20, ft63, ft65, ft66, pl6, ft3, ft4, ft22, ft24, ft49, fpl102, patch, tagg99, tsize99, Int.cast_ofNat_Int, Int.natCast_zero, Int.natCast_one, Int.reduceAdd, Int.reduceSub, Int.reduceNeg, Int.reduceMul, Int.reduceToNat, Int.reduceLT, Int.reduceLE, Int.reduceEq, Int.reduceBEq, Int.reduceBNe, Nat.reduceSub, Nat.reduceLT, List.getD_cons_zero, List.getD_cons_succ, List.length_singleton, Bool.and_true, Bool.and_false]
      refine acalls_ofz (scr_c n hn st cs xs) rfl (fun u G hz _ => ?_)
      obtain ⟨x, y, rfl, hx, hy⟩ := ofz_pair hz
      obtain rfl := ofz_int hy
      simp (maxSteps := 4000000) only [↓packA, ↓reduceIte, packB, pureOp, quietOp, loadOp, quietB, fr0, cellsK, implies_true, ite_true, ite_false, eq_self, ne_eq, reduceCtorEq, Nat.reduceLT, Nat.reduceLeDiff, Nat.reduceAdd, Nat.reduceMul, Nat.reduceBEq, Nat.reduceEqDiff, Int.reduceToNat, Int.reduceLT, Int.reduceLE, Nat.reduceSub, pl6, ft3, ft4, ft22, ft24, ft49, ft63, ft65, ft66, Int.cast_ofNat_Int, Int.natCast_zero, Int.natCast_one, Int.reduceAdd, Int.reduceSub, Int.reduceNeg, Int.reduceMul, Int.reduceToNat, Int.reduceLT, Int.reduceLE, Int.reduceEq, Int.reduceBEq, Int.reduceBNe, Nat.reduceSub, Nat.reduceLT, List.getD_cons_zero, List.getD_cons_succ, List.length_singleton, Bool.and_true, Bool.and_false]
      exact .two hx (.flat _ rfl)
  · have e : ordV kd rows width st cs xs = .tup [ints [], .int .i64 220] := by
      unfold ordV ordL ordE
      rw [if_neg hg, if_neg hg]
    rw [e]
    simp (maxSteps := 4000000) only [↓packA, ↓reduceIte, packB, pureOp, quietOp, loadOp, quietB, fr0, cellsK, implies_true, ite_true, ite_false, eq_self, ne_eq, reduceCtorEq, Nat.reduceLT, Nat.reduceLeDiff, Nat.reduceAdd, Nat.reduceMul, Nat.reduceBEq, Nat.reduceEqDiff, Int.reduceToNat, Int.reduceLT, Int.reduceLE, Nat.reduceSub, pl6, ft3, ft4, ft22, ft24, ft49, ft63, ft65, ft66, ints, hg]
    exact .two (.nils 1) (.flat _ rfl)
end Go.Proofs.YtgdlkhgfehclpaaGreat
end

section
/- What must come: alive. No condition. -/
namespace Go.Proofs.YtgdlkhgfehclpaaGreat
open Go Go.AL
set_option linter.unusedVariables false
set_option linter.unusedSimpArgs false
theorem ord_a : ordV 2 3 3 [0, 1, 3, 4] [1, 0, 2, 1] [] = .tup [ints [1, 0, 2], .int .i64 0] := by
  unfold ordV ordL ordE
  rw [if_pos graph_a, if_pos graph_a]
  simp only [show ¬ (2 : Int) = 1 by decide, if_false, if_true]
  rw [show lgL [0, 1, 3, 4] [1, 0, 2, 1] (3 : Int).toNat = [1, 0, 2] by decide]
set_option maxHeartbeats 4000000 in
set_option maxRecDepth 100000 in
theorem alive_c : ACalls Tryz.prog 18 [] [] fun v h => OFz h v (.bool true) := by
  refine (wp18 rfl rfl ?_)
  simp (maxSteps := 4000000) +contextual only [↓packA, ↓reduceIte, packB, pureOp, quietOp, loadOp, quietB, fr0, cellsK, implies_true, ite_true, ite_false, eq_self, ne_eq, reduceCtorEq, Nat.reduceLT, Nat.reduceLeDiff, Nat.reduceAdd, Nat.reduceMul, Nat.reduceBEq, Nat.reduceEqDiff, Int.reduceToNat, Int.reduceLT, Int.reduceLE, Nat.reduceSub, pl18, ft3, ft4, ft22, ft24, ft49, ft50, patch, Int.cast_ofNat_Int, Int.natCast_zero, Int.natCast_one, Int.reduceAdd, Int.reduceSub, Int.reduceNeg, Int.reduceMul, Int.reduceToNat, Int.reduceLT, Int.reduceLE, Int.reduceEq, Int.reduceBEq, Int.reduceBNe, Nat.reduceSub, Nat.reduceLT, List.getD_cons_zero, List.getD_cons_succ, List.length_singleton, Bool.and_true, Bool.and_false]
  refine acalls_fresh (ord_a ▸ order_c 2 3 3 [0, 1, 3, 4] [1, 0, 2, 1] [] (by simp) (by simp) (by simp)) ?_ (fun u h0 hz => ⟨_, hz, ?_⟩)
  · exact .cons (.pure _ rfl) (.cons (frz_pat (frz_ints (l' := [0, 1, 3, 4]) (l := [0, 1, 3, 4]) rfl rfl rfl) (frz_ints (l' := [1, 0, 2, 1]) (l := [1, 0, 2, 1]) rfl rfl rfl)) (.cons (.nils 1) .nil))
  simp (maxSteps := 4000000) +contextual only [↓packA, ↓reduceIte, packB, pureOp, quietOp, loadOp, quietB, fr0, cellsK, implies_true, ite_true, ite_false, eq_self, ne_eq, reduceCtorEq, Nat.reduceLT, Nat.reduceLeDiff, Nat.reduceAdd, Nat.reduceMul, Nat.reduceBEq, Nat.reduceEqDiff, Int.reduceToNat, Int.reduceLT, Int.reduceLE, Nat.reduceSub, pl18, ft3, ft4, ft22, ft24, ft49, ft50, patch, Int.cast_ofNat_Int, Int.natCast_zero, Int.natCast_one, Int.reduceAdd, Int.reduceSub, Int.reduceNeg, Int.reduceMul, Int.reduceToNat, Int.reduceLT, Int.reduceLE, Int.reduceEq, Int.reduceBEq, Int.reduceBNe, Nat.reduceSub, Nat.reduceLT, List.getD_cons_zero, List.getD_cons_succ, List.length_singleton, Bool.and_true, Bool.and_false, ints]
  refine acalls_fresh degen_a ?_ (fun u h0 hz => ⟨_, hz, ?_⟩)
  · exact .cons (frz_pat (frz_ints (l' := [0, 1, 3, 4]) (l := [0, 1, 3, 4]) rfl rfl rfl) (frz_ints (l' := [1, 0, 2, 1]) (l := [1, 0, 2, 1]) rfl rfl rfl)) .nil
  simp (maxSteps := 4000000) +contextual only [↓packA, ↓reduceIte, packB, pureOp, quietOp, loadOp, quietB, fr0, cellsK, implies_true, ite_true, ite_false, eq_self, ne_eq, reduceCtorEq, Nat.reduceLT, Nat.reduceLeDiff, Nat.reduceAdd, Nat.reduceMul, Nat.reduceBEq, Nat.reduceEqDiff, Int.reduceToNat, Int.reduceLT, Int.reduceLE, Nat.reduceSub, pl18, ft3, ft4, ft22, ft24, ft49, ft50, patch, Int.cast_ofNat_Int, Int.natCast_zero, Int.natCast_one, Int.reduceAdd, Int.reduceSub, Int.reduceNeg, Int.reduceMul, Int.reduceToNat, Int.reduceLT, Int.reduceLE, Int.reduceEq, Int.reduceBEq, Int.reduceBNe, Nat.reduceSub, Nat.reduceLT, List.getD_cons_zero, List.getD_cons_succ, List.length_singleton, Bool.and_true, Bool.and_false, ints]
  refine wp49 rfl rfl ?_
  simp (maxSteps := 4000000) +contextual only [↓packA, ↓reduceIte, packB, pureOp, quietOp, loadOp, quietB, fr0, cellsK, implies_true, ite_true, ite_false, eq_self, ne_eq, reduceCtorEq, Nat.reduceLT, Nat.reduceLeDiff, Nat.reduceAdd, Nat.reduceMul, Nat.reduceBEq, Nat.reduceEqDiff, Int.reduceToNat, Int.reduceLT, Int.reduceLE, Nat.reduceSub, pl49, pl18, ft3, ft4, ft22, ft24, ft49, ft50, patch, Int.cast_ofNat_Int, Int.natCast_zero, Int.natCast_one, Int.reduceAdd, Int.reduceSub, Int.reduceNeg, Int.reduceMul, Int.reduceToNat, Int.reduceLT, Int.reduceLE, Int.reduceEq, Int.reduceBEq, Int.reduceBNe, Nat.reduceSub, Nat.reduceLT, List.getD_cons_zero, List.getD_cons_succ, List.length_singleton, Bool.and_true, Bool.and_false, ints]
  refine acalls_lend (same_pure [1, 0, 2] [1, 0, 2] (by simp)) ?_ rfl ?_
  · exact .cons (.pure _ rfl) (.cons (frz_ints (l' := [1, 0, 2]) (l := [1, 0, 2]) rfl rfl rfl) .nil)
  simp (maxSteps := 4000000) +contextual only [↓packA, ↓reduceIte, packB, pureOp, quietOp, loadOp, quietB, fr0, cellsK, implies_true, ite_true, ite_false, eq_self, ne_eq, reduceCtorEq, Nat.reduceLT, Nat.reduceLeDiff, Nat.reduceAdd, Nat.reduceMul, Nat.reduceBEq, Nat.reduceEqDiff, Int.reduceToNat, Int.reduceLT, Int.reduceLE, Nat.reduceSub, pl18, ft3, ft4, ft22, ft24, ft49, ft50, patch, Int.cast_ofNat_Int, Int.natCast_zero, Int.natCast_one, Int.reduceAdd, Int.reduceSub, Int.reduceNeg, Int.reduceMul, Int.reduceToNat, Int.reduceLT, Int.reduceLE, Int.reduceEq, Int.reduceBEq, Int.reduceBNe, Nat.reduceSub, Nat.reduceLT, List.getD_cons_zero, List.getD_cons_succ, List.length_singleton, Bool.and_true, Bool.and_false, ints]
  refine wp49 rfl rfl ?_
  simp (maxSteps := 4000000) +contextual only [↓packA, ↓reduceIte, packB, pureOp, quietOp, loadOp, quietB, fr0, cellsK, implies_true, ite_true, ite_false, eq_self, ne_eq, reduceCtorEq, Nat.reduceLT, Nat.reduceLeDiff, Nat.reduceAdd, Nat.reduceMul, Nat.reduceBEq, Nat.reduceEqDiff, Int.reduceToNat, Int.reduceLT, Int.reduceLE, Nat.reduceSub, pl49, pl18, ft3, ft4, ft22, ft24, ft49, ft50, patch, Int.cast_ofNat_Int, Int.natCast_zero, Int.natCast_one, Int.reduceAdd, Int.reduceSub, Int.reduceNeg, Int.reduceMul, Int.reduceToNat, Int.reduceLT, Int.reduceLE, Int.reduceEq, Int.reduceBEq, Int.reduceBNe, Nat.reduceSub, Nat.reduceLT, List.getD_cons_zero, List.getD_cons_succ, List.length_singleton, Bool.and_true, Bool.and_false, ints]
  refine acalls_lend (same_pure [1, 1, 1] [1, 1, 1] (by simp)) ?_ rfl ?_
  · exact .cons (.pure _ rfl) (.cons (frz_ints (l' := [1, 1, 1]) (l := [1, 1, 1]) rfl rfl rfl) .nil)
  simp (maxSteps := 4000000) +contextual only [↓packA, ↓reduceIte, packB, pureOp, quietOp, loadOp, quietB, fr0, cellsK, implies_true, ite_true, ite_false, eq_self, ne_eq, reduceCtorEq, Nat.reduceLT, Nat.reduceLeDiff, Nat.reduceAdd, Nat.reduceMul, Nat.reduceBEq, Nat.reduceEqDiff, Int.reduceToNat, Int.reduceLT, Int.reduceLE, Nat.reduceSub, pl18, ft3, ft4, ft22, ft24, ft49, ft50, patch, Int.cast_ofNat_Int, Int.natCast_zero, Int.natCast_one, Int.reduceAdd, Int.reduceSub, Int.reduceNeg, Int.reduceMul, Int.reduceToNat, Int.reduceLT, Int.reduceLE, Int.reduceEq, Int.reduceBEq, Int.reduceBNe, Nat.reduceSub, Nat.reduceLT, List.getD_cons_zero, List.getD_cons_succ, List.length_singleton, Bool.and_true, Bool.and_false, ints]
  exact .flat _ rfl
end Go.Proofs.YtgdlkhgfehclpaaGreat
end

section
/- Answers that are the caller's own. No condition. -/
namespace Go.Proofs.YtgdlkhgfehclpaaGreat
open Go Go.AL
set_option linter.unusedVariables false
set_option linter.unusedSimpArgs false
theorem bc_all {F : Nat → Prop} {h : Heap} {id n : Nat} {l : List Int} {ex' : Bool} (hid : h[id]? = some (.arr 1 (List.map intE l) ex')) (hl : n = l.length) (hb : l.length < 1000000) (hF : ¬ F id) : BC F h (.osl id 1 0 n n true) l :=
  .inr ⟨id, n, n, true, l, ex', rfl, hF, hid, Nat.le_refl _, by omega, ⟨by omega, rfl⟩, by rw [hl]; exact List.take_length⟩
theorem bc_shift {F F' : Nat → Prop} {h h0 : Heap} {x : AV} {l : List Int} (hb : BC F h0 x l) (hF : ∀ i, i < h0.length → ¬ F' (i + h.length)) : BC F' (behind h h0) (x.ren (sh h.length)) l := by
  rcases hb with ⟨rfl, rfl⟩ | ⟨id, len, cap, ex, es, ex', rfl, q1, q2, q3⟩
  · exact .inl ⟨rfl, rfl⟩
  · have hlt := (List.getElem?_eq_some_iff.1 q2).1
    refine .inr ⟨id + h.length, len, cap, ex, es, ex', rfl, hF id hlt, ?_, q3⟩
    unfold behind
    rw [List.getElem?_append_right (by omega), Nat.add_sub_cancel, List.getElem?_map, q2, Option.map_some, ren_intEs]
theorem acalls_bc {P : Program} {f : FuncId} {args : List AV} {h : Heap} {e : Int} {l : List Int} {Q : AV → Heap → Prop} (hc : ACalls P f args [] fun v h => ∃ x, v = .tup [x, .int .i64 e] ∧ BC (fun _ => False) h x l) (ha : pures args = true)
    (hq : ∀ x h', BC (fun _ => False) h' x l → Q (.tup [x, .int .i64 e]) h') : ACalls P f args h Q :=
  acalls_shift hc ha fun u h0 hz => by
    obtain ⟨x, rfl, hx⟩ := hz
    exact hq _ _ (bc_shift hx fun _ _ h => h)
theorem scrL_len {n : Nat} (hn : n ≤ 128) {xs : List Int} : (scrL n xs).length ≤ 128 := by
  unfold scrL
  split
  · rename_i c
    have := checkR_zero c
    omega
  · simp
set_option maxRecDepth 100000 in
theorem scr_b (n : Nat) (hn : n ≤ 128) (st cs xs : List Int) : ACalls Tryz.prog 57 [pat n n st cs, ints xs] [] fun v h => ∃ x, v = .tup [x, .int .i64 (scrE n xs)] ∧ BC (fun _ => False) h x (scrL n xs) := by
  refine (wp57 rfl rfl ?_)
  simp (maxSteps := 4000000) only [↓packA, ↓reduceIte, packB, pureOp, quietOp, loadOp, quietB, fr0, cellsK, implies_true, ite_true, ite_false, eq_self, ne_eq, reduceCtorEq, Nat.reduceLT, Nat.reduceLeDiff, Nat.reduceAdd, Nat.reduceMul, Nat.reduceBEq, Nat.reduceEqDiff, Int.reduceToNat, Int.reduceLT, Int.reduceLE, Nat.reduceSub, pl57, ft3, ft22, ft24, ft50, ints]
  refine acalls_pure (check_c n xs) rfl ?_
  by_cases c : checkR n xs = 0
  · simp (maxSteps := 4000000) only [↓packA, ↓reduceIte, packB, pureOp, quietOp, loadOp, quietB, fr0, cellsK, implies_true, ite_true, ite_false, eq_self, ne_eq, reduceCtorEq, Nat.reduceLT, Nat.reduceLeDiff, Nat.reduceAdd, Nat.reduceMul, Nat.reduceBEq, Nat.reduceEqDiff, Int.reduceToNat, Int.reduceLT, Int.reduceLE, Nat.reduceSub, pl57, ft3, ft22, ft24, ft50, ints, c, Int.cast_ofNat_Int, Int.natCast_zero, Int.natCast_one, Int.reduceAdd, Int.reduceSub, Int.reduceNeg, Int.reduceMul, Int.reduceToNat, Int.reduceLT, Int.reduceLE, Int.reduceEq, Int.reduceBEq, Int.reduceBNe, Nat.reduceSub, Nat.reduceLT, List.getD_cons_zero, List.getD_cons_succ, List.length_singleton, Bool.and_true, Bool.and_false]
    have hxl : xs.length ≤ 128 := by have := checkR_zero c; omega
    refine acalls_shift (clone_b xs (by omega)) rfl (fun u G hx => ?_)
    have hx2 : ∀ H, BC (fun _ => False) (behind H G) (u.ren (sh H.length)) xs := fun H => bc_shift hx (fun _ _ h => h)
    generalize hH : [Ob.arr 4 [[AV.int .i64 n, AV.int .i64 n, AV.isl 1 (List.map intE st), AV.isl 1 (List.map intE cs)]] true] = H
    have hx3 := hx2 H
    generalize behind H G = G' at *
    generalize u.ren (sh H.length) = u' at *
    simp (maxSteps := 4000000) only [↓packA, ↓reduceIte, packB, pureOp, quietOp, loadOp, quietB, fr0, cellsK, implies_true, ite_true, ite_false, eq_self, ne_eq, reduceCtorEq, Nat.reduceLT, Nat.reduceLeDiff, Nat.reduceAdd, Nat.reduceMul, Nat.reduceBEq, Nat.reduceEqDiff, Int.reduceToNat, Int.reduceLT, Int.reduceLE, Nat.reduceSub, pl57, ft3, ft22, ft24, ft50, ints]
    rw [show scrL n xs = xs from if_pos c, show scrE n xs = 0 from if_pos c]
    exact ⟨_, rfl, hx3⟩
  · simp (maxSteps := 4000000) only [↓packA, ↓reduceIte, packB, pureOp, quietOp, loadOp, quietB, fr0, cellsK, implies_true, ite_true, ite_false, eq_self, ne_eq, reduceCtorEq, Nat.reduceLT, Nat.reduceLeDiff, Nat.reduceAdd, Nat.reduceMul, Nat.reduceBEq, Nat.reduceEqDiff, Int.reduceToNat, Int.reduceLT, Int.reduceLE, Nat.reduceSub, pl57, ft3, ft22, ft24, ft50, ints, c]
    have e3 : checkR n xs = 182 := by
      unfold checkR at c ⊢
      rw [if_neg (by omega)] at c ⊢
      split
      · rfl
      · rename_i h1
        rw [if_neg h1] at c
        split
        · rename_i h2
          rw [if_pos h2] at c; exact absurd rfl c
        · rfl
    rw [show scrL n xs = [] from if_neg c, show scrE n xs = 182 from if_neg c, e3]
    exact ⟨_, rfl, .inl ⟨rfl, rfl⟩⟩
set_option maxRecDepth 100000 in
theorem inverse_b (xs : List Int) (hb : xs.length < 1000000000) : ACalls Tryz.prog 10 [ints xs] [] fun v h => ∃ x l e, (v = .tup [x, .int .i64 e] ∧ l.length ≤ 128) ∧ BC (fun _ => False) h x l := by
  refine (wp10 rfl rfl ?_)
  simp (maxSteps := 4000000) +contextual only [↓packA, ↓reduceIte, packB, pureOp, quietOp, loadOp, quietB, fr0, cellsK, implies_true, ite_true, ite_false, eq_self, ne_eq, reduceCtorEq, Nat.reduceLT, Nat.reduceLeDiff, Nat.reduceAdd, Nat.reduceMul, Nat.reduceBEq, Nat.reduceEqDiff, Int.reduceToNat, Int.reduceLT, Int.reduceLE, Nat.reduceSub, pl10, ft3, ft22, ft50, ints]
  refine acalls_pure (check_c _ _) rfl ?_
  simp (maxSteps := 4000000) +contextual only [↓packA, ↓reduceIte, packB, pureOp, quietOp, loadOp, quietB, fr0, cellsK, implies_true, ite_true, ite_false, eq_self, ne_eq, reduceCtorEq, Nat.reduceLT, Nat.reduceLeDiff, Nat.reduceAdd, Nat.reduceMul, Nat.reduceBEq, Nat.reduceEqDiff, Int.reduceToNat, Int.reduceLT, Int.reduceLE, Nat.reduceSub, pl10, ft3, ft22, ft50, ints]
  refine ⟨fun h => ?_, fun h => ?_⟩
  · exact ⟨_, [], _, ⟨rfl, by simp⟩, .inl ⟨rfl, rfl⟩⟩
  · refine ⟨by omega, ?_⟩
    obtain ⟨_, _, _, hok⟩ := checkR_zero h
    refine LoopK.intro (fun m a h => ∃ k : Nat, m = xs.length - k ∧ k ≤ xs.length ∧ a 4 = .osl 0 1 0 xs.length xs.length true ∧ a 15 = ints xs ∧ a 16 = .int .i64 xs.length ∧ a 17 = .int .i64 k ∧ h = [Ob.arr 1 (List.map intE (invK xs k)) true]) xs.length ⟨0, rfl, Nat.zero_le _, ?_⟩ ?_
    · simp (maxSteps := 4000000) only [↓packA, ↓reduceIte, packB, pureOp, quietOp, loadOp, quietB, fr0, cellsK, implies_true, ite_true, ite_false, eq_self, ne_eq, reduceCtorEq, Nat.reduceLT, Nat.reduceLeDiff, Nat.reduceAdd, Nat.reduceMul, Nat.reduceBEq, Nat.reduceEqDiff, Int.reduceToNat, Int.reduceLT, Int.reduceLE, Nat.reduceSub, pl10, ft3, ft22, ft50, ints, Int.natCast_zero, invK]
    · rintro m a h1 ⟨k, rfl, hk, a4, a15, a16, a17, rfl⟩
      have hxk := hok k
      unfold okAt at hxk
      simp (maxSteps := 4000000) +contextual only [↓packA, ↓reduceIte, packB, pureOp, quietOp, loadOp, quietB, fr0, cellsK, implies_true, ite_true, ite_false, eq_self, ne_eq, reduceCtorEq, Nat.reduceLT, Nat.reduceLeDiff, Nat.reduceAdd, Nat.reduceMul, Nat.reduceBEq, Nat.reduceEqDiff, Int.reduceToNat, Int.reduceLT, Int.reduceLE, Nat.reduceSub, pl10, ft3, ft22, ft50, ints, a4, a15, a16, a17, invK_length]
      refine ⟨fun e => ⟨by omega, by omega, by omega, by omega, by omega, .inl ⟨xs.length - (k + 1), by omega, k + 1, rfl, by omega, by omega, rfl⟩⟩, fun e => ?_⟩
      have : k = xs.length := by omega
      subst this
      exact ⟨_, invK xs xs.length, _, ⟨rfl, by rw [invK_length]; have := checkR_zero h; omega⟩, bc_all rfl (invK_length _ _).symm (by rw [invK_length]; omega) (fun h => h)⟩
set_option maxHeartbeats 4000000 in
set_option maxRecDepth 100000 in
theorem back_b (rows width : Int) (st cs xs : List Int) (hb : st.length < 1000000000) (hb2 : cs.length < 1000000000) (hbx : xs.length < 1000000000) : ACalls Tryz.prog 8 [pat rows width st cs, ints xs] [] fun v h => ∃ x m l e, (v = .tup [.int .i64 m, x, .int .i64 e] ∧ l.length ≤ 128) ∧ BC (fun _ => False) h x l := by
  refine (wp8 rfl rfl ?_)
  simp (maxSteps := 4000000) +contextual only [↓packA, ↓reduceIte, packB, pureOp, quietOp, loadOp, quietB, fr0, cellsK, implies_true, ite_true, ite_false, eq_self, ne_eq, reduceCtorEq, Nat.reduceLT, Nat.reduceLeDiff, Nat.reduceAdd, Nat.reduceMul, Nat.reduceBEq, Nat.reduceEqDiff, Int.reduceToNat, Int.reduceLT, Int.reduceLE, Nat.reduceSub, pl8, ft3, ft4, ft22, ft24, ft50, ints]
  refine acalls_pure (graph_c rows width st cs hb hb2) rfl ?_
  simp (maxSteps := 4000000) +contextual only [↓packA, ↓reduceIte, packB, pureOp, quietOp, loadOp, quietB, fr0, cellsK, implies_true, ite_true, ite_false, eq_self, ne_eq, reduceCtorEq, Nat.reduceLT, Nat.reduceLeDiff, Nat.reduceAdd, Nat.reduceMul, Nat.reduceBEq, Nat.reduceEqDiff, Int.reduceToNat, Int.reduceLT, Int.reduceLE, Nat.reduceSub, pl8, ft3, ft4, ft22, ft24, ft50, ints]
  refine ⟨fun hg => ?_, fun hg => ?_⟩
  rotate_left
  · exact ⟨_, _, [], _, ⟨rfl, by simp⟩, .inl ⟨rfl, rfl⟩⟩
  obtain ⟨n, rfl, rfl, hn⟩ := graph_sides hg
  refine acalls_pure (check_c n xs) rfl ?_
  simp (maxSteps := 4000000) +contextual only [↓packA, ↓reduceIte, packB, pureOp, quietOp, loadOp, quietB, fr0, cellsK, implies_true, ite_true, ite_false, eq_self, ne_eq, reduceCtorEq, Nat.reduceLT, Nat.reduceLeDiff, Nat.reduceAdd, Nat.reduceMul, Nat.reduceBEq, Nat.reduceEqDiff, Int.reduceToNat, Int.reduceLT, Int.reduceLE, Nat.reduceSub, pl8, ft3, ft4, ft22, ft24, ft50, ints]
  refine ⟨fun h1 => ?_, fun h1 => ?_⟩
  · exact ⟨_, _, [], _, ⟨rfl, by simp⟩, .inl ⟨rfl, rfl⟩⟩
  obtain ⟨_, _, hxl, hord⟩ := checkR_zero h1
  have hxn : xs.length = n := by omega
  have hPl : (invR xs).length = n := by rw [(invR_ok (by rw [hxl]; exact h1)).1, invK_length]; exact hxn
  refine acalls_fresh (inverse_c xs (by omega)) ?_ (fun u h0 hz => ⟨_, hz, ?_⟩)
  · exact .cons (.pure _ rfl) .nil
  generalize invR xs = P at *
  simp (maxSteps := 4000000) +contextual only [↓packA, ↓reduceIte, packB, pureOp, quietOp, loadOp, quietB, fr0, cellsK, implies_true, ite_true, ite_false, eq_self, ne_eq, reduceCtorEq, Nat.reduceLT, Nat.reduceLeDiff, Nat.reduceAdd, Nat.reduceMul, Nat.reduceBEq, Nat.reduceEqDiff, Int.reduceToNat, Int.reduceLT, Int.reduceLE, Nat.reduceSub, pl8, ft3, ft4, ft22, ft24, ft50, ints]
  refine ⟨by omega, ?_⟩
  refine LoopK.intro (fun m a h => ∃ (k : Nat) (L : List Int), m = n - k ∧ k ≤ n ∧ L.length = n ∧ (∀ u : Nat, u < k → L.getD u default = bk st cs P u) ∧ (∀ u : Nat, k ≤ u → u < n → L.getD u default = 0) ∧ a 2 = .op 0 4 0 0 ∧ a 7 = ints P ∧ a 9 = .int .i64 (mxK (bkL st cs P n) k) ∧ a 10 = .osl 1 1 0 n n true ∧ a 31 = .int .i64 n ∧ a 32 = .int .i64 k ∧ h = [patO n n st cs, Ob.arr 1 (List.map intE L) true]) n ⟨0, List.replicate n 0, rfl, Nat.zero_le _, by simp, fun u hu => by omega, fun u _ hu => by simp [List.getD_eq_getElem?_getD, List.getElem?_replicate, hu], ?_⟩ ?_
  · simp (maxSteps := 4000000) only [↓packA, ↓reduceIte, packB, pureOp, quietOp, loadOp, quietB, fr0, cellsK, implies_true, ite_true, ite_false, eq_self, ne_eq, reduceCtorEq, Nat.reduceLT, Nat.reduceLeDiff, Nat.reduceAdd, Nat.reduceMul, Nat.reduceBEq, Nat.reduceEqDiff, Int.reduceToNat, Int.reduceLT, Int.reduceLE, Nat.reduceSub, pl8, ft3, ft4, ft22, ft24, ft50, ints, patO, mxK, Int.natCast_zero]
  rintro m a h ⟨k, L, rfl, hk, hL, hlo, hhi, a2, a7, a9, a10, a31, a32, rfl⟩
  simp (maxSteps := 4000000) +contextual only [↓packA, ↓reduceIte, packB, pureOp, quietOp, loadOp, quietB, fr0, cellsK, implies_true, ite_true, ite_false, eq_self, ne_eq, reduceCtorEq, Nat.reduceLT, Nat.reduceLeDiff, Nat.reduceAdd, Nat.reduceMul, Nat.reduceBEq, Nat.reduceEqDiff, Int.reduceToNat, Int.reduceLT, Int.reduceLE, Nat.reduceSub, pl8, ft3, ft4, ft22, ft24, ft50, ints, patO, a2, a7, a9, a10, a31, a32]
  refine ⟨fun h2 => ?_, fun h2 => ?_⟩
  · have q4 := (may_row hg.1.1 (show k < (n : Int).toNat by omega)).2.2.2.1
    have hrl := row_len hg.1.1 (show k < n by omega)
    refine acalls_pure (neigh_c n n st cs hb hb2 hg.1.1 k (by omega) (by omega)) rfl ?_
    simp (maxSteps := 4000000) +contextual only [↓packA, ↓reduceIte, packB, pureOp, quietOp, loadOp, quietB, fr0, cellsK, implies_true, ite_true, ite_false, eq_self, ne_eq, reduceCtorEq, Nat.reduceLT, Nat.reduceLeDiff, Nat.reduceAdd, Nat.reduceMul, Nat.reduceBEq, Nat.reduceEqDiff, Int.reduceToNat, Int.reduceLT, Int.reduceLE, Nat.reduceSub, pl8, ft3, ft4, ft22, ft24, ft50, ints, patO, a2, a7, a9, a10, a31, a32]
    refine LoopK.intro (fun m a h => ∃ (j : Nat) (L : List Int), m = (rowOf st cs k).length - j ∧ j ≤ (rowOf st cs k).length ∧ L.length = n ∧ (∀ u : Nat, u < k → L.getD u default = bk st cs P u) ∧ (∀ u : Nat, k < u → u < n → L.getD u default = 0) ∧ L.getD k default = (((rowOf st cs k).take j).filter (fun w => decide (P.getD w.toNat default < P.getD k default))).length ∧ a 2 = .op 0 4 0 0 ∧ a 7 = ints P ∧ a 9 = .int .i64 (mxK (bkL st cs P n) k) ∧ a 10 = .osl 1 1 0 n n true ∧ a 11 = .int .i64 k ∧ a 31 = .int .i64 n ∧ a 32 = .int .i64 k ∧ a 37 = ints (rowOf st cs k) ∧ a 38 = .int .i64 (rowOf st cs k).length ∧ a 39 = .int .i64 j ∧ h = [patO n n st cs, Ob.arr 1 (List.map intE L) true]) (rowOf st cs k).length ⟨0, L, rfl, Nat.zero_le _, hL, hlo, fun u h3 h4 => hhi u (by omega) h4, by rw [hhi k (Nat.le_refl _) (by omega)]; rfl, ?_⟩ ?_
    · simp (maxSteps := 4000000) only [↓packA, ↓reduceIte, packB, pureOp, quietOp, loadOp, quietB, fr0, cellsK, implies_true, ite_true, ite_false, eq_self, ne_eq, reduceCtorEq, Nat.reduceLT, Nat.reduceLeDiff, Nat.reduceAdd, Nat.reduceMul, Nat.reduceBEq, Nat.reduceEqDiff, Int.reduceToNat, Int.reduceLT, Int.reduceLE, Nat.reduceSub, pl8, ft3, ft4, ft22, ft24, ft50, ints, patO, a2, a7, a9, a10, a31, a32, Int.natCast_zero]
    clear a2 a7 a9 a10 a31 a32
    rintro m a h ⟨j, L, rfl, hj, hL, hlo, hhi, hk3, a2, a7, a9, a10, a11, a31, a32, a37, a38, a39, rfl⟩
    simp (maxSteps := 4000000) +contextual only [↓packA, ↓reduceIte, packB, pureOp, quietOp, loadOp, quietB, fr0, cellsK, implies_true, ite_true, ite_false, eq_self, ne_eq, reduceCtorEq, Nat.reduceLT, Nat.reduceLeDiff, Nat.reduceAdd, Nat.reduceMul, Nat.reduceBEq, Nat.reduceEqDiff, Int.reduceToNat, Int.reduceLT, Int.reduceLE, Nat.reduceSub, pl8, ft3, ft4, ft22, ft24, ft50, ints, patO, a2, a7, a9, a10, a11, a31, a32, a37, a38, a39, minK_2, imax_eq]
    refine ⟨fun h3 => ?_, fun h3 => ?_⟩
    · have hjl : j < (rowOf st cs k).length := by omega
      have h4 := row_nonneg q4 hjl
      have h5 := (q4 j hjl).2
      have hft := ftake (p := fun w : Int => decide (P.getD w.toNat default < P.getD k default)) hjl
      have hfl : (((rowOf st cs k).take j).filter (fun w : Int => decide (P.getD w.toNat default < P.getD k default))).length ≤ 128 := Nat.le_trans (List.length_filter_le _ _) (by simp; omega)
      refine ⟨by omega, by omega, by omega, by omega, by omega, by omega, fun h6 => ?_, fun h6 => ?_⟩
      · rw [if_pos (decide_eq_true h6)] at hft
        refine ⟨by omega, by omega, by omega, by omega, by omega, by omega, .inl ⟨(rowOf st cs k).length - (j + 1), by omega, j + 1, L.set k (L.getD k default + 1), rfl, by omega, by simp [hL], fun u hu => ?_, fun u hu1 hu2 => ?_, ?_, by omega, rfl⟩⟩
        · rw [getD_set_ne (by omega)]; exact hlo u hu
        · rw [getD_set_ne (by omega)]; exact hhi u hu1 hu2
        · rw [show (L.set k (L.getD k default + 1)).getD k default = L.getD k default + 1 by simp [List.getD_eq_getElem?_getD, List.getElem?_set_self (show k < L.length by omega)]]
          omega
      · rw [if_neg (by simpa using h6)] at hft
        exact ⟨by omega, .inl ⟨(rowOf st cs k).length - (j + 1), by omega, j + 1, L, rfl, by omega, hL, hlo, hhi, by omega, by omega, rfl⟩⟩
    · obtain rfl : j = (rowOf st cs k).length := by omega
      rw [List.take_length] at hk3
      have hbk : L.getD k default = bk st cs P k := hk3
      refine ⟨by omega, by omega, by omega, .inl ⟨n - (k + 1), by omega, k + 1, L, rfl, by omega, hL, fun u hu => ?_, fun u hu1 hu2 => hhi u (by omega) hu2, ?_, by omega, rfl⟩⟩
      · rcases Nat.lt_or_ge u k with h6 | h6
        · exact hlo u h6
        · rw [show u = k by omega]; exact hbk
      · simp only [mxK]
        rw [bkL_get (by omega), hbk]
  · obtain rfl : n = k := by omega
    have hLe : L = bkL st cs P n := list_ext_getD (by rw [hL, bkL_len]) fun u hu => by rw [hlo u (by omega), bkL_get (by omega)]
    subst hLe
    exact ⟨_, _, bkL st cs P n, _, ⟨rfl, by rw [bkL_len]; exact hn⟩, bc_all rfl bkL_len.symm (by rw [bkL_len]; omega) (fun h => h)⟩
set_option maxHeartbeats 4000000 in
set_option maxRecDepth 100000 in
theorem degen_b (rows width : Int) (st cs : List Int) (hb : st.length < 1000000000) (hb2 : cs.length < 1000000000) : ACalls Tryz.prog 9 [pat rows width st cs] [] fun v h => ∃ x m l e, (v = .tup [.int .i64 m, x, .int .i64 e] ∧ l.length ≤ 128) ∧ BC (fun _ => False) h x l := by
  refine (wp9 rfl rfl ?_)
  simp (maxSteps := 4000000) +contextual only [↓packA, ↓reduceIte, packB, pureOp, quietOp, loadOp, quietB, fr0, cellsK, implies_true, ite_true, ite_false, eq_self, ne_eq, reduceCtorEq, Nat.reduceLT, Nat.reduceLeDiff, Nat.reduceAdd, Nat.reduceMul, Nat.reduceBEq, Nat.reduceEqDiff, Int.reduceToNat, Int.reduceLT, Int.reduceLE, Nat.reduceSub, pl9, ft3, ft4, ft22, ft24, ints]
  refine acalls_pure (graph_c rows width st cs hb hb2) rfl ?_
  simp (maxSteps := 4000000) +contextual only [↓packA, ↓reduceIte, packB, pureOp, quietOp, loadOp, quietB, fr0, cellsK, implies_true, ite_true, ite_false, eq_self, ne_eq, reduceCtorEq, Nat.reduceLT, Nat.reduceLeDiff, Nat.reduceAdd, Nat.reduceMul, Nat.reduceBEq, Nat.reduceEqDiff, Int.reduceToNat, Int.reduceLT, Int.reduceLE, Nat.reduceSub, pl9, ft3, ft4, ft22, ft24, ints]
  refine ⟨fun hg => ?_, fun hg => ⟨_, _, [], _, ⟨rfl, by simp⟩, .inl ⟨rfl, rfl⟩⟩⟩
  obtain ⟨n, rfl, rfl, hn⟩ := graph_sides hg
  refine peel_at n hn st cs hb hb2 hg fun G o7 o8 hG g7 g8 => ?_
  have hCl := (pst_len st cs n n).2.2
  simp (maxSteps := 4000000) +contextual only [↓packA, ↓reduceIte, packB, pureOp, quietOp, loadOp, quietB, fr0, cellsK, implies_true, ite_true, ite_false, eq_self, ne_eq, reduceCtorEq, Nat.reduceLT, Nat.reduceLeDiff, Nat.reduceAdd, Nat.reduceMul, Nat.reduceBEq, Nat.reduceEqDiff, Int.reduceToNat, Int.reduceLT, Int.reduceLE, Nat.reduceSub, pl9, ft3, ft4, ft22, ft24, ints]
  refine LoopK.intro (fun m a h => ∃ k : Nat, m = n - k ∧ k ≤ n ∧ a 6 = .osl o8 1 0 n n true ∧ a 7 = .int .i64 (mxK (coresOf st cs n) k) ∧ a 18 = .osl o8 1 0 n n true ∧ a 19 = .int .i64 n ∧ a 20 = .int .i64 k ∧ h = G) n ⟨0, rfl, Nat.zero_le _, ?_⟩ ?_
  · simp (maxSteps := 4000000) only [↓packA, ↓reduceIte, packB, pureOp, quietOp, loadOp, quietB, fr0, cellsK, implies_true, ite_true, ite_false, eq_self, ne_eq, reduceCtorEq, Nat.reduceLT, Nat.reduceLeDiff, Nat.reduceAdd, Nat.reduceMul, Nat.reduceBEq, Nat.reduceEqDiff, Int.reduceToNat, Int.reduceLT, Int.reduceLE, Nat.reduceSub, pl9, ft3, ft4, ft22, ft24, Int.natCast_zero, mxK]
  rintro m a h ⟨k, rfl, hk, a6, a7, a18, a19, a20, rfl⟩
  simp (maxSteps := 4000000) +contextual only [↓packA, ↓reduceIte, packB, pureOp, quietOp, loadOp, quietB, fr0, cellsK, implies_true, ite_true, ite_false, eq_self, ne_eq, reduceCtorEq, Nat.reduceLT, Nat.reduceLeDiff, Nat.reduceAdd, Nat.reduceMul, Nat.reduceBEq, Nat.reduceEqDiff, Int.reduceToNat, Int.reduceLT, Int.reduceLE, Nat.reduceSub, pl9, ft3, ft4, ft22, ft24, a6, a7, a18, a19, a20, g8, minK_2, imax_eq]
  refine ⟨fun h2 => ⟨by omega, by omega, by omega, .inl ⟨n - (k + 1), by omega, k + 1, rfl, by omega, rfl, by omega⟩⟩, fun h2 => ?_⟩
  obtain rfl : n = k := by omega
  exact ⟨_, _, coresOf st cs n, _, ⟨rfl, by unfold coresOf; rw [hCl]; exact hn⟩, bc_all g8 hCl.symm (by unfold coresOf; rw [hCl]; omega) (fun h => h)⟩
set_option maxHeartbeats 4000000 in
set_option maxRecDepth 100000 in
theorem order_b (kd rows width : Int) (st cs xs : List Int) (hb : st.length < 1000000000) (hb2 : cs.length < 1000000000) (hbx : xs.length < 1000000000) : ACalls Tryz.prog 6 [.int .i64 kd, pat rows width st cs, ints xs] [] fun v h => ∃ x l e, (v = .tup [x, .int .i64 e] ∧ l.length ≤ 128) ∧ BC (fun _ => False) h x l := by
  refine (wp6 rfl rfl ?_)
  simp (maxSteps := 4000000) only [↓packA, ↓reduceIte, packB, pureOp, quietOp, loadOp, quietB, fr0, cellsK, implies_true, ite_true, ite_false, eq_self, ne_eq, reduceCtorEq, Nat.reduceLT, Nat.reduceLeDiff, Nat.reduceAdd, Nat.reduceMul, Nat.reduceBEq, Nat.reduceEqDiff, Int.reduceToNat, Int.reduceLT, Int.reduceLE, Nat.reduceSub, pl6, ft3, ft4, ft22, ft24, ft49, ft63, ft65, ft66, ints]
  refine acalls_pure (graph_c rows width st cs hb hb2) rfl ?_
  by_cases hg : graphP rows width st cs
  · obtain ⟨n, rfl, rfl, hn⟩ := graph_sides hg
    have hm := hg.1.1
    by_cases c1 : kd < 1
    · skip
      simp (maxSteps := 4000000) only [↓packA, ↓reduceIte, packB, pureOp, quietOp, loadOp, quietB, fr0, cellsK, implies_true, ite_true, ite_false, eq_self, ne_eq, reduceCtorEq, Nat.reduceLT, Nat.reduceLeDiff, Nat.reduceAdd, Nat.reduceMul, Nat.reduceBEq, Nat.reduceEqDiff, Int.reduceToNat, Int.reduceLT, Int.reduceLE, Nat.reduceSub, pl6, ft3, ft4, ft22, ft24, ft49, ft63, ft65, ft66, ints, hg, c1]
      exact ⟨_, [], _, ⟨rfl, by simp⟩, .inl ⟨rfl, rfl⟩⟩
    by_cases c5 : kd > 5
    · skip
      simp (maxSteps := 4000000) only [↓packA, ↓reduceIte, packB, pureOp, quietOp, loadOp, quietB, fr0, cellsK, implies_true, ite_true, ite_false, eq_self, ne_eq, reduceCtorEq, Nat.reduceLT, Nat.reduceLeDiff, Nat.reduceAdd, Nat.reduceMul, Nat.reduceBEq, Nat.reduceEqDiff, Int.reduceToNat, Int.reduceLT, Int.reduceLE, Nat.reduceSub, pl6, ft3, ft4, ft22, ft24, ft49, ft63, ft65, ft66, ints, hg, c1, c5]
      exact ⟨_, [], _, ⟨rfl, by simp⟩, .inl ⟨rfl, rfl⟩⟩
    have hk : kd = 1 ∨ kd = 2 ∨ kd = 3 ∨ kd = 4 ∨ kd = 5 := by omega
    rcases hk with rfl | rfl | rfl | rfl | rfl
    · skip
      simp (maxSteps := 4000000) only [↓packA, ↓reduceIte, packB, pureOp, quietOp, loadOp, quietB, fr0, cellsK, implies_true, ite_true, ite_false, eq_self, ne_eq, reduceCtorEq, Nat.reduceLT, Nat.reduceLeDiff, Nat.reduceAdd, Nat.reduceMul, Nat.reduceBEq, Nat.reduceEqDiff, Int.reduceToNat, Int.reduceLT, Int.reduceLE, Nat.reduceSub, pl6, ft3, ft4, ft22, ft24, ft49, ft63, ft65, ft66, ints, hg, Int.cast_ofNat_Int, Int.natCast_zero, Int.natCast_one, Int.reduceAdd, Int.reduceSub, Int.reduceNeg, Int.reduceMul, Int.reduceToNat, Int.reduceLT, Int.reduceLE, Int.reduceEq, Int.reduceBEq, Int.reduceBNe, Nat.reduceSub, Nat.reduceLT, List.getD_cons_zero, List.getD_cons_succ, List.length_singleton, Bool.and_true, Bool.and_false]
      refine wp20 rfl rfl ?_
      simp (maxSteps := 4000000) only [↓packA, ↓reduceIte, packB, pureOp, quietOp, loadOp, quietB, fr0, cellsK, implies_true, ite_true, ite_false, eq_self, ne_eq, reduceCtorEq, Nat.reduceLT, Nat.reduceLeDiff, Nat.reduceAdd, Nat.reduceMul, Nat.reduceBEq, Nat.reduceEqDiff, Int.reduceToNat, Int.reduceLT, Int.reduceLE, Nat.reduceSub, pl20, ft63, ft65, ft66, pl6, ft3, ft4, ft22, ft24, ft49, fpl102, patch, tagg99, tsize99, Int.cast_ofNat_Int, Int.natCast_zero, Int.natCast_one, Int.reduceAdd, Int.reduceSub, Int.reduceNeg, Int.reduceMul, Int.reduceToNat, Int.reduceLT, Int.reduceLE, Int.reduceEq, Int.reduceBEq, Int.reduceBNe, Nat.reduceSub, Nat.reduceLT, List.getD_cons_zero, List.getD_cons_succ, List.length_singleton, Bool.and_true, Bool.and_false]
      refine nat_at n hn st cs (F := fun _ => False) (fun i hi => hi.elim) (fun x G _ _ hbx => ?_)
      simp (maxSteps := 4000000) only [↓packA, ↓reduceIte, packB, pureOp, quietOp, loadOp, quietB, fr0, cellsK, implies_true, ite_true, ite_false, eq_self, ne_eq, reduceCtorEq, Nat.reduceLT, Nat.reduceLeDiff, Nat.reduceAdd, Nat.reduceMul, Nat.reduceBEq, Nat.reduceEqDiff, Int.reduceToNat, Int.reduceLT, Int.reduceLE, Nat.reduceSub, pl6, ft3, ft4, ft22, ft24, ft49, ft63, ft65, ft66, Int.cast_ofNat_Int, Int.natCast_zero, Int.natCast_one, Int.reduceAdd, Int.reduceSub, Int.reduceNeg, Int.reduceMul, Int.reduceToNat, Int.reduceLT, Int.reduceLE, Int.reduceEq, Int.reduceBEq, Int.reduceBNe, Nat.reduceSub, Nat.reduceLT, List.getD_cons_zero, List.getD_cons_succ, List.length_singleton, Bool.and_true, Bool.and_false]
      exact ⟨_, natL n, _, ⟨rfl, by rw [natL_len]; exact hn⟩, hbx⟩
    · skip
      simp (maxSteps := 4000000) only [↓packA, ↓reduceIte, packB, pureOp, quietOp, loadOp, quietB, fr0, cellsK, implies_true, ite_true, ite_false, eq_self, ne_eq, reduceCtorEq, Nat.reduceLT, Nat.reduceLeDiff, Nat.reduceAdd, Nat.reduceMul, Nat.reduceBEq, Nat.reduceEqDiff, Int.reduceToNat, Int.reduceLT, Int.reduceLE, Nat.reduceSub, pl6, ft3, ft4, ft22, ft24, ft49, ft63, ft65, ft66, ints, hg, Int.cast_ofNat_Int, Int.natCast_zero, Int.natCast_one, Int.reduceAdd, Int.reduceSub, Int.reduceNeg, Int.reduceMul, Int.reduceToNat, Int.reduceLT, Int.reduceLE, Int.reduceEq, Int.reduceBEq, Int.reduceBNe, Nat.reduceSub, Nat.reduceLT, List.getD_cons_zero, List.getD_cons_succ, List.length_singleton, Bool.and_true, Bool.and_false]
      refine wp20 rfl rfl ?_
      simp (maxSteps := 4000000) only [↓packA, ↓reduceIte, packB, pureOp, quietOp, loadOp, quietB, fr0, cellsK, implies_true, ite_true, ite_false, eq_self, ne_eq, reduceCtorEq, Nat.reduceLT, Nat.reduceLeDiff, Nat.reduceAdd, Nat.reduceMul, Nat.reduceBEq, Nat.reduceEqDiff, Int.reduceToNat, Int.reduceLT, Int.reduceLE, Nat.reduceSub, pl20, ft63, ft65, ft66, pl6, ft3, ft4, ft22, ft24, ft49, fpl102, patch, tagg99, tsize99, Int.cast_ofNat_Int, Int.natCast_zero, Int.natCast_one, Int.reduceAdd, Int.reduceSub, Int.reduceNeg, Int.reduceMul, Int.reduceToNat, Int.reduceLT, Int.reduceLE, Int.reduceEq, Int.reduceBEq, Int.reduceBNe, Nat.reduceSub, Nat.reduceLT, List.getD_cons_zero, List.getD_cons_succ, List.length_singleton, Bool.and_true, Bool.and_false]
      refine lar_at n hn st cs hb hb2 hm (fun x G hbx => ?_)
      simp (maxSteps := 4000000) only [↓packA, ↓reduceIte, packB, pureOp, quietOp, loadOp, quietB, fr0, cellsK, implies_true, ite_true, ite_false, eq_self, ne_eq, reduceCtorEq, Nat.reduceLT, Nat.reduceLeDiff, Nat.reduceAdd, Nat.reduceMul, Nat.reduceBEq, Nat.reduceEqDiff, Int.reduceToNat, Int.reduceLT, Int.reduceLE, Nat.reduceSub, pl6, ft3, ft4, ft22, ft24, ft49, ft63, ft65, ft66, Int.cast_ofNat_Int, Int.natCast_zero, Int.natCast_one, Int.reduceAdd, Int.reduceSub, Int.reduceNeg, Int.reduceMul, Int.reduceToNat, Int.reduceLT, Int.reduceLE, Int.reduceEq, Int.reduceBEq, Int.reduceBNe, Nat.reduceSub, Nat.reduceLT, List.getD_cons_zero, List.getD_cons_succ, List.length_singleton, Bool.and_true, Bool.and_false]
      exact ⟨_, lgL st cs n, _, ⟨rfl, by rw [lg_len (lgL_ok hm)]; exact hn⟩, hbx⟩
    · skip
      simp (maxSteps := 4000000) only [↓packA, ↓reduceIte, packB, pureOp, quietOp, loadOp, quietB, fr0, cellsK, implies_true, ite_true, ite_false, eq_self, ne_eq, reduceCtorEq, Nat.reduceLT, Nat.reduceLeDiff, Nat.reduceAdd, Nat.reduceMul, Nat.reduceBEq, Nat.reduceEqDiff, Int.reduceToNat, Int.reduceLT, Int.reduceLE, Nat.reduceSub, pl6, ft3, ft4, ft22, ft24, ft49, ft63, ft65, ft66, ints, hg, Int.cast_ofNat_Int, Int.natCast_zero, Int.natCast_one, Int.reduceAdd, Int.reduceSub, Int.reduceNeg, Int.reduceMul, Int.reduceToNat, Int.reduceLT, Int.reduceLE, Int.reduceEq, Int.reduceBEq, Int.reduceBNe, Nat.reduceSub, Nat.reduceLT, List.getD_cons_zero, List.getD_cons_succ, List.length_singleton, Bool.and_true, Bool.and_false]
      refine wp20 rfl rfl ?_
      simp (maxSteps := 4000000) only [↓packA, ↓reduceIte, packB, pureOp, quietOp, loadOp, quietB, fr0, cellsK, implies_true, ite_true, ite_false, eq_self, ne_eq, reduceCtorEq, Nat.reduceLT, Nat.reduceLeDiff, Nat.reduceAdd, Nat.reduceMul, Nat.reduceBEq, Nat.reduceEqDiff, Int.reduceToNat, Int.reduceLT, Int.reduceLE, Nat.reduceSub, pl20, ft63, ft65, ft66, pl6, ft3, ft4, ft22, ft24, ft49, fpl102, patch, tagg99, tsize99, Int.cast_ofNat_Int, Int.natCast_zero, Int.natCast_one, Int.reduceAdd, Int.reduceSub, Int.reduceNeg, Int.reduceMul, Int.reduceToNat, Int.reduceLT, Int.reduceLE, Int.reduceEq, Int.reduceBEq, Int.reduceBNe, Nat.reduceSub, Nat.reduceLT, List.getD_cons_zero, List.getD_cons_succ, List.length_singleton, Bool.and_true, Bool.and_false]
      refine wp55 rfl rfl ?_
      simp (maxSteps := 4000000) +contextual only [↓packA, ↓reduceIte, packB, pureOp, quietOp, loadOp, quietB, fr0, cellsK, implies_true, ite_true, ite_false, eq_self, ne_eq, reduceCtorEq, Nat.reduceLT, Nat.reduceLeDiff, Nat.reduceAdd, Nat.reduceMul, Nat.reduceBEq, Nat.reduceEqDiff, Int.reduceToNat, Int.reduceLT, Int.reduceLE, Nat.reduceSub, pl55, ft3, ft22, ft24, pl6, ft4, ft49, ft63, ft65, ft66, Int.cast_ofNat_Int, Int.natCast_zero, Int.natCast_one, Int.reduceAdd, Int.reduceSub, Int.reduceNeg, Int.reduceMul, Int.reduceToNat, Int.reduceLT, Int.reduceLE, Int.reduceEq, Int.reduceBEq, Int.reduceBNe, Nat.reduceSub, Nat.reduceLT, List.getD_cons_zero, List.getD_cons_succ, List.length_singleton, Bool.and_true, Bool.and_false]
      refine peel_at n hn st cs hb hb2 hg fun G o7 o8 hG g7 g8 => ?_
      have g0 := hG 0 (by simp)
      simp only [List.getElem?_cons_zero] at g0
      simp (maxSteps := 4000000) +contextual only [↓packA, ↓reduceIte, packB, pureOp, quietOp, loadOp, quietB, fr0, cellsK, implies_true, ite_true, ite_false, eq_self, ne_eq, reduceCtorEq, Nat.reduceLT, Nat.reduceLeDiff, Nat.reduceAdd, Nat.reduceMul, Nat.reduceBEq, Nat.reduceEqDiff, Int.reduceToNat, Int.reduceLT, Int.reduceLE, Nat.reduceSub, pl55, ft3, ft22, ft24, pl6, ft4, ft49, ft63, ft65, ft66, g0, Int.cast_ofNat_Int, Int.natCast_zero, Int.natCast_one, Int.reduceAdd, Int.reduceSub, Int.reduceNeg, Int.reduceMul, Int.reduceToNat, Int.reduceLT, Int.reduceLE, Int.reduceEq, Int.reduceBEq, Int.reduceBNe, Nat.reduceSub, Nat.reduceLT, List.getD_cons_zero, List.getD_cons_succ, List.length_singleton, Bool.and_true, Bool.and_false]
      exact ⟨_, ordOf st cs n, _, ⟨rfl, by rw [ordOf_len]; exact hn⟩, bc_all g7 ordOf_len.symm (by rw [ordOf_len]; omega) (fun h => h)⟩
    · skip
      simp (maxSteps := 4000000) only [↓packA, ↓reduceIte, packB, pureOp, quietOp, loadOp, quietB, fr0, cellsK, implies_true, ite_true, ite_false, eq_self, ne_eq, reduceCtorEq, Nat.reduceLT, Nat.reduceLeDiff, Nat.reduceAdd, Nat.reduceMul, Nat.reduceBEq, Nat.reduceEqDiff, Int.reduceToNat, Int.reduceLT, Int.reduceLE, Nat.reduceSub, pl6, ft3, ft4, ft22, ft24, ft49, ft63, ft65, ft66, ints, hg, Int.cast_ofNat_Int, Int.natCast_zero, Int.natCast_one, Int.reduceAdd, Int.reduceSub, Int.reduceNeg, Int.reduceMul, Int.reduceToNat, Int.reduceLT, Int.reduceLE, Int.reduceEq, Int.reduceBEq, Int.reduceBNe, Nat.reduceSub, Nat.reduceLT, List.getD_cons_zero, List.getD_cons_succ, List.length_singleton, Bool.and_true, Bool.and_false]
      refine wp20 rfl rfl ?_
      simp (maxSteps := 4000000) only [↓packA, ↓reduceIte, packB, pureOp, quietOp, loadOp, quietB, fr0, cellsK, implies_true, ite_true, ite_false, eq_self, ne_eq, reduceCtorEq, Nat.reduceLT, Nat.reduceLeDiff, Nat.reduceAdd, Nat.reduceMul, Nat.reduceBEq, Nat.reduceEqDiff, Int.reduceToNat, Int.reduceLT, Int.reduceLE, Nat.reduceSub, pl20, ft63, ft65, ft66, pl6, ft3, ft4, ft22, ft24, ft49, fpl102, patch, tagg99, tsize99, Int.cast_ofNat_Int, Int.natCast_zero, Int.natCast_one, Int.reduceAdd, Int.reduceSub, Int.reduceNeg, Int.reduceMul, Int.reduceToNat, Int.reduceLT, Int.reduceLE, Int.reduceEq, Int.reduceBEq, Int.reduceBNe, Nat.reduceSub, Nat.reduceLT, List.getD_cons_zero, List.getD_cons_succ, List.length_singleton, Bool.and_true, Bool.and_false]
      refine acalls_bc (inc_b n hn st cs hb hb2 hg (ints xs)) rfl (fun x G hx => ?_)
      simp (maxSteps := 4000000) only [↓packA, ↓reduceIte, packB, pureOp, quietOp, loadOp, quietB, fr0, cellsK, implies_true, ite_true, ite_false, eq_self, ne_eq, reduceCtorEq, Nat.reduceLT, Nat.reduceLeDiff, Nat.reduceAdd, Nat.reduceMul, Nat.reduceBEq, Nat.reduceEqDiff, Int.reduceToNat, Int.reduceLT, Int.reduceLE, Nat.reduceSub, pl6, ft3, ft4, ft22, ft24, ft49, ft63, ft65, ft66, Int.cast_ofNat_Int, Int.natCast_zero, Int.natCast_one, Int.reduceAdd, Int.reduceSub, Int.reduceNeg, Int.reduceMul, Int.reduceToNat, Int.reduceLT, Int.reduceLE, Int.reduceEq, Int.reduceBEq, Int.reduceBNe, Nat.reduceSub, Nat.reduceLT, List.getD_cons_zero, List.getD_cons_succ, List.length_singleton, Bool.and_true, Bool.and_false]
      exact ⟨_, incL st cs n, _, ⟨rfl, by rw [show (incL st cs n).length = n from (ist_ok st cs n n (Nat.le_refl _)).ll]; exact hn⟩, hx⟩
    · skip
      simp (maxSteps := 4000000) only [↓packA, ↓reduceIte, packB, pureOp, quietOp, loadOp, quietB, fr0, cellsK, implies_true, ite_true, ite_false, eq_self, ne_eq, reduceCtorEq, Nat.reduceLT, Nat.reduceLeDiff, Nat.reduceAdd, Nat.reduceMul, Nat.reduceBEq, Nat.reduceEqDiff, Int.reduceToNat, Int.reduceLT, Int.reduceLE, Nat.reduceSub, pl6, ft3, ft4, ft22, ft24, ft49, ft63, ft65, ft66, ints, hg, Int.cast_ofNat_Int, Int.natCast_zero, Int.natCast_one, Int.reduceAdd, Int.reduceSub, Int.reduceNeg, Int.reduceMul, Int.reduceToNat, Int.reduceLT, Int.reduceLE, Int.reduceEq, Int.reduceBEq, Int.reduceBNe, Nat.reduceSub, Nat.reduceLT, List.getD_cons_zero, List.getD_cons_succ, List.length_singleton, Bool.and_true, Bool.and_false]
      refine wp20 rfl rfl ?_
      simp (maxSteps := 4000000) only [↓packA, ↓reduceIte, packB, pureOp, quietOp, loadOp, quietB, fr0, cellsK, implies_true, ite_true, ite_false, eq_self, ne_eq, reduceCtorEq, Nat.reduceLT, Nat.reduceLeDiff, Nat.reduceAdd, Nat.reduceMul, Nat.reduceBEq, Nat.reduceEqDiff, Int.reduceToNat, Int.reduceLT, Int.reduceLE, Nat.reduceSub, pl20, ft63, ft65, ft66, pl6, ft3, ft4, ft22, ft24, ft49, fpl102, patch, tagg99, tsize99, Int.cast_ofNat_Int, Int.natCast_zero, Int.natCast_one, Int.reduceAdd, Int.reduceSub, Int.reduceNeg, Int.reduceMul, Int.reduceToNat, Int.reduceLT, Int.reduceLE, Int.reduceEq, Int.reduceBEq, Int.reduceBNe, Nat.reduceSub, Nat.reduceLT, List.getD_cons_zero, List.getD_cons_succ, List.length_singleton, Bool.and_true, Bool.and_false]
      refine acalls_bc (scr_b n hn st cs xs) rfl (fun x G hx => ?_)
      simp (maxSteps := 4000000) only [↓packA, ↓reduceIte, packB, pureOp, quietOp, loadOp, quietB, fr0, cellsK, implies_true, ite_true, ite_false, eq_self, ne_eq, reduceCtorEq, Nat.reduceLT, Nat.reduceLeDiff, Nat.reduceAdd, Nat.reduceMul, Nat.reduceBEq, Nat.reduceEqDiff, Int.reduceToNat, Int.reduceLT, Int.reduceLE, Nat.reduceSub, pl6, ft3, ft4, ft22, ft24, ft49, ft63, ft65, ft66, Int.cast_ofNat_Int, Int.natCast_zero, Int.natCast_one, Int.reduceAdd, Int.reduceSub, Int.reduceNeg, Int.reduceMul, Int.reduceToNat, Int.reduceLT, Int.reduceLE, Int.reduceEq, Int.reduceBEq, Int.reduceBNe, Nat.reduceSub, Nat.reduceLT, List.getD_cons_zero, List.getD_cons_succ, List.length_singleton, Bool.and_true, Bool.and_false]
      exact ⟨_, scrL n xs, _, ⟨rfl, scrL_len hn⟩, hx⟩
  · skip
    simp (maxSteps := 4000000) only [↓packA, ↓reduceIte, packB, pureOp, quietOp, loadOp, quietB, fr0, cellsK, implies_true, ite_true, ite_false, eq_self, ne_eq, reduceCtorEq, Nat.reduceLT, Nat.reduceLeDiff, Nat.reduceAdd, Nat.reduceMul, Nat.reduceBEq, Nat.reduceEqDiff, Int.reduceToNat, Int.reduceLT, Int.reduceLE, Nat.reduceSub, pl6, ft3, ft4, ft22, ft24, ft49, ft63, ft65, ft66, ints, hg]
    exact ⟨_, [], _, ⟨rfl, by simp⟩, .inl ⟨rfl, rfl⟩⟩

/-- What one owns is lent; the answer's list is one's own. -/
theorem own_lend {P : Program} {f : FuncId} {args args' : List AV} {h : Heap} {Sh : (AV → AV) → Prop} (hsh : ∀ w, Sh w → (∀ ρ x, (w x).ren ρ = w (x.ren ρ)) ∧ ∀ x, x.lean = true → (w x).lean = true) {Q : AV → Heap → Prop} (hc : ACalls P f args' [] fun v h => ∃ w x l, Sh w ∧ (v = w x ∧ l.length ≤ 128) ∧ BC (fun _ => False) h x l) (ha : Frzs h args args')
    (hq : ∀ w x l t, Sh w → BC (fun i => i < h.length) (h ++ t) x l → l.length ≤ 128 → Q (w x) (h ++ t)) : ACalls P f args h Q := by
  have h1 : ACalls P f args' [] fun v h => ∃ w x l, Sh w ∧ (v = w x ∧ l.length ≤ 128) ∧ x.lean = true ∧ (∀ o, o ∈ h → o.lean = true) ∧ BC (fun _ => False) h x l := by
    refine acalls_gc (hc.mono fun v g hv => ?_)
    obtain ⟨w, x, l, hw, ⟨rfl, hl⟩, hx⟩ := hv
    have hw1 := (hsh w hw).1
    rcases hx with ⟨rfl, rfl⟩ | ⟨id, len, cap, ex, es, ex', rfl, q1, q2, q3⟩
    · exact ⟨[], ⟨by simp, rfl⟩, w, .nils, [], hw, ⟨hw1 _ _, hl⟩, rfl, by simp [gcH], .inl ⟨rfl, rfl⟩⟩
    · have e1 : gcH [id] g = [.arr 1 (List.map intE es) ex'] := by
        simp only [gcH, List.map_cons, List.map_nil, q2]
        rw [ren_intEs]
      refine ⟨[id], ⟨by simp, rfl⟩, w, .osl 0 1 0 len cap ex, l, hw, ⟨by rw [hw1]; simp [AV.ren, posOf], hl⟩, rfl, ?_, ?_⟩
      · rw [e1]
        intro o ho
        rw [List.mem_singleton.1 ho]
        exact lean_intEs
      · rw [e1]
        exact .inr ⟨0, len, cap, ex, es, ex', rfl, fun h => h, rfl, q3⟩
  refine acalls_lend_shift h1 ha fun u h0 hu => ?_
  obtain ⟨w, x, l, hw, ⟨rfl, hl⟩, hx1, hx2, hx3⟩ := hu
  refine ⟨⟨(hsh w hw).2 x hx1, hx2⟩, ?_⟩
  rw [(hsh w hw).1]
  exact hq w _ l _ hw (bc_shift hx3 fun i _ => by omega) hl
def Sh1 (w : AV → AV) : Prop := ∃ e : Int, w = fun x => .tup [x, .int .i64 e]
def Sh3 (w : AV → AV) : Prop := ∃ m e : Int, w = fun x => .tup [.int .i64 m, x, .int .i64 e]
theorem sh1_ok : ∀ w, Sh1 w → (∀ ρ x, (w x).ren ρ = w (x.ren ρ)) ∧ ∀ x, x.lean = true → (w x).lean = true := by
  rintro w ⟨e, rfl⟩
  exact ⟨fun ρ x => rfl, fun x hx => by simp [AV.lean, leans, hx]⟩
theorem sh3_ok : ∀ w, Sh3 w → (∀ ρ x, (w x).ren ρ = w (x.ren ρ)) ∧ ∀ x, x.lean = true → (w x).lean = true := by
  rintro w ⟨m, e, rfl⟩
  exact ⟨fun ρ x => rfl, fun x hx => by simp [AV.lean, leans, hx]⟩
theorem own_order (kd rows width : Int) (st cs xs : List Int) (hb : st.length < 1000000000) (hb2 : cs.length < 1000000000) (hbx : xs.length < 1000000000) {args : List AV} {h : Heap} {Q : AV → Heap → Prop} (ha : Frzs h args [.int .i64 kd, pat rows width st cs, ints xs])
    (hq : ∀ x l e t, BC (fun i => i < h.length) (h ++ t) x l → l.length ≤ 128 → Q (.tup [x, .int .i64 e]) (h ++ t)) : ACalls Tryz.prog 6 args h Q := by
  refine own_lend (Sh := Sh1) sh1_ok ((order_b kd rows width st cs xs hb hb2 hbx).mono fun v h hv => ?_) ha fun w x l t hw hx hl => ?_
  · obtain ⟨x, l, e, h1, h2⟩ := hv
    exact ⟨_, x, l, ⟨e, rfl⟩, h1, h2⟩
  · obtain ⟨e, rfl⟩ := hw
    exact hq x l e t hx hl
theorem own_back (rows width : Int) (st cs xs : List Int) (hb : st.length < 1000000000) (hb2 : cs.length < 1000000000) (hbx : xs.length < 1000000000) {args : List AV} {h : Heap} {Q : AV → Heap → Prop} (ha : Frzs h args [pat rows width st cs, ints xs])
    (hq : ∀ x l m e t, BC (fun i => i < h.length) (h ++ t) x l → l.length ≤ 128 → Q (.tup [.int .i64 m, x, .int .i64 e]) (h ++ t)) : ACalls Tryz.prog 8 args h Q := by
  refine own_lend (Sh := Sh3) sh3_ok ((back_b rows width st cs xs hb hb2 hbx).mono fun v h hv => ?_) ha fun w x l t hw hx hl => ?_
  · obtain ⟨x, m, l, e, h1, h2⟩ := hv
    exact ⟨_, x, l, ⟨m, e, rfl⟩, h1, h2⟩
  · obtain ⟨m, e, rfl⟩ := hw
    exact hq x l m e t hx hl
theorem own_degen (rows width : Int) (st cs : List Int) (hb : st.length < 1000000000) (hb2 : cs.length < 1000000000) {args : List AV} {h : Heap} {Q : AV → Heap → Prop} (ha : Frzs h args [pat rows width st cs])
    (hq : ∀ x l m e t, BC (fun i => i < h.length) (h ++ t) x l → l.length ≤ 128 → Q (.tup [.int .i64 m, x, .int .i64 e]) (h ++ t)) : ACalls Tryz.prog 9 args h Q := by
  refine own_lend (Sh := Sh3) sh3_ok ((degen_b rows width st cs hb hb2).mono fun v h hv => ?_) ha fun w x l t hw hx hl => ?_
  · obtain ⟨x, m, l, e, h1, h2⟩ := hv
    exact ⟨_, x, l, ⟨m, e, rfl⟩, h1, h2⟩
  · obtain ⟨m, e, rfl⟩ := hw
    exact hq x l m e t hx hl
theorem own_inv (xs : List Int) (hbx : xs.length < 1000000000) {args : List AV} {h : Heap} {Q : AV → Heap → Prop} (ha : Frzs h args [ints xs])
    (hq : ∀ x l e t, BC (fun i => i < h.length) (h ++ t) x l → l.length ≤ 128 → Q (.tup [x, .int .i64 e]) (h ++ t)) : ACalls Tryz.prog 10 args h Q := by
  refine own_lend (Sh := Sh1) sh1_ok ((inverse_b xs hbx).mono fun v h hv => ?_) ha fun w x l t hw hx hl => ?_
  · obtain ⟨x, l, e, h1, h2⟩ := hv
    exact ⟨_, x, l, ⟨e, rfl⟩, h1, h2⟩
  · obtain ⟨e, rfl⟩ := hw
    exact hq x l e t hx hl
end Go.Proofs.YtgdlkhgfehclpaaGreat
end

section
/- Lists of lists; the book. No condition. -/
namespace Go.Proofs.YtgdlkhgfehclpaaGreat
open Go Go.AL
set_option linter.unusedVariables false
set_option linter.unusedSimpArgs false
/-- A slice of slices that lies in an object of its own, or none. -/
def CA (F : Nat → Prop) (h : Heap) (t : AV) (cells : List AV) : Prop :=
  (t = .nils ∧ cells = []) ∨ ∃ J cap ex es ex', t = .osl J 1 0 cells.length cap ex ∧ ¬ F J ∧ h[J]? = some (.arr 1 es ex') ∧ cells.length ≤ cap ∧ cap ≤ es.length ∧ es.take cells.length = cells.map (fun x => [x])
theorem CA.keep {F F' : Nat → Prop} {h h' : Heap} {t : AV} {cells : List AV} (hb : CA F h t cells) (hh : ∀ id, idOf t = some id → id < h.length → ¬ F id → ¬ F' id ∧ h'[id]? = h[id]?) : CA F' h' t cells := by
  rcases hb with hb | ⟨J, cap, ex, es, ex', rfl, h1, h2, h3⟩
  · exact .inl hb
  · obtain ⟨q1, q2⟩ := hh _ rfl (List.getElem?_eq_some_iff.1 h2).1 h1
    exact .inr ⟨J, cap, ex, es, ex', rfl, q1, by rw [q2]; exact h2, h3⟩
theorem CA.lt {F : Nat → Prop} {h : Heap} {t : AV} {cells : List AV} (hb : CA F h t cells) {id : Nat} (e : idOf t = some id) : id < h.length ∧ ¬ F id := by
  rcases hb with ⟨rfl, _⟩ | ⟨J, cap, ex, es, ex', rfl, h1, h2, h3⟩
  · cases e
  · cases e
    exact ⟨(List.getElem?_eq_some_iff.1 h2).1, h1⟩
theorem push_ca {F : Nat → Prop} {h : Heap} {t : AV} {cells : List AV} (hb : CA F h t cells) (hF : ∀ i, F i → i < h.length) (hsm : cells.length < 900000) {l : AV} {K : AV → Heap → Prop}
    (hq : ∀ t' h', CA F h' t' (cells ++ [l]) → (∀ i, i < h.length → idOf t ≠ some i → h'[i]? = h[i]?) → h.length ≤ h'.length → (∀ i, idOf t' = some i → idOf t = some i ∨ h.length ≤ i) → (∃ J n cap ex, t' = .osl J 1 0 n cap ex) → K t' h') : apK [.nils] 24 h t [[l]] K := by
  rcases hb with ⟨rfl, rfl⟩ | ⟨J, cap, ex, es, ex', rfl, q1, q2, q3, q4, q5⟩
  · refine ⟨by simp, fun e => absurd e (by simp), fun _ => ?_⟩
    show growK 1 24 _ _ _ _ K
    unfold growK
    rw [if_neg (by decide)]
    exact hq _ _ (.inr ⟨h.length, 1, false, [[l]], false, rfl, fun e => absurd (hF _ e) (Nat.lt_irrefl _), by simp, by simp, by simp, by simp⟩) (fun i hi _ => List.getElem?_append_left hi) (by simp) (fun i e => .inr (by cases e; exact Nat.le_refl _)) ⟨_, _, _, _, rfl⟩
  · have hlt : J < h.length := (List.getElem?_eq_some_iff.1 q2).1
    refine ⟨rfl, by simp; omega, es, ex', q2, by simp; omega, fun hin => ⟨by simp at hin ⊢; omega, ?_⟩, fun hout => ?_⟩
    · simp only [List.length_singleton] at hin
      have := hq (.osl J 1 0 (cells.length + 1) cap ex) (h.set J (.arr 1 (es.take (0 + cells.length) ++ [[l]] ++ es.drop (0 + cells.length + 1)) ex')) (.inr ⟨J, cap, ex, es.take (0 + cells.length) ++ [[l]] ++ es.drop (0 + cells.length + 1), ex', by simp, q1, List.getElem?_set_self hlt, by simpa using hin, by simp; omega, ?_⟩) (fun i _ hi => List.getElem?_set_ne (fun e => hi (by rw [← e]; rfl))) (by simp) (fun i e => .inl e) ⟨_, _, _, _, rfl⟩
      · simpa using this
      · rw [List.length_append, List.length_singleton, List.take_left' (by simp; omega), Nat.zero_add, q5]; simp
    · simp only [List.length_singleton] at hout
      have hel : (es.take cells.length).length = cells.length := by simp; omega
      have hnew : ∀ g : Heap, g.length = h.length → (∀ i, i < h.length → idOf (.osl J 1 0 cells.length cap ex) ≠ some i → g[i]? = h[i]?) → K (.osl h.length 1 0 (cells.length + 1) (cells.length + 1) false) (g ++ [.arr 1 (es.take cells.length ++ [[l]]) false]) := fun g hg hgk => by
        refine hq _ _ (.inr ⟨h.length, cells.length + 1, false, es.take cells.length ++ [[l]], false, by simp, fun e => absurd (hF _ e) (Nat.lt_irrefl _), ?_, by simp, by simp; omega, ?_⟩) (fun i hi hni => ?_) (by simp [hg]) (fun i e => .inr (by cases e; exact Nat.le_refl _)) ⟨_, _, _, _, rfl⟩
        · rw [List.getElem?_append_right (by omega), hg]; simp
        · rw [List.take_of_length_le (by simp; omega), q5]; simp
        · rw [List.getElem?_append_left (by omega)]; exact hgk i hi hni
      cases ex with
      | true =>
        show growK 1 24 _ _ _ _ K
        unfold growK
        rw [if_neg (by decide)]
        have hlr : (List.take cells.length (List.drop 0 es) ++ [[l]]).length = cells.length + 1 := by simp; omega
        rw [hlr]
        have := hnew h rfl (fun _ _ _ => rfl)
        simpa using this
      | false =>
        refine ⟨rfl, ?_⟩
        have := hnew (h.set J .dead) (by simp) (fun i _ hi => List.getElem?_set_ne (fun e => hi (by rw [← e]; rfl)))
        simpa using this
def bookCells (y : AV) : List AV := [.nils, .nils, y, .nils, .nils, .nils, .nils, .nils, .nils, .nils, .nils, .nils, .nils, .nils]
theorem bc_form {F : Nat → Prop} {h : Heap} {x : AV} {l : List Int} (hb : BC F h x l) : x = .nils ∨ ∃ id len cap ex, x = .osl id 1 0 len cap ex := by
  rcases hb with ⟨rfl, _⟩ | ⟨id, len, cap, ex, es, ex', rfl, _⟩
  · exact .inl rfl
  · exact .inr ⟨_, _, _, _, rfl⟩
set_option maxRecDepth 100000 in
theorem book_ints {F : Nat → Prop} {B : Nat} {h : Heap} {y l : AV} {cells : List AV} {Q : AV → Heap → Prop} (hB : h[B]? = some (.arr 14 [bookCells y] true)) (hca : CA F h y cells) (hFB : F B) (hF : ∀ i, F i → i < h.length) (hsm : cells.length < 900000) (hl : l = .nils ∨ ∃ id len cap ex, l = .osl id 1 0 len cap ex)
    (hq : ∀ h' y', h.length ≤ h'.length → CA F h' y' (cells ++ [l]) → h'[B]? = some (.arr 14 [bookCells y'] true) → (∀ i, i < h.length → i ≠ B → idOf y ≠ some i → h'[i]? = h[i]?) → (∀ i, idOf y' = some i → idOf y = some i ∨ h.length ≤ i) → Q (.tup []) h') : ACalls Tryz.prog 7 [.op B 14 0 0, l] h Q := by
  refine (wp7 rfl rfl ?_)
  obtain ⟨M, hM⟩ : ∃ M, h.length = M := ⟨_, rfl⟩
  have hlt : B < h.length := (List.getElem?_eq_some_iff.1 hB).1
  have rM : ∀ o, (h ++ [o])[M]? = some o := fun o => by rw [List.getElem?_append_right (by omega)]; simp [hM]
  have main : ∀ (t' : AV) (h' : Heap), (∀ i, i < (h ++ [Ob.arr 1 [[l]] true]).length → idOf y ≠ some i → h'[i]? = (h ++ [Ob.arr 1 [[l]] true])[i]?) → h'[B]? = some (.arr 14 [[.nils, .nils, y, .nils, .nils, .nils, .nils, .nils, .nils, .nils, .nils, .nils, .nils, .nils]] true) := fun t' h' h2 =>
    (h2 B (by simp; omega) (fun e => (hca.lt e).2 hFB)).trans ((List.getElem?_append_left hlt).trans hB)
  have fin : ∀ (t' : AV) (h' : Heap), CA F h' t' (cells ++ [l]) → (∀ i, i < (h ++ [Ob.arr 1 [[l]] true]).length → idOf y ≠ some i → h'[i]? = (h ++ [Ob.arr 1 [[l]] true])[i]?) → (h ++ [Ob.arr 1 [[l]] true]).length ≤ h'.length → (∀ i, idOf t' = some i → idOf y = some i ∨ (h ++ [Ob.arr 1 [[l]] true]).length ≤ i) →
      Q (.tup []) (h'.set B (.arr 14 [[.nils, .nils, t', .nils, .nils, .nils, .nils, .nils, .nils, .nils, .nils, .nils, .nils, .nils]] true)) := fun t' h' h1 h2 h3 h4 => by
    simp only [List.length_append, List.length_singleton] at h2 h3 h4
    refine hq _ t' (by simp; omega) (h1.keep fun id _ hlt' hn => ⟨hn, List.getElem?_set_ne (fun (e : B = id) => hn (by rw [← e]; exact hFB))⟩) (List.getElem?_set_self (by omega)) (fun i hi hne hni => ?_) (fun i e => (h4 i e).imp_right fun h => by omega)
    rw [List.getElem?_set_ne (Ne.symm hne), h2 i (by omega) hni, List.getElem?_append_left hi]
  unfold bookCells at hB
  rcases hl with rfl | ⟨lid, ln, lc, lx, rfl⟩
  · simp (maxSteps := 4000000) only [↓packA, ↓reduceIte, packB, pureOp, quietOp, loadOp, quietB, fr0, cellsK, implies_true, ite_true, ite_false, eq_self, ne_eq, reduceCtorEq, Nat.reduceLT, Nat.reduceLeDiff, Nat.reduceAdd, Nat.reduceMul, Nat.reduceBEq, Nat.reduceEqDiff, Int.reduceToNat, Int.reduceLT, Int.reduceLE, Nat.reduceSub, pl7, ft1, ft2, ft3, ft22, ft26, ft27, ft28, ft29, ft30, ft31, ft32, ft33, ft41, ft42, ft43, ft44, ft45, ft46, ft48, ft73, ft75, ft78, ft80, ft96, ft103, ft106, ft110, ft113, ft116, ft119, ft124, hB, hM, rM]
    refine push_ca (F := F) (hca.keep fun id _ hl hn => ⟨hn, List.getElem?_append_left hl⟩) (fun i hi => by have := hF i hi; simp; omega) hsm fun t' h' h1 h2 h3 h4 h5 => ?_
    have hB' := main t' h' h2
    have hf := fin t' h' h1 h2 h3 h4
    obtain ⟨J, n, cap, ex, rfl⟩ := h5
    simp (maxSteps := 4000000) only [↓packA, ↓reduceIte, packB, pureOp, quietOp, loadOp, quietB, fr0, cellsK, implies_true, ite_true, ite_false, eq_self, ne_eq, reduceCtorEq, Nat.reduceLT, Nat.reduceLeDiff, Nat.reduceAdd, Nat.reduceMul, Nat.reduceBEq, Nat.reduceEqDiff, Int.reduceToNat, Int.reduceLT, Int.reduceLE, Nat.reduceSub, pl7, ft1, ft2, ft3, ft22, ft26, ft27, ft28, ft29, ft30, ft31, ft32, ft33, ft41, ft42, ft43, ft44, ft45, ft46, ft48, ft73, ft75, ft78, ft80, ft96, ft103, ft106, ft110, ft113, ft116, ft119, ft124, hB']
    exact hf
  · simp (maxSteps := 4000000) only [↓packA, ↓reduceIte, packB, pureOp, quietOp, loadOp, quietB, fr0, cellsK, implies_true, ite_true, ite_false, eq_self, ne_eq, reduceCtorEq, Nat.reduceLT, Nat.reduceLeDiff, Nat.reduceAdd, Nat.reduceMul, Nat.reduceBEq, Nat.reduceEqDiff, Int.reduceToNat, Int.reduceLT, Int.reduceLE, Nat.reduceSub, pl7, ft1, ft2, ft3, ft22, ft26, ft27, ft28, ft29, ft30, ft31, ft32, ft33, ft41, ft42, ft43, ft44, ft45, ft46, ft48, ft73, ft75, ft78, ft80, ft96, ft103, ft106, ft110, ft113, ft116, ft119, ft124, hB, hM, rM]
    refine push_ca (F := F) (hca.keep fun id _ hl hn => ⟨hn, List.getElem?_append_left hl⟩) (fun i hi => by have := hF i hi; simp; omega) hsm fun t' h' h1 h2 h3 h4 h5 => ?_
    have hB' := main t' h' h2
    have hf := fin t' h' h1 h2 h3 h4
    obtain ⟨J, n, cap, ex, rfl⟩ := h5
    simp (maxSteps := 4000000) only [↓packA, ↓reduceIte, packB, pureOp, quietOp, loadOp, quietB, fr0, cellsK, implies_true, ite_true, ite_false, eq_self, ne_eq, reduceCtorEq, Nat.reduceLT, Nat.reduceLeDiff, Nat.reduceAdd, Nat.reduceMul, Nat.reduceBEq, Nat.reduceEqDiff, Int.reduceToNat, Int.reduceLT, Int.reduceLE, Nat.reduceSub, pl7, ft1, ft2, ft3, ft22, ft26, ft27, ft28, ft29, ft30, ft31, ft32, ft33, ft41, ft42, ft43, ft44, ft45, ft46, ft48, ft73, ft75, ft78, ft80, ft96, ft103, ft106, ft110, ft113, ft116, ft119, ft124, hB']
    exact hf
end Go.Proofs.YtgdlkhgfehclpaaGreat
end

section
/- The book holds lists of numbers alone: the other lists are apart. No condition. -/
namespace Go.Proofs.YtgdlkhgfehclpaaGreat
open Go Go.AL
set_option linter.unusedVariables false
set_option linter.unusedSimpArgs false
set_option maxHeartbeats 4000000 in
set_option maxRecDepth 100000 in
theorem apart24 {B : Nat} {h : Heap} {y : AV} {Q : AV → Heap → Prop} (hB : h[B]? = some (.arr 14 [bookCells y] true)) (hq : Q (.bool true) h) : ACalls Tryz.prog 24 [.op B 14 0 0] h Q := by
  unfold bookCells at hB
  refine (wp24 rfl rfl ?_)
  simp (maxSteps := 4000000) only [↓packA, ↓reduceIte, packB, pureOp, quietOp, loadOp, quietB, fr0, cellsK, implies_true, ite_true, ite_false, eq_self, ne_eq, reduceCtorEq, Nat.reduceLT, Nat.reduceLeDiff, Nat.reduceAdd, Nat.reduceMul, Nat.reduceBEq, Nat.reduceEqDiff, Int.reduceToNat, Int.reduceLT, Int.reduceLE, Nat.reduceSub, pl24, ft1, ft3, ft22, ft26, ft27, ft28, ft29, ft30, ft31, ft32, ft33, ft41, ft42, ft43, ft44, ft45, ft46, ft48, ft73, ft75, ft78, ft80, ft93, ft96, ft103, ft106, ft110, ft113, ft116, ft119, ft124, hB, Int.cast_ofNat_Int, Int.natCast_zero, Int.natCast_one, Int.reduceAdd, Int.reduceSub, Int.reduceNeg, Int.reduceMul, Int.reduceToNat, Int.reduceLT, Int.reduceLE, Int.reduceEq, Int.reduceBEq, Int.reduceBNe, Nat.reduceSub, Nat.reduceLT, List.getD_cons_zero, List.getD_cons_succ, List.length_singleton, Bool.and_true, Bool.and_false]
  repeat (refine LoopN.loop 1 ?_; simp (maxSteps := 4000000) only [↓packA, ↓reduceIte, packB, pureOp, quietOp, loadOp, quietB, fr0, cellsK, implies_true, ite_true, ite_false, eq_self, ne_eq, reduceCtorEq, Nat.reduceLT, Nat.reduceLeDiff, Nat.reduceAdd, Nat.reduceMul, Nat.reduceBEq, Nat.reduceEqDiff, Int.reduceToNat, Int.reduceLT, Int.reduceLE, Nat.reduceSub, pl24, ft1, ft3, ft22, ft26, ft27, ft28, ft29, ft30, ft31, ft32, ft33, ft41, ft42, ft43, ft44, ft45, ft46, ft48, ft73, ft75, ft78, ft80, ft93, ft96, ft103, ft106, ft110, ft113, ft116, ft119, ft124, ↓LoopN_succ, hB, Int.cast_ofNat_Int, Int.natCast_zero, Int.natCast_one, Int.reduceAdd, Int.reduceSub, Int.reduceNeg, Int.reduceMul, Int.reduceToNat, Int.reduceLT, Int.reduceLE, Int.reduceEq, Int.reduceBEq, Int.reduceBNe, Nat.reduceSub, Nat.reduceLT, List.getD_cons_zero, List.getD_cons_succ, List.length_singleton, Bool.and_true, Bool.and_false])
  exact hq
set_option maxHeartbeats 4000000 in
set_option maxRecDepth 100000 in
theorem apart25 {B : Nat} {h : Heap} {y : AV} {Q : AV → Heap → Prop} (hB : h[B]? = some (.arr 14 [bookCells y] true)) (hq : Q (.bool true) h) : ACalls Tryz.prog 25 [.op B 14 0 0] h Q := by
  unfold bookCells at hB
  refine (wp25 rfl rfl ?_)
  simp (maxSteps := 4000000) only [↓packA, ↓reduceIte, packB, pureOp, quietOp, loadOp, quietB, fr0, cellsK, implies_true, ite_true, ite_false, eq_self, ne_eq, reduceCtorEq, Nat.reduceLT, Nat.reduceLeDiff, Nat.reduceAdd, Nat.reduceMul, Nat.reduceBEq, Nat.reduceEqDiff, Int.reduceToNat, Int.reduceLT, Int.reduceLE, Nat.reduceSub, pl25, ft1, ft3, ft22, ft26, ft27, ft28, ft29, ft30, ft31, ft32, ft33, ft41, ft42, ft43, ft44, ft45, ft46, ft48, ft73, ft75, ft78, ft80, ft95, ft96, ft103, ft106, ft110, ft113, ft116, ft119, ft124, hB, Int.cast_ofNat_Int, Int.natCast_zero, Int.natCast_one, Int.reduceAdd, Int.reduceSub, Int.reduceNeg, Int.reduceMul, Int.reduceToNat, Int.reduceLT, Int.reduceLE, Int.reduceEq, Int.reduceBEq, Int.reduceBNe, Nat.reduceSub, Nat.reduceLT, List.getD_cons_zero, List.getD_cons_succ, List.length_singleton, Bool.and_true, Bool.and_false]
  repeat (refine LoopN.loop 1 ?_; simp (maxSteps := 4000000) only [↓packA, ↓reduceIte, packB, pureOp, quietOp, loadOp, quietB, fr0, cellsK, implies_true, ite_true, ite_false, eq_self, ne_eq, reduceCtorEq, Nat.reduceLT, Nat.reduceLeDiff, Nat.reduceAdd, Nat.reduceMul, Nat.reduceBEq, Nat.reduceEqDiff, Int.reduceToNat, Int.reduceLT, Int.reduceLE, Nat.reduceSub, pl25, ft1, ft3, ft22, ft26, ft27, ft28, ft29, ft30, ft31, ft32, ft33, ft41, ft42, ft43, ft44, ft45, ft46, ft48, ft73, ft75, ft78, ft80, ft95, ft96, ft103, ft106, ft110, ft113, ft116, ft119, ft124, ↓LoopN_succ, hB, Int.cast_ofNat_Int, Int.natCast_zero, Int.natCast_one, Int.reduceAdd, Int.reduceSub, Int.reduceNeg, Int.reduceMul, Int.reduceToNat, Int.reduceLT, Int.reduceLE, Int.reduceEq, Int.reduceBEq, Int.reduceBNe, Nat.reduceSub, Nat.reduceLT, List.getD_cons_zero, List.getD_cons_succ, List.length_singleton, Bool.and_true, Bool.and_false])
  exact hq
set_option maxHeartbeats 4000000 in
set_option maxRecDepth 100000 in
theorem apart27 {B : Nat} {h : Heap} {y : AV} {Q : AV → Heap → Prop} (hB : h[B]? = some (.arr 14 [bookCells y] true)) (hq : Q (.bool true) h) : ACalls Tryz.prog 27 [.op B 14 0 0] h Q := by
  unfold bookCells at hB
  refine (wp27 rfl rfl ?_)
  simp (maxSteps := 4000000) only [↓packA, ↓reduceIte, packB, pureOp, quietOp, loadOp, quietB, fr0, cellsK, implies_true, ite_true, ite_false, eq_self, ne_eq, reduceCtorEq, Nat.reduceLT, Nat.reduceLeDiff, Nat.reduceAdd, Nat.reduceMul, Nat.reduceBEq, Nat.reduceEqDiff, Int.reduceToNat, Int.reduceLT, Int.reduceLE, Nat.reduceSub, pl27, ft1, ft3, ft4, ft22, ft26, ft27, ft28, ft29, ft30, ft31, ft32, ft33, ft41, ft42, ft43, ft44, ft45, ft46, ft48, ft73, ft75, ft78, ft80, ft96, ft103, ft106, ft110, ft113, ft116, ft119, ft124, hB, Int.cast_ofNat_Int, Int.natCast_zero, Int.natCast_one, Int.reduceAdd, Int.reduceSub, Int.reduceNeg, Int.reduceMul, Int.reduceToNat, Int.reduceLT, Int.reduceLE, Int.reduceEq, Int.reduceBEq, Int.reduceBNe, Nat.reduceSub, Nat.reduceLT, List.getD_cons_zero, List.getD_cons_succ, List.length_singleton, Bool.and_true, Bool.and_false]
  repeat (refine LoopN.loop 1 ?_; simp (maxSteps := 4000000) only [↓packA, ↓reduceIte, packB, pureOp, quietOp, loadOp, quietB, fr0, cellsK, implies_true, ite_true, ite_false, eq_self, ne_eq, reduceCtorEq, Nat.reduceLT, Nat.reduceLeDiff, Nat.reduceAdd, Nat.reduceMul, Nat.reduceBEq, Nat.reduceEqDiff, Int.reduceToNat, Int.reduceLT, Int.reduceLE, Nat.reduceSub, pl27, ft1, ft3, ft4, ft22, ft26, ft27, ft28, ft29, ft30, ft31, ft32, ft33, ft41, ft42, ft43, ft44, ft45, ft46, ft48, ft73, ft75, ft78, ft80, ft96, ft103, ft106, ft110, ft113, ft116, ft119, ft124, ↓LoopN_succ, hB, Int.cast_ofNat_Int, Int.natCast_zero, Int.natCast_one, Int.reduceAdd, Int.reduceSub, Int.reduceNeg, Int.reduceMul, Int.reduceToNat, Int.reduceLT, Int.reduceLE, Int.reduceEq, Int.reduceBEq, Int.reduceBNe, Nat.reduceSub, Nat.reduceLT, List.getD_cons_zero, List.getD_cons_succ, List.length_singleton, Bool.and_true, Bool.and_false])
  exact hq
set_option maxHeartbeats 4000000 in
set_option maxRecDepth 100000 in
theorem apart28 {B : Nat} {h : Heap} {y : AV} {Q : AV → Heap → Prop} (hB : h[B]? = some (.arr 14 [bookCells y] true)) (hq : Q (.bool true) h) : ACalls Tryz.prog 28 [.op B 14 0 0] h Q := by
  unfold bookCells at hB
  refine (wp28 rfl rfl ?_)
  simp (maxSteps := 4000000) only [↓packA, ↓reduceIte, packB, pureOp, quietOp, loadOp, quietB, fr0, cellsK, implies_true, ite_true, ite_false, eq_self, ne_eq, reduceCtorEq, Nat.reduceLT, Nat.reduceLeDiff, Nat.reduceAdd, Nat.reduceMul, Nat.reduceBEq, Nat.reduceEqDiff, Int.reduceToNat, Int.reduceLT, Int.reduceLE, Nat.reduceSub, pl28, ft1, ft3, ft4, ft9, ft22, ft26, ft27, ft28, ft29, ft30, ft31, ft32, ft33, ft41, ft42, ft43, ft44, ft45, ft46, ft48, ft73, ft75, ft78, ft80, ft96, ft103, ft106, ft110, ft113, ft116, ft119, ft124, hB, Int.cast_ofNat_Int, Int.natCast_zero, Int.natCast_one, Int.reduceAdd, Int.reduceSub, Int.reduceNeg, Int.reduceMul, Int.reduceToNat, Int.reduceLT, Int.reduceLE, Int.reduceEq, Int.reduceBEq, Int.reduceBNe, Nat.reduceSub, Nat.reduceLT, List.getD_cons_zero, List.getD_cons_succ, List.length_singleton, Bool.and_true, Bool.and_false]
  repeat (refine LoopN.loop 1 ?_; simp (maxSteps := 4000000) only [↓packA, ↓reduceIte, packB, pureOp, quietOp, loadOp, quietB, fr0, cellsK, implies_true, ite_true, ite_false, eq_self, ne_eq, reduceCtorEq, Nat.reduceLT, Nat.reduceLeDiff, Nat.reduceAdd, Nat.reduceMul, Nat.reduceBEq, Nat.reduceEqDiff, Int.reduceToNat, Int.reduceLT, Int.reduceLE, Nat.reduceSub, pl28, ft1, ft3, ft4, ft9, ft22, ft26, ft27, ft28, ft29, ft30, ft31, ft32, ft33, ft41, ft42, ft43, ft44, ft45, ft46, ft48, ft73, ft75, ft78, ft80, ft96, ft103, ft106, ft110, ft113, ft116, ft119, ft124, ↓LoopN_succ, hB, Int.cast_ofNat_Int, Int.natCast_zero, Int.natCast_one, Int.reduceAdd, Int.reduceSub, Int.reduceNeg, Int.reduceMul, Int.reduceToNat, Int.reduceLT, Int.reduceLE, Int.reduceEq, Int.reduceBEq, Int.reduceBNe, Nat.reduceSub, Nat.reduceLT, List.getD_cons_zero, List.getD_cons_succ, List.length_singleton, Bool.and_true, Bool.and_false])
  exact hq
set_option maxHeartbeats 4000000 in
set_option maxRecDepth 100000 in
theorem apart29 {B : Nat} {h : Heap} {y : AV} {Q : AV → Heap → Prop} (hB : h[B]? = some (.arr 14 [bookCells y] true)) (hq : Q (.bool true) h) : ACalls Tryz.prog 29 [.op B 14 0 0] h Q := by
  unfold bookCells at hB
  refine (wp29 rfl rfl ?_)
  simp (maxSteps := 4000000) only [↓packA, ↓reduceIte, packB, pureOp, quietOp, loadOp, quietB, fr0, cellsK, implies_true, ite_true, ite_false, eq_self, ne_eq, reduceCtorEq, Nat.reduceLT, Nat.reduceLeDiff, Nat.reduceAdd, Nat.reduceMul, Nat.reduceBEq, Nat.reduceEqDiff, Int.reduceToNat, Int.reduceLT, Int.reduceLE, Nat.reduceSub, pl29, ft1, ft3, ft4, ft5, ft22, ft26, ft27, ft28, ft29, ft30, ft31, ft32, ft33, ft41, ft42, ft43, ft44, ft45, ft46, ft48, ft73, ft75, ft78, ft80, ft93, ft96, ft98, ft100, ft103, ft106, ft110, ft113, ft116, ft119, ft124, hB, Int.cast_ofNat_Int, Int.natCast_zero, Int.natCast_one, Int.reduceAdd, Int.reduceSub, Int.reduceNeg, Int.reduceMul, Int.reduceToNat, Int.reduceLT, Int.reduceLE, Int.reduceEq, Int.reduceBEq, Int.reduceBNe, Nat.reduceSub, Nat.reduceLT, List.getD_cons_zero, List.getD_cons_succ, List.length_singleton, Bool.and_true, Bool.and_false]
  repeat (refine LoopN.loop 1 ?_; simp (maxSteps := 4000000) only [↓packA, ↓reduceIte, packB, pureOp, quietOp, loadOp, quietB, fr0, cellsK, implies_true, ite_true, ite_false, eq_self, ne_eq, reduceCtorEq, Nat.reduceLT, Nat.reduceLeDiff, Nat.reduceAdd, Nat.reduceMul, Nat.reduceBEq, Nat.reduceEqDiff, Int.reduceToNat, Int.reduceLT, Int.reduceLE, Nat.reduceSub, pl29, ft1, ft3, ft4, ft5, ft22, ft26, ft27, ft28, ft29, ft30, ft31, ft32, ft33, ft41, ft42, ft43, ft44, ft45, ft46, ft48, ft73, ft75, ft78, ft80, ft93, ft96, ft98, ft100, ft103, ft106, ft110, ft113, ft116, ft119, ft124, ↓LoopN_succ, hB, Int.cast_ofNat_Int, Int.natCast_zero, Int.natCast_one, Int.reduceAdd, Int.reduceSub, Int.reduceNeg, Int.reduceMul, Int.reduceToNat, Int.reduceLT, Int.reduceLE, Int.reduceEq, Int.reduceBEq, Int.reduceBNe, Nat.reduceSub, Nat.reduceLT, List.getD_cons_zero, List.getD_cons_succ, List.length_singleton, Bool.and_true, Bool.and_false])
  exact hq
set_option maxHeartbeats 4000000 in
set_option maxRecDepth 100000 in
theorem apart30 {B : Nat} {h : Heap} {y : AV} {Q : AV → Heap → Prop} (hB : h[B]? = some (.arr 14 [bookCells y] true)) (hq : Q (.bool true) h) : ACalls Tryz.prog 30 [.op B 14 0 0] h Q := by
  unfold bookCells at hB
  refine (wp30 rfl rfl ?_)
  simp (maxSteps := 4000000) only [↓packA, ↓reduceIte, packB, pureOp, quietOp, loadOp, quietB, fr0, cellsK, implies_true, ite_true, ite_false, eq_self, ne_eq, reduceCtorEq, Nat.reduceLT, Nat.reduceLeDiff, Nat.reduceAdd, Nat.reduceMul, Nat.reduceBEq, Nat.reduceEqDiff, Int.reduceToNat, Int.reduceLT, Int.reduceLE, Nat.reduceSub, pl30, ft1, ft3, ft4, ft6, ft22, ft26, ft27, ft28, ft29, ft30, ft31, ft32, ft33, ft41, ft42, ft43, ft44, ft45, ft46, ft48, ft73, ft75, ft78, ft80, ft93, ft96, ft98, ft100, ft103, ft106, ft110, ft113, ft116, ft119, ft124, hB, Int.cast_ofNat_Int, Int.natCast_zero, Int.natCast_one, Int.reduceAdd, Int.reduceSub, Int.reduceNeg, Int.reduceMul, Int.reduceToNat, Int.reduceLT, Int.reduceLE, Int.reduceEq, Int.reduceBEq, Int.reduceBNe, Nat.reduceSub, Nat.reduceLT, List.getD_cons_zero, List.getD_cons_succ, List.length_singleton, Bool.and_true, Bool.and_false]
  repeat (refine LoopN.loop 1 ?_; simp (maxSteps := 4000000) only [↓packA, ↓reduceIte, packB, pureOp, quietOp, loadOp, quietB, fr0, cellsK, implies_true, ite_true, ite_false, eq_self, ne_eq, reduceCtorEq, Nat.reduceLT, Nat.reduceLeDiff, Nat.reduceAdd, Nat.reduceMul, Nat.reduceBEq, Nat.reduceEqDiff, Int.reduceToNat, Int.reduceLT, Int.reduceLE, Nat.reduceSub, pl30, ft1, ft3, ft4, ft6, ft22, ft26, ft27, ft28, ft29, ft30, ft31, ft32, ft33, ft41, ft42, ft43, ft44, ft45, ft46, ft48, ft73, ft75, ft78, ft80, ft93, ft96, ft98, ft100, ft103, ft106, ft110, ft113, ft116, ft119, ft124, ↓LoopN_succ, hB, Int.cast_ofNat_Int, Int.natCast_zero, Int.natCast_one, Int.reduceAdd, Int.reduceSub, Int.reduceNeg, Int.reduceMul, Int.reduceToNat, Int.reduceLT, Int.reduceLE, Int.reduceEq, Int.reduceBEq, Int.reduceBNe, Nat.reduceSub, Nat.reduceLT, List.getD_cons_zero, List.getD_cons_succ, List.length_singleton, Bool.and_true, Bool.and_false])
  exact hq
set_option maxHeartbeats 4000000 in
set_option maxRecDepth 100000 in
theorem apart31 {B : Nat} {h : Heap} {y : AV} {Q : AV → Heap → Prop} (hB : h[B]? = some (.arr 14 [bookCells y] true)) (hq : Q (.bool true) h) : ACalls Tryz.prog 31 [.op B 14 0 0] h Q := by
  unfold bookCells at hB
  refine (wp31 rfl rfl ?_)
  simp (maxSteps := 4000000) only [↓packA, ↓reduceIte, packB, pureOp, quietOp, loadOp, quietB, fr0, cellsK, implies_true, ite_true, ite_false, eq_self, ne_eq, reduceCtorEq, Nat.reduceLT, Nat.reduceLeDiff, Nat.reduceAdd, Nat.reduceMul, Nat.reduceBEq, Nat.reduceEqDiff, Int.reduceToNat, Int.reduceLT, Int.reduceLE, Nat.reduceSub, pl31, ft1, ft2, ft3, ft4, ft6, ft7, ft22, ft26, ft27, ft28, ft29, ft30, ft31, ft32, ft33, ft41, ft42, ft43, ft44, ft45, ft46, ft48, ft73, ft75, ft78, ft80, ft95, ft96, ft103, ft105, ft106, ft110, ft113, ft116, ft119, ft124, hB, Int.cast_ofNat_Int, Int.natCast_zero, Int.natCast_one, Int.reduceAdd, Int.reduceSub, Int.reduceNeg, Int.reduceMul, Int.reduceToNat, Int.reduceLT, Int.reduceLE, Int.reduceEq, Int.reduceBEq, Int.reduceBNe, Nat.reduceSub, Nat.reduceLT, List.getD_cons_zero, List.getD_cons_succ, List.length_singleton, Bool.and_true, Bool.and_false]
  repeat (refine LoopN.loop 1 ?_; simp (maxSteps := 4000000) only [↓packA, ↓reduceIte, packB, pureOp, quietOp, loadOp, quietB, fr0, cellsK, implies_true, ite_true, ite_false, eq_self, ne_eq, reduceCtorEq, Nat.reduceLT, Nat.reduceLeDiff, Nat.reduceAdd, Nat.reduceMul, Nat.reduceBEq, Nat.reduceEqDiff, Int.reduceToNat, Int.reduceLT, Int.reduceLE, Nat.reduceSub, pl31, ft1, ft2, ft3, ft4, ft6, ft7, ft22, ft26, ft27, ft28, ft29, ft30, ft31, ft32, ft33, ft41, ft42, ft43, ft44, ft45, ft46, ft48, ft73, ft75, ft78, ft80, ft95, ft96, ft103, ft105, ft106, ft110, ft113, ft116, ft119, ft124, ↓LoopN_succ, hB, Int.cast_ofNat_Int, Int.natCast_zero, Int.natCast_one, Int.reduceAdd, Int.reduceSub, Int.reduceNeg, Int.reduceMul, Int.reduceToNat, Int.reduceLT, Int.reduceLE, Int.reduceEq, Int.reduceBEq, Int.reduceBNe, Nat.reduceSub, Nat.reduceLT, List.getD_cons_zero, List.getD_cons_succ, List.length_singleton, Bool.and_true, Bool.and_false])
  exact hq
set_option maxHeartbeats 4000000 in
set_option maxRecDepth 100000 in
theorem apart32 {B : Nat} {h : Heap} {y : AV} {Q : AV → Heap → Prop} (hB : h[B]? = some (.arr 14 [bookCells y] true)) (hq : Q (.bool true) h) : ACalls Tryz.prog 32 [.op B 14 0 0] h Q := by
  unfold bookCells at hB
  refine (wp32 rfl rfl ?_)
  simp (maxSteps := 4000000) only [↓packA, ↓reduceIte, packB, pureOp, quietOp, loadOp, quietB, fr0, cellsK, implies_true, ite_true, ite_false, eq_self, ne_eq, reduceCtorEq, Nat.reduceLT, Nat.reduceLeDiff, Nat.reduceAdd, Nat.reduceMul, Nat.reduceBEq, Nat.reduceEqDiff, Int.reduceToNat, Int.reduceLT, Int.reduceLE, Nat.reduceSub, pl32, ft1, ft2, ft3, ft4, ft6, ft8, ft22, ft26, ft27, ft28, ft29, ft30, ft31, ft32, ft33, ft41, ft42, ft43, ft44, ft45, ft46, ft48, ft73, ft75, ft78, ft80, ft96, ft100, ft103, ft106, ft107, ft109, ft110, ft113, ft116, ft119, ft124, hB, Int.cast_ofNat_Int, Int.natCast_zero, Int.natCast_one, Int.reduceAdd, Int.reduceSub, Int.reduceNeg, Int.reduceMul, Int.reduceToNat, Int.reduceLT, Int.reduceLE, Int.reduceEq, Int.reduceBEq, Int.reduceBNe, Nat.reduceSub, Nat.reduceLT, List.getD_cons_zero, List.getD_cons_succ, List.length_singleton, Bool.and_true, Bool.and_false]
  repeat (refine LoopN.loop 1 ?_; simp (maxSteps := 4000000) only [↓packA, ↓reduceIte, packB, pureOp, quietOp, loadOp, quietB, fr0, cellsK, implies_true, ite_true, ite_false, eq_self, ne_eq, reduceCtorEq, Nat.reduceLT, Nat.reduceLeDiff, Nat.reduceAdd, Nat.reduceMul, Nat.reduceBEq, Nat.reduceEqDiff, Int.reduceToNat, Int.reduceLT, Int.reduceLE, Nat.reduceSub, pl32, ft1, ft2, ft3, ft4, ft6, ft8, ft22, ft26, ft27, ft28, ft29, ft30, ft31, ft32, ft33, ft41, ft42, ft43, ft44, ft45, ft46, ft48, ft73, ft75, ft78, ft80, ft96, ft100, ft103, ft106, ft107, ft109, ft110, ft113, ft116, ft119, ft124, ↓LoopN_succ, hB, Int.cast_ofNat_Int, Int.natCast_zero, Int.natCast_one, Int.reduceAdd, Int.reduceSub, Int.reduceNeg, Int.reduceMul, Int.reduceToNat, Int.reduceLT, Int.reduceLE, Int.reduceEq, Int.reduceBEq, Int.reduceBNe, Nat.reduceSub, Nat.reduceLT, List.getD_cons_zero, List.getD_cons_succ, List.length_singleton, Bool.and_true, Bool.and_false])
  exact hq
set_option maxHeartbeats 4000000 in
set_option maxRecDepth 100000 in
theorem apart33 {B : Nat} {h : Heap} {y : AV} {Q : AV → Heap → Prop} (hB : h[B]? = some (.arr 14 [bookCells y] true)) (hq : Q (.bool true) h) : ACalls Tryz.prog 33 [.op B 14 0 0] h Q := by
  unfold bookCells at hB
  refine (wp33 rfl rfl ?_)
  simp (maxSteps := 4000000) only [↓packA, ↓reduceIte, packB, pureOp, quietOp, loadOp, quietB, fr0, cellsK, implies_true, ite_true, ite_false, eq_self, ne_eq, reduceCtorEq, Nat.reduceLT, Nat.reduceLeDiff, Nat.reduceAdd, Nat.reduceMul, Nat.reduceBEq, Nat.reduceEqDiff, Int.reduceToNat, Int.reduceLT, Int.reduceLE, Nat.reduceSub, pl33, ft1, ft3, ft9, ft22, ft26, ft27, ft28, ft29, ft30, ft31, ft32, ft33, ft41, ft42, ft43, ft44, ft45, ft46, ft48, ft73, ft75, ft78, ft80, ft96, ft100, ft103, ft106, ft110, ft112, ft113, ft116, ft119, ft124, hB, Int.cast_ofNat_Int, Int.natCast_zero, Int.natCast_one, Int.reduceAdd, Int.reduceSub, Int.reduceNeg, Int.reduceMul, Int.reduceToNat, Int.reduceLT, Int.reduceLE, Int.reduceEq, Int.reduceBEq, Int.reduceBNe, Nat.reduceSub, Nat.reduceLT, List.getD_cons_zero, List.getD_cons_succ, List.length_singleton, Bool.and_true, Bool.and_false]
  repeat (refine LoopN.loop 1 ?_; simp (maxSteps := 4000000) only [↓packA, ↓reduceIte, packB, pureOp, quietOp, loadOp, quietB, fr0, cellsK, implies_true, ite_true, ite_false, eq_self, ne_eq, reduceCtorEq, Nat.reduceLT, Nat.reduceLeDiff, Nat.reduceAdd, Nat.reduceMul, Nat.reduceBEq, Nat.reduceEqDiff, Int.reduceToNat, Int.reduceLT, Int.reduceLE, Nat.reduceSub, pl33, ft1, ft3, ft9, ft22, ft26, ft27, ft28, ft29, ft30, ft31, ft32, ft33, ft41, ft42, ft43, ft44, ft45, ft46, ft48, ft73, ft75, ft78, ft80, ft96, ft100, ft103, ft106, ft110, ft112, ft113, ft116, ft119, ft124, ↓LoopN_succ, hB, Int.cast_ofNat_Int, Int.natCast_zero, Int.natCast_one, Int.reduceAdd, Int.reduceSub, Int.reduceNeg, Int.reduceMul, Int.reduceToNat, Int.reduceLT, Int.reduceLE, Int.reduceEq, Int.reduceBEq, Int.reduceBNe, Nat.reduceSub, Nat.reduceLT, List.getD_cons_zero, List.getD_cons_succ, List.length_singleton, Bool.and_true, Bool.and_false])
  exact hq
set_option maxHeartbeats 4000000 in
set_option maxRecDepth 100000 in
theorem apart67 {B : Nat} {h : Heap} {y : AV} {Q : AV → Heap → Prop} (hB : h[B]? = some (.arr 14 [bookCells y] true)) (hq : Q (.bool true) h) : ACalls Tryz.prog 67 [.op B 14 0 0, .nils, .nils, .nils] h Q := by
  unfold bookCells at hB
  refine (wp67 rfl rfl ?_)
  simp (maxSteps := 4000000) only [↓packA, ↓reduceIte, packB, pureOp, quietOp, loadOp, quietB, fr0, cellsK, implies_true, ite_true, ite_false, eq_self, ne_eq, reduceCtorEq, Nat.reduceLT, Nat.reduceLeDiff, Nat.reduceAdd, Nat.reduceMul, Nat.reduceBEq, Nat.reduceEqDiff, Int.reduceToNat, Int.reduceLT, Int.reduceLE, Nat.reduceSub, pl67, ft1, ft2, ft3, ft9, ft10, ft11, ft12, ft22, ft26, ft27, ft28, ft29, ft30, ft31, ft32, ft33, ft41, ft42, ft43, ft44, ft45, ft46, ft48, ft73, ft75, ft78, ft80, ft96, ft100, ft103, ft106, ft110, ft113, ft115, ft116, ft118, ft119, ft120, ft122, ft124, hB, Int.cast_ofNat_Int, Int.natCast_zero, Int.natCast_one, Int.reduceAdd, Int.reduceSub, Int.reduceNeg, Int.reduceMul, Int.reduceToNat, Int.reduceLT, Int.reduceLE, Int.reduceEq, Int.reduceBEq, Int.reduceBNe, Nat.reduceSub, Nat.reduceLT, List.getD_cons_zero, List.getD_cons_succ, List.length_singleton, Bool.and_true, Bool.and_false]
  repeat (refine LoopN.loop 1 ?_; simp (maxSteps := 4000000) only [↓packA, ↓reduceIte, packB, pureOp, quietOp, loadOp, quietB, fr0, cellsK, implies_true, ite_true, ite_false, eq_self, ne_eq, reduceCtorEq, Nat.reduceLT, Nat.reduceLeDiff, Nat.reduceAdd, Nat.reduceMul, Nat.reduceBEq, Nat.reduceEqDiff, Int.reduceToNat, Int.reduceLT, Int.reduceLE, Nat.reduceSub, pl67, ft1, ft2, ft3, ft9, ft10, ft11, ft12, ft22, ft26, ft27, ft28, ft29, ft30, ft31, ft32, ft33, ft41, ft42, ft43, ft44, ft45, ft46, ft48, ft73, ft75, ft78, ft80, ft96, ft100, ft103, ft106, ft110, ft113, ft115, ft116, ft118, ft119, ft120, ft122, ft124, ↓LoopN_succ, hB, Int.cast_ofNat_Int, Int.natCast_zero, Int.natCast_one, Int.reduceAdd, Int.reduceSub, Int.reduceNeg, Int.reduceMul, Int.reduceToNat, Int.reduceLT, Int.reduceLE, Int.reduceEq, Int.reduceBEq, Int.reduceBNe, Nat.reduceSub, Nat.reduceLT, List.getD_cons_zero, List.getD_cons_succ, List.length_singleton, Bool.and_true, Bool.and_false])
  exact hq
set_option maxHeartbeats 4000000 in
set_option maxRecDepth 100000 in
theorem apart34 {B : Nat} {h : Heap} {y : AV} {Q : AV → Heap → Prop} (hB : h[B]? = some (.arr 14 [bookCells y] true)) (hq : Q (.bool true) h) : ACalls Tryz.prog 34 [.op B 14 0 0] h Q := by
  unfold bookCells at hB
  refine (wp34 rfl rfl ?_)
  simp (maxSteps := 4000000) only [↓packA, ↓reduceIte, packB, pureOp, quietOp, loadOp, quietB, fr0, cellsK, implies_true, ite_true, ite_false, eq_self, ne_eq, reduceCtorEq, Nat.reduceLT, Nat.reduceLeDiff, Nat.reduceAdd, Nat.reduceMul, Nat.reduceBEq, Nat.reduceEqDiff, Int.reduceToNat, Int.reduceLT, Int.reduceLE, Nat.reduceSub, pl34, ft1, ft3, ft9, ft10, ft11, ft12, ft22, ft26, ft27, ft28, ft29, ft30, ft31, ft32, ft33, ft40, ft41, ft42, ft43, ft44, ft45, ft46, ft48, ft73, ft75, ft78, ft80, ft96, ft100, ft103, ft106, ft110, ft113, ft115, ft116, ft118, ft119, ft120, ft122, ft124, hB, Int.cast_ofNat_Int, Int.natCast_zero, Int.natCast_one, Int.reduceAdd, Int.reduceSub, Int.reduceNeg, Int.reduceMul, Int.reduceToNat, Int.reduceLT, Int.reduceLE, Int.reduceEq, Int.reduceBEq, Int.reduceBNe, Nat.reduceSub, Nat.reduceLT, List.getD_cons_zero, List.getD_cons_succ, List.length_singleton, Bool.and_true, Bool.and_false]
  repeat (refine LoopN.loop 1 ?_; simp (maxSteps := 4000000) only [↓packA, ↓reduceIte, packB, pureOp, quietOp, loadOp, quietB, fr0, cellsK, implies_true, ite_true, ite_false, eq_self, ne_eq, reduceCtorEq, Nat.reduceLT, Nat.reduceLeDiff, Nat.reduceAdd, Nat.reduceMul, Nat.reduceBEq, Nat.reduceEqDiff, Int.reduceToNat, Int.reduceLT, Int.reduceLE, Nat.reduceSub, pl34, ft1, ft3, ft9, ft10, ft11, ft12, ft22, ft26, ft27, ft28, ft29, ft30, ft31, ft32, ft33, ft40, ft41, ft42, ft43, ft44, ft45, ft46, ft48, ft73, ft75, ft78, ft80, ft96, ft100, ft103, ft106, ft110, ft113, ft115, ft116, ft118, ft119, ft120, ft122, ft124, ↓LoopN_succ, hB, Int.cast_ofNat_Int, Int.natCast_zero, Int.natCast_one, Int.reduceAdd, Int.reduceSub, Int.reduceNeg, Int.reduceMul, Int.reduceToNat, Int.reduceLT, Int.reduceLE, Int.reduceEq, Int.reduceBEq, Int.reduceBNe, Nat.reduceSub, Nat.reduceLT, List.getD_cons_zero, List.getD_cons_succ, List.length_singleton, Bool.and_true, Bool.and_false])
  refine apart67 hB ?_
  simp (maxSteps := 4000000) only [↓packA, ↓reduceIte, packB, pureOp, quietOp, loadOp, quietB, fr0, cellsK, implies_true, ite_true, ite_false, eq_self, ne_eq, reduceCtorEq, Nat.reduceLT, Nat.reduceLeDiff, Nat.reduceAdd, Nat.reduceMul, Nat.reduceBEq, Nat.reduceEqDiff, Int.reduceToNat, Int.reduceLT, Int.reduceLE, Nat.reduceSub, pl34, ft1, ft3, ft9, ft10, ft11, ft12, ft22, ft26, ft27, ft28, ft29, ft30, ft31, ft32, ft33, ft40, ft41, ft42, ft43, ft44, ft45, ft46, ft48, ft73, ft75, ft78, ft80, ft96, ft100, ft103, ft106, ft110, ft113, ft115, ft116, ft118, ft119, ft120, ft122, ft124, hB, Int.cast_ofNat_Int, Int.natCast_zero, Int.natCast_one, Int.reduceAdd, Int.reduceSub, Int.reduceNeg, Int.reduceMul, Int.reduceToNat, Int.reduceLT, Int.reduceLE, Int.reduceEq, Int.reduceBEq, Int.reduceBNe, Nat.reduceSub, Nat.reduceLT, List.getD_cons_zero, List.getD_cons_succ, List.length_singleton, Bool.and_true, Bool.and_false]
  exact hq
set_option maxHeartbeats 4000000 in
set_option maxRecDepth 100000 in
theorem apart35 {B : Nat} {h : Heap} {y : AV} {Q : AV → Heap → Prop} (hB : h[B]? = some (.arr 14 [bookCells y] true)) (hq : Q (.bool true) h) : ACalls Tryz.prog 35 [.op B 14 0 0] h Q := by
  unfold bookCells at hB
  refine (wp35 rfl rfl ?_)
  simp (maxSteps := 4000000) only [↓packA, ↓reduceIte, packB, pureOp, quietOp, loadOp, quietB, fr0, cellsK, implies_true, ite_true, ite_false, eq_self, ne_eq, reduceCtorEq, Nat.reduceLT, Nat.reduceLeDiff, Nat.reduceAdd, Nat.reduceMul, Nat.reduceBEq, Nat.reduceEqDiff, Int.reduceToNat, Int.reduceLT, Int.reduceLE, Nat.reduceSub, pl35, ft1, ft2, ft3, ft9, ft12, ft13, ft22, ft26, ft27, ft28, ft29, ft30, ft31, ft32, ft33, ft41, ft42, ft43, ft44, ft45, ft46, ft48, ft50, ft73, ft75, ft78, ft80, ft96, ft103, ft106, ft110, ft113, ft116, ft119, ft124, ft126, ft128, hB, Int.cast_ofNat_Int, Int.natCast_zero, Int.natCast_one, Int.reduceAdd, Int.reduceSub, Int.reduceNeg, Int.reduceMul, Int.reduceToNat, Int.reduceLT, Int.reduceLE, Int.reduceEq, Int.reduceBEq, Int.reduceBNe, Nat.reduceSub, Nat.reduceLT, List.getD_cons_zero, List.getD_cons_succ, List.length_singleton, Bool.and_true, Bool.and_false]
  repeat (refine LoopN.loop 1 ?_; simp (maxSteps := 4000000) only [↓packA, ↓reduceIte, packB, pureOp, quietOp, loadOp, quietB, fr0, cellsK, implies_true, ite_true, ite_false, eq_self, ne_eq, reduceCtorEq, Nat.reduceLT, Nat.reduceLeDiff, Nat.reduceAdd, Nat.reduceMul, Nat.reduceBEq, Nat.reduceEqDiff, Int.reduceToNat, Int.reduceLT, Int.reduceLE, Nat.reduceSub, pl35, ft1, ft2, ft3, ft9, ft12, ft13, ft22, ft26, ft27, ft28, ft29, ft30, ft31, ft32, ft33, ft41, ft42, ft43, ft44, ft45, ft46, ft48, ft50, ft73, ft75, ft78, ft80, ft96, ft103, ft106, ft110, ft113, ft116, ft119, ft124, ft126, ft128, ↓LoopN_succ, hB, Int.cast_ofNat_Int, Int.natCast_zero, Int.natCast_one, Int.reduceAdd, Int.reduceSub, Int.reduceNeg, Int.reduceMul, Int.reduceToNat, Int.reduceLT, Int.reduceLE, Int.reduceEq, Int.reduceBEq, Int.reduceBNe, Nat.reduceSub, Nat.reduceLT, List.getD_cons_zero, List.getD_cons_succ, List.length_singleton, Bool.and_true, Bool.and_false])
  exact hq
end Go.Proofs.YtgdlkhgfehclpaaGreat
end
