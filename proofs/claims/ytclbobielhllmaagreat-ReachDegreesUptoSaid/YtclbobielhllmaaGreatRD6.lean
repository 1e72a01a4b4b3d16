import Derived.Test.YtclbobielhllmaaGreatRD5
import Derived.Test.YtclbobielhllmaaGreatRD4
section
namespace Go.Proofs.YtclbobielhllmaaGreat
open Go Go.AL
set_option linter.unusedVariables false
set_option linter.unusedSimpArgs false
def orAll (ms : List Nat) (m : Nat) : Nat := ms.foldl (fun a b => a ||| b) m
theorem orAll_take {ms : List Nat} {k m : Nat} (h : k < ms.length) : orAll (ms.take (k + 1)) m = orAll (ms.take k) m ||| ms[k] := by
  unfold orAll
  rw [List.take_add_one, List.getElem?_eq_getElem h, List.foldl_append]
  rfl
theorem orAll_lt {n : Nat} : ∀ (ms : List Nat) (m : Nat), m < 2 ^ n → (∀ x, x ∈ ms → x < 2 ^ n) → orAll ms m < 2 ^ n
  | [], m, h, _ => h
  | x :: ms, m, h, h2 => orAll_lt ms (m ||| x) (Nat.or_lt_two_pow h (h2 x (by simp))) fun y hy => h2 y (by simp [hy])
set_option maxHeartbeats 4000000 in
set_option maxRecDepth 100000 in
theorem fold_o (vars : Int) (ms : List Nat) (hv : 0 ≤ vars ∧ vars ≤ 64) (hm : ∀ m, m ∈ ms → m < 2 ^ vars.toNat) (hl : ms.length < 1000000) {h : Heap} {id : Nat} {ex : Bool} (hid : h[id]? = some (.arr 1 (wordsR vars 0) ex)) {Q : AV → Heap → Prop}
    (hq : ∀ h', h'[id]? = some (.arr 1 (wordsR vars (orAll ms 0)) ex) → h.length ≤ h'.length → (∀ i, i < h.length → i ≠ id → h'[i]? = h[i]?) → Q (.agg [.int .i64 vars, .osl id 1 0 (wordsR vars 0).length (wordsR vars 0).length true]) h') :
    ACalls Tryz.prog 58 [.agg [.int .i64 vars, .osl id 1 0 (wordsR vars 0).length (wordsR vars 0).length true], .isl 2 (ms.map (setC vars)), .fn (.func 59) [] []] h Q := by
  refine wp58 rfl rfl ?_
  obtain ⟨W, hW⟩ : ∃ W, (wordsR vars 0).length = W := ⟨_, rfl⟩
  rw [hW] at hq ⊢
  obtain ⟨M, hM⟩ : ∃ M, h.length = M := ⟨_, rfl⟩
  have tM := tailR hM
  have hidl := (List.getElem?_eq_some_iff.1 hid).1
  simp (maxSteps := 4000000) only [↓packA, ↓reduceIte, packB, pureOp, quietOp, loadOp, quietB, fr0, cellsK, implies_true, ite_true, ite_false, eq_self, ne_eq, reduceCtorEq, Nat.reduceLT, Nat.reduceLeDiff, Nat.reduceAdd, Nat.reduceMul, Nat.reduceBEq, Nat.reduceEqDiff, Int.reduceToNat, Int.reduceLT, Int.reduceLE, Nat.reduceSub, pl58, ft1, ft3, ft6, ft84, ft92, ft100, ft110, hM, tM, List.length_map, concA, Int.reduceAdd, Int.reduceSub, Int.reduceNeg, Int.reduceMul, Int.reduceEq, Int.reduceBEq, Int.reduceBNe]
  refine LoopK.intro (fun x w z => ∃ k : Nat, x = ms.length - k ∧ k ≤ ms.length ∧ w 2 = .fn (.func 59) [] [] ∧ w 3 = .op M 2 0 0 ∧ w 6 = .op (M + 1) 2 0 0 ∧ w 11 = .isl 2 (ms.map (setC vars)) ∧ w 12 = .int .i64 ms.length ∧ w 13 = .int .i64 k ∧ M + 1 < z.length ∧ z[id]? = some (.arr 1 (wordsR vars (orAll (ms.take k) 0)) ex) ∧ z[M]? = some (.arr 2 [[.int .i64 vars, .osl id 1 0 W W true]] true) ∧ z[M + 1]? = some (.arr 2 [[.int .i64 0, .nils]] true) ∧ (∀ i, i < M → i ≠ id → z[i]? = h[i]?)) ms.length ⟨0, rfl, by omega, ?_, ?_, ?_, ?_, ?_, ?_, by simp; omega, by rw [List.getElem?_append_left hidl]; exact hid, tM.1 _, tM.2.1 _ 1, fun i hi _ => List.getElem?_append_left (by omega)⟩ ?_
  rotate_right
  all_goals (try (simp (maxSteps := 4000000) only [↓packA, ↓reduceIte, packB, pureOp, quietOp, loadOp, quietB, fr0, cellsK, implies_true, ite_true, ite_false, eq_self, ne_eq, reduceCtorEq, Nat.reduceLT, Nat.reduceLeDiff, Nat.reduceAdd, Nat.reduceMul, Nat.reduceBEq, Nat.reduceEqDiff, Int.reduceToNat, Int.reduceLT, Int.reduceLE, Nat.reduceSub, pl58, ft1, ft3, ft6, ft84, ft92, ft100, ft110, List.length_map, Int.natCast_zero, concA, Int.reduceAdd, Int.reduceSub, Int.reduceNeg, Int.reduceMul, Int.reduceEq, Int.reduceBEq, Int.reduceBNe]; done))
  rintro x w z ⟨k, rfl, hk, a2, a3, a6, a11, a12, a13, hzl, zid, zM, zM1, hz⟩
  by_cases c : k < ms.length
  · have q1 : (k : Int) < (ms.length : Int) := by omega
    have rk : (ms.map (setC vars))[k]? = some (setC vars ms[k]) := by rw [List.getElem?_map, List.getElem?_eq_getElem c]; rfl
    obtain ⟨N, hN⟩ : ∃ N, z.length = N := ⟨_, rfl⟩
    have tN := tailR hN
    have ot := orAll_take (m := 0) c
    have l1 : orAll (ms.take k) 0 < 2 ^ vars.toNat := orAll_lt _ _ (Nat.two_pow_pos _) fun y hy => hm y (List.mem_of_mem_take hy)
    have l2 := hm _ (List.getElem_mem c)
    have hp64 : 2 ^ vars.toNat ≤ 2 ^ 64 := Nat.pow_le_pow_right (by decide) (by omega)
    have hor := or_c (orAll (ms.take k) 0) ms[k] (by omega) (by omega)
    by_cases c0 : vars = 0
    · subst c0
      simp (maxSteps := 4000000) only [↓packA, ↓reduceIte, packB, pureOp, quietOp, loadOp, quietB, fr0, cellsK, implies_true, ite_true, ite_false, eq_self, ne_eq, reduceCtorEq, Nat.reduceLT, Nat.reduceLeDiff, Nat.reduceAdd, Nat.reduceMul, Nat.reduceBEq, Nat.reduceEqDiff, Int.reduceToNat, Int.reduceLT, Int.reduceLE, Nat.reduceSub, pl58, ft1, ft3, ft6, ft84, ft92, ft100, ft110, a2, a3, a6, a11, a12, a13, q1, rk, hN, tN, setC, wordsR_0, concA, Int.reduceAdd, Int.reduceSub, Int.reduceNeg, Int.reduceMul, Int.reduceEq, Int.reduceBEq, Int.reduceBNe]
      refine ⟨by omega, LoopN.loop 1 ?_⟩
      simp (maxSteps := 4000000) only [↓packA, ↓reduceIte, packB, pureOp, quietOp, loadOp, quietB, fr0, cellsK, implies_true, ite_true, ite_false, eq_self, ne_eq, reduceCtorEq, Nat.reduceLT, Nat.reduceLeDiff, Nat.reduceAdd, Nat.reduceMul, Nat.reduceBEq, Nat.reduceEqDiff, Int.reduceToNat, Int.reduceLT, Int.reduceLE, Nat.reduceSub, pl58, ft1, ft3, ft6, ft84, ft92, ft100, ft110, a2, a3, a6, a11, a12, a13, ↓LoopN_succ, concA, Int.reduceAdd, Int.reduceSub, Int.reduceNeg, Int.reduceMul, Int.reduceEq, Int.reduceBEq, Int.reduceBNe]
      refine ⟨by omega, .inl ⟨ms.length - (k + 1), by omega, k + 1, rfl, by omega, by omega, by omega, ?_, ?_, ?_, fun i hi hne => ?_⟩⟩
      · rw [List.getElem?_append_left (by omega), zid, wordsR_0, wordsR_0]
      · rw [List.getElem?_append_left (by omega)]; exact zM
      · rw [List.getElem?_append_left (by omega)]; exact zM1
      · rw [List.getElem?_append_left (by omega)]; exact hz i hi hne
    · rw [wordsR_1 c0] at zid
      have zt : ∀ t, (z ++ t)[id]? = some (.arr 1 [[.int .u64 ((orAll (ms.take k) 0 : Nat) : Int)]] ex) := fun t => by rw [List.getElem?_append_left (by omega)]; exact zid
      have zMt : ∀ t, (z ++ t)[M]? = some (.arr 2 [[.int .i64 vars, .osl id 1 0 W W true]] true) := fun t => by rw [List.getElem?_append_left (by omega)]; exact zM
      have hW1 : W = 1 := by rw [← hW, wordsR_1 c0]; rfl
      subst hW1
      simp (maxSteps := 4000000) only [↓packA, ↓reduceIte, packB, pureOp, quietOp, loadOp, quietB, fr0, cellsK, implies_true, ite_true, ite_false, eq_self, ne_eq, reduceCtorEq, Nat.reduceLT, Nat.reduceLeDiff, Nat.reduceAdd, Nat.reduceMul, Nat.reduceBEq, Nat.reduceEqDiff, Int.reduceToNat, Int.reduceLT, Int.reduceLE, Nat.reduceSub, pl58, ft1, ft3, ft6, ft84, ft92, ft100, ft110, a2, a3, a6, a11, a12, a13, q1, rk, hN, tN, setC, wordsR_1 c0, concA, Int.reduceAdd, Int.reduceSub, Int.reduceNeg, Int.reduceMul, Int.reduceEq, Int.reduceBEq, Int.reduceBNe]
      refine ⟨by omega, LoopN.loop 2 ?_⟩
      simp (maxSteps := 4000000) only [↓packA, ↓reduceIte, packB, pureOp, quietOp, loadOp, quietB, fr0, cellsK, implies_true, ite_true, ite_false, eq_self, ne_eq, reduceCtorEq, Nat.reduceLT, Nat.reduceLeDiff, Nat.reduceAdd, Nat.reduceMul, Nat.reduceBEq, Nat.reduceEqDiff, Int.reduceToNat, Int.reduceLT, Int.reduceLE, Nat.reduceSub, pl58, ft1, ft3, ft6, ft84, ft92, ft100, ft110, a2, a3, a6, a11, a12, a13, zt, zMt, ↓LoopN_succ, concA, Int.reduceAdd, Int.reduceSub, Int.reduceNeg, Int.reduceMul, Int.reduceEq, Int.reduceBEq, Int.reduceBNe]
      refine acalls_pure hor rfl ?_
      have zs : ∀ t o, (z ++ t).set id o = z.set id o ++ t := fun t o => List.set_append_left _ _ (by omega)
      simp (maxSteps := 4000000) only [↓packA, ↓reduceIte, packB, pureOp, quietOp, loadOp, quietB, fr0, cellsK, implies_true, ite_true, ite_false, eq_self, ne_eq, reduceCtorEq, Nat.reduceLT, Nat.reduceLeDiff, Nat.reduceAdd, Nat.reduceMul, Nat.reduceBEq, Nat.reduceEqDiff, Int.reduceToNat, Int.reduceLT, Int.reduceLE, Nat.reduceSub, pl58, ft1, ft3, ft6, ft84, ft92, ft100, ft110, a2, a3, a6, a11, a12, a13, zt, zMt, zs, concA, Int.reduceAdd, Int.reduceSub, Int.reduceNeg, Int.reduceMul, Int.reduceEq, Int.reduceBEq, Int.reduceBNe]
      unfold LoopN
      simp (maxSteps := 4000000) only [↓packA, ↓reduceIte, packB, pureOp, quietOp, loadOp, quietB, fr0, cellsK, implies_true, ite_true, ite_false, eq_self, ne_eq, reduceCtorEq, Nat.reduceLT, Nat.reduceLeDiff, Nat.reduceAdd, Nat.reduceMul, Nat.reduceBEq, Nat.reduceEqDiff, Int.reduceToNat, Int.reduceLT, Int.reduceLE, Nat.reduceSub, pl58, ft1, ft3, ft6, ft84, ft92, ft100, ft110, a2, a3, a6, a11, a12, a13, zt, zMt, concA, Int.reduceAdd, Int.reduceSub, Int.reduceNeg, Int.reduceMul, Int.reduceEq, Int.reduceBEq, Int.reduceBNe]
      refine ⟨by omega, .inl ⟨ms.length - (k + 1), by omega, k + 1, rfl, by omega, by omega, by omega, ?_, ?_, ?_, fun i hi hne => ?_⟩⟩
      · rw [List.getElem?_append_left (by simp; omega), List.getElem?_set_self (by omega), wordsR_1 c0, ot]
      · rw [List.getElem?_append_left (by simp; omega), List.getElem?_set_ne (by omega)]; exact zM
      · rw [List.getElem?_append_left (by simp; omega), List.getElem?_set_ne (by omega)]; exact zM1
      · rw [List.getElem?_append_left (by simp; omega), List.getElem?_set_ne (by omega)]; exact hz i hi hne
  · have q1 : ¬ (k : Int) < (ms.length : Int) := by omega
    obtain rfl : k = ms.length := by omega
    rw [List.take_length] at zid
    have s1 : ∀ o, (z.set (M + 1) o)[M + 1]? = some o := fun o => List.getElem?_set_self hzl
    simp (maxSteps := 4000000) only [↓packA, ↓reduceIte, packB, pureOp, quietOp, loadOp, quietB, fr0, cellsK, implies_true, ite_true, ite_false, eq_self, ne_eq, reduceCtorEq, Nat.reduceLT, Nat.reduceLeDiff, Nat.reduceAdd, Nat.reduceMul, Nat.reduceBEq, Nat.reduceEqDiff, Int.reduceToNat, Int.reduceLT, Int.reduceLE, Nat.reduceSub, pl58, ft1, ft3, ft6, ft84, ft92, ft100, ft110, a2, a3, a6, a11, a12, a13, q1, zM, zM1, s1, patch, patch', concA, Int.reduceAdd, Int.reduceSub, Int.reduceNeg, Int.reduceMul, Int.reduceEq, Int.reduceBEq, Int.reduceBNe]
    refine hq _ (by rw [List.getElem?_set_ne (by omega)]; exact zid) (by simp; omega) fun i hi hne => ?_
    rw [List.getElem?_set_ne (by omega)]
    exact hz i (by omega) hne
set_option maxRecDepth 100000 in
theorem union_o (vars : Int) (ms : List Nat) (hv : 0 ≤ vars ∧ vars ≤ 64) (hm : ∀ m, m ∈ ms → m < 2 ^ vars.toNat) (hl : ms.length < 1000000) : ACalls Tryz.prog 37 [.int .i64 vars, .isl 2 (ms.map (setC vars))] [] fun v h => OFz h v (.tup [.agg (setC vars (orAll ms 0)), .int .i64 0]) := by
  refine wp37 rfl rfl ?_
  have hf := fit_c vars ms hv hm hl
  simp (maxSteps := 4000000) only [↓packA, ↓reduceIte, packB, pureOp, quietOp, loadOp, quietB, fr0, cellsK, implies_true, ite_true, ite_false, eq_self, ne_eq, reduceCtorEq, Nat.reduceLT, Nat.reduceLeDiff, Nat.reduceAdd, Nat.reduceMul, Nat.reduceBEq, Nat.reduceEqDiff, Int.reduceToNat, Int.reduceLT, Int.reduceLE, Nat.reduceSub, pl37, ft3, ft4, ft38, ft84, ft92, ft100, ft110, ft130, concA, Int.reduceAdd, Int.reduceSub, Int.reduceNeg, Int.reduceMul, Int.reduceEq, Int.reduceBEq, Int.reduceBNe]
  refine acalls_pure hf rfl ?_
  simp (maxSteps := 4000000) only [↓packA, ↓reduceIte, packB, pureOp, quietOp, loadOp, quietB, fr0, cellsK, implies_true, ite_true, ite_false, eq_self, ne_eq, reduceCtorEq, Nat.reduceLT, Nat.reduceLeDiff, Nat.reduceAdd, Nat.reduceMul, Nat.reduceBEq, Nat.reduceEqDiff, Int.reduceToNat, Int.reduceLT, Int.reduceLE, Nat.reduceSub, pl37, ft3, ft4, ft38, ft84, ft92, ft100, ft110, ft130, concA, Int.reduceAdd, Int.reduceSub, Int.reduceNeg, Int.reduceMul, Int.reduceEq, Int.reduceBEq, Int.reduceBNe]
  refine blank_o vars hv fun o => ?_
  simp (maxSteps := 4000000) only [↓packA, ↓reduceIte, packB, pureOp, quietOp, loadOp, quietB, fr0, cellsK, implies_true, ite_true, ite_false, eq_self, ne_eq, reduceCtorEq, Nat.reduceLT, Nat.reduceLeDiff, Nat.reduceAdd, Nat.reduceMul, Nat.reduceBEq, Nat.reduceEqDiff, Int.reduceToNat, Int.reduceLT, Int.reduceLE, Nat.reduceSub, pl37, ft3, ft4, ft38, ft84, ft92, ft100, ft110, ft130, concA, Int.reduceAdd, Int.reduceSub, Int.reduceNeg, Int.reduceMul, Int.reduceEq, Int.reduceBEq, Int.reduceBNe]
  refine fold_o vars ms hv hm hl (id := 2) rfl fun h' hid hlen hk => ?_
  have h0 : h'[0]? = some (.arr 2 [[.int .i64 0, .nils]] true) := by rw [hk 0 (by simp) (by decide)]; rfl
  have s0 : ∀ o, (h'.set 0 o)[0]? = some o := fun o => List.getElem?_set_self (by simp at hlen; omega)
  simp (maxSteps := 4000000) only [↓packA, ↓reduceIte, packB, pureOp, quietOp, loadOp, quietB, fr0, cellsK, implies_true, ite_true, ite_false, eq_self, ne_eq, reduceCtorEq, Nat.reduceLT, Nat.reduceLeDiff, Nat.reduceAdd, Nat.reduceMul, Nat.reduceBEq, Nat.reduceEqDiff, Int.reduceToNat, Int.reduceLT, Int.reduceLE, Nat.reduceSub, pl37, ft3, ft4, ft38, ft84, ft92, ft100, ft110, ft130, h0, s0, patch, patch', concA, Int.reduceAdd, Int.reduceSub, Int.reduceNeg, Int.reduceMul, Int.reduceEq, Int.reduceBEq, Int.reduceBNe]
  exact ofz_set (by rw [List.getElem?_set_ne (by decide)]; exact hid) wordsR_len
theorem st_lt {x : Nat} (hx : x < 2 ^ 64) : Go.AL.st1 x 6148914691236517205 < 2 ^ 64 ∧ Go.AL.st2 (Go.AL.st1 x 6148914691236517205) 3689348814741910323 < 2 ^ 64 ∧ (Go.AL.st2 (Go.AL.st1 x 6148914691236517205) 3689348814741910323) / 16 + Go.AL.st2 (Go.AL.st1 x 6148914691236517205) 3689348814741910323 < 2 ^ 64 ∧ Go.AL.st3 (Go.AL.st2 (Go.AL.st1 x 6148914691236517205) 3689348814741910323) 1085102592571150095 = pops 8 x := by
  have a1 : Go.AL.st1 x 6148914691236517205 ≤ 12297829382473034410 := by
    unfold Go.AL.st1
    have h1 : (x / 2) &&& 6148914691236517205 ≤ 6148914691236517205 := Nat.and_le_right
    have h2 : x &&& 6148914691236517205 ≤ 6148914691236517205 := Nat.and_le_right
    omega
  have a2 : Go.AL.st2 (Go.AL.st1 x 6148914691236517205) 3689348814741910323 ≤ 7378697629483820646 := by
    unfold Go.AL.st2
    have h1 : (Go.AL.st1 x 6148914691236517205 / 4) &&& 3689348814741910323 ≤ 3689348814741910323 := Nat.and_le_right
    have h2 : Go.AL.st1 x 6148914691236517205 &&& 3689348814741910323 ≤ 3689348814741910323 := Nat.and_le_right
    omega
  refine ⟨by omega, by omega, by omega, ?_⟩
  have := (st_all 8 x (by rw [show (256 : Nat) ^ 8 = 2 ^ 64 by decide]; exact hx)).1
  rw [show mk8 85 8 = 6148914691236517205 by decide, show mk8 51 8 = 3689348814741910323 by decide, show mk8 15 8 = 1085102592571150095 by decide] at this
  exact this
theorem u64cast {x : Nat} (h : x < 2 ^ 64) : IntKind.u64.wrap (x : Int) = x := by rw [IntKind.wrap_u64]; omega
theorem i64and127 {x : Nat} (h : x < 2 ^ 63) : IntKind.i64.wrap ((BitVec.ofInt IntKind.i64.bits ((x : Nat) : Int) &&& BitVec.ofInt IntKind.i64.bits 127).toNat) = ((x % 128 : Nat) : Int) := by
  have hb : (BitVec.ofInt IntKind.i64.bits ((x : Nat) : Int)).toNat = x := by
    rw [show IntKind.i64.bits = 64 from rfl, BitVec.ofInt_natCast, BitVec.toNat_ofNat, Nat.mod_eq_of_lt (by omega)]
  have hc : (BitVec.ofInt IntKind.i64.bits 127).toNat = 2 ^ 7 - 1 := by decide
  rw [BitVec.toNat_and, hb, hc, Nat.and_two_pow_sub_one_eq_mod]
  exact IntWalk.i64_in _ (by omega)
set_option maxHeartbeats 4000000 in
set_option maxRecDepth 100000 in
theorem ones64_c (x : Nat) (hx : x < 2 ^ 64) : APure Tryz.prog 64 [.int .u64 x] (.int .i64 ((ones x : Nat) : Int)) := by
  refine apure_of (wp64 rfl rfl ?_)
  obtain ⟨b1, b2, b3, b4⟩ := st_lt hx
  obtain ⟨c1, c2, c3, c4, c5⟩ := ones_facts hx
  have s1 : (x : Int).fdiv (2 ^ (min 1 IntKind.u64.bits)) = ((x / 2 : Nat) : Int) := u64shr (s := 1) (by decide)
  have e1 : IntKind.u64.wrap ((BitVec.ofInt IntKind.u64.bits ((x / 2 : Nat) : Int) &&& BitVec.ofInt IntKind.u64.bits 6148914691236517205).toNat) = (((x / 2) &&& 6148914691236517205 : Nat) : Int) := u64and (by omega) (by decide)
  have f1 : IntKind.u64.wrap ((BitVec.ofInt IntKind.u64.bits (x : Int) &&& BitVec.ofInt IntKind.u64.bits 6148914691236517205).toNat) = ((x &&& 6148914691236517205 : Nat) : Int) := u64and hx (by decide)
  have g1 : IntKind.u64.wrap ((((x / 2) &&& 6148914691236517205 : Nat) : Int) + ((x &&& 6148914691236517205 : Nat) : Int)) = ((Go.AL.st1 x 6148914691236517205 : Nat) : Int) := by
    rw [← Int.natCast_add]; exact u64cast b1
  generalize Go.AL.st1 x 6148914691236517205 = x1 at *
  have s2 : (x1 : Int).fdiv (2 ^ (min 2 IntKind.u64.bits)) = ((x1 / 4 : Nat) : Int) := u64shr (s := 2) (by decide)
  have e2 : IntKind.u64.wrap ((BitVec.ofInt IntKind.u64.bits ((x1 / 4 : Nat) : Int) &&& BitVec.ofInt IntKind.u64.bits 3689348814741910323).toNat) = (((x1 / 4) &&& 3689348814741910323 : Nat) : Int) := u64and (by omega) (by decide)
  have f2 : IntKind.u64.wrap ((BitVec.ofInt IntKind.u64.bits (x1 : Int) &&& BitVec.ofInt IntKind.u64.bits 3689348814741910323).toNat) = ((x1 &&& 3689348814741910323 : Nat) : Int) := u64and b1 (by decide)
  have g2 : IntKind.u64.wrap ((((x1 / 4) &&& 3689348814741910323 : Nat) : Int) + ((x1 &&& 3689348814741910323 : Nat) : Int)) = ((Go.AL.st2 x1 3689348814741910323 : Nat) : Int) := by
    rw [← Int.natCast_add]; exact u64cast b2
  generalize Go.AL.st2 x1 3689348814741910323 = x2 at *
  have s3 : (x2 : Int).fdiv (2 ^ (min 4 IntKind.u64.bits)) = ((x2 / 16 : Nat) : Int) := u64shr (s := 4) (by decide)
  have g3 : IntKind.u64.wrap (((x2 / 16 : Nat) : Int) + (x2 : Int)) = ((x2 / 16 + x2 : Nat) : Int) := by
    rw [← Int.natCast_add]; exact u64cast b3
  have e3 : IntKind.u64.wrap ((BitVec.ofInt IntKind.u64.bits ((x2 / 16 + x2 : Nat) : Int) &&& BitVec.ofInt IntKind.u64.bits 1085102592571150095).toNat) = ((pops 8 x : Nat) : Int) := by
    rw [← b4]; exact u64and b3 (by decide)
  have hon : ones x = (((pops 8 x + pops 8 x / 256) + (pops 8 x + pops 8 x / 256) / 65536) + ((pops 8 x + pops 8 x / 256) + (pops 8 x + pops 8 x / 256) / 65536) / 4294967296) % 128 := rfl
  generalize pops 8 x = x3 at *
  have s4 : (x3 : Int).fdiv (2 ^ (min 8 IntKind.u64.bits)) = ((x3 / 256 : Nat) : Int) := u64shr (s := 8) (by decide)
  have g4 : IntKind.u64.wrap ((x3 : Int) + ((x3 / 256 : Nat) : Int)) = ((x3 + x3 / 256 : Nat) : Int) := by
    rw [← Int.natCast_add]; exact u64cast (by omega)
  generalize x3 + x3 / 256 = x4 at *
  have s5 : (x4 : Int).fdiv (2 ^ (min 16 IntKind.u64.bits)) = ((x4 / 65536 : Nat) : Int) := u64shr (s := 16) (by decide)
  have g5 : IntKind.u64.wrap ((x4 : Int) + ((x4 / 65536 : Nat) : Int)) = ((x4 + x4 / 65536 : Nat) : Int) := by
    rw [← Int.natCast_add]; exact u64cast (by omega)
  generalize x4 + x4 / 65536 = x5 at *
  have s6 : (x5 : Int).fdiv (2 ^ (min 32 IntKind.u64.bits)) = ((x5 / 4294967296 : Nat) : Int) := u64shr (s := 32) (by decide)
  have g6 : IntKind.u64.wrap ((x5 : Int) + ((x5 / 4294967296 : Nat) : Int)) = ((x5 + x5 / 4294967296 : Nat) : Int) := by
    rw [← Int.natCast_add]; exact u64cast (by omega)
  have b6 : x5 + x5 / 4294967296 < 2 ^ 63 := by omega
  rw [hon]
  generalize x5 + x5 / 4294967296 = x6 at *
  have e7 := i64and127 b6
  have w7 : IntKind.i64.wrap (x6 : Int) = x6 := IntWalk.i64_in _ (by omega)
  simp (maxSteps := 4000000) only [↓packA, ↓reduceIte, packB, pureOp, quietOp, loadOp, quietB, fr0, cellsK, implies_true, ite_true, ite_false, eq_self, ne_eq, reduceCtorEq, Nat.reduceLT, Nat.reduceLeDiff, Nat.reduceAdd, Nat.reduceMul, Nat.reduceBEq, Nat.reduceEqDiff, Int.reduceToNat, Int.reduceLT, Int.reduceLE, Nat.reduceSub, pl64, ft3, ft110, ft147, limR, s1, e1, f1, g1, s2, e2, f2, g2, s3, g3, e3, s4, g4, s5, g5, s6, g6, w7, e7, concA, Int.reduceAdd, Int.reduceSub, Int.reduceNeg, Int.reduceMul, Int.reduceEq, Int.reduceBEq, Int.reduceBNe]
  exact ⟨by omega, .pure _ rfl⟩
set_option maxHeartbeats 1000000 in
set_option maxRecDepth 100000 in
theorem count_c (vars : Int) (m : Nat) (hv : 0 ≤ vars ∧ vars ≤ 64) (hm : m < 2 ^ vars.toNat) : APure Tryz.prog 43 [.agg (setC vars m)] (.int .i64 ((ones m : Nat) : Int)) := by
  refine apure_of (wp43 rfl rfl ?_)
  have hmy := may_set vars m hv hm
  have hm64 : m < 2 ^ 64 := Nat.lt_of_lt_of_le hm (Nat.pow_le_pow_right (by decide) (by omega))
  obtain ⟨_, _, _, hz, hle⟩ := ones_facts hm64
  have ho := ones64_c m hm64
  by_cases c : vars = 0
  · subst c
    have hm0 : m = 0 := by simpa using hm
    have h0 := hz.2 hm0
    rw [h0]
    simp (maxSteps := 4000000) only [↓packA, ↓reduceIte, packB, pureOp, quietOp, loadOp, quietB, fr0, cellsK, implies_true, ite_true, ite_false, eq_self, ne_eq, reduceCtorEq, Nat.reduceLT, Nat.reduceLeDiff, Nat.reduceAdd, Nat.reduceMul, Nat.reduceBEq, Nat.reduceEqDiff, Int.reduceToNat, Int.reduceLT, Int.reduceLE, Nat.reduceSub, pl43, ft1, ft3, ft4, ft84, ft100, ft110, setC, concA, Int.reduceAdd, Int.reduceSub, Int.reduceNeg, Int.reduceMul, Int.reduceEq, Int.reduceBEq, Int.reduceBNe]
    refine acalls_pure hmy rfl ?_
    simp (maxSteps := 4000000) only [↓packA, ↓reduceIte, packB, pureOp, quietOp, loadOp, quietB, fr0, cellsK, implies_true, ite_true, ite_false, eq_self, ne_eq, reduceCtorEq, Nat.reduceLT, Nat.reduceLeDiff, Nat.reduceAdd, Nat.reduceMul, Nat.reduceBEq, Nat.reduceEqDiff, Int.reduceToNat, Int.reduceLT, Int.reduceLE, Nat.reduceSub, pl43, ft1, ft3, ft4, ft84, ft100, ft110, wordsR_0, concA, Int.reduceAdd, Int.reduceSub, Int.reduceNeg, Int.reduceMul, Int.reduceEq, Int.reduceBEq, Int.reduceBNe]
    refine LoopN.loop 1 ?_
    simp (maxSteps := 4000000) only [↓packA, ↓reduceIte, packB, pureOp, quietOp, loadOp, quietB, fr0, cellsK, implies_true, ite_true, ite_false, eq_self, ne_eq, reduceCtorEq, Nat.reduceLT, Nat.reduceLeDiff, Nat.reduceAdd, Nat.reduceMul, Nat.reduceBEq, Nat.reduceEqDiff, Int.reduceToNat, Int.reduceLT, Int.reduceLE, Nat.reduceSub, pl43, ft1, ft3, ft4, ft84, ft100, ft110, ↓LoopN_succ, concA, Int.reduceAdd, Int.reduceSub, Int.reduceNeg, Int.reduceMul, Int.reduceEq, Int.reduceBEq, Int.reduceBNe]
    exact .pure _ rfl
  · simp (maxSteps := 4000000) only [↓packA, ↓reduceIte, packB, pureOp, quietOp, loadOp, quietB, fr0, cellsK, implies_true, ite_true, ite_false, eq_self, ne_eq, reduceCtorEq, Nat.reduceLT, Nat.reduceLeDiff, Nat.reduceAdd, Nat.reduceMul, Nat.reduceBEq, Nat.reduceEqDiff, Int.reduceToNat, Int.reduceLT, Int.reduceLE, Nat.reduceSub, pl43, ft1, ft3, ft4, ft84, ft100, ft110, setC, concA, Int.reduceAdd, Int.reduceSub, Int.reduceNeg, Int.reduceMul, Int.reduceEq, Int.reduceBEq, Int.reduceBNe]
    refine acalls_pure hmy rfl ?_
    simp (maxSteps := 4000000) only [↓packA, ↓reduceIte, packB, pureOp, quietOp, loadOp, quietB, fr0, cellsK, implies_true, ite_true, ite_false, eq_self, ne_eq, reduceCtorEq, Nat.reduceLT, Nat.reduceLeDiff, Nat.reduceAdd, Nat.reduceMul, Nat.reduceBEq, Nat.reduceEqDiff, Int.reduceToNat, Int.reduceLT, Int.reduceLE, Nat.reduceSub, pl43, ft1, ft3, ft4, ft84, ft100, ft110, wordsR_1 c, concA, Int.reduceAdd, Int.reduceSub, Int.reduceNeg, Int.reduceMul, Int.reduceEq, Int.reduceBEq, Int.reduceBNe]
    refine LoopN.loop 2 ?_
    simp (maxSteps := 4000000) only [↓packA, ↓reduceIte, packB, pureOp, quietOp, loadOp, quietB, fr0, cellsK, implies_true, ite_true, ite_false, eq_self, ne_eq, reduceCtorEq, Nat.reduceLT, Nat.reduceLeDiff, Nat.reduceAdd, Nat.reduceMul, Nat.reduceBEq, Nat.reduceEqDiff, Int.reduceToNat, Int.reduceLT, Int.reduceLE, Nat.reduceSub, pl43, ft1, ft3, ft4, ft84, ft100, ft110, ↓LoopN_succ, concA, Int.reduceAdd, Int.reduceSub, Int.reduceNeg, Int.reduceMul, Int.reduceEq, Int.reduceBEq, Int.reduceBNe]
    refine acalls_pure ho rfl ?_
    simp (maxSteps := 4000000) only [↓packA, ↓reduceIte, packB, pureOp, quietOp, loadOp, quietB, fr0, cellsK, implies_true, ite_true, ite_false, eq_self, ne_eq, reduceCtorEq, Nat.reduceLT, Nat.reduceLeDiff, Nat.reduceAdd, Nat.reduceMul, Nat.reduceBEq, Nat.reduceEqDiff, Int.reduceToNat, Int.reduceLT, Int.reduceLE, Nat.reduceSub, pl43, ft1, ft3, ft4, ft84, ft100, ft110, concA, Int.reduceAdd, Int.reduceSub, Int.reduceNeg, Int.reduceMul, Int.reduceEq, Int.reduceBEq, Int.reduceBNe]
    unfold LoopN
    simp (maxSteps := 4000000) only [↓packA, ↓reduceIte, packB, pureOp, quietOp, loadOp, quietB, fr0, cellsK, implies_true, ite_true, ite_false, eq_self, ne_eq, reduceCtorEq, Nat.reduceLT, Nat.reduceLeDiff, Nat.reduceAdd, Nat.reduceMul, Nat.reduceBEq, Nat.reduceEqDiff, Int.reduceToNat, Int.reduceLT, Int.reduceLE, Nat.reduceSub, pl43, ft1, ft3, ft4, ft84, ft100, ft110, Int.zero_add, concA, Int.reduceAdd, Int.reduceSub, Int.reduceNeg, Int.reduceMul, Int.reduceEq, Int.reduceBEq, Int.reduceBNe]
    exact ⟨by omega, .pure _ rfl⟩
noncomputable def walkV (t : Tp) : AV := .ip [.int .i64 t.vars, .isl 2 ((msks t.ns).map (setC t.vars)), .int .i64 t.vars, .isl 7 (List.map Nd.cells t.ns), ints t.outs, bools (liveO t.ns t.outs)] 0
set_option maxRecDepth 100000 in
theorem free_c (t : Tp) (ht : t.Good) (k : Int) (hk : 0 ≤ k ∧ k < t.ns.length) : APure Tryz.prog 23 [walkV t, .int .i64 k] (.bool (frB (msks t.ns) k)) := by
  refine apure_of (wp23 rfl rfl ?_)
  have hml : (msks t.ns).length = t.ns.length := walkL_len _
  have hkl : k.toNat < (msks t.ns).length := by omega
  have hmk : (msks t.ns)[k.toNat] < 2 ^ t.vars.toNat := by
    have := msk_lt ht.at_ k.toNat
    rwa [List.getD_eq_getElem?_getD, List.getElem?_eq_getElem hkl] at this
  have rk : ((msks t.ns).map (setC t.vars))[k.toNat]? = some (setC t.vars (msks t.ns)[k.toNat]) := by rw [List.getElem?_map, List.getElem?_eq_getElem hkl]; rfl
  have hc := count_c t.vars _ ht.vars hmk
  have hm64 : (msks t.ns)[k.toNat] < 2 ^ 64 := Nat.lt_of_lt_of_le hmk (Nat.pow_le_pow_right (by decide) (by have := ht.vars; omega))
  have hz := (ones_facts hm64).2.2.2.1
  have hfr : frB (msks t.ns) k = decide ((msks t.ns)[k.toNat] = 0) := by unfold frB; rw [List.getD_eq_getElem?_getD, List.getElem?_eq_getElem hkl]; rfl
  rw [hfr]
  simp (maxSteps := 4000000) only [↓packA, ↓reduceIte, packB, pureOp, quietOp, loadOp, quietB, fr0, cellsK, implies_true, ite_true, ite_false, eq_self, ne_eq, reduceCtorEq, Nat.reduceLT, Nat.reduceLeDiff, Nat.reduceAdd, Nat.reduceMul, Nat.reduceBEq, Nat.reduceEqDiff, Int.reduceToNat, Int.reduceLT, Int.reduceLE, Nat.reduceSub, pl23, ft1, ft3, ft4, ft25, ft44, ft84, ft92, ft94, ft96, ft100, ft110, walkV, rk, setC, List.length_map, concA, Int.reduceAdd, Int.reduceSub, Int.reduceNeg, Int.reduceMul, Int.reduceEq, Int.reduceBEq, Int.reduceBNe]
  refine ⟨hk.1, acalls_pure hc rfl ?_⟩
  simp (maxSteps := 4000000) only [↓packA, ↓reduceIte, packB, pureOp, quietOp, loadOp, quietB, fr0, cellsK, implies_true, ite_true, ite_false, eq_self, ne_eq, reduceCtorEq, Nat.reduceLT, Nat.reduceLeDiff, Nat.reduceAdd, Nat.reduceMul, Nat.reduceBEq, Nat.reduceEqDiff, Int.reduceToNat, Int.reduceLT, Int.reduceLE, Nat.reduceSub, pl23, ft1, ft3, ft4, ft25, ft44, ft84, ft92, ft94, ft96, ft100, ft110, concA, Int.reduceAdd, Int.reduceSub, Int.reduceNeg, Int.reduceMul, Int.reduceEq, Int.reduceBEq, Int.reduceBNe]
  rw [show (((ones (msks t.ns)[k.toNat] : Nat) : Int) == 0) = decide ((msks t.ns)[k.toNat] = 0) from by rw [Bool.eq_iff_iff]; simp only [beq_iff_eq, decide_eq_true_eq, ← hz]; omega]
  exact .pure _ rfl
def pairC (p : Int × Int) : List AV := [.int .i64 p.1, .int .i64 p.2]
theorem ofz_pairs {h : Heap} {id cap : Nat} {ex ex' : Bool} {l : List (Int × Int)} {es : List (List AV)} {len : Nat} (hid : h[id]? = some (.arr 2 es ex)) (he : es = l.map pairC) (hl : len = l.length) : OFz h (.osl id 2 0 len cap ex') (.isl 2 (l.map pairC)) := by
  subst he hl
  have := OFz.osl (h := h) id 2 0 l.length cap ex' ex _ hid (by simp) (fun e he => by obtain ⟨x, _, rfl⟩ := List.mem_map.1 he; rfl)
  rw [List.drop_zero, List.take_of_length_le (by simp)] at this
  exact this
set_option maxHeartbeats 1000000 in
set_option maxRecDepth 100000 in
theorem bends_o (n : Nd) : ACalls Tryz.prog 22 [n.V] [] fun v h => OFz h v (.isl 2 ((bendsN n).map pairC)) := by
  refine wp22 rfl rfl ?_
  obtain ⟨op, a, b, c, neg, num, den⟩ := n
  by_cases o5 : op = 5
  · subst o5
    rw [show bendsN ⟨5, a, b, c, neg, num, den⟩ = [(a, b)] from if_pos rfl]
    simp (maxSteps := 4000000) only [↓packA, ↓reduceIte, packB, pureOp, quietOp, loadOp, quietB, fr0, cellsK, implies_true, ite_true, ite_false, eq_self, ne_eq, reduceCtorEq, Nat.reduceLT, Nat.reduceLeDiff, Nat.reduceAdd, Nat.reduceMul, Nat.reduceBEq, Nat.reduceEqDiff, Int.reduceToNat, Int.reduceLT, Int.reduceLE, Nat.reduceSub, pl22, ft1, ft2, ft3, ft57, ft61, ft63, ft74, ft77, Nd.V, Nd.cells, patch, patch', concA, Int.reduceAdd, Int.reduceSub, Int.reduceNeg, Int.reduceMul, Int.reduceEq, Int.reduceBEq, Int.reduceBNe]
    exact ofz_pairs (l := [(a, b)]) rfl rfl rfl
  by_cases o6 : op = 6
  · subst o6
    rw [show bendsN ⟨6, a, b, c, neg, num, den⟩ = [(a, b), (b, b)] from rfl]
    simp (maxSteps := 4000000) only [↓packA, ↓reduceIte, packB, pureOp, quietOp, loadOp, quietB, fr0, cellsK, implies_true, ite_true, ite_false, eq_self, ne_eq, reduceCtorEq, Nat.reduceLT, Nat.reduceLeDiff, Nat.reduceAdd, Nat.reduceMul, Nat.reduceBEq, Nat.reduceEqDiff, Int.reduceToNat, Int.reduceLT, Int.reduceLE, Nat.reduceSub, pl22, ft1, ft2, ft3, ft57, ft61, ft63, ft74, ft77, Nd.V, Nd.cells, patch, patch', concA, Int.reduceAdd, Int.reduceSub, Int.reduceNeg, Int.reduceMul, Int.reduceEq, Int.reduceBEq, Int.reduceBNe]
    exact ofz_pairs rfl rfl rfl
  by_cases o8 : op = 8
  · subst o8
    by_cases c0 : c = 0
    · subst c0
      rw [show bendsN ⟨8, a, b, 0, neg, num, den⟩ = [] from rfl]
      simp (maxSteps := 4000000) only [↓packA, ↓reduceIte, packB, pureOp, quietOp, loadOp, quietB, fr0, cellsK, implies_true, ite_true, ite_false, eq_self, ne_eq, reduceCtorEq, Nat.reduceLT, Nat.reduceLeDiff, Nat.reduceAdd, Nat.reduceMul, Nat.reduceBEq, Nat.reduceEqDiff, Int.reduceToNat, Int.reduceLT, Int.reduceLE, Nat.reduceSub, pl22, ft1, ft2, ft3, ft57, ft61, ft63, ft74, ft77, Nd.V, Nd.cells, patch, patch', concA, Int.reduceAdd, Int.reduceSub, Int.reduceNeg, Int.reduceMul, Int.reduceEq, Int.reduceBEq, Int.reduceBNe]
      exact .nils 2
    · by_cases c1 : c = 1
      · subst c1
        rw [show bendsN ⟨8, a, b, 1, neg, num, den⟩ = [] from rfl]
        simp (maxSteps := 4000000) only [↓packA, ↓reduceIte, packB, pureOp, quietOp, loadOp, quietB, fr0, cellsK, implies_true, ite_true, ite_false, eq_self, ne_eq, reduceCtorEq, Nat.reduceLT, Nat.reduceLeDiff, Nat.reduceAdd, Nat.reduceMul, Nat.reduceBEq, Nat.reduceEqDiff, Int.reduceToNat, Int.reduceLT, Int.reduceLE, Nat.reduceSub, pl22, ft1, ft2, ft3, ft57, ft61, ft63, ft74, ft77, Nd.V, Nd.cells, patch, patch', concA, Int.reduceAdd, Int.reduceSub, Int.reduceNeg, Int.reduceMul, Int.reduceEq, Int.reduceBEq, Int.reduceBNe]
        exact .nils 2
      · rw [show bendsN ⟨8, a, b, c, neg, num, den⟩ = [(a, a)] from by unfold bendsN; rw [if_neg o5, if_neg o6, if_pos ⟨rfl, c0, c1⟩]]
        simp (maxSteps := 4000000) only [↓packA, ↓reduceIte, packB, pureOp, quietOp, loadOp, quietB, fr0, cellsK, implies_true, ite_true, ite_false, eq_self, ne_eq, reduceCtorEq, Nat.reduceLT, Nat.reduceLeDiff, Nat.reduceAdd, Nat.reduceMul, Nat.reduceBEq, Nat.reduceEqDiff, Int.reduceToNat, Int.reduceLT, Int.reduceLE, Nat.reduceSub, pl22, ft1, ft2, ft3, ft57, ft61, ft63, ft74, ft77, Nd.V, Nd.cells, c0, c1, patch, patch', concA, Int.reduceAdd, Int.reduceSub, Int.reduceNeg, Int.reduceMul, Int.reduceEq, Int.reduceBEq, Int.reduceBNe]
        exact ofz_pairs (l := [(a, a)]) rfl rfl rfl
  · rw [show bendsN ⟨op, a, b, c, neg, num, den⟩ = [] from by unfold bendsN; rw [if_neg o5, if_neg o6, if_neg (fun h => o8 h.1)]]
    simp (maxSteps := 4000000) only [↓packA, ↓reduceIte, packB, pureOp, quietOp, loadOp, quietB, fr0, cellsK, implies_true, ite_true, ite_false, eq_self, ne_eq, reduceCtorEq, Nat.reduceLT, Nat.reduceLeDiff, Nat.reduceAdd, Nat.reduceMul, Nat.reduceBEq, Nat.reduceEqDiff, Int.reduceToNat, Int.reduceLT, Int.reduceLE, Nat.reduceSub, pl22, ft1, ft2, ft3, ft57, ft61, ft63, ft74, ft77, Nd.V, Nd.cells, o5, o6, o8, patch, patch', concA, Int.reduceAdd, Int.reduceSub, Int.reduceNeg, Int.reduceMul, Int.reduceEq, Int.reduceBEq, Int.reduceBNe]
    exact .nils 2
end Go.Proofs.YtclbobielhllmaaGreat
end
section
namespace Go.Proofs.YtclbobielhllmaaGreat
open Go Go.AL
set_option linter.unusedVariables false
set_option linter.unusedSimpArgs false
theorem OL.lt {F : Nat → Prop} {k : Nat} {h : Heap} {x : AV} {rows : List (List AV)} (o : OL F k h x rows) : ∀ i, oid x = some i → i < h.length := fun i hi => by
  rcases o with ⟨rfl, _⟩ | ⟨id, cap, ex, rest, ex', rfl, h2, h3, _⟩
  · cases hi
  · cases hi; exact (List.getElem?_eq_some_iff.1 h3).1
theorem mskN_or {ms : List Nat} {n : Nd} (h : ¬ n.op = 1) : mskN ms n = orAll ((nops n).map fun k => ms.getD k.toNat 0) 0 := by
  unfold mskN orAll
  rw [if_neg h, List.foldl_map]
noncomputable def goneV (t : Tp) : AV := if t.check.2 = 0 then .tup [walkV t, .int .i64 0, .int .i64 0] else .tup [.nilp, .int .i64 t.check.1, .int .i64 t.check.2]
set_option maxHeartbeats 8000000 in
set_option maxRecDepth 100000 in
theorem gone_c (t : Tp) (ht : t.Ok) : APure Tryz.prog 13 [t.V] (goneV t) := by
  refine apure_of (wp13 rfl rfl ?_)
  have pc := pcheck_c t ht
  unfold goneV
  by_cases hc : t.check.2 = 0
  rotate_left
  · rw [if_neg hc]
    simp (maxSteps := 4000000) only [↓packA, ↓reduceIte, packB, pureOp, quietOp, loadOp, quietB, fr0, cellsK, implies_true, ite_true, ite_false, eq_self, ne_eq, reduceCtorEq, Nat.reduceLT, Nat.reduceLeDiff, Nat.reduceAdd, Nat.reduceMul, Nat.reduceBEq, Nat.reduceEqDiff, Int.reduceToNat, Int.reduceLT, Int.reduceLE, Nat.reduceSub, pl13, ft1, ft2, ft3, ft4, ft22, ft23, ft25, ft38, ft44, ft57, ft61, ft63, ft84, ft92, ft94, ft96, ft100, ft110, Tp.V, concA, Int.reduceAdd, Int.reduceSub, Int.reduceNeg, Int.reduceMul, Int.reduceEq, Int.reduceBEq, Int.reduceBNe]
    refine acalls_pure pc rfl ?_
    simp (maxSteps := 4000000) only [↓packA, ↓reduceIte, packB, pureOp, quietOp, loadOp, quietB, fr0, cellsK, implies_true, ite_true, ite_false, eq_self, ne_eq, reduceCtorEq, Nat.reduceLT, Nat.reduceLeDiff, Nat.reduceAdd, Nat.reduceMul, Nat.reduceBEq, Nat.reduceEqDiff, Int.reduceToNat, Int.reduceLT, Int.reduceLE, Nat.reduceSub, pl13, ft1, ft2, ft3, ft4, ft22, ft23, ft25, ft38, ft44, ft57, ft61, ft63, ft84, ft92, ft94, ft96, ft100, ft110, Tp.V, hc, concA, Int.reduceAdd, Int.reduceSub, Int.reduceNeg, Int.reduceMul, Int.reduceEq, Int.reduceBEq, Int.reduceBNe]
    exact .pure _ rfl
  rw [if_pos hc]
  have hl := tlive_c t ht hc
  have hg := good_of hc
  obtain ⟨hv, hnl, hol, hat, hout, hpw⟩ := hg
  obtain ⟨vars, ns, outs⟩ := t
  simp only at hc hv hnl hol hat hout hpw
  generalize hck : Tp.check ⟨vars, ns, outs⟩ = ck at *
  simp only [Tp.V] at pc hl
  simp (maxSteps := 4000000) only [↓packA, ↓reduceIte, packB, pureOp, quietOp, loadOp, quietB, fr0, cellsK, implies_true, ite_true, ite_false, eq_self, ne_eq, reduceCtorEq, Nat.reduceLT, Nat.reduceLeDiff, Nat.reduceAdd, Nat.reduceMul, Nat.reduceBEq, Nat.reduceEqDiff, Int.reduceToNat, Int.reduceLT, Int.reduceLE, Nat.reduceSub, pl13, ft1, ft2, ft3, ft4, ft22, ft23, ft25, ft38, ft44, ft57, ft61, ft63, ft84, ft92, ft94, ft96, ft100, ft110, Tp.V, concA, Int.reduceAdd, Int.reduceSub, Int.reduceNeg, Int.reduceMul, Int.reduceEq, Int.reduceBEq, Int.reduceBNe]
  refine acalls_pure pc rfl ?_
  simp (maxSteps := 4000000) only [↓packA, ↓reduceIte, packB, pureOp, quietOp, loadOp, quietB, fr0, cellsK, implies_true, ite_true, ite_false, eq_self, ne_eq, reduceCtorEq, Nat.reduceLT, Nat.reduceLeDiff, Nat.reduceAdd, Nat.reduceMul, Nat.reduceBEq, Nat.reduceEqDiff, Int.reduceToNat, Int.reduceLT, Int.reduceLE, Nat.reduceSub, pl13, ft1, ft2, ft3, ft4, ft22, ft23, ft25, ft38, ft44, ft57, ft61, ft63, ft84, ft92, ft94, ft96, ft100, ft110, hc, patch, patch', concA, Int.reduceAdd, Int.reduceSub, Int.reduceNeg, Int.reduceMul, Int.reduceEq, Int.reduceBEq, Int.reduceBNe]
  refine acalls_pure hl rfl ?_
  simp (maxSteps := 4000000) only [↓packA, ↓reduceIte, packB, pureOp, quietOp, loadOp, quietB, fr0, cellsK, implies_true, ite_true, ite_false, eq_self, ne_eq, reduceCtorEq, Nat.reduceLT, Nat.reduceLeDiff, Nat.reduceAdd, Nat.reduceMul, Nat.reduceBEq, Nat.reduceEqDiff, Int.reduceToNat, Int.reduceLT, Int.reduceLE, Nat.reduceSub, pl13, ft1, ft2, ft3, ft4, ft22, ft23, ft25, ft38, ft44, ft57, ft61, ft63, ft84, ft92, ft94, ft96, ft100, ft110, hc, ints, bools, List.length_map, patch, patch', concA, Int.reduceAdd, Int.reduceSub, Int.reduceNeg, Int.reduceMul, Int.reduceEq, Int.reduceBEq, Int.reduceBNe]
  obtain ⟨A, hA⟩ : ∃ A : List (List AV), A = [[AV.int IntKind.i64 vars, AV.isl 7 (List.map Nd.cells ns), AV.isl 1 (List.map intE outs)]] := ⟨_, rfl⟩
  have hA0 : A[0]? = some [AV.int IntKind.i64 vars, AV.isl 7 (List.map Nd.cells ns), AV.isl 1 (List.map intE outs)] := by rw [hA]; rfl
  rw [← hA]
  obtain ⟨Lv, hLv⟩ : ∃ Lv, bools (liveO ns outs) = Lv := ⟨_, rfl⟩
  simp only [bools] at hLv
  have hLp : Lv.pure = true := by rw [← hLv]; rfl
  rw [hLv]
  refine LoopK.intro (fun m w z => ∃ (k : Nat) (x : AV), m = ns.length - k ∧ k ≤ ns.length ∧ OL (fun i => i ≤ 1) 2 z x ((msks (ns.take k)).map (setC vars)) ∧ 1 < z.length ∧ z[0]? = some (.arr 3 A true) ∧ z[1]? = some (.arr 6 [[AV.int .i64 vars, x, AV.int .i64 vars, AV.isl 7 (List.map Nd.cells ns), AV.isl 1 (List.map intE outs), Lv]] true) ∧ w 1 = .op 0 3 0 0 ∧ w 7 = .op 1 6 0 0 ∧ w 41 = .isl 7 (List.map Nd.cells ns) ∧ w 42 = .int .i64 ns.length ∧ w 43 = .int .i64 k) ns.length ⟨0, .nils, rfl, by omega, OL.nil, by simp, rfl, rfl, ?_, ?_, ?_, ?_, ?_⟩ ?_
  rotate_right
  all_goals (try (simp (maxSteps := 4000000) only [↓packA, ↓reduceIte, packB, pureOp, quietOp, loadOp, quietB, fr0, cellsK, implies_true, ite_true, ite_false, eq_self, ne_eq, reduceCtorEq, Nat.reduceLT, Nat.reduceLeDiff, Nat.reduceAdd, Nat.reduceMul, Nat.reduceBEq, Nat.reduceEqDiff, Int.reduceToNat, Int.reduceLT, Int.reduceLE, Nat.reduceSub, pl13, ft1, ft2, ft3, ft4, ft22, ft23, ft25, ft38, ft44, ft57, ft61, ft63, ft84, ft92, ft94, ft96, ft100, ft110, hA0, List.length_map, Int.natCast_zero, concA, Int.reduceAdd, Int.reduceSub, Int.reduceNeg, Int.reduceMul, Int.reduceEq, Int.reduceBEq, Int.reduceBNe]; done))
  rintro m w z ⟨k, x, rfl, hk, hO, hzl, h0, h1, a1, a7, a41, a42, a43⟩
  by_cases c : k < ns.length
  · have q1 : (k : Int) < (ns.length : Int) := by omega
    obtain ⟨n, hn⟩ : ∃ n, ns[k]? = some n := ⟨_, List.getElem?_eq_getElem c⟩
    have rk : (List.map Nd.cells ns)[k]? = some (Nd.cells n) := by rw [List.getElem?_map, hn]; rfl
    have hnk := hat k n hn
    obtain ⟨N, hN⟩ : ∃ N, z.length = N := ⟨_, rfl⟩
    have tN := tailR hN
    have r0 : ∀ t, (z ++ t)[0]? = some (.arr 3 A true) := fun t => by rw [List.getElem?_append_left (by omega)]; exact h0
    have r1 : ∀ t, (z ++ t)[1]? = some (.arr 6 [[AV.int .i64 vars, x, AV.int .i64 vars, AV.isl 7 (List.map Nd.cells ns), AV.isl 1 (List.map intE outs), Lv]] true) := fun t => by rw [List.getElem?_append_left hzl]; exact h1
    have e1 : msks (ns.take (k + 1)) = msks (ns.take k) ++ [mskN (msks (ns.take k)) n] := walkL_succ hn
    have hml : (msks (ns.take k)).length = k := by unfold msks; rw [walkL_len, List.length_take]; omega
    by_cases o1 : n.op = 1
    · have hia := hnk.inp o1
      have hmk := make_o vars n.a hv.2 hia
      have hm1 : mskN (msks (ns.take k)) n = 2 ^ n.a.toNat := if_pos o1
      simp (maxSteps := 4000000) only [↓packA, ↓reduceIte, packB, pureOp, quietOp, loadOp, quietB, fr0, cellsK, implies_true, ite_true, ite_false, eq_self, ne_eq, reduceCtorEq, Nat.reduceLT, Nat.reduceLeDiff, Nat.reduceAdd, Nat.reduceMul, Nat.reduceBEq, Nat.reduceEqDiff, Int.reduceToNat, Int.reduceLT, Int.reduceLE, Nat.reduceSub, pl13, ft1, ft2, ft3, ft4, ft22, ft23, ft25, ft38, ft44, ft57, ft61, ft63, ft84, ft92, ft94, ft96, ft100, ft110, a1, a7, a41, a42, a43, q1, rk, hN, tN, h0, h1, r0, r1, hA0, o1, Nd.cells, List.length_map, patch, patch', concA, Int.reduceAdd, Int.reduceSub, Int.reduceNeg, Int.reduceMul, Int.reduceEq, Int.reduceBEq, Int.reduceBNe]
      refine ⟨by omega, ?_⟩
      refine acalls_fresh hmk (.cons (.pure _ rfl) (.cons (Frz.whole (es := List.map intE [n.a]) (gR hN _ 2) (fun e he => by obtain ⟨y, _, rfl⟩ := List.mem_map.1 he; rfl) rfl) .nil)) fun u hx hz => ⟨_, hz, ?_⟩
      simp (maxSteps := 4000000) only [↓packA, ↓reduceIte, packB, pureOp, quietOp, loadOp, quietB, fr0, cellsK, implies_true, ite_true, ite_false, eq_self, ne_eq, reduceCtorEq, Nat.reduceLT, Nat.reduceLeDiff, Nat.reduceAdd, Nat.reduceMul, Nat.reduceBEq, Nat.reduceEqDiff, Int.reduceToNat, Int.reduceLT, Int.reduceLE, Nat.reduceSub, pl13, ft1, ft2, ft3, ft4, ft22, ft23, ft25, ft38, ft44, ft57, ft61, ft63, ft84, ft92, ft94, ft96, ft100, ft110, a1, a7, a41, a42, a43, setC, rk, hN, tN, h0, h1, r0, r1, hA0, o1, Nd.cells, List.length_map, patch, patch', concA, Int.reduceAdd, Int.reduceSub, Int.reduceNeg, Int.reduceMul, Int.reduceEq, Int.reduceBEq, Int.reduceBNe]
      refine ol_push (F := fun i => i ≤ 1) 2 rfl rfl (fun i hi => by simp; omega) hO.app (by simp [hml]; omega) fun x' z' ⟨xi, xc, xe, hx', _⟩ hO' hl' _ hF' => ?_
      subst hx'
      rw [List.length_map, hml] at hO'
      have h0' : z'[0]? = some (.arr 3 A true) := by rw [hF' 0 (by omega)]; exact r0 _
      have h1' : z'[1]? = some (.arr 6 [[AV.int .i64 vars, x, AV.int .i64 vars, AV.isl 7 (List.map Nd.cells ns), AV.isl 1 (List.map intE outs), Lv]] true) := by rw [hF' 1 (by omega)]; exact r1 _
      have hzl' : 1 < z'.length := by simp at hl'; omega
      simp (maxSteps := 4000000) only [↓packA, ↓reduceIte, packB, pureOp, quietOp, loadOp, quietB, fr0, cellsK, implies_true, ite_true, ite_false, eq_self, ne_eq, reduceCtorEq, Nat.reduceLT, Nat.reduceLeDiff, Nat.reduceAdd, Nat.reduceMul, Nat.reduceBEq, Nat.reduceEqDiff, Int.reduceToNat, Int.reduceLT, Int.reduceLE, Nat.reduceSub, pl13, ft1, ft2, ft3, ft4, ft22, ft23, ft25, ft38, ft44, ft57, ft61, ft63, ft84, ft92, ft94, ft96, ft100, ft110, a1, a7, a41, a42, a43, h0', h1', hml, List.length_map, patch, patch', concA, Int.reduceAdd, Int.reduceSub, Int.reduceNeg, Int.reduceMul, Int.reduceEq, Int.reduceBEq, Int.reduceBNe]
      refine ⟨by omega, .inl ⟨ns.length - (k + 1), by omega, k + 1, _, rfl, by omega, by rw [e1, List.map_append, hm1]; exact hO'.set (Nat.le_refl _) _, hzl', ?_, by rw [List.getElem?_set_self hzl'], by omega⟩⟩
      rw [List.getElem?_set_ne (by decide)]; exact h0'
    · simp (maxSteps := 4000000) only [↓packA, ↓reduceIte, packB, pureOp, quietOp, loadOp, quietB, fr0, cellsK, implies_true, ite_true, ite_false, eq_self, ne_eq, reduceCtorEq, Nat.reduceLT, Nat.reduceLeDiff, Nat.reduceAdd, Nat.reduceMul, Nat.reduceBEq, Nat.reduceEqDiff, Int.reduceToNat, Int.reduceLT, Int.reduceLE, Nat.reduceSub, pl13, ft1, ft2, ft3, ft4, ft22, ft23, ft25, ft38, ft44, ft57, ft61, ft63, ft84, ft92, ft94, ft96, ft100, ft110, a1, a7, a41, a42, a43, q1, rk, hN, tN, h0, h1, r0, r1, hA0, o1, Nd.cells, List.length_map, patch, patch', concA, Int.reduceAdd, Int.reduceSub, Int.reduceNeg, Int.reduceMul, Int.reduceEq, Int.reduceBEq, Int.reduceBNe]
      refine ⟨by omega, ?_⟩
      have hr := pops_o n
      unfold Nd.V Nd.cells at hr
      refine acalls_fresh hr (.cons (.pure _ rfl) .nil) fun u hx hz => ⟨_, hz, ?_⟩
      have hnp : (nops n).length ≤ 2 := by
        unfold nops
        split
        · simp
        · split <;> simp
      have hxl := OL.lt hO
      have hx1 : ∀ i, oid x = some i → 1 < i := fun i hi => by
        rcases hO with ⟨rfl, _⟩ | ⟨id, cap, ex, rest, ex', rfl, h2, h3, _⟩
        · cases hi
        · cases hi; omega
      simp (maxSteps := 4000000) only [↓packA, ↓reduceIte, packB, pureOp, quietOp, loadOp, quietB, fr0, cellsK, implies_true, ite_true, ite_false, eq_self, ne_eq, reduceCtorEq, Nat.reduceLT, Nat.reduceLeDiff, Nat.reduceAdd, Nat.reduceMul, Nat.reduceBEq, Nat.reduceEqDiff, Int.reduceToNat, Int.reduceLT, Int.reduceLE, Nat.reduceSub, pl13, ft1, ft2, ft3, ft4, ft22, ft23, ft25, ft38, ft44, ft57, ft61, ft63, ft84, ft92, ft94, ft96, ft100, ft110, a1, a7, a41, a42, a43, ints, List.length_map, concA, Int.reduceAdd, Int.reduceSub, Int.reduceNeg, Int.reduceMul, Int.reduceEq, Int.reduceBEq, Int.reduceBNe]
      refine LoopK.intro (fun m w z' => ∃ (p : Nat) (y : AV), m = (nops n).length - p ∧ p ≤ (nops n).length ∧ OL (fun i => i ≤ 1 ∨ i = N ∨ i = N + 1 ∨ oid x = some i) 2 z' y ((((nops n).take p).map fun q => (msks (ns.take k)).getD q.toNat 0).map (setC vars)) ∧ N + 1 < z'.length ∧ (∀ i, (i ≤ 1 ∨ i = N ∨ i = N + 1 ∨ oid x = some i) → z'[i]? = (z ++ [Ob.arr 7 [Nd.cells n] true, Ob.arr 2 [[AV.int IntKind.i64 0, AV.nils]] true])[i]?) ∧ w 1 = .op 0 3 0 0 ∧ w 7 = .op 1 6 0 0 ∧ w 10 = .op (N + 1) 2 0 0 ∧ w 11 = y ∧ w 41 = .isl 7 (List.map Nd.cells ns) ∧ w 42 = .int .i64 ns.length ∧ w 43 = .int .i64 k ∧ w 60 = ints (nops n) ∧ w 61 = .int .i64 (nops n).length ∧ w 62 = .int .i64 p) (nops n).length ⟨0, .nils, rfl, by omega, OL.nil, by simp; omega, fun i _ => rfl, ?_, ?_, ?_, ?_, ?_, ?_, ?_, ?_, ?_, ?_⟩ ?_
      rotate_right
      all_goals (try (simp (maxSteps := 4000000) only [↓packA, ↓reduceIte, packB, pureOp, quietOp, loadOp, quietB, fr0, cellsK, implies_true, ite_true, ite_false, eq_self, ne_eq, reduceCtorEq, Nat.reduceLT, Nat.reduceLeDiff, Nat.reduceAdd, Nat.reduceMul, Nat.reduceBEq, Nat.reduceEqDiff, Int.reduceToNat, Int.reduceLT, Int.reduceLE, Nat.reduceSub, pl13, ft1, ft2, ft3, ft4, ft22, ft23, ft25, ft38, ft44, ft57, ft61, ft63, ft84, ft92, ft94, ft96, ft100, ft110, a1, a7, a41, a42, a43, ints, Int.natCast_zero, concA, Int.reduceAdd, Int.reduceSub, Int.reduceNeg, Int.reduceMul, Int.reduceEq, Int.reduceBEq, Int.reduceBNe]; done))
      rintro m w z' ⟨p, y, rfl, hp, hY, hzl', hF, a1, a7, a10, a11, a41, a42, a43, a60, a61, a62⟩
      have h0' : z'[0]? = some (.arr 3 A true) := by rw [hF 0 (.inl (by omega))]; exact r0 _
      have h1' : z'[1]? = some (.arr 6 [[AV.int .i64 vars, x, AV.int .i64 vars, AV.isl 7 (List.map Nd.cells ns), AV.isl 1 (List.map intE outs), Lv]] true) := by rw [hF 1 (.inl (by omega))]; exact r1 _
      obtain ⟨N2, hN2⟩ : ∃ N2, z'.length = N2 := ⟨_, rfl⟩
      have tN2 := tailR hN2
      by_cases cp : p < (nops n).length
      · have qp : (p : Int) < ((nops n).length : Int) := by omega
        have ek : (nops n)[p]? = some (nops n)[p] := List.getElem?_eq_getElem cp
        have hq := nops_lt hnk (nops n)[p] (List.getElem_mem cp)
        have eg : (nops n).getD p default = (nops n)[p] := by rw [List.getD_eq_getElem?_getD, ek]; rfl
        have hql : (nops n)[p].toNat < (msks (ns.take k)).length := by omega
        have hrow : ((msks (ns.take k)).map (setC vars))[(nops n)[p].toNat]? = some (setC vars ((msks (ns.take k)).getD (nops n)[p].toNat 0)) := by
          rw [List.getElem?_map, List.getD_eq_getElem?_getD, List.getElem?_eq_getElem hql]; rfl
        obtain ⟨id, cap, ex, ex', es, hxe, hid, hes⟩ := ol_row hO hrow
        have hid' : z'[id]? = some (.arr 2 es ex') := by
          rw [hF id (.inr (.inr (.inr (by rw [hxe]; rfl)))), List.getElem?_append_left (List.getElem?_eq_some_iff.1 hid).1]; exact hid
        rw [List.length_map, hml] at hxe
        have h1'' := h1'
        rw [hxe] at h1''
        simp (maxSteps := 4000000) only [↓packA, ↓reduceIte, packB, pureOp, quietOp, loadOp, quietB, fr0, cellsK, implies_true, ite_true, ite_false, eq_self, ne_eq, reduceCtorEq, Nat.reduceLT, Nat.reduceLeDiff, Nat.reduceAdd, Nat.reduceMul, Nat.reduceBEq, Nat.reduceEqDiff, Int.reduceToNat, Int.reduceLT, Int.reduceLE, Nat.reduceSub, pl13, ft1, ft2, ft3, ft4, ft22, ft23, ft25, ft38, ft44, ft57, ft61, ft63, ft84, ft92, ft94, ft96, ft100, ft110, ints, a1, a7, a10, a11, a41, a42, a43, a60, a61, a62, qp, eg, h1'', hid', hes, hN2, tN2, setC, concA, Int.reduceAdd, Int.reduceSub, Int.reduceNeg, Int.reduceMul, Int.reduceEq, Int.reduceBEq, Int.reduceBNe]
        have hFl : ∀ i, (i ≤ 1 ∨ i = N ∨ i = N + 1 ∨ oid x = some i) → i < z'.length := fun i hi => by
          rcases hi with hi | hi | hi | hi
          · omega
          · omega
          · omega
          · have := hxl i hi; omega
        refine ⟨by omega, cp, by omega, ol_push (F := fun i => i ≤ 1 ∨ i = N ∨ i = N + 1 ∨ oid x = some i) 2 rfl rfl (fun i hi => by rw [List.length_append]; have := hFl i hi; omega) hY.app (by simp; omega) fun y' z2 ⟨yi, yc, ye, hy', _⟩ hY' hl2 _ hF2 => ?_⟩
        subst hy'
        simp only [List.length_map] at hY'
        simp (maxSteps := 4000000) only [↓packA, ↓reduceIte, packB, pureOp, quietOp, loadOp, quietB, fr0, cellsK, implies_true, ite_true, ite_false, eq_self, ne_eq, reduceCtorEq, Nat.reduceLT, Nat.reduceLeDiff, Nat.reduceAdd, Nat.reduceMul, Nat.reduceBEq, Nat.reduceEqDiff, Int.reduceToNat, Int.reduceLT, Int.reduceLE, Nat.reduceSub, pl13, ft1, ft2, ft3, ft4, ft22, ft23, ft25, ft38, ft44, ft57, ft61, ft63, ft84, ft92, ft94, ft96, ft100, ft110, a1, a7, a10, a11, a41, a42, a43, a60, a61, a62, concA, Int.reduceAdd, Int.reduceSub, Int.reduceNeg, Int.reduceMul, Int.reduceEq, Int.reduceBEq, Int.reduceBNe]
        refine ⟨by omega, .inl ⟨(nops n).length - (p + 1), by omega, p + 1, _, rfl, by omega, ?_, by simp at hl2; omega, fun i hi => ?_, rfl, by omega⟩⟩
        · rw [List.take_add_one, ek, List.map_append, List.map_append]
          exact hY'
        · rw [hF2 i hi, List.getElem?_append_left (hFl i hi), hF i hi]
      · have qp : ¬ (p : Int) < ((nops n).length : Int) := by omega
        obtain rfl : p = (nops n).length := by omega
        rw [List.take_length] at hY
        have hun := union_o vars ((nops n).map fun q => (msks (ns.take k)).getD q.toNat 0) hv ?_ (by simp; omega)
        rotate_left
        · intro m hm
          obtain ⟨q, hq, rfl⟩ := List.mem_map.1 hm
          exact msk_lt (vars := vars) (ns := ns.take k) (fun j m hj => hat j m (by rw [List.getElem?_take] at hj; split at hj; exact hj; cases hj)) _
        have hYf := hY.frz_self (fun e he => by obtain ⟨q, _, rfl⟩ := List.mem_map.1 he; rfl)
        simp (maxSteps := 4000000) only [↓packA, ↓reduceIte, packB, pureOp, quietOp, loadOp, quietB, fr0, cellsK, implies_true, ite_true, ite_false, eq_self, ne_eq, reduceCtorEq, Nat.reduceLT, Nat.reduceLeDiff, Nat.reduceAdd, Nat.reduceMul, Nat.reduceBEq, Nat.reduceEqDiff, Int.reduceToNat, Int.reduceLT, Int.reduceLE, Nat.reduceSub, pl13, ft1, ft2, ft3, ft4, ft22, ft23, ft25, ft38, ft44, ft57, ft61, ft63, ft84, ft92, ft94, ft96, ft100, ft110, ints, a1, a7, a10, a11, a41, a42, a43, a60, a61, a62, qp, h0', hA0, concA, Int.reduceAdd, Int.reduceSub, Int.reduceNeg, Int.reduceMul, Int.reduceEq, Int.reduceBEq, Int.reduceBNe]
        refine acalls_fresh hun (.cons (.pure _ rfl) (.cons hYf .nil)) fun u hx hz => ⟨_, hz, ?_⟩
        rw [← mskN_or o1]
        have hN1 : z'[N + 1]? = some (.arr 2 [[AV.int IntKind.i64 0, AV.nils]] true) := by rw [hF (N + 1) (.inr (.inr (.inl rfl)))]; exact gR hN _ 1
        have hs1 : ∀ o, (z'.set (N + 1) o)[N + 1]? = some o := fun o => List.getElem?_set_self hzl'
        have hs1t : ∀ o t, (z'.set (N + 1) o ++ t)[N + 1]? = some o := fun o t => by rw [List.getElem?_append_left (by simpa using hzl')]; exact hs1 o
        have h1s : ∀ o, (z'.set (N + 1) o)[1]? = some (.arr 6 [[AV.int .i64 vars, x, AV.int .i64 vars, AV.isl 7 (List.map Nd.cells ns), AV.isl 1 (List.map intE outs), Lv]] true) := fun o => by rw [List.getElem?_set_ne (by omega)]; exact h1'
        have h1st : ∀ o t, (z'.set (N + 1) o ++ t)[1]? = some (.arr 6 [[AV.int .i64 vars, x, AV.int .i64 vars, AV.isl 7 (List.map Nd.cells ns), AV.isl 1 (List.map intE outs), Lv]] true) := fun o t => by rw [List.getElem?_append_left (by simp; omega)]; exact h1s o
        have nst : ∀ o t, (z'.set (N + 1) o ++ t)[N2]? = t[0]? := fun o t => gR0 (by simpa using hN2) t
        simp (maxSteps := 4000000) only [↓packA, ↓reduceIte, packB, pureOp, quietOp, loadOp, quietB, fr0, cellsK, implies_true, ite_true, ite_false, eq_self, ne_eq, reduceCtorEq, Nat.reduceLT, Nat.reduceLeDiff, Nat.reduceAdd, Nat.reduceMul, Nat.reduceBEq, Nat.reduceEqDiff, Int.reduceToNat, Int.reduceLT, Int.reduceLE, Nat.reduceSub, pl13, ft1, ft2, ft3, ft4, ft22, ft23, ft25, ft38, ft44, ft57, ft61, ft63, ft84, ft92, ft94, ft96, ft100, ft110, ints, a1, a7, a10, a11, a41, a42, a43, a60, a61, a62, setC, hN2, hN1, hs1, hs1t, h1s, h1st, nst, patch, patch', concA, Int.reduceAdd, Int.reduceSub, Int.reduceNeg, Int.reduceMul, Int.reduceEq, Int.reduceBEq, Int.reduceBNe]
        have hOz : OL (fun i => i ≤ 1) 2 z' x ((msks (ns.take k)).map (setC vars)) := hO.keep fun id hi hlt hn => ⟨hn, by rw [hF id (.inr (.inr (.inr hi))), List.getElem?_append_left hlt]⟩
        have hOs : ∀ o, OL (fun i => i ≤ 1) 2 (z'.set (N + 1) o) x ((msks (ns.take k)).map (setC vars)) := fun o => hOz.keep fun id hi hlt hn => ⟨hn, List.getElem?_set_ne (fun e => by have := hxl id hi; omega)⟩
        refine ol_push (F := fun i => i ≤ 1) 2 rfl rfl (fun i hi => by simp; omega) (hOs _).app (by simp [hml]; omega) fun x' z3 ⟨xi, xc, xe, hx', _⟩ hO' hl' _ hF' => ?_
        subst hx'
        rw [List.length_map, hml] at hO'
        have h0'' : z3[0]? = some (.arr 3 A true) := by rw [hF' 0 (by omega), List.getElem?_append_left (by simp; omega), List.getElem?_set_ne (by omega)]; exact h0'
        have h1'' : z3[1]? = some (.arr 6 [[AV.int .i64 vars, x, AV.int .i64 vars, AV.isl 7 (List.map Nd.cells ns), AV.isl 1 (List.map intE outs), Lv]] true) := by rw [hF' 1 (by omega)]; exact h1st _ _
        have hzl3 : 1 < z3.length := by simp at hl'; omega
        simp (maxSteps := 4000000) only [↓packA, ↓reduceIte, packB, pureOp, quietOp, loadOp, quietB, fr0, cellsK, implies_true, ite_true, ite_false, eq_self, ne_eq, reduceCtorEq, Nat.reduceLT, Nat.reduceLeDiff, Nat.reduceAdd, Nat.reduceMul, Nat.reduceBEq, Nat.reduceEqDiff, Int.reduceToNat, Int.reduceLT, Int.reduceLE, Nat.reduceSub, pl13, ft1, ft2, ft3, ft4, ft22, ft23, ft25, ft38, ft44, ft57, ft61, ft63, ft84, ft92, ft94, ft96, ft100, ft110, a1, a7, a41, a42, a43, h0'', h1'', hml, List.length_map, patch, patch', concA, Int.reduceAdd, Int.reduceSub, Int.reduceNeg, Int.reduceMul, Int.reduceEq, Int.reduceBEq, Int.reduceBNe]
        refine ⟨by omega, .inl ⟨ns.length - (k + 1), by omega, k + 1, _, rfl, by omega, by rw [e1, List.map_append]; exact hO'.set (Nat.le_refl _) _, hzl3, ?_, by rw [List.getElem?_set_self hzl3], by omega⟩⟩
        rw [List.getElem?_set_ne (by decide)]; exact h0''
  · have q1 : ¬ (k : Int) < (ns.length : Int) := by omega
    obtain rfl : k = ns.length := by omega
    rw [List.take_length] at hO
    simp (maxSteps := 4000000) only [↓packA, ↓reduceIte, packB, pureOp, quietOp, loadOp, quietB, fr0, cellsK, implies_true, ite_true, ite_false, eq_self, ne_eq, reduceCtorEq, Nat.reduceLT, Nat.reduceLeDiff, Nat.reduceAdd, Nat.reduceMul, Nat.reduceBEq, Nat.reduceEqDiff, Int.reduceToNat, Int.reduceLT, Int.reduceLE, Nat.reduceSub, pl13, ft1, ft2, ft3, ft4, ft22, ft23, ft25, ft38, ft44, ft57, ft61, ft63, ft84, ft92, ft94, ft96, ft100, ft110, a1, a7, a41, a42, a43, q1, concA, Int.reduceAdd, Int.reduceSub, Int.reduceNeg, Int.reduceMul, Int.reduceEq, Int.reduceBEq, Int.reduceBNe]
    refine .tup _ _ rfl fun q u u' hu hu' => ?_
    match q with
    | 0 =>
      simp [walkV] at hu hu'; subst hu hu'
      refine .op 1 6 0 0 true _ _ _ h1 rfl rfl fun q u u' hu hu' => ?_
      match q with
      | 0 => simp at hu hu'; subst hu hu'; exact .pure _ rfl
      | 1 => simp at hu hu'; subst hu hu'; exact hO.frz_self (fun e he => by obtain ⟨q, _, rfl⟩ := List.mem_map.1 he; rfl)
      | 2 => simp at hu hu'; subst hu hu'; exact .pure _ rfl
      | 3 => simp at hu hu'; subst hu hu'; exact .pure _ rfl
      | 4 => simp at hu hu'; subst hu hu'; exact .pure _ rfl
      | 5 => simp at hu hu'; subst hu hu'; rw [← hLv]; exact .pure _ rfl
      | q + 6 => simp at hu
    | 1 => simp at hu hu'; subst hu hu'; exact .pure _ rfl
    | 2 => simp at hu hu'; subst hu hu'; exact .pure _ rfl
    | q + 3 => simp at hu
end Go.Proofs.YtclbobielhllmaaGreat
end
section
namespace Go.Proofs.YtclbobielhllmaaGreat
open Go Go.AL
set_option linter.unusedVariables false
set_option linter.unusedSimpArgs false
def hangV (vars : Int) (ns : List Nd) : AV := .isl 1 ((List.range vars.toNat).map fun j => [bools (hangs j ns)])
def HR (n : Nat) (ns : List Nd) (z : Heap) (rows : List (List AV)) : Prop := ∀ (i : Nat) (row : List AV), rows[i]? = some row → ∃ id, row = [.osl id 1 0 n n true] ∧ z[id]? = some (.arr 1 (List.map boolE (hangs i ns)) true)
def FR (n : Nat) (rows : List (List AV)) : Nat → Prop := fun id => id = 0 ∨ [AV.osl id 1 0 n n true] ∈ rows
theorem HR.lt {n : Nat} {ns : List Nd} {z : Heap} {rows : List (List AV)} (h : HR n ns z rows) (hz : 0 < z.length) : ∀ id, FR n rows id → id < z.length := fun id hi => by
  rcases hi with rfl | hi
  · exact hz
  · obtain ⟨i, hi⟩ := List.getElem?_of_mem hi
    obtain ⟨id', e, hz'⟩ := h i _ hi
    simp at e
    subst e
    exact (List.getElem?_eq_some_iff.1 hz').1
theorem HR.keep {n : Nat} {ns : List Nd} {z z' : Heap} {rows : List (List AV)} (h : HR n ns z rows) (hk : ∀ id, FR n rows id → z'[id]? = z[id]?) : HR n ns z' rows := fun i row hr => by
  obtain ⟨id, e, hz⟩ := h i row hr
  subst e
  exact ⟨id, rfl, by rw [hk id (.inr (List.mem_of_getElem? hr))]; exact hz⟩
def hfold (S : List Bool) (l : List Int) (b : Bool) : Bool := l.foldl (fun b k => b || S.getD k.toNat false) b
theorem hfold_take {S : List Bool} {l : List Int} {p : Nat} {x : Int} {b : Bool} (h : l[p]? = some x) : hfold S (l.take (p + 1)) b = (hfold S (l.take p) b || S.getD x.toNat false) := by
  unfold hfold
  rw [List.take_add_one, h, List.foldl_append]
  rfl
theorem hfold_cg {S S' : List Bool} : ∀ {l : List Int} {b : Bool}, (∀ k, k ∈ l → S.getD k.toNat false = S'.getD k.toNat false) → hfold S l b = hfold S' l b
  | [], _, _ => rfl
  | k :: l, b, h => by
    show hfold S l (b || S.getD k.toNat false) = hfold S' l (b || S'.getD k.toNat false)
    rw [h k (by simp)]
    exact hfold_cg fun j hj => h j (by simp [hj])
def SW (j : Nat) (ns : List Nd) (S : List Bool) (v : Nat) : Prop := S.length = ns.length ∧ ∀ i, i < v → S.getD i false = (hangs j (ns.take v)).getD i false
theorem SW.start {j : Nat} {ns : List Nd} : SW j ns (List.replicate ns.length false) 0 := ⟨by simp, fun i h => by omega⟩
theorem SW.done {j : Nat} {ns : List Nd} {S : List Bool} (h : SW j ns S ns.length) : S = hangs j ns := by
  have hl : (hangs j ns).length = ns.length := walkL_len ns
  apply List.ext_getElem (by rw [h.1, hl])
  intro i h1 h2
  have := h.2 i (by rw [← h.1]; exact h1)
  rw [List.take_length, List.getD_eq_getElem?_getD, List.getD_eq_getElem?_getD, List.getElem?_eq_getElem h1, List.getElem?_eq_getElem h2] at this
  exact this
theorem SW.step {j : Nat} {ns : List Nd} {S S' : List Bool} {v : Nat} {n : Nd} {vars : Int} (h : SW j ns S v) (hn : ns[v]? = some n) (hv : NdAt vars v n) (hl : S'.length = ns.length) (hlt : ∀ i, i < v → S'.getD i false = S.getD i false) (hat : S'.getD v false = hfold S (nops n) (decide (n.op = 1 ∧ n.a = j))) : SW j ns S' (v + 1) := by
  have hvl := (List.getElem?_eq_some_iff.1 hn).1
  have hlh : (hangs j (ns.take v)).length = v := by unfold hangs; rw [walkL_len, List.length_take]; omega
  have e2 : hangs j (ns.take (v + 1)) = hangs j (ns.take v) ++ [hangN j (hangs j (ns.take v)) n] := walkL_succ hn
  refine ⟨hl, fun i hi => ?_⟩
  rw [e2]
  by_cases c : i < v
  · rw [hlt i c, h.2 i c, List.getD_eq_getElem?_getD, List.getD_eq_getElem?_getD, List.getElem?_append_left (by omega)]
  · obtain rfl : i = v := by omega
    rw [hat, List.getD_eq_getElem?_getD, List.getElem?_append_right (by omega), hlh, Nat.sub_self]
    show _ = hfold (hangs j (ns.take i)) (nops n) (decide (n.op = 1 ∧ n.a = j))
    exact hfold_cg fun k hk => h.2 _ (by have := nops_lt hv k hk; omega)
theorem bool_setN {l : List Bool} {i : Nat} {b : Bool} : (List.map boolE l).set i [.bool b] = List.map boolE (l.set i b) := by
  rw [List.map_set]
  rfl
theorem getD_setB {l : List Bool} {i : Nat} {b : Bool} (h : i < l.length) : (l.set i b).getD i false = b := by
  rw [List.getD_eq_getElem?_getD, List.getElem?_set_self h]
  rfl
theorem getD_setBn {l : List Bool} {i k : Nat} {b : Bool} (h : k ≠ i) : (l.set i b).getD k false = l.getD k false := by
  rw [List.getD_eq_getElem?_getD, List.getElem?_set_ne (Ne.symm h), ← List.getD_eq_getElem?_getD]
set_option maxHeartbeats 8000000 in
set_option maxRecDepth 100000 in
theorem hangs_c (vars : Int) (ns : List Nd) (outs : List Int) (hvs : 0 ≤ vars ∧ vars ≤ 64) (hnl : ns.length < 1000000) (hat : ∀ (k : Nat) (n : Nd), ns[k]? = some n → NdAt vars k n) : APure Tryz.prog 19 [Tp.V ⟨vars, ns, outs⟩] (hangV vars ns) := by
  refine apure_of (wp19 rfl rfl ?_)
  obtain ⟨A, hA⟩ : ∃ A : List (List AV), A = [[AV.int IntKind.i64 vars, AV.isl 7 (List.map Nd.cells ns), AV.isl 1 (List.map intE outs)]] := ⟨_, rfl⟩
  have hA0 : A[0]? = some [AV.int IntKind.i64 vars, AV.isl 7 (List.map Nd.cells ns), AV.isl 1 (List.map intE outs)] := by rw [hA]; rfl
  simp (maxSteps := 4000000) only [↓packA, ↓reduceIte, packB, pureOp, quietOp, loadOp, quietB, fr0, cellsK, implies_true, ite_true, ite_false, eq_self, ne_eq, reduceCtorEq, Nat.reduceLT, Nat.reduceLeDiff, Nat.reduceAdd, Nat.reduceMul, Nat.reduceBEq, Nat.reduceEqDiff, Int.reduceToNat, Int.reduceLT, Int.reduceLE, Nat.reduceSub, pl19, ft1, ft3, ft4, ft22, ft23, ft25, ft44, ft57, ft61, ft63, ft70, Tp.V, ints, List.length_map, concA, Int.reduceAdd, Int.reduceSub, Int.reduceNeg, Int.reduceMul, Int.reduceEq, Int.reduceBEq, Int.reduceBNe]
  rw [← hA]
  obtain ⟨vn, hvn⟩ := Int.eq_ofNat_of_zero_le hvs.1
  refine LoopK.intro (fun m w z => ∃ (j : Nat) (x : AV) (rows : List (List AV)), m = vn - j ∧ j ≤ vn ∧ rows.length = j ∧ HR ns.length ns z rows ∧ OL (FR ns.length rows) 1 z x rows ∧ 0 < z.length ∧ z[0]? = some (.arr 3 A true) ∧ w 1 = .op 0 3 0 0 ∧ w 3 = x ∧ w 4 = .int .i64 j) vn ⟨0, .nils, [], rfl, by omega, rfl, fun i row h => by simp at h, OL.nil, by simp, rfl, ?_, ?_, ?_⟩ ?_
  rotate_right
  all_goals (try (simp (maxSteps := 4000000) only [↓packA, ↓reduceIte, packB, pureOp, quietOp, loadOp, quietB, fr0, cellsK, implies_true, ite_true, ite_false, eq_self, ne_eq, reduceCtorEq, Nat.reduceLT, Nat.reduceLeDiff, Nat.reduceAdd, Nat.reduceMul, Nat.reduceBEq, Nat.reduceEqDiff, Int.reduceToNat, Int.reduceLT, Int.reduceLE, Nat.reduceSub, pl19, ft1, ft3, ft4, ft22, ft23, ft25, ft44, ft57, ft61, ft63, ft70, Int.natCast_zero, concA, Int.reduceAdd, Int.reduceSub, Int.reduceNeg, Int.reduceMul, Int.reduceEq, Int.reduceBEq, Int.reduceBNe]; done))
  rintro m w z ⟨j, x, rows, rfl, hj, hrl, hH, hO, hzl, h0, a1, a3, a4⟩
  by_cases c : j < vn
  · have q1 : (j : Int) < vars := by omega
    obtain ⟨M, hM⟩ : ∃ M, z.length = M := ⟨_, rfl⟩
    have tM := tailR hM
    have r0 : ∀ t, (z ++ t)[0]? = some (.arr 3 A true) := fun t => by rw [List.getElem?_append_left hzl]; exact h0
    simp (maxSteps := 4000000) only [↓packA, ↓reduceIte, packB, pureOp, quietOp, loadOp, quietB, fr0, cellsK, implies_true, ite_true, ite_false, eq_self, ne_eq, reduceCtorEq, Nat.reduceLT, Nat.reduceLeDiff, Nat.reduceAdd, Nat.reduceMul, Nat.reduceBEq, Nat.reduceEqDiff, Int.reduceToNat, Int.reduceLT, Int.reduceLE, Nat.reduceSub, pl19, ft1, ft3, ft4, ft22, ft23, ft25, ft44, ft57, ft61, ft63, ft70, a1, a3, a4, q1, hM, tM, h0, r0, hA0, List.length_map, concA, Int.reduceAdd, Int.reduceSub, Int.reduceNeg, Int.reduceMul, Int.reduceEq, Int.reduceBEq, Int.reduceBNe]
    refine ⟨by omega, ?_⟩
    refine LoopK.intro (fun m w y => ∃ (v : Nat) (S : List Bool), m = ns.length - v ∧ v ≤ ns.length ∧ SW j ns S v ∧ M < y.length ∧ (∀ i, i < M → y[i]? = z[i]?) ∧ y[M]? = some (.arr 1 (List.map boolE S) true) ∧ w 1 = .op 0 3 0 0 ∧ w 3 = x ∧ w 4 = .int .i64 j ∧ w 5 = .osl M 1 0 ns.length ns.length true ∧ w 6 = .int .i64 v) ns.length ⟨0, _, rfl, by omega, SW.start, by simp; omega, fun i hi => List.getElem?_append_left (by omega), tM.1 _, ?_, ?_, ?_, ?_, ?_⟩ ?_
    rotate_right
    all_goals (try (simp (maxSteps := 4000000) only [↓packA, ↓reduceIte, packB, pureOp, quietOp, loadOp, quietB, fr0, cellsK, implies_true, ite_true, ite_false, eq_self, ne_eq, reduceCtorEq, Nat.reduceLT, Nat.reduceLeDiff, Nat.reduceAdd, Nat.reduceMul, Nat.reduceBEq, Nat.reduceEqDiff, Int.reduceToNat, Int.reduceLT, Int.reduceLE, Nat.reduceSub, pl19, ft1, ft3, ft4, ft22, ft23, ft25, ft44, ft57, ft61, ft63, ft70, a1, a3, a4, Int.natCast_zero, concA, Int.reduceAdd, Int.reduceSub, Int.reduceNeg, Int.reduceMul, Int.reduceEq, Int.reduceBEq, Int.reduceBNe]; done))
    clear a1 a4
    rintro m w y ⟨v, S, rfl, hv, hS, hyl, hy, hM1, a1, a3', a4, a5, a6⟩
    have hy0 : y[0]? = some (.arr 3 A true) := by rw [hy 0 (by omega)]; exact h0
    by_cases c2 : v < ns.length
    · have q2 : (v : Int) < (ns.length : Int) := by omega
      obtain ⟨n, hn⟩ : ∃ n, ns[v]? = some n := ⟨_, List.getElem?_eq_getElem c2⟩
      have rk : (List.map Nd.cells ns)[v]? = some (Nd.cells n) := by rw [List.getElem?_map, hn]; rfl
      have hnv := hat v n hn
      have hSl := hS.1
      obtain ⟨N, hN⟩ : ∃ N, y.length = N := ⟨_, rfl⟩
      have tN := tailR hN
      have y0 : ∀ t, (y ++ t)[0]? = some (.arr 3 A true) := fun t => by rw [List.getElem?_append_left (by omega)]; exact hy0
      have yM : ∀ t, (y ++ t)[M]? = some (.arr 1 (List.map boolE S) true) := fun t => by rw [List.getElem?_append_left hyl]; exact hM1
      have ysM : ∀ t o, (y ++ t).set M o = y.set M o ++ t := fun t o => List.set_append_left _ _ hyl
      have tNs : ∀ o t, (y.set M o ++ t)[N]? = t[0]? := fun o t => gR0 (by simpa using hN) t
      have hrow := bool_row (l := S) (i := v) (by omega)
      have hnp : (nops n).length ≤ 2 := by
        unfold nops
        split
        · simp
        · split <;> simp
      by_cases o1 : n.op = 1
      all_goals
        simp (maxSteps := 4000000) only [↓packA, ↓reduceIte, packB, pureOp, quietOp, loadOp, quietB, fr0, cellsK, implies_true, ite_true, ite_false, eq_self, ne_eq, reduceCtorEq, Nat.reduceLT, Nat.reduceLeDiff, Nat.reduceAdd, Nat.reduceMul, Nat.reduceBEq, Nat.reduceEqDiff, Int.reduceToNat, Int.reduceLT, Int.reduceLE, Nat.reduceSub, pl19, ft1, ft3, ft4, ft22, ft23, ft25, ft44, ft57, ft61, ft63, ft70, a1, a3', a4, a5, a6, q2, rk, hN, tN, y0, yM, ysM, tNs, hy0, hA0, hrow, o1, bool_setN, Nd.cells, List.length_map, patch, patch', concA, Int.reduceAdd, Int.reduceSub, Int.reduceNeg, Int.reduceMul, Int.reduceEq, Int.reduceBEq, Int.reduceBNe]
        refine ⟨by omega, by omega, ?_⟩
        have hr := rops_o n
        unfold Nd.V Nd.cells at hr
        (try rw [o1] at hr)
        refine acalls_fresh hr (.cons (.pure _ rfl) .nil) fun u hx hz => ⟨_, hz, ?_⟩
        simp (maxSteps := 4000000) only [↓packA, ↓reduceIte, packB, pureOp, quietOp, loadOp, quietB, fr0, cellsK, implies_true, ite_true, ite_false, eq_self, ne_eq, reduceCtorEq, Nat.reduceLT, Nat.reduceLeDiff, Nat.reduceAdd, Nat.reduceMul, Nat.reduceBEq, Nat.reduceEqDiff, Int.reduceToNat, Int.reduceLT, Int.reduceLE, Nat.reduceSub, pl19, ft1, ft3, ft4, ft22, ft23, ft25, ft44, ft57, ft61, ft63, ft70, a1, a3', a4, a5, a6, ints, concA, Int.reduceAdd, Int.reduceSub, Int.reduceNeg, Int.reduceMul, Int.reduceEq, Int.reduceBEq, Int.reduceBNe]
        first
          | rw [show (n.a == (j : Int)) = decide (n.op = 1 ∧ n.a = j) from by rw [Bool.eq_iff_iff]; simp [o1]]
          | rw [show S.set v false = S.set v (decide (n.op = 1 ∧ n.a = j)) from by simp [o1]]
        refine LoopK.intro (fun m w y' => ∃ (p : Nat) (S' : List Bool), m = (nops n).length - p ∧ p ≤ (nops n).length ∧ S'.length = ns.length ∧ (∀ i, i < v → S'.getD i false = S.getD i false) ∧ S'.getD v false = hfold S ((nops n).take p) (decide (n.op = 1 ∧ n.a = j)) ∧ M < y'.length ∧ (∀ i, i < M → y'[i]? = z[i]?) ∧ y'[M]? = some (.arr 1 (List.map boolE S') true) ∧ w 1 = .op 0 3 0 0 ∧ w 3 = x ∧ w 4 = .int .i64 j ∧ w 5 = .osl M 1 0 ns.length ns.length true ∧ w 6 = .int .i64 v ∧ w 8 = ints (nops n) ∧ w 9 = .int .i64 p) (nops n).length ⟨0, S.set v (decide (n.op = 1 ∧ n.a = j)), rfl, by omega, by rw [List.length_set]; exact hSl, fun i hi => getD_setBn (by omega), getD_setB (by omega), by simp; omega, fun i hi => by rw [List.getElem?_append_left (by simp; omega), List.getElem?_set_ne (by omega)]; exact hy i hi, by rw [List.getElem?_append_left (by simp; omega), List.getElem?_set_self hyl], ?_, ?_, ?_, ?_, ?_, ?_, ?_⟩ ?_
        rotate_right
        all_goals (try (simp (maxSteps := 4000000) only [↓packA, ↓reduceIte, packB, pureOp, quietOp, loadOp, quietB, fr0, cellsK, implies_true, ite_true, ite_false, eq_self, ne_eq, reduceCtorEq, Nat.reduceLT, Nat.reduceLeDiff, Nat.reduceAdd, Nat.reduceMul, Nat.reduceBEq, Nat.reduceEqDiff, Int.reduceToNat, Int.reduceLT, Int.reduceLE, Nat.reduceSub, pl19, ft1, ft3, ft4, ft22, ft23, ft25, ft44, ft57, ft61, ft63, ft70, a1, a3', a4, a5, a6, ints, Int.natCast_zero, concA, Int.reduceAdd, Int.reduceSub, Int.reduceNeg, Int.reduceMul, Int.reduceEq, Int.reduceBEq, Int.reduceBNe]; done))
        clear hrow tN y0 yM ysM tNs
        rintro m w y' ⟨p, S', rfl, hp, hSl', hlt', hat', hyl', hy', hM', a1, a3', a4, a5, a6, a8, a9⟩
        by_cases cp : p < (nops n).length
        · have qp : (p : Int) < ((nops n).length : Int) := by omega
          have ek : (nops n)[p]? = some (nops n)[p] := List.getElem?_eq_getElem cp
          have hx := nops_lt hnv (nops n)[p] (List.getElem_mem cp)
          have eg : (nops n).getD p default = (nops n)[p] := by rw [List.getD_eq_getElem?_getD, ek]; rfl
          have hrow := bool_row (l := S') (i := v) (by omega)
          have hrow2 := bool_row (l := S') (i := (nops n)[p].toNat) (by omega)
          cases hb : S'.getD v false with
          | true =>
            rw [hb] at hrow
            simp (maxSteps := 4000000) only [↓packA, ↓reduceIte, packB, pureOp, quietOp, loadOp, quietB, fr0, cellsK, implies_true, ite_true, ite_false, eq_self, ne_eq, reduceCtorEq, Nat.reduceLT, Nat.reduceLeDiff, Nat.reduceAdd, Nat.reduceMul, Nat.reduceBEq, Nat.reduceEqDiff, Int.reduceToNat, Int.reduceLT, Int.reduceLE, Nat.reduceSub, pl19, ft1, ft3, ft4, ft22, ft23, ft25, ft44, ft57, ft61, ft63, ft70, ints, a1, a3', a4, a5, a6, a8, a9, qp, eg, hrow, hM', bool_setN, List.length_map, concA, Int.reduceAdd, Int.reduceSub, Int.reduceNeg, Int.reduceMul, Int.reduceEq, Int.reduceBEq, Int.reduceBNe]
            refine ⟨by omega, by omega, by omega, .inl ⟨(nops n).length - (p + 1), by omega, p + 1, S'.set v true, rfl, by omega, by rw [List.length_set]; exact hSl', fun i hi => by rw [getD_setBn (by omega)]; exact hlt' i hi, ?_, hyl', fun i hi => by rw [List.getElem?_set_ne (by omega)]; exact hy' i hi, by rw [List.getElem?_set_self hyl'], by omega⟩⟩
            rw [getD_setB (by omega), hfold_take ek, ← hat', hb]
            rfl
          | false =>
            rw [hb] at hrow
            simp (maxSteps := 4000000) only [↓packA, ↓reduceIte, packB, pureOp, quietOp, loadOp, quietB, fr0, cellsK, implies_true, ite_true, ite_false, eq_self, ne_eq, reduceCtorEq, Nat.reduceLT, Nat.reduceLeDiff, Nat.reduceAdd, Nat.reduceMul, Nat.reduceBEq, Nat.reduceEqDiff, Int.reduceToNat, Int.reduceLT, Int.reduceLE, Nat.reduceSub, pl19, ft1, ft3, ft4, ft22, ft23, ft25, ft44, ft57, ft61, ft63, ft70, ints, a1, a3', a4, a5, a6, a8, a9, qp, eg, hrow, hrow2, hM', bool_setN, List.length_map, concA, Int.reduceAdd, Int.reduceSub, Int.reduceNeg, Int.reduceMul, Int.reduceEq, Int.reduceBEq, Int.reduceBNe]
            refine ⟨by omega, by omega, cp, by omega, by omega, by omega, .inl ⟨(nops n).length - (p + 1), by omega, p + 1, S'.set v (S'.getD (nops n)[p].toNat false), rfl, by omega, by rw [List.length_set]; exact hSl', fun i hi => by rw [getD_setBn (by omega)]; exact hlt' i hi, ?_, hyl', fun i hi => by rw [List.getElem?_set_ne (by omega)]; exact hy' i hi, by rw [List.getElem?_set_self hyl'], by omega⟩⟩
            rw [getD_setB (by omega), hfold_take ek, ← hat', hb, hlt' _ (by omega)]
            rfl
        · have qp : ¬ (p : Int) < ((nops n).length : Int) := by omega
          obtain rfl : p = (nops n).length := by omega
          rw [List.take_length] at hat'
          simp (maxSteps := 4000000) only [↓packA, ↓reduceIte, packB, pureOp, quietOp, loadOp, quietB, fr0, cellsK, implies_true, ite_true, ite_false, eq_self, ne_eq, reduceCtorEq, Nat.reduceLT, Nat.reduceLeDiff, Nat.reduceAdd, Nat.reduceMul, Nat.reduceBEq, Nat.reduceEqDiff, Int.reduceToNat, Int.reduceLT, Int.reduceLE, Nat.reduceSub, pl19, ft1, ft3, ft4, ft22, ft23, ft25, ft44, ft57, ft61, ft63, ft70, ints, a1, a3', a4, a5, a6, a8, a9, qp, concA, Int.reduceAdd, Int.reduceSub, Int.reduceNeg, Int.reduceMul, Int.reduceEq, Int.reduceBEq, Int.reduceBNe]
          exact ⟨by omega, .inl ⟨ns.length - (v + 1), by omega, v + 1, S', rfl, by omega, hS.step hn hnv hSl' hlt' hat', hyl', hy', hM', by omega⟩⟩
    · have q2 : ¬ (v : Int) < (ns.length : Int) := by omega
      obtain rfl : v = ns.length := by omega
      obtain ⟨N, hN⟩ : ∃ N, y.length = N := ⟨_, rfl⟩
      have tN := tailR hN
      simp (maxSteps := 4000000) only [↓packA, ↓reduceIte, packB, pureOp, quietOp, loadOp, quietB, fr0, cellsK, implies_true, ite_true, ite_false, eq_self, ne_eq, reduceCtorEq, Nat.reduceLT, Nat.reduceLeDiff, Nat.reduceAdd, Nat.reduceMul, Nat.reduceBEq, Nat.reduceEqDiff, Int.reduceToNat, Int.reduceLT, Int.reduceLE, Nat.reduceSub, pl19, ft1, ft3, ft4, ft22, ft23, ft25, ft44, ft57, ft61, ft63, ft70, a1, a3', a4, a5, a6, q2, hN, tN, hy0, hA0, List.length_map, concA, Int.reduceAdd, Int.reduceSub, Int.reduceNeg, Int.reduceMul, Int.reduceEq, Int.reduceBEq, Int.reduceBNe]
      have hFM : ∀ id, FR ns.length rows id → id < M := fun id hi => by rw [← hM]; exact hH.lt hzl id hi
      have hOy : OL (fun i => FR ns.length rows i ∨ i = M) 1 y x rows := hO.keep fun id _ hlt hn => ⟨fun e => by
        rcases e with e | e
        · exact hn e
        · omega, hy id (by omega)⟩
      refine ol_push (F := fun i => FR ns.length rows i ∨ i = M) 1 rfl rfl (fun i hi => ?_) hOy.app (by rw [hrl]; omega) fun x' y' ⟨xi, xc, xe, hx', _⟩ hO' hl' _ hF' => ?_
      · rw [List.length_append]
        rcases hi with hi | rfl
        · have := hFM i hi; omega
        · omega
      subst hx'
      have hyM : y'[M]? = some (.arr 1 (List.map boolE S) true) := by rw [hF' M (.inr rfl), List.getElem?_append_left hyl]; exact hM1
      rw [hS.done] at hyM
      have hFR : ∀ id, FR ns.length (rows ++ [[AV.osl M 1 0 ns.length ns.length true]]) id → FR ns.length rows id ∨ id = M := fun id hi => by
        rcases hi with hi | hi
        · exact .inl (.inl hi)
        · rcases List.mem_append.1 hi with h1 | h1
          · exact .inl (.inr h1)
          · simp at h1; exact .inr h1
      simp (maxSteps := 4000000) only [↓packA, ↓reduceIte, packB, pureOp, quietOp, loadOp, quietB, fr0, cellsK, implies_true, ite_true, ite_false, eq_self, ne_eq, reduceCtorEq, Nat.reduceLT, Nat.reduceLeDiff, Nat.reduceAdd, Nat.reduceMul, Nat.reduceBEq, Nat.reduceEqDiff, Int.reduceToNat, Int.reduceLT, Int.reduceLE, Nat.reduceSub, pl19, ft1, ft3, ft4, ft22, ft23, ft25, ft44, ft57, ft61, ft63, ft70, a1, a3', a4, a5, a6, concA, Int.reduceAdd, Int.reduceSub, Int.reduceNeg, Int.reduceMul, Int.reduceEq, Int.reduceBEq, Int.reduceBNe]
      refine ⟨by omega, .inl ⟨vn - (j + 1), by omega, j + 1, _, _, rfl, by omega, by simp [hrl], fun i row hr => ?_, hO'.weak hFR, ?_, ?_, ?_, by omega⟩⟩
      · by_cases ci : i < rows.length
        · rw [List.getElem?_append_left ci] at hr
          obtain ⟨id, e, hz⟩ := hH i row hr
          subst e
          have hF : FR ns.length rows id := .inr (List.mem_of_getElem? hr)
          have := hFM id hF
          exact ⟨id, rfl, by rw [hF' id (.inl hF), List.getElem?_append_left (by omega), hy id this]; exact hz⟩
        · rw [List.getElem?_append_right (by omega)] at hr
          have hil := (List.getElem?_eq_some_iff.1 hr).1
          simp at hil
          obtain rfl : i = rows.length := by omega
          rw [Nat.sub_self] at hr
          simp at hr
          exact ⟨M, hr.symm, by rw [hrl]; exact hyM⟩
      · simp at hl'; omega
      · rw [hF' 0 (.inl (.inl rfl)), List.getElem?_append_left (by omega)]; exact hy0
      · rw [hrl]
  · have q1 : ¬ (j : Int) < vars := by omega
    obtain rfl : j = vn := by omega
    simp (maxSteps := 4000000) only [↓packA, ↓reduceIte, packB, pureOp, quietOp, loadOp, quietB, fr0, cellsK, implies_true, ite_true, ite_false, eq_self, ne_eq, reduceCtorEq, Nat.reduceLT, Nat.reduceLeDiff, Nat.reduceAdd, Nat.reduceMul, Nat.reduceBEq, Nat.reduceEqDiff, Int.reduceToNat, Int.reduceLT, Int.reduceLE, Nat.reduceSub, pl19, ft1, ft3, ft4, ft22, ft23, ft25, ft44, ft57, ft61, ft63, ft70, a1, a3, a4, q1, h0, hA0, List.length_map, concA, Int.reduceAdd, Int.reduceSub, Int.reduceNeg, Int.reduceMul, Int.reduceEq, Int.reduceBEq, Int.reduceBNe]
    unfold hangV
    rw [hvn, Int.toNat_natCast]
    refine hO.frz (by simp [hrl]) fun i e e' he he' => ?_
    have hi := (List.getElem?_eq_some_iff.1 he).1
    obtain ⟨id, rfl, hz⟩ := hH i e he
    rw [List.getElem?_map, List.getElem?_range (by omega)] at he'
    obtain rfl := Option.some.inj he'
    refine ⟨rfl, fun q u u' hu hu' => ?_⟩
    cases q with
    | zero =>
      simp at hu hu'
      subst hu hu'
      have hll : (hangs i ns).length = ns.length := walkL_len ns
      exact Frz.whole hz (fun e he => by obtain ⟨b, _, rfl⟩ := List.mem_map.1 he; rfl) (by simp [hll])
    | succ q => simp at hu
end Go.Proofs.YtclbobielhllmaaGreat
end
section
namespace Go.Proofs.YtclbobielhllmaaGreat
open Go Go.AL
set_option linter.unusedVariables false
set_option linter.unusedSimpArgs false
theorem deg1 {fr : Int → Bool} {d : List Int} {n : Nd} (h : n.op = 1) : degN fr d n = 1 := if_pos h
theorem deg2 {fr : Int → Bool} {d : List Int} {n : Nd} (h : n.op = 2 ∨ (n.op = 8 ∧ n.c = 0)) : degN fr d n = 0 := by
  unfold degN
  rw [if_neg (by omega), if_pos h]
theorem degU {fr : Int → Bool} {d : List Int} {n : Nd} (h1 : ¬ n.op = 1) (h2 : ¬ (n.op = 2 ∨ (n.op = 8 ∧ n.c = 0))) (h : gD d n.a = -1 ∨ (two n.op = true ∧ gD d n.b = -1)) : degN fr d n = -1 := by
  unfold degN
  rw [if_neg h1, if_neg h2, if_pos h]
theorem degV {fr : Int → Bool} {d : List Int} {n : Nd} (h1 : ¬ n.op = 1) (h2 : ¬ (n.op = 2 ∨ (n.op = 8 ∧ n.c = 0))) (h : ¬ (gD d n.a = -1 ∨ (two n.op = true ∧ gD d n.b = -1))) : degN fr d n = if n.op = 7 then gD d n.a else if n.op = 5 then min (gD d n.a + gD d n.b) 1099511627776 else if n.op = 6 then (if fr n.b = true then gD d n.a else -1) else
  if n.op = 8 then (if 0 < n.c then min (n.c * gD d n.a) 1099511627776 else if fr n.a = true then 0 else -1) else max (gD d n.a) (gD d n.b) := by
  conv => lhs; unfold degN
  rw [if_neg h1, if_neg h2, if_neg h]
theorem mul_bound {c x : Int} (h1 : -1024 ≤ c ∧ c ≤ 1024) (h2 : 0 ≤ x ∧ x ≤ 1099511627776) : -9223372036854775808 ≤ c * x ∧ c * x ≤ 9223372036854775807 := by
  have a1 : c * x ≤ 1024 * x := Int.mul_le_mul_of_nonneg_right h1.2 h2.1
  have a2 : -1024 * x ≤ c * x := Int.mul_le_mul_of_nonneg_right h1.1 h2.1
  omega
theorem min2 {x y : Int} {K : AV → Prop} : minK imin [AV.int IntKind.i64 x, AV.int IntKind.i64 y] K = K (.int .i64 (min x y)) := by
  have : imin x y = min x y := by unfold imin; split <;> omega
  simp [minK, mins, this]
theorem max2 {x y : Int} {K : AV → Prop} : minK imax [AV.int IntKind.i64 x, AV.int IntKind.i64 y] K = K (.int .i64 (max x y)) := by
  have : imax x y = max x y := by unfold imax; split <;> omega
  simp [minK, mins, this]
set_option maxHeartbeats 8000000 in
set_option maxRecDepth 100000 in
theorem degp_c (t : Tp) (hg : t.Good) (n : Nd) (k : Nat) (hn : NdAt t.vars k n) (hk : k < t.ns.length) (hc : n.op = 8 → -1024 ≤ n.c ∧ n.c ≤ 1024) (d : List Int) (hd : d.length = k) (hok : ∀ k, okD (gD d k)) : APure Tryz.prog 14 [walkV t, n.V, ints d] (.int .i64 (degN (frB (msks t.ns)) d n)) := by
  refine apure_of (wp14 rfl rfl ?_)
  have hpo := pops_o n
  have hxa := hok n.a
  have hxb := hok n.b
  have hfa := free_c t hg n.a
  have hfb := free_c t hg n.b
  unfold okD at hxa hxb
  have ga : d.getD n.a.toNat default = gD d n.a := rfl
  have gb : d.getD n.b.toNat default = gD d n.b := rfl
  unfold walkV at hfa hfb
  by_cases o1 : n.op = 1
  · rw [deg1 o1]
    simp (maxSteps := 4000000) only [↓packA, ↓reduceIte, packB, pureOp, quietOp, loadOp, quietB, fr0, cellsK, implies_true, ite_true, ite_false, eq_self, ne_eq, reduceCtorEq, Nat.reduceLT, Nat.reduceLeDiff, Nat.reduceAdd, Nat.reduceMul, Nat.reduceBEq, Nat.reduceEqDiff, Int.reduceToNat, Int.reduceLT, Int.reduceLE, Nat.reduceSub, pl14, ft1, ft2, ft3, ft4, ft23, ft54, ft57, ft61, ft63, ft96, Nd.V, Nd.cells, o1, concA, Int.reduceAdd, Int.reduceSub, Int.reduceNeg, Int.reduceMul, Int.reduceEq, Int.reduceBEq, Int.reduceBNe]
    exact .pure _ rfl
  by_cases o2 : n.op = 2
  · rw [deg2 (.inl o2)]
    simp (maxSteps := 4000000) only [↓packA, ↓reduceIte, packB, pureOp, quietOp, loadOp, quietB, fr0, cellsK, implies_true, ite_true, ite_false, eq_self, ne_eq, reduceCtorEq, Nat.reduceLT, Nat.reduceLeDiff, Nat.reduceAdd, Nat.reduceMul, Nat.reduceBEq, Nat.reduceEqDiff, Int.reduceToNat, Int.reduceLT, Int.reduceLE, Nat.reduceSub, pl14, ft1, ft2, ft3, ft4, ft23, ft54, ft57, ft61, ft63, ft96, Nd.V, Nd.cells, o2, concA, Int.reduceAdd, Int.reduceSub, Int.reduceNeg, Int.reduceMul, Int.reduceEq, Int.reduceBEq, Int.reduceBNe]
    exact .pure _ rfl
  have hop := hn.op
  have ha := hn.a (by omega)
  unfold Nd.V Nd.cells at hpo
  by_cases h2 : two n.op = true
  · have hb := hn.b h2
    rw [nops_two h2] at hpo
    have ht : n.op = 3 ∨ n.op = 4 ∨ n.op = 5 ∨ n.op = 6 := of_decide_eq_true h2
    have n8 : ¬ n.op = 8 := by omega
    have hU := @degU (frB (msks t.ns)) d n o1 (by omega)
    have hV := @degV (frB (msks t.ns)) d n o1 (by omega)
    simp (maxSteps := 4000000) only [↓packA, ↓reduceIte, packB, pureOp, quietOp, loadOp, quietB, fr0, cellsK, implies_true, ite_true, ite_false, eq_self, ne_eq, reduceCtorEq, Nat.reduceLT, Nat.reduceLeDiff, Nat.reduceAdd, Nat.reduceMul, Nat.reduceBEq, Nat.reduceEqDiff, Int.reduceToNat, Int.reduceLT, Int.reduceLE, Nat.reduceSub, pl14, ft1, ft2, ft3, ft4, ft23, ft54, ft57, ft61, ft63, ft96, Nd.V, Nd.cells, o1, o2, n8, concA, Int.reduceAdd, Int.reduceSub, Int.reduceNeg, Int.reduceMul, Int.reduceEq, Int.reduceBEq, Int.reduceBNe]
    refine acalls_fresh hpo (.cons (.pure _ rfl) .nil) fun u hx hz => ⟨_, hz, ?_⟩
    simp (maxSteps := 4000000) only [↓packA, ↓reduceIte, packB, pureOp, quietOp, loadOp, quietB, fr0, cellsK, implies_true, ite_true, ite_false, eq_self, ne_eq, reduceCtorEq, Nat.reduceLT, Nat.reduceLeDiff, Nat.reduceAdd, Nat.reduceMul, Nat.reduceBEq, Nat.reduceEqDiff, Int.reduceToNat, Int.reduceLT, Int.reduceLE, Nat.reduceSub, pl14, ft1, ft2, ft3, ft4, ft23, ft54, ft57, ft61, ft63, ft96, ints, List.map_cons, List.map_nil, concA, Int.reduceAdd, Int.reduceSub, Int.reduceNeg, Int.reduceMul, Int.reduceEq, Int.reduceBEq, Int.reduceBNe]
    refine LoopN.loop 3 ?_
    by_cases cx : gD d n.a = -1
    · rw [hU (.inl cx)]
      simp (maxSteps := 4000000) only [↓packA, ↓reduceIte, packB, pureOp, quietOp, loadOp, quietB, fr0, cellsK, implies_true, ite_true, ite_false, eq_self, ne_eq, reduceCtorEq, Nat.reduceLT, Nat.reduceLeDiff, Nat.reduceAdd, Nat.reduceMul, Nat.reduceBEq, Nat.reduceEqDiff, Int.reduceToNat, Int.reduceLT, Int.reduceLE, Nat.reduceSub, pl14, ft1, ft2, ft3, ft4, ft23, ft54, ft57, ft61, ft63, ft96, ints, List.map_cons, List.map_nil, ga, cx, ↓LoopN_succ, concA, Int.reduceAdd, Int.reduceSub, Int.reduceNeg, Int.reduceMul, Int.reduceEq, Int.reduceBEq, Int.reduceBNe]
      exact ⟨by omega, by omega, .pure _ rfl⟩
    · by_cases cy : gD d n.b = -1
      · rw [hU (.inr ⟨h2, cy⟩)]
        simp (maxSteps := 4000000) only [↓packA, ↓reduceIte, packB, pureOp, quietOp, loadOp, quietB, fr0, cellsK, implies_true, ite_true, ite_false, eq_self, ne_eq, reduceCtorEq, Nat.reduceLT, Nat.reduceLeDiff, Nat.reduceAdd, Nat.reduceMul, Nat.reduceBEq, Nat.reduceEqDiff, Int.reduceToNat, Int.reduceLT, Int.reduceLE, Nat.reduceSub, pl14, ft1, ft2, ft3, ft4, ft23, ft54, ft57, ft61, ft63, ft96, ints, List.map_cons, List.map_nil, ga, cx, gb, cy, ↓LoopN_succ, concA, Int.reduceAdd, Int.reduceSub, Int.reduceNeg, Int.reduceMul, Int.reduceEq, Int.reduceBEq, Int.reduceBNe]
        exact ⟨by omega, by omega, by omega, by omega, .pure _ rfl⟩
      · have hV2 := hV (by rintro (e | ⟨_, e⟩); exact cx e; exact cy e)
        rw [hV2]
        have n7 : ¬ n.op = 7 := by omega
        by_cases n5 : n.op = 5
        · rw [if_neg n7, if_pos n5]
          simp (maxSteps := 4000000) only [↓packA, ↓reduceIte, packB, pureOp, quietOp, loadOp, quietB, fr0, cellsK, implies_true, ite_true, ite_false, eq_self, ne_eq, reduceCtorEq, Nat.reduceLT, Nat.reduceLeDiff, Nat.reduceAdd, Nat.reduceMul, Nat.reduceBEq, Nat.reduceEqDiff, Int.reduceToNat, Int.reduceLT, Int.reduceLE, Nat.reduceSub, pl14, ft1, ft2, ft3, ft4, ft23, ft54, ft57, ft61, ft63, ft96, ints, List.map_cons, List.map_nil, ga, cx, gb, cy, n5, min2, ↓LoopN_succ, concA, Int.reduceAdd, Int.reduceSub, Int.reduceNeg, Int.reduceMul, Int.reduceEq, Int.reduceBEq, Int.reduceBNe]
          exact ⟨by omega, by omega, by omega, by omega, by omega, by omega, by omega, by omega, by omega, .pure _ rfl⟩
        · by_cases n6 : n.op = 6
          · rw [if_neg n7, if_neg n5, if_pos n6]
            have hfb' := hfb (by omega)
            cases hfr : frB (msks t.ns) n.b with
            | false =>
              rw [hfr] at hfb'
              simp (maxSteps := 4000000) only [↓packA, ↓reduceIte, packB, pureOp, quietOp, loadOp, quietB, fr0, cellsK, implies_true, ite_true, ite_false, eq_self, ne_eq, reduceCtorEq, Nat.reduceLT, Nat.reduceLeDiff, Nat.reduceAdd, Nat.reduceMul, Nat.reduceBEq, Nat.reduceEqDiff, Int.reduceToNat, Int.reduceLT, Int.reduceLE, Nat.reduceSub, pl14, ft1, ft2, ft3, ft4, ft23, ft54, ft57, ft61, ft63, ft96, walkV, ints, List.map_cons, List.map_nil, ga, cx, gb, cy, n6, ↓LoopN_succ, concA, Int.reduceAdd, Int.reduceSub, Int.reduceNeg, Int.reduceMul, Int.reduceEq, Int.reduceBEq, Int.reduceBNe]
              refine ⟨by omega, by omega, by omega, by omega, ?_⟩
              refine acalls_pure hfb' rfl ?_
              simp (maxSteps := 4000000) only [↓packA, ↓reduceIte, packB, pureOp, quietOp, loadOp, quietB, fr0, cellsK, implies_true, ite_true, ite_false, eq_self, ne_eq, reduceCtorEq, Nat.reduceLT, Nat.reduceLeDiff, Nat.reduceAdd, Nat.reduceMul, Nat.reduceBEq, Nat.reduceEqDiff, Int.reduceToNat, Int.reduceLT, Int.reduceLE, Nat.reduceSub, pl14, ft1, ft2, ft3, ft4, ft23, ft54, ft57, ft61, ft63, ft96, concA, Int.reduceAdd, Int.reduceSub, Int.reduceNeg, Int.reduceMul, Int.reduceEq, Int.reduceBEq, Int.reduceBNe]
              exact .pure _ rfl
            | true =>
              rw [hfr] at hfb'
              simp (maxSteps := 4000000) only [↓packA, ↓reduceIte, packB, pureOp, quietOp, loadOp, quietB, fr0, cellsK, implies_true, ite_true, ite_false, eq_self, ne_eq, reduceCtorEq, Nat.reduceLT, Nat.reduceLeDiff, Nat.reduceAdd, Nat.reduceMul, Nat.reduceBEq, Nat.reduceEqDiff, Int.reduceToNat, Int.reduceLT, Int.reduceLE, Nat.reduceSub, pl14, ft1, ft2, ft3, ft4, ft23, ft54, ft57, ft61, ft63, ft96, walkV, ints, List.map_cons, List.map_nil, ga, cx, gb, cy, n6, ↓LoopN_succ, concA, Int.reduceAdd, Int.reduceSub, Int.reduceNeg, Int.reduceMul, Int.reduceEq, Int.reduceBEq, Int.reduceBNe]
              refine ⟨by omega, by omega, by omega, by omega, ?_⟩
              refine acalls_pure hfb' rfl ?_
              simp (maxSteps := 4000000) only [↓packA, ↓reduceIte, packB, pureOp, quietOp, loadOp, quietB, fr0, cellsK, implies_true, ite_true, ite_false, eq_self, ne_eq, reduceCtorEq, Nat.reduceLT, Nat.reduceLeDiff, Nat.reduceAdd, Nat.reduceMul, Nat.reduceBEq, Nat.reduceEqDiff, Int.reduceToNat, Int.reduceLT, Int.reduceLE, Nat.reduceSub, pl14, ft1, ft2, ft3, ft4, ft23, ft54, ft57, ft61, ft63, ft96, ints, ga, concA, Int.reduceAdd, Int.reduceSub, Int.reduceNeg, Int.reduceMul, Int.reduceEq, Int.reduceBEq, Int.reduceBNe]
              exact ⟨by omega, by omega, .pure _ rfl⟩
          · rw [if_neg n7, if_neg n5, if_neg n6, if_neg n8]
            simp (maxSteps := 4000000) only [↓packA, ↓reduceIte, packB, pureOp, quietOp, loadOp, quietB, fr0, cellsK, implies_true, ite_true, ite_false, eq_self, ne_eq, reduceCtorEq, Nat.reduceLT, Nat.reduceLeDiff, Nat.reduceAdd, Nat.reduceMul, Nat.reduceBEq, Nat.reduceEqDiff, Int.reduceToNat, Int.reduceLT, Int.reduceLE, Nat.reduceSub, pl14, ft1, ft2, ft3, ft4, ft23, ft54, ft57, ft61, ft63, ft96, ints, List.map_cons, List.map_nil, ga, cx, gb, cy, n5, n6, n7, n8, max2, ↓LoopN_succ, concA, Int.reduceAdd, Int.reduceSub, Int.reduceNeg, Int.reduceMul, Int.reduceEq, Int.reduceBEq, Int.reduceBNe]
            exact ⟨by omega, by omega, by omega, by omega, by omega, by omega, by omega, by omega, .pure _ rfl⟩
  · have h2' := two_not h2
    have h1 : one n.op = true := decide_eq_true (by omega)
    rw [nops_onef h2 h1] at hpo
    have n5 : ¬ n.op = 5 := by omega
    have n6 : ¬ n.op = 6 := by omega
    by_cases o8 : n.op = 8
    · have hc' := hc o8
      by_cases c0 : n.c = 0
      · rw [deg2 (.inr ⟨o8, c0⟩)]
        simp (maxSteps := 4000000) only [↓packA, ↓reduceIte, packB, pureOp, quietOp, loadOp, quietB, fr0, cellsK, implies_true, ite_true, ite_false, eq_self, ne_eq, reduceCtorEq, Nat.reduceLT, Nat.reduceLeDiff, Nat.reduceAdd, Nat.reduceMul, Nat.reduceBEq, Nat.reduceEqDiff, Int.reduceToNat, Int.reduceLT, Int.reduceLE, Nat.reduceSub, pl14, ft1, ft2, ft3, ft4, ft23, ft54, ft57, ft61, ft63, ft96, Nd.V, Nd.cells, o8, c0, concA, Int.reduceAdd, Int.reduceSub, Int.reduceNeg, Int.reduceMul, Int.reduceEq, Int.reduceBEq, Int.reduceBNe]
        exact .pure _ rfl
      · have hU := @degU (frB (msks t.ns)) d n o1 (by omega)
        have hV := @degV (frB (msks t.ns)) d n o1 (by omega)
        rw [o8] at hpo
        simp (maxSteps := 4000000) only [↓packA, ↓reduceIte, packB, pureOp, quietOp, loadOp, quietB, fr0, cellsK, implies_true, ite_true, ite_false, eq_self, ne_eq, reduceCtorEq, Nat.reduceLT, Nat.reduceLeDiff, Nat.reduceAdd, Nat.reduceMul, Nat.reduceBEq, Nat.reduceEqDiff, Int.reduceToNat, Int.reduceLT, Int.reduceLE, Nat.reduceSub, pl14, ft1, ft2, ft3, ft4, ft23, ft54, ft57, ft61, ft63, ft96, Nd.V, Nd.cells, o8, c0, concA, Int.reduceAdd, Int.reduceSub, Int.reduceNeg, Int.reduceMul, Int.reduceEq, Int.reduceBEq, Int.reduceBNe]
        refine acalls_fresh hpo (.cons (.pure _ rfl) .nil) fun u hx hz => ⟨_, hz, ?_⟩
        simp (maxSteps := 4000000) only [↓packA, ↓reduceIte, packB, pureOp, quietOp, loadOp, quietB, fr0, cellsK, implies_true, ite_true, ite_false, eq_self, ne_eq, reduceCtorEq, Nat.reduceLT, Nat.reduceLeDiff, Nat.reduceAdd, Nat.reduceMul, Nat.reduceBEq, Nat.reduceEqDiff, Int.reduceToNat, Int.reduceLT, Int.reduceLE, Nat.reduceSub, pl14, ft1, ft2, ft3, ft4, ft23, ft54, ft57, ft61, ft63, ft96, ints, List.map_cons, List.map_nil, concA, Int.reduceAdd, Int.reduceSub, Int.reduceNeg, Int.reduceMul, Int.reduceEq, Int.reduceBEq, Int.reduceBNe]
        refine LoopN.loop 2 ?_
        by_cases cx : gD d n.a = -1
        · rw [hU (.inl cx)]
          simp (maxSteps := 4000000) only [↓packA, ↓reduceIte, packB, pureOp, quietOp, loadOp, quietB, fr0, cellsK, implies_true, ite_true, ite_false, eq_self, ne_eq, reduceCtorEq, Nat.reduceLT, Nat.reduceLeDiff, Nat.reduceAdd, Nat.reduceMul, Nat.reduceBEq, Nat.reduceEqDiff, Int.reduceToNat, Int.reduceLT, Int.reduceLE, Nat.reduceSub, pl14, ft1, ft2, ft3, ft4, ft23, ft54, ft57, ft61, ft63, ft96, ints, List.map_cons, List.map_nil, ga, cx, ↓LoopN_succ, concA, Int.reduceAdd, Int.reduceSub, Int.reduceNeg, Int.reduceMul, Int.reduceEq, Int.reduceBEq, Int.reduceBNe]
          exact ⟨by omega, by omega, .pure _ rfl⟩
        · have hV2 := hV (by rintro (e | ⟨e, _⟩); exact cx e; exact h2 e)
          rw [hV2, if_neg (by omega), if_neg n5, if_neg n6, if_pos o8]
          by_cases cp : 0 < n.c
          · rw [if_pos cp]
            have cp' : n.c > 0 := cp
            have hmb := mul_bound hc' (x := gD d n.a) (by omega)
            simp (maxSteps := 4000000) only [↓packA, ↓reduceIte, packB, pureOp, quietOp, loadOp, quietB, fr0, cellsK, implies_true, ite_true, ite_false, eq_self, ne_eq, reduceCtorEq, Nat.reduceLT, Nat.reduceLeDiff, Nat.reduceAdd, Nat.reduceMul, Nat.reduceBEq, Nat.reduceEqDiff, Int.reduceToNat, Int.reduceLT, Int.reduceLE, Nat.reduceSub, pl14, ft1, ft2, ft3, ft4, ft23, ft54, ft57, ft61, ft63, ft96, ints, List.map_cons, List.map_nil, ga, cx, cp', cp, min2, ↓LoopN_succ, concA, Int.reduceAdd, Int.reduceSub, Int.reduceNeg, Int.reduceMul, Int.reduceEq, Int.reduceBEq, Int.reduceBNe]
            exact ⟨by omega, by omega, by omega, by omega, hmb, .pure _ rfl⟩
          · rw [if_neg cp]
            have cp' : ¬ n.c > 0 := cp
            have hfa' := hfa (by omega)
            cases hfr : frB (msks t.ns) n.a with
            | false =>
              rw [hfr] at hfa'
              simp (maxSteps := 4000000) only [↓packA, ↓reduceIte, packB, pureOp, quietOp, loadOp, quietB, fr0, cellsK, implies_true, ite_true, ite_false, eq_self, ne_eq, reduceCtorEq, Nat.reduceLT, Nat.reduceLeDiff, Nat.reduceAdd, Nat.reduceMul, Nat.reduceBEq, Nat.reduceEqDiff, Int.reduceToNat, Int.reduceLT, Int.reduceLE, Nat.reduceSub, pl14, ft1, ft2, ft3, ft4, ft23, ft54, ft57, ft61, ft63, ft96, walkV, ints, List.map_cons, List.map_nil, ga, cx, cp', cp, ↓LoopN_succ, concA, Int.reduceAdd, Int.reduceSub, Int.reduceNeg, Int.reduceMul, Int.reduceEq, Int.reduceBEq, Int.reduceBNe]
              refine ⟨by omega, by omega, ?_⟩
              refine acalls_pure hfa' rfl ?_
              simp (maxSteps := 4000000) only [↓packA, ↓reduceIte, packB, pureOp, quietOp, loadOp, quietB, fr0, cellsK, implies_true, ite_true, ite_false, eq_self, ne_eq, reduceCtorEq, Nat.reduceLT, Nat.reduceLeDiff, Nat.reduceAdd, Nat.reduceMul, Nat.reduceBEq, Nat.reduceEqDiff, Int.reduceToNat, Int.reduceLT, Int.reduceLE, Nat.reduceSub, pl14, ft1, ft2, ft3, ft4, ft23, ft54, ft57, ft61, ft63, ft96, concA, Int.reduceAdd, Int.reduceSub, Int.reduceNeg, Int.reduceMul, Int.reduceEq, Int.reduceBEq, Int.reduceBNe]
              exact .pure _ rfl
            | true =>
              rw [hfr] at hfa'
              simp (maxSteps := 4000000) only [↓packA, ↓reduceIte, packB, pureOp, quietOp, loadOp, quietB, fr0, cellsK, implies_true, ite_true, ite_false, eq_self, ne_eq, reduceCtorEq, Nat.reduceLT, Nat.reduceLeDiff, Nat.reduceAdd, Nat.reduceMul, Nat.reduceBEq, Nat.reduceEqDiff, Int.reduceToNat, Int.reduceLT, Int.reduceLE, Nat.reduceSub, pl14, ft1, ft2, ft3, ft4, ft23, ft54, ft57, ft61, ft63, ft96, walkV, ints, List.map_cons, List.map_nil, ga, cx, cp', cp, ↓LoopN_succ, concA, Int.reduceAdd, Int.reduceSub, Int.reduceNeg, Int.reduceMul, Int.reduceEq, Int.reduceBEq, Int.reduceBNe]
              refine ⟨by omega, by omega, ?_⟩
              refine acalls_pure hfa' rfl ?_
              simp (maxSteps := 4000000) only [↓packA, ↓reduceIte, packB, pureOp, quietOp, loadOp, quietB, fr0, cellsK, implies_true, ite_true, ite_false, eq_self, ne_eq, reduceCtorEq, Nat.reduceLT, Nat.reduceLeDiff, Nat.reduceAdd, Nat.reduceMul, Nat.reduceBEq, Nat.reduceEqDiff, Int.reduceToNat, Int.reduceLT, Int.reduceLE, Nat.reduceSub, pl14, ft1, ft2, ft3, ft4, ft23, ft54, ft57, ft61, ft63, ft96, concA, Int.reduceAdd, Int.reduceSub, Int.reduceNeg, Int.reduceMul, Int.reduceEq, Int.reduceBEq, Int.reduceBNe]
              exact .pure _ rfl
    · have o7 : n.op = 7 := by omega
      have hU := @degU (frB (msks t.ns)) d n o1 (by omega)
      have hV := @degV (frB (msks t.ns)) d n o1 (by omega)
      rw [o7] at hpo
      simp (maxSteps := 4000000) only [↓packA, ↓reduceIte, packB, pureOp, quietOp, loadOp, quietB, fr0, cellsK, implies_true, ite_true, ite_false, eq_self, ne_eq, reduceCtorEq, Nat.reduceLT, Nat.reduceLeDiff, Nat.reduceAdd, Nat.reduceMul, Nat.reduceBEq, Nat.reduceEqDiff, Int.reduceToNat, Int.reduceLT, Int.reduceLE, Nat.reduceSub, pl14, ft1, ft2, ft3, ft4, ft23, ft54, ft57, ft61, ft63, ft96, Nd.V, Nd.cells, o7, concA, Int.reduceAdd, Int.reduceSub, Int.reduceNeg, Int.reduceMul, Int.reduceEq, Int.reduceBEq, Int.reduceBNe]
      refine acalls_fresh hpo (.cons (.pure _ rfl) .nil) fun u hx hz => ⟨_, hz, ?_⟩
      simp (maxSteps := 4000000) only [↓packA, ↓reduceIte, packB, pureOp, quietOp, loadOp, quietB, fr0, cellsK, implies_true, ite_true, ite_false, eq_self, ne_eq, reduceCtorEq, Nat.reduceLT, Nat.reduceLeDiff, Nat.reduceAdd, Nat.reduceMul, Nat.reduceBEq, Nat.reduceEqDiff, Int.reduceToNat, Int.reduceLT, Int.reduceLE, Nat.reduceSub, pl14, ft1, ft2, ft3, ft4, ft23, ft54, ft57, ft61, ft63, ft96, ints, List.map_cons, List.map_nil, concA, Int.reduceAdd, Int.reduceSub, Int.reduceNeg, Int.reduceMul, Int.reduceEq, Int.reduceBEq, Int.reduceBNe]
      refine LoopN.loop 2 ?_
      by_cases cx : gD d n.a = -1
      · rw [hU (.inl cx)]
        simp (maxSteps := 4000000) only [↓packA, ↓reduceIte, packB, pureOp, quietOp, loadOp, quietB, fr0, cellsK, implies_true, ite_true, ite_false, eq_self, ne_eq, reduceCtorEq, Nat.reduceLT, Nat.reduceLeDiff, Nat.reduceAdd, Nat.reduceMul, Nat.reduceBEq, Nat.reduceEqDiff, Int.reduceToNat, Int.reduceLT, Int.reduceLE, Nat.reduceSub, pl14, ft1, ft2, ft3, ft4, ft23, ft54, ft57, ft61, ft63, ft96, ints, List.map_cons, List.map_nil, ga, cx, ↓LoopN_succ, concA, Int.reduceAdd, Int.reduceSub, Int.reduceNeg, Int.reduceMul, Int.reduceEq, Int.reduceBEq, Int.reduceBNe]
        exact ⟨by omega, by omega, .pure _ rfl⟩
      · have hV2 := hV (by rintro (e | ⟨e, _⟩); exact cx e; exact h2 e)
        rw [hV2, if_pos o7]
        simp (maxSteps := 4000000) only [↓packA, ↓reduceIte, packB, pureOp, quietOp, loadOp, quietB, fr0, cellsK, implies_true, ite_true, ite_false, eq_self, ne_eq, reduceCtorEq, Nat.reduceLT, Nat.reduceLeDiff, Nat.reduceAdd, Nat.reduceMul, Nat.reduceBEq, Nat.reduceEqDiff, Int.reduceToNat, Int.reduceLT, Int.reduceLE, Nat.reduceSub, pl14, ft1, ft2, ft3, ft4, ft23, ft54, ft57, ft61, ft63, ft96, ints, List.map_cons, List.map_nil, ga, cx, ↓LoopN_succ, concA, Int.reduceAdd, Int.reduceSub, Int.reduceNeg, Int.reduceMul, Int.reduceEq, Int.reduceBEq, Int.reduceBNe]
        exact ⟨by omega, by omega, by omega, by omega, .pure _ rfl⟩
end Go.Proofs.YtclbobielhllmaaGreat
end
section
namespace Go.Proofs.YtclbobielhllmaaGreat
open Go Go.AL
set_option linter.unusedVariables false
set_option linter.unusedSimpArgs false
set_option maxHeartbeats 1000000 in
set_option maxRecDepth 100000 in
theorem rfree_c (t : Tp) (hg : t.Good) (k : Int) (hk : 0 ≤ k ∧ k < t.ns.length) : APure Tryz.prog 27 [hangV t.vars t.ns, .int .i64 k] (.bool (frB (msks t.ns) k)) := by
  refine apure_of (wp27 rfl rfl ?_)
  obtain ⟨vn, hvn⟩ := Int.eq_ofNat_of_zero_le hg.vars.1
  have hfi := free_iff hg.at_ k.toNat
  have hv64 := hg.vars.2
  unfold hangV
  rw [hvn, Int.toNat_natCast] at *
  simp (maxSteps := 4000000) only [↓packA, ↓reduceIte, packB, pureOp, quietOp, loadOp, quietB, fr0, cellsK, implies_true, ite_true, ite_false, eq_self, ne_eq, reduceCtorEq, Nat.reduceLT, Nat.reduceLeDiff, Nat.reduceAdd, Nat.reduceMul, Nat.reduceBEq, Nat.reduceEqDiff, Int.reduceToNat, Int.reduceLT, Int.reduceLE, Nat.reduceSub, pl27, ft3, ft4, ft44, ft70, concA, Int.reduceAdd, Int.reduceSub, Int.reduceNeg, Int.reduceMul, Int.reduceEq, Int.reduceBEq, Int.reduceBNe]
  refine LoopK.intro (fun m w z => ∃ j : Nat, m = vn - j ∧ j ≤ vn ∧ (∀ i, i < j → (hangs i t.ns).getD k.toNat false = false) ∧ w 0 = .isl 1 ((List.range vn).map fun j => [bools (hangs j t.ns)]) ∧ w 1 = .int .i64 k ∧ w 5 = .int .i64 j) vn ⟨0, rfl, by omega, fun i hi => by omega, ?_, ?_, ?_⟩ ?_
  rotate_right
  all_goals (try (simp (maxSteps := 4000000) only [↓packA, ↓reduceIte, packB, pureOp, quietOp, loadOp, quietB, fr0, cellsK, implies_true, ite_true, ite_false, eq_self, ne_eq, reduceCtorEq, Nat.reduceLT, Nat.reduceLeDiff, Nat.reduceAdd, Nat.reduceMul, Nat.reduceBEq, Nat.reduceEqDiff, Int.reduceToNat, Int.reduceLT, Int.reduceLE, Nat.reduceSub, pl27, ft3, ft4, ft44, ft70, Int.natCast_zero, concA, Int.reduceAdd, Int.reduceSub, Int.reduceNeg, Int.reduceMul, Int.reduceEq, Int.reduceBEq, Int.reduceBNe]; done))
  rintro m w z ⟨j, rfl, hj, hall, a0, a1, a5⟩
  by_cases c : j < vn
  · have q1 : (j : Int) < (vn : Int) := by omega
    have rj : ((List.range vn).map fun j => [bools (hangs j t.ns)])[j]? = some [.isl 1 (List.map boolE (hangs j t.ns))] := by rw [List.getElem?_map, List.getElem?_range c]; rfl
    have hll : (hangs j t.ns).length = t.ns.length := walkL_len _
    have hrow := bool_row (l := hangs j t.ns) (i := k.toNat) (by omega)
    cases hb : (hangs j t.ns).getD k.toNat false with
    | true =>
      rw [hb] at hrow
      have hfr : frB (msks t.ns) k = false := by
        unfold frB
        rw [decide_eq_false]
        intro e
        have := hfi.1 e j c
        rw [hb] at this
        cases this
      rw [hfr]
      simp (maxSteps := 4000000) only [↓packA, ↓reduceIte, packB, pureOp, quietOp, loadOp, quietB, fr0, cellsK, implies_true, ite_true, ite_false, eq_self, ne_eq, reduceCtorEq, Nat.reduceLT, Nat.reduceLeDiff, Nat.reduceAdd, Nat.reduceMul, Nat.reduceBEq, Nat.reduceEqDiff, Int.reduceToNat, Int.reduceLT, Int.reduceLE, Nat.reduceSub, pl27, ft3, ft4, ft44, ft70, a0, a1, a5, q1, rj, hrow, hll, List.length_map, List.length_range, concA, Int.reduceAdd, Int.reduceSub, Int.reduceNeg, Int.reduceMul, Int.reduceEq, Int.reduceBEq, Int.reduceBNe]
      exact ⟨by omega, by omega, .pure _ rfl⟩
    | false =>
      rw [hb] at hrow
      simp (maxSteps := 4000000) only [↓packA, ↓reduceIte, packB, pureOp, quietOp, loadOp, quietB, fr0, cellsK, implies_true, ite_true, ite_false, eq_self, ne_eq, reduceCtorEq, Nat.reduceLT, Nat.reduceLeDiff, Nat.reduceAdd, Nat.reduceMul, Nat.reduceBEq, Nat.reduceEqDiff, Int.reduceToNat, Int.reduceLT, Int.reduceLE, Nat.reduceSub, pl27, ft3, ft4, ft44, ft70, a0, a1, a5, q1, rj, hrow, hll, List.length_map, List.length_range, concA, Int.reduceAdd, Int.reduceSub, Int.reduceNeg, Int.reduceMul, Int.reduceEq, Int.reduceBEq, Int.reduceBNe]
      exact ⟨by omega, by omega, by omega, .inl ⟨vn - (j + 1), by omega, j + 1, rfl, by omega, fun i hi => by
        by_cases e : i = j
        · subst e; exact hb
        · exact hall i (by omega), by omega⟩⟩
  · have q1 : ¬ (j : Int) < (vn : Int) := by omega
    obtain rfl : j = vn := by omega
    have hfr : frB (msks t.ns) k = true := decide_eq_true (hfi.2 hall)
    rw [hfr]
    simp (maxSteps := 4000000) only [↓packA, ↓reduceIte, packB, pureOp, quietOp, loadOp, quietB, fr0, cellsK, implies_true, ite_true, ite_false, eq_self, ne_eq, reduceCtorEq, Nat.reduceLT, Nat.reduceLeDiff, Nat.reduceAdd, Nat.reduceMul, Nat.reduceBEq, Nat.reduceEqDiff, Int.reduceToNat, Int.reduceLT, Int.reduceLE, Nat.reduceSub, pl27, ft3, ft4, ft44, ft70, a0, a1, a5, q1, List.length_map, List.length_range, concA, Int.reduceAdd, Int.reduceSub, Int.reduceNeg, Int.reduceMul, Int.reduceEq, Int.reduceBEq, Int.reduceBNe]
    exact .pure _ rfl
set_option maxRecDepth 100000 in
theorem capped_c (x : Int) : APure Tryz.prog 42 [.int .i64 x] (.int .i64 (min x 1099511627776)) := by
  refine apure_of (wp42 rfl rfl ?_)
  by_cases c : x > 1099511627776
  · rw [show min x 1099511627776 = 1099511627776 by omega]
    simp (maxSteps := 4000000) only [↓packA, ↓reduceIte, packB, pureOp, quietOp, loadOp, quietB, fr0, cellsK, implies_true, ite_true, ite_false, eq_self, ne_eq, reduceCtorEq, Nat.reduceLT, Nat.reduceLeDiff, Nat.reduceAdd, Nat.reduceMul, Nat.reduceBEq, Nat.reduceEqDiff, Int.reduceToNat, Int.reduceLT, Int.reduceLE, Nat.reduceSub, pl42, ft3, c, concA, Int.reduceAdd, Int.reduceSub, Int.reduceNeg, Int.reduceMul, Int.reduceEq, Int.reduceBEq, Int.reduceBNe]
    exact .pure _ rfl
  · rw [show min x 1099511627776 = x by omega]
    simp (maxSteps := 4000000) only [↓packA, ↓reduceIte, packB, pureOp, quietOp, loadOp, quietB, fr0, cellsK, implies_true, ite_true, ite_false, eq_self, ne_eq, reduceCtorEq, Nat.reduceLT, Nat.reduceLeDiff, Nat.reduceAdd, Nat.reduceMul, Nat.reduceBEq, Nat.reduceEqDiff, Int.reduceToNat, Int.reduceLT, Int.reduceLE, Nat.reduceSub, pl42, ft3, c, concA, Int.reduceAdd, Int.reduceSub, Int.reduceNeg, Int.reduceMul, Int.reduceEq, Int.reduceBEq, Int.reduceBNe]
    exact .pure _ rfl
set_option maxHeartbeats 8000000 in
set_option maxRecDepth 100000 in
theorem degr_c (t : Tp) (hg : t.Good) (n : Nd) (k : Nat) (hn : NdAt t.vars k n) (hk : k < t.ns.length) (hc : n.op = 8 → -1024 ≤ n.c ∧ n.c ≤ 1024) (d : List Int) (hd : d.length = k) (hok : ∀ k, okD (gD d k)) : APure Tryz.prog 20 [n.V, hangV t.vars t.ns, ints d] (.int .i64 (degN (frB (msks t.ns)) d n)) := by
  refine apure_of (wp20 rfl rfl ?_)
  have hpo := rops_o n
  have hxa := hok n.a
  have hxb := hok n.b
  have hfa := rfree_c t hg n.a
  have hfb := rfree_c t hg n.b
  unfold okD at hxa hxb
  have ga : d.getD n.a.toNat default = gD d n.a := rfl
  have gb : d.getD n.b.toNat default = gD d n.b := rfl
  have hop := hn.op
  unfold Nd.V Nd.cells at hpo
  by_cases h2 : two n.op = true
  · have ha := hn.a (two_ge h2).1
    have hb := hn.b h2
    rw [nops_two h2] at hpo
    have ht : n.op = 3 ∨ n.op = 4 ∨ n.op = 5 ∨ n.op = 6 := of_decide_eq_true h2
    have n8 : ¬ n.op = 8 := by omega
    have n7 : ¬ n.op = 7 := by omega
    have o1 : ¬ n.op = 1 := by omega
    have hU := @degU (frB (msks t.ns)) d n o1 (by omega)
    have hV := @degV (frB (msks t.ns)) d n o1 (by omega)
    simp (maxSteps := 4000000) only [↓packA, ↓reduceIte, packB, pureOp, quietOp, loadOp, quietB, fr0, cellsK, implies_true, ite_true, ite_false, eq_self, ne_eq, reduceCtorEq, Nat.reduceLT, Nat.reduceLeDiff, Nat.reduceAdd, Nat.reduceMul, Nat.reduceBEq, Nat.reduceEqDiff, Int.reduceToNat, Int.reduceLT, Int.reduceLE, Nat.reduceSub, pl20, ft1, ft2, ft3, ft4, ft23, ft44, ft57, ft61, ft63, ft70, Nd.V, Nd.cells, concA, Int.reduceAdd, Int.reduceSub, Int.reduceNeg, Int.reduceMul, Int.reduceEq, Int.reduceBEq, Int.reduceBNe]
    refine acalls_fresh hpo (.cons (.pure _ rfl) .nil) fun u hx hz => ⟨_, hz, ?_⟩
    by_cases cx : gD d n.a = -1
    · rw [hU (.inl cx)]
      simp (maxSteps := 4000000) only [↓packA, ↓reduceIte, packB, pureOp, quietOp, loadOp, quietB, fr0, cellsK, implies_true, ite_true, ite_false, eq_self, ne_eq, reduceCtorEq, Nat.reduceLT, Nat.reduceLeDiff, Nat.reduceAdd, Nat.reduceMul, Nat.reduceBEq, Nat.reduceEqDiff, Int.reduceToNat, Int.reduceLT, Int.reduceLE, Nat.reduceSub, pl20, ft1, ft2, ft3, ft4, ft23, ft44, ft57, ft61, ft63, ft70, Nd.V, Nd.cells, ints, List.map_cons, List.map_nil, ga, gb, cx, n8, concA, Int.reduceAdd, Int.reduceSub, Int.reduceNeg, Int.reduceMul, Int.reduceEq, Int.reduceBEq, Int.reduceBNe]
      exact ⟨by omega, by omega, by omega, by omega, .pure _ rfl⟩
    · by_cases cy : gD d n.b = -1
      · rw [hU (.inr ⟨h2, cy⟩)]
        simp (maxSteps := 4000000) only [↓packA, ↓reduceIte, packB, pureOp, quietOp, loadOp, quietB, fr0, cellsK, implies_true, ite_true, ite_false, eq_self, ne_eq, reduceCtorEq, Nat.reduceLT, Nat.reduceLeDiff, Nat.reduceAdd, Nat.reduceMul, Nat.reduceBEq, Nat.reduceEqDiff, Int.reduceToNat, Int.reduceLT, Int.reduceLE, Nat.reduceSub, pl20, ft1, ft2, ft3, ft4, ft23, ft44, ft57, ft61, ft63, ft70, Nd.V, Nd.cells, ints, List.map_cons, List.map_nil, ga, gb, cx, cy, n8, concA, Int.reduceAdd, Int.reduceSub, Int.reduceNeg, Int.reduceMul, Int.reduceEq, Int.reduceBEq, Int.reduceBNe]
        exact ⟨by omega, by omega, by omega, by omega, .pure _ rfl⟩
      · have hV2 := hV (by rintro (e | ⟨_, e⟩); exact cx e; exact cy e)
        rw [hV2, if_neg n7]
        by_cases n5 : n.op = 5
        · rw [if_pos n5]
          simp (maxSteps := 4000000) only [↓packA, ↓reduceIte, packB, pureOp, quietOp, loadOp, quietB, fr0, cellsK, implies_true, ite_true, ite_false, eq_self, ne_eq, reduceCtorEq, Nat.reduceLT, Nat.reduceLeDiff, Nat.reduceAdd, Nat.reduceMul, Nat.reduceBEq, Nat.reduceEqDiff, Int.reduceToNat, Int.reduceLT, Int.reduceLE, Nat.reduceSub, pl20, ft1, ft2, ft3, ft4, ft23, ft44, ft57, ft61, ft63, ft70, Nd.V, Nd.cells, ints, List.map_cons, List.map_nil, ga, gb, cx, cy, n5, concA, Int.reduceAdd, Int.reduceSub, Int.reduceNeg, Int.reduceMul, Int.reduceEq, Int.reduceBEq, Int.reduceBNe]
          refine ⟨by omega, by omega, by omega, by omega, by omega, acalls_pure (capped_c _) rfl ?_⟩
          simp (maxSteps := 4000000) only [↓packA, ↓reduceIte, packB, pureOp, quietOp, loadOp, quietB, fr0, cellsK, implies_true, ite_true, ite_false, eq_self, ne_eq, reduceCtorEq, Nat.reduceLT, Nat.reduceLeDiff, Nat.reduceAdd, Nat.reduceMul, Nat.reduceBEq, Nat.reduceEqDiff, Int.reduceToNat, Int.reduceLT, Int.reduceLE, Nat.reduceSub, pl20, ft1, ft2, ft3, ft4, ft23, ft44, ft57, ft61, ft63, ft70, concA, Int.reduceAdd, Int.reduceSub, Int.reduceNeg, Int.reduceMul, Int.reduceEq, Int.reduceBEq, Int.reduceBNe]
          exact .pure _ rfl
        · by_cases n6 : n.op = 6
          · rw [if_neg n5, if_pos n6]
            have hfb' := hfb (by omega)
            cases hfr : frB (msks t.ns) n.b with
            | false =>
              rw [hfr] at hfb'
              simp (maxSteps := 4000000) only [↓packA, ↓reduceIte, packB, pureOp, quietOp, loadOp, quietB, fr0, cellsK, implies_true, ite_true, ite_false, eq_self, ne_eq, reduceCtorEq, Nat.reduceLT, Nat.reduceLeDiff, Nat.reduceAdd, Nat.reduceMul, Nat.reduceBEq, Nat.reduceEqDiff, Int.reduceToNat, Int.reduceLT, Int.reduceLE, Nat.reduceSub, pl20, ft1, ft2, ft3, ft4, ft23, ft44, ft57, ft61, ft63, ft70, Nd.V, Nd.cells, ints, List.map_cons, List.map_nil, ga, gb, cx, cy, n6, concA, Int.reduceAdd, Int.reduceSub, Int.reduceNeg, Int.reduceMul, Int.reduceEq, Int.reduceBEq, Int.reduceBNe]
              refine ⟨by omega, by omega, by omega, by omega, acalls_pure hfb' rfl ?_⟩
              simp (maxSteps := 4000000) only [↓packA, ↓reduceIte, packB, pureOp, quietOp, loadOp, quietB, fr0, cellsK, implies_true, ite_true, ite_false, eq_self, ne_eq, reduceCtorEq, Nat.reduceLT, Nat.reduceLeDiff, Nat.reduceAdd, Nat.reduceMul, Nat.reduceBEq, Nat.reduceEqDiff, Int.reduceToNat, Int.reduceLT, Int.reduceLE, Nat.reduceSub, pl20, ft1, ft2, ft3, ft4, ft23, ft44, ft57, ft61, ft63, ft70, concA, Int.reduceAdd, Int.reduceSub, Int.reduceNeg, Int.reduceMul, Int.reduceEq, Int.reduceBEq, Int.reduceBNe]
              exact .pure _ rfl
            | true =>
              rw [hfr] at hfb'
              simp (maxSteps := 4000000) only [↓packA, ↓reduceIte, packB, pureOp, quietOp, loadOp, quietB, fr0, cellsK, implies_true, ite_true, ite_false, eq_self, ne_eq, reduceCtorEq, Nat.reduceLT, Nat.reduceLeDiff, Nat.reduceAdd, Nat.reduceMul, Nat.reduceBEq, Nat.reduceEqDiff, Int.reduceToNat, Int.reduceLT, Int.reduceLE, Nat.reduceSub, pl20, ft1, ft2, ft3, ft4, ft23, ft44, ft57, ft61, ft63, ft70, Nd.V, Nd.cells, ints, List.map_cons, List.map_nil, ga, gb, cx, cy, n6, concA, Int.reduceAdd, Int.reduceSub, Int.reduceNeg, Int.reduceMul, Int.reduceEq, Int.reduceBEq, Int.reduceBNe]
              refine ⟨by omega, by omega, by omega, by omega, acalls_pure hfb' rfl ?_⟩
              simp (maxSteps := 4000000) only [↓packA, ↓reduceIte, packB, pureOp, quietOp, loadOp, quietB, fr0, cellsK, implies_true, ite_true, ite_false, eq_self, ne_eq, reduceCtorEq, Nat.reduceLT, Nat.reduceLeDiff, Nat.reduceAdd, Nat.reduceMul, Nat.reduceBEq, Nat.reduceEqDiff, Int.reduceToNat, Int.reduceLT, Int.reduceLE, Nat.reduceSub, pl20, ft1, ft2, ft3, ft4, ft23, ft44, ft57, ft61, ft63, ft70, concA, Int.reduceAdd, Int.reduceSub, Int.reduceNeg, Int.reduceMul, Int.reduceEq, Int.reduceBEq, Int.reduceBNe]
              exact .pure _ rfl
          · rw [if_neg n5, if_neg n6, if_neg n8]
            have o34 : n.op = 3 ∨ n.op = 4 := by omega
            by_cases cm : gD d n.a > gD d n.b
            · rw [show max (gD d n.a) (gD d n.b) = gD d n.a by omega]
              rcases o34 with o3 | o3
              all_goals
                simp (maxSteps := 4000000) only [↓packA, ↓reduceIte, packB, pureOp, quietOp, loadOp, quietB, fr0, cellsK, implies_true, ite_true, ite_false, eq_self, ne_eq, reduceCtorEq, Nat.reduceLT, Nat.reduceLeDiff, Nat.reduceAdd, Nat.reduceMul, Nat.reduceBEq, Nat.reduceEqDiff, Int.reduceToNat, Int.reduceLT, Int.reduceLE, Nat.reduceSub, pl20, ft1, ft2, ft3, ft4, ft23, ft44, ft57, ft61, ft63, ft70, Nd.V, Nd.cells, ints, List.map_cons, List.map_nil, ga, gb, cx, cy, o3, cm, concA, Int.reduceAdd, Int.reduceSub, Int.reduceNeg, Int.reduceMul, Int.reduceEq, Int.reduceBEq, Int.reduceBNe]
                exact ⟨by omega, by omega, by omega, by omega, .pure _ rfl⟩
            · rw [show max (gD d n.a) (gD d n.b) = gD d n.b by omega]
              rcases o34 with o3 | o3
              all_goals
                simp (maxSteps := 4000000) only [↓packA, ↓reduceIte, packB, pureOp, quietOp, loadOp, quietB, fr0, cellsK, implies_true, ite_true, ite_false, eq_self, ne_eq, reduceCtorEq, Nat.reduceLT, Nat.reduceLeDiff, Nat.reduceAdd, Nat.reduceMul, Nat.reduceBEq, Nat.reduceEqDiff, Int.reduceToNat, Int.reduceLT, Int.reduceLE, Nat.reduceSub, pl20, ft1, ft2, ft3, ft4, ft23, ft44, ft57, ft61, ft63, ft70, Nd.V, Nd.cells, ints, List.map_cons, List.map_nil, ga, gb, cx, cy, o3, cm, concA, Int.reduceAdd, Int.reduceSub, Int.reduceNeg, Int.reduceMul, Int.reduceEq, Int.reduceBEq, Int.reduceBNe]
                exact ⟨by omega, by omega, by omega, by omega, .pure _ rfl⟩
  · have h2' := two_not h2
    by_cases h1 : one n.op = true
    · have ho := one_ge h1
      have ha := hn.a (by omega)
      rw [nops_onef h2 h1] at hpo
      have n5 : ¬ n.op = 5 := by omega
      have n6 : ¬ n.op = 6 := by omega
      have o1 : ¬ n.op = 1 := by omega
      have o3 : ¬ n.op = 3 := by omega
      have o4 : ¬ n.op = 4 := by omega
      simp (maxSteps := 4000000) only [↓packA, ↓reduceIte, packB, pureOp, quietOp, loadOp, quietB, fr0, cellsK, implies_true, ite_true, ite_false, eq_self, ne_eq, reduceCtorEq, Nat.reduceLT, Nat.reduceLeDiff, Nat.reduceAdd, Nat.reduceMul, Nat.reduceBEq, Nat.reduceEqDiff, Int.reduceToNat, Int.reduceLT, Int.reduceLE, Nat.reduceSub, pl20, ft1, ft2, ft3, ft4, ft23, ft44, ft57, ft61, ft63, ft70, Nd.V, Nd.cells, concA, Int.reduceAdd, Int.reduceSub, Int.reduceNeg, Int.reduceMul, Int.reduceEq, Int.reduceBEq, Int.reduceBNe]
      refine acalls_fresh hpo (.cons (.pure _ rfl) .nil) fun u hx hz => ⟨_, hz, ?_⟩
      by_cases o8 : n.op = 8
      · have hc' := hc o8
        by_cases c0 : n.c = 0
        · rw [deg2 (.inr ⟨o8, c0⟩)]
          simp (maxSteps := 4000000) only [↓packA, ↓reduceIte, packB, pureOp, quietOp, loadOp, quietB, fr0, cellsK, implies_true, ite_true, ite_false, eq_self, ne_eq, reduceCtorEq, Nat.reduceLT, Nat.reduceLeDiff, Nat.reduceAdd, Nat.reduceMul, Nat.reduceBEq, Nat.reduceEqDiff, Int.reduceToNat, Int.reduceLT, Int.reduceLE, Nat.reduceSub, pl20, ft1, ft2, ft3, ft4, ft23, ft44, ft57, ft61, ft63, ft70, Nd.V, Nd.cells, ints, List.map_cons, List.map_nil, ga, o8, c0, concA, Int.reduceAdd, Int.reduceSub, Int.reduceNeg, Int.reduceMul, Int.reduceEq, Int.reduceBEq, Int.reduceBNe]
          exact ⟨by omega, by omega, .pure _ rfl⟩
        · have hU := @degU (frB (msks t.ns)) d n o1 (by omega)
          have hV := @degV (frB (msks t.ns)) d n o1 (by omega)
          by_cases cx : gD d n.a = -1
          · rw [hU (.inl cx)]
            simp (maxSteps := 4000000) only [↓packA, ↓reduceIte, packB, pureOp, quietOp, loadOp, quietB, fr0, cellsK, implies_true, ite_true, ite_false, eq_self, ne_eq, reduceCtorEq, Nat.reduceLT, Nat.reduceLeDiff, Nat.reduceAdd, Nat.reduceMul, Nat.reduceBEq, Nat.reduceEqDiff, Int.reduceToNat, Int.reduceLT, Int.reduceLE, Nat.reduceSub, pl20, ft1, ft2, ft3, ft4, ft23, ft44, ft57, ft61, ft63, ft70, Nd.V, Nd.cells, ints, List.map_cons, List.map_nil, ga, cx, o8, c0, concA, Int.reduceAdd, Int.reduceSub, Int.reduceNeg, Int.reduceMul, Int.reduceEq, Int.reduceBEq, Int.reduceBNe]
            exact ⟨by omega, by omega, .pure _ rfl⟩
          · have hV2 := hV (by rintro (e | ⟨e, _⟩); exact cx e; exact h2 e)
            rw [hV2, if_neg (by omega), if_neg n5, if_neg n6, if_pos o8]
            by_cases cp : 0 < n.c
            · rw [if_pos cp]
              have cp' : n.c > 0 := cp
              have hmb := mul_bound hc' (x := gD d n.a) (by omega)
              simp (maxSteps := 4000000) only [↓packA, ↓reduceIte, packB, pureOp, quietOp, loadOp, quietB, fr0, cellsK, implies_true, ite_true, ite_false, eq_self, ne_eq, reduceCtorEq, Nat.reduceLT, Nat.reduceLeDiff, Nat.reduceAdd, Nat.reduceMul, Nat.reduceBEq, Nat.reduceEqDiff, Int.reduceToNat, Int.reduceLT, Int.reduceLE, Nat.reduceSub, pl20, ft1, ft2, ft3, ft4, ft23, ft44, ft57, ft61, ft63, ft70, Nd.V, Nd.cells, ints, List.map_cons, List.map_nil, ga, cx, o8, c0, cp', cp, concA, Int.reduceAdd, Int.reduceSub, Int.reduceNeg, Int.reduceMul, Int.reduceEq, Int.reduceBEq, Int.reduceBNe]
              refine ⟨by omega, by omega, hmb, acalls_pure (capped_c _) rfl ?_⟩
              simp (maxSteps := 4000000) only [↓packA, ↓reduceIte, packB, pureOp, quietOp, loadOp, quietB, fr0, cellsK, implies_true, ite_true, ite_false, eq_self, ne_eq, reduceCtorEq, Nat.reduceLT, Nat.reduceLeDiff, Nat.reduceAdd, Nat.reduceMul, Nat.reduceBEq, Nat.reduceEqDiff, Int.reduceToNat, Int.reduceLT, Int.reduceLE, Nat.reduceSub, pl20, ft1, ft2, ft3, ft4, ft23, ft44, ft57, ft61, ft63, ft70, concA, Int.reduceAdd, Int.reduceSub, Int.reduceNeg, Int.reduceMul, Int.reduceEq, Int.reduceBEq, Int.reduceBNe]
              exact .pure _ rfl
            · rw [if_neg cp]
              have cp' : ¬ n.c > 0 := cp
              have hfa' := hfa (by omega)
              cases hfr : frB (msks t.ns) n.a with
              | false =>
                rw [hfr] at hfa'
                simp (maxSteps := 4000000) only [↓packA, ↓reduceIte, packB, pureOp, quietOp, loadOp, quietB, fr0, cellsK, implies_true, ite_true, ite_false, eq_self, ne_eq, reduceCtorEq, Nat.reduceLT, Nat.reduceLeDiff, Nat.reduceAdd, Nat.reduceMul, Nat.reduceBEq, Nat.reduceEqDiff, Int.reduceToNat, Int.reduceLT, Int.reduceLE, Nat.reduceSub, pl20, ft1, ft2, ft3, ft4, ft23, ft44, ft57, ft61, ft63, ft70, Nd.V, Nd.cells, ints, List.map_cons, List.map_nil, ga, cx, o8, c0, cp', cp, concA, Int.reduceAdd, Int.reduceSub, Int.reduceNeg, Int.reduceMul, Int.reduceEq, Int.reduceBEq, Int.reduceBNe]
                refine ⟨by omega, by omega, acalls_pure hfa' rfl ?_⟩
                simp (maxSteps := 4000000) only [↓packA, ↓reduceIte, packB, pureOp, quietOp, loadOp, quietB, fr0, cellsK, implies_true, ite_true, ite_false, eq_self, ne_eq, reduceCtorEq, Nat.reduceLT, Nat.reduceLeDiff, Nat.reduceAdd, Nat.reduceMul, Nat.reduceBEq, Nat.reduceEqDiff, Int.reduceToNat, Int.reduceLT, Int.reduceLE, Nat.reduceSub, pl20, ft1, ft2, ft3, ft4, ft23, ft44, ft57, ft61, ft63, ft70, concA, Int.reduceAdd, Int.reduceSub, Int.reduceNeg, Int.reduceMul, Int.reduceEq, Int.reduceBEq, Int.reduceBNe]
                exact .pure _ rfl
              | true =>
                rw [hfr] at hfa'
                simp (maxSteps := 4000000) only [↓packA, ↓reduceIte, packB, pureOp, quietOp, loadOp, quietB, fr0, cellsK, implies_true, ite_true, ite_false, eq_self, ne_eq, reduceCtorEq, Nat.reduceLT, Nat.reduceLeDiff, Nat.reduceAdd, Nat.reduceMul, Nat.reduceBEq, Nat.reduceEqDiff, Int.reduceToNat, Int.reduceLT, Int.reduceLE, Nat.reduceSub, pl20, ft1, ft2, ft3, ft4, ft23, ft44, ft57, ft61, ft63, ft70, Nd.V, Nd.cells, ints, List.map_cons, List.map_nil, ga, cx, o8, c0, cp', cp, concA, Int.reduceAdd, Int.reduceSub, Int.reduceNeg, Int.reduceMul, Int.reduceEq, Int.reduceBEq, Int.reduceBNe]
                refine ⟨by omega, by omega, acalls_pure hfa' rfl ?_⟩
                simp (maxSteps := 4000000) only [↓packA, ↓reduceIte, packB, pureOp, quietOp, loadOp, quietB, fr0, cellsK, implies_true, ite_true, ite_false, eq_self, ne_eq, reduceCtorEq, Nat.reduceLT, Nat.reduceLeDiff, Nat.reduceAdd, Nat.reduceMul, Nat.reduceBEq, Nat.reduceEqDiff, Int.reduceToNat, Int.reduceLT, Int.reduceLE, Nat.reduceSub, pl20, ft1, ft2, ft3, ft4, ft23, ft44, ft57, ft61, ft63, ft70, concA, Int.reduceAdd, Int.reduceSub, Int.reduceNeg, Int.reduceMul, Int.reduceEq, Int.reduceBEq, Int.reduceBNe]
                exact .pure _ rfl
      · have o7 : n.op = 7 := by omega
        have hU := @degU (frB (msks t.ns)) d n o1 (by omega)
        have hV := @degV (frB (msks t.ns)) d n o1 (by omega)
        by_cases cx : gD d n.a = -1
        · rw [hU (.inl cx)]
          simp (maxSteps := 4000000) only [↓packA, ↓reduceIte, packB, pureOp, quietOp, loadOp, quietB, fr0, cellsK, implies_true, ite_true, ite_false, eq_self, ne_eq, reduceCtorEq, Nat.reduceLT, Nat.reduceLeDiff, Nat.reduceAdd, Nat.reduceMul, Nat.reduceBEq, Nat.reduceEqDiff, Int.reduceToNat, Int.reduceLT, Int.reduceLE, Nat.reduceSub, pl20, ft1, ft2, ft3, ft4, ft23, ft44, ft57, ft61, ft63, ft70, Nd.V, Nd.cells, ints, List.map_cons, List.map_nil, ga, cx, o7, concA, Int.reduceAdd, Int.reduceSub, Int.reduceNeg, Int.reduceMul, Int.reduceEq, Int.reduceBEq, Int.reduceBNe]
          exact ⟨by omega, by omega, .pure _ rfl⟩
        · have hV2 := hV (by rintro (e | ⟨e, _⟩); exact cx e; exact h2 e)
          rw [hV2, if_pos o7]
          simp (maxSteps := 4000000) only [↓packA, ↓reduceIte, packB, pureOp, quietOp, loadOp, quietB, fr0, cellsK, implies_true, ite_true, ite_false, eq_self, ne_eq, reduceCtorEq, Nat.reduceLT, Nat.reduceLeDiff, Nat.reduceAdd, Nat.reduceMul, Nat.reduceBEq, Nat.reduceEqDiff, Int.reduceToNat, Int.reduceLT, Int.reduceLE, Nat.reduceSub, pl20, ft1, ft2, ft3, ft4, ft23, ft44, ft57, ft61, ft63, ft70, Nd.V, Nd.cells, ints, List.map_cons, List.map_nil, ga, cx, o7, concA, Int.reduceAdd, Int.reduceSub, Int.reduceNeg, Int.reduceMul, Int.reduceEq, Int.reduceBEq, Int.reduceBNe]
          exact ⟨by omega, by omega, .pure _ rfl⟩
    · have ho := one_not h1
      rw [nops_none h2 h1] at hpo
      simp (maxSteps := 4000000) only [↓packA, ↓reduceIte, packB, pureOp, quietOp, loadOp, quietB, fr0, cellsK, implies_true, ite_true, ite_false, eq_self, ne_eq, reduceCtorEq, Nat.reduceLT, Nat.reduceLeDiff, Nat.reduceAdd, Nat.reduceMul, Nat.reduceBEq, Nat.reduceEqDiff, Int.reduceToNat, Int.reduceLT, Int.reduceLE, Nat.reduceSub, pl20, ft1, ft2, ft3, ft4, ft23, ft44, ft57, ft61, ft63, ft70, Nd.V, Nd.cells, concA, Int.reduceAdd, Int.reduceSub, Int.reduceNeg, Int.reduceMul, Int.reduceEq, Int.reduceBEq, Int.reduceBNe]
      refine acalls_fresh hpo (.cons (.pure _ rfl) .nil) fun u hx hz => ⟨_, hz, ?_⟩
      by_cases o1 : n.op = 1
      · rw [deg1 o1]
        simp (maxSteps := 4000000) only [↓packA, ↓reduceIte, packB, pureOp, quietOp, loadOp, quietB, fr0, cellsK, implies_true, ite_true, ite_false, eq_self, ne_eq, reduceCtorEq, Nat.reduceLT, Nat.reduceLeDiff, Nat.reduceAdd, Nat.reduceMul, Nat.reduceBEq, Nat.reduceEqDiff, Int.reduceToNat, Int.reduceLT, Int.reduceLE, Nat.reduceSub, pl20, ft1, ft2, ft3, ft4, ft23, ft44, ft57, ft61, ft63, ft70, Nd.V, Nd.cells, ints, List.map_nil, o1, concA, Int.reduceAdd, Int.reduceSub, Int.reduceNeg, Int.reduceMul, Int.reduceEq, Int.reduceBEq, Int.reduceBNe]
        exact .pure _ rfl
      · have o2 : n.op = 2 := by omega
        rw [deg2 (.inl o2)]
        simp (maxSteps := 4000000) only [↓packA, ↓reduceIte, packB, pureOp, quietOp, loadOp, quietB, fr0, cellsK, implies_true, ite_true, ite_false, eq_self, ne_eq, reduceCtorEq, Nat.reduceLT, Nat.reduceLeDiff, Nat.reduceAdd, Nat.reduceMul, Nat.reduceBEq, Nat.reduceEqDiff, Int.reduceToNat, Int.reduceLT, Int.reduceLE, Nat.reduceSub, pl20, ft1, ft2, ft3, ft4, ft23, ft44, ft57, ft61, ft63, ft70, Nd.V, Nd.cells, ints, List.map_nil, o2, concA, Int.reduceAdd, Int.reduceSub, Int.reduceNeg, Int.reduceMul, Int.reduceEq, Int.reduceBEq, Int.reduceBNe]
        exact .pure _ rfl
end Go.Proofs.YtclbobielhllmaaGreat
end
section
namespace Go.Proofs.YtclbobielhllmaaGreat
open Go Go.AL
set_option linter.unusedVariables false
set_option linter.unusedSimpArgs false
def degT (t : Tp) : List Int × Int × Int := if t.check.2 = 0 then (degs (frB (msks t.ns)) t.ns, 0, 0) else ([], t.check)
def ansI (r : List Int × Int × Int) : AV := .tup [ints r.1, .int .i64 r.2.1, .int .i64 r.2.2]
theorem frz_three {h : Heap} {u u' a b : AV} (hu : Frz h u u') (ha : a.pure = true) (hb : b.pure = true) : Frz h (.tup [u, a, b]) (.tup [u', a, b]) := .tup _ _ rfl fun q x x' hx hx' => by
  match q with
  | 0 => simp at hx hx'; subst hx hx'; exact hu
  | 1 => simp at hx hx'; subst hx hx'; exact .pure _ ha
  | 2 => simp at hx hx'; subst hx hx'; exact .pure _ hb
  | q + 3 => simp at hx
theorem deg_at {t : Tp} (hg : t.Good) {k : Nat} {n : Nd} (hn : t.ns[k]? = some n) : (degs (frB (msks t.ns)) (t.ns.take k)).length = k ∧ (∀ j, okD (gD (degs (frB (msks t.ns)) (t.ns.take k)) j)) ∧ degs (frB (msks t.ns)) (t.ns.take (k + 1)) = degs (frB (msks t.ns)) (t.ns.take k) ++ [degN (frB (msks t.ns)) (degs (frB (msks t.ns)) (t.ns.take k)) n] := by
  have hk := (List.getElem?_eq_some_iff.1 hn).1
  refine ⟨by unfold degs; rw [walkL_len, List.length_take]; omega, degs_ok fun m hm => hg.pw m (List.mem_of_mem_take hm), walkL_succ hn⟩
set_option maxHeartbeats 4000000 in
set_option maxRecDepth 100000 in
theorem pdegree_c (t : Tp) (ht : t.Ok) : APure Tryz.prog 4 [t.V] (ansI (degT t)) := by
  refine apure_of (wp4 rfl rfl ?_)
  have pg := gone_c t ht
  have hdp := fun hg n k h1 h2 h3 d h4 h5 => degp_c t hg n k h1 h2 h3 d h4 h5
  obtain ⟨G, hG⟩ : ∃ G, G = goneV t := ⟨_, rfl⟩
  rw [← hG] at pg
  obtain ⟨R, hR⟩ : ∃ R, R = degT t := ⟨_, rfl⟩
  rw [← hR]
  unfold goneV at hG
  unfold degT at hR
  by_cases hc : t.check.2 = 0
  rotate_left
  · rw [if_neg hc] at hG hR
    subst hG hR
    simp (maxSteps := 4000000) only [↓packA, ↓reduceIte, packB, pureOp, quietOp, loadOp, quietB, fr0, cellsK, implies_true, ite_true, ite_false, eq_self, ne_eq, reduceCtorEq, Nat.reduceLT, Nat.reduceLeDiff, Nat.reduceAdd, Nat.reduceMul, Nat.reduceBEq, Nat.reduceEqDiff, Int.reduceToNat, Int.reduceLT, Int.reduceLE, Nat.reduceSub, pl4, ft1, ft3, ft22, ft23, ft25, ft38, ft54, ft57, ft61, ft63, ft96, Tp.V, concA, Int.reduceAdd, Int.reduceSub, Int.reduceNeg, Int.reduceMul, Int.reduceEq, Int.reduceBEq, Int.reduceBNe]
    refine acalls_pure pg rfl ?_
    simp (maxSteps := 4000000) only [↓packA, ↓reduceIte, packB, pureOp, quietOp, loadOp, quietB, fr0, cellsK, implies_true, ite_true, ite_false, eq_self, ne_eq, reduceCtorEq, Nat.reduceLT, Nat.reduceLeDiff, Nat.reduceAdd, Nat.reduceMul, Nat.reduceBEq, Nat.reduceEqDiff, Int.reduceToNat, Int.reduceLT, Int.reduceLE, Nat.reduceSub, pl4, ft1, ft3, ft22, ft23, ft25, ft38, ft54, ft57, ft61, ft63, ft96, Tp.V, hc, concA, Int.reduceAdd, Int.reduceSub, Int.reduceNeg, Int.reduceMul, Int.reduceEq, Int.reduceBEq, Int.reduceBNe]
    exact frz_three (.nils 1) rfl rfl
  rw [if_pos hc] at hG hR
  subst hG hR
  have hg := good_of hc
  have hda := @deg_at t hg
  have hnl := hg.nl
  have hdp2 := hdp hg
  have hat := hg.at_
  have hpw := hg.pw
  generalize hwv : walkV t = wv at *
  have hwp : wv.pure = true := by rw [← hwv]; rfl
  generalize hfr : frB (msks t.ns) = fr at *
  clear hc hdp hg
  obtain ⟨vars, ns, outs⟩ := t
  simp only at hda hnl hdp2 hat hpw
  obtain ⟨A, hA⟩ : ∃ A : List (List AV), A = [[AV.int IntKind.i64 vars, AV.isl 7 (List.map Nd.cells ns), ints outs]] := ⟨_, rfl⟩
  have hA0 : A[0]? = some [AV.int IntKind.i64 vars, AV.isl 7 (List.map Nd.cells ns), ints outs] := by rw [hA]; rfl
  simp (maxSteps := 4000000) only [↓packA, ↓reduceIte, packB, pureOp, quietOp, loadOp, quietB, fr0, cellsK, implies_true, ite_true, ite_false, eq_self, ne_eq, reduceCtorEq, Nat.reduceLT, Nat.reduceLeDiff, Nat.reduceAdd, Nat.reduceMul, Nat.reduceBEq, Nat.reduceEqDiff, Int.reduceToNat, Int.reduceLT, Int.reduceLE, Nat.reduceSub, pl4, ft1, ft3, ft22, ft23, ft25, ft38, ft54, ft57, ft61, ft63, ft96, Tp.V, concA, Int.reduceAdd, Int.reduceSub, Int.reduceNeg, Int.reduceMul, Int.reduceEq, Int.reduceBEq, Int.reduceBNe]
  rw [← hA]
  refine acalls_pure pg rfl ?_
  simp (maxSteps := 4000000) only [↓packA, ↓reduceIte, packB, pureOp, quietOp, loadOp, quietB, fr0, cellsK, implies_true, ite_true, ite_false, eq_self, ne_eq, reduceCtorEq, Nat.reduceLT, Nat.reduceLeDiff, Nat.reduceAdd, Nat.reduceMul, Nat.reduceBEq, Nat.reduceEqDiff, Int.reduceToNat, Int.reduceLT, Int.reduceLE, Nat.reduceSub, pl4, ft1, ft3, ft22, ft23, ft25, ft38, ft54, ft57, ft61, ft63, ft96, hA0, List.length_map, concA, Int.reduceAdd, Int.reduceSub, Int.reduceNeg, Int.reduceMul, Int.reduceEq, Int.reduceBEq, Int.reduceBNe]
  refine LoopK.intro (fun m w z => ∃ (k : Nat) (x : AV), m = ns.length - k ∧ k ≤ ns.length ∧ OL (fun i => i = 0) 1 z x ((degs fr (ns.take k)).map intE) ∧ 0 < z.length ∧ z[0]? = some (.arr 3 A true) ∧ w 1 = .op 0 3 0 0 ∧ w 5 = wv ∧ w 8 = x ∧ w 22 = .isl 7 (List.map Nd.cells ns) ∧ w 23 = .int .i64 ns.length ∧ w 24 = .int .i64 k) ns.length ⟨0, .nils, rfl, by omega, OL.nil, by simp, rfl, ?_, ?_, ?_, ?_, ?_, ?_⟩ ?_
  rotate_right
  all_goals (try (simp (maxSteps := 4000000) only [↓packA, ↓reduceIte, packB, pureOp, quietOp, loadOp, quietB, fr0, cellsK, implies_true, ite_true, ite_false, eq_self, ne_eq, reduceCtorEq, Nat.reduceLT, Nat.reduceLeDiff, Nat.reduceAdd, Nat.reduceMul, Nat.reduceBEq, Nat.reduceEqDiff, Int.reduceToNat, Int.reduceLT, Int.reduceLE, Nat.reduceSub, pl4, ft1, ft3, ft22, ft23, ft25, ft38, ft54, ft57, ft61, ft63, ft96, Int.natCast_zero, concA, Int.reduceAdd, Int.reduceSub, Int.reduceNeg, Int.reduceMul, Int.reduceEq, Int.reduceBEq, Int.reduceBNe]; done))
  rintro m w z ⟨k, x, rfl, hk, hO, hzl, h0, a1, a5, a8, a22, a23, a24⟩
  by_cases c : k < ns.length
  · have q1 : (k : Int) < (ns.length : Int) := by omega
    obtain ⟨n, hn⟩ : ∃ n, ns[k]? = some n := ⟨_, List.getElem?_eq_getElem c⟩
    have rk : (List.map Nd.cells ns)[k]? = some (Nd.cells n) := by rw [List.getElem?_map, hn]; rfl
    obtain ⟨d1, d2, d3⟩ := hda hn
    have hcall := hdp2 n k (hat k n hn) c (hpw n (List.mem_of_getElem? hn)) _ d1 d2
    unfold Nd.V Nd.cells at hcall
    obtain ⟨N, hN⟩ : ∃ N, z.length = N := ⟨_, rfl⟩
    have tN := tailR hN
    simp (maxSteps := 4000000) only [↓packA, ↓reduceIte, packB, pureOp, quietOp, loadOp, quietB, fr0, cellsK, implies_true, ite_true, ite_false, eq_self, ne_eq, reduceCtorEq, Nat.reduceLT, Nat.reduceLeDiff, Nat.reduceAdd, Nat.reduceMul, Nat.reduceBEq, Nat.reduceEqDiff, Int.reduceToNat, Int.reduceLT, Int.reduceLE, Nat.reduceSub, pl4, ft1, ft3, ft22, ft23, ft25, ft38, ft54, ft57, ft61, ft63, ft96, a1, a5, a8, a22, a23, a24, q1, rk, hN, tN, Nd.cells, concA, Int.reduceAdd, Int.reduceSub, Int.reduceNeg, Int.reduceMul, Int.reduceEq, Int.reduceBEq, Int.reduceBNe]
    refine ⟨by omega, acalls_lend hcall (.cons (.pure _ hwp) (.cons (.pure _ rfl) (.cons (hO.app.frz_self fun e he => by obtain ⟨y, _, rfl⟩ := List.mem_map.1 he; rfl) .nil))) rfl ?_⟩
    simp (maxSteps := 4000000) only [↓packA, ↓reduceIte, packB, pureOp, quietOp, loadOp, quietB, fr0, cellsK, implies_true, ite_true, ite_false, eq_self, ne_eq, reduceCtorEq, Nat.reduceLT, Nat.reduceLeDiff, Nat.reduceAdd, Nat.reduceMul, Nat.reduceBEq, Nat.reduceEqDiff, Int.reduceToNat, Int.reduceLT, Int.reduceLE, Nat.reduceSub, pl4, ft1, ft3, ft22, ft23, ft25, ft38, ft54, ft57, ft61, ft63, ft96, a1, a5, a8, a22, a23, a24, hN, tN, concA, Int.reduceAdd, Int.reduceSub, Int.reduceNeg, Int.reduceMul, Int.reduceEq, Int.reduceBEq, Int.reduceBNe]
    refine ol_push (F := fun i => i = 0) 1 rfl rfl (fun i hi => by simp; omega) hO.app (by simp [d1]; omega) fun x' z' ⟨xi, xc, xe, hx', _⟩ hO' hl' _ hF' => ?_
    subst hx'
    rw [List.length_map, d1] at hO'
    simp (maxSteps := 4000000) only [↓packA, ↓reduceIte, packB, pureOp, quietOp, loadOp, quietB, fr0, cellsK, implies_true, ite_true, ite_false, eq_self, ne_eq, reduceCtorEq, Nat.reduceLT, Nat.reduceLeDiff, Nat.reduceAdd, Nat.reduceMul, Nat.reduceBEq, Nat.reduceEqDiff, Int.reduceToNat, Int.reduceLT, Int.reduceLE, Nat.reduceSub, pl4, ft1, ft3, ft22, ft23, ft25, ft38, ft54, ft57, ft61, ft63, ft96, a1, a5, a8, a22, a23, a24, d1, List.length_map, concA, Int.reduceAdd, Int.reduceSub, Int.reduceNeg, Int.reduceMul, Int.reduceEq, Int.reduceBEq, Int.reduceBNe]
    refine ⟨by omega, .inl ⟨ns.length - (k + 1), by omega, k + 1, _, rfl, by omega, by rw [d3, List.map_append]; exact hO', by simp at hl'; omega, by rw [hF' 0 rfl, List.getElem?_append_left (by omega)]; exact h0, rfl, by omega⟩⟩
  · have q1 : ¬ (k : Int) < (ns.length : Int) := by omega
    obtain rfl : k = ns.length := by omega
    rw [List.take_length] at hO
    simp (maxSteps := 4000000) only [↓packA, ↓reduceIte, packB, pureOp, quietOp, loadOp, quietB, fr0, cellsK, implies_true, ite_true, ite_false, eq_self, ne_eq, reduceCtorEq, Nat.reduceLT, Nat.reduceLeDiff, Nat.reduceAdd, Nat.reduceMul, Nat.reduceBEq, Nat.reduceEqDiff, Int.reduceToNat, Int.reduceLT, Int.reduceLE, Nat.reduceSub, pl4, ft1, ft3, ft22, ft23, ft25, ft38, ft54, ft57, ft61, ft63, ft96, a1, a5, a8, a22, a23, a24, q1, concA, Int.reduceAdd, Int.reduceSub, Int.reduceNeg, Int.reduceMul, Int.reduceEq, Int.reduceBEq, Int.reduceBNe]
    exact frz_three (hO.frz_self fun e he => by obtain ⟨y, _, rfl⟩ := List.mem_map.1 he; rfl) rfl rfl
set_option maxHeartbeats 4000000 in
set_option maxRecDepth 100000 in
theorem rdegree_c (t : Tp) (ht : t.Ok) : APure Tryz.prog 6 [t.V] (ansI (degT t)) := by
  refine apure_of (wp6 rfl rfl ?_)
  have pc := rcheck_c t ht
  have hdp := fun hg n k h1 h2 h3 d h4 h5 => degr_c t hg n k h1 h2 h3 d h4 h5
  obtain ⟨R, hR⟩ : ∃ R, R = degT t := ⟨_, rfl⟩
  rw [← hR]
  unfold degT at hR
  by_cases hc : t.check.2 = 0
  rotate_left
  · rw [if_neg hc] at hR
    subst hR
    simp (maxSteps := 4000000) only [↓packA, ↓reduceIte, packB, pureOp, quietOp, loadOp, quietB, fr0, cellsK, implies_true, ite_true, ite_false, eq_self, ne_eq, reduceCtorEq, Nat.reduceLT, Nat.reduceLeDiff, Nat.reduceAdd, Nat.reduceMul, Nat.reduceBEq, Nat.reduceEqDiff, Int.reduceToNat, Int.reduceLT, Int.reduceLE, Nat.reduceSub, pl6, ft1, ft3, ft4, ft22, ft23, ft25, ft44, ft57, ft61, ft63, ft70, Tp.V, concA, Int.reduceAdd, Int.reduceSub, Int.reduceNeg, Int.reduceMul, Int.reduceEq, Int.reduceBEq, Int.reduceBNe]
    refine acalls_pure pc rfl ?_
    simp (maxSteps := 4000000) only [↓packA, ↓reduceIte, packB, pureOp, quietOp, loadOp, quietB, fr0, cellsK, implies_true, ite_true, ite_false, eq_self, ne_eq, reduceCtorEq, Nat.reduceLT, Nat.reduceLeDiff, Nat.reduceAdd, Nat.reduceMul, Nat.reduceBEq, Nat.reduceEqDiff, Int.reduceToNat, Int.reduceLT, Int.reduceLE, Nat.reduceSub, pl6, ft1, ft3, ft4, ft22, ft23, ft25, ft44, ft57, ft61, ft63, ft70, Tp.V, hc, concA, Int.reduceAdd, Int.reduceSub, Int.reduceNeg, Int.reduceMul, Int.reduceEq, Int.reduceBEq, Int.reduceBNe]
    exact frz_three (.nils 1) rfl rfl
  rw [if_pos hc] at hR
  subst hR
  have hg := good_of hc
  have hda := @deg_at t hg
  have hnl := hg.nl
  have hdp2 := hdp hg
  have hat := hg.at_
  have hpw := hg.pw
  have hha := hangs_c t.vars t.ns t.outs hg.vars (by omega) hat
  generalize hwv : hangV t.vars t.ns = wv at *
  have hwp : wv.pure = true := by rw [← hwv]; rfl
  generalize hfr : frB (msks t.ns) = fr at *
  generalize hck : t.check = ck at *
  clear hdp hg
  obtain ⟨vars, ns, outs⟩ := t
  simp only at hda hnl hdp2 hat hpw hha
  obtain ⟨A, hA⟩ : ∃ A : List (List AV), A = [[AV.int IntKind.i64 vars, AV.isl 7 (List.map Nd.cells ns), ints outs]] := ⟨_, rfl⟩
  have hA0 : A[0]? = some [AV.int IntKind.i64 vars, AV.isl 7 (List.map Nd.cells ns), ints outs] := by rw [hA]; rfl
  simp (maxSteps := 4000000) only [↓packA, ↓reduceIte, packB, pureOp, quietOp, loadOp, quietB, fr0, cellsK, implies_true, ite_true, ite_false, eq_self, ne_eq, reduceCtorEq, Nat.reduceLT, Nat.reduceLeDiff, Nat.reduceAdd, Nat.reduceMul, Nat.reduceBEq, Nat.reduceEqDiff, Int.reduceToNat, Int.reduceLT, Int.reduceLE, Nat.reduceSub, pl6, ft1, ft3, ft4, ft22, ft23, ft25, ft44, ft57, ft61, ft63, ft70, Tp.V, concA, Int.reduceAdd, Int.reduceSub, Int.reduceNeg, Int.reduceMul, Int.reduceEq, Int.reduceBEq, Int.reduceBNe]
  refine acalls_pure pc rfl ?_
  simp (maxSteps := 4000000) only [↓packA, ↓reduceIte, packB, pureOp, quietOp, loadOp, quietB, fr0, cellsK, implies_true, ite_true, ite_false, eq_self, ne_eq, reduceCtorEq, Nat.reduceLT, Nat.reduceLeDiff, Nat.reduceAdd, Nat.reduceMul, Nat.reduceBEq, Nat.reduceEqDiff, Int.reduceToNat, Int.reduceLT, Int.reduceLE, Nat.reduceSub, pl6, ft1, ft3, ft4, ft22, ft23, ft25, ft44, ft57, ft61, ft63, ft70, Tp.V, hc, concA, Int.reduceAdd, Int.reduceSub, Int.reduceNeg, Int.reduceMul, Int.reduceEq, Int.reduceBEq, Int.reduceBNe]
  refine acalls_pure hha rfl ?_
  rw [← hA]
  simp (maxSteps := 4000000) only [↓packA, ↓reduceIte, packB, pureOp, quietOp, loadOp, quietB, fr0, cellsK, implies_true, ite_true, ite_false, eq_self, ne_eq, reduceCtorEq, Nat.reduceLT, Nat.reduceLeDiff, Nat.reduceAdd, Nat.reduceMul, Nat.reduceBEq, Nat.reduceEqDiff, Int.reduceToNat, Int.reduceLT, Int.reduceLE, Nat.reduceSub, pl6, ft1, ft3, ft4, ft22, ft23, ft25, ft44, ft57, ft61, ft63, ft70, hA0, List.length_map, concA, Int.reduceAdd, Int.reduceSub, Int.reduceNeg, Int.reduceMul, Int.reduceEq, Int.reduceBEq, Int.reduceBNe]
  refine LoopK.intro (fun m w z => ∃ (k : Nat) (x : AV), m = ns.length - k ∧ k ≤ ns.length ∧ OL (fun i => i = 0) 1 z x ((degs fr (ns.take k)).map intE) ∧ 0 < z.length ∧ z[0]? = some (.arr 3 A true) ∧ w 1 = .op 0 3 0 0 ∧ w 7 = wv ∧ w 8 = x ∧ w 9 = .int .i64 k) ns.length ⟨0, .nils, rfl, by omega, OL.nil, by simp, rfl, ?_, ?_, ?_, ?_⟩ ?_
  rotate_right
  all_goals (try (simp (maxSteps := 4000000) only [↓packA, ↓reduceIte, packB, pureOp, quietOp, loadOp, quietB, fr0, cellsK, implies_true, ite_true, ite_false, eq_self, ne_eq, reduceCtorEq, Nat.reduceLT, Nat.reduceLeDiff, Nat.reduceAdd, Nat.reduceMul, Nat.reduceBEq, Nat.reduceEqDiff, Int.reduceToNat, Int.reduceLT, Int.reduceLE, Nat.reduceSub, pl6, ft1, ft3, ft4, ft22, ft23, ft25, ft44, ft57, ft61, ft63, ft70, Int.natCast_zero, concA, Int.reduceAdd, Int.reduceSub, Int.reduceNeg, Int.reduceMul, Int.reduceEq, Int.reduceBEq, Int.reduceBNe]; done))
  rintro m w z ⟨k, x, rfl, hk, hO, hzl, h0, a1, a7, a8, a9⟩
  by_cases c : k < ns.length
  · have q1 : (k : Int) < (ns.length : Int) := by omega
    obtain ⟨n, hn⟩ : ∃ n, ns[k]? = some n := ⟨_, List.getElem?_eq_getElem c⟩
    have rk : (List.map Nd.cells ns)[k]? = some (Nd.cells n) := by rw [List.getElem?_map, hn]; rfl
    obtain ⟨d1, d2, d3⟩ := hda hn
    have hcall := hdp2 n k (hat k n hn) c (hpw n (List.mem_of_getElem? hn)) _ d1 d2
    unfold Nd.V Nd.cells at hcall
    obtain ⟨N, hN⟩ : ∃ N, z.length = N := ⟨_, rfl⟩
    have tN := tailR hN
    simp (maxSteps := 4000000) only [↓packA, ↓reduceIte, packB, pureOp, quietOp, loadOp, quietB, fr0, cellsK, implies_true, ite_true, ite_false, eq_self, ne_eq, reduceCtorEq, Nat.reduceLT, Nat.reduceLeDiff, Nat.reduceAdd, Nat.reduceMul, Nat.reduceBEq, Nat.reduceEqDiff, Int.reduceToNat, Int.reduceLT, Int.reduceLE, Nat.reduceSub, pl6, ft1, ft3, ft4, ft22, ft23, ft25, ft44, ft57, ft61, ft63, ft70, a1, a7, a8, a9, q1, rk, h0, hA0, hN, tN, Nd.cells, List.length_map, concA, Int.reduceAdd, Int.reduceSub, Int.reduceNeg, Int.reduceMul, Int.reduceEq, Int.reduceBEq, Int.reduceBNe]
    refine ⟨by omega, acalls_lend hcall (.cons (.pure _ rfl) (.cons (.pure _ hwp) (.cons (hO.frz_self fun e he => by obtain ⟨y, _, rfl⟩ := List.mem_map.1 he; rfl) .nil))) rfl ?_⟩
    simp (maxSteps := 4000000) only [↓packA, ↓reduceIte, packB, pureOp, quietOp, loadOp, quietB, fr0, cellsK, implies_true, ite_true, ite_false, eq_self, ne_eq, reduceCtorEq, Nat.reduceLT, Nat.reduceLeDiff, Nat.reduceAdd, Nat.reduceMul, Nat.reduceBEq, Nat.reduceEqDiff, Int.reduceToNat, Int.reduceLT, Int.reduceLE, Nat.reduceSub, pl6, ft1, ft3, ft4, ft22, ft23, ft25, ft44, ft57, ft61, ft63, ft70, a1, a7, a8, a9, h0, hA0, hN, tN, concA, Int.reduceAdd, Int.reduceSub, Int.reduceNeg, Int.reduceMul, Int.reduceEq, Int.reduceBEq, Int.reduceBNe]
    refine ol_push (F := fun i => i = 0) 1 rfl rfl (fun i hi => by simp; omega) hO.app (by simp [d1]; omega) fun x' z' ⟨xi, xc, xe, hx', _⟩ hO' hl' _ hF' => ?_
    subst hx'
    rw [List.length_map, d1] at hO'
    simp (maxSteps := 4000000) only [↓packA, ↓reduceIte, packB, pureOp, quietOp, loadOp, quietB, fr0, cellsK, implies_true, ite_true, ite_false, eq_self, ne_eq, reduceCtorEq, Nat.reduceLT, Nat.reduceLeDiff, Nat.reduceAdd, Nat.reduceMul, Nat.reduceBEq, Nat.reduceEqDiff, Int.reduceToNat, Int.reduceLT, Int.reduceLE, Nat.reduceSub, pl6, ft1, ft3, ft4, ft22, ft23, ft25, ft44, ft57, ft61, ft63, ft70, a1, a7, a8, a9, d1, List.length_map, concA, Int.reduceAdd, Int.reduceSub, Int.reduceNeg, Int.reduceMul, Int.reduceEq, Int.reduceBEq, Int.reduceBNe]
    refine ⟨by omega, .inl ⟨ns.length - (k + 1), by omega, k + 1, _, rfl, by omega, by rw [d3, List.map_append]; exact hO', by simp at hl'; omega, by rw [hF' 0 rfl, List.getElem?_append_left (by omega)]; exact h0, rfl, by omega⟩⟩
  · have q1 : ¬ (k : Int) < (ns.length : Int) := by omega
    obtain rfl : k = ns.length := by omega
    rw [List.take_length] at hO
    simp (maxSteps := 4000000) only [↓packA, ↓reduceIte, packB, pureOp, quietOp, loadOp, quietB, fr0, cellsK, implies_true, ite_true, ite_false, eq_self, ne_eq, reduceCtorEq, Nat.reduceLT, Nat.reduceLeDiff, Nat.reduceAdd, Nat.reduceMul, Nat.reduceBEq, Nat.reduceEqDiff, Int.reduceToNat, Int.reduceLT, Int.reduceLE, Nat.reduceSub, pl6, ft1, ft3, ft4, ft22, ft23, ft25, ft44, ft57, ft61, ft63, ft70, a1, a7, a8, a9, q1, h0, hA0, List.length_map, concA, Int.reduceAdd, Int.reduceSub, Int.reduceNeg, Int.reduceMul, Int.reduceEq, Int.reduceBEq, Int.reduceBNe]
    exact frz_three (hO.frz_self fun e he => by obtain ⟨y, _, rfl⟩ := List.mem_map.1 he; rfl) rfl rfl
end Go.Proofs.YtclbobielhllmaaGreat
end
section
namespace Go.Proofs.YtclbobielhllmaaGreat
open Go Go.AL
set_option linter.unusedVariables false
set_option linter.unusedSimpArgs false
def linT (t : Tp) : List Bool × Int × Int := if t.check.2 = 0 then (t.outs.map (gB (strs (frB (msks t.ns)) t.ns)), 0, 0) else ([], t.check)
def ansB (r : List Bool × Int × Int) : AV := .tup [bools r.1, .int .i64 r.2.1, .int .i64 r.2.2]
def GW (fr : Int → Bool) (ns : List Nd) (S : List Bool) (v : Nat) : Prop := S.length = ns.length ∧ ∀ i, i < v → S.getD i false = (strs fr (ns.take v)).getD i false
theorem GW.start {fr : Int → Bool} {ns : List Nd} : GW fr ns (List.replicate ns.length false) 0 := ⟨by simp, fun i h => by omega⟩
theorem GW.done {fr : Int → Bool} {ns : List Nd} {S : List Bool} (h : GW fr ns S ns.length) : S = strs fr ns := by
  have hl : (strs fr ns).length = ns.length := walkL_len ns
  apply List.ext_getElem (by rw [h.1, hl])
  intro i h1 h2
  have := h.2 i (by rw [← h.1]; exact h1)
  rw [List.take_length, List.getD_eq_getElem?_getD, List.getD_eq_getElem?_getD, List.getElem?_eq_getElem h1, List.getElem?_eq_getElem h2] at this
  exact this
theorem all_cg {S S' : List Bool} : ∀ {l : List Int}, (∀ k, k ∈ l → gB S k = gB S' k) → l.all (gB S) = l.all (gB S')
  | [], _ => rfl
  | k :: l, h => by
    rw [List.all_cons, List.all_cons, h k (by simp), all_cg fun j hj => h j (by simp [hj])]
theorem GW.step {fr : Int → Bool} {ns : List Nd} {S S' : List Bool} {v : Nat} {n : Nd} {vars : Int} (h : GW fr ns S v) (hn : ns[v]? = some n) (hv : NdAt vars v n) (hl : S'.length = ns.length) (hlt : ∀ i, i < v → S'.getD i false = S.getD i false) (hat : S'.getD v false = ((nops n).all (gB S) && locN fr n)) : GW fr ns S' (v + 1) := by
  have hvl := (List.getElem?_eq_some_iff.1 hn).1
  have hlh : (strs fr (ns.take v)).length = v := by unfold strs; rw [walkL_len, List.length_take]; omega
  have e2 : strs fr (ns.take (v + 1)) = strs fr (ns.take v) ++ [strN fr (strs fr (ns.take v)) n] := walkL_succ hn
  refine ⟨hl, fun i hi => ?_⟩
  rw [e2]
  by_cases c : i < v
  · rw [hlt i c, h.2 i c, List.getD_eq_getElem?_getD, List.getD_eq_getElem?_getD, List.getElem?_append_left (by omega)]
  · obtain rfl : i = v := by omega
    rw [hat, List.getD_eq_getElem?_getD, List.getElem?_append_right (by omega), hlh, Nat.sub_self]
    show _ = ((nops n).all (gB (strs fr (ns.take i))) && locN fr n)
    rw [all_cg fun k hk => show gB S k = gB (strs fr (ns.take i)) k from h.2 _ (by have := nops_lt hv k hk; omega)]
theorem all_take {α : Type} {l : List α} {f : α → Bool} {p : Nat} {x : α} (h : l[p]? = some x) : (l.take (p + 1)).all f = ((l.take p).all f && f x) := by
  rw [List.take_add_one, h, List.all_append]
  simp
theorem bends_at {n : Nd} {vars : Int} {v : Nat} (hv : NdAt vars v n) : ∀ p, p ∈ bendsN n → (0 ≤ p.1 ∧ p.1 < v) ∧ 0 ≤ p.2 ∧ p.2 < v := fun p hp => by
  unfold bendsN at hp
  split at hp
  · rename_i e
    have h2 : two n.op = true := by rw [e]; rfl
    have := hv.a (by omega)
    have := hv.b h2
    simp at hp; subst hp; exact ⟨by assumption, by assumption⟩
  · split at hp
    · rename_i e
      have h2 : two n.op = true := by rw [e]; rfl
      have := hv.a (by omega)
      have := hv.b h2
      simp at hp
      rcases hp with rfl | rfl
      · exact ⟨by assumption, by assumption⟩
      · exact ⟨by assumption, by assumption⟩
    · split at hp
      · rename_i e
        have := hv.a (by omega)
        simp at hp; subst hp; exact ⟨by assumption, by assumption⟩
      · cases hp
set_option maxHeartbeats 8000000 in
set_option maxRecDepth 100000 in
theorem plinear_c (t : Tp) (ht : t.Ok) : APure Tryz.prog 7 [t.V] (ansB (linT t)) := by
  refine apure_of (wp7 rfl rfl ?_)
  have pg := gone_c t ht
  have hfc := fun hg k h => free_c t hg k h
  obtain ⟨G, hG⟩ : ∃ G, G = goneV t := ⟨_, rfl⟩
  rw [← hG] at pg
  obtain ⟨R, hR⟩ : ∃ R, R = linT t := ⟨_, rfl⟩
  rw [← hR]
  unfold goneV at hG
  unfold linT at hR
  by_cases hc : t.check.2 = 0
  rotate_left
  · rw [if_neg hc] at hG hR
    subst hG hR
    simp (maxSteps := 4000000) only [↓packA, ↓reduceIte, packB, pureOp, quietOp, loadOp, quietB, fr0, cellsK, implies_true, ite_true, ite_false, eq_self, ne_eq, reduceCtorEq, Nat.reduceLT, Nat.reduceLeDiff, Nat.reduceAdd, Nat.reduceMul, Nat.reduceBEq, Nat.reduceEqDiff, Int.reduceToNat, Int.reduceLT, Int.reduceLE, Nat.reduceSub, pl7, ft1, ft2, ft3, ft4, ft22, ft23, ft25, ft38, ft44, ft54, ft57, ft61, ft63, ft74, ft77, ft96, Tp.V, concA, Int.reduceAdd, Int.reduceSub, Int.reduceNeg, Int.reduceMul, Int.reduceEq, Int.reduceBEq, Int.reduceBNe]
    refine acalls_pure pg rfl ?_
    simp (maxSteps := 4000000) only [↓packA, ↓reduceIte, packB, pureOp, quietOp, loadOp, quietB, fr0, cellsK, implies_true, ite_true, ite_false, eq_self, ne_eq, reduceCtorEq, Nat.reduceLT, Nat.reduceLeDiff, Nat.reduceAdd, Nat.reduceMul, Nat.reduceBEq, Nat.reduceEqDiff, Int.reduceToNat, Int.reduceLT, Int.reduceLE, Nat.reduceSub, pl7, ft1, ft2, ft3, ft4, ft22, ft23, ft25, ft38, ft44, ft54, ft57, ft61, ft63, ft74, ft77, ft96, Tp.V, hc, concA, Int.reduceAdd, Int.reduceSub, Int.reduceNeg, Int.reduceMul, Int.reduceEq, Int.reduceBEq, Int.reduceBNe]
    exact frz_three (.nils 1) rfl rfl
  rw [if_pos hc] at hG hR
  subst hG hR
  have hg := good_of hc
  have hnl := hg.nl
  have hol := hg.ol
  have hfc2 := hfc hg
  have hat := hg.at_
  have hout := hg.out
  generalize hwv : walkV t = wv at *
  have hwp : wv.pure = true := by rw [← hwv]; rfl
  generalize hfr : frB (msks t.ns) = fr at *
  clear hc hfc hg
  obtain ⟨vars, ns, outs⟩ := t
  simp only at hnl hol hfc2 hat hout
  obtain ⟨A, hA⟩ : ∃ A : List (List AV), A = [[AV.int IntKind.i64 vars, AV.isl 7 (List.map Nd.cells ns), AV.isl 1 (List.map intE outs)]] := ⟨_, rfl⟩
  have hA0 : A[0]? = some [AV.int IntKind.i64 vars, AV.isl 7 (List.map Nd.cells ns), AV.isl 1 (List.map intE outs)] := by rw [hA]; rfl
  simp only [Tp.V, ints] at pg
  simp (maxSteps := 4000000) only [↓packA, ↓reduceIte, packB, pureOp, quietOp, loadOp, quietB, fr0, cellsK, implies_true, ite_true, ite_false, eq_self, ne_eq, reduceCtorEq, Nat.reduceLT, Nat.reduceLeDiff, Nat.reduceAdd, Nat.reduceMul, Nat.reduceBEq, Nat.reduceEqDiff, Int.reduceToNat, Int.reduceLT, Int.reduceLE, Nat.reduceSub, pl7, ft1, ft2, ft3, ft4, ft22, ft23, ft25, ft38, ft44, ft54, ft57, ft61, ft63, ft74, ft77, ft96, Tp.V, ints, concA, Int.reduceAdd, Int.reduceSub, Int.reduceNeg, Int.reduceMul, Int.reduceEq, Int.reduceBEq, Int.reduceBNe]
  rw [← hA]
  refine acalls_pure pg rfl ?_
  simp (maxSteps := 4000000) only [↓packA, ↓reduceIte, packB, pureOp, quietOp, loadOp, quietB, fr0, cellsK, implies_true, ite_true, ite_false, eq_self, ne_eq, reduceCtorEq, Nat.reduceLT, Nat.reduceLeDiff, Nat.reduceAdd, Nat.reduceMul, Nat.reduceBEq, Nat.reduceEqDiff, Int.reduceToNat, Int.reduceLT, Int.reduceLE, Nat.reduceSub, pl7, ft1, ft2, ft3, ft4, ft22, ft23, ft25, ft38, ft44, ft54, ft57, ft61, ft63, ft74, ft77, ft96, hA0, List.length_map, concA, Int.reduceAdd, Int.reduceSub, Int.reduceNeg, Int.reduceMul, Int.reduceEq, Int.reduceBEq, Int.reduceBNe]
  refine ⟨by omega, ?_⟩
  refine LoopK.intro (fun m w z => ∃ (v : Nat) (S : List Bool), m = ns.length - v ∧ v ≤ ns.length ∧ GW fr ns S v ∧ 1 < z.length ∧ z[0]? = some (.arr 3 A true) ∧ z[1]? = some (.arr 1 (List.map boolE S) true) ∧ w 1 = .op 0 3 0 0 ∧ w 5 = wv ∧ w 8 = .osl 1 1 0 ns.length ns.length true ∧ w 33 = .isl 7 (List.map Nd.cells ns) ∧ w 34 = .int .i64 ns.length ∧ w 35 = .int .i64 v) ns.length ⟨0, _, rfl, by omega, GW.start, by simp, rfl, rfl, ?_, ?_, ?_, ?_, ?_, ?_⟩ ?_
  rotate_right
  all_goals (try (simp (maxSteps := 4000000) only [↓packA, ↓reduceIte, packB, pureOp, quietOp, loadOp, quietB, fr0, cellsK, implies_true, ite_true, ite_false, eq_self, ne_eq, reduceCtorEq, Nat.reduceLT, Nat.reduceLeDiff, Nat.reduceAdd, Nat.reduceMul, Nat.reduceBEq, Nat.reduceEqDiff, Int.reduceToNat, Int.reduceLT, Int.reduceLE, Nat.reduceSub, pl7, ft1, ft2, ft3, ft4, ft22, ft23, ft25, ft38, ft44, ft54, ft57, ft61, ft63, ft74, ft77, ft96, Int.natCast_zero, concA, Int.reduceAdd, Int.reduceSub, Int.reduceNeg, Int.reduceMul, Int.reduceEq, Int.reduceBEq, Int.reduceBNe]; done))
  rintro m w z ⟨v, S, rfl, hv, hS, hzl, h0, h1, a1, a5, a8, a33, a34, a35⟩
  by_cases c : v < ns.length
  · have q1 : (v : Int) < (ns.length : Int) := by omega
    obtain ⟨n, hn⟩ : ∃ n, ns[v]? = some n := ⟨_, List.getElem?_eq_getElem c⟩
    have rk : (List.map Nd.cells ns)[v]? = some (Nd.cells n) := by rw [List.getElem?_map, hn]; rfl
    have hnv := hat v n hn
    have hSl := hS.1
    obtain ⟨N, hN⟩ : ∃ N, z.length = N := ⟨_, rfl⟩
    have tN := tailR hN
    have r1 : ∀ t, (z ++ t)[1]? = some (.arr 1 (List.map boolE S) true) := fun t => by rw [List.getElem?_append_left hzl]; exact h1
    have s1 : ∀ t o, (z ++ t).set 1 o = z.set 1 o ++ t := fun t o => List.set_append_left _ _ hzl
    have n1 : ∀ o t, (z.set 1 o ++ t)[N]? = t[0]? := fun o t => gR0 (by simpa using hN) t
    have hpo := pops_o n
    have hbo := bends_o n
    unfold Nd.V Nd.cells at hpo hbo
    have hnp : (nops n).length ≤ 2 := by
      unfold nops
      split
      · simp
      · split <;> simp
    simp (maxSteps := 4000000) only [↓packA, ↓reduceIte, packB, pureOp, quietOp, loadOp, quietB, fr0, cellsK, implies_true, ite_true, ite_false, eq_self, ne_eq, reduceCtorEq, Nat.reduceLT, Nat.reduceLeDiff, Nat.reduceAdd, Nat.reduceMul, Nat.reduceBEq, Nat.reduceEqDiff, Int.reduceToNat, Int.reduceLT, Int.reduceLE, Nat.reduceSub, pl7, ft1, ft2, ft3, ft4, ft22, ft23, ft25, ft38, ft44, ft54, ft57, ft61, ft63, ft74, ft77, ft96, a1, a5, a8, a33, a34, a35, q1, rk, hN, tN, r1, s1, n1, bool_setN, Nd.cells, concA, Int.reduceAdd, Int.reduceSub, Int.reduceNeg, Int.reduceMul, Int.reduceEq, Int.reduceBEq, Int.reduceBNe]
    refine ⟨by omega, by omega, by omega, ?_⟩
    refine acalls_fresh hpo (.cons (.pure _ rfl) .nil) fun u hx hz => ⟨_, hz, ?_⟩
    simp (maxSteps := 4000000) only [↓packA, ↓reduceIte, packB, pureOp, quietOp, loadOp, quietB, fr0, cellsK, implies_true, ite_true, ite_false, eq_self, ne_eq, reduceCtorEq, Nat.reduceLT, Nat.reduceLeDiff, Nat.reduceAdd, Nat.reduceMul, Nat.reduceBEq, Nat.reduceEqDiff, Int.reduceToNat, Int.reduceLT, Int.reduceLE, Nat.reduceSub, pl7, ft1, ft2, ft3, ft4, ft22, ft23, ft25, ft38, ft44, ft54, ft57, ft61, ft63, ft74, ft77, ft96, a1, a5, a8, a33, a34, a35, ints, List.length_map, concA, Int.reduceAdd, Int.reduceSub, Int.reduceNeg, Int.reduceMul, Int.reduceEq, Int.reduceBEq, Int.reduceBNe]
    refine LoopK.intro (fun m w y => ∃ (p : Nat) (S' : List Bool), m = (nops n).length - p ∧ p ≤ (nops n).length ∧ S'.length = ns.length ∧ (∀ i, i < v → S'.getD i false = S.getD i false) ∧ S'.getD v false = ((nops n).take p).all (gB S) ∧ N < y.length ∧ y[0]? = some (.arr 3 A true) ∧ y[N]? = some (.arr 7 [Nd.cells n] true) ∧ y[1]? = some (.arr 1 (List.map boolE S') true) ∧ w 1 = .op 0 3 0 0 ∧ w 5 = wv ∧ w 8 = .osl 1 1 0 ns.length ns.length true ∧ w 33 = .isl 7 (List.map Nd.cells ns) ∧ w 34 = .int .i64 ns.length ∧ w 35 = .int .i64 v ∧ w 9 = .int .i64 v ∧ w 10 = .op N 7 0 0 ∧ w 44 = ints (nops n) ∧ w 45 = .int .i64 (nops n).length ∧ w 46 = .int .i64 p) (nops n).length ⟨0, S.set v true, rfl, by omega, by rw [List.length_set]; exact hSl, fun i hi => getD_setBn (by omega), getD_setB (by omega), by simp; omega, by rw [List.getElem?_append_left (by simp; omega), List.getElem?_set_ne (by decide)]; exact h0, n1 _ _, by rw [List.getElem?_append_left (by simpa using hzl), List.getElem?_set_self hzl], ?_, ?_, ?_, ?_, ?_, ?_, ?_, ?_, ?_, ?_, ?_⟩ ?_
    rotate_right
    all_goals (try (simp (maxSteps := 4000000) only [↓packA, ↓reduceIte, packB, pureOp, quietOp, loadOp, quietB, fr0, cellsK, implies_true, ite_true, ite_false, eq_self, ne_eq, reduceCtorEq, Nat.reduceLT, Nat.reduceLeDiff, Nat.reduceAdd, Nat.reduceMul, Nat.reduceBEq, Nat.reduceEqDiff, Int.reduceToNat, Int.reduceLT, Int.reduceLE, Nat.reduceSub, pl7, ft1, ft2, ft3, ft4, ft22, ft23, ft25, ft38, ft44, ft54, ft57, ft61, ft63, ft74, ft77, ft96, a1, a5, a8, a33, a34, a35, ints, List.length_map, Int.natCast_zero, concA, Int.reduceAdd, Int.reduceSub, Int.reduceNeg, Int.reduceMul, Int.reduceEq, Int.reduceBEq, Int.reduceBNe]; done))
    clear a1 a5 a8 a33 a34 a35 r1 s1 n1 tN
    rintro m w y ⟨p, S', rfl, hp, hSl', hlt', hat', hyl, y0, yN, y1, a1, a5, a8, a33, a34, a35, a9, a10, a44, a45, a46⟩
    by_cases cp : p < (nops n).length
    · have qp : (p : Int) < ((nops n).length : Int) := by omega
      have ek : (nops n)[p]? = some (nops n)[p] := List.getElem?_eq_getElem cp
      have hxp := nops_lt hnv (nops n)[p] (List.getElem_mem cp)
      have eg : (nops n).getD p default = (nops n)[p] := by rw [List.getD_eq_getElem?_getD, ek]; rfl
      have hrow := bool_row (l := S') (i := v) (by omega)
      have hrow2 := bool_row (l := S') (i := (nops n)[p].toNat) (by omega)
      have hy1 : 1 < y.length := by omega
      cases hb : S'.getD v false with
      | true =>
        rw [hb] at hrow
        simp (maxSteps := 4000000) only [↓packA, ↓reduceIte, packB, pureOp, quietOp, loadOp, quietB, fr0, cellsK, implies_true, ite_true, ite_false, eq_self, ne_eq, reduceCtorEq, Nat.reduceLT, Nat.reduceLeDiff, Nat.reduceAdd, Nat.reduceMul, Nat.reduceBEq, Nat.reduceEqDiff, Int.reduceToNat, Int.reduceLT, Int.reduceLE, Nat.reduceSub, pl7, ft1, ft2, ft3, ft4, ft22, ft23, ft25, ft38, ft44, ft54, ft57, ft61, ft63, ft74, ft77, ft96, ints, a1, a5, a8, a33, a34, a35, a9, a10, a44, a45, a46, qp, eg, hrow, hrow2, y1, bool_setN, List.length_map, concA, Int.reduceAdd, Int.reduceSub, Int.reduceNeg, Int.reduceMul, Int.reduceEq, Int.reduceBEq, Int.reduceBNe]
        refine ⟨by omega, cp, by omega, by omega, by omega, by omega, .inl ⟨(nops n).length - (p + 1), by omega, p + 1, S'.set v (S'.getD (nops n)[p].toNat false), rfl, by omega, by rw [List.length_set]; exact hSl', fun i hi => by rw [getD_setBn (by omega)]; exact hlt' i hi, ?_, hyl, by rw [List.getElem?_set_ne (by decide)]; exact y0, by rw [List.getElem?_set_ne (by omega)]; exact yN, by rw [List.getElem?_set_self hy1], by omega⟩⟩
        rw [getD_setB (by omega), all_take ek, ← hat', hb, hlt' _ (by omega)]
        rfl
      | false =>
        rw [hb] at hrow
        simp (maxSteps := 4000000) only [↓packA, ↓reduceIte, packB, pureOp, quietOp, loadOp, quietB, fr0, cellsK, implies_true, ite_true, ite_false, eq_self, ne_eq, reduceCtorEq, Nat.reduceLT, Nat.reduceLeDiff, Nat.reduceAdd, Nat.reduceMul, Nat.reduceBEq, Nat.reduceEqDiff, Int.reduceToNat, Int.reduceLT, Int.reduceLE, Nat.reduceSub, pl7, ft1, ft2, ft3, ft4, ft22, ft23, ft25, ft38, ft44, ft54, ft57, ft61, ft63, ft74, ft77, ft96, ints, a1, a5, a8, a33, a34, a35, a9, a10, a44, a45, a46, qp, eg, hrow, hrow2, y1, bool_setN, List.length_map, concA, Int.reduceAdd, Int.reduceSub, Int.reduceNeg, Int.reduceMul, Int.reduceEq, Int.reduceBEq, Int.reduceBNe]
        refine ⟨by omega, cp, by omega, by omega, by omega, .inl ⟨(nops n).length - (p + 1), by omega, p + 1, S'.set v false, rfl, by omega, by rw [List.length_set]; exact hSl', fun i hi => by rw [getD_setBn (by omega)]; exact hlt' i hi, ?_, hyl, by rw [List.getElem?_set_ne (by decide)]; exact y0, by rw [List.getElem?_set_ne (by omega)]; exact yN, by rw [List.getElem?_set_self hy1], by omega⟩⟩
        rw [getD_setB (by omega), all_take ek, ← hat', hb]
        rfl
    · have qp : ¬ (p : Int) < ((nops n).length : Int) := by omega
      obtain rfl : p = (nops n).length := by omega
      rw [List.take_length] at hat'
      simp (maxSteps := 4000000) only [↓packA, ↓reduceIte, packB, pureOp, quietOp, loadOp, quietB, fr0, cellsK, implies_true, ite_true, ite_false, eq_self, ne_eq, reduceCtorEq, Nat.reduceLT, Nat.reduceLeDiff, Nat.reduceAdd, Nat.reduceMul, Nat.reduceBEq, Nat.reduceEqDiff, Int.reduceToNat, Int.reduceLT, Int.reduceLE, Nat.reduceSub, pl7, ft1, ft2, ft3, ft4, ft22, ft23, ft25, ft38, ft44, ft54, ft57, ft61, ft63, ft74, ft77, ft96, ints, a1, a5, a8, a33, a34, a35, a9, a10, a44, a45, a46, qp, yN, Nd.cells, concA, Int.reduceAdd, Int.reduceSub, Int.reduceNeg, Int.reduceMul, Int.reduceEq, Int.reduceBEq, Int.reduceBNe]
      refine acalls_fresh hbo (.cons (.pure _ rfl) .nil) fun u hx hz => ⟨_, hz, ?_⟩
      simp (maxSteps := 4000000) only [↓packA, ↓reduceIte, packB, pureOp, quietOp, loadOp, quietB, fr0, cellsK, implies_true, ite_true, ite_false, eq_self, ne_eq, reduceCtorEq, Nat.reduceLT, Nat.reduceLeDiff, Nat.reduceAdd, Nat.reduceMul, Nat.reduceBEq, Nat.reduceEqDiff, Int.reduceToNat, Int.reduceLT, Int.reduceLE, Nat.reduceSub, pl7, ft1, ft2, ft3, ft4, ft22, ft23, ft25, ft38, ft44, ft54, ft57, ft61, ft63, ft74, ft77, ft96, a1, a5, a8, a33, a34, a35, a9, List.length_map, concA, Int.reduceAdd, Int.reduceSub, Int.reduceNeg, Int.reduceMul, Int.reduceEq, Int.reduceBEq, Int.reduceBNe]
      have hba := bends_at hnv
      have hbl : (bendsN n).length ≤ 2 := by
        unfold bendsN
        split
        · simp
        · split
          · simp
          · split <;> simp
      have hy1 : 1 < y.length := by omega
      refine LoopK.intro (fun m w y => ∃ (r : Nat) (S' : List Bool), m = (bendsN n).length - r ∧ r ≤ (bendsN n).length ∧ S'.length = ns.length ∧ (∀ i, i < v → S'.getD i false = S.getD i false) ∧ S'.getD v false = ((nops n).all (gB S) && ((bendsN n).take r).all fun p => fr p.1 || fr p.2) ∧ 1 < y.length ∧ y[0]? = some (.arr 3 A true) ∧ y[1]? = some (.arr 1 (List.map boolE S') true) ∧ w 1 = .op 0 3 0 0 ∧ w 5 = wv ∧ w 8 = .osl 1 1 0 ns.length ns.length true ∧ w 33 = .isl 7 (List.map Nd.cells ns) ∧ w 34 = .int .i64 ns.length ∧ w 35 = .int .i64 v ∧ w 9 = .int .i64 v ∧ w 65 = .isl 2 ((bendsN n).map pairC) ∧ w 66 = .int .i64 (bendsN n).length ∧ w 67 = .int .i64 r) (bendsN n).length ⟨0, S', rfl, by omega, hSl', hlt', by rw [hat']; simp, hy1, y0, y1, ?_, ?_, ?_, ?_, ?_, ?_, ?_, ?_, ?_, ?_⟩ ?_
      rotate_right
      all_goals (try (simp (maxSteps := 4000000) only [↓packA, ↓reduceIte, packB, pureOp, quietOp, loadOp, quietB, fr0, cellsK, implies_true, ite_true, ite_false, eq_self, ne_eq, reduceCtorEq, Nat.reduceLT, Nat.reduceLeDiff, Nat.reduceAdd, Nat.reduceMul, Nat.reduceBEq, Nat.reduceEqDiff, Int.reduceToNat, Int.reduceLT, Int.reduceLE, Nat.reduceSub, pl7, ft1, ft2, ft3, ft4, ft22, ft23, ft25, ft38, ft44, ft54, ft57, ft61, ft63, ft74, ft77, ft96, a1, a5, a8, a33, a34, a35, a9, List.length_map, Int.natCast_zero, concA, Int.reduceAdd, Int.reduceSub, Int.reduceNeg, Int.reduceMul, Int.reduceEq, Int.reduceBEq, Int.reduceBNe]; done))
      clear a1 a5 a8 a33 a34 a35 a9 a10 a44 a45 a46 y0 y1 yN hat' hlt' hSl' hyl hy1
      rintro m w y ⟨r, S', rfl, hr, hSl', hlt', hat', hyl, y0, y1, a1, a5, a8, a33, a34, a35, a9, a65, a66, a67⟩
      by_cases cr : r < (bendsN n).length
      · have qr : (r : Int) < ((bendsN n).length : Int) := by omega
        have ek : (bendsN n)[r]? = some (bendsN n)[r] := List.getElem?_eq_getElem cr
        have hxr := hba (bendsN n)[r] (List.getElem_mem cr)
        have rr : ((bendsN n).map pairC)[r]? = some (pairC (bendsN n)[r]) := by rw [List.getElem?_map, ek]; rfl
        have hrow := bool_row (l := S') (i := v) (by omega)
        have hf1 := hfc2 (bendsN n)[r].1 (by omega)
        have hf2 := hfc2 (bendsN n)[r].2 (by omega)
        have hall := all_take (f := fun p => fr p.1 || fr p.2) ek
        obtain ⟨N2, hN2⟩ : ∃ N2, y.length = N2 := ⟨_, rfl⟩
        have tN2 := tailR hN2
        have t1 : ∀ t, (y ++ t)[1]? = some (.arr 1 (List.map boolE S') true) := fun t => by rw [List.getElem?_append_left hyl]; exact y1
        have st1' : ∀ t o, (y ++ t).set 1 o = y.set 1 o ++ t := fun t o => List.set_append_left _ _ hyl
        have fin : ∀ (b : Bool) (t : Heap), (S'.getD v false && (fr (bendsN n)[r].1 || fr (bendsN n)[r].2)) = b → (S'.set v b).length = ns.length ∧ (∀ i, i < v → (S'.set v b).getD i false = S.getD i false) ∧ (S'.set v b).getD v false = ((nops n).all (gB S) && ((bendsN n).take (r + 1)).all fun p => fr p.1 || fr p.2) ∧ (y.set 1 (.arr 1 (List.map boolE (S'.set v b)) true) ++ t)[0]? = some (.arr 3 A true) ∧ (y.set 1 (.arr 1 (List.map boolE (S'.set v b)) true) ++ t)[1]? = some (.arr 1 (List.map boolE (S'.set v b)) true) := fun b t hb => by
          refine ⟨by rw [List.length_set]; exact hSl', fun i hi => by rw [getD_setBn (by omega)]; exact hlt' i hi, ?_, ?_, ?_⟩
          · rw [getD_setB (by omega), ← hb, hat', hall, Bool.and_assoc]
          · rw [List.getElem?_append_left (by simp; omega), List.getElem?_set_ne (by decide)]; exact y0
          · rw [List.getElem?_append_left (by simpa using hyl), List.getElem?_set_self hyl]
        have hpu : ∀ x, pures [wv, .int .i64 x] = true := fun x => by simp [pures, hwp, AV.pure]
        cases hb : S'.getD v false with
        | false =>
          rw [hb] at hrow
          obtain ⟨g1, g2, g3, g4, g5⟩ := fin false [.arr 2 [pairC (bendsN n)[r]] true] (by rw [hb]; rfl)
          simp (maxSteps := 4000000) only [↓packA, ↓reduceIte, packB, pureOp, quietOp, loadOp, quietB, fr0, cellsK, implies_true, ite_true, ite_false, eq_self, ne_eq, reduceCtorEq, Nat.reduceLT, Nat.reduceLeDiff, Nat.reduceAdd, Nat.reduceMul, Nat.reduceBEq, Nat.reduceEqDiff, Int.reduceToNat, Int.reduceLT, Int.reduceLE, Nat.reduceSub, pl7, ft1, ft2, ft3, ft4, ft22, ft23, ft25, ft38, ft44, ft54, ft57, ft61, ft63, ft74, ft77, ft96, a1, a5, a8, a33, a34, a35, a9, a65, a66, a67, qr, rr, hrow, hN2, tN2, t1, st1', bool_setN, pairC, concA, Int.reduceAdd, Int.reduceSub, Int.reduceNeg, Int.reduceMul, Int.reduceEq, Int.reduceBEq, Int.reduceBNe]
          exact ⟨by omega, by omega, by omega, by omega, .inl ⟨(bendsN n).length - (r + 1), by omega, r + 1, _, rfl, by omega, g1, g2, g3, by omega, g4, g5, by omega⟩⟩
        | true =>
          rw [hb] at hrow
          cases hx1 : fr (bendsN n)[r].1 with
          | true =>
            rw [hx1] at hf1
            obtain ⟨g1, g2, g3, g4, g5⟩ := fin true [.arr 2 [pairC (bendsN n)[r]] true] (by rw [hb, hx1]; rfl)
            simp (maxSteps := 4000000) only [↓packA, ↓reduceIte, packB, pureOp, quietOp, loadOp, quietB, fr0, cellsK, implies_true, ite_true, ite_false, eq_self, ne_eq, reduceCtorEq, Nat.reduceLT, Nat.reduceLeDiff, Nat.reduceAdd, Nat.reduceMul, Nat.reduceBEq, Nat.reduceEqDiff, Int.reduceToNat, Int.reduceLT, Int.reduceLE, Nat.reduceSub, pl7, ft1, ft2, ft3, ft4, ft22, ft23, ft25, ft38, ft44, ft54, ft57, ft61, ft63, ft74, ft77, ft96, a1, a5, a8, a33, a34, a35, a9, a65, a66, a67, qr, rr, hrow, hN2, tN2, t1, st1', bool_setN, pairC, concA, Int.reduceAdd, Int.reduceSub, Int.reduceNeg, Int.reduceMul, Int.reduceEq, Int.reduceBEq, Int.reduceBNe]
            refine ⟨by omega, by omega, acalls_pure hf1 (hpu _) ?_⟩
            simp (maxSteps := 4000000) only [↓packA, ↓reduceIte, packB, pureOp, quietOp, loadOp, quietB, fr0, cellsK, implies_true, ite_true, ite_false, eq_self, ne_eq, reduceCtorEq, Nat.reduceLT, Nat.reduceLeDiff, Nat.reduceAdd, Nat.reduceMul, Nat.reduceBEq, Nat.reduceEqDiff, Int.reduceToNat, Int.reduceLT, Int.reduceLE, Nat.reduceSub, pl7, ft1, ft2, ft3, ft4, ft22, ft23, ft25, ft38, ft44, ft54, ft57, ft61, ft63, ft74, ft77, ft96, a1, a5, a8, a33, a34, a35, a9, a65, a66, a67, qr, rr, hrow, hN2, tN2, t1, st1', bool_setN, pairC, concA, Int.reduceAdd, Int.reduceSub, Int.reduceNeg, Int.reduceMul, Int.reduceEq, Int.reduceBEq, Int.reduceBNe]
            exact ⟨by omega, by omega, .inl ⟨(bendsN n).length - (r + 1), by omega, r + 1, _, rfl, by omega, g1, g2, g3, by omega, g4, g5, by omega⟩⟩
          | false =>
            rw [hx1] at hf1
            obtain ⟨g1, g2, g3, g4, g5⟩ := fin (fr (bendsN n)[r].2) [.arr 2 [pairC (bendsN n)[r]] true] (by rw [hb, hx1]; rfl)
            simp (maxSteps := 4000000) only [↓packA, ↓reduceIte, packB, pureOp, quietOp, loadOp, quietB, fr0, cellsK, implies_true, ite_true, ite_false, eq_self, ne_eq, reduceCtorEq, Nat.reduceLT, Nat.reduceLeDiff, Nat.reduceAdd, Nat.reduceMul, Nat.reduceBEq, Nat.reduceEqDiff, Int.reduceToNat, Int.reduceLT, Int.reduceLE, Nat.reduceSub, pl7, ft1, ft2, ft3, ft4, ft22, ft23, ft25, ft38, ft44, ft54, ft57, ft61, ft63, ft74, ft77, ft96, a1, a5, a8, a33, a34, a35, a9, a65, a66, a67, qr, rr, hrow, hN2, tN2, t1, st1', bool_setN, pairC, concA, Int.reduceAdd, Int.reduceSub, Int.reduceNeg, Int.reduceMul, Int.reduceEq, Int.reduceBEq, Int.reduceBNe]
            refine ⟨by omega, by omega, acalls_pure hf1 (hpu _) ?_⟩
            simp (maxSteps := 4000000) only [↓packA, ↓reduceIte, packB, pureOp, quietOp, loadOp, quietB, fr0, cellsK, implies_true, ite_true, ite_false, eq_self, ne_eq, reduceCtorEq, Nat.reduceLT, Nat.reduceLeDiff, Nat.reduceAdd, Nat.reduceMul, Nat.reduceBEq, Nat.reduceEqDiff, Int.reduceToNat, Int.reduceLT, Int.reduceLE, Nat.reduceSub, pl7, ft1, ft2, ft3, ft4, ft22, ft23, ft25, ft38, ft44, ft54, ft57, ft61, ft63, ft74, ft77, ft96, a1, a5, a8, a33, a34, a35, a9, a65, a66, a67, qr, rr, hrow, hN2, tN2, t1, st1', bool_setN, pairC, concA, Int.reduceAdd, Int.reduceSub, Int.reduceNeg, Int.reduceMul, Int.reduceEq, Int.reduceBEq, Int.reduceBNe]
            refine acalls_pure hf2 (hpu _) ?_
            simp (maxSteps := 4000000) only [↓packA, ↓reduceIte, packB, pureOp, quietOp, loadOp, quietB, fr0, cellsK, implies_true, ite_true, ite_false, eq_self, ne_eq, reduceCtorEq, Nat.reduceLT, Nat.reduceLeDiff, Nat.reduceAdd, Nat.reduceMul, Nat.reduceBEq, Nat.reduceEqDiff, Int.reduceToNat, Int.reduceLT, Int.reduceLE, Nat.reduceSub, pl7, ft1, ft2, ft3, ft4, ft22, ft23, ft25, ft38, ft44, ft54, ft57, ft61, ft63, ft74, ft77, ft96, a1, a5, a8, a33, a34, a35, a9, a65, a66, a67, qr, rr, hrow, hN2, tN2, t1, st1', bool_setN, pairC, concA, Int.reduceAdd, Int.reduceSub, Int.reduceNeg, Int.reduceMul, Int.reduceEq, Int.reduceBEq, Int.reduceBNe]
            exact ⟨by omega, by omega, .inl ⟨(bendsN n).length - (r + 1), by omega, r + 1, _, rfl, by omega, g1, g2, g3, by omega, g4, g5, by omega⟩⟩
      · have qr : ¬ (r : Int) < ((bendsN n).length : Int) := by omega
        obtain rfl : r = (bendsN n).length := by omega
        rw [List.take_length] at hat'
        simp (maxSteps := 4000000) only [↓packA, ↓reduceIte, packB, pureOp, quietOp, loadOp, quietB, fr0, cellsK, implies_true, ite_true, ite_false, eq_self, ne_eq, reduceCtorEq, Nat.reduceLT, Nat.reduceLeDiff, Nat.reduceAdd, Nat.reduceMul, Nat.reduceBEq, Nat.reduceEqDiff, Int.reduceToNat, Int.reduceLT, Int.reduceLE, Nat.reduceSub, pl7, ft1, ft2, ft3, ft4, ft22, ft23, ft25, ft38, ft44, ft54, ft57, ft61, ft63, ft74, ft77, ft96, a1, a5, a8, a33, a34, a35, a9, a65, a66, a67, qr, concA, Int.reduceAdd, Int.reduceSub, Int.reduceNeg, Int.reduceMul, Int.reduceEq, Int.reduceBEq, Int.reduceBNe]
        exact ⟨by omega, .inl ⟨ns.length - (v + 1), by omega, v + 1, S', rfl, by omega, hS.step hn hnv hSl' hlt' hat', hyl, y0, y1, by omega⟩⟩
  · have q1 : ¬ (v : Int) < (ns.length : Int) := by omega
    obtain rfl : v = ns.length := by omega
    simp (maxSteps := 4000000) only [↓packA, ↓reduceIte, packB, pureOp, quietOp, loadOp, quietB, fr0, cellsK, implies_true, ite_true, ite_false, eq_self, ne_eq, reduceCtorEq, Nat.reduceLT, Nat.reduceLeDiff, Nat.reduceAdd, Nat.reduceMul, Nat.reduceBEq, Nat.reduceEqDiff, Int.reduceToNat, Int.reduceLT, Int.reduceLE, Nat.reduceSub, pl7, ft1, ft2, ft3, ft4, ft22, ft23, ft25, ft38, ft44, ft54, ft57, ft61, ft63, ft74, ft77, ft96, a1, a5, a8, a33, a34, a35, q1, h0, hA0, List.length_map, concA, Int.reduceAdd, Int.reduceSub, Int.reduceNeg, Int.reduceMul, Int.reduceEq, Int.reduceBEq, Int.reduceBNe]
    have hSd := hS.done
    have hSl := hS.1
    refine LoopK.intro (fun m w y => ∃ (k : Nat) (x : AV), m = outs.length - k ∧ k ≤ outs.length ∧ OL (fun i => i ≤ 1) 1 y x (((outs.take k).map (gB S)).map boolE) ∧ 1 < y.length ∧ y[1]? = some (.arr 1 (List.map boolE S) true) ∧ w 8 = .osl 1 1 0 ns.length ns.length true ∧ w 15 = x ∧ w 93 = .isl 1 (List.map intE outs) ∧ w 94 = .int .i64 outs.length ∧ w 95 = .int .i64 k) outs.length ⟨0, .nils, rfl, by omega, OL.nil, hzl, h1, ?_, ?_, ?_, ?_, ?_⟩ ?_
    rotate_right
    all_goals (try (simp (maxSteps := 4000000) only [↓packA, ↓reduceIte, packB, pureOp, quietOp, loadOp, quietB, fr0, cellsK, implies_true, ite_true, ite_false, eq_self, ne_eq, reduceCtorEq, Nat.reduceLT, Nat.reduceLeDiff, Nat.reduceAdd, Nat.reduceMul, Nat.reduceBEq, Nat.reduceEqDiff, Int.reduceToNat, Int.reduceLT, Int.reduceLE, Nat.reduceSub, pl7, ft1, ft2, ft3, ft4, ft22, ft23, ft25, ft38, ft44, ft54, ft57, ft61, ft63, ft74, ft77, ft96, a1, a5, a8, List.length_map, Int.natCast_zero, concA, Int.reduceAdd, Int.reduceSub, Int.reduceNeg, Int.reduceMul, Int.reduceEq, Int.reduceBEq, Int.reduceBNe]; done))
    clear a1 a5 a8 a33 a34 a35
    rintro m w y ⟨k, x, rfl, hk, hO, hyl, y1, a8, a15, a93, a94, a95⟩
    by_cases ck : k < outs.length
    · have qk : (k : Int) < (outs.length : Int) := by omega
      have ek : outs[k]? = some outs[k] := List.getElem?_eq_getElem ck
      have eg : outs.getD k default = outs[k] := by rw [List.getD_eq_getElem?_getD, ek]; rfl
      have hok := hout outs[k] (List.getElem_mem ck)
      have hrow := bool_row (l := S) (i := outs[k].toNat) (by omega)
      obtain ⟨N2, hN2⟩ : ∃ N2, y.length = N2 := ⟨_, rfl⟩
      have tN2 := tailR hN2
      have t1 : ∀ t, (y ++ t)[1]? = some (.arr 1 (List.map boolE S) true) := fun t => by rw [List.getElem?_append_left hyl]; exact y1
      simp (maxSteps := 4000000) only [↓packA, ↓reduceIte, packB, pureOp, quietOp, loadOp, quietB, fr0, cellsK, implies_true, ite_true, ite_false, eq_self, ne_eq, reduceCtorEq, Nat.reduceLT, Nat.reduceLeDiff, Nat.reduceAdd, Nat.reduceMul, Nat.reduceBEq, Nat.reduceEqDiff, Int.reduceToNat, Int.reduceLT, Int.reduceLE, Nat.reduceSub, pl7, ft1, ft2, ft3, ft4, ft22, ft23, ft25, ft38, ft44, ft54, ft57, ft61, ft63, ft74, ft77, ft96, a8, a15, a93, a94, a95, qk, eg, hrow, y1, hN2, tN2, t1, concA, Int.reduceAdd, Int.reduceSub, Int.reduceNeg, Int.reduceMul, Int.reduceEq, Int.reduceBEq, Int.reduceBNe]
      refine ⟨by omega, by omega, by omega, ?_⟩
      refine ol_push (F := fun i => i ≤ 1) 1 rfl rfl (fun i hi => by simp; omega) hO.app (by simp; omega) fun x' z' ⟨xi, xc, xe, hx', _⟩ hO' hl' _ hF' => ?_
      subst hx'
      simp only [List.length_map] at hO'
      simp (maxSteps := 4000000) only [↓packA, ↓reduceIte, packB, pureOp, quietOp, loadOp, quietB, fr0, cellsK, implies_true, ite_true, ite_false, eq_self, ne_eq, reduceCtorEq, Nat.reduceLT, Nat.reduceLeDiff, Nat.reduceAdd, Nat.reduceMul, Nat.reduceBEq, Nat.reduceEqDiff, Int.reduceToNat, Int.reduceLT, Int.reduceLE, Nat.reduceSub, pl7, ft1, ft2, ft3, ft4, ft22, ft23, ft25, ft38, ft44, ft54, ft57, ft61, ft63, ft74, ft77, ft96, a8, a15, a93, a94, a95, concA, Int.reduceAdd, Int.reduceSub, Int.reduceNeg, Int.reduceMul, Int.reduceEq, Int.reduceBEq, Int.reduceBNe]
      refine ⟨by omega, .inl ⟨outs.length - (k + 1), by omega, k + 1, _, rfl, by omega, by rw [List.take_add_one, ek, List.map_append, List.map_append]; exact hO', by simp at hl'; omega, by rw [hF' 1 (by omega)]; exact t1 _, rfl, by omega⟩⟩
    · have qk : ¬ (k : Int) < (outs.length : Int) := by omega
      obtain rfl : k = outs.length := by omega
      rw [List.take_length, hSd] at hO
      simp (maxSteps := 4000000) only [↓packA, ↓reduceIte, packB, pureOp, quietOp, loadOp, quietB, fr0, cellsK, implies_true, ite_true, ite_false, eq_self, ne_eq, reduceCtorEq, Nat.reduceLT, Nat.reduceLeDiff, Nat.reduceAdd, Nat.reduceMul, Nat.reduceBEq, Nat.reduceEqDiff, Int.reduceToNat, Int.reduceLT, Int.reduceLE, Nat.reduceSub, pl7, ft1, ft2, ft3, ft4, ft22, ft23, ft25, ft38, ft44, ft54, ft57, ft61, ft63, ft74, ft77, ft96, a8, a15, a93, a94, a95, qk, concA, Int.reduceAdd, Int.reduceSub, Int.reduceNeg, Int.reduceMul, Int.reduceEq, Int.reduceBEq, Int.reduceBNe]
      exact frz_three (hO.frz_self fun e he => by obtain ⟨y, _, rfl⟩ := List.mem_map.1 he; rfl) rfl rfl
end Go.Proofs.YtclbobielhllmaaGreat
end
section
namespace Go.Proofs.YtclbobielhllmaaGreat
open Go Go.AL
set_option linter.unusedVariables false
set_option linter.unusedSimpArgs false
theorem live_ex {ns : List Nd} {outs : List Int} {vars : Int} (hat : ∀ (k : Nat) (n : Nd), ns[k]? = some n → NdAt vars k n) : ∀ k, k ≤ ns.length → ∀ L, LiveD ns outs L k → ∃ l, LiveL ns outs l
  | 0, _, L, h => ⟨L, h.done⟩
  | k + 1, hk, L, h => by
    have hn : ns[k]? = some (ns[k]'(by omega)) := List.getElem?_eq_getElem (by omega)
    cases hb : L.getD k false with
    | false => exact live_ex hat k (by omega) L (h.skip hb)
    | true => exact live_ex hat k (by omega) _ (h.step hn (hat k _ hn) hb)
theorem liveO_spec {ns : List Nd} {outs : List Int} {vars : Int} (hat : ∀ (k : Nat) (n : Nd), ns[k]? = some n → NdAt vars k n) (ho : ∀ o, o ∈ outs → 0 ≤ o ∧ o < ns.length) : LiveL ns outs (liveO ns outs) :=
  Classical.epsilon_spec (p := fun l => LiveL ns outs l) (live_ex hat ns.length (Nat.le_refl _) _ (LiveD.start ho))
def rbN (n : Nd) (p q : Int) : Bool := if n.op = 5 then decide (¬ p = q) else if n.op = 6 then decide (p = 1 ∨ q = 1) else if n.op = 8 then decide (n.c ≠ 0 ∧ n.c ≠ 1) else false
set_option maxRecDepth 100000 in
theorem rbends_c (n : Nd) (p q : Int) : APure Tryz.prog 26 [n.V, .int .i64 p, .int .i64 q] (.bool (rbN n p q)) := by
  refine apure_of (wp26 rfl rfl ?_)
  unfold rbN
  by_cases o5 : n.op = 5
  · rw [if_pos o5]
    simp (maxSteps := 4000000) only [↓packA, ↓reduceIte, packB, pureOp, quietOp, loadOp, quietB, fr0, cellsK, implies_true, ite_true, ite_false, eq_self, ne_eq, reduceCtorEq, Nat.reduceLT, Nat.reduceLeDiff, Nat.reduceAdd, Nat.reduceMul, Nat.reduceBEq, Nat.reduceEqDiff, Int.reduceToNat, Int.reduceLT, Int.reduceLE, Nat.reduceSub, pl26, ft3, ft57, ft61, ft63, Nd.V, Nd.cells, o5, concA, Int.reduceAdd, Int.reduceSub, Int.reduceNeg, Int.reduceMul, Int.reduceEq, Int.reduceBEq, Int.reduceBNe]
    rw [bne_dec]
    exact .pure _ rfl
  by_cases o6 : n.op = 6
  · rw [if_neg o5, if_pos o6]
    by_cases cp : p = 1
    · rw [decide_eq_true (.inl cp)]
      simp (maxSteps := 4000000) only [↓packA, ↓reduceIte, packB, pureOp, quietOp, loadOp, quietB, fr0, cellsK, implies_true, ite_true, ite_false, eq_self, ne_eq, reduceCtorEq, Nat.reduceLT, Nat.reduceLeDiff, Nat.reduceAdd, Nat.reduceMul, Nat.reduceBEq, Nat.reduceEqDiff, Int.reduceToNat, Int.reduceLT, Int.reduceLE, Nat.reduceSub, pl26, ft3, ft57, ft61, ft63, Nd.V, Nd.cells, o6, cp, concA, Int.reduceAdd, Int.reduceSub, Int.reduceNeg, Int.reduceMul, Int.reduceEq, Int.reduceBEq, Int.reduceBNe]
      exact .pure _ rfl
    · rw [show decide (p = 1 ∨ q = 1) = decide (q = 1) from by simp [cp]]
      simp (maxSteps := 4000000) only [↓packA, ↓reduceIte, packB, pureOp, quietOp, loadOp, quietB, fr0, cellsK, implies_true, ite_true, ite_false, eq_self, ne_eq, reduceCtorEq, Nat.reduceLT, Nat.reduceLeDiff, Nat.reduceAdd, Nat.reduceMul, Nat.reduceBEq, Nat.reduceEqDiff, Int.reduceToNat, Int.reduceLT, Int.reduceLE, Nat.reduceSub, pl26, ft3, ft57, ft61, ft63, Nd.V, Nd.cells, o6, cp, concA, Int.reduceAdd, Int.reduceSub, Int.reduceNeg, Int.reduceMul, Int.reduceEq, Int.reduceBEq, Int.reduceBNe]
      rw [show (q == 1) = decide (q = 1) from by rw [Bool.eq_iff_iff]; simp]
      exact .pure _ rfl
  by_cases o8 : n.op = 8
  · rw [if_neg o5, if_neg o6, if_pos o8]
    by_cases c0 : n.c = 0
    · rw [show decide (n.c ≠ 0 ∧ n.c ≠ 1) = false from by simp [c0]]
      simp (maxSteps := 4000000) only [↓packA, ↓reduceIte, packB, pureOp, quietOp, loadOp, quietB, fr0, cellsK, implies_true, ite_true, ite_false, eq_self, ne_eq, reduceCtorEq, Nat.reduceLT, Nat.reduceLeDiff, Nat.reduceAdd, Nat.reduceMul, Nat.reduceBEq, Nat.reduceEqDiff, Int.reduceToNat, Int.reduceLT, Int.reduceLE, Nat.reduceSub, pl26, ft3, ft57, ft61, ft63, Nd.V, Nd.cells, o8, c0, concA, Int.reduceAdd, Int.reduceSub, Int.reduceNeg, Int.reduceMul, Int.reduceEq, Int.reduceBEq, Int.reduceBNe]
      exact .pure _ rfl
    · rw [show decide (n.c ≠ 0 ∧ n.c ≠ 1) = decide (¬ n.c = 1) from by simp [c0]]
      simp (maxSteps := 4000000) only [↓packA, ↓reduceIte, packB, pureOp, quietOp, loadOp, quietB, fr0, cellsK, implies_true, ite_true, ite_false, eq_self, ne_eq, reduceCtorEq, Nat.reduceLT, Nat.reduceLeDiff, Nat.reduceAdd, Nat.reduceMul, Nat.reduceBEq, Nat.reduceEqDiff, Int.reduceToNat, Int.reduceLT, Int.reduceLE, Nat.reduceSub, pl26, ft3, ft57, ft61, ft63, Nd.V, Nd.cells, o8, c0, concA, Int.reduceAdd, Int.reduceSub, Int.reduceNeg, Int.reduceMul, Int.reduceEq, Int.reduceBEq, Int.reduceBNe]
      rw [bne_dec]
      exact .pure _ rfl
  · rw [if_neg o5, if_neg o6, if_neg o8]
    simp (maxSteps := 4000000) only [↓packA, ↓reduceIte, packB, pureOp, quietOp, loadOp, quietB, fr0, cellsK, implies_true, ite_true, ite_false, eq_self, ne_eq, reduceCtorEq, Nat.reduceLT, Nat.reduceLeDiff, Nat.reduceAdd, Nat.reduceMul, Nat.reduceBEq, Nat.reduceEqDiff, Int.reduceToNat, Int.reduceLT, Int.reduceLE, Nat.reduceSub, pl26, ft3, ft57, ft61, ft63, Nd.V, Nd.cells, o5, o6, o8, concA, Int.reduceAdd, Int.reduceSub, Int.reduceNeg, Int.reduceMul, Int.reduceEq, Int.reduceBEq, Int.reduceBNe]
    exact .pure _ rfl
def okpq (fr : Int → Bool) (n : Nd) (p q : Nat) : Bool := !(rbN n p q && !fr ((nops n).getD p default) && !fr ((nops n).getD q default))
theorem loc_iff {fr : Int → Bool} {n : Nd} (h : 1 ≤ n.op ∧ n.op ≤ 8) : (∀ p, p < (nops n).length → ∀ q, q < (nops n).length → okpq fr n p q = true) ↔ locN fr n = true := by
  unfold locN
  by_cases o5 : n.op = 5
  · have h2 : two n.op = true := by rw [o5]; rfl
    rw [show bendsN n = [(n.a, n.b)] from if_pos o5, nops_two h2]
    have k : ∀ p q : Nat, okpq fr n p q = !(decide (¬ (p : Int) = q) && !fr ([n.a, n.b].getD p default) && !fr ([n.a, n.b].getD q default)) := fun p q => by unfold okpq rbN; rw [if_pos o5, nops_two h2]
    simp only [List.length_cons, List.length_nil, List.all_cons, List.all_nil, Bool.and_true]
    constructor
    · intro hh
      have h1 := hh 0 (by decide) 1 (by decide)
      rw [k] at h1
      clear hh k
      cases hA : fr n.a <;> cases hB : fr n.b <;> simp_all
    · intro hh p hp q hq
      rw [k]
      have hp2 : p = 0 ∨ p = 1 := by omega
      have hq2 : q = 0 ∨ q = 1 := by omega
      clear k
      rcases hp2 with rfl | rfl <;> rcases hq2 with rfl | rfl <;> cases hA : fr n.a <;> cases hB : fr n.b <;> simp_all
  by_cases o6 : n.op = 6
  · have h2 : two n.op = true := by rw [o6]; rfl
    rw [show bendsN n = [(n.a, n.b), (n.b, n.b)] from by unfold bendsN; rw [if_neg o5, if_pos o6], nops_two h2]
    have k : ∀ p q : Nat, okpq fr n p q = !(decide ((p : Int) = 1 ∨ (q : Int) = 1) && !fr ([n.a, n.b].getD p default) && !fr ([n.a, n.b].getD q default)) := fun p q => by unfold okpq rbN; rw [if_neg o5, if_pos o6, nops_two h2]
    simp only [List.length_cons, List.length_nil, List.all_cons, List.all_nil, Bool.and_true]
    constructor
    · intro hh
      have h1 := hh 0 (by decide) 1 (by decide)
      have h2 := hh 1 (by decide) 1 (by decide)
      rw [k] at h1 h2
      clear hh k
      cases hA : fr n.a <;> cases hB : fr n.b <;> simp_all
    · intro hh p hp q hq
      rw [k]
      have hp2 : p = 0 ∨ p = 1 := by omega
      have hq2 : q = 0 ∨ q = 1 := by omega
      clear k
      rcases hp2 with rfl | rfl <;> rcases hq2 with rfl | rfl <;> cases hA : fr n.a <;> cases hB : fr n.b <;> simp_all
  by_cases o8 : n.op = 8
  · have h2 : ¬ two n.op = true := by rw [o8]; decide
    have h1 : one n.op = true := by rw [o8]; rfl
    rw [nops_onef h2 h1]
    have k : ∀ p q : Nat, okpq fr n p q = !(decide (n.c ≠ 0 ∧ n.c ≠ 1) && !fr ([n.a].getD p default) && !fr ([n.a].getD q default)) := fun p q => by unfold okpq rbN; rw [if_neg o5, if_neg o6, if_pos o8, nops_onef h2 h1]
    by_cases cc : n.c ≠ 0 ∧ n.c ≠ 1
    · rw [show bendsN n = [(n.a, n.a)] from by unfold bendsN; rw [if_neg o5, if_neg o6, if_pos ⟨o8, cc⟩]]
      simp only [List.length_cons, List.length_nil, List.all_cons, List.all_nil, Bool.and_true]
      constructor
      · intro hh
        have h1 := hh 0 (by decide) 0 (by decide)
        rw [k, decide_eq_true cc] at h1
        clear hh k
        cases hA : fr n.a <;> simp_all
      · intro hh p hp q hq
        rw [k]
        obtain rfl : p = 0 := by omega
        obtain rfl : q = 0 := by omega
        clear k
        cases hA : fr n.a <;> simp_all
    · rw [show bendsN n = [] from by unfold bendsN; rw [if_neg o5, if_neg o6, if_neg (fun e => cc e.2)]]
      exact ⟨fun _ => rfl, fun _ p hp q hq => by rw [k, decide_eq_false cc]; rfl⟩
  · rw [show bendsN n = [] from by unfold bendsN; rw [if_neg o5, if_neg o6, if_neg (fun e => o8 e.1)]]
    exact ⟨fun _ => rfl, fun _ p hp q hq => by unfold okpq rbN; rw [if_neg o5, if_neg o6, if_neg o8]; rfl⟩
end Go.Proofs.YtclbobielhllmaaGreat
end
section
namespace Go.Proofs.YtclbobielhllmaaGreat
open Go Go.AL
set_option linter.unusedVariables false
set_option linter.unusedSimpArgs false
set_option maxHeartbeats 16000000 in
set_option maxRecDepth 100000 in
theorem rlinear_c (t : Tp) (ht : t.Ok) : APure Tryz.prog 8 [t.V] (ansB (linT t)) := by
  refine apure_of (wp8 rfl rfl ?_)
  have pc := rcheck_c t ht
  have hfc := fun hg k h => rfree_c t hg k h
  obtain ⟨R, hR⟩ : ∃ R, R = linT t := ⟨_, rfl⟩
  rw [← hR]
  unfold linT at hR
  by_cases hc : t.check.2 = 0
  rotate_left
  · rw [if_neg hc] at hR
    subst hR
    simp (maxSteps := 4000000) only [↓packA, ↓reduceIte, packB, pureOp, quietOp, loadOp, quietB, fr0, cellsK, implies_true, ite_true, ite_false, eq_self, ne_eq, reduceCtorEq, Nat.reduceLT, Nat.reduceLeDiff, Nat.reduceAdd, Nat.reduceMul, Nat.reduceBEq, Nat.reduceEqDiff, Int.reduceToNat, Int.reduceLT, Int.reduceLE, Nat.reduceSub, pl8, ft1, ft2, ft3, ft4, ft22, ft23, ft25, ft44, ft57, ft61, ft63, ft70, Tp.V, concA, Int.reduceAdd, Int.reduceSub, Int.reduceNeg, Int.reduceMul, Int.reduceEq, Int.reduceBEq, Int.reduceBNe]
    refine acalls_pure pc rfl ?_
    simp (maxSteps := 4000000) only [↓packA, ↓reduceIte, packB, pureOp, quietOp, loadOp, quietB, fr0, cellsK, implies_true, ite_true, ite_false, eq_self, ne_eq, reduceCtorEq, Nat.reduceLT, Nat.reduceLeDiff, Nat.reduceAdd, Nat.reduceMul, Nat.reduceBEq, Nat.reduceEqDiff, Int.reduceToNat, Int.reduceLT, Int.reduceLE, Nat.reduceSub, pl8, ft1, ft2, ft3, ft4, ft22, ft23, ft25, ft44, ft57, ft61, ft63, ft70, Tp.V, hc, concA, Int.reduceAdd, Int.reduceSub, Int.reduceNeg, Int.reduceMul, Int.reduceEq, Int.reduceBEq, Int.reduceBNe]
    exact frz_three (.nils 1) rfl rfl
  rw [if_pos hc] at hR
  subst hR
  have hg := good_of hc
  have hnl := hg.nl
  have hol := hg.ol
  have hfc2 := hfc hg
  have hat := hg.at_
  have hout := hg.out
  have hha := hangs_c t.vars t.ns t.outs hg.vars (by omega) hat
  have hst := fun o ho l hl => straight_iff (fr := frB (msks t.ns)) hat (o := o) ho (l := l) hl
  have hlive := fun o ho => rlive_c t.vars t.ns [o] (by omega) (by simp) hat ho
  generalize hwv : hangV t.vars t.ns = wv at *
  have hwp : wv.pure = true := by rw [← hwv]; rfl
  generalize hfr : frB (msks t.ns) = fr at *
  generalize hck : t.check = ck at *
  clear hfc hg
  obtain ⟨vars, ns, outs⟩ := t
  simp only at hnl hol hfc2 hat hout hha hst hlive
  obtain ⟨A, hA⟩ : ∃ A : List (List AV), A = [[AV.int IntKind.i64 vars, AV.isl 7 (List.map Nd.cells ns), AV.isl 1 (List.map intE outs)]] := ⟨_, rfl⟩
  have hA0 : A[0]? = some [AV.int IntKind.i64 vars, AV.isl 7 (List.map Nd.cells ns), AV.isl 1 (List.map intE outs)] := by rw [hA]; rfl
  simp only [Tp.V, ints] at pc hha hlive
  simp (maxSteps := 4000000) only [↓packA, ↓reduceIte, packB, pureOp, quietOp, loadOp, quietB, fr0, cellsK, implies_true, ite_true, ite_false, eq_self, ne_eq, reduceCtorEq, Nat.reduceLT, Nat.reduceLeDiff, Nat.reduceAdd, Nat.reduceMul, Nat.reduceBEq, Nat.reduceEqDiff, Int.reduceToNat, Int.reduceLT, Int.reduceLE, Nat.reduceSub, pl8, ft1, ft2, ft3, ft4, ft22, ft23, ft25, ft44, ft57, ft61, ft63, ft70, Tp.V, ints, concA, Int.reduceAdd, Int.reduceSub, Int.reduceNeg, Int.reduceMul, Int.reduceEq, Int.reduceBEq, Int.reduceBNe]
  refine acalls_pure pc rfl ?_
  simp (maxSteps := 4000000) only [↓packA, ↓reduceIte, packB, pureOp, quietOp, loadOp, quietB, fr0, cellsK, implies_true, ite_true, ite_false, eq_self, ne_eq, reduceCtorEq, Nat.reduceLT, Nat.reduceLeDiff, Nat.reduceAdd, Nat.reduceMul, Nat.reduceBEq, Nat.reduceEqDiff, Int.reduceToNat, Int.reduceLT, Int.reduceLE, Nat.reduceSub, pl8, ft1, ft2, ft3, ft4, ft22, ft23, ft25, ft44, ft57, ft61, ft63, ft70, Tp.V, hc, concA, Int.reduceAdd, Int.reduceSub, Int.reduceNeg, Int.reduceMul, Int.reduceEq, Int.reduceBEq, Int.reduceBNe]
  refine acalls_pure hha rfl ?_
  rw [← hA]
  simp (maxSteps := 4000000) only [↓packA, ↓reduceIte, packB, pureOp, quietOp, loadOp, quietB, fr0, cellsK, implies_true, ite_true, ite_false, eq_self, ne_eq, reduceCtorEq, Nat.reduceLT, Nat.reduceLeDiff, Nat.reduceAdd, Nat.reduceMul, Nat.reduceBEq, Nat.reduceEqDiff, Int.reduceToNat, Int.reduceLT, Int.reduceLE, Nat.reduceSub, pl8, ft1, ft2, ft3, ft4, ft22, ft23, ft25, ft44, ft57, ft61, ft63, ft70, hA0, List.length_map, concA, Int.reduceAdd, Int.reduceSub, Int.reduceNeg, Int.reduceMul, Int.reduceEq, Int.reduceBEq, Int.reduceBNe]
  refine LoopK.intro (fun m w z => ∃ (k : Nat) (x : AV), m = outs.length - k ∧ k ≤ outs.length ∧ OL (fun i => i = 0) 1 z x (((outs.take k).map (gB (strs fr ns))).map boolE) ∧ 0 < z.length ∧ z[0]? = some (.arr 3 A true) ∧ w 1 = .op 0 3 0 0 ∧ w 7 = wv ∧ w 8 = x ∧ w 9 = .int .i64 k) outs.length ⟨0, .nils, rfl, by omega, OL.nil, by simp, rfl, ?_, ?_, ?_, ?_⟩ ?_
  rotate_right
  all_goals (try (simp (maxSteps := 4000000) only [↓packA, ↓reduceIte, packB, pureOp, quietOp, loadOp, quietB, fr0, cellsK, implies_true, ite_true, ite_false, eq_self, ne_eq, reduceCtorEq, Nat.reduceLT, Nat.reduceLeDiff, Nat.reduceAdd, Nat.reduceMul, Nat.reduceBEq, Nat.reduceEqDiff, Int.reduceToNat, Int.reduceLT, Int.reduceLE, Nat.reduceSub, pl8, ft1, ft2, ft3, ft4, ft22, ft23, ft25, ft44, ft57, ft61, ft63, ft70, Int.natCast_zero, concA, Int.reduceAdd, Int.reduceSub, Int.reduceNeg, Int.reduceMul, Int.reduceEq, Int.reduceBEq, Int.reduceBNe]; done))
  rintro m w z ⟨k, x, rfl, hk, hO, hzl, h0, a1, a7, a8, a9⟩
  by_cases c : k < outs.length
  · have q1 : (k : Int) < (outs.length : Int) := by omega
    have ek : outs[k]? = some outs[k] := List.getElem?_eq_getElem c
    have hok := hout outs[k] (List.getElem_mem c)
    have hall : ∀ o, o ∈ [outs[k]] → 0 ≤ o ∧ o < ns.length := fun o ho => by simp at ho; subst ho; exact hok
    have hlv := hlive outs[k] hall
    have hLs := liveO_spec hat hall
    have hst2 := hst outs[k] hok _ hLs
    have hsub : List.take (k + 1 - k) (List.drop k (List.map intE outs)) = List.map intE [outs[k]] := by
      rw [show k + 1 - k = 1 by omega, List.drop_eq_getElem_cons (by simpa using c), List.take_succ_cons, List.take_zero]
      simp
    generalize hL : liveO ns [outs[k]] = L at *
    have hLl := hLs.len
    simp only [bools] at hlv
    obtain ⟨N, hN⟩ : ∃ N, z.length = N := ⟨_, rfl⟩
    have tN := tailR hN
    simp (maxSteps := 4000000) only [↓packA, ↓reduceIte, packB, pureOp, quietOp, loadOp, quietB, fr0, cellsK, implies_true, ite_true, ite_false, eq_self, ne_eq, reduceCtorEq, Nat.reduceLT, Nat.reduceLeDiff, Nat.reduceAdd, Nat.reduceMul, Nat.reduceBEq, Nat.reduceEqDiff, Int.reduceToNat, Int.reduceLT, Int.reduceLE, Nat.reduceSub, pl8, ft1, ft2, ft3, ft4, ft22, ft23, ft25, ft44, ft57, ft61, ft63, ft70, a1, a7, a8, a9, q1, h0, hA0, hsub, List.length_map, patch, patch', concA, Int.reduceAdd, Int.reduceSub, Int.reduceNeg, Int.reduceMul, Int.reduceEq, Int.reduceBEq, Int.reduceBNe]
    refine ⟨by omega, by omega, by omega, by omega, acalls_pure hlv rfl ?_⟩
    simp (maxSteps := 4000000) only [↓packA, ↓reduceIte, packB, pureOp, quietOp, loadOp, quietB, fr0, cellsK, implies_true, ite_true, ite_false, eq_self, ne_eq, reduceCtorEq, Nat.reduceLT, Nat.reduceLeDiff, Nat.reduceAdd, Nat.reduceMul, Nat.reduceBEq, Nat.reduceEqDiff, Int.reduceToNat, Int.reduceLT, Int.reduceLE, Nat.reduceSub, pl8, ft1, ft2, ft3, ft4, ft22, ft23, ft25, ft44, ft57, ft61, ft63, ft70, a1, a7, a8, a9, h0, hA0, concA, Int.reduceAdd, Int.reduceSub, Int.reduceNeg, Int.reduceMul, Int.reduceEq, Int.reduceBEq, Int.reduceBNe]
    refine LoopK.intro (fun m w y => ∃ (v : Nat) (b : Bool), m = ns.length - v ∧ v ≤ ns.length ∧ (b = true ↔ ∀ (i : Nat) (n : Nd), i < v → ns[i]? = some n → L.getD i false = true → locN fr n = true) ∧ y = z ∧ w 1 = .op 0 3 0 0 ∧ w 7 = wv ∧ w 8 = x ∧ w 9 = .int .i64 k ∧ w 10 = .isl 1 (List.map boolE L) ∧ w 11 = .bool b ∧ w 12 = .int .i64 v) ns.length ⟨0, true, rfl, by omega, ⟨fun _ i n hi => absurd hi (by omega), fun _ => rfl⟩, rfl, ?_, ?_, ?_, ?_, ?_, ?_, ?_⟩ ?_
    rotate_right
    all_goals (try (simp (maxSteps := 4000000) only [↓packA, ↓reduceIte, packB, pureOp, quietOp, loadOp, quietB, fr0, cellsK, implies_true, ite_true, ite_false, eq_self, ne_eq, reduceCtorEq, Nat.reduceLT, Nat.reduceLeDiff, Nat.reduceAdd, Nat.reduceMul, Nat.reduceBEq, Nat.reduceEqDiff, Int.reduceToNat, Int.reduceLT, Int.reduceLE, Nat.reduceSub, pl8, ft1, ft2, ft3, ft4, ft22, ft23, ft25, ft44, ft57, ft61, ft63, ft70, a1, a7, a8, a9, Int.natCast_zero, concA, Int.reduceAdd, Int.reduceSub, Int.reduceNeg, Int.reduceMul, Int.reduceEq, Int.reduceBEq, Int.reduceBNe]; done))
    clear a1 a7 a8 a9
    rintro m w y ⟨v, b, rfl, hv, hb, rfl, a1, a7, a8, a9, a10, a11, a12⟩
    by_cases cv : v < ns.length
    · have qv : (v : Int) < (ns.length : Int) := by omega
      obtain ⟨n, hn⟩ : ∃ n, ns[v]? = some n := ⟨_, List.getElem?_eq_getElem cv⟩
      have rk : (List.map Nd.cells ns)[v]? = some (Nd.cells n) := by rw [List.getElem?_map, hn]; rfl
      have hnv := hat v n hn
      have hrow := bool_row (l := L) (i := v) (by omega)
      have hro := rops_o n
      have hrb := rbends_c n
      have hloc := loc_iff (fr := fr) hnv.op
      unfold Nd.V Nd.cells at hro hrb
      have hnp : (nops n).length ≤ 2 := by
        unfold nops
        split
        · simp
        · split <;> simp
      simp (maxSteps := 4000000) only [↓packA, ↓reduceIte, packB, pureOp, quietOp, loadOp, quietB, fr0, cellsK, implies_true, ite_true, ite_false, eq_self, ne_eq, reduceCtorEq, Nat.reduceLT, Nat.reduceLeDiff, Nat.reduceAdd, Nat.reduceMul, Nat.reduceBEq, Nat.reduceEqDiff, Int.reduceToNat, Int.reduceLT, Int.reduceLE, Nat.reduceSub, pl8, ft1, ft2, ft3, ft4, ft22, ft23, ft25, ft44, ft57, ft61, ft63, ft70, a1, a7, a8, a9, a10, a11, a12, qv, rk, h0, hA0, Nd.cells, List.length_map, concA, Int.reduceAdd, Int.reduceSub, Int.reduceNeg, Int.reduceMul, Int.reduceEq, Int.reduceBEq, Int.reduceBNe]
      refine ⟨by omega, ?_⟩
      refine acalls_fresh hro (.cons (.pure _ rfl) .nil) fun u hx hz => ⟨_, hz, ?_⟩
      simp (maxSteps := 4000000) only [↓packA, ↓reduceIte, packB, pureOp, quietOp, loadOp, quietB, fr0, cellsK, implies_true, ite_true, ite_false, eq_self, ne_eq, reduceCtorEq, Nat.reduceLT, Nat.reduceLeDiff, Nat.reduceAdd, Nat.reduceMul, Nat.reduceBEq, Nat.reduceEqDiff, Int.reduceToNat, Int.reduceLT, Int.reduceLE, Nat.reduceSub, pl8, ft1, ft2, ft3, ft4, ft22, ft23, ft25, ft44, ft57, ft61, ft63, ft70, a1, a7, a8, a9, a10, a11, a12, ints, concA, Int.reduceAdd, Int.reduceSub, Int.reduceNeg, Int.reduceMul, Int.reduceEq, Int.reduceBEq, Int.reduceBNe]
      have next : ∀ b2 : Bool, (b2 = true ↔ (b = true ∧ (L.getD v false = true → locN fr n = true))) → (b2 = true ↔ ∀ (i : Nat) (n : Nd), i < v + 1 → ns[i]? = some n → L.getD i false = true → locN fr n = true) := fun b2 h2 => by
        rw [h2, hb]
        constructor
        · rintro ⟨g1, g2⟩ i m hi hm hl
          by_cases e : i = v
          · subst e; rw [hn] at hm; obtain rfl := Option.some.inj hm; exact g2 hl
          · exact g1 i m (by omega) hm hl
        · intro g
          exact ⟨fun i m hi => g i m (by omega), fun hl => g v n (by omega) hn hl⟩
      cases hLv : L.getD v false with
      | false =>
        rw [hLv] at hrow
        refine LoopN.loop 1 ?_
        simp (maxSteps := 4000000) only [↓packA, ↓reduceIte, packB, pureOp, quietOp, loadOp, quietB, fr0, cellsK, implies_true, ite_true, ite_false, eq_self, ne_eq, reduceCtorEq, Nat.reduceLT, Nat.reduceLeDiff, Nat.reduceAdd, Nat.reduceMul, Nat.reduceBEq, Nat.reduceEqDiff, Int.reduceToNat, Int.reduceLT, Int.reduceLE, Nat.reduceSub, pl8, ft1, ft2, ft3, ft4, ft22, ft23, ft25, ft44, ft57, ft61, ft63, ft70, a1, a7, a8, a9, a10, a11, a12, hrow, hLl, List.length_map, ↓LoopN_succ, concA, Int.reduceAdd, Int.reduceSub, Int.reduceNeg, Int.reduceMul, Int.reduceEq, Int.reduceBEq, Int.reduceBNe]
        exact ⟨by omega, by omega, .inl ⟨ns.length - (v + 1), by omega, v + 1, b, rfl, by omega, next b (by rw [hLv]; simp), rfl, by omega⟩⟩
      | true =>
        rw [hLv] at hrow next
        refine LoopK.intro (fun m w y' => ∃ (p : Nat) (b2 : Bool), m = (nops n).length - p ∧ p ≤ (nops n).length ∧ (b2 = true ↔ (b = true ∧ ∀ p', p' < p → ∀ q, q < (nops n).length → okpq fr n p' q = true)) ∧ y' = y ∧ w 1 = .op 0 3 0 0 ∧ w 7 = wv ∧ w 8 = x ∧ w 9 = .int .i64 k ∧ w 10 = .isl 1 (List.map boolE L) ∧ w 11 = .bool b2 ∧ w 12 = .int .i64 v ∧ w 13 = ints (nops n) ∧ w 14 = .int .i64 p) (nops n).length ⟨0, b, rfl, by omega, ⟨fun h => ⟨h, fun p' hp' => absurd hp' (by omega)⟩, fun h => h.1⟩, rfl, ?_, ?_, ?_, ?_, ?_, ?_, ?_, ?_, ?_⟩ ?_
        rotate_right
        all_goals (try (simp (maxSteps := 4000000) only [↓packA, ↓reduceIte, packB, pureOp, quietOp, loadOp, quietB, fr0, cellsK, implies_true, ite_true, ite_false, eq_self, ne_eq, reduceCtorEq, Nat.reduceLT, Nat.reduceLeDiff, Nat.reduceAdd, Nat.reduceMul, Nat.reduceBEq, Nat.reduceEqDiff, Int.reduceToNat, Int.reduceLT, Int.reduceLE, Nat.reduceSub, pl8, ft1, ft2, ft3, ft4, ft22, ft23, ft25, ft44, ft57, ft61, ft63, ft70, a1, a7, a8, a9, a10, a11, a12, ints, Int.natCast_zero, concA, Int.reduceAdd, Int.reduceSub, Int.reduceNeg, Int.reduceMul, Int.reduceEq, Int.reduceBEq, Int.reduceBNe]; done))
        clear a1 a7 a8 a9 a10 a11 a12
        rintro m w y' ⟨p, b2, rfl, hp, hb2, rfl, a1, a7, a8, a9, a10, a11, a12, a13, a14⟩
        by_cases cp : p < (nops n).length
        · have qp : (p : Int) < ((nops n).length : Int) := by omega
          simp (maxSteps := 4000000) only [↓packA, ↓reduceIte, packB, pureOp, quietOp, loadOp, quietB, fr0, cellsK, implies_true, ite_true, ite_false, eq_self, ne_eq, reduceCtorEq, Nat.reduceLT, Nat.reduceLeDiff, Nat.reduceAdd, Nat.reduceMul, Nat.reduceBEq, Nat.reduceEqDiff, Int.reduceToNat, Int.reduceLT, Int.reduceLE, Nat.reduceSub, pl8, ft1, ft2, ft3, ft4, ft22, ft23, ft25, ft44, ft57, ft61, ft63, ft70, ints, a1, a7, a8, a9, a10, a11, a12, a13, a14, hrow, hLl, qp, List.length_map, concA, Int.reduceAdd, Int.reduceSub, Int.reduceNeg, Int.reduceMul, Int.reduceEq, Int.reduceBEq, Int.reduceBNe]
          refine ⟨by omega, ?_⟩
          refine LoopK.intro (fun m w y'' => ∃ (q : Nat) (b3 : Bool), m = (nops n).length - q ∧ q ≤ (nops n).length ∧ (b3 = true ↔ (b2 = true ∧ ∀ q', q' < q → okpq fr n p q' = true)) ∧ y'' = y' ∧ w 1 = .op 0 3 0 0 ∧ w 7 = wv ∧ w 8 = x ∧ w 9 = .int .i64 k ∧ w 10 = .isl 1 (List.map boolE L) ∧ w 11 = .bool b3 ∧ w 12 = .int .i64 v ∧ w 13 = ints (nops n) ∧ w 14 = .int .i64 p ∧ w 15 = .int .i64 q) (nops n).length ⟨0, b2, rfl, by omega, ⟨fun h => ⟨h, fun p' hp' => absurd hp' (by omega)⟩, fun h => h.1⟩, rfl, ?_, ?_, ?_, ?_, ?_, ?_, ?_, ?_, ?_, ?_⟩ ?_
          rotate_right
          all_goals (try (simp (maxSteps := 4000000) only [↓packA, ↓reduceIte, packB, pureOp, quietOp, loadOp, quietB, fr0, cellsK, implies_true, ite_true, ite_false, eq_self, ne_eq, reduceCtorEq, Nat.reduceLT, Nat.reduceLeDiff, Nat.reduceAdd, Nat.reduceMul, Nat.reduceBEq, Nat.reduceEqDiff, Int.reduceToNat, Int.reduceLT, Int.reduceLE, Nat.reduceSub, pl8, ft1, ft2, ft3, ft4, ft22, ft23, ft25, ft44, ft57, ft61, ft63, ft70, a1, a7, a8, a9, a10, a11, a12, a13, a14, ints, Int.natCast_zero, concA, Int.reduceAdd, Int.reduceSub, Int.reduceNeg, Int.reduceMul, Int.reduceEq, Int.reduceBEq, Int.reduceBNe]; done))
          clear a1 a7 a8 a9 a10 a11 a12 a13 a14
          rintro m w y'' ⟨q, b3, rfl, hq, hb3, rfl, a1, a7, a8, a9, a10, a11, a12, a13, a14, a15⟩
          by_cases cq : q < (nops n).length
          · have qq : (q : Int) < ((nops n).length : Int) := by omega
            have ep : (nops n).getD p default = (nops n)[p] := by rw [List.getD_eq_getElem?_getD, List.getElem?_eq_getElem cp]; rfl
            have eq' : (nops n).getD q default = (nops n)[q] := by rw [List.getD_eq_getElem?_getD, List.getElem?_eq_getElem cq]; rfl
            have hpb := nops_lt hnv (nops n)[p] (List.getElem_mem cp)
            have hqb := nops_lt hnv (nops n)[q] (List.getElem_mem cq)
            have hf1 := hfc2 (nops n)[p] (by omega)
            have hf2 := hfc2 (nops n)[q] (by omega)
            have hrb1 := hrb p q
            have hokq : okpq fr n p q = !(rbN n p q && !fr (nops n)[p] && !fr (nops n)[q]) := by unfold okpq; rw [ep, eq']
            have hpu : ∀ x, pures [wv, .int .i64 x] = true := fun x => by simp [pures, hwp, AV.pure]
            have fin : ∀ b4 : Bool, (b4 = true ↔ (b3 = true ∧ okpq fr n p q = true)) → (b4 = true ↔ (b2 = true ∧ ∀ q', q' < q + 1 → okpq fr n p q' = true)) := fun b4 h4 => by
              rw [h4, hb3]
              constructor
              · rintro ⟨⟨g1, g2⟩, g3⟩
                refine ⟨g1, fun q' hq' => ?_⟩
                by_cases e : q' = q
                · subst e; exact g3
                · exact g2 q' (by omega)
              · rintro ⟨g1, g2⟩
                exact ⟨⟨g1, fun q' hq' => g2 q' (by omega)⟩, g2 q (by omega)⟩
            simp (maxSteps := 4000000) only [↓packA, ↓reduceIte, packB, pureOp, quietOp, loadOp, quietB, fr0, cellsK, implies_true, ite_true, ite_false, eq_self, ne_eq, reduceCtorEq, Nat.reduceLT, Nat.reduceLeDiff, Nat.reduceAdd, Nat.reduceMul, Nat.reduceBEq, Nat.reduceEqDiff, Int.reduceToNat, Int.reduceLT, Int.reduceLE, Nat.reduceSub, pl8, ft1, ft2, ft3, ft4, ft22, ft23, ft25, ft44, ft57, ft61, ft63, ft70, ints, a1, a7, a8, a9, a10, a11, a12, a13, a14, a15, qq, rk, h0, hA0, Nd.cells, List.length_map, concA, Int.reduceAdd, Int.reduceSub, Int.reduceNeg, Int.reduceMul, Int.reduceEq, Int.reduceBEq, Int.reduceBNe]
            refine ⟨by omega, acalls_pure hrb1 rfl ?_⟩
            cases hr1 : rbN n p q with
            | false =>
              simp (maxSteps := 4000000) only [↓packA, ↓reduceIte, packB, pureOp, quietOp, loadOp, quietB, fr0, cellsK, implies_true, ite_true, ite_false, eq_self, ne_eq, reduceCtorEq, Nat.reduceLT, Nat.reduceLeDiff, Nat.reduceAdd, Nat.reduceMul, Nat.reduceBEq, Nat.reduceEqDiff, Int.reduceToNat, Int.reduceLT, Int.reduceLE, Nat.reduceSub, pl8, ft1, ft2, ft3, ft4, ft22, ft23, ft25, ft44, ft57, ft61, ft63, ft70, ints, a1, a7, a8, a9, a10, a11, a12, a13, a14, a15, qq, ep, eq', concA, Int.reduceAdd, Int.reduceSub, Int.reduceNeg, Int.reduceMul, Int.reduceEq, Int.reduceBEq, Int.reduceBNe]
              exact ⟨by omega, .inl ⟨(nops n).length - (q + 1), by omega, q + 1, b3, rfl, by omega, fin b3 (by rw [hokq, hr1]; simp), rfl, by omega⟩⟩
            | true =>
              simp (maxSteps := 4000000) only [↓packA, ↓reduceIte, packB, pureOp, quietOp, loadOp, quietB, fr0, cellsK, implies_true, ite_true, ite_false, eq_self, ne_eq, reduceCtorEq, Nat.reduceLT, Nat.reduceLeDiff, Nat.reduceAdd, Nat.reduceMul, Nat.reduceBEq, Nat.reduceEqDiff, Int.reduceToNat, Int.reduceLT, Int.reduceLE, Nat.reduceSub, pl8, ft1, ft2, ft3, ft4, ft22, ft23, ft25, ft44, ft57, ft61, ft63, ft70, ints, a1, a7, a8, a9, a10, a11, a12, a13, a14, a15, qq, ep, eq', concA, Int.reduceAdd, Int.reduceSub, Int.reduceNeg, Int.reduceMul, Int.reduceEq, Int.reduceBEq, Int.reduceBNe]
              refine ⟨by omega, cp, acalls_pure hf1 (hpu _) ?_⟩
              cases hx1 : fr (nops n)[p] with
              | true =>
                simp (maxSteps := 4000000) only [↓packA, ↓reduceIte, packB, pureOp, quietOp, loadOp, quietB, fr0, cellsK, implies_true, ite_true, ite_false, eq_self, ne_eq, reduceCtorEq, Nat.reduceLT, Nat.reduceLeDiff, Nat.reduceAdd, Nat.reduceMul, Nat.reduceBEq, Nat.reduceEqDiff, Int.reduceToNat, Int.reduceLT, Int.reduceLE, Nat.reduceSub, pl8, ft1, ft2, ft3, ft4, ft22, ft23, ft25, ft44, ft57, ft61, ft63, ft70, ints, a1, a7, a8, a9, a10, a11, a12, a13, a14, a15, qq, ep, eq', concA, Int.reduceAdd, Int.reduceSub, Int.reduceNeg, Int.reduceMul, Int.reduceEq, Int.reduceBEq, Int.reduceBNe]
                exact ⟨by omega, .inl ⟨(nops n).length - (q + 1), by omega, q + 1, b3, rfl, by omega, fin b3 (by rw [hokq, hr1, hx1]; simp), rfl, by omega⟩⟩
              | false =>
                simp (maxSteps := 4000000) only [↓packA, ↓reduceIte, packB, pureOp, quietOp, loadOp, quietB, fr0, cellsK, implies_true, ite_true, ite_false, eq_self, ne_eq, reduceCtorEq, Nat.reduceLT, Nat.reduceLeDiff, Nat.reduceAdd, Nat.reduceMul, Nat.reduceBEq, Nat.reduceEqDiff, Int.reduceToNat, Int.reduceLT, Int.reduceLE, Nat.reduceSub, pl8, ft1, ft2, ft3, ft4, ft22, ft23, ft25, ft44, ft57, ft61, ft63, ft70, ints, a1, a7, a8, a9, a10, a11, a12, a13, a14, a15, qq, ep, eq', concA, Int.reduceAdd, Int.reduceSub, Int.reduceNeg, Int.reduceMul, Int.reduceEq, Int.reduceBEq, Int.reduceBNe]
                refine ⟨by omega, cq, acalls_pure hf2 (hpu _) ?_⟩
                cases hx2 : fr (nops n)[q] with
                | true =>
                  simp (maxSteps := 4000000) only [↓packA, ↓reduceIte, packB, pureOp, quietOp, loadOp, quietB, fr0, cellsK, implies_true, ite_true, ite_false, eq_self, ne_eq, reduceCtorEq, Nat.reduceLT, Nat.reduceLeDiff, Nat.reduceAdd, Nat.reduceMul, Nat.reduceBEq, Nat.reduceEqDiff, Int.reduceToNat, Int.reduceLT, Int.reduceLE, Nat.reduceSub, pl8, ft1, ft2, ft3, ft4, ft22, ft23, ft25, ft44, ft57, ft61, ft63, ft70, ints, a1, a7, a8, a9, a10, a11, a12, a13, a14, a15, qq, ep, eq', concA, Int.reduceAdd, Int.reduceSub, Int.reduceNeg, Int.reduceMul, Int.reduceEq, Int.reduceBEq, Int.reduceBNe]
                  exact ⟨by omega, .inl ⟨(nops n).length - (q + 1), by omega, q + 1, b3, rfl, by omega, fin b3 (by rw [hokq, hr1, hx1, hx2]; simp), rfl, by omega⟩⟩
                | false =>
                  simp (maxSteps := 4000000) only [↓packA, ↓reduceIte, packB, pureOp, quietOp, loadOp, quietB, fr0, cellsK, implies_true, ite_true, ite_false, eq_self, ne_eq, reduceCtorEq, Nat.reduceLT, Nat.reduceLeDiff, Nat.reduceAdd, Nat.reduceMul, Nat.reduceBEq, Nat.reduceEqDiff, Int.reduceToNat, Int.reduceLT, Int.reduceLE, Nat.reduceSub, pl8, ft1, ft2, ft3, ft4, ft22, ft23, ft25, ft44, ft57, ft61, ft63, ft70, ints, a1, a7, a8, a9, a10, a11, a12, a13, a14, a15, qq, ep, eq', concA, Int.reduceAdd, Int.reduceSub, Int.reduceNeg, Int.reduceMul, Int.reduceEq, Int.reduceBEq, Int.reduceBNe]
                  exact ⟨by omega, .inl ⟨(nops n).length - (q + 1), by omega, q + 1, false, rfl, by omega, fin false (by rw [hokq, hr1, hx1, hx2]; simp), rfl, by omega⟩⟩
          · have qq : ¬ (q : Int) < ((nops n).length : Int) := by omega
            obtain rfl : q = (nops n).length := by omega
            simp (maxSteps := 4000000) only [↓packA, ↓reduceIte, packB, pureOp, quietOp, loadOp, quietB, fr0, cellsK, implies_true, ite_true, ite_false, eq_self, ne_eq, reduceCtorEq, Nat.reduceLT, Nat.reduceLeDiff, Nat.reduceAdd, Nat.reduceMul, Nat.reduceBEq, Nat.reduceEqDiff, Int.reduceToNat, Int.reduceLT, Int.reduceLE, Nat.reduceSub, pl8, ft1, ft2, ft3, ft4, ft22, ft23, ft25, ft44, ft57, ft61, ft63, ft70, ints, a1, a7, a8, a9, a10, a11, a12, a13, a14, a15, qq, concA, Int.reduceAdd, Int.reduceSub, Int.reduceNeg, Int.reduceMul, Int.reduceEq, Int.reduceBEq, Int.reduceBNe]
            refine ⟨by omega, .inl ⟨(nops n).length - (p + 1), by omega, p + 1, b3, rfl, by omega, ?_, rfl, by omega⟩⟩
            rw [hb3, hb2]
            constructor
            · rintro ⟨⟨g1, g2⟩, g3⟩
              refine ⟨g1, fun p' hp' => ?_⟩
              by_cases e : p' = p
              · subst e; exact g3
              · exact g2 p' (by omega)
            · rintro ⟨g1, g2⟩
              exact ⟨⟨g1, fun p' hp' => g2 p' (by omega)⟩, g2 p (by omega)⟩
        · have qp : ¬ (p : Int) < ((nops n).length : Int) := by omega
          obtain rfl : p = (nops n).length := by omega
          simp (maxSteps := 4000000) only [↓packA, ↓reduceIte, packB, pureOp, quietOp, loadOp, quietB, fr0, cellsK, implies_true, ite_true, ite_false, eq_self, ne_eq, reduceCtorEq, Nat.reduceLT, Nat.reduceLeDiff, Nat.reduceAdd, Nat.reduceMul, Nat.reduceBEq, Nat.reduceEqDiff, Int.reduceToNat, Int.reduceLT, Int.reduceLE, Nat.reduceSub, pl8, ft1, ft2, ft3, ft4, ft22, ft23, ft25, ft44, ft57, ft61, ft63, ft70, ints, a1, a7, a8, a9, a10, a11, a12, a13, a14, hrow, hLl, qp, List.length_map, concA, Int.reduceAdd, Int.reduceSub, Int.reduceNeg, Int.reduceMul, Int.reduceEq, Int.reduceBEq, Int.reduceBNe]
          exact ⟨by omega, by omega, .inl ⟨ns.length - (v + 1), by omega, v + 1, b2, rfl, by omega, next b2 (by rw [hb2, hloc]; simp), rfl, by omega⟩⟩
    · have qv : ¬ (v : Int) < (ns.length : Int) := by omega
      obtain rfl : v = ns.length := by omega
      simp (maxSteps := 4000000) only [↓packA, ↓reduceIte, packB, pureOp, quietOp, loadOp, quietB, fr0, cellsK, implies_true, ite_true, ite_false, eq_self, ne_eq, reduceCtorEq, Nat.reduceLT, Nat.reduceLeDiff, Nat.reduceAdd, Nat.reduceMul, Nat.reduceBEq, Nat.reduceEqDiff, Int.reduceToNat, Int.reduceLT, Int.reduceLE, Nat.reduceSub, pl8, ft1, ft2, ft3, ft4, ft22, ft23, ft25, ft44, ft57, ft61, ft63, ft70, a1, a7, a8, a9, a10, a11, a12, qv, h0, hA0, hN, tN, List.length_map, concA, Int.reduceAdd, Int.reduceSub, Int.reduceNeg, Int.reduceMul, Int.reduceEq, Int.reduceBEq, Int.reduceBNe]
      have hbv : b = gB (strs fr ns) outs[k] := by
        rw [Bool.eq_iff_iff, hb, hst2]
        constructor
        · intro g i n hn hl; exact g i n (List.getElem?_eq_some_iff.1 hn).1 hn hl
        · intro g i n _ hn hl; exact g i n hn hl
      refine ol_push (F := fun i => i = 0) 1 rfl rfl (fun i hi => by simp; omega) hO.app (by simp; omega) fun x' z' ⟨xi, xc, xe, hx', _⟩ hO' hl' _ hF' => ?_
      subst hx'
      simp only [List.length_map] at hO'
      simp (maxSteps := 4000000) only [↓packA, ↓reduceIte, packB, pureOp, quietOp, loadOp, quietB, fr0, cellsK, implies_true, ite_true, ite_false, eq_self, ne_eq, reduceCtorEq, Nat.reduceLT, Nat.reduceLeDiff, Nat.reduceAdd, Nat.reduceMul, Nat.reduceBEq, Nat.reduceEqDiff, Int.reduceToNat, Int.reduceLT, Int.reduceLE, Nat.reduceSub, pl8, ft1, ft2, ft3, ft4, ft22, ft23, ft25, ft44, ft57, ft61, ft63, ft70, a1, a7, a8, a9, a10, a11, a12, concA, Int.reduceAdd, Int.reduceSub, Int.reduceNeg, Int.reduceMul, Int.reduceEq, Int.reduceBEq, Int.reduceBNe]
      refine ⟨by omega, .inl ⟨outs.length - (k + 1), by omega, k + 1, _, rfl, by omega, by rw [List.take_add_one, ek, List.map_append, List.map_append]; rw [hbv] at hO'; exact hO', by simp at hl'; omega, by rw [hF' 0 rfl, List.getElem?_append_left (by omega)]; exact h0, rfl, by omega⟩⟩
  · have q1 : ¬ (k : Int) < (outs.length : Int) := by omega
    obtain rfl : k = outs.length := by omega
    rw [List.take_length] at hO
    simp (maxSteps := 4000000) only [↓packA, ↓reduceIte, packB, pureOp, quietOp, loadOp, quietB, fr0, cellsK, implies_true, ite_true, ite_false, eq_self, ne_eq, reduceCtorEq, Nat.reduceLT, Nat.reduceLeDiff, Nat.reduceAdd, Nat.reduceMul, Nat.reduceBEq, Nat.reduceEqDiff, Int.reduceToNat, Int.reduceLT, Int.reduceLE, Nat.reduceSub, pl8, ft1, ft2, ft3, ft4, ft22, ft23, ft25, ft44, ft57, ft61, ft63, ft70, a1, a7, a8, a9, q1, h0, hA0, List.length_map, concA, Int.reduceAdd, Int.reduceSub, Int.reduceNeg, Int.reduceMul, Int.reduceEq, Int.reduceBEq, Int.reduceBNe]
    exact frz_three (hO.frz_self fun e he => by obtain ⟨y, _, rfl⟩ := List.mem_map.1 he; rfl) rfl rfl
end Go.Proofs.YtclbobielhllmaaGreat
end
section
namespace Go.Proofs.YtclbobielhllmaaGreat
open Go Go.AL
set_option linter.unusedVariables false
set_option linter.unusedSimpArgs false
set_option maxRecDepth 100000 in
theorem num_c (e : Int) : APure Tryz.prog 9 [.int .i64 e] (.int .i64 e) := by
  refine apure_of (wp9 rfl rfl ?_)
  simp (maxSteps := 4000000) only [↓packA, ↓reduceIte, packB, pureOp, quietOp, loadOp, quietB, fr0, cellsK, implies_true, ite_true, ite_false, eq_self, ne_eq, reduceCtorEq, Nat.reduceLT, Nat.reduceLeDiff, Nat.reduceAdd, Nat.reduceMul, Nat.reduceBEq, Nat.reduceEqDiff, Int.reduceToNat, Int.reduceLT, Int.reduceLE, Nat.reduceSub, pl9, concA, Int.reduceAdd, Int.reduceSub, Int.reduceNeg, Int.reduceMul, Int.reduceEq, Int.reduceBEq, Int.reduceBNe]
  exact .pure _ rfl
set_option maxRecDepth 100000 in
theorem sameBools_c (l : List Bool) (hl : l.length < 100000000) : APure Tryz.prog 11 [bools l, bools l] (.bool true) := by
  refine apure_of (wp11 rfl rfl ?_)
  simp (maxSteps := 4000000) only [↓packA, ↓reduceIte, packB, pureOp, quietOp, loadOp, quietB, fr0, cellsK, implies_true, ite_true, ite_false, eq_self, ne_eq, reduceCtorEq, Nat.reduceLT, Nat.reduceLeDiff, Nat.reduceAdd, Nat.reduceMul, Nat.reduceBEq, Nat.reduceEqDiff, Int.reduceToNat, Int.reduceLT, Int.reduceLE, Nat.reduceSub, pl11, ft3, ft4, ft44, bools, bne_self_eq_false, List.length_map, concA, Int.reduceAdd, Int.reduceSub, Int.reduceNeg, Int.reduceMul, Int.reduceEq, Int.reduceBEq, Int.reduceBNe]
  refine LoopK.intro (fun m w z => ∃ k : Nat, m = l.length - k ∧ k ≤ l.length ∧ w 0 = .isl 1 (List.map boolE l) ∧ w 1 = .isl 1 (List.map boolE l) ∧ w 5 = .int .i64 k) l.length ⟨0, rfl, by omega, ?_, ?_, ?_⟩ ?_
  rotate_right
  all_goals (try (simp (maxSteps := 4000000) only [↓packA, ↓reduceIte, packB, pureOp, quietOp, loadOp, quietB, fr0, cellsK, implies_true, ite_true, ite_false, eq_self, ne_eq, reduceCtorEq, Nat.reduceLT, Nat.reduceLeDiff, Nat.reduceAdd, Nat.reduceMul, Nat.reduceBEq, Nat.reduceEqDiff, Int.reduceToNat, Int.reduceLT, Int.reduceLE, Nat.reduceSub, pl11, ft3, ft4, ft44, bools, Int.natCast_zero, concA, Int.reduceAdd, Int.reduceSub, Int.reduceNeg, Int.reduceMul, Int.reduceEq, Int.reduceBEq, Int.reduceBNe]; done))
  rintro m w z ⟨k, rfl, hk, a0, a1, a5⟩
  by_cases c : k < l.length
  · have q1 : (k : Int) < (l.length : Int) := by omega
    have hrow := bool_row (l := l) (i := k) c
    cases hb : l.getD k false
    all_goals
      rw [hb] at hrow
      simp (maxSteps := 4000000) only [↓packA, ↓reduceIte, packB, pureOp, quietOp, loadOp, quietB, fr0, cellsK, implies_true, ite_true, ite_false, eq_self, ne_eq, reduceCtorEq, Nat.reduceLT, Nat.reduceLeDiff, Nat.reduceAdd, Nat.reduceMul, Nat.reduceBEq, Nat.reduceEqDiff, Int.reduceToNat, Int.reduceLT, Int.reduceLE, Nat.reduceSub, pl11, ft3, ft4, ft44, a0, a1, a5, q1, hrow, bne_self_eq_false, List.length_map, concA, Int.reduceAdd, Int.reduceSub, Int.reduceNeg, Int.reduceMul, Int.reduceEq, Int.reduceBEq, Int.reduceBNe]
      exact ⟨by omega, by omega, by omega, .inl ⟨l.length - (k + 1), by omega, k + 1, rfl, by omega, by omega⟩⟩
  · have q1 : ¬ (k : Int) < (l.length : Int) := by omega
    simp (maxSteps := 4000000) only [↓packA, ↓reduceIte, packB, pureOp, quietOp, loadOp, quietB, fr0, cellsK, implies_true, ite_true, ite_false, eq_self, ne_eq, reduceCtorEq, Nat.reduceLT, Nat.reduceLeDiff, Nat.reduceAdd, Nat.reduceMul, Nat.reduceBEq, Nat.reduceEqDiff, Int.reduceToNat, Int.reduceLT, Int.reduceLE, Nat.reduceSub, pl11, ft3, ft4, ft44, a0, a1, a5, q1, List.length_map, concA, Int.reduceAdd, Int.reduceSub, Int.reduceNeg, Int.reduceMul, Int.reduceEq, Int.reduceBEq, Int.reduceBNe]
    exact .pure _ rfl
set_option maxHeartbeats 4000000 in
set_option maxRecDepth 100000 in
theorem law_degrees (t : Tp) (ht : t.In) : ACalls Tryz.prog 3 [t.V] [] fun v h => OFz h v (.bool true) := by
  refine wp3 rfl rfl ?_
  have p1 := pdegree_c t ht.ok
  have p2 := rdegree_c t ht.ok
  have p3 := plinear_c t ht.ok
  have p4 := rlinear_c t ht.ok
  have i0 := bki_start
  obtain ⟨i1, k0, k4, k14⟩ := bki_tape i0 ht (by decide) (by decide) (by decide)
  have hn := ht.nl
  have z0 : (B0 0).length = 0 := rfl
  have z4 : (B0 4).length = 0 := rfl
  have z14 : (B0 14).length = 0 := rfl
  obtain ⟨i2, m0, m4, m14⟩ := bki_tape i1 ht (by omega) (by omega) (by omega)
  have hdl : (degT t).1.length < 100000000 := by
    unfold degT
    split
    · unfold degs; rw [walkL_len]; omega
    · simp
  have hll : (linT t).1.length < 100000000 := by
    unfold linT
    split
    · have := ht.ol; simp; omega
    · simp
  have s1 := same_pure (degT t).1 (degT t).1 (by omega)
  rw [decide_eq_true rfl] at s1
  have s2 := sameBools_c (linT t).1 hll
  generalize degT t = D at *
  generalize linT t = E at *
  obtain ⟨d, dp, de⟩ := D
  obtain ⟨e, ep, ee⟩ := E
  have n1 := num_c de
  have n2 := num_c ee
  simp only [ansI, ansB, Tp.V] at p1 p2 p3 p4 s1 s2
  simp (maxSteps := 4000000) only [↓packA, ↓reduceIte, packB, pureOp, quietOp, loadOp, quietB, fr0, cellsK, implies_true, ite_true, ite_false, eq_self, ne_eq, reduceCtorEq, Nat.reduceLT, Nat.reduceLeDiff, Nat.reduceAdd, Nat.reduceMul, Nat.reduceBEq, Nat.reduceEqDiff, Int.reduceToNat, Int.reduceLT, Int.reduceLE, Nat.reduceSub, pl3, ft3, ft4, ft22, ft23, ft25, ft26, ft27, ft28, ft29, ft30, ft31, ft32, ft33, ft34, ft35, ft37, ft38, ft44, ft58, ft63, ft84, ft86, ft88, ft92, ft114, ft123, Tp.V, patch, patch', concA, Int.reduceAdd, Int.reduceSub, Int.reduceNeg, Int.reduceMul, Int.reduceEq, Int.reduceBEq, Int.reduceBNe]
  refine gtape_c t ht.ok ht.nl ht.ol ht.cl (bk_start (fun i => i ≤ 0) 1 _ (fun i hi => by simp; omega) (by omega) rfl) (fun i => by simp [B0]) fun h1 cs1 b1 hF1 hl1 => ?_
  have e1 : h1[0]? = some (.arr 3 [[AV.int IntKind.i64 t.vars, AV.isl 7 (List.map Nd.cells t.ns), ints t.outs]] true) := hF1 0 (Nat.le_refl _)
  simp (maxSteps := 4000000) only [↓packA, ↓reduceIte, packB, pureOp, quietOp, loadOp, quietB, fr0, cellsK, implies_true, ite_true, ite_false, eq_self, ne_eq, reduceCtorEq, Nat.reduceLT, Nat.reduceLeDiff, Nat.reduceAdd, Nat.reduceMul, Nat.reduceBEq, Nat.reduceEqDiff, Int.reduceToNat, Int.reduceLT, Int.reduceLE, Nat.reduceSub, pl3, ft3, ft4, ft22, ft23, ft25, ft26, ft27, ft28, ft29, ft30, ft31, ft32, ft33, ft34, ft35, ft37, ft38, ft44, ft58, ft63, ft84, ft86, ft88, ft92, ft114, ft123, Tp.V, concA, Int.reduceAdd, Int.reduceSub, Int.reduceNeg, Int.reduceMul, Int.reduceEq, Int.reduceBEq, Int.reduceBNe]
  refine acalls_pure p1 rfl ?_
  simp (maxSteps := 4000000) only [↓packA, ↓reduceIte, packB, pureOp, quietOp, loadOp, quietB, fr0, cellsK, implies_true, ite_true, ite_false, eq_self, ne_eq, reduceCtorEq, Nat.reduceLT, Nat.reduceLeDiff, Nat.reduceAdd, Nat.reduceMul, Nat.reduceBEq, Nat.reduceEqDiff, Int.reduceToNat, Int.reduceLT, Int.reduceLE, Nat.reduceSub, pl3, ft3, ft4, ft22, ft23, ft25, ft26, ft27, ft28, ft29, ft30, ft31, ft32, ft33, ft34, ft35, ft37, ft38, ft44, ft58, ft63, ft84, ft86, ft88, ft92, ft114, ft123, e1, concA, Int.reduceAdd, Int.reduceSub, Int.reduceNeg, Int.reduceMul, Int.reduceEq, Int.reduceBEq, Int.reduceBNe]
  refine acalls_pure p2 rfl ?_
  simp (maxSteps := 4000000) only [↓packA, ↓reduceIte, packB, pureOp, quietOp, loadOp, quietB, fr0, cellsK, implies_true, ite_true, ite_false, eq_self, ne_eq, reduceCtorEq, Nat.reduceLT, Nat.reduceLeDiff, Nat.reduceAdd, Nat.reduceMul, Nat.reduceBEq, Nat.reduceEqDiff, Int.reduceToNat, Int.reduceLT, Int.reduceLE, Nat.reduceSub, pl3, ft3, ft4, ft22, ft23, ft25, ft26, ft27, ft28, ft29, ft30, ft31, ft32, ft33, ft34, ft35, ft37, ft38, ft44, ft58, ft63, ft84, ft86, ft88, ft92, ft114, ft123, e1, concA, Int.reduceAdd, Int.reduceSub, Int.reduceNeg, Int.reduceMul, Int.reduceEq, Int.reduceBEq, Int.reduceBNe]
  refine gtape_c t ht.ok ht.nl ht.ol ht.cl b1 (i1.all (by omega) (by omega) (by omega)) fun h2 cs2 b2 hF2 hl2 => ?_
  have e2 := (hF2 0 (Nat.le_refl _)).trans e1
  simp (maxSteps := 4000000) only [↓packA, ↓reduceIte, packB, pureOp, quietOp, loadOp, quietB, fr0, cellsK, implies_true, ite_true, ite_false, eq_self, ne_eq, reduceCtorEq, Nat.reduceLT, Nat.reduceLeDiff, Nat.reduceAdd, Nat.reduceMul, Nat.reduceBEq, Nat.reduceEqDiff, Int.reduceToNat, Int.reduceLT, Int.reduceLE, Nat.reduceSub, pl3, ft3, ft4, ft22, ft23, ft25, ft26, ft27, ft28, ft29, ft30, ft31, ft32, ft33, ft34, ft35, ft37, ft38, ft44, ft58, ft63, ft84, ft86, ft88, ft92, ft114, ft123, Tp.V, concA, Int.reduceAdd, Int.reduceSub, Int.reduceNeg, Int.reduceMul, Int.reduceEq, Int.reduceBEq, Int.reduceBNe]
  refine acalls_pure p3 rfl ?_
  simp (maxSteps := 4000000) only [↓packA, ↓reduceIte, packB, pureOp, quietOp, loadOp, quietB, fr0, cellsK, implies_true, ite_true, ite_false, eq_self, ne_eq, reduceCtorEq, Nat.reduceLT, Nat.reduceLeDiff, Nat.reduceAdd, Nat.reduceMul, Nat.reduceBEq, Nat.reduceEqDiff, Int.reduceToNat, Int.reduceLT, Int.reduceLE, Nat.reduceSub, pl3, ft3, ft4, ft22, ft23, ft25, ft26, ft27, ft28, ft29, ft30, ft31, ft32, ft33, ft34, ft35, ft37, ft38, ft44, ft58, ft63, ft84, ft86, ft88, ft92, ft114, ft123, e2, concA, Int.reduceAdd, Int.reduceSub, Int.reduceNeg, Int.reduceMul, Int.reduceEq, Int.reduceBEq, Int.reduceBNe]
  refine acalls_pure p4 rfl ?_
  simp (maxSteps := 4000000) only [↓packA, ↓reduceIte, packB, pureOp, quietOp, loadOp, quietB, fr0, cellsK, implies_true, ite_true, ite_false, eq_self, ne_eq, reduceCtorEq, Nat.reduceLT, Nat.reduceLeDiff, Nat.reduceAdd, Nat.reduceMul, Nat.reduceBEq, Nat.reduceEqDiff, Int.reduceToNat, Int.reduceLT, Int.reduceLE, Nat.reduceSub, pl3, ft3, ft4, ft22, ft23, ft25, ft26, ft27, ft28, ft29, ft30, ft31, ft32, ft33, ft34, ft35, ft37, ft38, ft44, ft58, ft63, ft84, ft86, ft88, ft92, ft114, ft123, concA, Int.reduceAdd, Int.reduceSub, Int.reduceNeg, Int.reduceMul, Int.reduceEq, Int.reduceBEq, Int.reduceBNe]
  refine acalls_pure n1 rfl ?_
  simp (maxSteps := 4000000) only [↓packA, ↓reduceIte, packB, pureOp, quietOp, loadOp, quietB, fr0, cellsK, implies_true, ite_true, ite_false, eq_self, ne_eq, reduceCtorEq, Nat.reduceLT, Nat.reduceLeDiff, Nat.reduceAdd, Nat.reduceMul, Nat.reduceBEq, Nat.reduceEqDiff, Int.reduceToNat, Int.reduceLT, Int.reduceLE, Nat.reduceSub, pl3, ft3, ft4, ft22, ft23, ft25, ft26, ft27, ft28, ft29, ft30, ft31, ft32, ft33, ft34, ft35, ft37, ft38, ft44, ft58, ft63, ft84, ft86, ft88, ft92, ft114, ft123, beq_self_eq_true, concA, Int.reduceAdd, Int.reduceSub, Int.reduceNeg, Int.reduceMul, Int.reduceEq, Int.reduceBEq, Int.reduceBNe]
  refine acalls_pure s1 rfl ?_
  simp (maxSteps := 4000000) only [↓packA, ↓reduceIte, packB, pureOp, quietOp, loadOp, quietB, fr0, cellsK, implies_true, ite_true, ite_false, eq_self, ne_eq, reduceCtorEq, Nat.reduceLT, Nat.reduceLeDiff, Nat.reduceAdd, Nat.reduceMul, Nat.reduceBEq, Nat.reduceEqDiff, Int.reduceToNat, Int.reduceLT, Int.reduceLE, Nat.reduceSub, pl3, ft3, ft4, ft22, ft23, ft25, ft26, ft27, ft28, ft29, ft30, ft31, ft32, ft33, ft34, ft35, ft37, ft38, ft44, ft58, ft63, ft84, ft86, ft88, ft92, ft114, ft123, concA, Int.reduceAdd, Int.reduceSub, Int.reduceNeg, Int.reduceMul, Int.reduceEq, Int.reduceBEq, Int.reduceBNe]
  refine acalls_pure n2 rfl ?_
  simp (maxSteps := 4000000) only [↓packA, ↓reduceIte, packB, pureOp, quietOp, loadOp, quietB, fr0, cellsK, implies_true, ite_true, ite_false, eq_self, ne_eq, reduceCtorEq, Nat.reduceLT, Nat.reduceLeDiff, Nat.reduceAdd, Nat.reduceMul, Nat.reduceBEq, Nat.reduceEqDiff, Int.reduceToNat, Int.reduceLT, Int.reduceLE, Nat.reduceSub, pl3, ft3, ft4, ft22, ft23, ft25, ft26, ft27, ft28, ft29, ft30, ft31, ft32, ft33, ft34, ft35, ft37, ft38, ft44, ft58, ft63, ft84, ft86, ft88, ft92, ft114, ft123, beq_self_eq_true, concA, Int.reduceAdd, Int.reduceSub, Int.reduceNeg, Int.reduceMul, Int.reduceEq, Int.reduceBEq, Int.reduceBNe]
  refine acalls_pure s2 rfl ?_
  simp (maxSteps := 4000000) only [↓packA, ↓reduceIte, packB, pureOp, quietOp, loadOp, quietB, fr0, cellsK, implies_true, ite_true, ite_false, eq_self, ne_eq, reduceCtorEq, Nat.reduceLT, Nat.reduceLeDiff, Nat.reduceAdd, Nat.reduceMul, Nat.reduceBEq, Nat.reduceEqDiff, Int.reduceToNat, Int.reduceLT, Int.reduceLE, Nat.reduceSub, pl3, ft3, ft4, ft22, ft23, ft25, ft26, ft27, ft28, ft29, ft30, ft31, ft32, ft33, ft34, ft35, ft37, ft38, ft44, ft58, ft63, ft84, ft86, ft88, ft92, ft114, ft123, concA, Int.reduceAdd, Int.reduceSub, Int.reduceNeg, Int.reduceMul, Int.reduceEq, Int.reduceBEq, Int.reduceBNe]
  refine intactB_c b2 i2 ?_
  simp (maxSteps := 4000000) only [↓packA, ↓reduceIte, packB, pureOp, quietOp, loadOp, quietB, fr0, cellsK, implies_true, ite_true, ite_false, eq_self, ne_eq, reduceCtorEq, Nat.reduceLT, Nat.reduceLeDiff, Nat.reduceAdd, Nat.reduceMul, Nat.reduceBEq, Nat.reduceEqDiff, Int.reduceToNat, Int.reduceLT, Int.reduceLE, Nat.reduceSub, pl3, ft3, ft4, ft22, ft23, ft25, ft26, ft27, ft28, ft29, ft30, ft31, ft32, ft33, ft34, ft35, ft37, ft38, ft44, ft58, ft63, ft84, ft86, ft88, ft92, ft114, ft123, concA, Int.reduceAdd, Int.reduceSub, Int.reduceNeg, Int.reduceMul, Int.reduceEq, Int.reduceBEq, Int.reduceBNe]
  exact .flat _ rfl
end Go.Proofs.YtclbobielhllmaaGreat
end
section
namespace Go.Proofs.YtclbobielhllmaaGreat
open Go Go.AL Go.ChangeShapes Go.WideShapes Go.ChangeAt Go.RowKit
set_option linter.unusedVariables false
set_option linter.unusedSimpArgs false
namespace law3
set_option maxRecDepth 100000 in
theorem contract (H : Type) (enc : TypeId × Value → H) (W : World) (base : Nat) (args : Array Value) (ds gs : List (DataW H)) (before : List MemPlace)
    (hval : ∀ (j : Nat) t v, Tryz.f3.params[j]? = some t → args[j]? = some v → Value.okWide Tryz.prog W .any base t v)
    (hW : DataW.Whole enc Tryz.prog Tryz.f3.params.toList Rows.reachDegreesSpec.vars false W args.toList ds gs before) (hk : Rows.uptoSmall H (ds ++ gs) = true) :
    Calls Tryz.prog 3 args W fun e W' => ∃ v, e = .returned v ∧ Rows.reachDegreesSpec.post enc Tryz.prog Tryz.f3 false true false false W args v W' := by
  have hW' := hW
  obtain ⟨p, q, hA0, hV, rfl, hfz, hnd⟩ := hW
  have hA : DataW.TrodAll enc Tryz.prog W 0 (fun _ => true) true Tryz.f3.params.toList args.toList ds p := hA0
  rw [Tryz.params3] at hA hval
  obtain ⟨v0, vs0, d0, ds0, p0, q0, hargs, rfl, rfl, h0, r0⟩ := trodAll_cons hA
  obtain ⟨rfl, rfl, rfl⟩ := trodAll_nil r0
  obtain rfl : args = #[v0] := by cases args; simp_all
  obtain ⟨rfl, rfl⟩ := trodVars_none hV
  have hb := bulk_ok hk
  obtain ⟨fuel0, hf0⟩ := h0
  obtain ⟨tp0, hxs0, hin0⟩ := open_tape (okWide_struct Tryz.underlying25 (hval 0 25 v0 rfl rfl)) hf0 (by
    have := bulk_part (show d0 ∈ [d0] ++ [] by simp)
    omega)
  have hc := calls_true (W := W) (us := [tp0.V]) (vs := [v0]) (law_degrees tp0 hin0) rfl (fun j u v hu hv => by
    match j with
    | 0 => simp at hu hv; subst hu; subst hv; exact hxs0
    | j + 1 => simp at hu)
  refine hc.mono fun e W' ⟨he, hbe⟩ => ?_
  subst he
  exact ⟨_, rfl, post_true hW' hA0 (by rw [Tryz.params3]; decide +kernel) (by kernel_rfl) rfl rfl hbe⟩
set_option maxRecDepth 100000 in
theorem lifted (os : Os) (started : os.Started) (H : Type) (enc : TypeId × Value → H) (F : Stop.Interp) :
    ReturnsInHanded {} Tryz.checked os 3 .any ((Rows.OpenSpec.upto Rows.reachDegreesSpec).pre6 enc Tryz.prog Tryz.f3 Rows.reachDegreesUptoRow.domain false) (((Rows.OpenSpec.upto Rows.reachDegreesSpec).at F).post enc Tryz.prog Tryz.f3 false true false false) := by
  refine returnsInHanded_of_cond (C := Tryz.checked) (s := Rows.OpenSpec.upto Rows.reachDegreesSpec) (k := Rows.uptoSmall) rfl zOwn started (by kernel_rfl) Tryz.func3
    (OpenSpec.witness (enc := enc) (C := Tryz.checked) (s := Rows.OpenSpec.upto Rows.reachDegreesSpec) (k := Rows.uptoSmall) rfl false ⟨#[], #[.agg #[.int .i64 0, .slice none 0 0, .slice none 0 0]], []⟩ 8 (by kernel_rfl) (by kernel_rfl) (by kernel_rfl)
      (x := ([.agg [.lit (.int .i64 0), .nil, .nil]], [], [])) (by kernel_rfl) rfl (by kernel_rfl)) ?_
  intro W base args ds gs before hval hW _ hk _
  exact contract H enc W base args ds gs before hval hW hk
theorem over : Rows.reachDegreesUptoRow.holds Tryz.pinned (Rows.OpenSpec.upto Rows.reachDegreesSpec) :=
  OpenClaim.holds_of_cond 3 Tryz.f3 rfl rfl rfl rfl rfl rfl rfl ⟨rfl, rfl, rfl, rfl, rfl⟩ rfl rfl rfl rfl rfl (by kernel_rfl) Tryz.func3 (by kernel_rfl)
    (of_decide_eq_true (by kernel_rfl)) (by unfold Func.isWrapper; first | (rw [if_pos (by decide +kernel)]; kernel_rfl) | (rw [if_neg (by decide +kernel)]; exact ⟨rfl, rfl⟩))
    (fun os started H enc _ F => lifted os started H enc F)
end law3
theorem reachDegreesProved : Rows.ReachDegreesUptoSaid := law3.over
#print axioms reachDegreesProved
end Go.Proofs.YtclbobielhllmaaGreat
end
