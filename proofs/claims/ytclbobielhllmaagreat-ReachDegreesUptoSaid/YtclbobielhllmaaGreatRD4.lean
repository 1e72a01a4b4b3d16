import Derived.Test.YtclbobielhllmaaGreatRD3
import Derived.Test.YtclbobielhllmaaGreatRD2
section
namespace Go.Proofs.YtclbobielhllmaaGreat
open Go Go.AL
set_option linter.unusedVariables false
set_option linter.unusedSimpArgs false
set_option maxHeartbeats 16000000 in
set_option maxRecDepth 100000 in
theorem strip_o {h : Heap} {id n cap : Nat} {ex ex' : Bool} {es : List Int} {Q : AV → Heap → Prop} (hid : h[id]? = some (.arr 1 (List.map u32E es) ex')) (hL : LI es) (hn : n ≤ es.length) (hnc : n ≤ cap) (h0 : 0 < n) (hN : Norm (es.take n)) (hb : n < 100000000)
    (hq : ∀ (es' : List Int) (n' z : Nat), es'.length = es.length → LI es' → Norm (es'.take n') → n' ≤ n → 0 < n' → z ≤ 32 * n → val (es.take n) = 2 ^ z * val (es'.take n') → val (es'.take n') % 2 = 1 → Q (.tup [.osl id 1 0 n' cap ex, .int .i64 z]) (h.set id (.arr 1 (List.map u32E es') ex'))) :
    ACalls Tryz.prog 83 [.osl id 1 0 n cap ex] h Q := by
  have hlid := (List.getElem?_eq_some_iff.1 hid).1
  have hi2 : ∀ X, (h.set id X)[id]? = some X := fun X => List.getElem?_set_self hlid
  refine wp83 rfl rfl ?_
  simp (maxSteps := 4000000) only [↓packA, ↓reduceIte, packB, pureOp, quietOp, loadOp, quietB, fr0, cellsK, implies_true, ite_true, ite_false, eq_self, ne_eq, reduceCtorEq, Nat.reduceLT, Nat.reduceLeDiff, Nat.reduceAdd, Nat.reduceMul, Nat.reduceBEq, Nat.reduceEqDiff, Int.reduceToNat, Int.reduceLT, Int.reduceLE, Nat.reduceSub, pl83, ft3, ft58, ft109]
  refine LoopK.intro (fun x w g => ∃ (n1 z : Nat) (es1 : List Int), x = n1 ∧ n1 ≤ n ∧ 0 < n1 ∧ z + 32 * n1 ≤ 32 * n ∧ es1.length = es.length ∧ LI es1 ∧ Norm (es1.take n1) ∧ val (es.take n) = 2 ^ z * val (es1.take n1) ∧ w 0 = .osl id 1 0 n1 cap ex ∧ w 4 = .int .i64 z ∧ g = h.set id (.arr 1 (List.map u32E es1) ex')) n ⟨n, 0, es, rfl, Nat.le_refl _, h0, by omega, rfl, hL, hN, by omega, ?_, ?_, (set_id hid).symm⟩ ?_
  · simp (maxSteps := 4000000) only [↓packA, ↓reduceIte, packB, pureOp, quietOp, loadOp, quietB, fr0, cellsK, implies_true, ite_true, ite_false, eq_self, ne_eq, reduceCtorEq, Nat.reduceLT, Nat.reduceLeDiff, Nat.reduceAdd, Nat.reduceMul, Nat.reduceBEq, Nat.reduceEqDiff, Int.reduceToNat, Int.reduceLT, Int.reduceLE, Nat.reduceSub, pl83, ft3, ft58, ft109]
  · simp (maxSteps := 4000000) only [↓packA, ↓reduceIte, packB, pureOp, quietOp, loadOp, quietB, fr0, cellsK, implies_true, ite_true, ite_false, eq_self, ne_eq, reduceCtorEq, Nat.reduceLT, Nat.reduceLeDiff, Nat.reduceAdd, Nat.reduceMul, Nat.reduceBEq, Nat.reduceEqDiff, Int.reduceToNat, Int.reduceLT, Int.reduceLE, Nat.reduceSub, pl83, ft3, ft58, ft109, Int.natCast_zero]
  rintro n1 w g ⟨_, z, es1, rfl, hn1, h01, hz, hl1, hL1, hN1, hv, a0, a4, rfl⟩
  simp (maxSteps := 4000000) only [↓packA, ↓reduceIte, packB, pureOp, quietOp, loadOp, quietB, fr0, cellsK, implies_true, ite_true, ite_false, eq_self, ne_eq, reduceCtorEq, Nat.reduceLT, Nat.reduceLeDiff, Nat.reduceAdd, Nat.reduceMul, Nat.reduceBEq, Nat.reduceEqDiff, Int.reduceToNat, Int.reduceLT, Int.reduceLE, Nat.reduceSub, pl83, ft3, ft58, ft109, a0, a4]
  refine odd_o (hi2 _) hL1 (by omega) (by omega) h01 hN1 (by omega) fun es2 n2 k d hl2 hL2 hN2 hle h02 hk hv2 hd1 hd2 => ?_
  have hv3 : val (es.take n) = 2 ^ (z + k) * val (es2.take n2) := by rw [hv, hv2, Int.pow_add, Int.mul_assoc]
  rw [List.set_set]
  cases d
  · simp (maxSteps := 4000000) only [↓packA, ↓reduceIte, packB, pureOp, quietOp, loadOp, quietB, fr0, cellsK, implies_true, ite_true, ite_false, eq_self, ne_eq, reduceCtorEq, Nat.reduceLT, Nat.reduceLeDiff, Nat.reduceAdd, Nat.reduceMul, Nat.reduceBEq, Nat.reduceEqDiff, Int.reduceToNat, Int.reduceLT, Int.reduceLE, Nat.reduceSub, pl83, ft3, ft58, ft109, a0, a4]
    exact ⟨by omega, .inl ⟨n2, hd2 rfl, n2, z + k, es2, rfl, by omega, h02, by have := hd2 rfl; omega, by omega, hL2, hN2, hv3, rfl, by omega, rfl⟩⟩
  · simp (maxSteps := 4000000) only [↓packA, ↓reduceIte, packB, pureOp, quietOp, loadOp, quietB, fr0, cellsK, implies_true, ite_true, ite_false, eq_self, ne_eq, reduceCtorEq, Nat.reduceLT, Nat.reduceLeDiff, Nat.reduceAdd, Nat.reduceMul, Nat.reduceBEq, Nat.reduceEqDiff, Int.reduceToNat, Int.reduceLT, Int.reduceLE, Nat.reduceSub, pl83, ft3, ft58, ft109, a0, a4]
    refine ⟨by omega, ?_⟩
    rw [show (z : Int) + k = ((z + k : Nat) : Int) by omega]
    exact hq es2 n2 (z + k) (by omega) hL2 hN2 (by omega) h02 (by omega) hv3 (hd1 rfl)
theorem tk_step {X A V P c u v s : Int} (h : X + P * c = A - V) (hs : s = c + u - v) : X + P * (s % 4294967296) + P * 4294967296 * (s / 4294967296) = A + P * u - (V + P * v) := by
  have e : P * (s % 4294967296) + P * (4294967296 * (s / 4294967296)) = P * c + P * u - P * v := by
    rw [← Int.mul_add, Int.emod_add_mul_ediv, hs, Int.mul_sub, Int.mul_add]
  rw [Int.mul_assoc]
  omega
set_option maxHeartbeats 16000000 in
set_option maxRecDepth 100000 in
theorem take_o {h : Heap} {id vid n m cap vcap : Nat} {ex ex' vx vx' : Bool} {es vs : List Int} {Q : AV → Heap → Prop} (hid : h[id]? = some (.arr 1 (List.map u32E es) ex')) (hvid : h[vid]? = some (.arr 1 (List.map u32E vs) vx')) (hne : id ≠ vid) (hL : LI es) (hLv : LI vs) (hn : n ≤ es.length) (hnc : n ≤ cap) (hm : m ≤ vs.length) (hmn : m ≤ n) (hb : n < 100000000) (hle : val (vs.take m) ≤ val (es.take n))
    (hq : ∀ (es' : List Int) (n' : Nat), es'.length = es.length → LI es' → Norm (es'.take n') → n' ≤ n → val (es'.take n') = val (es.take n) - val (vs.take m) → Q (.osl id 1 0 n' cap ex) (h.set id (.arr 1 (List.map u32E es') ex'))) :
    ACalls Tryz.prog 89 [.osl id 1 0 n cap ex, .osl vid 1 0 m vcap vx] h Q := by
  have hlid := (List.getElem?_eq_some_iff.1 hid).1
  have hi2 : ∀ X, (h.set id X)[id]? = some X := fun X => List.getElem?_set_self hlid
  have hv2 : ∀ X, (h.set id X)[vid]? = some (.arr 1 (List.map u32E vs) vx') := fun X => by rw [List.getElem?_set_ne hne]; exact hvid
  refine wp89 rfl rfl ?_
  simp (maxSteps := 4000000) only [↓packA, ↓reduceIte, packB, pureOp, quietOp, loadOp, quietB, fr0, cellsK, implies_true, ite_true, ite_false, eq_self, ne_eq, reduceCtorEq, Nat.reduceLT, Nat.reduceLeDiff, Nat.reduceAdd, Nat.reduceMul, Nat.reduceBEq, Nat.reduceEqDiff, Int.reduceToNat, Int.reduceLT, Int.reduceLE, Nat.reduceSub, pl89, ft2, ft3, ft58, ft109, ft147]
  obtain ⟨V, eV⟩ : ∃ V, V = vs.take m := ⟨_, rfl⟩
  have hgV : ∀ i, i < m → vs.getD i default = V.getD i default := fun i hi => by rw [eV, getD_take hi]
  have hLV : LI V := eV ▸ hLv.take _
  have hV0 : ∀ i, m ≤ i → V.getD i default = 0 := fun i hi => by rw [List.getD_eq_getElem?_getD, List.getElem?_eq_none (by rw [eV, List.length_take]; omega)]; rfl
  rw [← eV] at hq hle
  refine LoopK.intro (fun x w g => ∃ (k : Nat) (es1 : List Int) (c : Int), x = n - k ∧ k ≤ n ∧ es1.length = es.length ∧ LI es1 ∧ (∀ i, k ≤ i → es1.getD i default = es.getD i default) ∧ (-1 ≤ c ∧ c ≤ 0) ∧ val (es1.take k) + 4294967296 ^ k * c = val (es.take k) - val (V.take k) ∧ w 0 = .osl id 1 0 n cap ex ∧ w 1 = .osl vid 1 0 m vcap vx ∧ w 5 = .int .i64 c ∧ w 6 = .int .i64 k ∧ g = h.set id (.arr 1 (List.map u32E es1) ex')) n ⟨0, es, 0, rfl, by omega, rfl, hL, fun i _ => rfl, by omega, by simp [val], ?_, ?_, ?_, ?_, (set_id hid).symm⟩ ?_
  · simp (maxSteps := 4000000) only [↓packA, ↓reduceIte, packB, pureOp, quietOp, loadOp, quietB, fr0, cellsK, implies_true, ite_true, ite_false, eq_self, ne_eq, reduceCtorEq, Nat.reduceLT, Nat.reduceLeDiff, Nat.reduceAdd, Nat.reduceMul, Nat.reduceBEq, Nat.reduceEqDiff, Int.reduceToNat, Int.reduceLT, Int.reduceLE, Nat.reduceSub, pl89, ft2, ft3, ft58, ft109, ft147]
  · simp (maxSteps := 4000000) only [↓packA, ↓reduceIte, packB, pureOp, quietOp, loadOp, quietB, fr0, cellsK, implies_true, ite_true, ite_false, eq_self, ne_eq, reduceCtorEq, Nat.reduceLT, Nat.reduceLeDiff, Nat.reduceAdd, Nat.reduceMul, Nat.reduceBEq, Nat.reduceEqDiff, Int.reduceToNat, Int.reduceLT, Int.reduceLE, Nat.reduceSub, pl89, ft2, ft3, ft58, ft109, ft147]
  · simp (maxSteps := 4000000) only [↓packA, ↓reduceIte, packB, pureOp, quietOp, loadOp, quietB, fr0, cellsK, implies_true, ite_true, ite_false, eq_self, ne_eq, reduceCtorEq, Nat.reduceLT, Nat.reduceLeDiff, Nat.reduceAdd, Nat.reduceMul, Nat.reduceBEq, Nat.reduceEqDiff, Int.reduceToNat, Int.reduceLT, Int.reduceLE, Nat.reduceSub, pl89, ft2, ft3, ft58, ft109, ft147]
  · simp (maxSteps := 4000000) only [↓packA, ↓reduceIte, packB, pureOp, quietOp, loadOp, quietB, fr0, cellsK, implies_true, ite_true, ite_false, eq_self, ne_eq, reduceCtorEq, Nat.reduceLT, Nat.reduceLeDiff, Nat.reduceAdd, Nat.reduceMul, Nat.reduceBEq, Nat.reduceEqDiff, Int.reduceToNat, Int.reduceLT, Int.reduceLE, Nat.reduceSub, pl89, ft2, ft3, ft58, ft109, ft147, Int.natCast_zero]
  rintro x w g ⟨k, es1, c, rfl, hk, hl1, hL1, hs, hc, hv, a0, a1, a5, a6, rfl⟩
  by_cases c1 : k < n
  · have r1 : (k : Int) < (n : Int) := by omega
    have gx := hs k (Nat.le_refl _)
    have hx := hL.get (i := k)
    have hy := hLV.get (i := k)
    have cx : IntKind.i64.wrap (es.getD k default) = es.getD k default := IntWalk.i64_in _ (by omega)
    have cy : IntKind.i64.wrap (V.getD k default) = V.getD k default := IntWalk.i64_in _ (by omega)
    have key : ∀ s v : Int, s = c + es.getD k default - V.getD k default → v = s % 4294967296 → (es1.set k v).length = es.length ∧ LI (es1.set k v) ∧ (∀ i, k + 1 ≤ i → (es1.set k v).getD i default = es.getD i default) ∧ (-1 ≤ s / 4294967296 ∧ s / 4294967296 ≤ 0) ∧ val ((es1.set k v).take (k + 1)) + 4294967296 ^ (k + 1) * (s / 4294967296) = val (es.take (k + 1)) - val (V.take (k + 1)) := by
      rintro s v hs1 rfl
      refine ⟨by rw [List.length_set]; exact hl1, hL1.set (by omega), fun i hi => by rw [getD_setN (by omega)]; exact hs i (by omega), by omega, ?_⟩
      rw [val_take_next, take_set_le (Nat.le_refl _), getD_setI (by omega), val_take_next, val_take_next, Int.pow_succ]
      exact tk_step hv hs1
    by_cases c2 : k < m
    · have r2 : (k : Int) < (m : Int) := by omega
      have gy := hgV k c2
      obtain ⟨k1, k2, k3, k4, k5⟩ := key _ _ rfl rfl
      simp (maxSteps := 4000000) only [↓packA, ↓reduceIte, packB, pureOp, quietOp, loadOp, quietB, fr0, cellsK, implies_true, ite_true, ite_false, eq_self, ne_eq, reduceCtorEq, Nat.reduceLT, Nat.reduceLeDiff, Nat.reduceAdd, Nat.reduceMul, Nat.reduceBEq, Nat.reduceEqDiff, Int.reduceToNat, Int.reduceLT, Int.reduceLE, Nat.reduceSub, pl89, ft2, ft3, ft58, ft109, ft147, limR, hi2, hv2, a0, a1, a5, a6, r1, r2, gx, gy, cx, cy, fdiv32, conv32]
      exact ⟨by omega, by omega, by omega, by omega, by omega, by omega, by omega, by omega, by omega, by omega, by omega, .inl ⟨n - (k + 1), by omega, k + 1, _, _, rfl, by omega, k1, k2, k3, k4, k5, rfl, by omega, List.set_set ..⟩⟩
    · have r2 : ¬ (k : Int) < (m : Int) := by omega
      obtain ⟨k1, k2, k3, k4, k5⟩ := key (c + es.getD k default) _ (by rw [hV0 k (by omega)]; omega) rfl
      simp (maxSteps := 4000000) only [↓packA, ↓reduceIte, packB, pureOp, quietOp, loadOp, quietB, fr0, cellsK, implies_true, ite_true, ite_false, eq_self, ne_eq, reduceCtorEq, Nat.reduceLT, Nat.reduceLeDiff, Nat.reduceAdd, Nat.reduceMul, Nat.reduceBEq, Nat.reduceEqDiff, Int.reduceToNat, Int.reduceLT, Int.reduceLE, Nat.reduceSub, pl89, ft2, ft3, ft58, ft109, ft147, limR, hi2, hv2, a0, a1, a5, a6, r1, r2, gx, cx, fdiv32, conv32]
      exact ⟨by omega, by omega, by omega, by omega, by omega, by omega, by omega, .inl ⟨n - (k + 1), by omega, k + 1, _, _, rfl, by omega, k1, k2, k3, k4, k5, rfl, by omega, List.set_set ..⟩⟩
  · have r1 : ¬ (k : Int) < (n : Int) := by omega
    obtain rfl : k = n := by omega
    simp (maxSteps := 4000000) only [↓packA, ↓reduceIte, packB, pureOp, quietOp, loadOp, quietB, fr0, cellsK, implies_true, ite_true, ite_false, eq_self, ne_eq, reduceCtorEq, Nat.reduceLT, Nat.reduceLeDiff, Nat.reduceAdd, Nat.reduceMul, Nat.reduceBEq, Nat.reduceEqDiff, Int.reduceToNat, Int.reduceLT, Int.reduceLE, Nat.reduceSub, pl89, ft2, ft3, ft58, ft109, ft147, limR, hi2, hv2, a0, a1, a5, a6, r1]
    refine norm_o (hi2 _) (by omega) (by omega) (by omega) ?_
    simp (maxSteps := 4000000) only [↓packA, ↓reduceIte, packB, pureOp, quietOp, loadOp, quietB, fr0, cellsK, implies_true, ite_true, ite_false, eq_self, ne_eq, reduceCtorEq, Nat.reduceLT, Nat.reduceLeDiff, Nat.reduceAdd, Nat.reduceMul, Nat.reduceBEq, Nat.reduceEqDiff, Int.reduceToNat, Int.reduceLT, Int.reduceLE, Nat.reduceSub, pl89, ft2, ft3, ft58, ft109, ft147, limR, hi2, hv2, a0, a1, a5, a6, r1]
    have hVt : V.take k = V := List.take_of_length_le (by rw [eV, List.length_take]; omega)
    rw [hVt] at hv
    have hbd := val_bound (hL1.take k)
    rw [List.length_take, Nat.min_eq_left (by omega)] at hbd
    have c0 : c = 0 := by
      apply Classical.byContradiction
      intro hc0
      obtain rfl : c = -1 := by omega
      omega
    subst c0
    refine hq es1 _ hl1 hL1 (norm_take hL1 (by omega)) (trmN_le _) ?_
    rw [trmN_val _ (by omega)]
    omega
end Go.Proofs.YtclbobielhllmaaGreat
end
section
namespace Go.Proofs.YtclbobielhllmaaGreat
open Go Go.AL
set_option linter.unusedVariables false
set_option linter.unusedSimpArgs false
theorem or64' {q t lo : Nat} (hlo : lo < 2 ^ t) (h : q * 2 ^ t + lo < 2 ^ 64) : IntKind.u64.wrap ((BitVec.ofInt IntKind.u64.bits ((lo : Nat) : Int) ||| BitVec.ofInt IntKind.u64.bits ((q * 2 ^ t : Nat) : Int)).toNat) = ((q * 2 ^ t + lo : Nat) : Int) := by
  rw [BitVec.or_comm]
  exact or64 hlo h
theorem ra_step {X P T A x s acc t : Int} (h : X + P * acc = A * (T * s)) (ht : t = x * s + acc) : X + P * (t % 4294967296) + P * 4294967296 * (t / 4294967296) = A * (T * s) + P * (x * s) := by
  have e : P * (t % 4294967296) + P * (4294967296 * (t / 4294967296)) = P * (x * s) + P * acc := by
    rw [← Int.mul_add, Int.emod_add_mul_ediv, ht, Int.mul_add]
  rw [Int.mul_assoc P]
  omega
set_option maxHeartbeats 16000000 in
set_option maxRecDepth 100000 in
theorem raised_c (l : List Int) (hL : LI l) (z : Nat) (hl : l.length < 100000000) (hz : z < 4000000000) : ACalls Tryz.prog 84 [lims l, .int .i64 z] [] fun v h => ∃ r : List Int, Norm r ∧ val r = val l * 2 ^ z ∧ OFz h v (lims r) := by
  refine wp84 rfl rfl ?_
  by_cases c0 : l.length = 0
  · have r0 : (l.length : Int) = 0 := by omega
    obtain rfl := List.length_eq_zero_iff.1 c0
    simp (maxSteps := 4000000) only [↓packA, ↓reduceIte, packB, pureOp, quietOp, loadOp, quietB, fr0, cellsK, implies_true, ite_true, ite_false, eq_self, ne_eq, reduceCtorEq, Nat.reduceLT, Nat.reduceLeDiff, Nat.reduceAdd, Nat.reduceMul, Nat.reduceBEq, Nat.reduceEqDiff, Int.reduceToNat, Int.reduceLT, Int.reduceLE, Nat.reduceSub, pl84, ft1, ft3, ft58, ft109, ft110, ft147, lims, r0, concA, Int.reduceAdd, Int.reduceSub, Int.reduceNeg, Int.reduceMul, Int.reduceEq, Int.reduceBEq, Int.reduceBNe]
    exact ⟨[], Norm.nil, by simp [val], .nils 1⟩
  have r0 : ¬ (l.length : Int) = 0 := by omega
  have q0 : (z : Int).tdiv 32 = ((z / 32 : Nat) : Int) := by rw [Int.tdiv_eq_ediv_of_nonneg (by omega)]; omega
  have q1 : (z : Int).tmod 32 = ((z % 32 : Nat) : Int) := by rw [Int.tmod_eq_emod_of_nonneg (by omega)]; omega
  have q2 : IntKind.u64.wrap ((z % 32 : Nat) : Int) = ((z % 32 : Nat) : Int) := cu64 (by omega)
  have q3 : (((z / 32 : Nat) : Int)).toNat = z / 32 := Int.toNat_natCast _
  have q4 : IntKind.i64.wrap ((z / 32 : Nat) : Int) = ((z / 32 : Nat) : Int) := IntWalk.i64_in _ (by omega)
  simp (maxSteps := 4000000) only [↓packA, ↓reduceIte, packB, pureOp, quietOp, loadOp, quietB, fr0, cellsK, implies_true, ite_true, ite_false, eq_self, ne_eq, reduceCtorEq, Nat.reduceLT, Nat.reduceLeDiff, Nat.reduceAdd, Nat.reduceMul, Nat.reduceBEq, Nat.reduceEqDiff, Int.reduceToNat, Int.reduceLT, Int.reduceLE, Nat.reduceSub, pl84, ft1, ft3, ft58, ft109, ft110, ft147, lims, limR, r0, q0, q1, q2, q3, q4, concA, Int.reduceAdd, Int.reduceSub, Int.reduceNeg, Int.reduceMul, Int.reduceEq, Int.reduceBEq, Int.reduceBNe]
  obtain ⟨q, eq⟩ : ∃ q, q = z / 32 := ⟨_, rfl⟩
  obtain ⟨s, es⟩ : ∃ s, s = z % 32 := ⟨_, rfl⟩
  have ez : z = 32 * q + s := by omega
  have hs : s < 32 := by omega
  clear q0 q1 q2 q3 q4
  rw [← eq, ← es]
  have eP : (2 : Int) ^ z = 4294967296 ^ q * ((2 ^ s : Nat) : Int) := by
    rw [ez, Int.pow_add, Int.pow_mul]
    simp
  clear eq es
  have hT : 2 ^ s ≤ 2 ^ 31 := Nat.pow_le_pow_right (by decide) (by omega)
  have hT0 : 0 < 2 ^ s := Nat.pow_pos (by decide)
  refine ⟨by omega, ?_⟩
  refine LoopK.intro (fun x w g => ∃ (k acc id : Nat) (es1 : List Int) (e e2 : Bool), x = l.length - k ∧ k ≤ l.length ∧ es1.length = q + k ∧ LI es1 ∧ acc < 2 ^ s ∧ val es1 + 4294967296 ^ (q + k) * (acc : Int) = val (l.take k) * (4294967296 ^ q * ((2 ^ s : Nat) : Int)) ∧ w 0 = lims l ∧ w 5 = .osl id 1 0 (q + k) (q + k) e ∧ w 6 = .int .u64 s ∧ w 7 = .int .u64 acc ∧ w 8 = .int .i64 k ∧ g[id]? = some (.arr 1 (List.map u32E es1) e2)) l.length ⟨0, 0, 0, List.replicate q 0, true, true, rfl, by omega, by simp, LI.rep, hT0, ?_, ?_, ?_, ?_, ?_, ?_, rfl⟩ ?_
  · rw [val_rep]; simp [val]
  · simp (maxSteps := 4000000) only [↓packA, ↓reduceIte, packB, pureOp, quietOp, loadOp, quietB, fr0, cellsK, implies_true, ite_true, ite_false, eq_self, ne_eq, reduceCtorEq, Nat.reduceLT, Nat.reduceLeDiff, Nat.reduceAdd, Nat.reduceMul, Nat.reduceBEq, Nat.reduceEqDiff, Int.reduceToNat, Int.reduceLT, Int.reduceLE, Nat.reduceSub, pl84, ft1, ft3, ft58, ft109, ft110, ft147, lims]
  · simp (maxSteps := 4000000) only [↓packA, ↓reduceIte, packB, pureOp, quietOp, loadOp, quietB, fr0, cellsK, implies_true, ite_true, ite_false, eq_self, ne_eq, reduceCtorEq, Nat.reduceLT, Nat.reduceLeDiff, Nat.reduceAdd, Nat.reduceMul, Nat.reduceBEq, Nat.reduceEqDiff, Int.reduceToNat, Int.reduceLT, Int.reduceLE, Nat.reduceSub, pl84, ft1, ft3, ft58, ft109, ft110, ft147, lims]
  · simp (maxSteps := 4000000) only [↓packA, ↓reduceIte, packB, pureOp, quietOp, loadOp, quietB, fr0, cellsK, implies_true, ite_true, ite_false, eq_self, ne_eq, reduceCtorEq, Nat.reduceLT, Nat.reduceLeDiff, Nat.reduceAdd, Nat.reduceMul, Nat.reduceBEq, Nat.reduceEqDiff, Int.reduceToNat, Int.reduceLT, Int.reduceLE, Nat.reduceSub, pl84, ft1, ft3, ft58, ft109, ft110, ft147, lims]
    exact cu64 (by omega)
  · simp (maxSteps := 4000000) only [↓packA, ↓reduceIte, packB, pureOp, quietOp, loadOp, quietB, fr0, cellsK, implies_true, ite_true, ite_false, eq_self, ne_eq, reduceCtorEq, Nat.reduceLT, Nat.reduceLeDiff, Nat.reduceAdd, Nat.reduceMul, Nat.reduceBEq, Nat.reduceEqDiff, Int.reduceToNat, Int.reduceLT, Int.reduceLE, Nat.reduceSub, pl84, ft1, ft3, ft58, ft109, ft110, ft147, lims, Int.natCast_zero]
  · simp (maxSteps := 4000000) only [↓packA, ↓reduceIte, packB, pureOp, quietOp, loadOp, quietB, fr0, cellsK, implies_true, ite_true, ite_false, eq_self, ne_eq, reduceCtorEq, Nat.reduceLT, Nat.reduceLeDiff, Nat.reduceAdd, Nat.reduceMul, Nat.reduceBEq, Nat.reduceEqDiff, Int.reduceToNat, Int.reduceLT, Int.reduceLE, Nat.reduceSub, pl84, ft1, ft3, ft58, ft109, ft110, ft147, lims, Int.natCast_zero]
  rintro x w g ⟨k, acc, id, es1, e, e2, rfl, hk, hl1, hL1, ha, hv, a0, a5, a6, a7, a8, hid⟩
  by_cases c : k < l.length
  · have r1 : (k : Int) < (l.length : Int) := by omega
    have hx := hL.get (i := k)
    have eN := val_take_next (l := l) (k := k)
    obtain ⟨x, ex⟩ := Int.eq_ofNat_of_zero_le hx.1
    have cx : IntKind.u64.wrap (x : Int) = x := cu64 (by omega)
    have hxs : x * 2 ^ s ≤ 4294967295 * 2 ^ 31 := Nat.mul_le_mul (by omega) hT
    have sx := shl64 (l := x) (s := s) (by omega) (by omega)
    have ox := or64' (q := x) (t := s) (lo := acc) ha (by omega)
    have f1 : IntKind.u32.wrap ((x * 2 ^ s + acc : Nat) : Int) = ((x * 2 ^ s + acc : Nat) : Int) % 4294967296 := conv32
    have f3 := shr64 (l := x * 2 ^ s + acc) (s := 32) (by omega)
    obtain ⟨M, hM⟩ : ∃ M, g.length = M := ⟨_, rfl⟩
    have rM : ∀ o, (g ++ [o])[M]? = some o := fun o => by rw [List.getElem?_append_right (by omega)]; simp [hM]
    have hidl := (List.getElem?_eq_some_iff.1 hid).1
    have rid : ∀ o, (g ++ [o])[id]? = some (.arr 1 (List.map u32E es1) e2) := fun o => by rw [List.getElem?_append_left hidl]; exact hid
    have r4 : ¬ q + k + 1 ≤ q + k := by omega
    have tk : List.take (q + k) (List.map u32E es1) = List.map u32E es1 := List.take_of_length_le (by rw [List.length_map]; omega)
    have lk : (List.map u32E es1).length = q + k := by rw [List.length_map, hl1]
    have hacc : (x * 2 ^ s + acc) / 2 ^ 32 < 2 ^ s := by
      rw [Nat.div_lt_iff_lt_mul (by decide)]
      have h1 : (x + 1) * 2 ^ s ≤ 4294967296 * 2 ^ s := Nat.mul_le_mul_right _ (by omega)
      rw [Nat.add_mul, Nat.one_mul] at h1
      omega
    have key : val (es1 ++ [((x * 2 ^ s + acc : Nat) : Int) % 4294967296]) + 4294967296 ^ (q + (k + 1)) * (((x * 2 ^ s + acc) / 2 ^ 32 : Nat) : Int) = val (l.take (k + 1)) * (4294967296 ^ q * ((2 ^ s : Nat) : Int)) := by
      have h1 := ra_step hv (t := ((x * 2 ^ s + acc : Nat) : Int)) (x := (x : Int)) (by rw [← Int.natCast_mul]; omega)
      have h2 : (4294967296 : Int) ^ k * x * (4294967296 ^ q * ((2 ^ s : Nat) : Int)) = 4294967296 ^ (q + k) * ((x : Int) * ((2 ^ s : Nat) : Int)) := by
        rw [Int.pow_add]
        ac_rfl
      rw [val_snoc, hl1, eN, ex, Int.add_mul, h2, ← h1, show q + (k + 1) = q + k + 1 by omega, Int.pow_succ]
      rfl
    have t1 : ∀ o : List AV, List.take 1 [o] = [o] := fun o => rfl
    cases e
    · simp (maxSteps := 4000000) only [↓packA, ↓reduceIte, packB, pureOp, quietOp, loadOp, quietB, fr0, cellsK, implies_true, ite_true, ite_false, eq_self, ne_eq, reduceCtorEq, Nat.reduceLT, Nat.reduceLeDiff, Nat.reduceAdd, Nat.reduceMul, Nat.reduceBEq, Nat.reduceEqDiff, Int.reduceToNat, Int.reduceLT, Int.reduceLE, Nat.reduceSub, pl84, ft1, ft3, ft58, ft109, ft110, ft147, lims, limR, a0, a5, a6, a7, a8, hM, rM, rid, r4, r1, ex, cx, sx, ox, f3, f1, t1, tk, lk, List.drop_zero, List.nil_append, List.length_append, List.length_cons, List.length_nil]
      refine ⟨by omega, by omega, by omega, by omega, by omega, .inl ⟨l.length - (k + 1), by omega, k + 1, _, M + 1, es1 ++ [((x * 2 ^ s + acc : Nat) : Int) % 4294967296], false, false, rfl, by omega, by rw [List.length_append, hl1]; rfl, hL1.app (LI.cons (by omega) LI.nil), hacc, key, rfl, rfl, by omega, ?_⟩⟩
      rw [List.getElem?_append_right (by simp; omega)]
      simp [hM]
    · simp (maxSteps := 4000000) only [↓packA, ↓reduceIte, packB, pureOp, quietOp, loadOp, quietB, fr0, cellsK, implies_true, ite_true, ite_false, eq_self, ne_eq, reduceCtorEq, Nat.reduceLT, Nat.reduceLeDiff, Nat.reduceAdd, Nat.reduceMul, Nat.reduceBEq, Nat.reduceEqDiff, Int.reduceToNat, Int.reduceLT, Int.reduceLE, Nat.reduceSub, pl84, ft1, ft3, ft58, ft109, ft110, ft147, lims, limR, a0, a5, a6, a7, a8, hM, rM, rid, r4, r1, ex, cx, sx, ox, f3, f1, t1, tk, lk, List.drop_zero, List.nil_append, List.length_append, List.length_cons, List.length_nil, concA, Int.reduceAdd, Int.reduceSub, Int.reduceNeg, Int.reduceMul, Int.reduceEq, Int.reduceBEq, Int.reduceBNe]
      refine ⟨by omega, by omega, by omega, by omega, by omega, .inl ⟨l.length - (k + 1), by omega, k + 1, _, M + 1, es1 ++ [((x * 2 ^ s + acc : Nat) : Int) % 4294967296], false, false, rfl, by omega, by rw [List.length_append, hl1]; rfl, hL1.app (LI.cons (by omega) LI.nil), hacc, key, rfl, rfl, by omega, ?_⟩⟩
      rw [List.getElem?_append_right (by simp; omega)]
      simp [hM]
  · have r1 : ¬ (k : Int) < (l.length : Int) := by omega
    obtain rfl : k = l.length := by omega
    obtain ⟨M, hM⟩ : ∃ M, g.length = M := ⟨_, rfl⟩
    have rM : ∀ o, (g ++ [o])[M]? = some o := fun o => by rw [List.getElem?_append_right (by omega)]; simp [hM]
    have hidl := (List.getElem?_eq_some_iff.1 hid).1
    have rid : ∀ o, (g ++ [o])[id]? = some (.arr 1 (List.map u32E es1) e2) := fun o => by rw [List.getElem?_append_left hidl]; exact hid
    have r4 : ¬ q + l.length + 1 ≤ q + l.length := by omega
    have tk : List.take (q + l.length) (List.map u32E es1) = List.map u32E es1 := List.take_of_length_le (by rw [List.length_map]; omega)
    have lk : (List.map u32E es1).length = q + l.length := by rw [List.length_map, hl1]
    have t1 : ∀ o : List AV, List.take 1 [o] = [o] := fun o => rfl
    have wa : IntKind.u32.wrap (acc : Int) = acc := wrap32 (by omega)
    have hLf : LI (es1 ++ [(acc : Int)]) := hL1.app (LI.cons (by omega) LI.nil)
    have hlf : (es1 ++ [(acc : Int)]).length = q + l.length + 1 := by rw [List.length_append, hl1]; rfl
    have hvf : val (es1 ++ [(acc : Int)]) = val l * 2 ^ z := by
      rw [val_snoc, hl1, hv, List.take_length, eP]
    cases e
    · simp (maxSteps := 4000000) only [↓packA, ↓reduceIte, packB, pureOp, quietOp, loadOp, quietB, fr0, cellsK, implies_true, ite_true, ite_false, eq_self, ne_eq, reduceCtorEq, Nat.reduceLT, Nat.reduceLeDiff, Nat.reduceAdd, Nat.reduceMul, Nat.reduceBEq, Nat.reduceEqDiff, Int.reduceToNat, Int.reduceLT, Int.reduceLE, Nat.reduceSub, pl84, ft1, ft3, ft58, ft109, ft110, ft147, lims, limR, a0, a5, a6, a7, a8, hM, rM, rid, r4, r1, wa, t1, tk, lk, List.drop_zero, List.nil_append, List.length_append, List.length_cons, List.length_nil]
      refine ⟨by omega, norm_o (es := es1 ++ [(acc : Int)]) (ex' := false) ?_ (by rw [List.length_append, hl1]; exact Nat.le_refl _) (Nat.le_refl _) (by omega) ?_⟩
      · rw [List.getElem?_append_right (by simp; omega)]
        simp [hM]
      simp (maxSteps := 4000000) only [↓packA, ↓reduceIte, packB, pureOp, quietOp, loadOp, quietB, fr0, cellsK, implies_true, ite_true, ite_false, eq_self, ne_eq, reduceCtorEq, Nat.reduceLT, Nat.reduceLeDiff, Nat.reduceAdd, Nat.reduceMul, Nat.reduceBEq, Nat.reduceEqDiff, Int.reduceToNat, Int.reduceLT, Int.reduceLE, Nat.reduceSub, pl84, ft1, ft3, ft58, ft109, ft110, ft147]
      refine ⟨_, norm_take hLf (n := q + l.length + 1) (by omega), ?_, ofz_lims (ex' := false) ?_ (trmN_le _) (by omega)⟩
      · rw [trmN_val _ (by omega), List.take_of_length_le (by omega)]
        exact hvf
      · rw [List.getElem?_append_right (by simp; omega)]
        simp [hM]
    · simp (maxSteps := 4000000) only [↓packA, ↓reduceIte, packB, pureOp, quietOp, loadOp, quietB, fr0, cellsK, implies_true, ite_true, ite_false, eq_self, ne_eq, reduceCtorEq, Nat.reduceLT, Nat.reduceLeDiff, Nat.reduceAdd, Nat.reduceMul, Nat.reduceBEq, Nat.reduceEqDiff, Int.reduceToNat, Int.reduceLT, Int.reduceLE, Nat.reduceSub, pl84, ft1, ft3, ft58, ft109, ft110, ft147, lims, limR, a0, a5, a6, a7, a8, hM, rM, rid, r4, r1, wa, t1, tk, lk, List.drop_zero, List.nil_append, List.length_append, List.length_cons, List.length_nil, concA, Int.reduceAdd, Int.reduceSub, Int.reduceNeg, Int.reduceMul, Int.reduceEq, Int.reduceBEq, Int.reduceBNe]
      refine ⟨by omega, norm_o (es := es1 ++ [(acc : Int)]) (ex' := false) ?_ (by rw [List.length_append, hl1]; exact Nat.le_refl _) (Nat.le_refl _) (by omega) ?_⟩
      · rw [List.getElem?_append_right (by simp; omega)]
        simp [hM]
      simp (maxSteps := 4000000) only [↓packA, ↓reduceIte, packB, pureOp, quietOp, loadOp, quietB, fr0, cellsK, implies_true, ite_true, ite_false, eq_self, ne_eq, reduceCtorEq, Nat.reduceLT, Nat.reduceLeDiff, Nat.reduceAdd, Nat.reduceMul, Nat.reduceBEq, Nat.reduceEqDiff, Int.reduceToNat, Int.reduceLT, Int.reduceLE, Nat.reduceSub, pl84, ft1, ft3, ft58, ft109, ft110, ft147]
      refine ⟨_, norm_take hLf (n := q + l.length + 1) (by omega), ?_, ofz_lims (ex' := false) ?_ (trmN_le _) (by omega)⟩
      · rw [trmN_val _ (by omega), List.take_of_length_le (by omega)]
        exact hvf
      · rw [List.getElem?_append_right (by simp; omega)]
        simp [hM]
end Go.Proofs.YtclbobielhllmaaGreat
end
section
namespace Go.Proofs.YtclbobielhllmaaGreat
open Go Go.AL
set_option linter.unusedVariables false
set_option linter.unusedSimpArgs false
theorem gcd_two {z : Nat} {X V : Int} (hV : V % 2 = 1) : Int.gcd (2 ^ z * X) V = Int.gcd X V := by
  show Nat.gcd (2 ^ z * X).natAbs V.natAbs = Nat.gcd X.natAbs V.natAbs
  rw [Int.natAbs_mul, Int.natAbs_pow]
  apply Nat.Coprime.gcd_mul_left_cancel
  apply Nat.Coprime.pow_left
  show Nat.gcd 2 V.natAbs = 1
  rw [Nat.gcd_rec, show V.natAbs % 2 = 1 by omega]
  rfl
theorem gcd_min {z1 z2 : Nat} {X Y : Int} (hX : X % 2 = 1) (hY : Y % 2 = 1) : (Int.gcd (2 ^ z1 * X) (2 ^ z2 * Y) : Int) = Int.gcd X Y * 2 ^ (min z1 z2) := by
  have key : ∀ (z d : Nat) (X Y : Int), X % 2 = 1 → (Int.gcd (2 ^ z * X) (2 ^ (z + d) * Y) : Int) = Int.gcd X Y * 2 ^ z := by
    intro z d X Y hX
    rw [Int.pow_add, Int.mul_assoc, Int.gcd_mul_left, Int.gcd_comm X, gcd_two hX, Int.gcd_comm Y, Int.natAbs_pow]
    rw [Nat.mul_comm]
    simp
  rcases Nat.le_total z1 z2 with h | h
  · obtain ⟨d, rfl⟩ : ∃ d, z2 = z1 + d := ⟨z2 - z1, by omega⟩
    rw [Nat.min_eq_left h]
    exact key z1 d X Y hX
  · obtain ⟨d, rfl⟩ : ∃ d, z1 = z2 + d := ⟨z1 - z2, by omega⟩
    rw [Nat.min_eq_right h, Int.gcd_comm, Int.gcd_comm X]
    exact key z2 d Y X hY
theorem gcd_take {X V : Int} : Int.gcd (X - V) V = Int.gcd X V := by
  have := gcd_step (A := X) (B := V) (q := 1) (r := X - V) (by omega)
  rw [← this, Int.gcd_comm]
theorem frz_lims {h : Heap} {id len cap : Nat} {ex ex' : Bool} {es : List Int} (hid : h[id]? = some (.arr 1 (List.map u32E es) ex')) (hl : len ≤ es.length) : Frz h (.osl id 1 0 len cap ex) (lims (es.take len)) := by
  have := Frz.flat (h := h) (id := id) (k := 1) (i := 0) (len := len) (cap := cap) (ex := ex) (ex' := ex') (es := List.map u32E es) hid (by simp; omega) (fun e he => by
    obtain ⟨x, _, rfl⟩ := List.mem_map.1 he; rfl)
  rw [List.drop_zero, ← List.map_take] at this
  exact this
set_option maxRecDepth 100000 in
theorem copied_o (l : List Int) (hl : l.length < 100000000) (h0 : 0 < l.length) {h : Heap} {Q : AV → Heap → Prop} (hq : Q (.osl h.length 1 0 l.length l.length false) (h ++ [.arr 1 (List.map u32E l) false])) : ACalls Tryz.prog 82 [lims l] h Q := by
  refine wp82 rfl rfl ?_
  cases l with
  | nil => simp at h0
  | cons y ys =>
    have lk : (List.map u32E ys).length = ys.length := List.length_map ..
    unfold lims at *
    rw [List.map_cons] at hq ⊢
    rw [List.length_cons] at hq hl
    simp (maxSteps := 4000000) only [↓packA, ↓reduceIte, packB, pureOp, quietOp, loadOp, quietB, fr0, cellsK, implies_true, ite_true, ite_false, eq_self, ne_eq, reduceCtorEq, Nat.reduceLT, Nat.reduceLeDiff, Nat.reduceAdd, Nat.reduceMul, Nat.reduceBEq, Nat.reduceEqDiff, Int.reduceToNat, Int.reduceLT, Int.reduceLE, Nat.reduceSub, pl82, ft58, ft109, lk, concA, Int.reduceAdd, Int.reduceSub, Int.reduceNeg, Int.reduceMul, Int.reduceEq, Int.reduceBEq, Int.reduceBNe]
    exact ⟨by omega, hq⟩
set_option maxHeartbeats 16000000 in
set_option maxRecDepth 100000 in
theorem gcdw_c (a b g : List Int) (ha : Norm a) (hb : Norm b) (ha0 : 0 < a.length) (hb0 : 0 < b.length) (hla : a.length < 100000000) (hlb : b.length < 100000000) (hgN : Norm g) (hgv : val g = Int.gcd (val a) (val b)) : APure Tryz.prog 76 [lims a, lims b] (lims g) := by
  refine apure_of (wp76 rfl rfl ?_)
  simp (maxSteps := 4000000) only [↓packA, ↓reduceIte, packB, pureOp, quietOp, loadOp, quietB, fr0, cellsK, implies_true, ite_true, ite_false, eq_self, ne_eq, reduceCtorEq, Nat.reduceLT, Nat.reduceLeDiff, Nat.reduceAdd, Nat.reduceMul, Nat.reduceBEq, Nat.reduceEqDiff, Int.reduceToNat, Int.reduceLT, Int.reduceLE, Nat.reduceSub, pl76, ft3, ft58, ft109, ft110, lims]
  refine copied_o a hla ha0 ?_
  simp (maxSteps := 4000000) only [↓packA, ↓reduceIte, packB, pureOp, quietOp, loadOp, quietB, fr0, cellsK, implies_true, ite_true, ite_false, eq_self, ne_eq, reduceCtorEq, Nat.reduceLT, Nat.reduceLeDiff, Nat.reduceAdd, Nat.reduceMul, Nat.reduceBEq, Nat.reduceEqDiff, Int.reduceToNat, Int.reduceLT, Int.reduceLE, Nat.reduceSub, pl76, ft3, ft58, ft109, ft110, lims]
  refine copied_o b hlb hb0 ?_
  have na : ¬ (a.length : Int) = 0 := by omega
  have nb : ¬ (b.length : Int) = 0 := by omega
  simp (maxSteps := 4000000) only [↓packA, ↓reduceIte, packB, pureOp, quietOp, loadOp, quietB, fr0, cellsK, implies_true, ite_true, ite_false, eq_self, ne_eq, reduceCtorEq, Nat.reduceLT, Nat.reduceLeDiff, Nat.reduceAdd, Nat.reduceMul, Nat.reduceBEq, Nat.reduceEqDiff, Int.reduceToNat, Int.reduceLT, Int.reduceLE, Nat.reduceSub, pl76, ft3, ft58, ft109, ft110, lims, na, nb, List.nil_append, List.cons_append, List.length_cons, List.length_nil]
  refine strip_o (es := a) rfl ha.1 (Nat.le_refl _) (Nat.le_refl _) ha0 (by rw [List.take_length]; exact ha) hla fun ea n1 z1 hl1 hL1 hN1 hn1 h01 hz1 hv1 ho1 => ?_
  rw [List.take_length] at hv1
  simp (maxSteps := 4000000) only [↓packA, ↓reduceIte, packB, pureOp, quietOp, loadOp, quietB, fr0, cellsK, implies_true, ite_true, ite_false, eq_self, ne_eq, reduceCtorEq, Nat.reduceLT, Nat.reduceLeDiff, Nat.reduceAdd, Nat.reduceMul, Nat.reduceBEq, Nat.reduceEqDiff, Int.reduceToNat, Int.reduceLT, Int.reduceLE, Nat.reduceSub, pl76, ft3, ft58, ft109, ft110, lims, na, nb, List.nil_append, List.cons_append, List.length_cons, List.length_nil]
  refine strip_o (es := b) rfl hb.1 (Nat.le_refl _) (Nat.le_refl _) hb0 (by rw [List.take_length]; exact hb) hlb fun eb n2 z2 hl2 hL2 hN2 hn2 h02 hz2 hv2 ho2 => ?_
  rw [List.take_length] at hv2
  simp (maxSteps := 4000000) only [↓packA, ↓reduceIte, packB, pureOp, quietOp, loadOp, quietB, fr0, cellsK, implies_true, ite_true, ite_false, eq_self, ne_eq, reduceCtorEq, Nat.reduceLT, Nat.reduceLeDiff, Nat.reduceAdd, Nat.reduceMul, Nat.reduceBEq, Nat.reduceEqDiff, Int.reduceToNat, Int.reduceLT, Int.reduceLE, Nat.reduceSub, pl76, ft3, ft58, ft109, ft110, lims, na, nb, List.nil_append, List.cons_append, List.length_cons, List.length_nil]
  have hX : (Int.gcd (val a) (val b) : Int) = Int.gcd (val (ea.take n1)) (val (eb.take n2)) * 2 ^ (min z1 z2) := by rw [hv1, hv2]; exact gcd_min ho1 ho2
  rw [← hgv] at hX
  obtain ⟨sh, esh⟩ : ∃ sh, sh = min z1 z2 := ⟨_, rfl⟩
  rw [← esh] at hX
  refine (fun (hG : ∀ (f : Fr) (H : Heap), (H[0]? = some (.arr 1 (List.map u32E ea) false) ∧ H[1]? = some (.arr 1 (List.map u32E eb) false) ∧ f 0 = .osl 0 1 0 n1 a.length false ∧ f 1 = .osl 1 1 0 n2 b.length false ∧ f 5 = .int .i64 sh) → LoopK _ _ f H) => ⟨fun c => hG _ _ ?_, fun c => hG _ _ ?_⟩) ?_
  rotate_left
  · simp (maxSteps := 4000000) only [↓packA, ↓reduceIte, packB, pureOp, quietOp, loadOp, quietB, fr0, cellsK, implies_true, ite_true, ite_false, eq_self, ne_eq, reduceCtorEq, Nat.reduceLT, Nat.reduceLeDiff, Nat.reduceAdd, Nat.reduceMul, Nat.reduceBEq, Nat.reduceEqDiff, Int.reduceToNat, Int.reduceLT, Int.reduceLE, Nat.reduceSub, pl76, ft3, ft58, ft109, ft110]
    omega
  · simp (maxSteps := 4000000) only [↓packA, ↓reduceIte, packB, pureOp, quietOp, loadOp, quietB, fr0, cellsK, implies_true, ite_true, ite_false, eq_self, ne_eq, reduceCtorEq, Nat.reduceLT, Nat.reduceLeDiff, Nat.reduceAdd, Nat.reduceMul, Nat.reduceBEq, Nat.reduceEqDiff, Int.reduceToNat, Int.reduceLT, Int.reduceLE, Nat.reduceSub, pl76, ft3, ft58, ft109, ft110]
    omega
  rintro f H ⟨hH0, hH1, f0, f1, f5⟩
  have hsh : sh < 4000000000 := by omega
  refine LoopK.intro (fun x w G => ∃ (u v nu nv cu cv : Nat) (eu ev : List Int), x = (val (eu.take nu) + val (ev.take nv)).toNat ∧ u ≠ v ∧ G[u]? = some (.arr 1 (List.map u32E eu) false) ∧ G[v]? = some (.arr 1 (List.map u32E ev) false) ∧ LI eu ∧ LI ev ∧ Norm (eu.take nu) ∧ Norm (ev.take nv) ∧ nu ≤ eu.length ∧ nv ≤ ev.length ∧ nu ≤ cu ∧ nv ≤ cv ∧ 0 < nv ∧ nu < 100000000 ∧ nv < 100000000 ∧ val (ev.take nv) % 2 = 1 ∧ val g = Int.gcd (val (eu.take nu)) (val (ev.take nv)) * 2 ^ sh ∧ w 0 = .osl u 1 0 nu cu false ∧ w 1 = .osl v 1 0 nv cv false ∧ w 5 = .int .i64 sh) _ ⟨0, 1, n1, n2, a.length, b.length, ea, eb, rfl, by omega, hH0, hH1, hL1, hL2, hN1, hN2, by omega, by omega, by omega, by omega, h02, by omega, by omega, ho2, hX, f0, f1, f5⟩ ?_
  clear f0 f1 f5 f hH0 hH1 hX esh ho1 ho2 hv1 hv2 hz1 hz2 h01 h02 hn1 hn2 hN1 hN2 hL1 hL2 hl1 hl2 ea eb n1 n2 z1 z2 na nb hgv hla hlb ha0 hb0 ha hb a b
  rintro x w G ⟨u, v, nu, nv, cu, cv, eu, ev, rfl, huv, hu, hv, hLu, hLv, hNu, hNv, hlu, hlv, hcu, hcv, h0v, hbu, hbv, hodd, hgv, a0, a1, a5⟩
  have hul := (List.getElem?_eq_some_iff.1 hu).1
  have hvl := (List.getElem?_eq_some_iff.1 hv).1
  have huX : ∀ X, (G.set u X)[u]? = some X := fun X => List.getElem?_set_self hul
  have hvX : ∀ X, (G.set u X)[v]? = some (.arr 1 (List.map u32E ev) false) := fun X => by rw [List.getElem?_set_ne huv]; exact hv
  have hlv2 : (ev.take nv).length = nv := by rw [List.length_take]; omega
  have hvp := hNv.pos (by omega)
  by_cases c : 0 < nu
  · have r1 : (nu : Int) > 0 := by omega
    simp (maxSteps := 4000000) only [↓packA, ↓reduceIte, packB, pureOp, quietOp, loadOp, quietB, fr0, cellsK, implies_true, ite_true, ite_false, eq_self, ne_eq, reduceCtorEq, Nat.reduceLT, Nat.reduceLeDiff, Nat.reduceAdd, Nat.reduceMul, Nat.reduceBEq, Nat.reduceEqDiff, Int.reduceToNat, Int.reduceLT, Int.reduceLE, Nat.reduceSub, pl76, ft3, ft58, ft109, ft110, a0, a1, a5, r1]
    refine strip_o hu hLu hlu hcu c hNu hbu fun es n z hl hL hN hn h0n hz hve hod => ?_
    have hlen : (es.take n).length = n := by rw [List.length_take]; omega
    have hup := hN.pos (by omega)
    have hge : val (es.take n) ≤ val (eu.take nu) := by
      have hT : (0 : Int) < 2 ^ z := Int.pow_pos (by decide)
      have h1 : 1 * val (es.take n) ≤ 2 ^ z * val (es.take n) := Int.mul_le_mul_of_nonneg_right (by omega) (by omega)
      omega
    have hgg : val g = Int.gcd (val (es.take n)) (val (ev.take nv)) * 2 ^ sh := by rw [hgv, hve, gcd_two hodd]
    by_cases c2 : n ≤ 2 ∧ nv ≤ 2
    · have r2 : (n : Int) ≤ 2 := by omega
      have r3 : (nv : Int) ≤ 2 := by omega
      simp (maxSteps := 4000000) only [↓packA, ↓reduceIte, packB, pureOp, quietOp, loadOp, quietB, fr0, cellsK, implies_true, ite_true, ite_false, eq_self, ne_eq, reduceCtorEq, Nat.reduceLT, Nat.reduceLeDiff, Nat.reduceAdd, Nat.reduceMul, Nat.reduceBEq, Nat.reduceEqDiff, Int.reduceToNat, Int.reduceLT, Int.reduceLE, Nat.reduceSub, pl76, ft3, ft58, ft109, ft110, a0, a1, a5, r1, r2, r3]
      have b1 := val_bound hN.1
      have b2 := val_bound hNv.1
      have b3 : (4294967296 : Int) ^ (es.take n).length ≤ 4294967296 ^ 2 := bmono (by omega)
      have b4 : (4294967296 : Int) ^ (ev.take nv).length ≤ 4294967296 ^ 2 := bmono (by omega)
      refine acalls_lend (rsmall_c (es.take n) hN.1 (by omega)) (.cons (frz_lims (huX _) (by omega)) .nil) rfl ?_
      simp (maxSteps := 4000000) only [↓packA, ↓reduceIte, packB, pureOp, quietOp, loadOp, quietB, fr0, cellsK, implies_true, ite_true, ite_false, eq_self, ne_eq, reduceCtorEq, Nat.reduceLT, Nat.reduceLeDiff, Nat.reduceAdd, Nat.reduceMul, Nat.reduceBEq, Nat.reduceEqDiff, Int.reduceToNat, Int.reduceLT, Int.reduceLE, Nat.reduceSub, pl76, ft3, ft58, ft109, ft110, a0, a1, a5, r1, r2, r3]
      refine acalls_lend (rsmall_c (ev.take nv) hNv.1 (by omega)) (.cons (frz_lims (hvX _) hlv) .nil) rfl ?_
      simp (maxSteps := 4000000) only [↓packA, ↓reduceIte, packB, pureOp, quietOp, loadOp, quietB, fr0, cellsK, implies_true, ite_true, ite_false, eq_self, ne_eq, reduceCtorEq, Nat.reduceLT, Nat.reduceLeDiff, Nat.reduceAdd, Nat.reduceMul, Nat.reduceBEq, Nat.reduceEqDiff, Int.reduceToNat, Int.reduceLT, Int.reduceLE, Nat.reduceSub, pl76, ft3, ft58, ft109, ft110, a0, a1, a5, r1, r2, r3]
      refine acalls_pure (euclid_c _ _ (by omega) (by omega)) rfl ?_
      simp (maxSteps := 4000000) only [↓packA, ↓reduceIte, packB, pureOp, quietOp, loadOp, quietB, fr0, cellsK, implies_true, ite_true, ite_false, eq_self, ne_eq, reduceCtorEq, Nat.reduceLT, Nat.reduceLeDiff, Nat.reduceAdd, Nat.reduceMul, Nat.reduceBEq, Nat.reduceEqDiff, Int.reduceToNat, Int.reduceLT, Int.reduceLE, Nat.reduceSub, pl76, ft3, ft58, ft109, ft110, a0, a1, a5, r1, r2, r3]
      have hgb : (Int.gcd (val (es.take n)) (val (ev.take nv)) : Int) ≤ val (ev.take nv) := Int.le_of_dvd hvp (Int.gcd_dvd_right ..)
      refine limbs_c _ (by omega) fun es' hl' hL' hv' => ?_
      simp (maxSteps := 4000000) only [↓packA, ↓reduceIte, packB, pureOp, quietOp, loadOp, quietB, fr0, cellsK, implies_true, ite_true, ite_false, eq_self, ne_eq, reduceCtorEq, Nat.reduceLT, Nat.reduceLeDiff, Nat.reduceAdd, Nat.reduceMul, Nat.reduceBEq, Nat.reduceEqDiff, Int.reduceToNat, Int.reduceLT, Int.reduceLE, Nat.reduceSub, pl76, ft3, ft58, ft109, ft110, a0, a1, a5, r1, r2, r3]
      refine acalls_fresh (raised_c (es'.take (trmN es' 2)) (hL'.take _) sh (by rw [List.length_take]; omega) hsh) (.cons (frz_lims (by rw [List.getElem?_append_right (by rw [List.length_set]; exact Nat.le_refl _), List.length_set, Nat.sub_self]; rfl) (by have := trmN_le (l := es') 2; omega)) (.cons (.pure _ rfl) .nil)) fun u1 h1 hz1 => ?_
      obtain ⟨r, hr, hvr, hzr⟩ := hz1
      refine ⟨_, hzr, ?_⟩
      simp (maxSteps := 4000000) only [↓packA, ↓reduceIte, packB, pureOp, quietOp, loadOp, quietB, fr0, cellsK, implies_true, ite_true, ite_false, eq_self, ne_eq, reduceCtorEq, Nat.reduceLT, Nat.reduceLeDiff, Nat.reduceAdd, Nat.reduceMul, Nat.reduceBEq, Nat.reduceEqDiff, Int.reduceToNat, Int.reduceLT, Int.reduceLE, Nat.reduceSub, pl76, ft3, ft58, ft109, ft110, a0, a1, a5, r1, r2, r3]
      rw [trmN_val _ (by omega), List.take_of_length_le (by omega), hv', ← hgg] at hvr
      rw [hr.inj hgN hvr]
      exact .pure _ rfl
    · by_cases c4 : n ≤ 2
      · have r2 : (n : Int) ≤ 2 := by omega
        have r3 : ¬ (nv : Int) ≤ 2 := by omega
        simp (maxSteps := 4000000) only [↓packA, ↓reduceIte, packB, pureOp, quietOp, loadOp, quietB, fr0, cellsK, implies_true, ite_true, ite_false, eq_self, ne_eq, reduceCtorEq, Nat.reduceLT, Nat.reduceLeDiff, Nat.reduceAdd, Nat.reduceMul, Nat.reduceBEq, Nat.reduceEqDiff, Int.reduceToNat, Int.reduceLT, Int.reduceLE, Nat.reduceSub, pl76, ft3, ft58, ft109, ft110, a0, a1, a5, r1, r2, r3]
        refine acalls_lend (rcmp_c (es.take n) (ev.take nv) hN hNv (by omega) (by omega)) (.cons (frz_lims (huX _) (by omega)) (.cons (frz_lims (hvX _) hlv) .nil)) rfl ?_
        by_cases c3 : val (es.take n) < val (ev.take nv)
        · have r4 : cmpV (val (es.take n)) (val (ev.take nv)) < 0 := by unfold cmpV; rw [if_pos c3]; decide
          simp (maxSteps := 4000000) only [↓packA, ↓reduceIte, packB, pureOp, quietOp, loadOp, quietB, fr0, cellsK, implies_true, ite_true, ite_false, eq_self, ne_eq, reduceCtorEq, Nat.reduceLT, Nat.reduceLeDiff, Nat.reduceAdd, Nat.reduceMul, Nat.reduceBEq, Nat.reduceEqDiff, Int.reduceToNat, Int.reduceLT, Int.reduceLE, Nat.reduceSub, pl76, ft3, ft58, ft109, ft110, a0, a1, a5, r1, r4]
          refine take_o (hvX _) (huX _) (fun h => huv h.symm) hLv hL hlv hcv (by omega) (by
            have := hN.len_le hNv.1 (by omega)
            omega) hbv (by omega) fun es' n' hl' hL' hN' hn' hv' => ?_
          simp (maxSteps := 4000000) only [↓packA, ↓reduceIte, packB, pureOp, quietOp, loadOp, quietB, fr0, cellsK, implies_true, ite_true, ite_false, eq_self, ne_eq, reduceCtorEq, Nat.reduceLT, Nat.reduceLeDiff, Nat.reduceAdd, Nat.reduceMul, Nat.reduceBEq, Nat.reduceEqDiff, Int.reduceToNat, Int.reduceLT, Int.reduceLE, Nat.reduceSub, pl76, ft3, ft58, ft109, ft110, a0, a1, a5, r1, r4]
          refine .inl ⟨_, ?_, v, u, n', n, cv, cu, es', es, rfl, fun h => huv h.symm, ?_, ?_, hL', hL, hN', hN, by omega, by omega, by omega, by omega, h0n, by omega, by omega, hod, ?_, rfl, rfl⟩
          · omega
          · rw [List.getElem?_set_self (by rw [List.length_set]; exact hvl)]
          · rw [List.getElem?_set_ne (fun h => huv h.symm), List.getElem?_set_self hul]
          · rw [hv', gcd_take, Int.gcd_comm]; exact hgg
        · have r4 : ¬ cmpV (val (es.take n)) (val (ev.take nv)) < 0 := by unfold cmpV; rw [if_neg c3]; split <;> decide
          simp (maxSteps := 4000000) only [↓packA, ↓reduceIte, packB, pureOp, quietOp, loadOp, quietB, fr0, cellsK, implies_true, ite_true, ite_false, eq_self, ne_eq, reduceCtorEq, Nat.reduceLT, Nat.reduceLeDiff, Nat.reduceAdd, Nat.reduceMul, Nat.reduceBEq, Nat.reduceEqDiff, Int.reduceToNat, Int.reduceLT, Int.reduceLE, Nat.reduceSub, pl76, ft3, ft58, ft109, ft110, a0, a1, a5, r1, r4]
          refine take_o (huX _) (hvX _) huv hL hLv (by omega) (by omega) hlv (by
            have := hNv.len_le hN.1 (by omega)
            omega) (by omega) (by omega) fun es' n' hl' hL' hN' hn' hv' => ?_
          simp (maxSteps := 4000000) only [↓packA, ↓reduceIte, packB, pureOp, quietOp, loadOp, quietB, fr0, cellsK, implies_true, ite_true, ite_false, eq_self, ne_eq, reduceCtorEq, Nat.reduceLT, Nat.reduceLeDiff, Nat.reduceAdd, Nat.reduceMul, Nat.reduceBEq, Nat.reduceEqDiff, Int.reduceToNat, Int.reduceLT, Int.reduceLE, Nat.reduceSub, pl76, ft3, ft58, ft109, ft110, a0, a1, a5, r1, r4]
          refine .inl ⟨_, ?_, u, v, n', nv, cu, cv, es', ev, rfl, huv, ?_, ?_, hL', hLv, hN', hNv, by omega, by omega, by omega, by omega, h0v, by omega, by omega, hodd, ?_, rfl, rfl⟩
          · omega
          · rw [List.getElem?_set_self (by rw [List.length_set]; exact hul)]
          · rw [List.getElem?_set_ne huv]; exact hvX _
          · rw [hv', gcd_take]; exact hgg
      · have r2 : ¬ (n : Int) ≤ 2 := by omega
        simp (maxSteps := 4000000) only [↓packA, ↓reduceIte, packB, pureOp, quietOp, loadOp, quietB, fr0, cellsK, implies_true, ite_true, ite_false, eq_self, ne_eq, reduceCtorEq, Nat.reduceLT, Nat.reduceLeDiff, Nat.reduceAdd, Nat.reduceMul, Nat.reduceBEq, Nat.reduceEqDiff, Int.reduceToNat, Int.reduceLT, Int.reduceLE, Nat.reduceSub, pl76, ft3, ft58, ft109, ft110, a0, a1, a5, r1, r2]
        refine acalls_lend (rcmp_c (es.take n) (ev.take nv) hN hNv (by omega) (by omega)) (.cons (frz_lims (huX _) (by omega)) (.cons (frz_lims (hvX _) hlv) .nil)) rfl ?_
        by_cases c3 : val (es.take n) < val (ev.take nv)
        · have r4 : cmpV (val (es.take n)) (val (ev.take nv)) < 0 := by unfold cmpV; rw [if_pos c3]; decide
          simp (maxSteps := 4000000) only [↓packA, ↓reduceIte, packB, pureOp, quietOp, loadOp, quietB, fr0, cellsK, implies_true, ite_true, ite_false, eq_self, ne_eq, reduceCtorEq, Nat.reduceLT, Nat.reduceLeDiff, Nat.reduceAdd, Nat.reduceMul, Nat.reduceBEq, Nat.reduceEqDiff, Int.reduceToNat, Int.reduceLT, Int.reduceLE, Nat.reduceSub, pl76, ft3, ft58, ft109, ft110, a0, a1, a5, r1, r4]
          refine take_o (hvX _) (huX _) (fun h => huv h.symm) hLv hL hlv hcv (by omega) (by
            have := hN.len_le hNv.1 (by omega)
            omega) hbv (by omega) fun es' n' hl' hL' hN' hn' hv' => ?_
          simp (maxSteps := 4000000) only [↓packA, ↓reduceIte, packB, pureOp, quietOp, loadOp, quietB, fr0, cellsK, implies_true, ite_true, ite_false, eq_self, ne_eq, reduceCtorEq, Nat.reduceLT, Nat.reduceLeDiff, Nat.reduceAdd, Nat.reduceMul, Nat.reduceBEq, Nat.reduceEqDiff, Int.reduceToNat, Int.reduceLT, Int.reduceLE, Nat.reduceSub, pl76, ft3, ft58, ft109, ft110, a0, a1, a5, r1, r4]
          refine .inl ⟨_, ?_, v, u, n', n, cv, cu, es', es, rfl, fun h => huv h.symm, ?_, ?_, hL', hL, hN', hN, by omega, by omega, by omega, by omega, h0n, by omega, by omega, hod, ?_, rfl, rfl⟩
          · omega
          · rw [List.getElem?_set_self (by rw [List.length_set]; exact hvl)]
          · rw [List.getElem?_set_ne (fun h => huv h.symm), List.getElem?_set_self hul]
          · rw [hv', gcd_take, Int.gcd_comm]; exact hgg
        · have r4 : ¬ cmpV (val (es.take n)) (val (ev.take nv)) < 0 := by unfold cmpV; rw [if_neg c3]; split <;> decide
          simp (maxSteps := 4000000) only [↓packA, ↓reduceIte, packB, pureOp, quietOp, loadOp, quietB, fr0, cellsK, implies_true, ite_true, ite_false, eq_self, ne_eq, reduceCtorEq, Nat.reduceLT, Nat.reduceLeDiff, Nat.reduceAdd, Nat.reduceMul, Nat.reduceBEq, Nat.reduceEqDiff, Int.reduceToNat, Int.reduceLT, Int.reduceLE, Nat.reduceSub, pl76, ft3, ft58, ft109, ft110, a0, a1, a5, r1, r4]
          refine take_o (huX _) (hvX _) huv hL hLv (by omega) (by omega) hlv (by
            have := hNv.len_le hN.1 (by omega)
            omega) (by omega) (by omega) fun es' n' hl' hL' hN' hn' hv' => ?_
          simp (maxSteps := 4000000) only [↓packA, ↓reduceIte, packB, pureOp, quietOp, loadOp, quietB, fr0, cellsK, implies_true, ite_true, ite_false, eq_self, ne_eq, reduceCtorEq, Nat.reduceLT, Nat.reduceLeDiff, Nat.reduceAdd, Nat.reduceMul, Nat.reduceBEq, Nat.reduceEqDiff, Int.reduceToNat, Int.reduceLT, Int.reduceLE, Nat.reduceSub, pl76, ft3, ft58, ft109, ft110, a0, a1, a5, r1, r4]
          refine .inl ⟨_, ?_, u, v, n', nv, cu, cv, es', ev, rfl, huv, ?_, ?_, hL', hLv, hN', hNv, by omega, by omega, by omega, by omega, h0v, by omega, by omega, hodd, ?_, rfl, rfl⟩
          · omega
          · rw [List.getElem?_set_self (by rw [List.length_set]; exact hul)]
          · rw [List.getElem?_set_ne huv]; exact hvX _
          · rw [hv', gcd_take]; exact hgg
  · have r1 : ¬ (nu : Int) > 0 := by omega
    obtain rfl : nu = 0 := by omega
    simp (maxSteps := 4000000) only [↓packA, ↓reduceIte, packB, pureOp, quietOp, loadOp, quietB, fr0, cellsK, implies_true, ite_true, ite_false, eq_self, ne_eq, reduceCtorEq, Nat.reduceLT, Nat.reduceLeDiff, Nat.reduceAdd, Nat.reduceMul, Nat.reduceBEq, Nat.reduceEqDiff, Int.reduceToNat, Int.reduceLT, Int.reduceLE, Nat.reduceSub, pl76, ft3, ft58, ft109, ft110, a0, a1, a5, r1]
    refine acalls_fresh (raised_c (ev.take nv) hNv.1 sh (by omega) hsh) (.cons (frz_lims hv hlv) (.cons (.pure _ rfl) .nil)) fun u1 h1 hz1 => ?_
    obtain ⟨r, hr, hvr, hzr⟩ := hz1
    refine ⟨_, hzr, ?_⟩
    simp (maxSteps := 4000000) only [↓packA, ↓reduceIte, packB, pureOp, quietOp, loadOp, quietB, fr0, cellsK, implies_true, ite_true, ite_false, eq_self, ne_eq, reduceCtorEq, Nat.reduceLT, Nat.reduceLeDiff, Nat.reduceAdd, Nat.reduceMul, Nat.reduceBEq, Nat.reduceEqDiff, Int.reduceToNat, Int.reduceLT, Int.reduceLE, Nat.reduceSub, pl76, ft3, ft58, ft109, ft110, a0, a1, a5, r1]
    rw [List.take_zero, show val ([] : List Int) = 0 from rfl, Int.gcd_zero_left, Int.natAbs_of_nonneg (by omega), ← hvr] at hgv
    rw [hgN.inj hr hgv]
    exact .pure _ rfl
end Go.Proofs.YtclbobielhllmaaGreat
end
section
namespace Go.Proofs.YtclbobielhllmaaGreat
open Go Go.AL
set_option linter.unusedVariables false
set_option linter.unusedSimpArgs false
theorem limbs_ex (n : Nat) : ∃ g : List Int, Norm g ∧ val g = n := by
  induction n using Nat.strongRecOn with
  | _ n ih =>
    by_cases c : n = 0
    · exact ⟨[], Norm.nil, by subst c; rfl⟩
    obtain ⟨g, hg, hv⟩ := ih (n / 4294967296) (by omega)
    refine ⟨((n % 4294967296 : Nat) : Int) :: g, ⟨LI.cons (by omega) hg.1, fun _ => ?_⟩, ?_⟩
    · cases g with
      | nil =>
        have : n / 4294967296 = 0 := by
          have h1 : val ([] : List Int) = 0 := rfl
          omega
        show ((n % 4294967296 : Nat) : Int) ≠ 0
        omega
      | cons y ys =>
        have := hg.2 (by simp)
        simpa using this
    · show ((n % 4294967296 : Nat) : Int) + 4294967296 * val g = n
      rw [hv]
      omega
set_option maxHeartbeats 4000000 in
set_option maxRecDepth 100000 in
theorem rmay_c (neg : Bool) (num den : List Int) (hn : LI num) (hd : LI den) (hln : num.length < 100000000) (hld : den.length < 100000000) : APure Tryz.prog 62 [ratV neg num den] (.bool (mayB neg num den)) := by
  refine apure_of (wp62 rfl rfl ?_)
  have p1 := rmaynat_c num (by omega)
  have p2 := rmaynat_c den (by omega)
  simp (maxSteps := 4000000) only [↓packA, ↓reduceIte, packB, pureOp, quietOp, loadOp, quietB, fr0, cellsK, implies_true, ite_true, ite_false, eq_self, ne_eq, reduceCtorEq, Nat.reduceLT, Nat.reduceLeDiff, Nat.reduceAdd, Nat.reduceMul, Nat.reduceBEq, Nat.reduceEqDiff, Int.reduceToNat, Int.reduceLT, Int.reduceLE, Nat.reduceSub, pl62, ft1, ft2, ft3, ft4, ft58, ft59, ft61, ft109, ratV, lims]
  refine acalls_pure p1 rfl ?_
  rw [show decide (num.length ≤ 2048 ∧ (num.length = 0 ∨ num.getD (num.length - 1) default ≠ 0)) = natB num from rfl]
  cases h1 : natB num
  · simp (maxSteps := 4000000) only [↓packA, ↓reduceIte, packB, pureOp, quietOp, loadOp, quietB, fr0, cellsK, implies_true, ite_true, ite_false, eq_self, ne_eq, reduceCtorEq, Nat.reduceLT, Nat.reduceLeDiff, Nat.reduceAdd, Nat.reduceMul, Nat.reduceBEq, Nat.reduceEqDiff, Int.reduceToNat, Int.reduceLT, Int.reduceLE, Nat.reduceSub, pl62, ft1, ft2, ft3, ft4, ft58, ft59, ft61, ft109, ratV, lims]
    rw [show mayB neg num den = false by simp [mayB, h1]]
    exact .pure _ rfl
  simp (maxSteps := 4000000) only [↓packA, ↓reduceIte, packB, pureOp, quietOp, loadOp, quietB, fr0, cellsK, implies_true, ite_true, ite_false, eq_self, ne_eq, reduceCtorEq, Nat.reduceLT, Nat.reduceLeDiff, Nat.reduceAdd, Nat.reduceMul, Nat.reduceBEq, Nat.reduceEqDiff, Int.reduceToNat, Int.reduceLT, Int.reduceLE, Nat.reduceSub, pl62, ft1, ft2, ft3, ft4, ft58, ft59, ft61, ft109, ratV, lims]
  refine acalls_pure p2 rfl ?_
  rw [show decide (den.length ≤ 2048 ∧ (den.length = 0 ∨ den.getD (den.length - 1) default ≠ 0)) = natB den from rfl]
  cases h2 : natB den
  · simp (maxSteps := 4000000) only [↓packA, ↓reduceIte, packB, pureOp, quietOp, loadOp, quietB, fr0, cellsK, implies_true, ite_true, ite_false, eq_self, ne_eq, reduceCtorEq, Nat.reduceLT, Nat.reduceLeDiff, Nat.reduceAdd, Nat.reduceMul, Nat.reduceBEq, Nat.reduceEqDiff, Int.reduceToNat, Int.reduceLT, Int.reduceLE, Nat.reduceSub, pl62, ft1, ft2, ft3, ft4, ft58, ft59, ft61, ft109, ratV, lims]
    rw [show mayB neg num den = false by simp [mayB, h2]]
    exact .pure _ rfl
  obtain ⟨nn, ln⟩ := natB_norm hn h1
  obtain ⟨nd, ld⟩ := natB_norm hd h2
  by_cases c1 : den.length = 0
  · have r1 : (den.length : Int) = 0 := by omega
    simp (maxSteps := 4000000) only [↓packA, ↓reduceIte, packB, pureOp, quietOp, loadOp, quietB, fr0, cellsK, implies_true, ite_true, ite_false, eq_self, ne_eq, reduceCtorEq, Nat.reduceLT, Nat.reduceLeDiff, Nat.reduceAdd, Nat.reduceMul, Nat.reduceBEq, Nat.reduceEqDiff, Int.reduceToNat, Int.reduceLT, Int.reduceLE, Nat.reduceSub, pl62, ft1, ft2, ft3, ft4, ft58, ft59, ft61, ft109, ratV, lims, r1]
    rw [show mayB neg num den = false by simp [mayB, c1]]
    exact .pure _ rfl
  have r1 : ¬ (den.length : Int) = 0 := by omega
  by_cases c2 : num.length = 0
  · have r2 : (num.length : Int) = 0 := by omega
    cases neg
    · by_cases c3 : den.length = 1
      · have r3 : (den.length : Int) = 1 := by omega
        obtain ⟨d, rfl⟩ : ∃ d, den = [d] := List.length_eq_one_iff.1 c3
        by_cases c4 : d = 1
        · subst c4
          simp (maxSteps := 4000000) only [↓packA, ↓reduceIte, packB, pureOp, quietOp, loadOp, quietB, fr0, cellsK, implies_true, ite_true, ite_false, eq_self, ne_eq, reduceCtorEq, Nat.reduceLT, Nat.reduceLeDiff, Nat.reduceAdd, Nat.reduceMul, Nat.reduceBEq, Nat.reduceEqDiff, Int.reduceToNat, Int.reduceLT, Int.reduceLE, Nat.reduceSub, pl62, ft1, ft2, ft3, ft4, ft58, ft59, ft61, ft109, ratV, lims, limR, r2, List.length_cons, List.length_nil, concA, Int.reduceAdd, Int.reduceSub, Int.reduceNeg, Int.reduceMul, Int.reduceEq, Int.reduceBEq, Int.reduceBNe]
          rw [show mayB false num [1] = true by simp [mayB, c2, h1, show natB [1] = true by decide]]
          exact .pure _ rfl
        · simp (maxSteps := 4000000) only [↓packA, ↓reduceIte, packB, pureOp, quietOp, loadOp, quietB, fr0, cellsK, implies_true, ite_true, ite_false, eq_self, ne_eq, reduceCtorEq, Nat.reduceLT, Nat.reduceLeDiff, Nat.reduceAdd, Nat.reduceMul, Nat.reduceBEq, Nat.reduceEqDiff, Int.reduceToNat, Int.reduceLT, Int.reduceLE, Nat.reduceSub, pl62, ft1, ft2, ft3, ft4, ft58, ft59, ft61, ft109, ratV, lims, limR, r2, c4, List.length_cons, List.length_nil, concA, Int.reduceAdd, Int.reduceSub, Int.reduceNeg, Int.reduceMul, Int.reduceEq, Int.reduceBEq, Int.reduceBNe]
          rw [show (d == 1) = false from beq_false_of_ne c4, show mayB false num [d] = false by simp [mayB, c2, c4]]
          exact .pure _ rfl
      · have r3 : ¬ (den.length : Int) = 1 := by omega
        simp (maxSteps := 4000000) only [↓packA, ↓reduceIte, packB, pureOp, quietOp, loadOp, quietB, fr0, cellsK, implies_true, ite_true, ite_false, eq_self, ne_eq, reduceCtorEq, Nat.reduceLT, Nat.reduceLeDiff, Nat.reduceAdd, Nat.reduceMul, Nat.reduceBEq, Nat.reduceEqDiff, Int.reduceToNat, Int.reduceLT, Int.reduceLE, Nat.reduceSub, pl62, ft1, ft2, ft3, ft4, ft58, ft59, ft61, ft109, ratV, lims, r1, r2, r3, concA, Int.reduceAdd, Int.reduceSub, Int.reduceNeg, Int.reduceMul, Int.reduceEq, Int.reduceBEq, Int.reduceBNe]
        rw [show mayB false num den = false by
          have : den ≠ [1] := fun h => c3 (by rw [h]; rfl)
          simp [mayB, c2, this]]
        exact .pure _ rfl
    · simp (maxSteps := 4000000) only [↓packA, ↓reduceIte, packB, pureOp, quietOp, loadOp, quietB, fr0, cellsK, implies_true, ite_true, ite_false, eq_self, ne_eq, reduceCtorEq, Nat.reduceLT, Nat.reduceLeDiff, Nat.reduceAdd, Nat.reduceMul, Nat.reduceBEq, Nat.reduceEqDiff, Int.reduceToNat, Int.reduceLT, Int.reduceLE, Nat.reduceSub, pl62, ft1, ft2, ft3, ft4, ft58, ft59, ft61, ft109, ratV, lims, r1, r2, concA, Int.reduceAdd, Int.reduceSub, Int.reduceNeg, Int.reduceMul, Int.reduceEq, Int.reduceBEq, Int.reduceBNe]
      rw [show mayB true num den = false by simp [mayB, c2]]
      exact .pure _ rfl
  have r2 : ¬ (num.length : Int) = 0 := by omega
  have hm : mayB neg num den = decide (Int.gcd (val num) (val den) = 1) := by simp [mayB, c2, h1, h2]; omega
  rw [hm]
  obtain ⟨g, hg, hv⟩ := limbs_ex (Int.gcd (val num) (val den))
  simp (maxSteps := 4000000) only [↓packA, ↓reduceIte, packB, pureOp, quietOp, loadOp, quietB, fr0, cellsK, implies_true, ite_true, ite_false, eq_self, ne_eq, reduceCtorEq, Nat.reduceLT, Nat.reduceLeDiff, Nat.reduceAdd, Nat.reduceMul, Nat.reduceBEq, Nat.reduceEqDiff, Int.reduceToNat, Int.reduceLT, Int.reduceLE, Nat.reduceSub, pl62, ft1, ft2, ft3, ft4, ft58, ft59, ft61, ft109, ratV, lims, r1, r2, concA, Int.reduceAdd, Int.reduceSub, Int.reduceNeg, Int.reduceMul, Int.reduceEq, Int.reduceBEq, Int.reduceBNe]
  refine acalls_pure (gcdw_c num den g nn nd (by omega) (by omega) (by omega) (by omega) hg hv) rfl ?_
  have hm2 : decide (Int.gcd (val num) (val den) = 1) = decide (g = [1]) := by
    apply decide_eq_decide.2
    constructor
    · intro h
      rw [h] at hv
      refine hg.inj ⟨LI.cons (by omega) LI.nil, fun _ => by decide⟩ ?_
      rw [hv, val_one]
      rfl
    · rintro rfl
      rw [val_one] at hv
      omega
  rw [hm2]
  by_cases c3 : g.length = 1
  · obtain ⟨d, rfl⟩ : ∃ d, g = [d] := List.length_eq_one_iff.1 c3
    by_cases c4 : d = 1
    · subst c4
      simp (maxSteps := 4000000) only [↓packA, ↓reduceIte, packB, pureOp, quietOp, loadOp, quietB, fr0, cellsK, implies_true, ite_true, ite_false, eq_self, ne_eq, reduceCtorEq, Nat.reduceLT, Nat.reduceLeDiff, Nat.reduceAdd, Nat.reduceMul, Nat.reduceBEq, Nat.reduceEqDiff, Int.reduceToNat, Int.reduceLT, Int.reduceLE, Nat.reduceSub, pl62, ft1, ft2, ft3, ft4, ft58, ft59, ft61, ft109, ratV, lims, limR, r1, r2, List.length_cons, List.length_nil, concA, Int.reduceAdd, Int.reduceSub, Int.reduceNeg, Int.reduceMul, Int.reduceEq, Int.reduceBEq, Int.reduceBNe]
      exact .pure _ rfl
    · simp (maxSteps := 4000000) only [↓packA, ↓reduceIte, packB, pureOp, quietOp, loadOp, quietB, fr0, cellsK, implies_true, ite_true, ite_false, eq_self, ne_eq, reduceCtorEq, Nat.reduceLT, Nat.reduceLeDiff, Nat.reduceAdd, Nat.reduceMul, Nat.reduceBEq, Nat.reduceEqDiff, Int.reduceToNat, Int.reduceLT, Int.reduceLE, Nat.reduceSub, pl62, ft1, ft2, ft3, ft4, ft58, ft59, ft61, ft109, ratV, lims, limR, r1, r2, c4, List.length_cons, List.length_nil, concA, Int.reduceAdd, Int.reduceSub, Int.reduceNeg, Int.reduceMul, Int.reduceEq, Int.reduceBEq, Int.reduceBNe]
      rw [show (d == 1) = false from beq_false_of_ne c4, decide_eq_false fun h => c4 (by simpa using h)]
      exact .pure _ rfl
  · have r3 : ¬ (g.length : Int) = 1 := by omega
    simp (maxSteps := 4000000) only [↓packA, ↓reduceIte, packB, pureOp, quietOp, loadOp, quietB, fr0, cellsK, implies_true, ite_true, ite_false, eq_self, ne_eq, reduceCtorEq, Nat.reduceLT, Nat.reduceLeDiff, Nat.reduceAdd, Nat.reduceMul, Nat.reduceBEq, Nat.reduceEqDiff, Int.reduceToNat, Int.reduceLT, Int.reduceLE, Nat.reduceSub, pl62, ft1, ft2, ft3, ft4, ft58, ft59, ft61, ft109, ratV, lims, r1, r2, r3, concA, Int.reduceAdd, Int.reduceSub, Int.reduceNeg, Int.reduceMul, Int.reduceEq, Int.reduceBEq, Int.reduceBNe]
    rw [decide_eq_false fun h => c3 (by rw [h]; rfl)]
    exact .pure _ rfl
end Go.Proofs.YtclbobielhllmaaGreat
end
section
namespace Go.Proofs.YtclbobielhllmaaGreat
open Go Go.AL
set_option linter.unusedVariables false
set_option linter.unusedSimpArgs false
theorem bne_dec {x y : Int} : (x != y) = decide (¬ x = y) := by
  by_cases h : x = y <;> simp [h]
structure Nd where
  op : Int
  a : Int
  b : Int
  c : Int
  neg : Bool
  num : List Int
  den : List Int
instance : Inhabited Nd := ⟨⟨0, 0, 0, 0, false, [], []⟩⟩
def Nd.cells (n : Nd) : List AV := [.int .i64 n.op, .int .i64 n.a, .int .i64 n.b, .int .i64 n.c, .bool n.neg, lims n.num, lims n.den]
def Nd.V (n : Nd) : AV := .agg n.cells
structure Nd.Ok (n : Nd) : Prop where
  num : LI n.num
  den : LI n.den
  ln : n.num.length < 100000000
  ld : n.den.length < 100000000
def two (op : Int) : Bool := decide (op = 3 ∨ op = 4 ∨ op = 5 ∨ op = 6)
def one (op : Int) : Bool := decide (op = 7 ∨ op = 8)
def noneB (neg : Bool) (num den : List Int) : Bool := !neg && decide (num.length = 0) && decide (den.length = 0)
def Nd.spare (n : Nd) : Bool := (decide (n.a ≠ 0) && decide (n.op = 2)) || (decide (n.b ≠ 0) && !two n.op) || (decide (n.c ≠ 0) && decide (n.op ≠ 8)) || (!noneB n.neg n.num n.den && decide (n.op ≠ 2))
set_option maxRecDepth 100000 in
theorem two_c (op : Int) : APure Tryz.prog 70 [.int .i64 op] (.bool (two op)) := by
  refine apure_of (wp70 rfl rfl ?_)
  by_cases c3 : op = 3
  · subst c3; simp (maxSteps := 4000000) only [↓packA, ↓reduceIte, packB, pureOp, quietOp, loadOp, quietB, fr0, cellsK, implies_true, ite_true, ite_false, eq_self, ne_eq, reduceCtorEq, Nat.reduceLT, Nat.reduceLeDiff, Nat.reduceAdd, Nat.reduceMul, Nat.reduceBEq, Nat.reduceEqDiff, Int.reduceToNat, Int.reduceLT, Int.reduceLE, Nat.reduceSub, pl70, ft57, concA, Int.reduceAdd, Int.reduceSub, Int.reduceNeg, Int.reduceMul, Int.reduceEq, Int.reduceBEq, Int.reduceBNe]
    exact .pure _ rfl
  by_cases c4 : op = 4
  · subst c4; simp (maxSteps := 4000000) only [↓packA, ↓reduceIte, packB, pureOp, quietOp, loadOp, quietB, fr0, cellsK, implies_true, ite_true, ite_false, eq_self, ne_eq, reduceCtorEq, Nat.reduceLT, Nat.reduceLeDiff, Nat.reduceAdd, Nat.reduceMul, Nat.reduceBEq, Nat.reduceEqDiff, Int.reduceToNat, Int.reduceLT, Int.reduceLE, Nat.reduceSub, pl70, ft57, concA, Int.reduceAdd, Int.reduceSub, Int.reduceNeg, Int.reduceMul, Int.reduceEq, Int.reduceBEq, Int.reduceBNe]
    exact .pure _ rfl
  by_cases c5 : op = 5
  · subst c5; simp (maxSteps := 4000000) only [↓packA, ↓reduceIte, packB, pureOp, quietOp, loadOp, quietB, fr0, cellsK, implies_true, ite_true, ite_false, eq_self, ne_eq, reduceCtorEq, Nat.reduceLT, Nat.reduceLeDiff, Nat.reduceAdd, Nat.reduceMul, Nat.reduceBEq, Nat.reduceEqDiff, Int.reduceToNat, Int.reduceLT, Int.reduceLE, Nat.reduceSub, pl70, ft57, concA, Int.reduceAdd, Int.reduceSub, Int.reduceNeg, Int.reduceMul, Int.reduceEq, Int.reduceBEq, Int.reduceBNe]
    exact .pure _ rfl
  by_cases c6 : op = 6
  · subst c6; simp (maxSteps := 4000000) only [↓packA, ↓reduceIte, packB, pureOp, quietOp, loadOp, quietB, fr0, cellsK, implies_true, ite_true, ite_false, eq_self, ne_eq, reduceCtorEq, Nat.reduceLT, Nat.reduceLeDiff, Nat.reduceAdd, Nat.reduceMul, Nat.reduceBEq, Nat.reduceEqDiff, Int.reduceToNat, Int.reduceLT, Int.reduceLE, Nat.reduceSub, pl70, ft57, concA, Int.reduceAdd, Int.reduceSub, Int.reduceNeg, Int.reduceMul, Int.reduceEq, Int.reduceBEq, Int.reduceBNe]
    exact .pure _ rfl
  · rw [show two op = false from decide_eq_false (by omega)]
    simp (maxSteps := 4000000) only [↓packA, ↓reduceIte, packB, pureOp, quietOp, loadOp, quietB, fr0, cellsK, implies_true, ite_true, ite_false, eq_self, ne_eq, reduceCtorEq, Nat.reduceLT, Nat.reduceLeDiff, Nat.reduceAdd, Nat.reduceMul, Nat.reduceBEq, Nat.reduceEqDiff, Int.reduceToNat, Int.reduceLT, Int.reduceLE, Nat.reduceSub, pl70, ft57, c3, c4, c5, c6, concA, Int.reduceAdd, Int.reduceSub, Int.reduceNeg, Int.reduceMul, Int.reduceEq, Int.reduceBEq, Int.reduceBNe]
    rw [show (op == 6) = false from beq_false_of_ne c6]
    exact .pure _ rfl
set_option maxRecDepth 100000 in
theorem rtwo_c (op : Int) : APure Tryz.prog 44 [.int .i64 op] (.bool (two op)) := by
  refine apure_of (wp44 rfl rfl ?_)
  by_cases c3 : op = 3
  · subst c3; simp (maxSteps := 4000000) only [↓packA, ↓reduceIte, packB, pureOp, quietOp, loadOp, quietB, fr0, cellsK, implies_true, ite_true, ite_false, eq_self, ne_eq, reduceCtorEq, Nat.reduceLT, Nat.reduceLeDiff, Nat.reduceAdd, Nat.reduceMul, Nat.reduceBEq, Nat.reduceEqDiff, Int.reduceToNat, Int.reduceLT, Int.reduceLE, Nat.reduceSub, pl44, ft57, concA, Int.reduceAdd, Int.reduceSub, Int.reduceNeg, Int.reduceMul, Int.reduceEq, Int.reduceBEq, Int.reduceBNe]
    exact .pure _ rfl
  by_cases c4 : op = 4
  · subst c4; simp (maxSteps := 4000000) only [↓packA, ↓reduceIte, packB, pureOp, quietOp, loadOp, quietB, fr0, cellsK, implies_true, ite_true, ite_false, eq_self, ne_eq, reduceCtorEq, Nat.reduceLT, Nat.reduceLeDiff, Nat.reduceAdd, Nat.reduceMul, Nat.reduceBEq, Nat.reduceEqDiff, Int.reduceToNat, Int.reduceLT, Int.reduceLE, Nat.reduceSub, pl44, ft57, concA, Int.reduceAdd, Int.reduceSub, Int.reduceNeg, Int.reduceMul, Int.reduceEq, Int.reduceBEq, Int.reduceBNe]
    exact .pure _ rfl
  by_cases c5 : op = 5
  · subst c5; simp (maxSteps := 4000000) only [↓packA, ↓reduceIte, packB, pureOp, quietOp, loadOp, quietB, fr0, cellsK, implies_true, ite_true, ite_false, eq_self, ne_eq, reduceCtorEq, Nat.reduceLT, Nat.reduceLeDiff, Nat.reduceAdd, Nat.reduceMul, Nat.reduceBEq, Nat.reduceEqDiff, Int.reduceToNat, Int.reduceLT, Int.reduceLE, Nat.reduceSub, pl44, ft57, concA, Int.reduceAdd, Int.reduceSub, Int.reduceNeg, Int.reduceMul, Int.reduceEq, Int.reduceBEq, Int.reduceBNe]
    exact .pure _ rfl
  by_cases c6 : op = 6
  · subst c6; simp (maxSteps := 4000000) only [↓packA, ↓reduceIte, packB, pureOp, quietOp, loadOp, quietB, fr0, cellsK, implies_true, ite_true, ite_false, eq_self, ne_eq, reduceCtorEq, Nat.reduceLT, Nat.reduceLeDiff, Nat.reduceAdd, Nat.reduceMul, Nat.reduceBEq, Nat.reduceEqDiff, Int.reduceToNat, Int.reduceLT, Int.reduceLE, Nat.reduceSub, pl44, ft57, concA, Int.reduceAdd, Int.reduceSub, Int.reduceNeg, Int.reduceMul, Int.reduceEq, Int.reduceBEq, Int.reduceBNe]
    exact .pure _ rfl
  · rw [show two op = false from decide_eq_false (by omega)]
    simp (maxSteps := 4000000) only [↓packA, ↓reduceIte, packB, pureOp, quietOp, loadOp, quietB, fr0, cellsK, implies_true, ite_true, ite_false, eq_self, ne_eq, reduceCtorEq, Nat.reduceLT, Nat.reduceLeDiff, Nat.reduceAdd, Nat.reduceMul, Nat.reduceBEq, Nat.reduceEqDiff, Int.reduceToNat, Int.reduceLT, Int.reduceLE, Nat.reduceSub, pl44, ft57, c3, c4, c5, c6, concA, Int.reduceAdd, Int.reduceSub, Int.reduceNeg, Int.reduceMul, Int.reduceEq, Int.reduceBEq, Int.reduceBNe]
    rw [show (op == 6) = false from beq_false_of_ne c6]
    exact .pure _ rfl
set_option maxRecDepth 100000 in
theorem one_fold (op : Int) : APure Tryz.prog 45 [.int .i64 op] (.bool (one op)) := by
  refine apure_of (wp45 rfl rfl ?_)
  by_cases c7 : op = 7
  · subst c7; simp (maxSteps := 4000000) only [↓packA, ↓reduceIte, packB, pureOp, quietOp, loadOp, quietB, fr0, cellsK, implies_true, ite_true, ite_false, eq_self, ne_eq, reduceCtorEq, Nat.reduceLT, Nat.reduceLeDiff, Nat.reduceAdd, Nat.reduceMul, Nat.reduceBEq, Nat.reduceEqDiff, Int.reduceToNat, Int.reduceLT, Int.reduceLE, Nat.reduceSub, pl45, ft57, concA, Int.reduceAdd, Int.reduceSub, Int.reduceNeg, Int.reduceMul, Int.reduceEq, Int.reduceBEq, Int.reduceBNe]
    exact .pure _ rfl
  by_cases c8 : op = 8
  · subst c8; simp (maxSteps := 4000000) only [↓packA, ↓reduceIte, packB, pureOp, quietOp, loadOp, quietB, fr0, cellsK, implies_true, ite_true, ite_false, eq_self, ne_eq, reduceCtorEq, Nat.reduceLT, Nat.reduceLeDiff, Nat.reduceAdd, Nat.reduceMul, Nat.reduceBEq, Nat.reduceEqDiff, Int.reduceToNat, Int.reduceLT, Int.reduceLE, Nat.reduceSub, pl45, ft57, concA, Int.reduceAdd, Int.reduceSub, Int.reduceNeg, Int.reduceMul, Int.reduceEq, Int.reduceBEq, Int.reduceBNe]
    exact .pure _ rfl
  · rw [show one op = false from decide_eq_false (by omega)]
    simp (maxSteps := 4000000) only [↓packA, ↓reduceIte, packB, pureOp, quietOp, loadOp, quietB, fr0, cellsK, implies_true, ite_true, ite_false, eq_self, ne_eq, reduceCtorEq, Nat.reduceLT, Nat.reduceLeDiff, Nat.reduceAdd, Nat.reduceMul, Nat.reduceBEq, Nat.reduceEqDiff, Int.reduceToNat, Int.reduceLT, Int.reduceLE, Nat.reduceSub, pl45, ft57, c7, c8, concA, Int.reduceAdd, Int.reduceSub, Int.reduceNeg, Int.reduceMul, Int.reduceEq, Int.reduceBEq, Int.reduceBNe]
    rw [show (op == 8) = false from beq_false_of_ne c8]
    exact .pure _ rfl
set_option maxRecDepth 100000 in
theorem none_c (neg : Bool) (num den : List Int) : APure Tryz.prog 74 [ratV neg num den] (.bool (noneB neg num den)) := by
  refine apure_of (wp74 rfl rfl ?_)
  cases neg
  · by_cases c1 : num.length = 0
    · have r1 : (num.length : Int) = 0 := by omega
      by_cases c2 : den.length = 0
      · have r2 : (den.length : Int) = 0 := by omega
        simp (maxSteps := 4000000) only [↓packA, ↓reduceIte, packB, pureOp, quietOp, loadOp, quietB, fr0, cellsK, implies_true, ite_true, ite_false, eq_self, ne_eq, reduceCtorEq, Nat.reduceLT, Nat.reduceLeDiff, Nat.reduceAdd, Nat.reduceMul, Nat.reduceBEq, Nat.reduceEqDiff, Int.reduceToNat, Int.reduceLT, Int.reduceLE, Nat.reduceSub, pl74, ft1, ft2, ft3, ft4, ft59, ft61, ft109, ratV, lims, r1, r2, concA, Int.reduceAdd, Int.reduceSub, Int.reduceNeg, Int.reduceMul, Int.reduceEq, Int.reduceBEq, Int.reduceBNe]
        rw [show noneB false num den = true by simp [noneB, c1, c2]]
        exact .pure _ rfl
      · have r2 : ¬ (den.length : Int) = 0 := by omega
        simp (maxSteps := 4000000) only [↓packA, ↓reduceIte, packB, pureOp, quietOp, loadOp, quietB, fr0, cellsK, implies_true, ite_true, ite_false, eq_self, ne_eq, reduceCtorEq, Nat.reduceLT, Nat.reduceLeDiff, Nat.reduceAdd, Nat.reduceMul, Nat.reduceBEq, Nat.reduceEqDiff, Int.reduceToNat, Int.reduceLT, Int.reduceLE, Nat.reduceSub, pl74, ft1, ft2, ft3, ft4, ft59, ft61, ft109, ratV, lims, r1, r2, concA, Int.reduceAdd, Int.reduceSub, Int.reduceNeg, Int.reduceMul, Int.reduceEq, Int.reduceBEq, Int.reduceBNe]
        rw [show noneB false num den = false by simp [noneB, c1, c2]]
        (try rw [show ((den.length : Int) == 0) = false from beq_false_of_ne r2])
        exact .pure _ rfl
    · have r1 : ¬ (num.length : Int) = 0 := by omega
      simp (maxSteps := 4000000) only [↓packA, ↓reduceIte, packB, pureOp, quietOp, loadOp, quietB, fr0, cellsK, implies_true, ite_true, ite_false, eq_self, ne_eq, reduceCtorEq, Nat.reduceLT, Nat.reduceLeDiff, Nat.reduceAdd, Nat.reduceMul, Nat.reduceBEq, Nat.reduceEqDiff, Int.reduceToNat, Int.reduceLT, Int.reduceLE, Nat.reduceSub, pl74, ft1, ft2, ft3, ft4, ft59, ft61, ft109, ratV, lims, r1, concA, Int.reduceAdd, Int.reduceSub, Int.reduceNeg, Int.reduceMul, Int.reduceEq, Int.reduceBEq, Int.reduceBNe]
      rw [show noneB false num den = false by simp [noneB, c1]]
      exact .pure _ rfl
  · simp (maxSteps := 4000000) only [↓packA, ↓reduceIte, packB, pureOp, quietOp, loadOp, quietB, fr0, cellsK, implies_true, ite_true, ite_false, eq_self, ne_eq, reduceCtorEq, Nat.reduceLT, Nat.reduceLeDiff, Nat.reduceAdd, Nat.reduceMul, Nat.reduceBEq, Nat.reduceEqDiff, Int.reduceToNat, Int.reduceLT, Int.reduceLE, Nat.reduceSub, pl74, ft1, ft2, ft3, ft4, ft59, ft61, ft109, ratV, lims, concA, Int.reduceAdd, Int.reduceSub, Int.reduceNeg, Int.reduceMul, Int.reduceEq, Int.reduceBEq, Int.reduceBNe]
    exact .pure _ rfl
set_option maxRecDepth 100000 in
theorem spare_c (n : Nd) (hn : n.Ok) : APure Tryz.prog 68 [n.V] (.bool n.spare) := by
  refine apure_of (wp68 rfl rfl ?_)
  have hln := hn.ln
  have hld := hn.ld
  obtain ⟨op, a, b, c, neg, num, den⟩ := n
  simp only at hln hld
  refine asx_cut (fun f h => f 1 = .op 0 7 0 0 ∧ h = [.arr 7 [Nd.cells ⟨op, a, b, c, neg, num, den⟩] true]) ?_ fun f h hM => ?_
  · simp (maxSteps := 4000000) only [↓packA, ↓reduceIte, packB, pureOp, quietOp, loadOp, quietB, fr0, cellsK, implies_true, ite_true, ite_false, eq_self, ne_eq, reduceCtorEq, Nat.reduceLT, Nat.reduceLeDiff, Nat.reduceAdd, Nat.reduceMul, Nat.reduceBEq, Nat.reduceEqDiff, Int.reduceToNat, Int.reduceLT, Int.reduceLE, Nat.reduceSub, pl68, ft1, ft2, ft3, ft4, ft57, ft59, ft61, ft63, ft109, Nd.V, Nd.cells]
  obtain ⟨f1, rfl⟩ := hM
  refine asx_cut (fun f h => f 1 = .op 0 7 0 0 ∧ f 3 = .bool (decide (a ≠ 0) && decide (op = 2)) ∧ h = [.arr 7 [Nd.cells ⟨op, a, b, c, neg, num, den⟩] true]) ?_ fun f h hM => ?_
  · by_cases c1 : a = 0
    · simp (maxSteps := 4000000) only [↓packA, ↓reduceIte, packB, pureOp, quietOp, loadOp, quietB, fr0, cellsK, implies_true, ite_true, ite_false, eq_self, ne_eq, reduceCtorEq, Nat.reduceLT, Nat.reduceLeDiff, Nat.reduceAdd, Nat.reduceMul, Nat.reduceBEq, Nat.reduceEqDiff, Int.reduceToNat, Int.reduceLT, Int.reduceLE, Nat.reduceSub, pl68, ft1, ft2, ft3, ft4, ft57, ft59, ft61, ft63, ft109, Nd.V, Nd.cells, f1, c1, concA, Int.reduceAdd, Int.reduceSub, Int.reduceNeg, Int.reduceMul, Int.reduceEq, Int.reduceBEq, Int.reduceBNe]
      rfl
    · by_cases c2 : op = 2
      · simp (maxSteps := 4000000) only [↓packA, ↓reduceIte, packB, pureOp, quietOp, loadOp, quietB, fr0, cellsK, implies_true, ite_true, ite_false, eq_self, ne_eq, reduceCtorEq, Nat.reduceLT, Nat.reduceLeDiff, Nat.reduceAdd, Nat.reduceMul, Nat.reduceBEq, Nat.reduceEqDiff, Int.reduceToNat, Int.reduceLT, Int.reduceLE, Nat.reduceSub, pl68, ft1, ft2, ft3, ft4, ft57, ft59, ft61, ft63, ft109, Nd.V, Nd.cells, f1, c1, c2, concA, Int.reduceAdd, Int.reduceSub, Int.reduceNeg, Int.reduceMul, Int.reduceEq, Int.reduceBEq, Int.reduceBNe]
      · simp (maxSteps := 4000000) only [↓packA, ↓reduceIte, packB, pureOp, quietOp, loadOp, quietB, fr0, cellsK, implies_true, ite_true, ite_false, eq_self, ne_eq, reduceCtorEq, Nat.reduceLT, Nat.reduceLeDiff, Nat.reduceAdd, Nat.reduceMul, Nat.reduceBEq, Nat.reduceEqDiff, Int.reduceToNat, Int.reduceLT, Int.reduceLE, Nat.reduceSub, pl68, ft1, ft2, ft3, ft4, ft57, ft59, ft61, ft63, ft109, Nd.V, Nd.cells, f1, c1, c2, concA, Int.reduceAdd, Int.reduceSub, Int.reduceNeg, Int.reduceMul, Int.reduceEq, Int.reduceBEq, Int.reduceBNe]
  obtain ⟨f1, f3, rfl⟩ := hM
  refine asx_cut (fun f h => f 1 = .op 0 7 0 0 ∧ f 3 = .bool (decide (a ≠ 0) && decide (op = 2)) ∧ f 4 = .bool (decide (b ≠ 0) && !two op) ∧ h = [.arr 7 [Nd.cells ⟨op, a, b, c, neg, num, den⟩] true]) ?_ fun f h hM => ?_
  · by_cases c1 : b = 0
    · simp (maxSteps := 4000000) only [↓packA, ↓reduceIte, packB, pureOp, quietOp, loadOp, quietB, fr0, cellsK, implies_true, ite_true, ite_false, eq_self, ne_eq, reduceCtorEq, Nat.reduceLT, Nat.reduceLeDiff, Nat.reduceAdd, Nat.reduceMul, Nat.reduceBEq, Nat.reduceEqDiff, Int.reduceToNat, Int.reduceLT, Int.reduceLE, Nat.reduceSub, pl68, ft1, ft2, ft3, ft4, ft57, ft59, ft61, ft63, ft109, Nd.V, Nd.cells, f1, f3, c1, concA, Int.reduceAdd, Int.reduceSub, Int.reduceNeg, Int.reduceMul, Int.reduceEq, Int.reduceBEq, Int.reduceBNe]
      rfl
    · simp (maxSteps := 4000000) only [↓packA, ↓reduceIte, packB, pureOp, quietOp, loadOp, quietB, fr0, cellsK, implies_true, ite_true, ite_false, eq_self, ne_eq, reduceCtorEq, Nat.reduceLT, Nat.reduceLeDiff, Nat.reduceAdd, Nat.reduceMul, Nat.reduceBEq, Nat.reduceEqDiff, Int.reduceToNat, Int.reduceLT, Int.reduceLE, Nat.reduceSub, pl68, ft1, ft2, ft3, ft4, ft57, ft59, ft61, ft63, ft109, Nd.V, Nd.cells, f1, f3, c1, concA, Int.reduceAdd, Int.reduceSub, Int.reduceNeg, Int.reduceMul, Int.reduceEq, Int.reduceBEq, Int.reduceBNe]
      refine acalls_pure (two_c op) rfl ?_
      simp (maxSteps := 4000000) only [↓packA, ↓reduceIte, packB, pureOp, quietOp, loadOp, quietB, fr0, cellsK, implies_true, ite_true, ite_false, eq_self, ne_eq, reduceCtorEq, Nat.reduceLT, Nat.reduceLeDiff, Nat.reduceAdd, Nat.reduceMul, Nat.reduceBEq, Nat.reduceEqDiff, Int.reduceToNat, Int.reduceLT, Int.reduceLE, Nat.reduceSub, pl68, ft1, ft2, ft3, ft4, ft57, ft59, ft61, ft63, ft109, Nd.V, Nd.cells, f1, f3, c1, concA, Int.reduceAdd, Int.reduceSub, Int.reduceNeg, Int.reduceMul, Int.reduceEq, Int.reduceBEq, Int.reduceBNe]
      exact (Bool.true_and _).symm
  obtain ⟨f1, f3, f4, rfl⟩ := hM
  refine asx_cut (fun f h => f 1 = .op 0 7 0 0 ∧ f 3 = .bool (decide (a ≠ 0) && decide (op = 2)) ∧ f 4 = .bool (decide (b ≠ 0) && !two op) ∧ f 5 = .bool (decide (c ≠ 0) && decide (op ≠ 8)) ∧ h = [.arr 7 [Nd.cells ⟨op, a, b, c, neg, num, den⟩] true]) ?_ fun f h hM => ?_
  · by_cases c1 : c = 0
    · simp (maxSteps := 4000000) only [↓packA, ↓reduceIte, packB, pureOp, quietOp, loadOp, quietB, fr0, cellsK, implies_true, ite_true, ite_false, eq_self, ne_eq, reduceCtorEq, Nat.reduceLT, Nat.reduceLeDiff, Nat.reduceAdd, Nat.reduceMul, Nat.reduceBEq, Nat.reduceEqDiff, Int.reduceToNat, Int.reduceLT, Int.reduceLE, Nat.reduceSub, pl68, ft1, ft2, ft3, ft4, ft57, ft59, ft61, ft63, ft109, Nd.V, Nd.cells, f1, f3, f4, c1, concA, Int.reduceAdd, Int.reduceSub, Int.reduceNeg, Int.reduceMul, Int.reduceEq, Int.reduceBEq, Int.reduceBNe]
      rfl
    · simp (maxSteps := 4000000) only [↓packA, ↓reduceIte, packB, pureOp, quietOp, loadOp, quietB, fr0, cellsK, implies_true, ite_true, ite_false, eq_self, ne_eq, reduceCtorEq, Nat.reduceLT, Nat.reduceLeDiff, Nat.reduceAdd, Nat.reduceMul, Nat.reduceBEq, Nat.reduceEqDiff, Int.reduceToNat, Int.reduceLT, Int.reduceLE, Nat.reduceSub, pl68, ft1, ft2, ft3, ft4, ft57, ft59, ft61, ft63, ft109, Nd.V, Nd.cells, f1, f3, f4, c1, concA, Int.reduceAdd, Int.reduceSub, Int.reduceNeg, Int.reduceMul, Int.reduceEq, Int.reduceBEq, Int.reduceBNe]
      rw [Bool.true_and, bne_dec]
  obtain ⟨f1, f3, f4, f5, rfl⟩ := hM
  refine asx_cut (fun f h => f 3 = .bool (decide (a ≠ 0) && decide (op = 2)) ∧ f 4 = .bool (decide (b ≠ 0) && !two op) ∧ f 5 = .bool (decide (c ≠ 0) && decide (op ≠ 8)) ∧ f 6 = .bool (!noneB neg num den && decide (op ≠ 2))) ?_ fun f h hM => ?_
  · cases neg
    · by_cases c1 : num.length = 0
      · by_cases c2 : den.length = 0
        · have r1 : ¬ (num.length : Int) + den.length > 0 := by omega
          simp (maxSteps := 4000000) only [↓packA, ↓reduceIte, packB, pureOp, quietOp, loadOp, quietB, fr0, cellsK, implies_true, ite_true, ite_false, eq_self, ne_eq, reduceCtorEq, Nat.reduceLT, Nat.reduceLeDiff, Nat.reduceAdd, Nat.reduceMul, Nat.reduceBEq, Nat.reduceEqDiff, Int.reduceToNat, Int.reduceLT, Int.reduceLE, Nat.reduceSub, pl68, ft1, ft2, ft3, ft4, ft57, ft59, ft61, ft63, ft109, Nd.V, Nd.cells, lims, f1, f3, f4, f5, r1, concA, Int.reduceAdd, Int.reduceSub, Int.reduceNeg, Int.reduceMul, Int.reduceEq, Int.reduceBEq, Int.reduceBNe]
          exact ⟨by omega, by simp [noneB, c1, c2]⟩
        · have r1 : (num.length : Int) + den.length > 0 := by omega
          simp (maxSteps := 4000000) only [↓packA, ↓reduceIte, packB, pureOp, quietOp, loadOp, quietB, fr0, cellsK, implies_true, ite_true, ite_false, eq_self, ne_eq, reduceCtorEq, Nat.reduceLT, Nat.reduceLeDiff, Nat.reduceAdd, Nat.reduceMul, Nat.reduceBEq, Nat.reduceEqDiff, Int.reduceToNat, Int.reduceLT, Int.reduceLE, Nat.reduceSub, pl68, ft1, ft2, ft3, ft4, ft57, ft59, ft61, ft63, ft109, Nd.V, Nd.cells, lims, f1, f3, f4, f5, r1, concA, Int.reduceAdd, Int.reduceSub, Int.reduceNeg, Int.reduceMul, Int.reduceEq, Int.reduceBEq, Int.reduceBNe]
          exact ⟨by omega, by rw [bne_dec]; simp [noneB, c1, c2]⟩
      · have r1 : (num.length : Int) + den.length > 0 := by omega
        simp (maxSteps := 4000000) only [↓packA, ↓reduceIte, packB, pureOp, quietOp, loadOp, quietB, fr0, cellsK, implies_true, ite_true, ite_false, eq_self, ne_eq, reduceCtorEq, Nat.reduceLT, Nat.reduceLeDiff, Nat.reduceAdd, Nat.reduceMul, Nat.reduceBEq, Nat.reduceEqDiff, Int.reduceToNat, Int.reduceLT, Int.reduceLE, Nat.reduceSub, pl68, ft1, ft2, ft3, ft4, ft57, ft59, ft61, ft63, ft109, Nd.V, Nd.cells, lims, f1, f3, f4, f5, r1, concA, Int.reduceAdd, Int.reduceSub, Int.reduceNeg, Int.reduceMul, Int.reduceEq, Int.reduceBEq, Int.reduceBNe]
        exact ⟨by omega, by rw [bne_dec]; simp [noneB, c1]⟩
    · simp (maxSteps := 4000000) only [↓packA, ↓reduceIte, packB, pureOp, quietOp, loadOp, quietB, fr0, cellsK, implies_true, ite_true, ite_false, eq_self, ne_eq, reduceCtorEq, Nat.reduceLT, Nat.reduceLeDiff, Nat.reduceAdd, Nat.reduceMul, Nat.reduceBEq, Nat.reduceEqDiff, Int.reduceToNat, Int.reduceLT, Int.reduceLE, Nat.reduceSub, pl68, ft1, ft2, ft3, ft4, ft57, ft59, ft61, ft63, ft109, Nd.V, Nd.cells, lims, f1, f3, f4, f5, concA, Int.reduceAdd, Int.reduceSub, Int.reduceNeg, Int.reduceMul, Int.reduceEq, Int.reduceBEq, Int.reduceBNe]
      rw [bne_dec]; simp [noneB]
  obtain ⟨f3, f4, f5, f6⟩ := hM
  show asx _ _ _ _ _ f h
  rw [show Nd.spare ⟨op, a, b, c, neg, num, den⟩ = ((((decide (a ≠ 0) && decide (op = 2)) || (decide (b ≠ 0) && !two op)) || (decide (c ≠ 0) && decide (op ≠ 8))) || (!noneB neg num den && decide (op ≠ 2))) from rfl]
  generalize (decide (a ≠ 0) && decide (op = 2)) = B1 at *
  generalize (decide (b ≠ 0) && !two op) = B2 at *
  generalize (decide (c ≠ 0) && decide (op ≠ 8)) = B3 at *
  generalize (!noneB neg num den && decide (op ≠ 2)) = B4 at *
  cases B1
  · cases B2
    · cases B3
      · simp (maxSteps := 4000000) only [↓packA, ↓reduceIte, packB, pureOp, quietOp, loadOp, quietB, fr0, cellsK, implies_true, ite_true, ite_false, eq_self, ne_eq, reduceCtorEq, Nat.reduceLT, Nat.reduceLeDiff, Nat.reduceAdd, Nat.reduceMul, Nat.reduceBEq, Nat.reduceEqDiff, Int.reduceToNat, Int.reduceLT, Int.reduceLE, Nat.reduceSub, pl68, ft1, ft2, ft3, ft4, ft57, ft59, ft61, ft63, ft109, f3, f4, f5, f6, concA, Int.reduceAdd, Int.reduceSub, Int.reduceNeg, Int.reduceMul, Int.reduceEq, Int.reduceBEq, Int.reduceBNe]
        exact .pure _ rfl
      · simp (maxSteps := 4000000) only [↓packA, ↓reduceIte, packB, pureOp, quietOp, loadOp, quietB, fr0, cellsK, implies_true, ite_true, ite_false, eq_self, ne_eq, reduceCtorEq, Nat.reduceLT, Nat.reduceLeDiff, Nat.reduceAdd, Nat.reduceMul, Nat.reduceBEq, Nat.reduceEqDiff, Int.reduceToNat, Int.reduceLT, Int.reduceLE, Nat.reduceSub, pl68, ft1, ft2, ft3, ft4, ft57, ft59, ft61, ft63, ft109, f3, f4, f5, f6, concA, Int.reduceAdd, Int.reduceSub, Int.reduceNeg, Int.reduceMul, Int.reduceEq, Int.reduceBEq, Int.reduceBNe]
        exact .pure _ rfl
    · simp (maxSteps := 4000000) only [↓packA, ↓reduceIte, packB, pureOp, quietOp, loadOp, quietB, fr0, cellsK, implies_true, ite_true, ite_false, eq_self, ne_eq, reduceCtorEq, Nat.reduceLT, Nat.reduceLeDiff, Nat.reduceAdd, Nat.reduceMul, Nat.reduceBEq, Nat.reduceEqDiff, Int.reduceToNat, Int.reduceLT, Int.reduceLE, Nat.reduceSub, pl68, ft1, ft2, ft3, ft4, ft57, ft59, ft61, ft63, ft109, f3, f4, f5, f6, concA, Int.reduceAdd, Int.reduceSub, Int.reduceNeg, Int.reduceMul, Int.reduceEq, Int.reduceBEq, Int.reduceBNe]
      exact .pure _ rfl
  · simp (maxSteps := 4000000) only [↓packA, ↓reduceIte, packB, pureOp, quietOp, loadOp, quietB, fr0, cellsK, implies_true, ite_true, ite_false, eq_self, ne_eq, reduceCtorEq, Nat.reduceLT, Nat.reduceLeDiff, Nat.reduceAdd, Nat.reduceMul, Nat.reduceBEq, Nat.reduceEqDiff, Int.reduceToNat, Int.reduceLT, Int.reduceLE, Nat.reduceSub, pl68, ft1, ft2, ft3, ft4, ft57, ft59, ft61, ft63, ft109, f3, f4, f5, f6, concA, Int.reduceAdd, Int.reduceSub, Int.reduceNeg, Int.reduceMul, Int.reduceEq, Int.reduceBEq, Int.reduceBNe]
    exact .pure _ rfl
end Go.Proofs.YtclbobielhllmaaGreat
end
section
namespace Go.Proofs.YtclbobielhllmaaGreat
open Go Go.AL
set_option linter.unusedVariables false
set_option linter.unusedSimpArgs false
set_option maxRecDepth 100000 in
theorem unused_c (n : Nd) (hn : n.Ok) : APure Tryz.prog 61 [n.V] (.bool n.spare) := by
  refine apure_of (wp61 rfl rfl ?_)
  obtain ⟨op, a, b, c, neg, num, den⟩ := n
  have hsp : Nd.spare ⟨op, a, b, c, neg, num, den⟩ = ((((decide (a ≠ 0) && decide (op = 2)) || (decide (b ≠ 0) && !two op)) || (decide (c ≠ 0) && decide (op ≠ 8))) || (!noneB neg num den && decide (op ≠ 2))) := rfl
  refine asx_cut (fun f h => f 1 = .op 0 7 0 0 ∧ h = [.arr 7 [Nd.cells ⟨op, a, b, c, neg, num, den⟩] true]) ?_ fun f h hM => ?_
  · simp (maxSteps := 4000000) only [↓packA, ↓reduceIte, packB, pureOp, quietOp, loadOp, quietB, fr0, cellsK, implies_true, ite_true, ite_false, eq_self, ne_eq, reduceCtorEq, Nat.reduceLT, Nat.reduceLeDiff, Nat.reduceAdd, Nat.reduceMul, Nat.reduceBEq, Nat.reduceEqDiff, Int.reduceToNat, Int.reduceLT, Int.reduceLE, Nat.reduceSub, pl61, ft1, ft2, ft3, ft4, ft57, ft59, ft61, ft63, ft109, Nd.V, Nd.cells]
  obtain ⟨f1, rfl⟩ := hM
  refine asx_cut (fun f h => f 1 = .op 0 7 0 0 ∧ (op = 2 → a = 0) ∧ h = [.arr 7 [Nd.cells ⟨op, a, b, c, neg, num, den⟩] true]) ?_ fun f h hM => ?_
  · generalize Nd.spare ⟨op, a, b, c, neg, num, den⟩ = sp at *
    by_cases c2 : op = 2
    · by_cases c1 : a = 0
      · simp (maxSteps := 4000000) only [↓packA, ↓reduceIte, packB, pureOp, quietOp, loadOp, quietB, fr0, cellsK, implies_true, ite_true, ite_false, eq_self, ne_eq, reduceCtorEq, Nat.reduceLT, Nat.reduceLeDiff, Nat.reduceAdd, Nat.reduceMul, Nat.reduceBEq, Nat.reduceEqDiff, Int.reduceToNat, Int.reduceLT, Int.reduceLE, Nat.reduceSub, pl61, ft1, ft2, ft3, ft4, ft57, ft59, ft61, ft63, ft109, Nd.V, Nd.cells, f1, c2, c1, concA, Int.reduceAdd, Int.reduceSub, Int.reduceNeg, Int.reduceMul, Int.reduceEq, Int.reduceBEq, Int.reduceBNe]
        try exact fun _ => c1
      · simp (maxSteps := 4000000) only [↓packA, ↓reduceIte, packB, pureOp, quietOp, loadOp, quietB, fr0, cellsK, implies_true, ite_true, ite_false, eq_self, ne_eq, reduceCtorEq, Nat.reduceLT, Nat.reduceLeDiff, Nat.reduceAdd, Nat.reduceMul, Nat.reduceBEq, Nat.reduceEqDiff, Int.reduceToNat, Int.reduceLT, Int.reduceLE, Nat.reduceSub, pl61, ft1, ft2, ft3, ft4, ft57, ft59, ft61, ft63, ft109, Nd.V, Nd.cells, f1, c2, c1, concA, Int.reduceAdd, Int.reduceSub, Int.reduceNeg, Int.reduceMul, Int.reduceEq, Int.reduceBEq, Int.reduceBNe]
        rw [show sp = true by rw [hsp]; simp [c1, c2]]
        exact .pure _ rfl
    · simp (maxSteps := 4000000) only [↓packA, ↓reduceIte, packB, pureOp, quietOp, loadOp, quietB, fr0, cellsK, implies_true, ite_true, ite_false, eq_self, ne_eq, reduceCtorEq, Nat.reduceLT, Nat.reduceLeDiff, Nat.reduceAdd, Nat.reduceMul, Nat.reduceBEq, Nat.reduceEqDiff, Int.reduceToNat, Int.reduceLT, Int.reduceLE, Nat.reduceSub, pl61, ft1, ft2, ft3, ft4, ft57, ft59, ft61, ft63, ft109, Nd.V, Nd.cells, f1, c2, concA, Int.reduceAdd, Int.reduceSub, Int.reduceNeg, Int.reduceMul, Int.reduceEq, Int.reduceBEq, Int.reduceBNe]
      try exact fun h => absurd h c2
  obtain ⟨f1, hc1, rfl⟩ := hM
  refine asx_cut (fun f h => f 1 = .op 0 7 0 0 ∧ (two op = false → b = 0) ∧ h = [.arr 7 [Nd.cells ⟨op, a, b, c, neg, num, den⟩] true]) ?_ fun f h hM => ?_
  · generalize Nd.spare ⟨op, a, b, c, neg, num, den⟩ = sp at *
    simp (maxSteps := 4000000) only [↓packA, ↓reduceIte, packB, pureOp, quietOp, loadOp, quietB, fr0, cellsK, implies_true, ite_true, ite_false, eq_self, ne_eq, reduceCtorEq, Nat.reduceLT, Nat.reduceLeDiff, Nat.reduceAdd, Nat.reduceMul, Nat.reduceBEq, Nat.reduceEqDiff, Int.reduceToNat, Int.reduceLT, Int.reduceLE, Nat.reduceSub, pl61, ft1, ft2, ft3, ft4, ft57, ft59, ft61, ft63, ft109, Nd.V, Nd.cells, f1, concA, Int.reduceAdd, Int.reduceSub, Int.reduceNeg, Int.reduceMul, Int.reduceEq, Int.reduceBEq, Int.reduceBNe]
    refine acalls_pure (rtwo_c op) rfl ?_
    generalize hto : two op = to at *
    cases to
    · by_cases c1 : b = 0
      · simp (maxSteps := 4000000) only [↓packA, ↓reduceIte, packB, pureOp, quietOp, loadOp, quietB, fr0, cellsK, implies_true, ite_true, ite_false, eq_self, ne_eq, reduceCtorEq, Nat.reduceLT, Nat.reduceLeDiff, Nat.reduceAdd, Nat.reduceMul, Nat.reduceBEq, Nat.reduceEqDiff, Int.reduceToNat, Int.reduceLT, Int.reduceLE, Nat.reduceSub, pl61, ft1, ft2, ft3, ft4, ft57, ft59, ft61, ft63, ft109, Nd.V, Nd.cells, f1, c1, concA, Int.reduceAdd, Int.reduceSub, Int.reduceNeg, Int.reduceMul, Int.reduceEq, Int.reduceBEq, Int.reduceBNe]
        try exact fun _ => c1
      · simp (maxSteps := 4000000) only [↓packA, ↓reduceIte, packB, pureOp, quietOp, loadOp, quietB, fr0, cellsK, implies_true, ite_true, ite_false, eq_self, ne_eq, reduceCtorEq, Nat.reduceLT, Nat.reduceLeDiff, Nat.reduceAdd, Nat.reduceMul, Nat.reduceBEq, Nat.reduceEqDiff, Int.reduceToNat, Int.reduceLT, Int.reduceLE, Nat.reduceSub, pl61, ft1, ft2, ft3, ft4, ft57, ft59, ft61, ft63, ft109, Nd.V, Nd.cells, f1, c1, concA, Int.reduceAdd, Int.reduceSub, Int.reduceNeg, Int.reduceMul, Int.reduceEq, Int.reduceBEq, Int.reduceBNe]
        rw [show sp = true by rw [hsp]; simp [c1]]
        exact .pure _ rfl
    · simp (maxSteps := 4000000) only [↓packA, ↓reduceIte, packB, pureOp, quietOp, loadOp, quietB, fr0, cellsK, implies_true, ite_true, ite_false, eq_self, ne_eq, reduceCtorEq, Nat.reduceLT, Nat.reduceLeDiff, Nat.reduceAdd, Nat.reduceMul, Nat.reduceBEq, Nat.reduceEqDiff, Int.reduceToNat, Int.reduceLT, Int.reduceLE, Nat.reduceSub, pl61, ft1, ft2, ft3, ft4, ft57, ft59, ft61, ft63, ft109, Nd.V, Nd.cells, f1, concA, Int.reduceAdd, Int.reduceSub, Int.reduceNeg, Int.reduceMul, Int.reduceEq, Int.reduceBEq, Int.reduceBNe]
      try exact fun h => by cases h
  obtain ⟨f1, hc2, rfl⟩ := hM
  refine asx_cut (fun f h => f 1 = .op 0 7 0 0 ∧ (¬ op = 8 → c = 0) ∧ h = [.arr 7 [Nd.cells ⟨op, a, b, c, neg, num, den⟩] true]) ?_ fun f h hM => ?_
  · generalize Nd.spare ⟨op, a, b, c, neg, num, den⟩ = sp at *
    by_cases c2 : op = 8
    · simp (maxSteps := 4000000) only [↓packA, ↓reduceIte, packB, pureOp, quietOp, loadOp, quietB, fr0, cellsK, implies_true, ite_true, ite_false, eq_self, ne_eq, reduceCtorEq, Nat.reduceLT, Nat.reduceLeDiff, Nat.reduceAdd, Nat.reduceMul, Nat.reduceBEq, Nat.reduceEqDiff, Int.reduceToNat, Int.reduceLT, Int.reduceLE, Nat.reduceSub, pl61, ft1, ft2, ft3, ft4, ft57, ft59, ft61, ft63, ft109, Nd.V, Nd.cells, f1, c2, concA, Int.reduceAdd, Int.reduceSub, Int.reduceNeg, Int.reduceMul, Int.reduceEq, Int.reduceBEq, Int.reduceBNe]
      try exact fun h => absurd c2 h
    · by_cases c1 : c = 0
      · simp (maxSteps := 4000000) only [↓packA, ↓reduceIte, packB, pureOp, quietOp, loadOp, quietB, fr0, cellsK, implies_true, ite_true, ite_false, eq_self, ne_eq, reduceCtorEq, Nat.reduceLT, Nat.reduceLeDiff, Nat.reduceAdd, Nat.reduceMul, Nat.reduceBEq, Nat.reduceEqDiff, Int.reduceToNat, Int.reduceLT, Int.reduceLE, Nat.reduceSub, pl61, ft1, ft2, ft3, ft4, ft57, ft59, ft61, ft63, ft109, Nd.V, Nd.cells, f1, c2, c1, concA, Int.reduceAdd, Int.reduceSub, Int.reduceNeg, Int.reduceMul, Int.reduceEq, Int.reduceBEq, Int.reduceBNe]
        try exact fun _ => c1
      · simp (maxSteps := 4000000) only [↓packA, ↓reduceIte, packB, pureOp, quietOp, loadOp, quietB, fr0, cellsK, implies_true, ite_true, ite_false, eq_self, ne_eq, reduceCtorEq, Nat.reduceLT, Nat.reduceLeDiff, Nat.reduceAdd, Nat.reduceMul, Nat.reduceBEq, Nat.reduceEqDiff, Int.reduceToNat, Int.reduceLT, Int.reduceLE, Nat.reduceSub, pl61, ft1, ft2, ft3, ft4, ft57, ft59, ft61, ft63, ft109, Nd.V, Nd.cells, f1, c2, c1, concA, Int.reduceAdd, Int.reduceSub, Int.reduceNeg, Int.reduceMul, Int.reduceEq, Int.reduceBEq, Int.reduceBNe]
        rw [show sp = true by rw [hsp]; simp [c1, c2]]
        exact .pure _ rfl
  obtain ⟨f1, hc3, rfl⟩ := hM
  have hsp2 : Nd.spare ⟨op, a, b, c, neg, num, den⟩ = (!noneB neg num den && decide (op ≠ 2)) := by
    rw [hsp, show (decide (a ≠ 0) && decide (op = 2)) = false by by_cases h : op = 2 <;> simp [h, hc1], show (decide (b ≠ 0) && !two op) = false by cases h : two op <;> simp [h, hc2], show (decide (c ≠ 0) && decide (op ≠ 8)) = false by by_cases h : op = 8 <;> simp [h, hc3]]
    rfl
  rw [hsp2]
  by_cases c2 : op = 2
  · simp (maxSteps := 4000000) only [↓packA, ↓reduceIte, packB, pureOp, quietOp, loadOp, quietB, fr0, cellsK, implies_true, ite_true, ite_false, eq_self, ne_eq, reduceCtorEq, Nat.reduceLT, Nat.reduceLeDiff, Nat.reduceAdd, Nat.reduceMul, Nat.reduceBEq, Nat.reduceEqDiff, Int.reduceToNat, Int.reduceLT, Int.reduceLE, Nat.reduceSub, pl61, ft1, ft2, ft3, ft4, ft57, ft59, ft61, ft63, ft109, Nd.V, Nd.cells, f1, c2, concA, Int.reduceAdd, Int.reduceSub, Int.reduceNeg, Int.reduceMul, Int.reduceEq, Int.reduceBEq, Int.reduceBNe]
    exact .pure _ rfl
  · simp (maxSteps := 4000000) only [↓packA, ↓reduceIte, packB, pureOp, quietOp, loadOp, quietB, fr0, cellsK, implies_true, ite_true, ite_false, eq_self, ne_eq, reduceCtorEq, Nat.reduceLT, Nat.reduceLeDiff, Nat.reduceAdd, Nat.reduceMul, Nat.reduceBEq, Nat.reduceEqDiff, Int.reduceToNat, Int.reduceLT, Int.reduceLE, Nat.reduceSub, pl61, ft1, ft2, ft3, ft4, ft57, ft59, ft61, ft63, ft109, Nd.V, Nd.cells, f1, c2, concA, Int.reduceAdd, Int.reduceSub, Int.reduceNeg, Int.reduceMul, Int.reduceEq, Int.reduceBEq, Int.reduceBNe]
    refine acalls_pure (none_c neg num den) rfl ?_
    rw [show (!noneB neg num den && decide (op ≠ 2)) = !noneB neg num den by simp [c2]]
    simp (maxSteps := 4000000) only [↓packA, ↓reduceIte, packB, pureOp, quietOp, loadOp, quietB, fr0, cellsK, implies_true, ite_true, ite_false, eq_self, ne_eq, reduceCtorEq, Nat.reduceLT, Nat.reduceLeDiff, Nat.reduceAdd, Nat.reduceMul, Nat.reduceBEq, Nat.reduceEqDiff, Int.reduceToNat, Int.reduceLT, Int.reduceLE, Nat.reduceSub, pl61, ft1, ft2, ft3, ft4, ft57, ft59, ft61, ft63, ft109, Nd.V, Nd.cells, f1, c2, concA, Int.reduceAdd, Int.reduceSub, Int.reduceNeg, Int.reduceMul, Int.reduceEq, Int.reduceBEq, Int.reduceBNe]
    exact .pure _ rfl
def Nd.wrong (n : Nd) (vars i : Int) : Int :=
  if n.op < 1 ∨ 8 < n.op then 103 else if n.spare = true then 104 else
  if n.op = 1 then (if n.a < 0 ∨ vars ≤ n.a then 105 else 0) else
  if n.op = 2 then (if mayB n.neg n.num n.den = true then 0 else 40) else
  if n.a < 0 ∨ i ≤ n.a then 106 else if two n.op = true ∧ (n.b < 0 ∨ i ≤ n.b) then 106 else
  if n.c < -1024 ∨ 1024 < n.c then 107 else 0
set_option maxRecDepth 100000 in
theorem in_o {h : Heap} {id : Nat} {i x : Int} {ex : Bool} {Q : AV → Heap → Prop} (hid : h[id]? = some (.arr 1 [[.int .i64 i]] ex)) (hq : Q (.bool (decide (0 ≤ x ∧ x < i))) h) : ACalls Tryz.prog 67 [.int .i64 x, .op id 1 0 0] h Q := by
  refine wp67 rfl rfl ?_
  by_cases c1 : 0 ≤ x
  · have r1 : x ≥ 0 := c1
    simp (maxSteps := 4000000) only [↓packA, ↓reduceIte, packB, pureOp, quietOp, loadOp, quietB, fr0, cellsK, implies_true, ite_true, ite_false, eq_self, ne_eq, reduceCtorEq, Nat.reduceLT, Nat.reduceLeDiff, Nat.reduceAdd, Nat.reduceMul, Nat.reduceBEq, Nat.reduceEqDiff, Int.reduceToNat, Int.reduceLT, Int.reduceLE, Nat.reduceSub, pl67, ft3, hid, r1, concA, Int.reduceAdd, Int.reduceSub, Int.reduceNeg, Int.reduceMul, Int.reduceEq, Int.reduceBEq, Int.reduceBNe]
    rw [show decide (0 ≤ x ∧ x < i) = decide (x < i) by simp [c1]] at hq
    exact hq
  · have r1 : ¬ x ≥ 0 := c1
    simp (maxSteps := 4000000) only [↓packA, ↓reduceIte, packB, pureOp, quietOp, loadOp, quietB, fr0, cellsK, implies_true, ite_true, ite_false, eq_self, ne_eq, reduceCtorEq, Nat.reduceLT, Nat.reduceLeDiff, Nat.reduceAdd, Nat.reduceMul, Nat.reduceBEq, Nat.reduceEqDiff, Int.reduceToNat, Int.reduceLT, Int.reduceLE, Nat.reduceSub, pl67, ft3, hid, r1, concA, Int.reduceAdd, Int.reduceSub, Int.reduceNeg, Int.reduceMul, Int.reduceEq, Int.reduceBEq, Int.reduceBNe]
    rw [decide_eq_false (fun h => c1 h.1)] at hq
    exact hq
set_option maxHeartbeats 4000000 in
set_option maxRecDepth 100000 in
theorem pnode_c (n : Nd) (hn : n.Ok) (vars i : Int) : APure Tryz.prog 51 [n.V, .int .i64 vars, .int .i64 i] (.int .i64 (n.wrong vars i)) := by
  refine apure_of (wp51 rfl rfl ?_)
  have hsp := spare_c n hn
  have hmay := may_c n.neg n.num n.den hn.num hn.den hn.ln hn.ld
  obtain ⟨W, hW⟩ : ∃ W, W = n.wrong vars i := ⟨_, rfl⟩
  rw [← hW]
  unfold Nd.wrong at hW
  generalize hspe : n.spare = sp at *
  obtain ⟨op, a, b, c, neg, num, den⟩ := n
  simp only at hW hmay
  by_cases c1 : op < 1
  · simp (maxSteps := 4000000) only [↓packA, ↓reduceIte, packB, pureOp, quietOp, loadOp, quietB, fr0, cellsK, implies_true, ite_true, ite_false, eq_self, ne_eq, reduceCtorEq, Nat.reduceLT, Nat.reduceLeDiff, Nat.reduceAdd, Nat.reduceMul, Nat.reduceBEq, Nat.reduceEqDiff, Int.reduceToNat, Int.reduceLT, Int.reduceLE, Nat.reduceSub, pl51, ft1, ft2, ft3, ft4, ft57, ft59, ft61, ft63, ft109, Nd.V, Nd.cells, c1, concA, Int.reduceAdd, Int.reduceSub, Int.reduceNeg, Int.reduceMul, Int.reduceEq, Int.reduceBEq, Int.reduceBNe]
    rw [hW, if_pos (.inl c1)]
    exact .pure _ rfl
  by_cases c2 : 8 < op
  · have r2 : op > 8 := c2
    simp (maxSteps := 4000000) only [↓packA, ↓reduceIte, packB, pureOp, quietOp, loadOp, quietB, fr0, cellsK, implies_true, ite_true, ite_false, eq_self, ne_eq, reduceCtorEq, Nat.reduceLT, Nat.reduceLeDiff, Nat.reduceAdd, Nat.reduceMul, Nat.reduceBEq, Nat.reduceEqDiff, Int.reduceToNat, Int.reduceLT, Int.reduceLE, Nat.reduceSub, pl51, ft1, ft2, ft3, ft4, ft57, ft59, ft61, ft63, ft109, Nd.V, Nd.cells, c1, r2, concA, Int.reduceAdd, Int.reduceSub, Int.reduceNeg, Int.reduceMul, Int.reduceEq, Int.reduceBEq, Int.reduceBNe]
    rw [hW, if_pos (.inr c2)]
    exact .pure _ rfl
  have r2 : ¬ op > 8 := c2
  rw [if_neg (by omega)] at hW
  simp (maxSteps := 4000000) only [↓packA, ↓reduceIte, packB, pureOp, quietOp, loadOp, quietB, fr0, cellsK, implies_true, ite_true, ite_false, eq_self, ne_eq, reduceCtorEq, Nat.reduceLT, Nat.reduceLeDiff, Nat.reduceAdd, Nat.reduceMul, Nat.reduceBEq, Nat.reduceEqDiff, Int.reduceToNat, Int.reduceLT, Int.reduceLE, Nat.reduceSub, pl51, ft1, ft2, ft3, ft4, ft57, ft59, ft61, ft63, ft109, Nd.V, Nd.cells, c1, r2, concA, Int.reduceAdd, Int.reduceSub, Int.reduceNeg, Int.reduceMul, Int.reduceEq, Int.reduceBEq, Int.reduceBNe]
  refine acalls_pure hsp rfl ?_
  cases sp
  rotate_left
  · simp (maxSteps := 4000000) only [↓packA, ↓reduceIte, packB, pureOp, quietOp, loadOp, quietB, fr0, cellsK, implies_true, ite_true, ite_false, eq_self, ne_eq, reduceCtorEq, Nat.reduceLT, Nat.reduceLeDiff, Nat.reduceAdd, Nat.reduceMul, Nat.reduceBEq, Nat.reduceEqDiff, Int.reduceToNat, Int.reduceLT, Int.reduceLE, Nat.reduceSub, pl51, ft1, ft2, ft3, ft4, ft57, ft59, ft61, ft63, ft109, Nd.V, Nd.cells, c1, r2, concA, Int.reduceAdd, Int.reduceSub, Int.reduceNeg, Int.reduceMul, Int.reduceEq, Int.reduceBEq, Int.reduceBNe]
    rw [hW, if_pos rfl]
    exact .pure _ rfl
  rw [if_neg (fun h => by cases h)] at hW
  by_cases c3 : op = 1
  · subst c3
    rw [if_pos rfl] at hW
    by_cases c4 : a < 0
    · simp (maxSteps := 4000000) only [↓packA, ↓reduceIte, packB, pureOp, quietOp, loadOp, quietB, fr0, cellsK, implies_true, ite_true, ite_false, eq_self, ne_eq, reduceCtorEq, Nat.reduceLT, Nat.reduceLeDiff, Nat.reduceAdd, Nat.reduceMul, Nat.reduceBEq, Nat.reduceEqDiff, Int.reduceToNat, Int.reduceLT, Int.reduceLE, Nat.reduceSub, pl51, ft1, ft2, ft3, ft4, ft57, ft59, ft61, ft63, ft109, Nd.V, Nd.cells, c4, concA, Int.reduceAdd, Int.reduceSub, Int.reduceNeg, Int.reduceMul, Int.reduceEq, Int.reduceBEq, Int.reduceBNe]
      rw [hW, if_pos (.inl c4)]
      exact .pure _ rfl
    · by_cases c5 : vars ≤ a
      · have r5 : a ≥ vars := c5
        simp (maxSteps := 4000000) only [↓packA, ↓reduceIte, packB, pureOp, quietOp, loadOp, quietB, fr0, cellsK, implies_true, ite_true, ite_false, eq_self, ne_eq, reduceCtorEq, Nat.reduceLT, Nat.reduceLeDiff, Nat.reduceAdd, Nat.reduceMul, Nat.reduceBEq, Nat.reduceEqDiff, Int.reduceToNat, Int.reduceLT, Int.reduceLE, Nat.reduceSub, pl51, ft1, ft2, ft3, ft4, ft57, ft59, ft61, ft63, ft109, Nd.V, Nd.cells, c4, r5, concA, Int.reduceAdd, Int.reduceSub, Int.reduceNeg, Int.reduceMul, Int.reduceEq, Int.reduceBEq, Int.reduceBNe]
        rw [hW, if_pos (.inr c5)]
        exact .pure _ rfl
      · have r5 : ¬ a ≥ vars := c5
        simp (maxSteps := 4000000) only [↓packA, ↓reduceIte, packB, pureOp, quietOp, loadOp, quietB, fr0, cellsK, implies_true, ite_true, ite_false, eq_self, ne_eq, reduceCtorEq, Nat.reduceLT, Nat.reduceLeDiff, Nat.reduceAdd, Nat.reduceMul, Nat.reduceBEq, Nat.reduceEqDiff, Int.reduceToNat, Int.reduceLT, Int.reduceLE, Nat.reduceSub, pl51, ft1, ft2, ft3, ft4, ft57, ft59, ft61, ft63, ft109, Nd.V, Nd.cells, c4, r5, concA, Int.reduceAdd, Int.reduceSub, Int.reduceNeg, Int.reduceMul, Int.reduceEq, Int.reduceBEq, Int.reduceBNe]
        rw [hW, if_neg (by omega)]
        exact .pure _ rfl
  rw [if_neg c3] at hW
  by_cases c4 : op = 2
  · subst c4
    rw [if_pos rfl] at hW
    simp (maxSteps := 4000000) only [↓packA, ↓reduceIte, packB, pureOp, quietOp, loadOp, quietB, fr0, cellsK, implies_true, ite_true, ite_false, eq_self, ne_eq, reduceCtorEq, Nat.reduceLT, Nat.reduceLeDiff, Nat.reduceAdd, Nat.reduceMul, Nat.reduceBEq, Nat.reduceEqDiff, Int.reduceToNat, Int.reduceLT, Int.reduceLE, Nat.reduceSub, pl51, ft1, ft2, ft3, ft4, ft57, ft59, ft61, ft63, ft109, Nd.V, Nd.cells, concA, Int.reduceAdd, Int.reduceSub, Int.reduceNeg, Int.reduceMul, Int.reduceEq, Int.reduceBEq, Int.reduceBNe]
    refine acalls_pure hmay rfl ?_
    cases hm : mayB neg num den
    · simp (maxSteps := 4000000) only [↓packA, ↓reduceIte, packB, pureOp, quietOp, loadOp, quietB, fr0, cellsK, implies_true, ite_true, ite_false, eq_self, ne_eq, reduceCtorEq, Nat.reduceLT, Nat.reduceLeDiff, Nat.reduceAdd, Nat.reduceMul, Nat.reduceBEq, Nat.reduceEqDiff, Int.reduceToNat, Int.reduceLT, Int.reduceLE, Nat.reduceSub, pl51, ft1, ft2, ft3, ft4, ft57, ft59, ft61, ft63, ft109, Nd.V, Nd.cells, concA, Int.reduceAdd, Int.reduceSub, Int.reduceNeg, Int.reduceMul, Int.reduceEq, Int.reduceBEq, Int.reduceBNe]
      rw [hW, if_neg (by rw [hm]; decide)]
      exact .pure _ rfl
    · simp (maxSteps := 4000000) only [↓packA, ↓reduceIte, packB, pureOp, quietOp, loadOp, quietB, fr0, cellsK, implies_true, ite_true, ite_false, eq_self, ne_eq, reduceCtorEq, Nat.reduceLT, Nat.reduceLeDiff, Nat.reduceAdd, Nat.reduceMul, Nat.reduceBEq, Nat.reduceEqDiff, Int.reduceToNat, Int.reduceLT, Int.reduceLE, Nat.reduceSub, pl51, ft1, ft2, ft3, ft4, ft57, ft59, ft61, ft63, ft109, Nd.V, Nd.cells, concA, Int.reduceAdd, Int.reduceSub, Int.reduceNeg, Int.reduceMul, Int.reduceEq, Int.reduceBEq, Int.reduceBNe]
      rw [hW, if_pos hm]
      exact .pure _ rfl
  rw [if_neg c4] at hW
  simp (maxSteps := 4000000) only [↓packA, ↓reduceIte, packB, pureOp, quietOp, loadOp, quietB, fr0, cellsK, implies_true, ite_true, ite_false, eq_self, ne_eq, reduceCtorEq, Nat.reduceLT, Nat.reduceLeDiff, Nat.reduceAdd, Nat.reduceMul, Nat.reduceBEq, Nat.reduceEqDiff, Int.reduceToNat, Int.reduceLT, Int.reduceLE, Nat.reduceSub, pl51, ft1, ft2, ft3, ft4, ft57, ft59, ft61, ft63, ft109, Nd.V, Nd.cells, c1, r2, c3, c4, concA, Int.reduceAdd, Int.reduceSub, Int.reduceNeg, Int.reduceMul, Int.reduceEq, Int.reduceBEq, Int.reduceBNe]
  refine in_o rfl ?_
  by_cases c5 : 0 ≤ a ∧ a < i
  rotate_left
  · rw [decide_eq_false c5]
    simp (maxSteps := 4000000) only [↓packA, ↓reduceIte, packB, pureOp, quietOp, loadOp, quietB, fr0, cellsK, implies_true, ite_true, ite_false, eq_self, ne_eq, reduceCtorEq, Nat.reduceLT, Nat.reduceLeDiff, Nat.reduceAdd, Nat.reduceMul, Nat.reduceBEq, Nat.reduceEqDiff, Int.reduceToNat, Int.reduceLT, Int.reduceLE, Nat.reduceSub, pl51, ft1, ft2, ft3, ft4, ft57, ft59, ft61, ft63, ft109, Nd.V, Nd.cells, c1, r2, c3, c4, concA, Int.reduceAdd, Int.reduceSub, Int.reduceNeg, Int.reduceMul, Int.reduceEq, Int.reduceBEq, Int.reduceBNe]
    rw [hW, if_pos (by omega)]
    exact .pure _ rfl
  rw [decide_eq_true c5]
  rw [if_neg (by omega)] at hW
  simp (maxSteps := 4000000) only [↓packA, ↓reduceIte, packB, pureOp, quietOp, loadOp, quietB, fr0, cellsK, implies_true, ite_true, ite_false, eq_self, ne_eq, reduceCtorEq, Nat.reduceLT, Nat.reduceLeDiff, Nat.reduceAdd, Nat.reduceMul, Nat.reduceBEq, Nat.reduceEqDiff, Int.reduceToNat, Int.reduceLT, Int.reduceLE, Nat.reduceSub, pl51, ft1, ft2, ft3, ft4, ft57, ft59, ft61, ft63, ft109, Nd.V, Nd.cells, c1, r2, c3, c4, concA, Int.reduceAdd, Int.reduceSub, Int.reduceNeg, Int.reduceMul, Int.reduceEq, Int.reduceBEq, Int.reduceBNe]
  refine acalls_pure (two_c op) rfl ?_
  generalize two op = to at *
  cases to
  · rw [if_neg (fun h => by cases h.1)] at hW
    by_cases c7 : c < -1024
    · simp (maxSteps := 4000000) only [↓packA, ↓reduceIte, packB, pureOp, quietOp, loadOp, quietB, fr0, cellsK, implies_true, ite_true, ite_false, eq_self, ne_eq, reduceCtorEq, Nat.reduceLT, Nat.reduceLeDiff, Nat.reduceAdd, Nat.reduceMul, Nat.reduceBEq, Nat.reduceEqDiff, Int.reduceToNat, Int.reduceLT, Int.reduceLE, Nat.reduceSub, pl51, ft1, ft2, ft3, ft4, ft57, ft59, ft61, ft63, ft109, Nd.V, Nd.cells, c1, r2, c3, c4, c7, concA, Int.reduceAdd, Int.reduceSub, Int.reduceNeg, Int.reduceMul, Int.reduceEq, Int.reduceBEq, Int.reduceBNe]
      rw [hW, if_pos (.inl c7)]
      exact .pure _ rfl
    by_cases c8 : 1024 < c
    · have r8 : c > 1024 := c8
      simp (maxSteps := 4000000) only [↓packA, ↓reduceIte, packB, pureOp, quietOp, loadOp, quietB, fr0, cellsK, implies_true, ite_true, ite_false, eq_self, ne_eq, reduceCtorEq, Nat.reduceLT, Nat.reduceLeDiff, Nat.reduceAdd, Nat.reduceMul, Nat.reduceBEq, Nat.reduceEqDiff, Int.reduceToNat, Int.reduceLT, Int.reduceLE, Nat.reduceSub, pl51, ft1, ft2, ft3, ft4, ft57, ft59, ft61, ft63, ft109, Nd.V, Nd.cells, c1, r2, c3, c4, c7, r8, concA, Int.reduceAdd, Int.reduceSub, Int.reduceNeg, Int.reduceMul, Int.reduceEq, Int.reduceBEq, Int.reduceBNe]
      rw [hW, if_pos (.inr c8)]
      exact .pure _ rfl
    have r8 : ¬ c > 1024 := c8
    simp (maxSteps := 4000000) only [↓packA, ↓reduceIte, packB, pureOp, quietOp, loadOp, quietB, fr0, cellsK, implies_true, ite_true, ite_false, eq_self, ne_eq, reduceCtorEq, Nat.reduceLT, Nat.reduceLeDiff, Nat.reduceAdd, Nat.reduceMul, Nat.reduceBEq, Nat.reduceEqDiff, Int.reduceToNat, Int.reduceLT, Int.reduceLE, Nat.reduceSub, pl51, ft1, ft2, ft3, ft4, ft57, ft59, ft61, ft63, ft109, Nd.V, Nd.cells, c1, r2, c3, c4, c7, r8, concA, Int.reduceAdd, Int.reduceSub, Int.reduceNeg, Int.reduceMul, Int.reduceEq, Int.reduceBEq, Int.reduceBNe]
    rw [hW, if_neg (by omega)]
    exact .pure _ rfl
  · simp (maxSteps := 4000000) only [↓packA, ↓reduceIte, packB, pureOp, quietOp, loadOp, quietB, fr0, cellsK, implies_true, ite_true, ite_false, eq_self, ne_eq, reduceCtorEq, Nat.reduceLT, Nat.reduceLeDiff, Nat.reduceAdd, Nat.reduceMul, Nat.reduceBEq, Nat.reduceEqDiff, Int.reduceToNat, Int.reduceLT, Int.reduceLE, Nat.reduceSub, pl51, ft1, ft2, ft3, ft4, ft57, ft59, ft61, ft63, ft109, Nd.V, Nd.cells, c1, r2, c3, c4, concA, Int.reduceAdd, Int.reduceSub, Int.reduceNeg, Int.reduceMul, Int.reduceEq, Int.reduceBEq, Int.reduceBNe]
    refine in_o rfl ?_
    by_cases c6 : 0 ≤ b ∧ b < i
    rotate_left
    · rw [decide_eq_false c6]
      simp (maxSteps := 4000000) only [↓packA, ↓reduceIte, packB, pureOp, quietOp, loadOp, quietB, fr0, cellsK, implies_true, ite_true, ite_false, eq_self, ne_eq, reduceCtorEq, Nat.reduceLT, Nat.reduceLeDiff, Nat.reduceAdd, Nat.reduceMul, Nat.reduceBEq, Nat.reduceEqDiff, Int.reduceToNat, Int.reduceLT, Int.reduceLE, Nat.reduceSub, pl51, ft1, ft2, ft3, ft4, ft57, ft59, ft61, ft63, ft109, Nd.V, Nd.cells, c1, r2, c3, c4, concA, Int.reduceAdd, Int.reduceSub, Int.reduceNeg, Int.reduceMul, Int.reduceEq, Int.reduceBEq, Int.reduceBNe]
      rw [hW, if_pos ⟨rfl, by omega⟩]
      exact .pure _ rfl
    rw [decide_eq_true c6]
    rw [if_neg (by omega)] at hW
    by_cases c7 : c < -1024
    · simp (maxSteps := 4000000) only [↓packA, ↓reduceIte, packB, pureOp, quietOp, loadOp, quietB, fr0, cellsK, implies_true, ite_true, ite_false, eq_self, ne_eq, reduceCtorEq, Nat.reduceLT, Nat.reduceLeDiff, Nat.reduceAdd, Nat.reduceMul, Nat.reduceBEq, Nat.reduceEqDiff, Int.reduceToNat, Int.reduceLT, Int.reduceLE, Nat.reduceSub, pl51, ft1, ft2, ft3, ft4, ft57, ft59, ft61, ft63, ft109, Nd.V, Nd.cells, c1, r2, c3, c4, c7, concA, Int.reduceAdd, Int.reduceSub, Int.reduceNeg, Int.reduceMul, Int.reduceEq, Int.reduceBEq, Int.reduceBNe]
      rw [hW, if_pos (.inl c7)]
      exact .pure _ rfl
    by_cases c8 : 1024 < c
    · have r8 : c > 1024 := c8
      simp (maxSteps := 4000000) only [↓packA, ↓reduceIte, packB, pureOp, quietOp, loadOp, quietB, fr0, cellsK, implies_true, ite_true, ite_false, eq_self, ne_eq, reduceCtorEq, Nat.reduceLT, Nat.reduceLeDiff, Nat.reduceAdd, Nat.reduceMul, Nat.reduceBEq, Nat.reduceEqDiff, Int.reduceToNat, Int.reduceLT, Int.reduceLE, Nat.reduceSub, pl51, ft1, ft2, ft3, ft4, ft57, ft59, ft61, ft63, ft109, Nd.V, Nd.cells, c1, r2, c3, c4, c7, r8, concA, Int.reduceAdd, Int.reduceSub, Int.reduceNeg, Int.reduceMul, Int.reduceEq, Int.reduceBEq, Int.reduceBNe]
      rw [hW, if_pos (.inr c8)]
      exact .pure _ rfl
    have r8 : ¬ c > 1024 := c8
    simp (maxSteps := 4000000) only [↓packA, ↓reduceIte, packB, pureOp, quietOp, loadOp, quietB, fr0, cellsK, implies_true, ite_true, ite_false, eq_self, ne_eq, reduceCtorEq, Nat.reduceLT, Nat.reduceLeDiff, Nat.reduceAdd, Nat.reduceMul, Nat.reduceBEq, Nat.reduceEqDiff, Int.reduceToNat, Int.reduceLT, Int.reduceLE, Nat.reduceSub, pl51, ft1, ft2, ft3, ft4, ft57, ft59, ft61, ft63, ft109, Nd.V, Nd.cells, c1, r2, c3, c4, c7, r8, concA, Int.reduceAdd, Int.reduceSub, Int.reduceNeg, Int.reduceMul, Int.reduceEq, Int.reduceBEq, Int.reduceBNe]
    rw [hW, if_neg (by omega)]
    exact .pure _ rfl
end Go.Proofs.YtclbobielhllmaaGreat
end
section
namespace Go.Proofs.YtclbobielhllmaaGreat
open Go Go.AL
set_option linter.unusedVariables false
set_option linter.unusedSimpArgs false
theorem spare_c0 {op a b c : Int} {neg : Bool} {num den : List Int} (h : Nd.spare ⟨op, a, b, c, neg, num, den⟩ = false) (ho : op ≠ 8) : c = 0 := by
  apply Classical.byContradiction
  intro hc
  simp [Nd.spare, hc, ho] at h
set_option maxHeartbeats 4000000 in
set_option maxRecDepth 100000 in
theorem rnode_c (n : Nd) (hn : n.Ok) (vars i : Int) : APure Tryz.prog 41 [n.V, .int .i64 vars, .int .i64 i] (.int .i64 (n.wrong vars i)) := by
  refine apure_of (wp41 rfl rfl ?_)
  have hsp := unused_c n hn
  have hmay := rmay_c n.neg n.num n.den hn.num hn.den hn.ln hn.ld
  obtain ⟨W, hW⟩ : ∃ W, W = n.wrong vars i := ⟨_, rfl⟩
  rw [← hW]
  unfold Nd.wrong at hW
  have hc0 : n.spare = false → n.op ≠ 8 → n.c = 0 := fun h ho => spare_c0 h ho
  generalize hspe : n.spare = sp at *
  obtain ⟨op, a, b, c, neg, num, den⟩ := n
  simp only at hW hmay hc0
  by_cases c1 : op < 1
  · simp (maxSteps := 4000000) only [↓packA, ↓reduceIte, packB, pureOp, quietOp, loadOp, quietB, fr0, cellsK, implies_true, ite_true, ite_false, eq_self, ne_eq, reduceCtorEq, Nat.reduceLT, Nat.reduceLeDiff, Nat.reduceAdd, Nat.reduceMul, Nat.reduceBEq, Nat.reduceEqDiff, Int.reduceToNat, Int.reduceLT, Int.reduceLE, Nat.reduceSub, pl41, ft1, ft2, ft3, ft4, ft57, ft59, ft61, ft63, ft109, Nd.V, Nd.cells, c1, concA, Int.reduceAdd, Int.reduceSub, Int.reduceNeg, Int.reduceMul, Int.reduceEq, Int.reduceBEq, Int.reduceBNe]
    rw [hW, if_pos (.inl c1)]
    exact .pure _ rfl
  by_cases c2 : 8 < op
  · have r2 : op > 8 := c2
    simp (maxSteps := 4000000) only [↓packA, ↓reduceIte, packB, pureOp, quietOp, loadOp, quietB, fr0, cellsK, implies_true, ite_true, ite_false, eq_self, ne_eq, reduceCtorEq, Nat.reduceLT, Nat.reduceLeDiff, Nat.reduceAdd, Nat.reduceMul, Nat.reduceBEq, Nat.reduceEqDiff, Int.reduceToNat, Int.reduceLT, Int.reduceLE, Nat.reduceSub, pl41, ft1, ft2, ft3, ft4, ft57, ft59, ft61, ft63, ft109, Nd.V, Nd.cells, c1, r2, concA, Int.reduceAdd, Int.reduceSub, Int.reduceNeg, Int.reduceMul, Int.reduceEq, Int.reduceBEq, Int.reduceBNe]
    rw [hW, if_pos (.inr c2)]
    exact .pure _ rfl
  have r2 : ¬ op > 8 := c2
  rw [if_neg (by omega)] at hW
  simp (maxSteps := 4000000) only [↓packA, ↓reduceIte, packB, pureOp, quietOp, loadOp, quietB, fr0, cellsK, implies_true, ite_true, ite_false, eq_self, ne_eq, reduceCtorEq, Nat.reduceLT, Nat.reduceLeDiff, Nat.reduceAdd, Nat.reduceMul, Nat.reduceBEq, Nat.reduceEqDiff, Int.reduceToNat, Int.reduceLT, Int.reduceLE, Nat.reduceSub, pl41, ft1, ft2, ft3, ft4, ft57, ft59, ft61, ft63, ft109, Nd.V, Nd.cells, c1, r2, concA, Int.reduceAdd, Int.reduceSub, Int.reduceNeg, Int.reduceMul, Int.reduceEq, Int.reduceBEq, Int.reduceBNe]
  refine acalls_pure hsp rfl ?_
  cases sp
  rotate_left
  · simp (maxSteps := 4000000) only [↓packA, ↓reduceIte, packB, pureOp, quietOp, loadOp, quietB, fr0, cellsK, implies_true, ite_true, ite_false, eq_self, ne_eq, reduceCtorEq, Nat.reduceLT, Nat.reduceLeDiff, Nat.reduceAdd, Nat.reduceMul, Nat.reduceBEq, Nat.reduceEqDiff, Int.reduceToNat, Int.reduceLT, Int.reduceLE, Nat.reduceSub, pl41, ft1, ft2, ft3, ft4, ft57, ft59, ft61, ft63, ft109, Nd.V, Nd.cells, c1, r2, concA, Int.reduceAdd, Int.reduceSub, Int.reduceNeg, Int.reduceMul, Int.reduceEq, Int.reduceBEq, Int.reduceBNe]
    rw [hW, if_pos rfl]
    exact .pure _ rfl
  rw [if_neg (fun h => by cases h)] at hW
  have p2 := rtwo_c op
  have p1 := one_fold op
  by_cases c3 : op = 1
  · subst c3
    have c0 : c = 0 := hc0 rfl (by decide)
    subst c0
    rw [if_pos rfl] at hW
    by_cases c4 : a < 0
    · simp (maxSteps := 4000000) only [↓packA, ↓reduceIte, packB, pureOp, quietOp, loadOp, quietB, fr0, cellsK, implies_true, ite_true, ite_false, eq_self, ne_eq, reduceCtorEq, Nat.reduceLT, Nat.reduceLeDiff, Nat.reduceAdd, Nat.reduceMul, Nat.reduceBEq, Nat.reduceEqDiff, Int.reduceToNat, Int.reduceLT, Int.reduceLE, Nat.reduceSub, pl41, ft1, ft2, ft3, ft4, ft57, ft59, ft61, ft63, ft109, Nd.V, Nd.cells, c4, concA, Int.reduceAdd, Int.reduceSub, Int.reduceNeg, Int.reduceMul, Int.reduceEq, Int.reduceBEq, Int.reduceBNe]
      rw [hW, if_pos (.inl c4)]
      exact .pure _ rfl
    · by_cases c5 : vars ≤ a
      · have r5 : a ≥ vars := c5
        simp (maxSteps := 4000000) only [↓packA, ↓reduceIte, packB, pureOp, quietOp, loadOp, quietB, fr0, cellsK, implies_true, ite_true, ite_false, eq_self, ne_eq, reduceCtorEq, Nat.reduceLT, Nat.reduceLeDiff, Nat.reduceAdd, Nat.reduceMul, Nat.reduceBEq, Nat.reduceEqDiff, Int.reduceToNat, Int.reduceLT, Int.reduceLE, Nat.reduceSub, pl41, ft1, ft2, ft3, ft4, ft57, ft59, ft61, ft63, ft109, Nd.V, Nd.cells, c4, r5, concA, Int.reduceAdd, Int.reduceSub, Int.reduceNeg, Int.reduceMul, Int.reduceEq, Int.reduceBEq, Int.reduceBNe]
        rw [hW, if_pos (.inr c5)]
        exact .pure _ rfl
      · have r5 : ¬ a ≥ vars := c5
        rw [if_neg (by omega)] at hW
        subst hW
        simp (maxSteps := 4000000) only [↓packA, ↓reduceIte, packB, pureOp, quietOp, loadOp, quietB, fr0, cellsK, implies_true, ite_true, ite_false, eq_self, ne_eq, reduceCtorEq, Nat.reduceLT, Nat.reduceLeDiff, Nat.reduceAdd, Nat.reduceMul, Nat.reduceBEq, Nat.reduceEqDiff, Int.reduceToNat, Int.reduceLT, Int.reduceLE, Nat.reduceSub, pl41, ft1, ft2, ft3, ft4, ft57, ft59, ft61, ft63, ft109, Nd.V, Nd.cells, c4, r5, concA, Int.reduceAdd, Int.reduceSub, Int.reduceNeg, Int.reduceMul, Int.reduceEq, Int.reduceBEq, Int.reduceBNe]
        refine acalls_pure p1 rfl ?_
        rw [show one 1 = false from rfl]
        simp (maxSteps := 4000000) only [↓packA, ↓reduceIte, packB, pureOp, quietOp, loadOp, quietB, fr0, cellsK, implies_true, ite_true, ite_false, eq_self, ne_eq, reduceCtorEq, Nat.reduceLT, Nat.reduceLeDiff, Nat.reduceAdd, Nat.reduceMul, Nat.reduceBEq, Nat.reduceEqDiff, Int.reduceToNat, Int.reduceLT, Int.reduceLE, Nat.reduceSub, pl41, ft1, ft2, ft3, ft4, ft57, ft59, ft61, ft63, ft109, Nd.V, Nd.cells, c4, r5, concA, Int.reduceAdd, Int.reduceSub, Int.reduceNeg, Int.reduceMul, Int.reduceEq, Int.reduceBEq, Int.reduceBNe]
        refine acalls_pure p2 rfl ?_
        rw [show two 1 = false from rfl]
        simp (maxSteps := 4000000) only [↓packA, ↓reduceIte, packB, pureOp, quietOp, loadOp, quietB, fr0, cellsK, implies_true, ite_true, ite_false, eq_self, ne_eq, reduceCtorEq, Nat.reduceLT, Nat.reduceLeDiff, Nat.reduceAdd, Nat.reduceMul, Nat.reduceBEq, Nat.reduceEqDiff, Int.reduceToNat, Int.reduceLT, Int.reduceLE, Nat.reduceSub, pl41, ft1, ft2, ft3, ft4, ft57, ft59, ft61, ft63, ft109, Nd.V, Nd.cells, c4, r5, concA, Int.reduceAdd, Int.reduceSub, Int.reduceNeg, Int.reduceMul, Int.reduceEq, Int.reduceBEq, Int.reduceBNe]
        refine acalls_pure p2 rfl ?_
        rw [show two 1 = false from rfl]
        simp (maxSteps := 4000000) only [↓packA, ↓reduceIte, packB, pureOp, quietOp, loadOp, quietB, fr0, cellsK, implies_true, ite_true, ite_false, eq_self, ne_eq, reduceCtorEq, Nat.reduceLT, Nat.reduceLeDiff, Nat.reduceAdd, Nat.reduceMul, Nat.reduceBEq, Nat.reduceEqDiff, Int.reduceToNat, Int.reduceLT, Int.reduceLE, Nat.reduceSub, pl41, ft1, ft2, ft3, ft4, ft57, ft59, ft61, ft63, ft109, Nd.V, Nd.cells, c4, r5, concA, Int.reduceAdd, Int.reduceSub, Int.reduceNeg, Int.reduceMul, Int.reduceEq, Int.reduceBEq, Int.reduceBNe]
        exact .pure _ rfl
  rw [if_neg c3] at hW
  by_cases c4 : op = 2
  · subst c4
    have c0 : c = 0 := hc0 rfl (by decide)
    subst c0
    rw [if_pos rfl] at hW
    simp (maxSteps := 4000000) only [↓packA, ↓reduceIte, packB, pureOp, quietOp, loadOp, quietB, fr0, cellsK, implies_true, ite_true, ite_false, eq_self, ne_eq, reduceCtorEq, Nat.reduceLT, Nat.reduceLeDiff, Nat.reduceAdd, Nat.reduceMul, Nat.reduceBEq, Nat.reduceEqDiff, Int.reduceToNat, Int.reduceLT, Int.reduceLE, Nat.reduceSub, pl41, ft1, ft2, ft3, ft4, ft57, ft59, ft61, ft63, ft109, Nd.V, Nd.cells, concA, Int.reduceAdd, Int.reduceSub, Int.reduceNeg, Int.reduceMul, Int.reduceEq, Int.reduceBEq, Int.reduceBNe]
    refine acalls_pure hmay rfl ?_
    cases hm : mayB neg num den
    · simp (maxSteps := 4000000) only [↓packA, ↓reduceIte, packB, pureOp, quietOp, loadOp, quietB, fr0, cellsK, implies_true, ite_true, ite_false, eq_self, ne_eq, reduceCtorEq, Nat.reduceLT, Nat.reduceLeDiff, Nat.reduceAdd, Nat.reduceMul, Nat.reduceBEq, Nat.reduceEqDiff, Int.reduceToNat, Int.reduceLT, Int.reduceLE, Nat.reduceSub, pl41, ft1, ft2, ft3, ft4, ft57, ft59, ft61, ft63, ft109, Nd.V, Nd.cells, concA, Int.reduceAdd, Int.reduceSub, Int.reduceNeg, Int.reduceMul, Int.reduceEq, Int.reduceBEq, Int.reduceBNe]
      rw [hW, if_neg (by rw [hm]; decide)]
      exact .pure _ rfl
    · rw [if_pos hm] at hW
      subst hW
      simp (maxSteps := 4000000) only [↓packA, ↓reduceIte, packB, pureOp, quietOp, loadOp, quietB, fr0, cellsK, implies_true, ite_true, ite_false, eq_self, ne_eq, reduceCtorEq, Nat.reduceLT, Nat.reduceLeDiff, Nat.reduceAdd, Nat.reduceMul, Nat.reduceBEq, Nat.reduceEqDiff, Int.reduceToNat, Int.reduceLT, Int.reduceLE, Nat.reduceSub, pl41, ft1, ft2, ft3, ft4, ft57, ft59, ft61, ft63, ft109, Nd.V, Nd.cells, concA, Int.reduceAdd, Int.reduceSub, Int.reduceNeg, Int.reduceMul, Int.reduceEq, Int.reduceBEq, Int.reduceBNe]
      refine acalls_pure p1 rfl ?_
      rw [show one 2 = false from rfl]
      simp (maxSteps := 4000000) only [↓packA, ↓reduceIte, packB, pureOp, quietOp, loadOp, quietB, fr0, cellsK, implies_true, ite_true, ite_false, eq_self, ne_eq, reduceCtorEq, Nat.reduceLT, Nat.reduceLeDiff, Nat.reduceAdd, Nat.reduceMul, Nat.reduceBEq, Nat.reduceEqDiff, Int.reduceToNat, Int.reduceLT, Int.reduceLE, Nat.reduceSub, pl41, ft1, ft2, ft3, ft4, ft57, ft59, ft61, ft63, ft109, Nd.V, Nd.cells, concA, Int.reduceAdd, Int.reduceSub, Int.reduceNeg, Int.reduceMul, Int.reduceEq, Int.reduceBEq, Int.reduceBNe]
      refine acalls_pure p2 rfl ?_
      rw [show two 2 = false from rfl]
      simp (maxSteps := 4000000) only [↓packA, ↓reduceIte, packB, pureOp, quietOp, loadOp, quietB, fr0, cellsK, implies_true, ite_true, ite_false, eq_self, ne_eq, reduceCtorEq, Nat.reduceLT, Nat.reduceLeDiff, Nat.reduceAdd, Nat.reduceMul, Nat.reduceBEq, Nat.reduceEqDiff, Int.reduceToNat, Int.reduceLT, Int.reduceLE, Nat.reduceSub, pl41, ft1, ft2, ft3, ft4, ft57, ft59, ft61, ft63, ft109, Nd.V, Nd.cells, concA, Int.reduceAdd, Int.reduceSub, Int.reduceNeg, Int.reduceMul, Int.reduceEq, Int.reduceBEq, Int.reduceBNe]
      refine acalls_pure p2 rfl ?_
      rw [show two 2 = false from rfl]
      simp (maxSteps := 4000000) only [↓packA, ↓reduceIte, packB, pureOp, quietOp, loadOp, quietB, fr0, cellsK, implies_true, ite_true, ite_false, eq_self, ne_eq, reduceCtorEq, Nat.reduceLT, Nat.reduceLeDiff, Nat.reduceAdd, Nat.reduceMul, Nat.reduceBEq, Nat.reduceEqDiff, Int.reduceToNat, Int.reduceLT, Int.reduceLE, Nat.reduceSub, pl41, ft1, ft2, ft3, ft4, ft57, ft59, ft61, ft63, ft109, Nd.V, Nd.cells, concA, Int.reduceAdd, Int.reduceSub, Int.reduceNeg, Int.reduceMul, Int.reduceEq, Int.reduceBEq, Int.reduceBNe]
      exact .pure _ rfl
  rw [if_neg c4] at hW
  simp (maxSteps := 4000000) only [↓packA, ↓reduceIte, packB, pureOp, quietOp, loadOp, quietB, fr0, cellsK, implies_true, ite_true, ite_false, eq_self, ne_eq, reduceCtorEq, Nat.reduceLT, Nat.reduceLeDiff, Nat.reduceAdd, Nat.reduceMul, Nat.reduceBEq, Nat.reduceEqDiff, Int.reduceToNat, Int.reduceLT, Int.reduceLE, Nat.reduceSub, pl41, ft1, ft2, ft3, ft4, ft57, ft59, ft61, ft63, ft109, Nd.V, Nd.cells, c1, r2, c3, c4, concA, Int.reduceAdd, Int.reduceSub, Int.reduceNeg, Int.reduceMul, Int.reduceEq, Int.reduceBEq, Int.reduceBNe]
  refine acalls_pure p1 rfl ?_
  have h12 : one op = true ∨ two op = true := by
    unfold one two
    rw [decide_eq_true_iff, decide_eq_true_iff]
    omega
  generalize two op = to at *
  generalize one op = on at *
  cases on
  · obtain rfl : to = true := by simpa using h12
    simp (maxSteps := 4000000) only [↓packA, ↓reduceIte, packB, pureOp, quietOp, loadOp, quietB, fr0, cellsK, implies_true, ite_true, ite_false, eq_self, ne_eq, reduceCtorEq, Nat.reduceLT, Nat.reduceLeDiff, Nat.reduceAdd, Nat.reduceMul, Nat.reduceBEq, Nat.reduceEqDiff, Int.reduceToNat, Int.reduceLT, Int.reduceLE, Nat.reduceSub, pl41, ft1, ft2, ft3, ft4, ft57, ft59, ft61, ft63, ft109, Nd.V, Nd.cells, c1, r2, c3, c4, concA, Int.reduceAdd, Int.reduceSub, Int.reduceNeg, Int.reduceMul, Int.reduceEq, Int.reduceBEq, Int.reduceBNe]
    refine acalls_pure p2 rfl ?_
    by_cases c5 : a < 0
    · simp (maxSteps := 4000000) only [↓packA, ↓reduceIte, packB, pureOp, quietOp, loadOp, quietB, fr0, cellsK, implies_true, ite_true, ite_false, eq_self, ne_eq, reduceCtorEq, Nat.reduceLT, Nat.reduceLeDiff, Nat.reduceAdd, Nat.reduceMul, Nat.reduceBEq, Nat.reduceEqDiff, Int.reduceToNat, Int.reduceLT, Int.reduceLE, Nat.reduceSub, pl41, ft1, ft2, ft3, ft4, ft57, ft59, ft61, ft63, ft109, Nd.V, Nd.cells, c1, r2, c3, c4, c5, concA, Int.reduceAdd, Int.reduceSub, Int.reduceNeg, Int.reduceMul, Int.reduceEq, Int.reduceBEq, Int.reduceBNe]
      rw [hW, if_pos (.inl c5)]
      exact .pure _ rfl
    by_cases c6 : i ≤ a
    · have r6 : a ≥ i := c6
      simp (maxSteps := 4000000) only [↓packA, ↓reduceIte, packB, pureOp, quietOp, loadOp, quietB, fr0, cellsK, implies_true, ite_true, ite_false, eq_self, ne_eq, reduceCtorEq, Nat.reduceLT, Nat.reduceLeDiff, Nat.reduceAdd, Nat.reduceMul, Nat.reduceBEq, Nat.reduceEqDiff, Int.reduceToNat, Int.reduceLT, Int.reduceLE, Nat.reduceSub, pl41, ft1, ft2, ft3, ft4, ft57, ft59, ft61, ft63, ft109, Nd.V, Nd.cells, c1, r2, c3, c4, c5, r6, concA, Int.reduceAdd, Int.reduceSub, Int.reduceNeg, Int.reduceMul, Int.reduceEq, Int.reduceBEq, Int.reduceBNe]
      rw [hW, if_pos (.inr c6)]
      exact .pure _ rfl
    have r6 : ¬ a ≥ i := c6
    rw [if_neg (by omega)] at hW
    simp (maxSteps := 4000000) only [↓packA, ↓reduceIte, packB, pureOp, quietOp, loadOp, quietB, fr0, cellsK, implies_true, ite_true, ite_false, eq_self, ne_eq, reduceCtorEq, Nat.reduceLT, Nat.reduceLeDiff, Nat.reduceAdd, Nat.reduceMul, Nat.reduceBEq, Nat.reduceEqDiff, Int.reduceToNat, Int.reduceLT, Int.reduceLE, Nat.reduceSub, pl41, ft1, ft2, ft3, ft4, ft57, ft59, ft61, ft63, ft109, Nd.V, Nd.cells, c1, r2, c3, c4, c5, r6, concA, Int.reduceAdd, Int.reduceSub, Int.reduceNeg, Int.reduceMul, Int.reduceEq, Int.reduceBEq, Int.reduceBNe]
    refine acalls_pure p2 rfl ?_
    by_cases c9 : b < 0
    · simp (maxSteps := 4000000) only [↓packA, ↓reduceIte, packB, pureOp, quietOp, loadOp, quietB, fr0, cellsK, implies_true, ite_true, ite_false, eq_self, ne_eq, reduceCtorEq, Nat.reduceLT, Nat.reduceLeDiff, Nat.reduceAdd, Nat.reduceMul, Nat.reduceBEq, Nat.reduceEqDiff, Int.reduceToNat, Int.reduceLT, Int.reduceLE, Nat.reduceSub, pl41, ft1, ft2, ft3, ft4, ft57, ft59, ft61, ft63, ft109, Nd.V, Nd.cells, c1, r2, c3, c4, c5, r6, c9, concA, Int.reduceAdd, Int.reduceSub, Int.reduceNeg, Int.reduceMul, Int.reduceEq, Int.reduceBEq, Int.reduceBNe]
      rw [hW, if_pos ⟨rfl, .inl c9⟩]
      exact .pure _ rfl
    by_cases c10 : i ≤ b
    · have r10 : b ≥ i := c10
      simp (maxSteps := 4000000) only [↓packA, ↓reduceIte, packB, pureOp, quietOp, loadOp, quietB, fr0, cellsK, implies_true, ite_true, ite_false, eq_self, ne_eq, reduceCtorEq, Nat.reduceLT, Nat.reduceLeDiff, Nat.reduceAdd, Nat.reduceMul, Nat.reduceBEq, Nat.reduceEqDiff, Int.reduceToNat, Int.reduceLT, Int.reduceLE, Nat.reduceSub, pl41, ft1, ft2, ft3, ft4, ft57, ft59, ft61, ft63, ft109, Nd.V, Nd.cells, c1, r2, c3, c4, c5, r6, c9, r10, concA, Int.reduceAdd, Int.reduceSub, Int.reduceNeg, Int.reduceMul, Int.reduceEq, Int.reduceBEq, Int.reduceBNe]
      rw [hW, if_pos ⟨rfl, .inr c10⟩]
      exact .pure _ rfl
    have r10 : ¬ b ≥ i := c10
    rw [if_neg (by omega)] at hW
    by_cases c7 : c < -1024
    · simp (maxSteps := 4000000) only [↓packA, ↓reduceIte, packB, pureOp, quietOp, loadOp, quietB, fr0, cellsK, implies_true, ite_true, ite_false, eq_self, ne_eq, reduceCtorEq, Nat.reduceLT, Nat.reduceLeDiff, Nat.reduceAdd, Nat.reduceMul, Nat.reduceBEq, Nat.reduceEqDiff, Int.reduceToNat, Int.reduceLT, Int.reduceLE, Nat.reduceSub, pl41, ft1, ft2, ft3, ft4, ft57, ft59, ft61, ft63, ft109, Nd.V, Nd.cells, c1, r2, c3, c4, c5, r6, c9, r10, c7, concA, Int.reduceAdd, Int.reduceSub, Int.reduceNeg, Int.reduceMul, Int.reduceEq, Int.reduceBEq, Int.reduceBNe]
      rw [hW, if_pos (.inl c7)]
      exact .pure _ rfl
    by_cases c8 : 1024 < c
    · have r8 : c > 1024 := c8
      simp (maxSteps := 4000000) only [↓packA, ↓reduceIte, packB, pureOp, quietOp, loadOp, quietB, fr0, cellsK, implies_true, ite_true, ite_false, eq_self, ne_eq, reduceCtorEq, Nat.reduceLT, Nat.reduceLeDiff, Nat.reduceAdd, Nat.reduceMul, Nat.reduceBEq, Nat.reduceEqDiff, Int.reduceToNat, Int.reduceLT, Int.reduceLE, Nat.reduceSub, pl41, ft1, ft2, ft3, ft4, ft57, ft59, ft61, ft63, ft109, Nd.V, Nd.cells, c1, r2, c3, c4, c5, r6, c9, r10, c7, r8, concA, Int.reduceAdd, Int.reduceSub, Int.reduceNeg, Int.reduceMul, Int.reduceEq, Int.reduceBEq, Int.reduceBNe]
      rw [hW, if_pos (.inr c8)]
      exact .pure _ rfl
    have r8 : ¬ c > 1024 := c8
    simp (maxSteps := 4000000) only [↓packA, ↓reduceIte, packB, pureOp, quietOp, loadOp, quietB, fr0, cellsK, implies_true, ite_true, ite_false, eq_self, ne_eq, reduceCtorEq, Nat.reduceLT, Nat.reduceLeDiff, Nat.reduceAdd, Nat.reduceMul, Nat.reduceBEq, Nat.reduceEqDiff, Int.reduceToNat, Int.reduceLT, Int.reduceLE, Nat.reduceSub, pl41, ft1, ft2, ft3, ft4, ft57, ft59, ft61, ft63, ft109, Nd.V, Nd.cells, c1, r2, c3, c4, c5, r6, c9, r10, c7, r8, concA, Int.reduceAdd, Int.reduceSub, Int.reduceNeg, Int.reduceMul, Int.reduceEq, Int.reduceBEq, Int.reduceBNe]
    rw [hW, if_neg (by omega)]
    exact .pure _ rfl
  · by_cases c5 : a < 0
    · simp (maxSteps := 4000000) only [↓packA, ↓reduceIte, packB, pureOp, quietOp, loadOp, quietB, fr0, cellsK, implies_true, ite_true, ite_false, eq_self, ne_eq, reduceCtorEq, Nat.reduceLT, Nat.reduceLeDiff, Nat.reduceAdd, Nat.reduceMul, Nat.reduceBEq, Nat.reduceEqDiff, Int.reduceToNat, Int.reduceLT, Int.reduceLE, Nat.reduceSub, pl41, ft1, ft2, ft3, ft4, ft57, ft59, ft61, ft63, ft109, Nd.V, Nd.cells, c1, r2, c3, c4, c5, concA, Int.reduceAdd, Int.reduceSub, Int.reduceNeg, Int.reduceMul, Int.reduceEq, Int.reduceBEq, Int.reduceBNe]
      rw [hW, if_pos (.inl c5)]
      exact .pure _ rfl
    by_cases c6 : i ≤ a
    · have r6 : a ≥ i := c6
      simp (maxSteps := 4000000) only [↓packA, ↓reduceIte, packB, pureOp, quietOp, loadOp, quietB, fr0, cellsK, implies_true, ite_true, ite_false, eq_self, ne_eq, reduceCtorEq, Nat.reduceLT, Nat.reduceLeDiff, Nat.reduceAdd, Nat.reduceMul, Nat.reduceBEq, Nat.reduceEqDiff, Int.reduceToNat, Int.reduceLT, Int.reduceLE, Nat.reduceSub, pl41, ft1, ft2, ft3, ft4, ft57, ft59, ft61, ft63, ft109, Nd.V, Nd.cells, c1, r2, c3, c4, c5, r6, concA, Int.reduceAdd, Int.reduceSub, Int.reduceNeg, Int.reduceMul, Int.reduceEq, Int.reduceBEq, Int.reduceBNe]
      rw [hW, if_pos (.inr c6)]
      exact .pure _ rfl
    have r6 : ¬ a ≥ i := c6
    rw [if_neg (by omega)] at hW
    simp (maxSteps := 4000000) only [↓packA, ↓reduceIte, packB, pureOp, quietOp, loadOp, quietB, fr0, cellsK, implies_true, ite_true, ite_false, eq_self, ne_eq, reduceCtorEq, Nat.reduceLT, Nat.reduceLeDiff, Nat.reduceAdd, Nat.reduceMul, Nat.reduceBEq, Nat.reduceEqDiff, Int.reduceToNat, Int.reduceLT, Int.reduceLE, Nat.reduceSub, pl41, ft1, ft2, ft3, ft4, ft57, ft59, ft61, ft63, ft109, Nd.V, Nd.cells, c1, r2, c3, c4, c5, r6, concA, Int.reduceAdd, Int.reduceSub, Int.reduceNeg, Int.reduceMul, Int.reduceEq, Int.reduceBEq, Int.reduceBNe]
    refine acalls_pure p2 rfl ?_
    cases to
    · rw [if_neg (fun h => by cases h.1)] at hW
      by_cases c7 : c < -1024
      · simp (maxSteps := 4000000) only [↓packA, ↓reduceIte, packB, pureOp, quietOp, loadOp, quietB, fr0, cellsK, implies_true, ite_true, ite_false, eq_self, ne_eq, reduceCtorEq, Nat.reduceLT, Nat.reduceLeDiff, Nat.reduceAdd, Nat.reduceMul, Nat.reduceBEq, Nat.reduceEqDiff, Int.reduceToNat, Int.reduceLT, Int.reduceLE, Nat.reduceSub, pl41, ft1, ft2, ft3, ft4, ft57, ft59, ft61, ft63, ft109, Nd.V, Nd.cells, c1, r2, c3, c4, c5, r6, c7, concA, Int.reduceAdd, Int.reduceSub, Int.reduceNeg, Int.reduceMul, Int.reduceEq, Int.reduceBEq, Int.reduceBNe]
        rw [hW, if_pos (.inl c7)]
        exact .pure _ rfl
      by_cases c8 : 1024 < c
      · have r8 : c > 1024 := c8
        simp (maxSteps := 4000000) only [↓packA, ↓reduceIte, packB, pureOp, quietOp, loadOp, quietB, fr0, cellsK, implies_true, ite_true, ite_false, eq_self, ne_eq, reduceCtorEq, Nat.reduceLT, Nat.reduceLeDiff, Nat.reduceAdd, Nat.reduceMul, Nat.reduceBEq, Nat.reduceEqDiff, Int.reduceToNat, Int.reduceLT, Int.reduceLE, Nat.reduceSub, pl41, ft1, ft2, ft3, ft4, ft57, ft59, ft61, ft63, ft109, Nd.V, Nd.cells, c1, r2, c3, c4, c5, r6, c7, r8, concA, Int.reduceAdd, Int.reduceSub, Int.reduceNeg, Int.reduceMul, Int.reduceEq, Int.reduceBEq, Int.reduceBNe]
        rw [hW, if_pos (.inr c8)]
        exact .pure _ rfl
      have r8 : ¬ c > 1024 := c8
      simp (maxSteps := 4000000) only [↓packA, ↓reduceIte, packB, pureOp, quietOp, loadOp, quietB, fr0, cellsK, implies_true, ite_true, ite_false, eq_self, ne_eq, reduceCtorEq, Nat.reduceLT, Nat.reduceLeDiff, Nat.reduceAdd, Nat.reduceMul, Nat.reduceBEq, Nat.reduceEqDiff, Int.reduceToNat, Int.reduceLT, Int.reduceLE, Nat.reduceSub, pl41, ft1, ft2, ft3, ft4, ft57, ft59, ft61, ft63, ft109, Nd.V, Nd.cells, c1, r2, c3, c4, c5, r6, c7, r8, concA, Int.reduceAdd, Int.reduceSub, Int.reduceNeg, Int.reduceMul, Int.reduceEq, Int.reduceBEq, Int.reduceBNe]
      rw [hW, if_neg (by omega)]
      exact .pure _ rfl
    · by_cases c9 : b < 0
      · simp (maxSteps := 4000000) only [↓packA, ↓reduceIte, packB, pureOp, quietOp, loadOp, quietB, fr0, cellsK, implies_true, ite_true, ite_false, eq_self, ne_eq, reduceCtorEq, Nat.reduceLT, Nat.reduceLeDiff, Nat.reduceAdd, Nat.reduceMul, Nat.reduceBEq, Nat.reduceEqDiff, Int.reduceToNat, Int.reduceLT, Int.reduceLE, Nat.reduceSub, pl41, ft1, ft2, ft3, ft4, ft57, ft59, ft61, ft63, ft109, Nd.V, Nd.cells, c1, r2, c3, c4, c5, r6, c9, concA, Int.reduceAdd, Int.reduceSub, Int.reduceNeg, Int.reduceMul, Int.reduceEq, Int.reduceBEq, Int.reduceBNe]
        rw [hW, if_pos ⟨rfl, .inl c9⟩]
        exact .pure _ rfl
      by_cases c10 : i ≤ b
      · have r10 : b ≥ i := c10
        simp (maxSteps := 4000000) only [↓packA, ↓reduceIte, packB, pureOp, quietOp, loadOp, quietB, fr0, cellsK, implies_true, ite_true, ite_false, eq_self, ne_eq, reduceCtorEq, Nat.reduceLT, Nat.reduceLeDiff, Nat.reduceAdd, Nat.reduceMul, Nat.reduceBEq, Nat.reduceEqDiff, Int.reduceToNat, Int.reduceLT, Int.reduceLE, Nat.reduceSub, pl41, ft1, ft2, ft3, ft4, ft57, ft59, ft61, ft63, ft109, Nd.V, Nd.cells, c1, r2, c3, c4, c5, r6, c9, r10, concA, Int.reduceAdd, Int.reduceSub, Int.reduceNeg, Int.reduceMul, Int.reduceEq, Int.reduceBEq, Int.reduceBNe]
        rw [hW, if_pos ⟨rfl, .inr c10⟩]
        exact .pure _ rfl
      have r10 : ¬ b ≥ i := c10
      rw [if_neg (by omega)] at hW
      by_cases c7 : c < -1024
      · simp (maxSteps := 4000000) only [↓packA, ↓reduceIte, packB, pureOp, quietOp, loadOp, quietB, fr0, cellsK, implies_true, ite_true, ite_false, eq_self, ne_eq, reduceCtorEq, Nat.reduceLT, Nat.reduceLeDiff, Nat.reduceAdd, Nat.reduceMul, Nat.reduceBEq, Nat.reduceEqDiff, Int.reduceToNat, Int.reduceLT, Int.reduceLE, Nat.reduceSub, pl41, ft1, ft2, ft3, ft4, ft57, ft59, ft61, ft63, ft109, Nd.V, Nd.cells, c1, r2, c3, c4, c5, r6, c9, r10, c7, concA, Int.reduceAdd, Int.reduceSub, Int.reduceNeg, Int.reduceMul, Int.reduceEq, Int.reduceBEq, Int.reduceBNe]
        rw [hW, if_pos (.inl c7)]
        exact .pure _ rfl
      by_cases c8 : 1024 < c
      · have r8 : c > 1024 := c8
        simp (maxSteps := 4000000) only [↓packA, ↓reduceIte, packB, pureOp, quietOp, loadOp, quietB, fr0, cellsK, implies_true, ite_true, ite_false, eq_self, ne_eq, reduceCtorEq, Nat.reduceLT, Nat.reduceLeDiff, Nat.reduceAdd, Nat.reduceMul, Nat.reduceBEq, Nat.reduceEqDiff, Int.reduceToNat, Int.reduceLT, Int.reduceLE, Nat.reduceSub, pl41, ft1, ft2, ft3, ft4, ft57, ft59, ft61, ft63, ft109, Nd.V, Nd.cells, c1, r2, c3, c4, c5, r6, c9, r10, c7, r8, concA, Int.reduceAdd, Int.reduceSub, Int.reduceNeg, Int.reduceMul, Int.reduceEq, Int.reduceBEq, Int.reduceBNe]
        rw [hW, if_pos (.inr c8)]
        exact .pure _ rfl
      have r8 : ¬ c > 1024 := c8
      simp (maxSteps := 4000000) only [↓packA, ↓reduceIte, packB, pureOp, quietOp, loadOp, quietB, fr0, cellsK, implies_true, ite_true, ite_false, eq_self, ne_eq, reduceCtorEq, Nat.reduceLT, Nat.reduceLeDiff, Nat.reduceAdd, Nat.reduceMul, Nat.reduceBEq, Nat.reduceEqDiff, Int.reduceToNat, Int.reduceLT, Int.reduceLE, Nat.reduceSub, pl41, ft1, ft2, ft3, ft4, ft57, ft59, ft61, ft63, ft109, Nd.V, Nd.cells, c1, r2, c3, c4, c5, r6, c9, r10, c7, r8, concA, Int.reduceAdd, Int.reduceSub, Int.reduceNeg, Int.reduceMul, Int.reduceEq, Int.reduceBEq, Int.reduceBNe]
      rw [hW, if_neg (by omega)]
      exact .pure _ rfl
end Go.Proofs.YtclbobielhllmaaGreat
end
section
namespace Go.Proofs.YtclbobielhllmaaGreat
open Go Go.AL
set_option linter.unusedVariables false
set_option linter.unusedSimpArgs false
structure Tp where
  vars : Int
  ns : List Nd
  outs : List Int
def Tp.V (t : Tp) : AV := .agg [.int .i64 t.vars, .isl 7 (List.map Nd.cells t.ns), ints t.outs]
def Tp.goO (t : Tp) : Nat → Int × Int
  | 0 => (0, 0)
  | r + 1 => if t.outs.getD (t.outs.length - (r + 1)) default < 0 ∨ (t.ns.length : Int) ≤ t.outs.getD (t.outs.length - (r + 1)) default then (t.ns.length + (t.outs.length - (r + 1) : Nat), 108) else t.goO r
def Tp.goN (t : Tp) : Nat → Int × Int
  | 0 => t.goO t.outs.length
  | r + 1 => if (t.ns.getD (t.ns.length - (r + 1)) default).wrong t.vars (t.ns.length - (r + 1) : Nat) ≠ 0 then ((t.ns.length - (r + 1) : Nat), (t.ns.getD (t.ns.length - (r + 1)) default).wrong t.vars (t.ns.length - (r + 1) : Nat)) else t.goN r
def Tp.check (t : Tp) : Int × Int :=
  if t.vars < 0 ∨ 64 < t.vars then (-1, 100) else if 2048 < t.ns.length then (-1, 101) else if t.outs.length = 0 ∨ 64 < t.outs.length then (-1, 102) else t.goN t.ns.length
structure Tp.Ok (t : Tp) : Prop where
  ns : ∀ n, n ∈ t.ns → n.Ok
set_option maxHeartbeats 4000000 in
set_option maxRecDepth 100000 in
theorem pcheck_c (t : Tp) (ht : t.Ok) : APure Tryz.prog 34 [t.V] (.tup [.int .i64 t.check.1, .int .i64 t.check.2]) := by
  refine apure_of (wp34 rfl rfl ?_)
  obtain ⟨C, hC⟩ : ∃ C, C = t.check := ⟨_, rfl⟩
  rw [← hC]
  unfold Tp.check at hC
  obtain ⟨vars, ns, outs⟩ := t
  simp only at hC
  by_cases c1 : vars < 0
  · rw [if_pos (.inl c1)] at hC
    subst hC
    simp (maxSteps := 4000000) only [↓packA, ↓reduceIte, packB, pureOp, quietOp, loadOp, quietB, fr0, cellsK, implies_true, ite_true, ite_false, eq_self, ne_eq, reduceCtorEq, Nat.reduceLT, Nat.reduceLeDiff, Nat.reduceAdd, Nat.reduceMul, Nat.reduceBEq, Nat.reduceEqDiff, Int.reduceToNat, Int.reduceLT, Int.reduceLE, Nat.reduceSub, pl34, ft1, ft2, ft3, ft22, ft23, ft25, ft38, ft57, ft61, ft63, Tp.V, ints, c1, concA, Int.reduceAdd, Int.reduceSub, Int.reduceNeg, Int.reduceMul, Int.reduceEq, Int.reduceBEq, Int.reduceBNe]
    exact .pure _ rfl
  by_cases c2 : 64 < vars
  · rw [if_pos (.inr c2)] at hC
    subst hC
    have r2 : vars > 64 := c2
    simp (maxSteps := 4000000) only [↓packA, ↓reduceIte, packB, pureOp, quietOp, loadOp, quietB, fr0, cellsK, implies_true, ite_true, ite_false, eq_self, ne_eq, reduceCtorEq, Nat.reduceLT, Nat.reduceLeDiff, Nat.reduceAdd, Nat.reduceMul, Nat.reduceBEq, Nat.reduceEqDiff, Int.reduceToNat, Int.reduceLT, Int.reduceLE, Nat.reduceSub, pl34, ft1, ft2, ft3, ft22, ft23, ft25, ft38, ft57, ft61, ft63, Tp.V, ints, c1, r2, concA, Int.reduceAdd, Int.reduceSub, Int.reduceNeg, Int.reduceMul, Int.reduceEq, Int.reduceBEq, Int.reduceBNe]
    exact .pure _ rfl
  have r2 : ¬ vars > 64 := c2
  rw [if_neg (by omega)] at hC
  by_cases c3 : 2048 < ns.length
  · rw [if_pos c3] at hC
    subst hC
    have r3 : (ns.length : Int) > 2048 := by omega
    simp (maxSteps := 4000000) only [↓packA, ↓reduceIte, packB, pureOp, quietOp, loadOp, quietB, fr0, cellsK, implies_true, ite_true, ite_false, eq_self, ne_eq, reduceCtorEq, Nat.reduceLT, Nat.reduceLeDiff, Nat.reduceAdd, Nat.reduceMul, Nat.reduceBEq, Nat.reduceEqDiff, Int.reduceToNat, Int.reduceLT, Int.reduceLE, Nat.reduceSub, pl34, ft1, ft2, ft3, ft22, ft23, ft25, ft38, ft57, ft61, ft63, Tp.V, ints, c1, r2, r3, List.length_map, concA, Int.reduceAdd, Int.reduceSub, Int.reduceNeg, Int.reduceMul, Int.reduceEq, Int.reduceBEq, Int.reduceBNe]
    exact .pure _ rfl
  have r3 : ¬ (ns.length : Int) > 2048 := by omega
  rw [if_neg c3] at hC
  by_cases c4 : outs.length = 0
  · rw [if_pos (.inl c4)] at hC
    subst hC
    have r4 : (outs.length : Int) = 0 := by omega
    simp (maxSteps := 4000000) only [↓packA, ↓reduceIte, packB, pureOp, quietOp, loadOp, quietB, fr0, cellsK, implies_true, ite_true, ite_false, eq_self, ne_eq, reduceCtorEq, Nat.reduceLT, Nat.reduceLeDiff, Nat.reduceAdd, Nat.reduceMul, Nat.reduceBEq, Nat.reduceEqDiff, Int.reduceToNat, Int.reduceLT, Int.reduceLE, Nat.reduceSub, pl34, ft1, ft2, ft3, ft22, ft23, ft25, ft38, ft57, ft61, ft63, Tp.V, ints, c1, r2, r3, r4, List.length_map, concA, Int.reduceAdd, Int.reduceSub, Int.reduceNeg, Int.reduceMul, Int.reduceEq, Int.reduceBEq, Int.reduceBNe]
    exact .pure _ rfl
  have r4 : ¬ (outs.length : Int) = 0 := by omega
  by_cases c5 : 64 < outs.length
  · rw [if_pos (.inr c5)] at hC
    subst hC
    have r5 : (outs.length : Int) > 64 := by omega
    simp (maxSteps := 4000000) only [↓packA, ↓reduceIte, packB, pureOp, quietOp, loadOp, quietB, fr0, cellsK, implies_true, ite_true, ite_false, eq_self, ne_eq, reduceCtorEq, Nat.reduceLT, Nat.reduceLeDiff, Nat.reduceAdd, Nat.reduceMul, Nat.reduceBEq, Nat.reduceEqDiff, Int.reduceToNat, Int.reduceLT, Int.reduceLE, Nat.reduceSub, pl34, ft1, ft2, ft3, ft22, ft23, ft25, ft38, ft57, ft61, ft63, Tp.V, ints, c1, r2, r3, r4, r5, List.length_map, concA, Int.reduceAdd, Int.reduceSub, Int.reduceNeg, Int.reduceMul, Int.reduceEq, Int.reduceBEq, Int.reduceBNe]
    exact .pure _ rfl
  have r5 : ¬ (outs.length : Int) > 64 := by omega
  rw [if_neg (by omega)] at hC
  simp (maxSteps := 4000000) only [↓packA, ↓reduceIte, packB, pureOp, quietOp, loadOp, quietB, fr0, cellsK, implies_true, ite_true, ite_false, eq_self, ne_eq, reduceCtorEq, Nat.reduceLT, Nat.reduceLeDiff, Nat.reduceAdd, Nat.reduceMul, Nat.reduceBEq, Nat.reduceEqDiff, Int.reduceToNat, Int.reduceLT, Int.reduceLE, Nat.reduceSub, pl34, ft1, ft2, ft3, ft22, ft23, ft25, ft38, ft57, ft61, ft63, Tp.V, ints, c1, r2, r3, r4, r5, List.length_map, concA, Int.reduceAdd, Int.reduceSub, Int.reduceNeg, Int.reduceMul, Int.reduceEq, Int.reduceBEq, Int.reduceBNe]
  have hns := ht.ns
  simp only at hns
  refine LoopK.intro (fun x w g => ∃ k : Nat, x = ns.length - k ∧ k ≤ ns.length ∧ C = Tp.goN ⟨vars, ns, outs⟩ (ns.length - k) ∧ w 1 = .op 0 3 0 0 ∧ w 35 = .isl 7 (List.map Nd.cells ns) ∧ w 36 = .int .i64 ns.length ∧ w 37 = .int .i64 k ∧ g[0]? = some (.arr 3 [[.int .i64 vars, .isl 7 (List.map Nd.cells ns), .isl 1 (List.map intE outs)]] true)) ns.length ⟨0, rfl, by omega, hC, ?_, ?_, ?_, ?_, rfl⟩ ?_
  · simp (maxSteps := 4000000) only [↓packA, ↓reduceIte, packB, pureOp, quietOp, loadOp, quietB, fr0, cellsK, implies_true, ite_true, ite_false, eq_self, ne_eq, reduceCtorEq, Nat.reduceLT, Nat.reduceLeDiff, Nat.reduceAdd, Nat.reduceMul, Nat.reduceBEq, Nat.reduceEqDiff, Int.reduceToNat, Int.reduceLT, Int.reduceLE, Nat.reduceSub, pl34, ft1, ft2, ft3, ft22, ft23, ft25, ft38, ft57, ft61, ft63]
  · simp (maxSteps := 4000000) only [↓packA, ↓reduceIte, packB, pureOp, quietOp, loadOp, quietB, fr0, cellsK, implies_true, ite_true, ite_false, eq_self, ne_eq, reduceCtorEq, Nat.reduceLT, Nat.reduceLeDiff, Nat.reduceAdd, Nat.reduceMul, Nat.reduceBEq, Nat.reduceEqDiff, Int.reduceToNat, Int.reduceLT, Int.reduceLE, Nat.reduceSub, pl34, ft1, ft2, ft3, ft22, ft23, ft25, ft38, ft57, ft61, ft63]
  · simp (maxSteps := 4000000) only [↓packA, ↓reduceIte, packB, pureOp, quietOp, loadOp, quietB, fr0, cellsK, implies_true, ite_true, ite_false, eq_self, ne_eq, reduceCtorEq, Nat.reduceLT, Nat.reduceLeDiff, Nat.reduceAdd, Nat.reduceMul, Nat.reduceBEq, Nat.reduceEqDiff, Int.reduceToNat, Int.reduceLT, Int.reduceLE, Nat.reduceSub, pl34, ft1, ft2, ft3, ft22, ft23, ft25, ft38, ft57, ft61, ft63, List.length_map]
  · simp (maxSteps := 4000000) only [↓packA, ↓reduceIte, packB, pureOp, quietOp, loadOp, quietB, fr0, cellsK, implies_true, ite_true, ite_false, eq_self, ne_eq, reduceCtorEq, Nat.reduceLT, Nat.reduceLeDiff, Nat.reduceAdd, Nat.reduceMul, Nat.reduceBEq, Nat.reduceEqDiff, Int.reduceToNat, Int.reduceLT, Int.reduceLE, Nat.reduceSub, pl34, ft1, ft2, ft3, ft22, ft23, ft25, ft38, ft57, ft61, ft63, Int.natCast_zero]
  rintro x w g ⟨k, rfl, hk, hC, a1, a35, a36, a37, hg⟩
  by_cases c : k < ns.length
  · have r1 : (k : Int) < (ns.length : Int) := by omega
    obtain ⟨n, hn⟩ : ∃ n, n = ns.getD k default := ⟨_, rfl⟩
    have hnk : ns[k]? = some n := by rw [hn, List.getD_eq_getElem?_getD, List.getElem?_eq_getElem c]; rfl
    have rk : (List.map Nd.cells ns)[k]? = some (Nd.cells n) := by rw [List.getElem?_map, hnk]; rfl
    have hnok : n.Ok := hns n (List.mem_of_getElem? hnk)
    have hp := pnode_c n hnok vars k
    obtain ⟨r, hr⟩ : ∃ r, ns.length - k = r + 1 := ⟨ns.length - k - 1, by omega⟩
    have hC2 : C = if n.wrong vars k ≠ 0 then ((k : Int), n.wrong vars k) else Tp.goN ⟨vars, ns, outs⟩ r := by
      rw [hC, hr]
      show (if (ns.getD (ns.length - (r + 1)) default).wrong vars (ns.length - (r + 1) : Nat) ≠ 0 then (((ns.length - (r + 1) : Nat) : Int), (ns.getD (ns.length - (r + 1)) default).wrong vars (ns.length - (r + 1) : Nat)) else Tp.goN ⟨vars, ns, outs⟩ r) = _
      rw [show ns.length - (r + 1) = k by omega, ← hn]
    obtain ⟨M, hM⟩ : ∃ M, g.length = M := ⟨_, rfl⟩
    have rM : ∀ o, (g ++ [o])[M]? = some o := fun o => by rw [List.getElem?_append_right (by omega)]; simp [hM]
    have sM : ∀ o o', (g ++ [o]).set M o' = g ++ [o'] := fun o o' => by rw [List.set_append_right _ _ (by omega)]; simp [hM]
    have rg : ∀ o, (g ++ [o])[0]? = some (.arr 3 [[.int .i64 vars, .isl 7 (List.map Nd.cells ns), .isl 1 (List.map intE outs)]] true) := fun o => by rw [List.getElem?_append_left (List.getElem?_eq_some_iff.1 hg).1]; exact hg
    simp (maxSteps := 4000000) only [↓packA, ↓reduceIte, packB, pureOp, quietOp, loadOp, quietB, fr0, cellsK, implies_true, ite_true, ite_false, eq_self, ne_eq, reduceCtorEq, Nat.reduceLT, Nat.reduceLeDiff, Nat.reduceAdd, Nat.reduceMul, Nat.reduceBEq, Nat.reduceEqDiff, Int.reduceToNat, Int.reduceLT, Int.reduceLE, Nat.reduceSub, pl34, ft1, ft2, ft3, ft22, ft23, ft25, ft38, ft57, ft61, ft63, a1, a35, a36, a37, r1, rk, hM, rM, sM, rg, hg, Nd.cells, concA, Int.reduceAdd, Int.reduceSub, Int.reduceNeg, Int.reduceMul, Int.reduceEq, Int.reduceBEq, Int.reduceBNe]
    refine ⟨by omega, acalls_pure hp rfl ?_⟩
    by_cases cw : n.wrong vars k = 0
    · rw [if_neg (by omega)] at hC2
      rw [cw]
      simp (maxSteps := 4000000) only [↓packA, ↓reduceIte, packB, pureOp, quietOp, loadOp, quietB, fr0, cellsK, implies_true, ite_true, ite_false, eq_self, ne_eq, reduceCtorEq, Nat.reduceLT, Nat.reduceLeDiff, Nat.reduceAdd, Nat.reduceMul, Nat.reduceBEq, Nat.reduceEqDiff, Int.reduceToNat, Int.reduceLT, Int.reduceLE, Nat.reduceSub, pl34, ft1, ft2, ft3, ft22, ft23, ft25, ft38, ft57, ft61, ft63, a1, a35, a36, a37, r1, rk, hM, rM, sM, rg, hg, Nd.cells, concA, Int.reduceAdd, Int.reduceSub, Int.reduceNeg, Int.reduceMul, Int.reduceEq, Int.reduceBEq, Int.reduceBNe]
      exact ⟨by omega, .inl ⟨ns.length - (k + 1), by omega, k + 1, rfl, by omega, by rw [hC2]; congr 1; omega, by omega⟩⟩
    · rw [if_pos cw] at hC2
      subst hC2
      simp (maxSteps := 4000000) only [↓packA, ↓reduceIte, packB, pureOp, quietOp, loadOp, quietB, fr0, cellsK, implies_true, ite_true, ite_false, eq_self, ne_eq, reduceCtorEq, Nat.reduceLT, Nat.reduceLeDiff, Nat.reduceAdd, Nat.reduceMul, Nat.reduceBEq, Nat.reduceEqDiff, Int.reduceToNat, Int.reduceLT, Int.reduceLE, Nat.reduceSub, pl34, ft1, ft2, ft3, ft22, ft23, ft25, ft38, ft57, ft61, ft63, a1, a35, a36, a37, r1, rk, hM, rM, sM, rg, hg, cw, Nd.cells, concA, Int.reduceAdd, Int.reduceSub, Int.reduceNeg, Int.reduceMul, Int.reduceEq, Int.reduceBEq, Int.reduceBNe]
      exact .pure _ rfl
  · have r1 : ¬ (k : Int) < (ns.length : Int) := by omega
    obtain rfl : k = ns.length := by omega
    simp (maxSteps := 4000000) only [↓packA, ↓reduceIte, packB, pureOp, quietOp, loadOp, quietB, fr0, cellsK, implies_true, ite_true, ite_false, eq_self, ne_eq, reduceCtorEq, Nat.reduceLT, Nat.reduceLeDiff, Nat.reduceAdd, Nat.reduceMul, Nat.reduceBEq, Nat.reduceEqDiff, Int.reduceToNat, Int.reduceLT, Int.reduceLE, Nat.reduceSub, pl34, ft1, ft2, ft3, ft22, ft23, ft25, ft38, ft57, ft61, ft63, a1, a35, a36, a37, r1, hg, concA, Int.reduceAdd, Int.reduceSub, Int.reduceNeg, Int.reduceMul, Int.reduceEq, Int.reduceBEq, Int.reduceBNe]
    rw [Nat.sub_self] at hC
    have hC3 : C = Tp.goO ⟨vars, ns, outs⟩ outs.length := hC
    clear hC
    refine LoopK.intro (fun x w g => ∃ k : Nat, x = outs.length - k ∧ k ≤ outs.length ∧ C = Tp.goO ⟨vars, ns, outs⟩ (outs.length - k) ∧ w 1 = .op 0 3 0 0 ∧ w 53 = ints outs ∧ w 54 = .int .i64 outs.length ∧ w 55 = .int .i64 k ∧ g[0]? = some (.arr 3 [[.int .i64 vars, .isl 7 (List.map Nd.cells ns), .isl 1 (List.map intE outs)]] true)) outs.length ⟨0, rfl, by omega, hC3, ?_, ?_, ?_, ?_, hg⟩ ?_
    · simp (maxSteps := 4000000) only [↓packA, ↓reduceIte, packB, pureOp, quietOp, loadOp, quietB, fr0, cellsK, implies_true, ite_true, ite_false, eq_self, ne_eq, reduceCtorEq, Nat.reduceLT, Nat.reduceLeDiff, Nat.reduceAdd, Nat.reduceMul, Nat.reduceBEq, Nat.reduceEqDiff, Int.reduceToNat, Int.reduceLT, Int.reduceLE, Nat.reduceSub, pl34, ft1, ft2, ft3, ft22, ft23, ft25, ft38, ft57, ft61, ft63, a1]
    · simp (maxSteps := 4000000) only [↓packA, ↓reduceIte, packB, pureOp, quietOp, loadOp, quietB, fr0, cellsK, implies_true, ite_true, ite_false, eq_self, ne_eq, reduceCtorEq, Nat.reduceLT, Nat.reduceLeDiff, Nat.reduceAdd, Nat.reduceMul, Nat.reduceBEq, Nat.reduceEqDiff, Int.reduceToNat, Int.reduceLT, Int.reduceLE, Nat.reduceSub, pl34, ft1, ft2, ft3, ft22, ft23, ft25, ft38, ft57, ft61, ft63, ints]
    · simp (maxSteps := 4000000) only [↓packA, ↓reduceIte, packB, pureOp, quietOp, loadOp, quietB, fr0, cellsK, implies_true, ite_true, ite_false, eq_self, ne_eq, reduceCtorEq, Nat.reduceLT, Nat.reduceLeDiff, Nat.reduceAdd, Nat.reduceMul, Nat.reduceBEq, Nat.reduceEqDiff, Int.reduceToNat, Int.reduceLT, Int.reduceLE, Nat.reduceSub, pl34, ft1, ft2, ft3, ft22, ft23, ft25, ft38, ft57, ft61, ft63, List.length_map]
    · simp (maxSteps := 4000000) only [↓packA, ↓reduceIte, packB, pureOp, quietOp, loadOp, quietB, fr0, cellsK, implies_true, ite_true, ite_false, eq_self, ne_eq, reduceCtorEq, Nat.reduceLT, Nat.reduceLeDiff, Nat.reduceAdd, Nat.reduceMul, Nat.reduceBEq, Nat.reduceEqDiff, Int.reduceToNat, Int.reduceLT, Int.reduceLE, Nat.reduceSub, pl34, ft1, ft2, ft3, ft22, ft23, ft25, ft38, ft57, ft61, ft63, Int.natCast_zero]
    clear a1 a35 a36 a37 hg w
    rintro x w g ⟨k, rfl, hk, hC, a1, a53, a54, a55, hg⟩
    by_cases c : k < outs.length
    · have r1 : (k : Int) < (outs.length : Int) := by omega
      obtain ⟨r, hr⟩ : ∃ r, outs.length - k = r + 1 := ⟨outs.length - k - 1, by omega⟩
      have hC2 : C = if outs.getD k default < 0 ∨ (ns.length : Int) ≤ outs.getD k default then (((ns.length : Int) + k), 108) else Tp.goO ⟨vars, ns, outs⟩ r := by
        rw [hC, hr]
        show (if outs.getD (outs.length - (r + 1)) default < 0 ∨ (ns.length : Int) ≤ outs.getD (outs.length - (r + 1)) default then ((ns.length : Int) + (outs.length - (r + 1) : Nat), 108) else Tp.goO ⟨vars, ns, outs⟩ r) = _
        rw [show outs.length - (r + 1) = k by omega]
      by_cases c6 : outs.getD k default < 0
      · rw [if_pos (.inl c6)] at hC2
        subst hC2
        simp (maxSteps := 4000000) only [↓packA, ↓reduceIte, packB, pureOp, quietOp, loadOp, quietB, fr0, cellsK, implies_true, ite_true, ite_false, eq_self, ne_eq, reduceCtorEq, Nat.reduceLT, Nat.reduceLeDiff, Nat.reduceAdd, Nat.reduceMul, Nat.reduceBEq, Nat.reduceEqDiff, Int.reduceToNat, Int.reduceLT, Int.reduceLE, Nat.reduceSub, pl34, ft1, ft2, ft3, ft22, ft23, ft25, ft38, ft57, ft61, ft63, a1, a53, a54, a55, r1, ints, hg, c6, List.length_map, concA, Int.reduceAdd, Int.reduceSub, Int.reduceNeg, Int.reduceMul, Int.reduceEq, Int.reduceBEq, Int.reduceBNe]
        exact ⟨by omega, by omega, by omega, .pure _ rfl⟩
      by_cases c7 : (ns.length : Int) ≤ outs.getD k default
      · rw [if_pos (.inr c7)] at hC2
        subst hC2
        have r7 : outs.getD k default ≥ (ns.length : Int) := c7
        simp (maxSteps := 4000000) only [↓packA, ↓reduceIte, packB, pureOp, quietOp, loadOp, quietB, fr0, cellsK, implies_true, ite_true, ite_false, eq_self, ne_eq, reduceCtorEq, Nat.reduceLT, Nat.reduceLeDiff, Nat.reduceAdd, Nat.reduceMul, Nat.reduceBEq, Nat.reduceEqDiff, Int.reduceToNat, Int.reduceLT, Int.reduceLE, Nat.reduceSub, pl34, ft1, ft2, ft3, ft22, ft23, ft25, ft38, ft57, ft61, ft63, a1, a53, a54, a55, r1, ints, hg, c6, r7, List.length_map, concA, Int.reduceAdd, Int.reduceSub, Int.reduceNeg, Int.reduceMul, Int.reduceEq, Int.reduceBEq, Int.reduceBNe]
        exact ⟨by omega, by omega, by omega, .pure _ rfl⟩
      have r7 : ¬ outs.getD k default ≥ (ns.length : Int) := c7
      rw [if_neg (by omega)] at hC2
      simp (maxSteps := 4000000) only [↓packA, ↓reduceIte, packB, pureOp, quietOp, loadOp, quietB, fr0, cellsK, implies_true, ite_true, ite_false, eq_self, ne_eq, reduceCtorEq, Nat.reduceLT, Nat.reduceLeDiff, Nat.reduceAdd, Nat.reduceMul, Nat.reduceBEq, Nat.reduceEqDiff, Int.reduceToNat, Int.reduceLT, Int.reduceLE, Nat.reduceSub, pl34, ft1, ft2, ft3, ft22, ft23, ft25, ft38, ft57, ft61, ft63, a1, a53, a54, a55, r1, ints, hg, c6, r7, List.length_map, concA, Int.reduceAdd, Int.reduceSub, Int.reduceNeg, Int.reduceMul, Int.reduceEq, Int.reduceBEq, Int.reduceBNe]
      exact ⟨by omega, by omega, by omega, .inl ⟨outs.length - (k + 1), by omega, k + 1, rfl, by omega, by rw [hC2]; congr 1; omega, by omega⟩⟩
    · have r1 : ¬ (k : Int) < (outs.length : Int) := by omega
      obtain rfl : k = outs.length := by omega
      rw [Nat.sub_self] at hC
      have hC4 : C = (0, 0) := hC
      subst hC4
      simp (maxSteps := 4000000) only [↓packA, ↓reduceIte, packB, pureOp, quietOp, loadOp, quietB, fr0, cellsK, implies_true, ite_true, ite_false, eq_self, ne_eq, reduceCtorEq, Nat.reduceLT, Nat.reduceLeDiff, Nat.reduceAdd, Nat.reduceMul, Nat.reduceBEq, Nat.reduceEqDiff, Int.reduceToNat, Int.reduceLT, Int.reduceLE, Nat.reduceSub, pl34, ft1, ft2, ft3, ft22, ft23, ft25, ft38, ft57, ft61, ft63, a1, a53, a54, a55, r1, hg, concA, Int.reduceAdd, Int.reduceSub, Int.reduceNeg, Int.reduceMul, Int.reduceEq, Int.reduceBEq, Int.reduceBNe]
      exact .pure _ rfl
end Go.Proofs.YtclbobielhllmaaGreat
end
section
namespace Go.Proofs.YtclbobielhllmaaGreat
open Go Go.AL
set_option linter.unusedVariables false
set_option linter.unusedSimpArgs false
set_option maxHeartbeats 4000000 in
set_option maxRecDepth 100000 in
theorem rcheck_c (t : Tp) (ht : t.Ok) : APure Tryz.prog 18 [t.V] (.tup [.int .i64 t.check.1, .int .i64 t.check.2]) := by
  refine apure_of (wp18 rfl rfl ?_)
  obtain ⟨C, hC⟩ : ∃ C, C = t.check := ⟨_, rfl⟩
  rw [← hC]
  unfold Tp.check at hC
  obtain ⟨vars, ns, outs⟩ := t
  simp only at hC
  by_cases c1 : vars < 0
  · rw [if_pos (.inl c1)] at hC
    subst hC
    simp (maxSteps := 4000000) only [↓packA, ↓reduceIte, packB, pureOp, quietOp, loadOp, quietB, fr0, cellsK, implies_true, ite_true, ite_false, eq_self, ne_eq, reduceCtorEq, Nat.reduceLT, Nat.reduceLeDiff, Nat.reduceAdd, Nat.reduceMul, Nat.reduceBEq, Nat.reduceEqDiff, Int.reduceToNat, Int.reduceLT, Int.reduceLE, Nat.reduceSub, pl18, ft1, ft2, ft3, ft22, ft23, ft25, ft57, ft61, ft63, Tp.V, ints, c1, concA, Int.reduceAdd, Int.reduceSub, Int.reduceNeg, Int.reduceMul, Int.reduceEq, Int.reduceBEq, Int.reduceBNe]
    exact .pure _ rfl
  by_cases c2 : 64 < vars
  · rw [if_pos (.inr c2)] at hC
    subst hC
    have r2 : vars > 64 := c2
    simp (maxSteps := 4000000) only [↓packA, ↓reduceIte, packB, pureOp, quietOp, loadOp, quietB, fr0, cellsK, implies_true, ite_true, ite_false, eq_self, ne_eq, reduceCtorEq, Nat.reduceLT, Nat.reduceLeDiff, Nat.reduceAdd, Nat.reduceMul, Nat.reduceBEq, Nat.reduceEqDiff, Int.reduceToNat, Int.reduceLT, Int.reduceLE, Nat.reduceSub, pl18, ft1, ft2, ft3, ft22, ft23, ft25, ft57, ft61, ft63, Tp.V, ints, c1, r2, concA, Int.reduceAdd, Int.reduceSub, Int.reduceNeg, Int.reduceMul, Int.reduceEq, Int.reduceBEq, Int.reduceBNe]
    exact .pure _ rfl
  have r2 : ¬ vars > 64 := c2
  rw [if_neg (by omega)] at hC
  by_cases c3 : 2048 < ns.length
  · rw [if_pos c3] at hC
    subst hC
    have r3 : (ns.length : Int) > 2048 := by omega
    simp (maxSteps := 4000000) only [↓packA, ↓reduceIte, packB, pureOp, quietOp, loadOp, quietB, fr0, cellsK, implies_true, ite_true, ite_false, eq_self, ne_eq, reduceCtorEq, Nat.reduceLT, Nat.reduceLeDiff, Nat.reduceAdd, Nat.reduceMul, Nat.reduceBEq, Nat.reduceEqDiff, Int.reduceToNat, Int.reduceLT, Int.reduceLE, Nat.reduceSub, pl18, ft1, ft2, ft3, ft22, ft23, ft25, ft57, ft61, ft63, Tp.V, ints, c1, r2, r3, List.length_map, concA, Int.reduceAdd, Int.reduceSub, Int.reduceNeg, Int.reduceMul, Int.reduceEq, Int.reduceBEq, Int.reduceBNe]
    exact .pure _ rfl
  have r3 : ¬ (ns.length : Int) > 2048 := by omega
  rw [if_neg c3] at hC
  by_cases c4 : outs.length = 0
  · rw [if_pos (.inl c4)] at hC
    subst hC
    have r4 : (outs.length : Int) = 0 := by omega
    simp (maxSteps := 4000000) only [↓packA, ↓reduceIte, packB, pureOp, quietOp, loadOp, quietB, fr0, cellsK, implies_true, ite_true, ite_false, eq_self, ne_eq, reduceCtorEq, Nat.reduceLT, Nat.reduceLeDiff, Nat.reduceAdd, Nat.reduceMul, Nat.reduceBEq, Nat.reduceEqDiff, Int.reduceToNat, Int.reduceLT, Int.reduceLE, Nat.reduceSub, pl18, ft1, ft2, ft3, ft22, ft23, ft25, ft57, ft61, ft63, Tp.V, ints, c1, r2, r3, r4, List.length_map, concA, Int.reduceAdd, Int.reduceSub, Int.reduceNeg, Int.reduceMul, Int.reduceEq, Int.reduceBEq, Int.reduceBNe]
    exact .pure _ rfl
  have r4 : ¬ (outs.length : Int) = 0 := by omega
  by_cases c5 : 64 < outs.length
  · rw [if_pos (.inr c5)] at hC
    subst hC
    have r5 : (outs.length : Int) > 64 := by omega
    simp (maxSteps := 4000000) only [↓packA, ↓reduceIte, packB, pureOp, quietOp, loadOp, quietB, fr0, cellsK, implies_true, ite_true, ite_false, eq_self, ne_eq, reduceCtorEq, Nat.reduceLT, Nat.reduceLeDiff, Nat.reduceAdd, Nat.reduceMul, Nat.reduceBEq, Nat.reduceEqDiff, Int.reduceToNat, Int.reduceLT, Int.reduceLE, Nat.reduceSub, pl18, ft1, ft2, ft3, ft22, ft23, ft25, ft57, ft61, ft63, Tp.V, ints, c1, r2, r3, r4, r5, List.length_map, concA, Int.reduceAdd, Int.reduceSub, Int.reduceNeg, Int.reduceMul, Int.reduceEq, Int.reduceBEq, Int.reduceBNe]
    exact .pure _ rfl
  have r5 : ¬ (outs.length : Int) > 64 := by omega
  rw [if_neg (by omega)] at hC
  simp (maxSteps := 4000000) only [↓packA, ↓reduceIte, packB, pureOp, quietOp, loadOp, quietB, fr0, cellsK, implies_true, ite_true, ite_false, eq_self, ne_eq, reduceCtorEq, Nat.reduceLT, Nat.reduceLeDiff, Nat.reduceAdd, Nat.reduceMul, Nat.reduceBEq, Nat.reduceEqDiff, Int.reduceToNat, Int.reduceLT, Int.reduceLE, Nat.reduceSub, pl18, ft1, ft2, ft3, ft22, ft23, ft25, ft57, ft61, ft63, Tp.V, ints, c1, r2, r3, r4, r5, List.length_map, concA, Int.reduceAdd, Int.reduceSub, Int.reduceNeg, Int.reduceMul, Int.reduceEq, Int.reduceBEq, Int.reduceBNe]
  have hns := ht.ns
  simp only at hns
  refine LoopK.intro (fun x w g => ∃ k : Nat, x = ns.length - k ∧ k ≤ ns.length ∧ C = Tp.goN ⟨vars, ns, outs⟩ (ns.length - k) ∧ w 1 = .op 0 3 0 0 ∧ w 4 = .int .i64 k ∧ g[0]? = some (.arr 3 [[.int .i64 vars, .isl 7 (List.map Nd.cells ns), .isl 1 (List.map intE outs)]] true)) ns.length ⟨0, rfl, by omega, hC, ?_, ?_, rfl⟩ ?_
  · simp (maxSteps := 4000000) only [↓packA, ↓reduceIte, packB, pureOp, quietOp, loadOp, quietB, fr0, cellsK, implies_true, ite_true, ite_false, eq_self, ne_eq, reduceCtorEq, Nat.reduceLT, Nat.reduceLeDiff, Nat.reduceAdd, Nat.reduceMul, Nat.reduceBEq, Nat.reduceEqDiff, Int.reduceToNat, Int.reduceLT, Int.reduceLE, Nat.reduceSub, pl18, ft1, ft2, ft3, ft22, ft23, ft25, ft57, ft61, ft63]
  · simp (maxSteps := 4000000) only [↓packA, ↓reduceIte, packB, pureOp, quietOp, loadOp, quietB, fr0, cellsK, implies_true, ite_true, ite_false, eq_self, ne_eq, reduceCtorEq, Nat.reduceLT, Nat.reduceLeDiff, Nat.reduceAdd, Nat.reduceMul, Nat.reduceBEq, Nat.reduceEqDiff, Int.reduceToNat, Int.reduceLT, Int.reduceLE, Nat.reduceSub, pl18, ft1, ft2, ft3, ft22, ft23, ft25, ft57, ft61, ft63, Int.natCast_zero]
  rintro x w g ⟨k, rfl, hk, hC, a1, a4, hg⟩
  by_cases c : k < ns.length
  · have r1 : (k : Int) < (ns.length : Int) := by omega
    obtain ⟨n, hn⟩ : ∃ n, n = ns.getD k default := ⟨_, rfl⟩
    have hnk : ns[k]? = some n := by rw [hn, List.getD_eq_getElem?_getD, List.getElem?_eq_getElem c]; rfl
    have rk : (List.map Nd.cells ns)[k]? = some (Nd.cells n) := by rw [List.getElem?_map, hnk]; rfl
    have hnok : n.Ok := hns n (List.mem_of_getElem? hnk)
    have hp := rnode_c n hnok vars k
    obtain ⟨r, hr⟩ : ∃ r, ns.length - k = r + 1 := ⟨ns.length - k - 1, by omega⟩
    have hC2 : C = if n.wrong vars k ≠ 0 then ((k : Int), n.wrong vars k) else Tp.goN ⟨vars, ns, outs⟩ r := by
      rw [hC, hr]
      show (if (ns.getD (ns.length - (r + 1)) default).wrong vars (ns.length - (r + 1) : Nat) ≠ 0 then (((ns.length - (r + 1) : Nat) : Int), (ns.getD (ns.length - (r + 1)) default).wrong vars (ns.length - (r + 1) : Nat)) else Tp.goN ⟨vars, ns, outs⟩ r) = _
      rw [show ns.length - (r + 1) = k by omega, ← hn]
    obtain ⟨M, hM⟩ : ∃ M, g.length = M := ⟨_, rfl⟩
    have rM : ∀ o, (g ++ [o])[M]? = some o := fun o => by rw [List.getElem?_append_right (by omega)]; simp [hM]
    have sM : ∀ o o', (g ++ [o]).set M o' = g ++ [o'] := fun o o' => by rw [List.set_append_right _ _ (by omega)]; simp [hM]
    have rg : ∀ o, (g ++ [o])[0]? = some (.arr 3 [[.int .i64 vars, .isl 7 (List.map Nd.cells ns), .isl 1 (List.map intE outs)]] true) := fun o => by rw [List.getElem?_append_left (List.getElem?_eq_some_iff.1 hg).1]; exact hg
    simp (maxSteps := 4000000) only [↓packA, ↓reduceIte, packB, pureOp, quietOp, loadOp, quietB, fr0, cellsK, implies_true, ite_true, ite_false, eq_self, ne_eq, reduceCtorEq, Nat.reduceLT, Nat.reduceLeDiff, Nat.reduceAdd, Nat.reduceMul, Nat.reduceBEq, Nat.reduceEqDiff, Int.reduceToNat, Int.reduceLT, Int.reduceLE, Nat.reduceSub, pl18, ft1, ft2, ft3, ft22, ft23, ft25, ft57, ft61, ft63, a1, a4, r1, List.length_map, rk, hM, rM, sM, rg, hg, Nd.cells, concA, Int.reduceAdd, Int.reduceSub, Int.reduceNeg, Int.reduceMul, Int.reduceEq, Int.reduceBEq, Int.reduceBNe]
    refine ⟨by omega, acalls_pure hp rfl ?_⟩
    by_cases cw : n.wrong vars k = 0
    · rw [if_neg (by omega)] at hC2
      rw [cw]
      simp (maxSteps := 4000000) only [↓packA, ↓reduceIte, packB, pureOp, quietOp, loadOp, quietB, fr0, cellsK, implies_true, ite_true, ite_false, eq_self, ne_eq, reduceCtorEq, Nat.reduceLT, Nat.reduceLeDiff, Nat.reduceAdd, Nat.reduceMul, Nat.reduceBEq, Nat.reduceEqDiff, Int.reduceToNat, Int.reduceLT, Int.reduceLE, Nat.reduceSub, pl18, ft1, ft2, ft3, ft22, ft23, ft25, ft57, ft61, ft63, a1, a4, r1, List.length_map, rk, hM, rM, sM, rg, hg, Nd.cells, concA, Int.reduceAdd, Int.reduceSub, Int.reduceNeg, Int.reduceMul, Int.reduceEq, Int.reduceBEq, Int.reduceBNe]
      exact ⟨by omega, .inl ⟨ns.length - (k + 1), by omega, k + 1, rfl, by omega, by rw [hC2]; congr 1; omega, by omega⟩⟩
    · rw [if_pos cw] at hC2
      subst hC2
      simp (maxSteps := 4000000) only [↓packA, ↓reduceIte, packB, pureOp, quietOp, loadOp, quietB, fr0, cellsK, implies_true, ite_true, ite_false, eq_self, ne_eq, reduceCtorEq, Nat.reduceLT, Nat.reduceLeDiff, Nat.reduceAdd, Nat.reduceMul, Nat.reduceBEq, Nat.reduceEqDiff, Int.reduceToNat, Int.reduceLT, Int.reduceLE, Nat.reduceSub, pl18, ft1, ft2, ft3, ft22, ft23, ft25, ft57, ft61, ft63, a1, a4, r1, List.length_map, rk, hM, rM, sM, rg, hg, cw, Nd.cells, concA, Int.reduceAdd, Int.reduceSub, Int.reduceNeg, Int.reduceMul, Int.reduceEq, Int.reduceBEq, Int.reduceBNe]
      exact .pure _ rfl
  · have r1 : ¬ (k : Int) < (ns.length : Int) := by omega
    obtain rfl : k = ns.length := by omega
    simp (maxSteps := 4000000) only [↓packA, ↓reduceIte, packB, pureOp, quietOp, loadOp, quietB, fr0, cellsK, implies_true, ite_true, ite_false, eq_self, ne_eq, reduceCtorEq, Nat.reduceLT, Nat.reduceLeDiff, Nat.reduceAdd, Nat.reduceMul, Nat.reduceBEq, Nat.reduceEqDiff, Int.reduceToNat, Int.reduceLT, Int.reduceLE, Nat.reduceSub, pl18, ft1, ft2, ft3, ft22, ft23, ft25, ft57, ft61, ft63, a1, a4, r1, List.length_map, hg, concA, Int.reduceAdd, Int.reduceSub, Int.reduceNeg, Int.reduceMul, Int.reduceEq, Int.reduceBEq, Int.reduceBNe]
    rw [Nat.sub_self] at hC
    have hC3 : C = Tp.goO ⟨vars, ns, outs⟩ outs.length := hC
    clear hC
    refine LoopK.intro (fun x w g => ∃ k : Nat, x = outs.length - k ∧ k ≤ outs.length ∧ C = Tp.goO ⟨vars, ns, outs⟩ (outs.length - k) ∧ w 1 = .op 0 3 0 0 ∧ w 6 = .int .i64 k ∧ g[0]? = some (.arr 3 [[.int .i64 vars, .isl 7 (List.map Nd.cells ns), .isl 1 (List.map intE outs)]] true)) outs.length ⟨0, rfl, by omega, hC3, ?_, ?_, hg⟩ ?_
    · simp (maxSteps := 4000000) only [↓packA, ↓reduceIte, packB, pureOp, quietOp, loadOp, quietB, fr0, cellsK, implies_true, ite_true, ite_false, eq_self, ne_eq, reduceCtorEq, Nat.reduceLT, Nat.reduceLeDiff, Nat.reduceAdd, Nat.reduceMul, Nat.reduceBEq, Nat.reduceEqDiff, Int.reduceToNat, Int.reduceLT, Int.reduceLE, Nat.reduceSub, pl18, ft1, ft2, ft3, ft22, ft23, ft25, ft57, ft61, ft63, a1]
    · simp (maxSteps := 4000000) only [↓packA, ↓reduceIte, packB, pureOp, quietOp, loadOp, quietB, fr0, cellsK, implies_true, ite_true, ite_false, eq_self, ne_eq, reduceCtorEq, Nat.reduceLT, Nat.reduceLeDiff, Nat.reduceAdd, Nat.reduceMul, Nat.reduceBEq, Nat.reduceEqDiff, Int.reduceToNat, Int.reduceLT, Int.reduceLE, Nat.reduceSub, pl18, ft1, ft2, ft3, ft22, ft23, ft25, ft57, ft61, ft63, Int.natCast_zero]
    clear a1 a4 hg w
    rintro x w g ⟨k, rfl, hk, hC, a1, a6, hg⟩
    by_cases c : k < outs.length
    · have r1 : (k : Int) < (outs.length : Int) := by omega
      obtain ⟨r, hr⟩ : ∃ r, outs.length - k = r + 1 := ⟨outs.length - k - 1, by omega⟩
      have hC2 : C = if outs.getD k default < 0 ∨ (ns.length : Int) ≤ outs.getD k default then (((ns.length : Int) + k), 108) else Tp.goO ⟨vars, ns, outs⟩ r := by
        rw [hC, hr]
        show (if outs.getD (outs.length - (r + 1)) default < 0 ∨ (ns.length : Int) ≤ outs.getD (outs.length - (r + 1)) default then ((ns.length : Int) + (outs.length - (r + 1) : Nat), 108) else Tp.goO ⟨vars, ns, outs⟩ r) = _
        rw [show outs.length - (r + 1) = k by omega]
      by_cases c6 : outs.getD k default < 0
      · rw [if_pos (.inl c6)] at hC2
        subst hC2
        simp (maxSteps := 4000000) only [↓packA, ↓reduceIte, packB, pureOp, quietOp, loadOp, quietB, fr0, cellsK, implies_true, ite_true, ite_false, eq_self, ne_eq, reduceCtorEq, Nat.reduceLT, Nat.reduceLeDiff, Nat.reduceAdd, Nat.reduceMul, Nat.reduceBEq, Nat.reduceEqDiff, Int.reduceToNat, Int.reduceLT, Int.reduceLE, Nat.reduceSub, pl18, ft1, ft2, ft3, ft22, ft23, ft25, ft57, ft61, ft63, a1, a6, r1, ints, hg, c6, List.length_map, concA, Int.reduceAdd, Int.reduceSub, Int.reduceNeg, Int.reduceMul, Int.reduceEq, Int.reduceBEq, Int.reduceBNe]
        exact ⟨by omega, by omega, by omega, .pure _ rfl⟩
      by_cases c7 : (ns.length : Int) ≤ outs.getD k default
      · rw [if_pos (.inr c7)] at hC2
        subst hC2
        have r7 : outs.getD k default ≥ (ns.length : Int) := c7
        simp (maxSteps := 4000000) only [↓packA, ↓reduceIte, packB, pureOp, quietOp, loadOp, quietB, fr0, cellsK, implies_true, ite_true, ite_false, eq_self, ne_eq, reduceCtorEq, Nat.reduceLT, Nat.reduceLeDiff, Nat.reduceAdd, Nat.reduceMul, Nat.reduceBEq, Nat.reduceEqDiff, Int.reduceToNat, Int.reduceLT, Int.reduceLE, Nat.reduceSub, pl18, ft1, ft2, ft3, ft22, ft23, ft25, ft57, ft61, ft63, a1, a6, r1, ints, hg, c6, r7, List.length_map, concA, Int.reduceAdd, Int.reduceSub, Int.reduceNeg, Int.reduceMul, Int.reduceEq, Int.reduceBEq, Int.reduceBNe]
        exact ⟨by omega, by omega, by omega, by omega, by omega, .pure _ rfl⟩
      have r7 : ¬ outs.getD k default ≥ (ns.length : Int) := c7
      rw [if_neg (by omega)] at hC2
      simp (maxSteps := 4000000) only [↓packA, ↓reduceIte, packB, pureOp, quietOp, loadOp, quietB, fr0, cellsK, implies_true, ite_true, ite_false, eq_self, ne_eq, reduceCtorEq, Nat.reduceLT, Nat.reduceLeDiff, Nat.reduceAdd, Nat.reduceMul, Nat.reduceBEq, Nat.reduceEqDiff, Int.reduceToNat, Int.reduceLT, Int.reduceLE, Nat.reduceSub, pl18, ft1, ft2, ft3, ft22, ft23, ft25, ft57, ft61, ft63, a1, a6, r1, ints, hg, c6, r7, List.length_map, concA, Int.reduceAdd, Int.reduceSub, Int.reduceNeg, Int.reduceMul, Int.reduceEq, Int.reduceBEq, Int.reduceBNe]
      exact ⟨by omega, by omega, by omega, by omega, by omega, .inl ⟨outs.length - (k + 1), by omega, k + 1, rfl, by omega, by rw [hC2]; congr 1; omega, by omega⟩⟩
    · have r1 : ¬ (k : Int) < (outs.length : Int) := by omega
      obtain rfl : k = outs.length := by omega
      rw [Nat.sub_self] at hC
      have hC4 : C = (0, 0) := hC
      subst hC4
      simp (maxSteps := 4000000) only [↓packA, ↓reduceIte, packB, pureOp, quietOp, loadOp, quietB, fr0, cellsK, implies_true, ite_true, ite_false, eq_self, ne_eq, reduceCtorEq, Nat.reduceLT, Nat.reduceLeDiff, Nat.reduceAdd, Nat.reduceMul, Nat.reduceBEq, Nat.reduceEqDiff, Int.reduceToNat, Int.reduceLT, Int.reduceLE, Nat.reduceSub, pl18, ft1, ft2, ft3, ft22, ft23, ft25, ft57, ft61, ft63, a1, a6, r1, hg, concA, Int.reduceAdd, Int.reduceSub, Int.reduceNeg, Int.reduceMul, Int.reduceEq, Int.reduceBEq, Int.reduceBNe]
      exact .pure _ rfl
end Go.Proofs.YtclbobielhllmaaGreat
end
section
namespace Go.Proofs.YtclbobielhllmaaGreat
open Go Go.AL
set_option linter.unusedVariables false
set_option linter.unusedSimpArgs false
theorem ofz_pre {h : Heap} {id cap : Nat} {ex ex' : Bool} {l t : List Int} (hid : h[id]? = some (.arr 1 (List.map u32E (l ++ t)) ex')) : OFz h (.osl id 1 0 l.length cap ex) (.isl 1 (List.map u32E l)) := by
  have := ofz_lims (h := h) (id := id) (len := l.length) (cap := cap) (ex := ex) hid (Nat.le_refl _) (by rw [List.length_append]; omega)
  rw [List.take_left] at this
  exact this
theorem ext_getD {a b : List Int} (hl : a.length = b.length) (h : ∀ i, a.getD i default = b.getD i default) : a = b := by
  apply List.ext_getElem hl
  intro i h1 h2
  have := h i
  rw [List.getD_eq_getElem?_getD, List.getD_eq_getElem?_getD, List.getElem?_eq_getElem h1, List.getElem?_eq_getElem h2] at this
  exact this
theorem ofz_agg3 {h : Heap} {u v t u' v' t' : AV} (h1 : OFz h u u') (h2 : OFz h v v') (h3 : OFz h t t') : OFz h (.agg [u, v, t]) (.agg [u', v', t']) := by
  refine .agg _ _ rfl fun q x x' hx hx' => ?_
  match q with
  | 0 => simp at hx hx'; subst hx hx'; exact h1
  | 1 => simp at hx hx'; subst hx hx'; exact h2
  | 2 => simp at hx hx'; subst hx hx'; exact h3
  | q + 3 => simp at hx
set_option maxHeartbeats 4000000 in
set_option maxRecDepth 100000 in
theorem copyNat_o (l : List Int) (hL : LI l) (hl : l.length < 100000000) {h : Heap} {Q : AV → Heap → Prop} (hq : Q (.osl h.length 1 0 l.length (l.length + 3) true) (h ++ [.arr 1 (List.map u32E (l ++ [0, 0, 0])) true])) : ACalls Tryz.prog 60 [lims l] h Q := by
  refine wp60 rfl rfl ?_
  obtain ⟨M, hM⟩ : ∃ M, h.length = M := ⟨_, rfl⟩
  have rM : ∀ o, (h ++ [o])[M]? = some o := fun o => by rw [List.getElem?_append_right (by omega)]; simp [hM]
  have sM : ∀ o o', (h ++ [o]).set M o' = h ++ [o'] := fun o o' => by rw [List.set_append_right _ _ (by omega)]; simp [hM]
  have en : (l.length : Int) + 3 = ((l.length + 3 : Nat) : Int) := by omega
  simp (maxSteps := 4000000) only [↓packA, ↓reduceIte, packB, pureOp, quietOp, loadOp, quietB, fr0, cellsK, implies_true, ite_true, ite_false, eq_self, ne_eq, reduceCtorEq, Nat.reduceLT, Nat.reduceLeDiff, Nat.reduceAdd, Nat.reduceMul, Nat.reduceBEq, Nat.reduceEqDiff, Int.reduceToNat, Int.reduceLT, Int.reduceLE, Nat.reduceSub, pl60, ft3, ft58, ft59, ft109, lims, limR, hM, rM, en]
  refine ⟨by omega, by omega, ?_⟩
  refine LoopK.intro (fun x w g => ∃ (k : Nat) (es : List Int), x = l.length - k ∧ k ≤ l.length ∧ es.length = l.length + 3 ∧ (∀ i, i < k → es.getD i default = l.getD i default) ∧ (∀ i, k ≤ i → es.getD i default = 0) ∧ w 0 = lims l ∧ w 3 = .osl M 1 0 l.length (l.length + 3) true ∧ w 4 = .int .i64 k ∧ g = h ++ [.arr 1 (List.map u32E es) true]) l.length ⟨0, List.replicate (l.length + 3) 0, rfl, by omega, by simp, fun i hi => by omega, fun i _ => ?_, ?_, ?_, ?_, ?_⟩ ?_
  · rw [List.getD_eq_getElem?_getD, List.getElem?_replicate]; split <;> rfl
  · simp (maxSteps := 4000000) only [↓packA, ↓reduceIte, packB, pureOp, quietOp, loadOp, quietB, fr0, cellsK, implies_true, ite_true, ite_false, eq_self, ne_eq, reduceCtorEq, Nat.reduceLT, Nat.reduceLeDiff, Nat.reduceAdd, Nat.reduceMul, Nat.reduceBEq, Nat.reduceEqDiff, Int.reduceToNat, Int.reduceLT, Int.reduceLE, Nat.reduceSub, pl60, ft3, ft58, ft59, ft109, lims]
  · simp (maxSteps := 4000000) only [↓packA, ↓reduceIte, packB, pureOp, quietOp, loadOp, quietB, fr0, cellsK, implies_true, ite_true, ite_false, eq_self, ne_eq, reduceCtorEq, Nat.reduceLT, Nat.reduceLeDiff, Nat.reduceAdd, Nat.reduceMul, Nat.reduceBEq, Nat.reduceEqDiff, Int.reduceToNat, Int.reduceLT, Int.reduceLE, Nat.reduceSub, pl60, ft3, ft58, ft59, ft109]
  · simp (maxSteps := 4000000) only [↓packA, ↓reduceIte, packB, pureOp, quietOp, loadOp, quietB, fr0, cellsK, implies_true, ite_true, ite_false, eq_self, ne_eq, reduceCtorEq, Nat.reduceLT, Nat.reduceLeDiff, Nat.reduceAdd, Nat.reduceMul, Nat.reduceBEq, Nat.reduceEqDiff, Int.reduceToNat, Int.reduceLT, Int.reduceLE, Nat.reduceSub, pl60, ft3, ft58, ft59, ft109, Int.natCast_zero]
  · simp (maxSteps := 4000000) only [↓packA, ↓reduceIte, packB, pureOp, quietOp, loadOp, quietB, fr0, cellsK, implies_true, ite_true, ite_false, eq_self, ne_eq, reduceCtorEq, Nat.reduceLT, Nat.reduceLeDiff, Nat.reduceAdd, Nat.reduceMul, Nat.reduceBEq, Nat.reduceEqDiff, Int.reduceToNat, Int.reduceLT, Int.reduceLE, Nat.reduceSub, pl60, ft3, ft58, ft59, ft109]
  rintro x w g ⟨k, es, rfl, hk, hes, hs1, hs0, a0, a3, a4, rfl⟩
  by_cases c : k < l.length
  · have r1 : (k : Int) < (l.length : Int) := by omega
    simp (maxSteps := 4000000) only [↓packA, ↓reduceIte, packB, pureOp, quietOp, loadOp, quietB, fr0, cellsK, implies_true, ite_true, ite_false, eq_self, ne_eq, reduceCtorEq, Nat.reduceLT, Nat.reduceLeDiff, Nat.reduceAdd, Nat.reduceMul, Nat.reduceBEq, Nat.reduceEqDiff, Int.reduceToNat, Int.reduceLT, Int.reduceLE, Nat.reduceSub, pl60, ft3, ft58, ft59, ft109, lims, limR, hM, rM, sM, a0, a3, a4, r1]
    refine ⟨by omega, by omega, by omega, by omega, by omega, .inl ⟨l.length - (k + 1), by omega, k + 1, es.set k (l.getD k default), rfl, by omega, by rw [List.length_set]; exact hes, fun i hi => ?_, fun i hi => by rw [getD_setN (by omega)]; exact hs0 i (by omega), by omega, rfl⟩⟩
    by_cases ci : i = k
    · subst ci
      rw [getD_setI (by omega)]
    · rw [getD_setN (by omega)]
      exact hs1 i (by omega)
  · have r1 : ¬ (k : Int) < (l.length : Int) := by omega
    obtain rfl : k = l.length := by omega
    simp (maxSteps := 4000000) only [↓packA, ↓reduceIte, packB, pureOp, quietOp, loadOp, quietB, fr0, cellsK, implies_true, ite_true, ite_false, eq_self, ne_eq, reduceCtorEq, Nat.reduceLT, Nat.reduceLeDiff, Nat.reduceAdd, Nat.reduceMul, Nat.reduceBEq, Nat.reduceEqDiff, Int.reduceToNat, Int.reduceLT, Int.reduceLE, Nat.reduceSub, pl60, ft3, ft58, ft59, ft109, lims, limR, hM, rM, sM, a0, a3, a4, r1]
    have e : es = l ++ [0, 0, 0] := by
      apply ext_getD (by rw [hes, List.length_append]; rfl)
      intro i
      by_cases ci : i < l.length
      · rw [hs1 i ci, List.getD_eq_getElem?_getD, List.getD_eq_getElem?_getD, List.getElem?_append_left ci]
      · rw [hs0 i (by omega), List.getD_eq_getElem?_getD, List.getElem?_append_right (by omega)]
        match i - l.length with
        | 0 => rfl
        | 1 => rfl
        | 2 => rfl
        | q + 3 => rfl
    rw [e, ← hM]
    exact hq
set_option maxHeartbeats 4000000 in
set_option maxRecDepth 100000 in
theorem copyRat_c (neg : Bool) (num den : List Int) (hnL : LI num) (hdL : LI den) (hn : num.length < 100000000) (hd : den.length < 100000000) : ACalls Tryz.prog 39 [ratV neg num den] [] fun v h => OFz h v (ratV neg num den) := by
  refine wp39 rfl rfl ?_
  simp (maxSteps := 4000000) only [↓packA, ↓reduceIte, packB, pureOp, quietOp, loadOp, quietB, fr0, cellsK, implies_true, ite_true, ite_false, eq_self, ne_eq, reduceCtorEq, Nat.reduceLT, Nat.reduceLeDiff, Nat.reduceAdd, Nat.reduceMul, Nat.reduceBEq, Nat.reduceEqDiff, Int.reduceToNat, Int.reduceLT, Int.reduceLE, Nat.reduceSub, pl39, ft1, ft2, ft4, ft59, ft61, ft109, ratV, lims]
  refine copyNat_o num hnL hn ?_
  simp (maxSteps := 4000000) only [↓packA, ↓reduceIte, packB, pureOp, quietOp, loadOp, quietB, fr0, cellsK, implies_true, ite_true, ite_false, eq_self, ne_eq, reduceCtorEq, Nat.reduceLT, Nat.reduceLeDiff, Nat.reduceAdd, Nat.reduceMul, Nat.reduceBEq, Nat.reduceEqDiff, Int.reduceToNat, Int.reduceLT, Int.reduceLE, Nat.reduceSub, pl39, ft1, ft2, ft4, ft59, ft61, ft109, ratV, lims]
  refine copyNat_o den hdL hd ?_
  simp (maxSteps := 4000000) only [↓packA, ↓reduceIte, packB, pureOp, quietOp, loadOp, quietB, fr0, cellsK, implies_true, ite_true, ite_false, eq_self, ne_eq, reduceCtorEq, Nat.reduceLT, Nat.reduceLeDiff, Nat.reduceAdd, Nat.reduceMul, Nat.reduceBEq, Nat.reduceEqDiff, Int.reduceToNat, Int.reduceLT, Int.reduceLE, Nat.reduceSub, pl39, ft1, ft2, ft4, ft59, ft61, ft109, ratV, lims, patch, patch', concA, Int.reduceAdd, Int.reduceSub, Int.reduceNeg, Int.reduceMul, Int.reduceEq, Int.reduceBEq, Int.reduceBNe]
  exact ofz_agg3 (.flat _ rfl) (ofz_pre (t := [0, 0, 0]) rfl) (ofz_pre (t := [0, 0, 0]) rfl)
end Go.Proofs.YtclbobielhllmaaGreat
end
section
namespace Go.Proofs.YtclbobielhllmaaGreat
open Go Go.AL
set_option linter.unusedVariables false
set_option linter.unusedSimpArgs false
theorem take_set {xs : List Int} {k m m' : Nat} {z : Int} (hk : k < xs.length) (hm : m = m' + 1) : (List.take k xs ++ List.replicate m z).set k (xs.getD k default) = List.take (k + 1) xs ++ List.replicate m' z := by
  subst hm
  apply List.ext_getElem?
  intro i
  rw [List.getElem?_set]
  simp only [List.length_append, List.length_take, List.length_replicate, List.getD_eq_getElem?_getD, List.getElem?_eq_getElem hk, Option.getD_some]
  by_cases h1 : k = i
  · subst h1
    rw [if_pos rfl, if_pos (by omega), List.getElem?_append_left (by simp; omega), List.getElem?_take_of_lt (by omega), List.getElem?_eq_getElem hk]
  · rw [if_neg h1]
    by_cases h2 : i < k
    · rw [List.getElem?_append_left (by simp; omega), List.getElem?_append_left (by simp; omega), List.getElem?_take_of_lt h2, List.getElem?_take_of_lt (by omega)]
    · rw [List.getElem?_append_right (by simp; omega), List.getElem?_append_right (by simp; omega), List.getElem?_replicate, List.getElem?_replicate]
      simp only [List.length_take]
      have e : (i - min k xs.length < m' + 1) ↔ (i - min (k + 1) xs.length < m') := by omega
      by_cases h3 : i - min k xs.length < m' + 1
      · rw [if_pos h3, if_pos (e.1 h3)]
      · rw [if_neg h3, if_neg (fun h => h3 (e.2 h))]
theorem list_ext_getD {xs ys : List Int} (hl : xs.length = ys.length) (h : ∀ j, j < xs.length → xs.getD j default = ys.getD j default) : xs = ys := by
  apply List.ext_getElem hl
  intro i h1 h2
  have := h i h1
  simpa [List.getD_eq_getElem?_getD, List.getElem?_eq_getElem h1, List.getElem?_eq_getElem h2] using this
set_option maxRecDepth 100000 in
theorem same_pure (xs ys : List Int) (hb : xs.length < 1000000000) : APure Tryz.prog 10 [ints xs, ints ys] (.bool (decide (xs = ys))) := by
  refine apure_of (wp10 rfl rfl ?_)
  simp (maxSteps := 4000000) only [↓packA, ↓reduceIte, packB, pureOp, quietOp, loadOp, quietB, fr0, cellsK, implies_true, ite_true, ite_false, eq_self, ne_eq, reduceCtorEq, Nat.reduceLT, Nat.reduceLeDiff, Nat.reduceAdd, Nat.reduceMul, Nat.reduceBEq, Nat.reduceEqDiff, Int.reduceToNat, Int.reduceLT, Int.reduceLE, Nat.reduceSub, pl10, ft3, ft23, ints]
  refine ⟨fun h => ?_, fun h => LoopK.intro (fun m a h => ∃ k : Nat, m = xs.length - k ∧ k ≤ xs.length ∧ (∀ j, j < k → xs.getD j default = ys.getD j default) ∧ a 5 = .int .i64 k ∧ a 0 = ints xs ∧ a 1 = ints ys ∧ h = []) xs.length ⟨0, rfl, Nat.zero_le _, fun j hj => absurd hj (Nat.not_lt_zero j), ?_⟩ ?_⟩
  · have : decide (xs = ys) = false := by simp; intro e; subst e; exact h rfl
    rw [this]; exact .pure _ rfl
  · simp (maxSteps := 4000000) only [↓packA, ↓reduceIte, packB, pureOp, quietOp, loadOp, quietB, fr0, cellsK, implies_true, ite_true, ite_false, eq_self, ne_eq, reduceCtorEq, Nat.reduceLT, Nat.reduceLeDiff, Nat.reduceAdd, Nat.reduceMul, Nat.reduceBEq, Nat.reduceEqDiff, Int.reduceToNat, Int.reduceLT, Int.reduceLE, Nat.reduceSub, pl10, ft3, ft23, ints, Int.natCast_zero]
  · rintro m a h1 ⟨k, rfl, hk, hj, a5, a0, a1, rfl⟩
    simp (maxSteps := 4000000) only [↓packA, ↓reduceIte, packB, pureOp, quietOp, loadOp, quietB, fr0, cellsK, implies_true, ite_true, ite_false, eq_self, ne_eq, reduceCtorEq, Nat.reduceLT, Nat.reduceLeDiff, Nat.reduceAdd, Nat.reduceMul, Nat.reduceBEq, Nat.reduceEqDiff, Int.reduceToNat, Int.reduceLT, Int.reduceLE, Nat.reduceSub, pl10, ft3, ft23, ints, a0, a1, a5]
    have hl : xs.length = ys.length := by omega
    refine ⟨fun h2 => ⟨by omega, by omega, by omega, by omega, fun h3 => ?_, fun h3 => ⟨by omega, .inl ⟨xs.length - (k + 1), by omega, k + 1, rfl, by omega, fun j hj2 => ?_, by omega⟩⟩⟩, fun h2 => ?_⟩
    · have : decide (xs = ys) = false := by simp; intro e; subst e; exact h3 rfl
      rw [this]; exact .pure _ rfl
    · by_cases e : j = k
      · subst e; exact h3
      · exact hj j (by omega)
    · have : decide (xs = ys) = true := by simp; exact list_ext_getD hl fun j h3 => hj j (by omega)
      rw [this]; exact .pure _ rfl
set_option maxRecDepth 100000 in
theorem copy_c (xs : List Int) (hb : xs.length < 1000000000) : ACalls Tryz.prog 40 [ints xs] [] fun v h => v = .osl 0 1 0 xs.length (xs.length + 3) true ∧ h = [Ob.arr 1 (List.map intE (xs ++ [0, 0, 0])) true] := by
  refine (wp40 rfl rfl ?_)
  simp (maxSteps := 4000000) only [↓packA, ↓reduceIte, packB, pureOp, quietOp, loadOp, quietB, fr0, cellsK, implies_true, ite_true, ite_false, eq_self, ne_eq, reduceCtorEq, Nat.reduceLT, Nat.reduceLeDiff, Nat.reduceAdd, Nat.reduceMul, Nat.reduceBEq, Nat.reduceEqDiff, Int.reduceToNat, Int.reduceLT, Int.reduceLE, Nat.reduceSub, pl40, ft3, ft23, ints]
  refine ⟨by omega, by omega, LoopK.intro (fun m a h => ∃ k : Nat, m = xs.length - k ∧ k ≤ xs.length ∧ a 0 = ints xs ∧ a 3 = .osl 0 1 0 xs.length (xs.length + 3) true ∧ a 4 = .int .i64 k ∧ h = [Ob.arr 1 (List.map intE (xs.take k ++ List.replicate (xs.length + 3 - k) 0)) true]) xs.length ⟨0, rfl, Nat.zero_le _, ?_⟩ ?_⟩
  · simp (maxSteps := 4000000) only [↓packA, ↓reduceIte, packB, pureOp, quietOp, loadOp, quietB, fr0, cellsK, implies_true, ite_true, ite_false, eq_self, ne_eq, reduceCtorEq, Nat.reduceLT, Nat.reduceLeDiff, Nat.reduceAdd, Nat.reduceMul, Nat.reduceBEq, Nat.reduceEqDiff, Int.reduceToNat, Int.reduceLT, Int.reduceLE, Nat.reduceSub, pl40, ft3, ft23, ints, Int.natCast_zero]
  · rintro m a h1 ⟨k, rfl, hk, a0, a3, a4, rfl⟩
    simp (maxSteps := 4000000) only [↓packA, ↓reduceIte, packB, pureOp, quietOp, loadOp, quietB, fr0, cellsK, implies_true, ite_true, ite_false, eq_self, ne_eq, reduceCtorEq, Nat.reduceLT, Nat.reduceLeDiff, Nat.reduceAdd, Nat.reduceMul, Nat.reduceBEq, Nat.reduceEqDiff, Int.reduceToNat, Int.reduceLT, Int.reduceLE, Nat.reduceSub, pl40, ft3, ft23, ints, a0, a3, a4]
    have hset : k < xs.length → (List.take k xs ++ List.replicate (xs.length + 3 - k) 0).set k (xs.getD k default) = List.take (k + 1) xs ++ List.replicate (xs.length + 3 - (k + 1)) 0 := fun hk => take_set hk (by omega)
    refine ⟨fun e => ⟨by omega, by omega, by omega, by rw [List.length_take]; omega, by omega, .inl ⟨xs.length - (k + 1), by omega, k + 1, rfl, by omega, by omega, by rw [hset (by omega)]⟩⟩, fun e => ?_⟩
    have : k = xs.length := by omega
    subst this
    rw [List.take_length, Nat.add_sub_cancel_left]
    rfl
def okAt (n : Int) (xs : List Int) (i : Nat) : Prop := 0 ≤ xs.getD i default ∧ xs.getD i default < n ∧ ∀ j, j < i → xs.getD j default ≠ xs.getD i default
def ordOK (n : Int) (xs : List Int) : Prop := ∀ i, i < xs.length → okAt n xs i
open Classical in
noncomputable def checkR (n : Int) (xs : List Int) : Int := if n < 0 ∨ 128 < n then 220 else if (xs.length : Int) ≠ n then 182 else if ordOK n xs then 0 else 182
def seenOK (xs : List Int) (k : Nat) (bs : List Bool) : Prop := ∀ v : Nat, v < bs.length → (bs.getD v default = true ↔ ∃ j, j < k ∧ xs.getD j default = v)
end Go.Proofs.YtclbobielhllmaaGreat
end
section
namespace Go.Proofs.YtclbobielhllmaaGreat
open Go Go.AL
set_option linter.unusedVariables false
set_option linter.unusedSimpArgs false
set_option maxRecDepth 100000 in
theorem sameNat_c (l : List Int) (hl : l.length < 100000000) : APure Tryz.prog 28 [lims l, lims l] (.bool true) := by
  refine apure_of (wp28 rfl rfl ?_)
  simp (maxSteps := 4000000) only [↓packA, ↓reduceIte, packB, pureOp, quietOp, loadOp, quietB, fr0, cellsK, implies_true, ite_true, ite_false, eq_self, ne_eq, reduceCtorEq, Nat.reduceLT, Nat.reduceLeDiff, Nat.reduceAdd, Nat.reduceMul, Nat.reduceBEq, Nat.reduceEqDiff, Int.reduceToNat, Int.reduceLT, Int.reduceLE, Nat.reduceSub, pl28, ft3, ft59, ft109, lims, bne_self_eq_false, ne_eq, not_true_eq_false, concA, Int.reduceAdd, Int.reduceSub, Int.reduceNeg, Int.reduceMul, Int.reduceEq, Int.reduceBEq, Int.reduceBNe]
  refine LoopK.intro (fun x w g => ∃ k : Nat, x = l.length - k ∧ k ≤ l.length ∧ w 0 = lims l ∧ w 1 = lims l ∧ w 5 = .int .i64 k ∧ g = []) l.length ⟨0, rfl, by omega, ?_, ?_, ?_, rfl⟩ ?_
  · simp (maxSteps := 4000000) only [↓packA, ↓reduceIte, packB, pureOp, quietOp, loadOp, quietB, fr0, cellsK, implies_true, ite_true, ite_false, eq_self, ne_eq, reduceCtorEq, Nat.reduceLT, Nat.reduceLeDiff, Nat.reduceAdd, Nat.reduceMul, Nat.reduceBEq, Nat.reduceEqDiff, Int.reduceToNat, Int.reduceLT, Int.reduceLE, Nat.reduceSub, pl28, ft3, ft59, ft109, lims]
  · simp (maxSteps := 4000000) only [↓packA, ↓reduceIte, packB, pureOp, quietOp, loadOp, quietB, fr0, cellsK, implies_true, ite_true, ite_false, eq_self, ne_eq, reduceCtorEq, Nat.reduceLT, Nat.reduceLeDiff, Nat.reduceAdd, Nat.reduceMul, Nat.reduceBEq, Nat.reduceEqDiff, Int.reduceToNat, Int.reduceLT, Int.reduceLE, Nat.reduceSub, pl28, ft3, ft59, ft109, lims]
  · simp (maxSteps := 4000000) only [↓packA, ↓reduceIte, packB, pureOp, quietOp, loadOp, quietB, fr0, cellsK, implies_true, ite_true, ite_false, eq_self, ne_eq, reduceCtorEq, Nat.reduceLT, Nat.reduceLeDiff, Nat.reduceAdd, Nat.reduceMul, Nat.reduceBEq, Nat.reduceEqDiff, Int.reduceToNat, Int.reduceLT, Int.reduceLE, Nat.reduceSub, pl28, ft3, ft59, ft109, Int.natCast_zero]
  rintro x w g ⟨k, rfl, hk, a0, a1, a5, rfl⟩
  by_cases c : k < l.length
  · have r1 : (k : Int) < (l.length : Int) := by omega
    simp (maxSteps := 4000000) only [↓packA, ↓reduceIte, packB, pureOp, quietOp, loadOp, quietB, fr0, cellsK, implies_true, ite_true, ite_false, eq_self, ne_eq, reduceCtorEq, Nat.reduceLT, Nat.reduceLeDiff, Nat.reduceAdd, Nat.reduceMul, Nat.reduceBEq, Nat.reduceEqDiff, Int.reduceToNat, Int.reduceLT, Int.reduceLE, Nat.reduceSub, pl28, ft3, ft59, ft109, lims, limR, a0, a1, a5, r1, bne_self_eq_false, ne_eq, not_true_eq_false, concA, Int.reduceAdd, Int.reduceSub, Int.reduceNeg, Int.reduceMul, Int.reduceEq, Int.reduceBEq, Int.reduceBNe]
    exact ⟨by omega, by omega, by omega, by omega, by omega, .inl ⟨l.length - (k + 1), by omega, k + 1, rfl, by omega, by omega⟩⟩
  · have r1 : ¬ (k : Int) < (l.length : Int) := by omega
    simp (maxSteps := 4000000) only [↓packA, ↓reduceIte, packB, pureOp, quietOp, loadOp, quietB, fr0, cellsK, implies_true, ite_true, ite_false, eq_self, ne_eq, reduceCtorEq, Nat.reduceLT, Nat.reduceLeDiff, Nat.reduceAdd, Nat.reduceMul, Nat.reduceBEq, Nat.reduceEqDiff, Int.reduceToNat, Int.reduceLT, Int.reduceLE, Nat.reduceSub, pl28, ft3, ft59, ft109, lims, limR, a0, a1, a5, r1, concA, Int.reduceAdd, Int.reduceSub, Int.reduceNeg, Int.reduceMul, Int.reduceEq, Int.reduceBEq, Int.reduceBNe]
    exact .pure _ rfl
set_option maxRecDepth 100000 in
theorem sameRat_c (neg : Bool) (num den : List Int) (hn : num.length < 100000000) (hd : den.length < 100000000) : APure Tryz.prog 46 [ratV neg num den, ratV neg num den] (.bool true) := by
  refine apure_of (wp46 rfl rfl ?_)
  cases neg
  all_goals
    simp (maxSteps := 4000000) only [↓packA, ↓reduceIte, packB, pureOp, quietOp, loadOp, quietB, fr0, cellsK, implies_true, ite_true, ite_false, eq_self, ne_eq, reduceCtorEq, Nat.reduceLT, Nat.reduceLeDiff, Nat.reduceAdd, Nat.reduceMul, Nat.reduceBEq, Nat.reduceEqDiff, Int.reduceToNat, Int.reduceLT, Int.reduceLE, Nat.reduceSub, pl46, ft1, ft2, ft4, ft59, ft61, ft109, ratV, lims, concA, Int.reduceAdd, Int.reduceSub, Int.reduceNeg, Int.reduceMul, Int.reduceEq, Int.reduceBEq, Int.reduceBNe]
    refine acalls_pure (sameNat_c num hn) rfl ?_
    simp (maxSteps := 4000000) only [↓packA, ↓reduceIte, packB, pureOp, quietOp, loadOp, quietB, fr0, cellsK, implies_true, ite_true, ite_false, eq_self, ne_eq, reduceCtorEq, Nat.reduceLT, Nat.reduceLeDiff, Nat.reduceAdd, Nat.reduceMul, Nat.reduceBEq, Nat.reduceEqDiff, Int.reduceToNat, Int.reduceLT, Int.reduceLE, Nat.reduceSub, pl46, ft1, ft2, ft4, ft59, ft61, ft109, ratV, lims, concA, Int.reduceAdd, Int.reduceSub, Int.reduceNeg, Int.reduceMul, Int.reduceEq, Int.reduceBEq, Int.reduceBNe]
    refine acalls_pure (sameNat_c den hd) rfl ?_
    simp (maxSteps := 4000000) only [↓packA, ↓reduceIte, packB, pureOp, quietOp, loadOp, quietB, fr0, cellsK, implies_true, ite_true, ite_false, eq_self, ne_eq, reduceCtorEq, Nat.reduceLT, Nat.reduceLeDiff, Nat.reduceAdd, Nat.reduceMul, Nat.reduceBEq, Nat.reduceEqDiff, Int.reduceToNat, Int.reduceLT, Int.reduceLE, Nat.reduceSub, pl46, ft1, ft2, ft4, ft59, ft61, ft109, ratV, lims, concA, Int.reduceAdd, Int.reduceSub, Int.reduceNeg, Int.reduceMul, Int.reduceEq, Int.reduceBEq, Int.reduceBNe]
    exact .pure _ rfl
set_option maxRecDepth 100000 in
theorem sameOp_c (n : Nd) (hn : n.Ok) : APure Tryz.prog 66 [n.V, n.V] (.bool true) := by
  refine apure_of (wp66 rfl rfl ?_)
  have h := sameRat_c n.neg n.num n.den hn.ln hn.ld
  obtain ⟨op, a, b, c, neg, num, den⟩ := n
  simp (maxSteps := 4000000) only [↓packA, ↓reduceIte, packB, pureOp, quietOp, loadOp, quietB, fr0, cellsK, implies_true, ite_true, ite_false, eq_self, ne_eq, reduceCtorEq, Nat.reduceLT, Nat.reduceLeDiff, Nat.reduceAdd, Nat.reduceMul, Nat.reduceBEq, Nat.reduceEqDiff, Int.reduceToNat, Int.reduceLT, Int.reduceLE, Nat.reduceSub, pl66, ft1, ft2, ft3, ft4, ft57, ft59, ft61, ft63, ft109, Nd.V, Nd.cells, beq_self_eq_true, concA, Int.reduceAdd, Int.reduceSub, Int.reduceNeg, Int.reduceMul, Int.reduceEq, Int.reduceBEq, Int.reduceBNe]
  refine acalls_pure h rfl ?_
  simp (maxSteps := 4000000) only [↓packA, ↓reduceIte, packB, pureOp, quietOp, loadOp, quietB, fr0, cellsK, implies_true, ite_true, ite_false, eq_self, ne_eq, reduceCtorEq, Nat.reduceLT, Nat.reduceLeDiff, Nat.reduceAdd, Nat.reduceMul, Nat.reduceBEq, Nat.reduceEqDiff, Int.reduceToNat, Int.reduceLT, Int.reduceLE, Nat.reduceSub, pl66, ft1, ft2, ft3, ft4, ft57, ft59, ft61, ft63, ft109, Nd.V, Nd.cells, concA, Int.reduceAdd, Int.reduceSub, Int.reduceNeg, Int.reduceMul, Int.reduceEq, Int.reduceBEq, Int.reduceBNe]
  exact .pure _ rfl
set_option maxRecDepth 100000 in
theorem sameTape_c (t : Tp) (ht : t.Ok) (hn : t.ns.length < 100000000) (ho : t.outs.length < 100000000) : APure Tryz.prog 48 [t.V, t.V] (.bool true) := by
  refine apure_of (wp48 rfl rfl ?_)
  have hns := ht.ns
  obtain ⟨vars, ns, outs⟩ := t
  simp only at hns hn ho
  have hs := same_pure outs outs (by omega)
  rw [decide_eq_true rfl] at hs
  simp (maxSteps := 4000000) only [↓packA, ↓reduceIte, packB, pureOp, quietOp, loadOp, quietB, fr0, cellsK, implies_true, ite_true, ite_false, eq_self, ne_eq, reduceCtorEq, Nat.reduceLT, Nat.reduceLeDiff, Nat.reduceAdd, Nat.reduceMul, Nat.reduceBEq, Nat.reduceEqDiff, Int.reduceToNat, Int.reduceLT, Int.reduceLE, Nat.reduceSub, pl48, ft1, ft2, ft3, ft4, ft22, ft23, ft25, ft57, ft61, ft63, Tp.V, ints, bne_self_eq_false, ne_eq, not_true_eq_false, List.length_map, concA, Int.reduceAdd, Int.reduceSub, Int.reduceNeg, Int.reduceMul, Int.reduceEq, Int.reduceBEq, Int.reduceBNe]
  refine acalls_pure hs rfl ?_
  simp (maxSteps := 4000000) only [↓packA, ↓reduceIte, packB, pureOp, quietOp, loadOp, quietB, fr0, cellsK, implies_true, ite_true, ite_false, eq_self, ne_eq, reduceCtorEq, Nat.reduceLT, Nat.reduceLeDiff, Nat.reduceAdd, Nat.reduceMul, Nat.reduceBEq, Nat.reduceEqDiff, Int.reduceToNat, Int.reduceLT, Int.reduceLE, Nat.reduceSub, pl48, ft1, ft2, ft3, ft4, ft22, ft23, ft25, ft57, ft61, ft63, Tp.V, ints, List.length_map, concA, Int.reduceAdd, Int.reduceSub, Int.reduceNeg, Int.reduceMul, Int.reduceEq, Int.reduceBEq, Int.reduceBNe]
  obtain ⟨B, hB⟩ : ∃ B : Ob, B = .arr 3 [[.int .i64 vars, .isl 7 (List.map Nd.cells ns), .isl 1 (List.map intE outs)]] true := ⟨_, rfl⟩
  rw [← hB]
  refine LoopK.intro (fun x w g => ∃ k : Nat, x = ns.length - k ∧ k ≤ ns.length ∧ w 2 = .op 0 3 0 0 ∧ w 3 = .op 1 3 0 0 ∧ w 5 = .int .i64 k ∧ g = [B, B]) ns.length ⟨0, rfl, by omega, ?_, ?_, ?_, rfl⟩ ?_
  · simp (maxSteps := 4000000) only [↓packA, ↓reduceIte, packB, pureOp, quietOp, loadOp, quietB, fr0, cellsK, implies_true, ite_true, ite_false, eq_self, ne_eq, reduceCtorEq, Nat.reduceLT, Nat.reduceLeDiff, Nat.reduceAdd, Nat.reduceMul, Nat.reduceBEq, Nat.reduceEqDiff, Int.reduceToNat, Int.reduceLT, Int.reduceLE, Nat.reduceSub, pl48, ft1, ft2, ft3, ft4, ft22, ft23, ft25, ft57, ft61, ft63]
  · simp (maxSteps := 4000000) only [↓packA, ↓reduceIte, packB, pureOp, quietOp, loadOp, quietB, fr0, cellsK, implies_true, ite_true, ite_false, eq_self, ne_eq, reduceCtorEq, Nat.reduceLT, Nat.reduceLeDiff, Nat.reduceAdd, Nat.reduceMul, Nat.reduceBEq, Nat.reduceEqDiff, Int.reduceToNat, Int.reduceLT, Int.reduceLE, Nat.reduceSub, pl48, ft1, ft2, ft3, ft4, ft22, ft23, ft25, ft57, ft61, ft63]
  · simp (maxSteps := 4000000) only [↓packA, ↓reduceIte, packB, pureOp, quietOp, loadOp, quietB, fr0, cellsK, implies_true, ite_true, ite_false, eq_self, ne_eq, reduceCtorEq, Nat.reduceLT, Nat.reduceLeDiff, Nat.reduceAdd, Nat.reduceMul, Nat.reduceBEq, Nat.reduceEqDiff, Int.reduceToNat, Int.reduceLT, Int.reduceLE, Nat.reduceSub, pl48, ft1, ft2, ft3, ft4, ft22, ft23, ft25, ft57, ft61, ft63, Int.natCast_zero]
  rintro x w g ⟨k, rfl, hk, a2, a3, a5, rfl⟩
  by_cases c : k < ns.length
  · have r1 : (k : Int) < (ns.length : Int) := by omega
    obtain ⟨n, hnk⟩ : ∃ n, ns[k]? = some n := ⟨_, List.getElem?_eq_getElem c⟩
    have rk : (List.map Nd.cells ns)[k]? = some (Nd.cells n) := by rw [List.getElem?_map, hnk]; rfl
    have hp := sameOp_c n (hns n (List.mem_of_getElem? hnk))
    simp (maxSteps := 4000000) only [↓packA, ↓reduceIte, packB, pureOp, quietOp, loadOp, quietB, fr0, cellsK, implies_true, ite_true, ite_false, eq_self, ne_eq, reduceCtorEq, Nat.reduceLT, Nat.reduceLeDiff, Nat.reduceAdd, Nat.reduceMul, Nat.reduceBEq, Nat.reduceEqDiff, Int.reduceToNat, Int.reduceLT, Int.reduceLE, Nat.reduceSub, pl48, ft1, ft2, ft3, ft4, ft22, ft23, ft25, ft57, ft61, ft63, hB, a2, a3, a5, r1, rk, Nd.cells, List.length_map, concA, Int.reduceAdd, Int.reduceSub, Int.reduceNeg, Int.reduceMul, Int.reduceEq, Int.reduceBEq, Int.reduceBNe]
    refine ⟨by omega, by omega, acalls_pure hp rfl ?_⟩
    simp (maxSteps := 4000000) only [↓packA, ↓reduceIte, packB, pureOp, quietOp, loadOp, quietB, fr0, cellsK, implies_true, ite_true, ite_false, eq_self, ne_eq, reduceCtorEq, Nat.reduceLT, Nat.reduceLeDiff, Nat.reduceAdd, Nat.reduceMul, Nat.reduceBEq, Nat.reduceEqDiff, Int.reduceToNat, Int.reduceLT, Int.reduceLE, Nat.reduceSub, pl48, ft1, ft2, ft3, ft4, ft22, ft23, ft25, ft57, ft61, ft63, hB, a2, a3, a5, r1, rk, Nd.cells, List.length_map, concA, Int.reduceAdd, Int.reduceSub, Int.reduceNeg, Int.reduceMul, Int.reduceEq, Int.reduceBEq, Int.reduceBNe]
    exact ⟨by omega, .inl ⟨ns.length - (k + 1), by omega, k + 1, rfl, by omega, by omega⟩⟩
  · have r1 : ¬ (k : Int) < (ns.length : Int) := by omega
    simp (maxSteps := 4000000) only [↓packA, ↓reduceIte, packB, pureOp, quietOp, loadOp, quietB, fr0, cellsK, implies_true, ite_true, ite_false, eq_self, ne_eq, reduceCtorEq, Nat.reduceLT, Nat.reduceLeDiff, Nat.reduceAdd, Nat.reduceMul, Nat.reduceBEq, Nat.reduceEqDiff, Int.reduceToNat, Int.reduceLT, Int.reduceLE, Nat.reduceSub, pl48, ft1, ft2, ft3, ft4, ft22, ft23, ft25, ft57, ft61, ft63, hB, a2, a3, a5, r1, List.length_map, concA, Int.reduceAdd, Int.reduceSub, Int.reduceNeg, Int.reduceMul, Int.reduceEq, Int.reduceBEq, Int.reduceBNe]
    exact .pure _ rfl
end Go.Proofs.YtclbobielhllmaaGreat
end
section
namespace Go.AL
set_option linter.unusedVariables false
set_option linter.unusedSimpArgs false
section
variable {P : Program} {a : Fr} {h : Heap}
@[congr] theorem slice3K_cg {t : TypeId} {x x' y y' z z' : AV} {K : AV → Prop} (e1 : mk x = x') (e2 : mk y = y') (e3 : mk z = z') : slice3K P t x y z K = slice3K P t x' y' z' K := by rw [← e1, ← e2, ← e3]; rfl
theorem slice3_ex {t : TypeId} {K : Prop} : ((∃ e s, telem P t = some e ∧ tsize P e = some s) ∧ K) = optK (telem P t) fun e => optK (tsize P e) fun _ => K := by
  cases ht : telem P t with
  | none => simp [optK]
  | some e => cases hs : tsize P e <;> simp [optK, hs]
end
def oid : AV → Option Nat
  | .osl id _ _ _ _ _ => some id
  | _ => none
def OL (F : Nat → Prop) (k : Nat) (h : Heap) (x : AV) (rows : List (List AV)) : Prop :=
  (x = .nils ∧ rows = []) ∨ ∃ (id cap : Nat) (ex : Bool) (rest : List (List AV)) (ex' : Bool), x = .osl id k 0 rows.length cap ex ∧ ¬ F id ∧ h[id]? = some (.arr k (rows ++ rest) ex') ∧ rows.length ≤ cap ∧ cap ≤ rows.length + rest.length ∧ ∀ e, e ∈ rest → flats e = true
theorem OL.nil {F : Nat → Prop} {k : Nat} {h : Heap} : OL F k h .nils [] := .inl ⟨rfl, rfl⟩
theorem OL.keep {F F' : Nat → Prop} {k : Nat} {h h' : Heap} {x : AV} {rows : List (List AV)} (o : OL F k h x rows) (hh : ∀ id, oid x = some id → id < h.length → ¬ F id → ¬ F' id ∧ h'[id]? = h[id]?) : OL F' k h' x rows := by
  rcases o with o | ⟨id, cap, ex, rest, ex', rfl, h1, h2, h3⟩
  · exact .inl o
  · obtain ⟨q1, q2⟩ := hh _ rfl (List.getElem?_eq_some_iff.1 h2).1 h1
    exact .inr ⟨id, cap, ex, rest, ex', rfl, q1, by rw [q2]; exact h2, h3⟩
theorem OL.set {F : Nat → Prop} {k : Nat} {h : Heap} {x : AV} {rows : List (List AV)} (o : OL F k h x rows) {i : Nat} (hi : F i) (b : Ob) : OL F k (h.set i b) x rows :=
  o.keep fun id _ _ hn => ⟨hn, List.getElem?_set_ne (fun e => hn (by rw [← e]; exact hi))⟩
theorem OL.app {F : Nat → Prop} {k : Nat} {h t : Heap} {x : AV} {rows : List (List AV)} (o : OL F k h x rows) : OL F k (h ++ t) x rows :=
  o.keep fun id _ hl hn => ⟨hn, List.getElem?_append_left hl⟩
theorem OL.weak {F F' : Nat → Prop} {k : Nat} {h : Heap} {x : AV} {rows : List (List AV)} (o : OL F' k h x rows) (hF : ∀ i, F i → F' i) : OL F k h x rows :=
  o.keep fun id _ _ hn => ⟨fun e => hn (hF _ e), rfl⟩
theorem OL.more {F F' : Nat → Prop} {k : Nat} {h h' : Heap} {x : AV} {rows : List (List AV)} (o : OL F k h x rows) (hF : ∀ i, F' i → F i ∨ h.length ≤ i) (hh : ∀ i, i < h.length → ¬ F i → h'[i]? = h[i]?) : OL F' k h' x rows :=
  o.keep fun id _ hl hn => ⟨fun e => by rcases hF _ e with h1 | h1; exact hn h1; omega, hh id hl hn⟩
theorem OL.len {F : Nat → Prop} {k : Nat} {h : Heap} {x : AV} {rows : List (List AV)} (o : OL F k h x rows) : (x = .nils ∧ rows = []) ∨ ∃ id cap ex, x = .osl id k 0 rows.length cap ex := by
  rcases o with o | ⟨id, cap, ex, rest, ex', rfl, h1⟩
  · exact .inl o
  · exact .inr ⟨_, _, _, rfl⟩
theorem ol_append {F : Nat → Prop} {k b : Nat} {h : Heap} {x : AV} {rows xs : List (List AV)} {z : List AV} {K : AV → Heap → Prop} (hz : z.length = k) (hzf : flats z = true) (hF : ∀ i, F i → i < h.length) (o : OL F k h x rows) (hx : xs ≠ []) (hb : (rows.length + xs.length) * b ≤ 140737488355328)
    (hK : ∀ x' h', (∃ id cap ex, x' = .osl id k 0 (rows.length + xs.length) cap ex ∧ (oid x = some id ∨ h.length ≤ id)) → OL F k h' x' (rows ++ xs) → h.length ≤ h'.length → (∀ i, i < h.length → oid x ≠ some i → h'[i]? = h[i]?) → (∀ i, F i → h'[i]? = h[i]?) → K x' h') : apK z b h x xs K := by
  subst hz
  have hg : ∀ (es : List (List AV)), es = rows ++ xs → growK z.length b z h.length h es K := by
    rintro es rfl
    have hlt : ∀ (o : Ob), (h ++ [o])[h.length]? = some o := fun o => by rw [List.getElem?_append_right (Nat.le_refl _), Nat.sub_self]; rfl
    unfold growK
    split
    · intro c hc
      rw [List.length_append] at hc ⊢
      refine hK _ _ ⟨_, _, _, rfl, .inr (Nat.le_refl _)⟩ (.inr ⟨h.length, c, true, _, true, by rw [List.length_append], fun e => by have := hF _ e; omega, hlt _, by rw [List.length_append]; exact hc, by simp; omega, fun e he => by rw [List.eq_of_mem_replicate he]; exact hzf⟩) (by simp) (fun i hi _ => List.getElem?_append_left hi) (fun i hi => List.getElem?_append_left (hF i hi))
    · rw [List.length_append]
      refine hK _ _ ⟨_, _, _, rfl, .inr (Nat.le_refl _)⟩ (.inr ⟨h.length, _, false, [], false, by rw [List.length_append], fun e => by have := hF _ e; omega, by rw [List.append_nil]; exact hlt _, by rw [List.length_append]; omega, by rw [List.length_append]; simp, by simp⟩) (by simp) (fun i hi _ => List.getElem?_append_left hi) (fun i hi => List.getElem?_append_left (hF i hi))
  have h0 : 0 < xs.length := by
    cases xs with
    | nil => exact absurd rfl hx
    | cons _ _ => simp
  rcases o with ⟨rfl, rfl⟩ | ⟨id, cap, ex, rest, ex', rfl, hid, hrow, hlc, hce, hre⟩
  · unfold apK
    exact ⟨by simpa using hb, fun e => absurd e hx, fun _ => hg xs rfl⟩
  · have hidl := (List.getElem?_eq_some_iff.1 hrow).1
    have htk : (rows ++ rest).take rows.length = rows := List.take_left
    unfold apK
    refine ⟨rfl, hb, _, ex', hrow, by simp, fun hle => ⟨by simp; omega, ?_⟩, fun hgt => ?_⟩
    · rw [Nat.zero_add, htk]
      refine hK _ _ ⟨id, cap, ex, rfl, .inl rfl⟩ (.inr ⟨id, cap, ex, (rows ++ rest).drop (rows.length + xs.length), ex', by rw [List.length_append], hid, List.getElem?_set_self hidl, by rw [List.length_append]; exact hle, by simp; omega, fun e he => ?_⟩) (by simp) (fun i hi hne => List.getElem?_set_ne (fun e => hne (by rw [← e]; rfl))) (fun i hi => List.getElem?_set_ne (fun e => hid (by rw [e]; exact hi)))
      rw [List.drop_append, List.drop_of_length_le (by omega), List.nil_append] at he
      exact hre e (List.mem_of_mem_drop he)
    · cases ex with
      | true =>
        show growK z.length b z h.length h _ K
        refine hg _ ?_
        rw [List.drop_zero, htk]
      | false =>
        refine ⟨rfl, ?_⟩
        have hlt : ∀ (o : Ob), (h.set id .dead ++ [o])[h.length]? = some o := fun o => by rw [List.getElem?_append_right (by simp), List.length_set, Nat.sub_self]; rfl
        rw [htk]
        refine hK _ _ ⟨h.length, _, false, rfl, .inr (Nat.le_refl _)⟩ (.inr ⟨h.length, _, false, [], false, by rw [List.length_append], fun e => by have := hF _ e; omega, by rw [List.append_nil]; exact hlt _, by rw [List.length_append]; omega, by rw [List.length_append]; simp, by simp⟩) (by simp) (fun i hi hne => ?_) (fun i hi => ?_)
        · rw [List.getElem?_append_left (by simpa using hi), List.getElem?_set_ne (fun e => hne (by rw [← e]; rfl))]
        · rw [List.getElem?_append_left (by simpa using hF i hi), List.getElem?_set_ne (fun e => hid (by rw [e]; exact hi))]
theorem ol_push {F : Nat → Prop} (k : Nat) {b : Nat} {h : Heap} {x : AV} {rows : List (List AV)} {row : List AV} {z : List AV} {K : AV → Heap → Prop} (hz : z.length = k) (hzf : flats z = true) (hF : ∀ i, F i → i < h.length) (o : OL F k h x rows) (hb : (rows.length + 1) * b ≤ 140737488355328)
    (hK : ∀ x' h', (∃ id cap ex, x' = .osl id k 0 (rows.length + 1) cap ex ∧ (oid x = some id ∨ h.length ≤ id)) → OL F k h' x' (rows ++ [row]) → h.length ≤ h'.length → (∀ i, i < h.length → oid x ≠ some i → h'[i]? = h[i]?) → (∀ i, F i → h'[i]? = h[i]?) → K x' h') : apK z b h x [row] K :=
  ol_append hz hzf hF o (by simp) hb hK
theorem OL.frz {F : Nat → Prop} {k : Nat} {h : Heap} {x : AV} {rows rows' : List (List AV)} (o : OL F k h x rows) (hl : rows'.length = rows.length) (hr : ∀ (i : Nat) (e e' : List AV), rows[i]? = some e → rows'[i]? = some e' → e'.length = e.length ∧ ∀ (q : Nat) (u u' : AV), e[q]? = some u → e'[q]? = some u' → Frz h u u') : Frz h x (.isl k rows') := by
  rcases o with ⟨rfl, rfl⟩ | ⟨id, cap, ex, rest, ex', rfl, hid, hrow, hlc, hce, hre⟩
  · obtain rfl : rows' = [] := List.length_eq_zero_iff.1 hl
    exact .nils k
  · have key : ∀ (j : Nat) (e e' : List AV), (rows ++ rest)[0 + j]? = some e → rows'[j]? = some e' → rows[j]? = some e := fun j e e' he he' => by
      have := (List.getElem?_eq_some_iff.1 he').1
      rw [Nat.zero_add, List.getElem?_append_left (by omega)] at he
      exact he
    exact .osl id k 0 rows.length cap ex ex' _ rows' hrow (by simp) hl (fun j e e' he he' => (hr j e e' (key j e e' he he') he').1) (fun j e e' q u u' he he' => (hr j e e' (key j e e' he he') he').2 q u u')
theorem OL.frz_self {F : Nat → Prop} {k : Nat} {h : Heap} {x : AV} {rows : List (List AV)} (o : OL F k h x rows) (hp : ∀ e, e ∈ rows → pures e = true) : Frz h x (.isl k rows) :=
  o.frz rfl fun i e e' he he' => by
    rw [he] at he'
    obtain rfl := Option.some.inj he'
    exact ⟨rfl, fun q u u' hu hu' => by rw [hu] at hu'; obtain rfl := Option.some.inj hu'; exact .pure _ (pures_get (hp _ (List.mem_of_getElem? he)) hu)⟩
section
variable {h : Heap} {M : Nat}
theorem gR0 (e : h.length = M) (t : Heap) : (h ++ t)[M]? = t[0]? := by subst e; rw [List.getElem?_append_right (Nat.le_refl _), Nat.sub_self]
theorem gR (e : h.length = M) (t : Heap) (j : Nat) : (h ++ t)[M + j]? = t[j]? := by subst e; rw [List.getElem?_append_right (Nat.le_add_right _ _), Nat.add_sub_cancel_left]
theorem sR0 (e : h.length = M) (t : Heap) (o : Ob) : (h ++ t).set M o = h ++ t.set 0 o := by subst e; rw [List.set_append_right _ _ (Nat.le_refl _), Nat.sub_self]
theorem sR (e : h.length = M) (t : Heap) (j : Nat) (o : Ob) : (h ++ t).set (M + j) o = h ++ t.set j o := by subst e; rw [List.set_append_right _ _ (Nat.le_add_right _ _), Nat.add_sub_cancel_left]
theorem tailR (e : h.length = M) : type_of% (And.intro (gR0 e) (And.intro (gR e) (And.intro (sR0 e) (And.intro (sR e) (And.intro (Nat.add_assoc M) (And.intro (@List.append_assoc Ob) (And.intro (@List.cons_append Ob) (@List.nil_append Ob)))))))) := And.intro (gR0 e) (And.intro (gR e) (And.intro (sR0 e) (And.intro (sR e) (And.intro (Nat.add_assoc M) (And.intro (@List.append_assoc Ob) (And.intro (@List.cons_append Ob) (@List.nil_append Ob)))))))
end
end Go.AL
end
section
namespace Go.Proofs.YtclbobielhllmaaGreat
open Go Go.AL
set_option linter.unusedVariables false
set_option linter.unusedSimpArgs false
def zrow : List AV := [.int .i64 0, .int .i64 0, .int .i64 0, .int .i64 0, .bool false, .nils, .nils]
def RowsW (R : List (List AV)) (ns : List Nd) (k m : Nat) : Prop := R.length = m ∧ (∀ i n, i < k → ns[i]? = some n → R[i]? = some (Nd.cells n)) ∧ ∀ i, k ≤ i → i < m → R[i]? = some zrow
theorem RowsW.start {ns : List Nd} {m : Nat} : RowsW (List.replicate m zrow) ns 0 m := ⟨by simp, fun i n h => by omega, fun i _ h => by rw [List.getElem?_replicate, if_pos h]⟩
theorem RowsW.step {R : List (List AV)} {ns : List Nd} {k m : Nat} {n : Nd} (h : RowsW R ns k m) (hk : ns[k]? = some n) (hm : k < m) : RowsW (R.set k (Nd.cells n)) ns (k + 1) m := by
  refine ⟨by rw [List.length_set]; exact h.1, fun i n' hi hn => ?_, fun i hi hm' => ?_⟩
  · by_cases e : i = k
    · subst e
      rw [hk] at hn
      obtain rfl := Option.some.inj hn
      exact List.getElem?_set_self (by rw [h.1]; exact hm)
    · rw [List.getElem?_set_ne (by omega)]
      exact h.2.1 i n' (by omega) hn
  · rw [List.getElem?_set_ne (by omega)]
    exact h.2.2 i (by omega) hm'
theorem RowsW.full {R : List (List AV)} {ns : List Nd} (h : RowsW R ns ns.length (ns.length + 3)) : R = ns.map Nd.cells ++ [zrow, zrow, zrow] := by
  apply List.ext_getElem?
  intro i
  by_cases c : i < ns.length
  · rw [h.2.1 i _ c (List.getElem?_eq_getElem c), List.getElem?_append_left (by simpa using c), List.getElem?_map, List.getElem?_eq_getElem c]
    rfl
  · rw [List.getElem?_append_right (by simpa using c), List.length_map]
    by_cases c2 : i < ns.length + 3
    · rw [h.2.2 i (by omega) c2]
      match hq : i - ns.length with
      | 0 => rfl
      | 1 => rfl
      | 2 => rfl
      | q + 3 => omega
    · rw [List.getElem?_eq_none (by rw [h.1]; omega), List.getElem?_eq_none (by simp; omega)]
set_option maxHeartbeats 4000000 in
set_option maxRecDepth 100000 in
theorem copyTape_c (t : Tp) (ht : t.Ok) (hn : t.ns.length < 100000000) (ho : t.outs.length < 100000000) {h : Heap} {Q : AV → Heap → Prop}
    (hq : ∀ v x h', OL (fun i => i < h.length) 7 h' v (t.ns.map Nd.cells) → OL (fun i => i < h.length) 1 h' x (t.outs.map intE) → h.length < h'.length → (∀ i, i < h.length → h'[i]? = h[i]?) → (∃ a b c, v = .osl a 7 0 t.ns.length b c) → Q (.agg [.int .i64 t.vars, v, x]) h') : ACalls Tryz.prog 16 [t.V] h Q := by
  refine wp16 rfl rfl ?_
  have hns := ht.ns
  obtain ⟨vars, ns, outs⟩ := t
  simp only at hns hn ho hq
  obtain ⟨M, hM⟩ : ∃ M, h.length = M := ⟨_, rfl⟩
  have en : (ns.length : Int) + 3 = ((ns.length + 3 : Nat) : Int) := by omega
  have tR := tailR hM
  simp (maxSteps := 4000000) only [↓packA, ↓reduceIte, packB, pureOp, quietOp, loadOp, quietB, fr0, cellsK, implies_true, ite_true, ite_false, eq_self, ne_eq, reduceCtorEq, Nat.reduceLT, Nat.reduceLeDiff, Nat.reduceAdd, Nat.reduceMul, Nat.reduceBEq, Nat.reduceEqDiff, Int.reduceToNat, Int.reduceLT, Int.reduceLE, Nat.reduceSub, pl16, ft1, ft2, ft3, ft4, ft22, ft23, ft25, ft57, ft59, ft61, ft63, ft109, Tp.V, ints, hM, tR, List.length_map, en]
  refine ⟨by omega, by omega, ?_⟩
  refine LoopK.intro (fun x w z => ∃ (k : Nat) (R : List (List AV)), x = ns.length - k ∧ k ≤ ns.length ∧ RowsW R ns k (ns.length + 3) ∧ w 1 = .op M 3 0 0 ∧ w 2 = .op (M + 1) 3 0 0 ∧ w 3 = .osl (M + 2) 7 0 ns.length (ns.length + 3) true ∧ w 4 = .int .i64 k ∧ z = h ++ [.arr 3 [[AV.int IntKind.i64 vars, AV.isl 7 (List.map Nd.cells ns), AV.isl 1 (List.map intE outs)]] true, .arr 3 [[AV.int IntKind.i64 0, AV.nils, AV.nils]] true, .arr 7 R true]) ns.length ⟨0, _, rfl, by omega, RowsW.start, ?_, ?_, ?_, ?_, rfl⟩ ?_
  rotate_right
  all_goals (try (simp (maxSteps := 4000000) only [↓packA, ↓reduceIte, packB, pureOp, quietOp, loadOp, quietB, fr0, cellsK, implies_true, ite_true, ite_false, eq_self, ne_eq, reduceCtorEq, Nat.reduceLT, Nat.reduceLeDiff, Nat.reduceAdd, Nat.reduceMul, Nat.reduceBEq, Nat.reduceEqDiff, Int.reduceToNat, Int.reduceLT, Int.reduceLE, Nat.reduceSub, pl16, ft1, ft2, ft3, ft4, ft22, ft23, ft25, ft57, ft59, ft61, ft63, ft109, Int.natCast_zero]; done))
  rintro x w z ⟨k, R, rfl, hk, hR, a1, a2, a3, a4, rfl⟩
  by_cases c : k < ns.length
  · have q1 : (k : Int) < (ns.length : Int) := by omega
    obtain ⟨n, hnk⟩ : ∃ n, ns[k]? = some n := ⟨_, List.getElem?_eq_getElem c⟩
    have rk : (List.map Nd.cells ns)[k]? = some (Nd.cells n) := by rw [List.getElem?_map, hnk]; rfl
    have hnok : n.Ok := hns n (List.mem_of_getElem? hnk)
    have hcp := copyRat_c n.neg n.num n.den hnok.num hnok.den hnok.ln hnok.ld
    have rR : R[k]? = some zrow := hR.2.2 k (Nat.le_refl _) (by omega)
    have hRl := hR.1
    have rS : ∀ e, (R.set k e)[k]? = some e := fun e => List.getElem?_set_self (by omega)
    have hst := hR.step hnk (by omega)
    simp (maxSteps := 4000000) only [↓packA, ↓reduceIte, packB, pureOp, quietOp, loadOp, quietB, fr0, cellsK, implies_true, ite_true, ite_false, eq_self, ne_eq, reduceCtorEq, Nat.reduceLT, Nat.reduceLeDiff, Nat.reduceAdd, Nat.reduceMul, Nat.reduceBEq, Nat.reduceEqDiff, Int.reduceToNat, Int.reduceLT, Int.reduceLE, Nat.reduceSub, pl16, ft1, ft2, ft3, ft4, ft22, ft23, ft25, ft57, ft59, ft61, ft63, ft109, a1, a2, a3, a4, q1, rk, rR, rS, hM, tR, List.length_map, List.set_set, zrow, Nd.cells, patch, patch', concA, Int.reduceAdd, Int.reduceSub, Int.reduceNeg, Int.reduceMul, Int.reduceEq, Int.reduceBEq, Int.reduceBNe]
    refine ⟨by omega, by omega, by omega, acalls_fresh hcp (.cons (.pure _ rfl) .nil) fun u hx hz => ⟨_, hz, ?_⟩⟩
    simp (maxSteps := 4000000) only [↓packA, ↓reduceIte, packB, pureOp, quietOp, loadOp, quietB, fr0, cellsK, implies_true, ite_true, ite_false, eq_self, ne_eq, reduceCtorEq, Nat.reduceLT, Nat.reduceLeDiff, Nat.reduceAdd, Nat.reduceMul, Nat.reduceBEq, Nat.reduceEqDiff, Int.reduceToNat, Int.reduceLT, Int.reduceLE, Nat.reduceSub, pl16, ft1, ft2, ft3, ft4, ft22, ft23, ft25, ft57, ft59, ft61, ft63, ft109, ratV, lims, a1, a2, a3, a4, q1, rk, rR, rS, hM, tR, List.length_map, List.set_set, zrow, Nd.cells, patch, patch', concA, Int.reduceAdd, Int.reduceSub, Int.reduceNeg, Int.reduceMul, Int.reduceEq, Int.reduceBEq, Int.reduceBNe]
    exact ⟨by omega, by omega, .inl ⟨ns.length - (k + 1), by omega, k + 1, _, rfl, by omega, hst, by omega, rfl⟩⟩
  · have q1 : ¬ (k : Int) < (ns.length : Int) := by omega
    obtain rfl : k = ns.length := by omega
    have hRf := hR.full
    have hcy := copy_c outs (by omega)
    simp (maxSteps := 4000000) only [↓packA, ↓reduceIte, packB, pureOp, quietOp, loadOp, quietB, fr0, cellsK, implies_true, ite_true, ite_false, eq_self, ne_eq, reduceCtorEq, Nat.reduceLT, Nat.reduceLeDiff, Nat.reduceAdd, Nat.reduceMul, Nat.reduceBEq, Nat.reduceEqDiff, Int.reduceToNat, Int.reduceLT, Int.reduceLE, Nat.reduceSub, pl16, ft1, ft2, ft3, ft4, ft22, ft23, ft25, ft57, ft59, ft61, ft63, ft109, a1, a2, a3, a4, q1, hM, tR, List.length_map]
    refine acalls_shift hcy rfl fun u h0 ⟨hu, hh⟩ => ?_
    subst hu hh
    simp (maxSteps := 4000000) only [↓packA, ↓reduceIte, packB, pureOp, quietOp, loadOp, quietB, fr0, cellsK, implies_true, ite_true, ite_false, eq_self, ne_eq, reduceCtorEq, Nat.reduceLT, Nat.reduceLeDiff, Nat.reduceAdd, Nat.reduceMul, Nat.reduceBEq, Nat.reduceEqDiff, Int.reduceToNat, Int.reduceLT, Int.reduceLE, Nat.reduceSub, pl16, ft1, ft2, ft3, ft4, ft22, ft23, ft25, ft57, ft59, ft61, ft63, ft109, a1, a2, a3, a4, q1, hM, tR, List.length_map, patch, patch', concA, Int.reduceAdd, Int.reduceSub, Int.reduceNeg, Int.reduceMul, Int.reduceEq, Int.reduceBEq, Int.reduceBNe]
    have hg1 : (h ++ [Ob.arr 3 [[AV.int IntKind.i64 vars, AV.isl 7 (List.map Nd.cells ns), AV.isl 1 (List.map intE outs)]] true, Ob.arr 3 [[AV.int IntKind.i64 vars, AV.osl (M + 2) 7 0 ns.length (ns.length + 3) true, AV.osl (M + 3) 1 0 outs.length (outs.length + 3) true]] true, Ob.arr 7 R true, Ob.arr 1 (List.map intE (outs ++ [0, 0, 0])) true])[M + 2]? = some (Ob.arr 7 R true) := gR hM _ 2
    have hg2 : (h ++ [Ob.arr 3 [[AV.int IntKind.i64 vars, AV.isl 7 (List.map Nd.cells ns), AV.isl 1 (List.map intE outs)]] true, Ob.arr 3 [[AV.int IntKind.i64 vars, AV.osl (M + 2) 7 0 ns.length (ns.length + 3) true, AV.osl (M + 3) 1 0 outs.length (outs.length + 3) true]] true, Ob.arr 7 R true, Ob.arr 1 (List.map intE (outs ++ [0, 0, 0])) true])[M + 3]? = some (Ob.arr 1 (List.map intE (outs ++ [0, 0, 0])) true) := gR hM _ 3
    refine hq _ _ _ (.inr ⟨M + 2, ns.length + 3, true, [zrow, zrow, zrow], true, by rw [List.length_map], fun e => by omega, by rw [hg1, hRf], by simp, by simp, fun e he => by simp at he; subst he; rfl⟩) (.inr ⟨M + 3, outs.length + 3, true, List.map intE [0, 0, 0], true, by rw [List.length_map], fun e => by omega, by rw [hg2, List.map_append], by simp, by simp, fun e he => by simp at he; subst he; rfl⟩) (by simp) (fun i hi => List.getElem?_append_left hi) ⟨_, _, _, rfl⟩
end Go.Proofs.YtclbobielhllmaaGreat
end
section
namespace Go.Proofs.YtclbobielhllmaaGreat
open Go Go.AL
set_option linter.unusedVariables false
set_option linter.unusedSimpArgs false
theorem goO_ok (t : Tp) : ∀ r, r ≤ t.outs.length → (t.goO r).2 = 0 → ∀ k, t.outs.length - r ≤ k → k < t.outs.length → 0 ≤ t.outs.getD k default ∧ t.outs.getD k default < t.ns.length
  | 0, _, _, k, hk, hl => by omega
  | r + 1, hr, h, k, hk, hl => by
    unfold Tp.goO at h
    by_cases c : t.outs.getD (t.outs.length - (r + 1)) default < 0 ∨ (t.ns.length : Int) ≤ t.outs.getD (t.outs.length - (r + 1)) default
    · rw [if_pos c] at h
      exact absurd h (show ¬ (108 : Int) = 0 by decide)
    · rw [if_neg c] at h
      by_cases e : k = t.outs.length - (r + 1)
      · subst e
        omega
      · exact goO_ok t r (by omega) h k (by omega) hl
theorem goN_ok (t : Tp) : ∀ r, r ≤ t.ns.length → (t.goN r).2 = 0 → (∀ (k : Nat) (n : Nd), t.ns.length - r ≤ k → t.ns[k]? = some n → n.wrong t.vars k = 0) ∧ (t.goO t.outs.length).2 = 0
  | 0, _, h => ⟨fun k n hk hn => by have := (List.getElem?_eq_some_iff.1 hn).1; omega, h⟩
  | r + 1, hr, h => by
    unfold Tp.goN at h
    by_cases c : (t.ns.getD (t.ns.length - (r + 1)) default).wrong t.vars (t.ns.length - (r + 1) : Nat) ≠ 0
    · rw [if_pos c] at h
      exact absurd h c
    · rw [if_neg c] at h
      obtain ⟨h1, h2⟩ := goN_ok t r (by omega) h
      refine ⟨fun k n hk hn => ?_, h2⟩
      by_cases e : k = t.ns.length - (r + 1)
      · subst e
        rw [List.getD_eq_getElem?_getD, hn] at c
        exact Classical.byContradiction fun hc => c hc
      · exact h1 k n (by omega) hn
theorem check_ok (t : Tp) (h : t.check.2 = 0) : (0 ≤ t.vars ∧ t.vars ≤ 64) ∧ t.ns.length ≤ 2048 ∧ (0 < t.outs.length ∧ t.outs.length ≤ 64) ∧ (∀ (k : Nat) (n : Nd), t.ns[k]? = some n → n.wrong t.vars k = 0) ∧ (∀ k : Nat, k < t.outs.length → 0 ≤ t.outs.getD k default ∧ t.outs.getD k default < t.ns.length) := by
  unfold Tp.check at h
  by_cases c1 : t.vars < 0 ∨ 64 < t.vars
  · rw [if_pos c1] at h; exact absurd h (by decide)
  rw [if_neg c1] at h
  by_cases c2 : 2048 < t.ns.length
  · rw [if_pos c2] at h; exact absurd h (by decide)
  rw [if_neg c2] at h
  by_cases c3 : t.outs.length = 0 ∨ 64 < t.outs.length
  · rw [if_pos c3] at h; exact absurd h (by decide)
  rw [if_neg c3] at h
  obtain ⟨h1, h2⟩ := goN_ok t _ (Nat.le_refl _) h
  exact ⟨by omega, by omega, by omega, fun k n hn => h1 k n (by omega) hn, fun k hk => goO_ok t _ (Nat.le_refl _) h2 k (by omega) hk⟩
theorem wrong_ok {n : Nd} {vars i : Int} (h : n.wrong vars i = 0) : (1 ≤ n.op ∧ n.op ≤ 8) ∧ (n.op = 1 → 0 ≤ n.a ∧ n.a < vars) ∧ (3 ≤ n.op → 0 ≤ n.a ∧ n.a < i) ∧ (two n.op = true → 0 ≤ n.b ∧ n.b < i) := by
  unfold Nd.wrong at h
  have ht : two n.op = true → 3 ≤ n.op := fun ht => by
    have := of_decide_eq_true ht
    omega
  by_cases c1 : n.op < 1 ∨ 8 < n.op
  · rw [if_pos c1] at h; exact absurd h (by decide)
  rw [if_neg c1] at h
  by_cases c2 : n.spare = true
  · rw [if_pos c2] at h; exact absurd h (by decide)
  rw [if_neg c2] at h
  by_cases c3 : n.op = 1
  · rw [if_pos c3] at h
    by_cases c4 : n.a < 0 ∨ vars ≤ n.a
    · rw [if_pos c4] at h; exact absurd h (by decide)
    · exact ⟨by omega, fun _ => by omega, fun h => by omega, fun h => by have := ht h; omega⟩
  rw [if_neg c3] at h
  by_cases c4 : n.op = 2
  · exact ⟨by omega, fun h => absurd h c3, fun h => by omega, fun h => by have := ht h; omega⟩
  rw [if_neg c4] at h
  by_cases c5 : n.a < 0 ∨ i ≤ n.a
  · rw [if_pos c5] at h; exact absurd h (by decide)
  rw [if_neg c5] at h
  by_cases c6 : two n.op = true ∧ (n.b < 0 ∨ i ≤ n.b)
  · rw [if_pos c6] at h; exact absurd h (by decide)
  exact ⟨by omega, fun h => absurd h c3, fun _ => by omega, fun h => by
    have : ¬ (n.b < 0 ∨ i ≤ n.b) := fun hc => c6 ⟨h, hc⟩
    omega⟩
end Go.Proofs.YtclbobielhllmaaGreat
end
section
namespace Go.Proofs.YtclbobielhllmaaGreat
open Go Go.AL
set_option linter.unusedVariables false
set_option linter.unusedSimpArgs false
def shiftN (k : Int) (outs : List Int) (n : Nd) : Nd :=
  if n.op = 1 then ⟨8, outs.getD n.a.toNat default, 0, 1, false, [], []⟩ else
  if two n.op = true then { n with a := n.a + k, b := n.b + k } else
  if one n.op = true then { n with a := n.a + k } else n
def zeroT : Tp := ⟨0, [], []⟩
def compT (f g : Tp) : Tp × Int × Int :=
  if f.check.2 ≠ 0 then (zeroT, f.check) else if g.check.2 ≠ 0 then (zeroT, g.check) else
  if f.vars ≠ g.outs.length then (zeroT, 0, 7) else if 2048 < g.ns.length + f.ns.length then (zeroT, 0, 101) else
  (⟨g.vars, g.ns ++ f.ns.map (shiftN g.ns.length g.outs), f.outs.map (· + g.ns.length)⟩, 0, 0)
def compV (r : Tp × Int × Int) : AV := .tup [r.1.V, .int .i64 r.2.1, .int .i64 r.2.2]
def Tp.cells (t : Tp) : List AV := [.int .i64 t.vars, .isl 7 (List.map Nd.cells t.ns), ints t.outs]
def NL (h : Heap) (v : AV) (rows : List (List AV)) : Prop := (v = .nils ∧ rows = []) ∨ ∃ (id : Nat) (e e2 : Bool), v = .osl id 7 0 rows.length rows.length e ∧ 6 < id ∧ h[id]? = some (.arr 7 rows e2) ∧ 0 < rows.length
def RowOk (row : List AV) (n : Nd) : Prop := row = n.cells ∨ (n.num = [] ∧ n.den = [] ∧ row = [.int .i64 n.op, .int .i64 n.a, .int .i64 n.b, .int .i64 n.c, .bool n.neg, .nils, .nils])
def RowsOk (rows : List (List AV)) (ns : List Nd) : Prop := rows.length = ns.length ∧ ∀ (i : Nat) (row : List AV) (n : Nd), rows[i]? = some row → ns[i]? = some n → RowOk row n
theorem RowsOk.refl {ns : List Nd} : RowsOk (ns.map Nd.cells) ns := ⟨by simp, fun i row n hr hn => by
  rw [List.getElem?_map, hn] at hr
  exact .inl (Option.some.inj hr).symm⟩
theorem RowsOk.snoc {rows : List (List AV)} {ns : List Nd} {row : List AV} {n : Nd} (h : RowsOk rows ns) (hr : RowOk row n) : RowsOk (rows ++ [row]) (ns ++ [n]) := by
  refine ⟨by simp [h.1], fun i r m hi hm => ?_⟩
  by_cases c : i < rows.length
  · rw [List.getElem?_append_left c] at hi
    rw [List.getElem?_append_left (by rw [← h.1]; exact c)] at hm
    exact h.2 i r m hi hm
  · rw [List.getElem?_append_right (by omega)] at hi
    rw [List.getElem?_append_right (by rw [← h.1]; omega), ← h.1] at hm
    cases hq : i - rows.length with
    | zero =>
      rw [hq] at hi hm
      obtain rfl := Option.some.inj hi
      obtain rfl := Option.some.inj hm
      exact hr
    | succ q => rw [hq] at hi; simp at hi
theorem NL.set {h : Heap} {v : AV} {rows : List (List AV)} {i : Nat} {o : Ob} (hNL : NL h v rows) (hi : i ≤ 6) : NL (h.set i o) v rows := by
  rcases hNL with h1 | ⟨id, e, e2, rfl, hid, hrow, h0⟩
  · exact .inl h1
  · exact .inr ⟨id, e, e2, rfl, hid, by rw [List.getElem?_set_ne (by omega)]; exact hrow, h0⟩
theorem NL.ext {h t : Heap} {v : AV} {rows : List (List AV)} (hNL : NL h v rows) : NL (h ++ t) v rows := by
  rcases hNL with h1 | ⟨id, e, e2, rfl, hid, hrow, h0⟩
  · exact .inl h1
  · exact .inr ⟨id, e, e2, rfl, hid, by rw [List.getElem?_append_left (List.getElem?_eq_some_iff.1 hrow).1]; exact hrow, h0⟩
theorem NL.ol {h : Heap} {v : AV} {rows : List (List AV)} (hNL : NL h v rows) : OL (fun i => i ≤ 6) 7 h v rows := by
  rcases hNL with h1 | ⟨id, e, e2, rfl, hid, hrow, h0⟩
  · exact .inl h1
  · exact .inr ⟨id, rows.length, e, [], e2, rfl, by omega, by rw [List.append_nil]; exact hrow, Nat.le_refl _, by simp, by simp⟩
theorem pures_cells {n : Nd} : pures n.cells = true := rfl
theorem rowok_frz {h : Heap} {row : List AV} {n : Nd} (hr : RowOk row n) : n.cells.length = row.length ∧ ∀ (q : Nat) (u u' : AV), row[q]? = some u → n.cells[q]? = some u' → Frz h u u' := by
  rcases hr with rfl | ⟨e1, e2, rfl⟩
  · exact ⟨rfl, fun q u u' h1 h2 => by rw [h1] at h2; obtain rfl := Option.some.inj h2; exact .pure _ (pures_get pures_cells h1)⟩
  · refine ⟨rfl, fun q u u' h1 h2 => ?_⟩
    unfold Nd.cells at h2
    rw [e1, e2] at h2
    match q with
    | 0 => simp at h1 h2; subst h1 h2; exact .pure _ rfl
    | 1 => simp at h1 h2; subst h1 h2; exact .pure _ rfl
    | 2 => simp at h1 h2; subst h1 h2; exact .pure _ rfl
    | 3 => simp at h1 h2; subst h1 h2; exact .pure _ rfl
    | 4 => simp at h1 h2; subst h1 h2; exact .pure _ rfl
    | 5 => simp at h1 h2; subst h1 h2; exact .nils 1
    | 6 => simp at h1 h2; subst h1 h2; exact .nils 1
    | q + 7 => simp at h1
end Go.Proofs.YtclbobielhllmaaGreat
end
section
namespace Go.AL
set_option linter.unusedVariables false
set_option linter.unusedSimpArgs false
inductive FzP (hS : Heap) : AV → AV → Prop
  | same (u : AV) : FzP hS u u
  | frz (u u' : AV) : Frz hS u u' → FzP hS u u'
  | agg (cs cs' : List AV) : cs'.length = cs.length → (∀ (q : Nat) (u u' : AV), cs[q]? = some u → cs'[q]? = some u' → FzP hS u u') → FzP hS (.agg cs) (.agg cs')
  | tup (cs cs' : List AV) : cs'.length = cs.length → (∀ (q : Nat) (u u' : AV), cs[q]? = some u → cs'[q]? = some u' → FzP hS u u') → FzP hS (.tup cs) (.tup cs')
def RowF (hS : Heap) (e e' : List AV) : Prop := e'.length = e.length ∧ ∀ (q : Nat) (u u' : AV), e[q]? = some u → e'[q]? = some u' → FzP hS u u'
theorem RowF.same {hS : Heap} (e : List AV) : RowF hS e e := ⟨rfl, fun q u u' h h' => by rw [h] at h'; obtain rfl := Option.some.inj h'; exact .same _⟩
theorem RowF.one {hS : Heap} {u u' : AV} (h : FzP hS u u') : RowF hS [u] [u'] := ⟨rfl, fun q x x' hx hx' => by
  cases q with
  | zero => simp at hx hx'; subst hx hx'; exact h
  | succ q => simp at hx⟩
def ObF (hS : Heap) : Ob → Ob → Prop
  | .arr k es ex, o => ∃ es', o = .arr k es' ex ∧ es'.length = es.length ∧ ∀ (i : Nat) (e e' : List AV), es[i]? = some e → es'[i]? = some e' → RowF hS e e'
  | .map es c, o => o = .map es c
  | .dead, _ => False
theorem ObF.same {hS : Heap} {o : Ob} (h : o ≠ .dead) : ObF hS o o := by
  cases o with
  | dead => exact absurd rfl h
  | arr k es ex => exact ⟨es, rfl, rfl, fun i e e' h h' => by rw [h] at h'; obtain rfl := Option.some.inj h'; exact .same _⟩
  | map es c => rfl
structure Frozen (h hS hK : Heap) : Prop where
  lenS : hS.length = h.length
  lenK : hK.length = h.length
  s : ∀ (id : Nat) (o : Ob), hS[id]? = some o → o ≠ .dead → h[id]? = some o
  k : ∀ (id : Nat) (o : Ob), hK[id]? = some o → o ≠ .dead → hS[id]? = some .dead ∧ ∃ o0, h[id]? = some o0 ∧ o0 ≠ .dead ∧ ObF hS o0 o
section
variable {I : Nat → Prop} {β : Nat → Nat} {h hS hK : Heap} {w : World}
theorem Frozen.relS (r : Rel I β h w) (f : Frozen h hS hK) : Rel I β hS w :=
  ⟨r.imm, fun id o h1 h2 => by rw [f.lenS]; exact r.obj id o (f.s id o h1 h2) h2, fun id id' o o' h1 h2 h3 h4 => r.inj id id' o o' (f.s id o h1 h2) h2 (f.s id' o' h3 h4) h4⟩
theorem FzP.rel (r : Rel I β h w) (f : Frozen h hS hK) {u u' : AV} (hf : FzP hS u u') : ∀ {v : Value}, VRel I β h.length w u v → VRel (IO I β hS) β hK.length w u' v := by
  induction hf with
  | same u => intro v hv; exact hv.mono (fun b hb => .inl hb) (fun _ _ => rfl) (by rw [f.lenK]; exact Nat.le_refl _) (fun _ _ => rfl) (fun _ _ x => x)
  | frz u u' hu => intro v hv; exact .imm _ _ (hu.rel (f.relS r) (by rw [f.lenS]; exact hv))
  | agg cs cs' h1 _ ih =>
    intro v hv
    obtain ⟨xs, rfl, h2, h3, h4⟩ := hv.agg_inv
    refine .agg cs' xs (by omega) h3 (fun j u' v hu' hv => ?_)
    obtain ⟨u, hu⟩ := getElem?_lt h1 hu'
    exact ih j u u' hu hu' (h4 j u v hu hv)
  | tup cs cs' h1 _ ih =>
    intro v hv
    obtain ⟨xs, rfl, h2, h4⟩ := hv.tup_inv
    refine .tup cs' xs (by omega) (fun j u' v hu' hv => ?_)
    obtain ⟨u, hu⟩ := getElem?_lt h1 hu'
    exact ih j u u' hu hu' (h4 j u v hu hv)
theorem Frozen.own (f : Frozen h hS hK) {b : Nat} (ho : Own hS β b) : Own h β b := by
  obtain ⟨id, o, h1, h2, h3⟩ := ho
  exact ⟨id, o, f.s id o h1 h2, h2, h3⟩
theorem Frozen.rel (r : Rel I β h w) (f : Frozen h hS hK) : Rel (IO I β hS) β hK w := by
  refine ⟨fun b hb => ?_, fun id o h1 h2 => ?_, fun id id' o o' h1 h2 h3 h4 hb => ?_⟩
  · rcases hb with hb | ⟨id, o, h1, h2, rfl⟩
    · exact r.imm b hb
    · exact ((f.relS r).obj id o h1 h2).1
  · obtain ⟨hd, o0, g1, g2, g3⟩ := f.k id o h1 h2
    obtain ⟨q1, q2, q3⟩ := r.obj id o0 g1 g2
    refine ⟨q1, ?_, ?_⟩
    · rintro (hi | ⟨id', o', e1, e2, e3⟩)
      · exact q2 hi
      · obtain rfl := r.inj id' id o' o0 (f.s id' o' e1 e2) e2 g1 g2 e3
        rw [hd] at e1
        exact e2 (Option.some.inj e1).symm
    · cases o0 with
      | dead => exact absurd rfl g2
      | arr k es ex =>
        obtain ⟨es', rfl, hl, hr⟩ := g3
        obtain ⟨cur, t, c1, c2, c3, c4, c5⟩ := q3
        have key : ∀ (i : Nat) (e' : List AV), es'[i]? = some e' → ∃ e, es[i]? = some e ∧ RowF hS e e' := fun i e' he' => by
          have hlt := (List.getElem?_eq_some_iff.1 he').1
          have he : es[i]? = some (es[i]'(by omega)) := List.getElem?_eq_getElem (by omega)
          exact ⟨_, he, hr i _ e' he he'⟩
        refine ⟨cur, t, c1, fun i e' he' => ?_, by rw [hl]; exact c3, fun hx => by rw [hl]; exact c4 hx, fun i e' j u' he' hu' => ?_⟩
        · obtain ⟨e, he, h5⟩ := key i e' he'
          rw [h5.1]
          exact c2 i e he
        · obtain ⟨e, he, h5⟩ := key i e' he'
          have hjl := (List.getElem?_eq_some_iff.1 hu').1
          have h51 := h5.1
          have hu : e[j]? = some (e[j]'(by omega)) := List.getElem?_eq_getElem (by omega)
          obtain ⟨v, d1, d2, d3⟩ := c5 i e j _ he hu
          exact ⟨v, d1, (h5.2 j _ u' hu hu').rel r f d2, d3⟩
      | map es c =>
        subst g3
        refine q3.mono fun u v hv => ?_
        exact hv.mono (fun b hb => .inl hb) (fun _ _ => rfl) (by rw [f.lenK]; exact Nat.le_refl _) (fun _ _ => rfl) (fun _ _ x => x)
  · obtain ⟨_, a, g1, g2, _⟩ := f.k id o h1 h2
    obtain ⟨_, a', g3, g4, _⟩ := f.k id' o' h3 h4
    exact r.inj id id' a a' g1 g2 g3 g4 hb
theorem Frozen.ext (f : Frozen h hS hK) : Ext I β h w (IO I β hS) β hK w :=
  ⟨rfl, rfl, rfl, Nat.le_refl _, by rw [f.lenK]; exact Nat.le_refl _, fun _ _ => rfl, fun _ x => .inl x, fun b hb => by
    rcases hb with hb | hb
    · exact .inl hb
    · exact .inr (.inl (f.own hb)), fun b hb => by
    obtain ⟨id, o, h1, h2, h3⟩ := hb
    obtain ⟨_, o0, g1, g2, _⟩ := f.k id o h1 h2
    exact .inl ⟨id, o0, g1, g2, h3⟩, fun _ _ _ => rfl, fun _ _ x => x⟩
end
section
variable {P : Program}
theorem acalls_freeze {f : FuncId} {args : List AV} {h : Heap} {Q : AV → Heap → Prop} (hc : ACalls P f args h fun u h' => ∃ hS hK u', Frozen h' hS hK ∧ FzP hS u u' ∧ Q u' hK) : ACalls P f args h Q := by
  refine ⟨hc.1, fun I β w vs r hv => (hc.2 I β w vs r hv).mono ?_⟩
  rintro e w' ⟨cv, u, I', β', h', h1, ⟨hS, hK, u', hf, hu, hq⟩, h5, h6, h7⟩
  exact ⟨cv, u', _, β', hK, h1, hq, h5.trans hf.ext, hf.rel h6, hu.rel h6 hf h7⟩
end
theorem frozen_one {h : Heap} {M L k : Nat} {o : Ob} {rows rows' : List (List AV)} {ex : Bool} (hM : h[M]? = some o) (hd : o ≠ .dead) (hLM : L ≠ M) (hL : h[L]? = some (.arr k rows ex)) (hr : rows'.length = rows.length) (hrows : ∀ (i : Nat) (e e' : List AV), rows[i]? = some e → rows'[i]? = some e' → RowF ((List.replicate h.length Ob.dead).set M o) e e') :
    Frozen h ((List.replicate h.length Ob.dead).set M o) ((h.set M .dead).set L (.arr k rows' ex)) := by
  have hMl := (List.getElem?_eq_some_iff.1 hM).1
  have hLl := (List.getElem?_eq_some_iff.1 hL).1
  have hdead : ∀ id, id < h.length → id ≠ M → ((List.replicate h.length Ob.dead).set M o)[id]? = some .dead := fun id hl hne => by
    rw [List.getElem?_set_ne (Ne.symm hne), List.getElem?_replicate, if_pos hl]
  refine ⟨by simp, by simp, fun id x h1 h2 => ?_, fun id x h1 h2 => ?_⟩
  · by_cases e : id = M
    · subst e
      rw [List.getElem?_set_self (by simpa using hMl)] at h1
      rw [← h1]
      exact hM
    · rw [List.getElem?_set_ne (Ne.symm e), List.getElem?_replicate] at h1
      split at h1
      · exact absurd (Option.some.inj h1).symm h2
      · cases h1
  · have hlt := (List.getElem?_eq_some_iff.1 h1).1
    simp only [List.length_set] at hlt
    by_cases e : id = L
    · subst e
      rw [List.getElem?_set_self (by simpa using hLl)] at h1
      obtain rfl := Option.some.inj h1
      exact ⟨hdead id hlt hLM, _, hL, by simp, rows', rfl, hr, hrows⟩
    · rw [List.getElem?_set_ne (Ne.symm e)] at h1
      by_cases e2 : id = M
      · subst e2
        rw [List.getElem?_set_self hMl] at h1
        exact absurd (Option.some.inj h1).symm h2
      · rw [List.getElem?_set_ne (Ne.symm e2)] at h1
        exact ⟨hdead id hlt e2, x, h1, h2, ObF.same h2⟩
end Go.AL
end
