/- Texts of one claim bound together: PRu, PRv, PRw, PRx, PRy, PRz, PSa, PSb, PSc, POa, PSd, ALu, PSg, PSf. -/
import Derived.Test.YtgdlkhgfehclpaaEC3
import Derived.Test.YtgdlkhgfehclpaaEC2

section
/- The document's shift to the left. No condition. -/
namespace Go.Proofs.Ytgdlkhgfehclpaa
open Go Go.AL
set_option linter.unusedVariables false
set_option linter.unusedSimpArgs false
theorem or64' {q t lo : Nat} (hlo : lo < 2 ^ t) (h : q * 2 ^ t + lo < 2 ^ 64) : IntKind.u64.wrap ((BitVec.ofInt IntKind.u64.bits ((lo : Nat) : Int) ||| BitVec.ofInt IntKind.u64.bits ((q * 2 ^ t : Nat) : Int)).toNat) = ((q * 2 ^ t + lo : Nat) : Int) := by
  rw [BitVec.or_comm]
  exact or64 hlo h
theorem ra_step {X P T A x s acc t : Int} (h : X + P * acc = A * (T * s)) (ht : t = x * s + acc) : X + P * (t % 4294967296) + P * 4294967296 * (t / 4294967296) = A * (T * s) + P * (x * s) := by
  have e : P * (t % 4294967296) + P * (4294967296 * (t / 4294967296)) = P * (x * s) + P * acc := by
    rw [← Int.mul_add, Int.emod_add_mul_ediv, ht, Int.mul_add]
  rw [Int.mul_assoc P]
  omega
set_option maxHeartbeats 16000000 in
set_option maxRecDepth 100000 in
theorem raised_c (l : List Int) (hL : LI l) (z : Nat) (hl : l.length < 100000000) (hz : z < 4000000000) : ACalls Try.prog 135 [lims l, .int .i64 z] [] fun v h => ∃ r : List Int, Norm r ∧ val r = val l * 2 ^ z ∧ OFz h v (lims r) := by
  refine wp135 rfl rfl ?_
  by_cases c0 : l.length = 0
  · have r0 : (l.length : Int) = 0 := by omega
    obtain rfl := List.length_eq_zero_iff.1 c0
    simp (maxSteps := 4000000) only [↓packA, ↓reduceIte, packB, pureOp, quietOp, loadOp, quietB, fr0, cellsK, implies_true, ite_true, ite_false, eq_self, ne_eq, reduceCtorEq, Nat.reduceLT, Nat.reduceLeDiff, Nat.reduceAdd, Nat.reduceMul, Nat.reduceBEq, Nat.reduceEqDiff, Int.reduceToNat, Int.reduceLT, Int.reduceLE, Nat.reduceSub, pl135, ft1, ft3, ft78, ft115, ft116, ft173, lims, r0, Int.cast_ofNat_Int, Int.natCast_zero, Int.natCast_one, Int.reduceAdd, Int.reduceSub, Int.reduceNeg, Int.reduceMul, Int.reduceToNat, Int.reduceLT, Int.reduceLE, Int.reduceEq, Int.reduceBEq, Int.reduceBNe, Nat.reduceSub, Nat.reduceLT, List.getD_cons_zero, List.getD_cons_succ, List.length_singleton, Bool.and_true, Bool.and_false]
    exact ⟨[], Norm.nil, by simp [val], .nils 1⟩
  have r0 : ¬ (l.length : Int) = 0 := by omega
  have q0 : (z : Int).tdiv 32 = ((z / 32 : Nat) : Int) := by rw [Int.tdiv_eq_ediv_of_nonneg (by omega)]; omega
  have q1 : (z : Int).tmod 32 = ((z % 32 : Nat) : Int) := by rw [Int.tmod_eq_emod_of_nonneg (by omega)]; omega
  have q2 : IntKind.u64.wrap ((z % 32 : Nat) : Int) = ((z % 32 : Nat) : Int) := cu64 (by omega)
  have q3 : (((z / 32 : Nat) : Int)).toNat = z / 32 := Int.toNat_natCast _
  have q4 : IntKind.i64.wrap ((z / 32 : Nat) : Int) = ((z / 32 : Nat) : Int) := IntWalk.i64_in _ (by omega)
  simp (maxSteps := 4000000) only [↓packA, ↓reduceIte, packB, pureOp, quietOp, loadOp, quietB, fr0, cellsK, implies_true, ite_true, ite_false, eq_self, ne_eq, reduceCtorEq, Nat.reduceLT, Nat.reduceLeDiff, Nat.reduceAdd, Nat.reduceMul, Nat.reduceBEq, Nat.reduceEqDiff, Int.reduceToNat, Int.reduceLT, Int.reduceLE, Nat.reduceSub, pl135, ft1, ft3, ft78, ft115, ft116, ft173, lims, limR, r0, q0, q1, q2, q3, q4, Int.cast_ofNat_Int, Int.natCast_zero, Int.natCast_one, Int.reduceAdd, Int.reduceSub, Int.reduceNeg, Int.reduceMul, Int.reduceToNat, Int.reduceLT, Int.reduceLE, Int.reduceEq, Int.reduceBEq, Int.reduceBNe, Nat.reduceSub, Nat.reduceLT, List.getD_cons_zero, List.getD_cons_succ, List.length_singleton, Bool.and_true, Bool.and_false]
  obtain ⟨q, eq⟩ : ∃ q, q = z / 32 := ⟨_, rfl⟩
  obtain ⟨s, es⟩ : ∃ s, s = z % 32 := ⟨_, rfl⟩
  have ez : z = 32 * q + s := by omega
  have hs : s < 32 := by omega
  clear q0 q1 q2 q3 q4
  rw [← eq, ← es]
  have eP : (2 : Int) ^ z = 4294967296 ^ q * ((2 ^ s : Nat) : Int) := by
    rw [ez, Int.pow_add, Int.pow_mul]
    simp
  clear eq es
  have hT : 2 ^ s ≤ 2 ^ 31 := Nat.pow_le_pow_right (by decide) (by omega)
  have hT0 : 0 < 2 ^ s := Nat.pow_pos (by decide)
  refine ⟨by omega, ?_⟩
  refine LoopK.intro (fun x w g => ∃ (k acc id : Nat) (es1 : List Int) (e e2 : Bool), x = l.length - k ∧ k ≤ l.length ∧ es1.length = q + k ∧ LI es1 ∧ acc < 2 ^ s ∧ val es1 + 4294967296 ^ (q + k) * (acc : Int) = val (l.take k) * (4294967296 ^ q * ((2 ^ s : Nat) : Int)) ∧ w 0 = lims l ∧ w 5 = .osl id 1 0 (q + k) (q + k) e ∧ w 6 = .int .u64 s ∧ w 7 = .int .u64 acc ∧ w 8 = .int .i64 k ∧ g[id]? = some (.arr 1 (List.map u32E es1) e2)) l.length ⟨0, 0, 0, List.replicate q 0, true, true, rfl, by omega, by simp, LI.rep, hT0, ?_, ?_, ?_, ?_, ?_, ?_, rfl⟩ ?_
  · rw [val_rep]; simp [val]
  · simp (maxSteps := 4000000) only [↓packA, ↓reduceIte, packB, pureOp, quietOp, loadOp, quietB, fr0, cellsK, implies_true, ite_true, ite_false, eq_self, ne_eq, reduceCtorEq, Nat.reduceLT, Nat.reduceLeDiff, Nat.reduceAdd, Nat.reduceMul, Nat.reduceBEq, Nat.reduceEqDiff, Int.reduceToNat, Int.reduceLT, Int.reduceLE, Nat.reduceSub, pl135, ft1, ft3, ft78, ft115, ft116, ft173, lims]
  · simp (maxSteps := 4000000) only [↓packA, ↓reduceIte, packB, pureOp, quietOp, loadOp, quietB, fr0, cellsK, implies_true, ite_true, ite_false, eq_self, ne_eq, reduceCtorEq, Nat.reduceLT, Nat.reduceLeDiff, Nat.reduceAdd, Nat.reduceMul, Nat.reduceBEq, Nat.reduceEqDiff, Int.reduceToNat, Int.reduceLT, Int.reduceLE, Nat.reduceSub, pl135, ft1, ft3, ft78, ft115, ft116, ft173, lims]
  · simp (maxSteps := 4000000) only [↓packA, ↓reduceIte, packB, pureOp, quietOp, loadOp, quietB, fr0, cellsK, implies_true, ite_true, ite_false, eq_self, ne_eq, reduceCtorEq, Nat.reduceLT, Nat.reduceLeDiff, Nat.reduceAdd, Nat.reduceMul, Nat.reduceBEq, Nat.reduceEqDiff, Int.reduceToNat, Int.reduceLT, Int.reduceLE, Nat.reduceSub, pl135, ft1, ft3, ft78, ft115, ft116, ft173, lims]
    exact cu64 (by omega)
  · simp (maxSteps := 4000000) only [↓packA, ↓reduceIte, packB, pureOp, quietOp, loadOp, quietB, fr0, cellsK, implies_true, ite_true, ite_false, eq_self, ne_eq, reduceCtorEq, Nat.reduceLT, Nat.reduceLeDiff, Nat.reduceAdd, Nat.reduceMul, Nat.reduceBEq, Nat.reduceEqDiff, Int.reduceToNat, Int.reduceLT, Int.reduceLE, Nat.reduceSub, pl135, ft1, ft3, ft78, ft115, ft116, ft173, lims, Int.natCast_zero]
  · simp (maxSteps := 4000000) only [↓packA, ↓reduceIte, packB, pureOp, quietOp, loadOp, quietB, fr0, cellsK, implies_true, ite_true, ite_false, eq_self, ne_eq, reduceCtorEq, Nat.reduceLT, Nat.reduceLeDiff, Nat.reduceAdd, Nat.reduceMul, Nat.reduceBEq, Nat.reduceEqDiff, Int.reduceToNat, Int.reduceLT, Int.reduceLE, Nat.reduceSub, pl135, ft1, ft3, ft78, ft115, ft116, ft173, lims, Int.natCast_zero]
  rintro x w g ⟨k, acc, id, es1, e, e2, rfl, hk, hl1, hL1, ha, hv, a0, a5, a6, a7, a8, hid⟩
  by_cases c : k < l.length
  · have r1 : (k : Int) < (l.length : Int) := by omega
    have hx := hL.get (i := k)
    have eN := val_take_next (l := l) (k := k)
    obtain ⟨x, ex⟩ := Int.eq_ofNat_of_zero_le hx.1
    have cx : IntKind.u64.wrap (x : Int) = x := cu64 (by omega)
    have hxs : x * 2 ^ s ≤ 4294967295 * 2 ^ 31 := Nat.mul_le_mul (by omega) hT
    have sx := shl64 (l := x) (s := s) (by omega) (by omega)
    have ox := or64' (q := x) (t := s) (lo := acc) ha (by omega)
    have f1 : IntKind.u32.wrap ((x * 2 ^ s + acc : Nat) : Int) = ((x * 2 ^ s + acc : Nat) : Int) % 4294967296 := conv32
    have f3 := shr64 (l := x * 2 ^ s + acc) (s := 32) (by omega)
    obtain ⟨M, hM⟩ : ∃ M, g.length = M := ⟨_, rfl⟩
    have rM : ∀ o, (g ++ [o])[M]? = some o := fun o => by rw [List.getElem?_append_right (by omega)]; simp [hM]
    have hidl := (List.getElem?_eq_some_iff.1 hid).1
    have rid : ∀ o, (g ++ [o])[id]? = some (.arr 1 (List.map u32E es1) e2) := fun o => by rw [List.getElem?_append_left hidl]; exact hid
    have r4 : ¬ q + k + 1 ≤ q + k := by omega
    have tk : List.take (q + k) (List.map u32E es1) = List.map u32E es1 := List.take_of_length_le (by rw [List.length_map]; omega)
    have lk : (List.map u32E es1).length = q + k := by rw [List.length_map, hl1]
    have hacc : (x * 2 ^ s + acc) / 2 ^ 32 < 2 ^ s := by
      rw [Nat.div_lt_iff_lt_mul (by decide)]
      have h1 : (x + 1) * 2 ^ s ≤ 4294967296 * 2 ^ s := Nat.mul_le_mul_right _ (by omega)
      rw [Nat.add_mul, Nat.one_mul] at h1
      omega
    have key : val (es1 ++ [((x * 2 ^ s + acc : Nat) : Int) % 4294967296]) + 4294967296 ^ (q + (k + 1)) * (((x * 2 ^ s + acc) / 2 ^ 32 : Nat) : Int) = val (l.take (k + 1)) * (4294967296 ^ q * ((2 ^ s : Nat) : Int)) := by
      have h1 := ra_step hv (t := ((x * 2 ^ s + acc : Nat) : Int)) (x := (x : Int)) (by rw [← Int.natCast_mul]; omega)
      have h2 : (4294967296 : Int) ^ k * x * (4294967296 ^ q * ((2 ^ s : Nat) : Int)) = 4294967296 ^ (q + k) * ((x : Int) * ((2 ^ s : Nat) : Int)) := by
        rw [Int.pow_add]
        ac_rfl
      rw [val_snoc, hl1, eN, ex, Int.add_mul, h2, ← h1, show q + (k + 1) = q + k + 1 by omega, Int.pow_succ]
      rfl
    have t1 : ∀ o : List AV, List.take 1 [o] = [o] := fun o => rfl
    cases e
    · simp (maxSteps := 4000000) only [↓packA, ↓reduceIte, packB, pureOp, quietOp, loadOp, quietB, fr0, cellsK, implies_true, ite_true, ite_false, eq_self, ne_eq, reduceCtorEq, Nat.reduceLT, Nat.reduceLeDiff, Nat.reduceAdd, Nat.reduceMul, Nat.reduceBEq, Nat.reduceEqDiff, Int.reduceToNat, Int.reduceLT, Int.reduceLE, Nat.reduceSub, pl135, ft1, ft3, ft78, ft115, ft116, ft173, lims, limR, a0, a5, a6, a7, a8, hM, rM, rid, r4, r1, ex, cx, sx, ox, f3, f1, t1, tk, lk, List.drop_zero, List.nil_append, List.length_append, List.length_cons, List.length_nil]
      refine ⟨by omega, by omega, by omega, by omega, by omega, .inl ⟨l.length - (k + 1), by omega, k + 1, _, M + 1, es1 ++ [((x * 2 ^ s + acc : Nat) : Int) % 4294967296], false, false, rfl, by omega, by rw [List.length_append, hl1]; rfl, hL1.app (LI.cons (by omega) LI.nil), hacc, key, rfl, rfl, by omega, ?_⟩⟩
      rw [List.getElem?_append_right (by simp; omega)]
      simp [hM]
    · simp (maxSteps := 4000000) only [↓packA, ↓reduceIte, packB, pureOp, quietOp, loadOp, quietB, fr0, cellsK, implies_true, ite_true, ite_false, eq_self, ne_eq, reduceCtorEq, Nat.reduceLT, Nat.reduceLeDiff, Nat.reduceAdd, Nat.reduceMul, Nat.reduceBEq, Nat.reduceEqDiff, Int.reduceToNat, Int.reduceLT, Int.reduceLE, Nat.reduceSub, pl135, ft1, ft3, ft78, ft115, ft116, ft173, lims, limR, a0, a5, a6, a7, a8, hM, rM, rid, r4, r1, ex, cx, sx, ox, f3, f1, t1, tk, lk, List.drop_zero, List.nil_append, List.length_append, List.length_cons, List.length_nil, Int.cast_ofNat_Int, Int.natCast_zero, Int.natCast_one, Int.reduceAdd, Int.reduceSub, Int.reduceNeg, Int.reduceMul, Int.reduceToNat, Int.reduceLT, Int.reduceLE, Int.reduceEq, Int.reduceBEq, Int.reduceBNe, Nat.reduceSub, Nat.reduceLT, List.getD_cons_zero, List.getD_cons_succ, List.length_singleton, Bool.and_true, Bool.and_false]
      refine ⟨by omega, by omega, by omega, by omega, by omega, .inl ⟨l.length - (k + 1), by omega, k + 1, _, M + 1, es1 ++ [((x * 2 ^ s + acc : Nat) : Int) % 4294967296], false, false, rfl, by omega, by rw [List.length_append, hl1]; rfl, hL1.app (LI.cons (by omega) LI.nil), hacc, key, rfl, rfl, by omega, ?_⟩⟩
      rw [List.getElem?_append_right (by simp; omega)]
      simp [hM]
  · have r1 : ¬ (k : Int) < (l.length : Int) := by omega
    obtain rfl : k = l.length := by omega
    obtain ⟨M, hM⟩ : ∃ M, g.length = M := ⟨_, rfl⟩
    have rM : ∀ o, (g ++ [o])[M]? = some o := fun o => by rw [List.getElem?_append_right (by omega)]; simp [hM]
    have hidl := (List.getElem?_eq_some_iff.1 hid).1
    have rid : ∀ o, (g ++ [o])[id]? = some (.arr 1 (List.map u32E es1) e2) := fun o => by rw [List.getElem?_append_left hidl]; exact hid
    have r4 : ¬ q + l.length + 1 ≤ q + l.length := by omega
    have tk : List.take (q + l.length) (List.map u32E es1) = List.map u32E es1 := List.take_of_length_le (by rw [List.length_map]; omega)
    have lk : (List.map u32E es1).length = q + l.length := by rw [List.length_map, hl1]
    have t1 : ∀ o : List AV, List.take 1 [o] = [o] := fun o => rfl
    have wa : IntKind.u32.wrap (acc : Int) = acc := wrap32 (by omega)
    have hLf : LI (es1 ++ [(acc : Int)]) := hL1.app (LI.cons (by omega) LI.nil)
    have hlf : (es1 ++ [(acc : Int)]).length = q + l.length + 1 := by rw [List.length_append, hl1]; rfl
    have hvf : val (es1 ++ [(acc : Int)]) = val l * 2 ^ z := by
      rw [val_snoc, hl1, hv, List.take_length, eP]
    cases e
    · simp (maxSteps := 4000000) only [↓packA, ↓reduceIte, packB, pureOp, quietOp, loadOp, quietB, fr0, cellsK, implies_true, ite_true, ite_false, eq_self, ne_eq, reduceCtorEq, Nat.reduceLT, Nat.reduceLeDiff, Nat.reduceAdd, Nat.reduceMul, Nat.reduceBEq, Nat.reduceEqDiff, Int.reduceToNat, Int.reduceLT, Int.reduceLE, Nat.reduceSub, pl135, ft1, ft3, ft78, ft115, ft116, ft173, lims, limR, a0, a5, a6, a7, a8, hM, rM, rid, r4, r1, wa, t1, tk, lk, List.drop_zero, List.nil_append, List.length_append, List.length_cons, List.length_nil]
      refine ⟨by omega, norm_o (es := es1 ++ [(acc : Int)]) (ex' := false) ?_ (by rw [List.length_append, hl1]; exact Nat.le_refl _) (Nat.le_refl _) (by omega) ?_⟩
      · rw [List.getElem?_append_right (by simp; omega)]
        simp [hM]
      simp (maxSteps := 4000000) only [↓packA, ↓reduceIte, packB, pureOp, quietOp, loadOp, quietB, fr0, cellsK, implies_true, ite_true, ite_false, eq_self, ne_eq, reduceCtorEq, Nat.reduceLT, Nat.reduceLeDiff, Nat.reduceAdd, Nat.reduceMul, Nat.reduceBEq, Nat.reduceEqDiff, Int.reduceToNat, Int.reduceLT, Int.reduceLE, Nat.reduceSub, pl135, ft1, ft3, ft78, ft115, ft116, ft173]
      refine ⟨_, norm_take hLf (n := q + l.length + 1) (by omega), ?_, ofz_lims (ex' := false) ?_ (trmN_le _) (by omega)⟩
      · rw [trmN_val _ (by omega), List.take_of_length_le (by omega)]
        exact hvf
      · rw [List.getElem?_append_right (by simp; omega)]
        simp [hM]
    · simp (maxSteps := 4000000) only [↓packA, ↓reduceIte, packB, pureOp, quietOp, loadOp, quietB, fr0, cellsK, implies_true, ite_true, ite_false, eq_self, ne_eq, reduceCtorEq, Nat.reduceLT, Nat.reduceLeDiff, Nat.reduceAdd, Nat.reduceMul, Nat.reduceBEq, Nat.reduceEqDiff, Int.reduceToNat, Int.reduceLT, Int.reduceLE, Nat.reduceSub, pl135, ft1, ft3, ft78, ft115, ft116, ft173, lims, limR, a0, a5, a6, a7, a8, hM, rM, rid, r4, r1, wa, t1, tk, lk, List.drop_zero, List.nil_append, List.length_append, List.length_cons, List.length_nil, Int.cast_ofNat_Int, Int.natCast_zero, Int.natCast_one, Int.reduceAdd, Int.reduceSub, Int.reduceNeg, Int.reduceMul, Int.reduceToNat, Int.reduceLT, Int.reduceLE, Int.reduceEq, Int.reduceBEq, Int.reduceBNe, Nat.reduceSub, Nat.reduceLT, List.getD_cons_zero, List.getD_cons_succ, List.length_singleton, Bool.and_true, Bool.and_false]
      refine ⟨by omega, norm_o (es := es1 ++ [(acc : Int)]) (ex' := false) ?_ (by rw [List.length_append, hl1]; exact Nat.le_refl _) (Nat.le_refl _) (by omega) ?_⟩
      · rw [List.getElem?_append_right (by simp; omega)]
        simp [hM]
      simp (maxSteps := 4000000) only [↓packA, ↓reduceIte, packB, pureOp, quietOp, loadOp, quietB, fr0, cellsK, implies_true, ite_true, ite_false, eq_self, ne_eq, reduceCtorEq, Nat.reduceLT, Nat.reduceLeDiff, Nat.reduceAdd, Nat.reduceMul, Nat.reduceBEq, Nat.reduceEqDiff, Int.reduceToNat, Int.reduceLT, Int.reduceLE, Nat.reduceSub, pl135, ft1, ft3, ft78, ft115, ft116, ft173]
      refine ⟨_, norm_take hLf (n := q + l.length + 1) (by omega), ?_, ofz_lims (ex' := false) ?_ (trmN_le _) (by omega)⟩
      · rw [trmN_val _ (by omega), List.take_of_length_le (by omega)]
        exact hvf
      · rw [List.getElem?_append_right (by simp; omega)]
        simp [hM]
end Go.Proofs.Ytgdlkhgfehclpaa
end

section
/- The document's gcd, walked. No condition. -/
namespace Go.Proofs.Ytgdlkhgfehclpaa
open Go Go.AL
set_option linter.unusedVariables false
set_option linter.unusedSimpArgs false
theorem gcd_two {z : Nat} {X V : Int} (hV : V % 2 = 1) : Int.gcd (2 ^ z * X) V = Int.gcd X V := by
  show Nat.gcd (2 ^ z * X).natAbs V.natAbs = Nat.gcd X.natAbs V.natAbs
  rw [Int.natAbs_mul, Int.natAbs_pow]
  apply Nat.Coprime.gcd_mul_left_cancel
  apply Nat.Coprime.pow_left
  show Nat.gcd 2 V.natAbs = 1
  rw [Nat.gcd_rec, show V.natAbs % 2 = 1 by omega]
  rfl
theorem gcd_min {z1 z2 : Nat} {X Y : Int} (hX : X % 2 = 1) (hY : Y % 2 = 1) : (Int.gcd (2 ^ z1 * X) (2 ^ z2 * Y) : Int) = Int.gcd X Y * 2 ^ (min z1 z2) := by
  have key : ∀ (z d : Nat) (X Y : Int), X % 2 = 1 → (Int.gcd (2 ^ z * X) (2 ^ (z + d) * Y) : Int) = Int.gcd X Y * 2 ^ z := by
    intro z d X Y hX
    rw [Int.pow_add, Int.mul_assoc, Int.gcd_mul_left, Int.gcd_comm X, gcd_two hX, Int.gcd_comm Y, Int.natAbs_pow]
    rw [Nat.mul_comm]
    simp
  rcases Nat.le_total z1 z2 with h | h
  · obtain ⟨d, rfl⟩ : ∃ d, z2 = z1 + d := ⟨z2 - z1, by omega⟩
    rw [Nat.min_eq_left h]
    exact key z1 d X Y hX
  · obtain ⟨d, rfl⟩ : ∃ d, z1 = z2 + d := ⟨z1 - z2, by omega⟩
    rw [Nat.min_eq_right h, Int.gcd_comm, Int.gcd_comm X]
    exact key z2 d Y X hY
theorem gcd_take {X V : Int} : Int.gcd (X - V) V = Int.gcd X V := by
  have := gcd_step (A := X) (B := V) (q := 1) (r := X - V) (by omega)
  rw [← this, Int.gcd_comm]
theorem frz_lims {h : Heap} {id len cap : Nat} {ex ex' : Bool} {es : List Int} (hid : h[id]? = some (.arr 1 (List.map u32E es) ex')) (hl : len ≤ es.length) : Frz h (.osl id 1 0 len cap ex) (lims (es.take len)) := by
  have := Frz.flat (h := h) (id := id) (k := 1) (i := 0) (len := len) (cap := cap) (ex := ex) (ex' := ex') (es := List.map u32E es) hid (by simp; omega) (fun e he => by
    obtain ⟨x, _, rfl⟩ := List.mem_map.1 he; rfl)
  rw [List.drop_zero, ← List.map_take] at this
  exact this
set_option maxRecDepth 100000 in
theorem copied_o (l : List Int) (hl : l.length < 100000000) (h0 : 0 < l.length) {h : Heap} {Q : AV → Heap → Prop} (hq : Q (.osl h.length 1 0 l.length l.length false) (h ++ [.arr 1 (List.map u32E l) false])) : ACalls Try.prog 133 [lims l] h Q := by
  refine wp133 rfl rfl ?_
  cases l with
  | nil => simp at h0
  | cons y ys =>
    have lk : (List.map u32E ys).length = ys.length := List.length_map ..
    unfold lims at *
    rw [List.map_cons] at hq ⊢
    rw [List.length_cons] at hq hl
    simp (maxSteps := 4000000) only [↓packA, ↓reduceIte, packB, pureOp, quietOp, loadOp, quietB, fr0, cellsK, implies_true, ite_true, ite_false, eq_self, ne_eq, reduceCtorEq, Nat.reduceLT, Nat.reduceLeDiff, Nat.reduceAdd, Nat.reduceMul, Nat.reduceBEq, Nat.reduceEqDiff, Int.reduceToNat, Int.reduceLT, Int.reduceLE, Nat.reduceSub, pl133, ft78, ft115, lk, Int.cast_ofNat_Int, Int.natCast_zero, Int.natCast_one, Int.reduceAdd, Int.reduceSub, Int.reduceNeg, Int.reduceMul, Int.reduceToNat, Int.reduceLT, Int.reduceLE, Int.reduceEq, Int.reduceBEq, Int.reduceBNe, Nat.reduceSub, Nat.reduceLT, List.getD_cons_zero, List.getD_cons_succ, List.length_singleton, Bool.and_true, Bool.and_false]
    exact ⟨by omega, hq⟩
set_option maxHeartbeats 16000000 in
set_option maxRecDepth 100000 in
theorem gcdw_c (a b g : List Int) (ha : Norm a) (hb : Norm b) (ha0 : 0 < a.length) (hb0 : 0 < b.length) (hla : a.length < 100000000) (hlb : b.length < 100000000) (hgN : Norm g) (hgv : val g = Int.gcd (val a) (val b)) : APure Try.prog 123 [lims a, lims b] (lims g) := by
  refine apure_of (wp123 rfl rfl ?_)
  simp (maxSteps := 4000000) only [↓packA, ↓reduceIte, packB, pureOp, quietOp, loadOp, quietB, fr0, cellsK, implies_true, ite_true, ite_false, eq_self, ne_eq, reduceCtorEq, Nat.reduceLT, Nat.reduceLeDiff, Nat.reduceAdd, Nat.reduceMul, Nat.reduceBEq, Nat.reduceEqDiff, Int.reduceToNat, Int.reduceLT, Int.reduceLE, Nat.reduceSub, pl123, ft3, ft78, ft115, ft116, lims]
  refine copied_o a hla ha0 ?_
  simp (maxSteps := 4000000) only [↓packA, ↓reduceIte, packB, pureOp, quietOp, loadOp, quietB, fr0, cellsK, implies_true, ite_true, ite_false, eq_self, ne_eq, reduceCtorEq, Nat.reduceLT, Nat.reduceLeDiff, Nat.reduceAdd, Nat.reduceMul, Nat.reduceBEq, Nat.reduceEqDiff, Int.reduceToNat, Int.reduceLT, Int.reduceLE, Nat.reduceSub, pl123, ft3, ft78, ft115, ft116, lims]
  refine copied_o b hlb hb0 ?_
  have na : ¬ (a.length : Int) = 0 := by omega
  have nb : ¬ (b.length : Int) = 0 := by omega
  simp (maxSteps := 4000000) only [↓packA, ↓reduceIte, packB, pureOp, quietOp, loadOp, quietB, fr0, cellsK, implies_true, ite_true, ite_false, eq_self, ne_eq, reduceCtorEq, Nat.reduceLT, Nat.reduceLeDiff, Nat.reduceAdd, Nat.reduceMul, Nat.reduceBEq, Nat.reduceEqDiff, Int.reduceToNat, Int.reduceLT, Int.reduceLE, Nat.reduceSub, pl123, ft3, ft78, ft115, ft116, lims, na, nb, List.nil_append, List.cons_append, List.length_cons, List.length_nil]
  refine strip_o (es := a) rfl ha.1 (Nat.le_refl _) (Nat.le_refl _) ha0 (by rw [List.take_length]; exact ha) hla fun ea n1 z1 hl1 hL1 hN1 hn1 h01 hz1 hv1 ho1 => ?_
  rw [List.take_length] at hv1
  simp (maxSteps := 4000000) only [↓packA, ↓reduceIte, packB, pureOp, quietOp, loadOp, quietB, fr0, cellsK, implies_true, ite_true, ite_false, eq_self, ne_eq, reduceCtorEq, Nat.reduceLT, Nat.reduceLeDiff, Nat.reduceAdd, Nat.reduceMul, Nat.reduceBEq, Nat.reduceEqDiff, Int.reduceToNat, Int.reduceLT, Int.reduceLE, Nat.reduceSub, pl123, ft3, ft78, ft115, ft116, lims, na, nb, List.nil_append, List.cons_append, List.length_cons, List.length_nil]
  refine strip_o (es := b) rfl hb.1 (Nat.le_refl _) (Nat.le_refl _) hb0 (by rw [List.take_length]; exact hb) hlb fun eb n2 z2 hl2 hL2 hN2 hn2 h02 hz2 hv2 ho2 => ?_
  rw [List.take_length] at hv2
  simp (maxSteps := 4000000) only [↓packA, ↓reduceIte, packB, pureOp, quietOp, loadOp, quietB, fr0, cellsK, implies_true, ite_true, ite_false, eq_self, ne_eq, reduceCtorEq, Nat.reduceLT, Nat.reduceLeDiff, Nat.reduceAdd, Nat.reduceMul, Nat.reduceBEq, Nat.reduceEqDiff, Int.reduceToNat, Int.reduceLT, Int.reduceLE, Nat.reduceSub, pl123, ft3, ft78, ft115, ft116, lims, na, nb, List.nil_append, List.cons_append, List.length_cons, List.length_nil]
  have hX : (Int.gcd (val a) (val b) : Int) = Int.gcd (val (ea.take n1)) (val (eb.take n2)) * 2 ^ (min z1 z2) := by rw [hv1, hv2]; exact gcd_min ho1 ho2
  rw [← hgv] at hX
  obtain ⟨sh, esh⟩ : ∃ sh, sh = min z1 z2 := ⟨_, rfl⟩
  rw [← esh] at hX
  refine (fun (hG : ∀ (f : Fr) (H : Heap), (H[0]? = some (.arr 1 (List.map u32E ea) false) ∧ H[1]? = some (.arr 1 (List.map u32E eb) false) ∧ f 0 = .osl 0 1 0 n1 a.length false ∧ f 1 = .osl 1 1 0 n2 b.length false ∧ f 5 = .int .i64 sh) → LoopK _ _ f H) => ⟨fun c => hG _ _ ?_, fun c => hG _ _ ?_⟩) ?_
  rotate_left
  · simp (maxSteps := 4000000) only [↓packA, ↓reduceIte, packB, pureOp, quietOp, loadOp, quietB, fr0, cellsK, implies_true, ite_true, ite_false, eq_self, ne_eq, reduceCtorEq, Nat.reduceLT, Nat.reduceLeDiff, Nat.reduceAdd, Nat.reduceMul, Nat.reduceBEq, Nat.reduceEqDiff, Int.reduceToNat, Int.reduceLT, Int.reduceLE, Nat.reduceSub, pl123, ft3, ft78, ft115, ft116]
    omega
  · simp (maxSteps := 4000000) only [↓packA, ↓reduceIte, packB, pureOp, quietOp, loadOp, quietB, fr0, cellsK, implies_true, ite_true, ite_false, eq_self, ne_eq, reduceCtorEq, Nat.reduceLT, Nat.reduceLeDiff, Nat.reduceAdd, Nat.reduceMul, Nat.reduceBEq, Nat.reduceEqDiff, Int.reduceToNat, Int.reduceLT, Int.reduceLE, Nat.reduceSub, pl123, ft3, ft78, ft115, ft116]
    omega
  rintro f H ⟨hH0, hH1, f0, f1, f5⟩
  have hsh : sh < 4000000000 := by omega
  refine LoopK.intro (fun x w G => ∃ (u v nu nv cu cv : Nat) (eu ev : List Int), x = (val (eu.take nu) + val (ev.take nv)).toNat ∧ u ≠ v ∧ G[u]? = some (.arr 1 (List.map u32E eu) false) ∧ G[v]? = some (.arr 1 (List.map u32E ev) false) ∧ LI eu ∧ LI ev ∧ Norm (eu.take nu) ∧ Norm (ev.take nv) ∧ nu ≤ eu.length ∧ nv ≤ ev.length ∧ nu ≤ cu ∧ nv ≤ cv ∧ 0 < nv ∧ nu < 100000000 ∧ nv < 100000000 ∧ val (ev.take nv) % 2 = 1 ∧ val g = Int.gcd (val (eu.take nu)) (val (ev.take nv)) * 2 ^ sh ∧ w 0 = .osl u 1 0 nu cu false ∧ w 1 = .osl v 1 0 nv cv false ∧ w 5 = .int .i64 sh) _ ⟨0, 1, n1, n2, a.length, b.length, ea, eb, rfl, by omega, hH0, hH1, hL1, hL2, hN1, hN2, by omega, by omega, by omega, by omega, h02, by omega, by omega, ho2, hX, f0, f1, f5⟩ ?_
  clear f0 f1 f5 f hH0 hH1 hX esh ho1 ho2 hv1 hv2 hz1 hz2 h01 h02 hn1 hn2 hN1 hN2 hL1 hL2 hl1 hl2 ea eb n1 n2 z1 z2 na nb hgv hla hlb ha0 hb0 ha hb a b
  rintro x w G ⟨u, v, nu, nv, cu, cv, eu, ev, rfl, huv, hu, hv, hLu, hLv, hNu, hNv, hlu, hlv, hcu, hcv, h0v, hbu, hbv, hodd, hgv, a0, a1, a5⟩
  have hul := (List.getElem?_eq_some_iff.1 hu).1
  have hvl := (List.getElem?_eq_some_iff.1 hv).1
  have huX : ∀ X, (G.set u X)[u]? = some X := fun X => List.getElem?_set_self hul
  have hvX : ∀ X, (G.set u X)[v]? = some (.arr 1 (List.map u32E ev) false) := fun X => by rw [List.getElem?_set_ne huv]; exact hv
  have hlv2 : (ev.take nv).length = nv := by rw [List.length_take]; omega
  have hvp := hNv.pos (by omega)
  by_cases c : 0 < nu
  · have r1 : (nu : Int) > 0 := by omega
    simp (maxSteps := 4000000) only [↓packA, ↓reduceIte, packB, pureOp, quietOp, loadOp, quietB, fr0, cellsK, implies_true, ite_true, ite_false, eq_self, ne_eq, reduceCtorEq, Nat.reduceLT, Nat.reduceLeDiff, Nat.reduceAdd, Nat.reduceMul, Nat.reduceBEq, Nat.reduceEqDiff, Int.reduceToNat, Int.reduceLT, Int.reduceLE, Nat.reduceSub, pl123, ft3, ft78, ft115, ft116, a0, a1, a5, r1]
    refine strip_o hu hLu hlu hcu c hNu hbu fun es n z hl hL hN hn h0n hz hve hod => ?_
    have hlen : (es.take n).length = n := by rw [List.length_take]; omega
    have hup := hN.pos (by omega)
    have hge : val (es.take n) ≤ val (eu.take nu) := by
      have hT : (0 : Int) < 2 ^ z := Int.pow_pos (by decide)
      have h1 : 1 * val (es.take n) ≤ 2 ^ z * val (es.take n) := Int.mul_le_mul_of_nonneg_right (by omega) (by omega)
      omega
    have hgg : val g = Int.gcd (val (es.take n)) (val (ev.take nv)) * 2 ^ sh := by rw [hgv, hve, gcd_two hodd]
    by_cases c2 : n ≤ 2 ∧ nv ≤ 2
    · have r2 : (n : Int) ≤ 2 := by omega
      have r3 : (nv : Int) ≤ 2 := by omega
      simp (maxSteps := 4000000) only [↓packA, ↓reduceIte, packB, pureOp, quietOp, loadOp, quietB, fr0, cellsK, implies_true, ite_true, ite_false, eq_self, ne_eq, reduceCtorEq, Nat.reduceLT, Nat.reduceLeDiff, Nat.reduceAdd, Nat.reduceMul, Nat.reduceBEq, Nat.reduceEqDiff, Int.reduceToNat, Int.reduceLT, Int.reduceLE, Nat.reduceSub, pl123, ft3, ft78, ft115, ft116, a0, a1, a5, r1, r2, r3]
      have b1 := val_bound hN.1
      have b2 := val_bound hNv.1
      have b3 : (4294967296 : Int) ^ (es.take n).length ≤ 4294967296 ^ 2 := bmono (by omega)
      have b4 : (4294967296 : Int) ^ (ev.take nv).length ≤ 4294967296 ^ 2 := bmono (by omega)
      refine acalls_lend (rsmall_c (es.take n) hN.1 (by omega)) (.cons (frz_lims (huX _) (by omega)) .nil) rfl ?_
      simp (maxSteps := 4000000) only [↓packA, ↓reduceIte, packB, pureOp, quietOp, loadOp, quietB, fr0, cellsK, implies_true, ite_true, ite_false, eq_self, ne_eq, reduceCtorEq, Nat.reduceLT, Nat.reduceLeDiff, Nat.reduceAdd, Nat.reduceMul, Nat.reduceBEq, Nat.reduceEqDiff, Int.reduceToNat, Int.reduceLT, Int.reduceLE, Nat.reduceSub, pl123, ft3, ft78, ft115, ft116, a0, a1, a5, r1, r2, r3]
      refine acalls_lend (rsmall_c (ev.take nv) hNv.1 (by omega)) (.cons (frz_lims (hvX _) hlv) .nil) rfl ?_
      simp (maxSteps := 4000000) only [↓packA, ↓reduceIte, packB, pureOp, quietOp, loadOp, quietB, fr0, cellsK, implies_true, ite_true, ite_false, eq_self, ne_eq, reduceCtorEq, Nat.reduceLT, Nat.reduceLeDiff, Nat.reduceAdd, Nat.reduceMul, Nat.reduceBEq, Nat.reduceEqDiff, Int.reduceToNat, Int.reduceLT, Int.reduceLE, Nat.reduceSub, pl123, ft3, ft78, ft115, ft116, a0, a1, a5, r1, r2, r3]
      refine acalls_pure (euclid_c _ _ (by omega) (by omega)) rfl ?_
      simp (maxSteps := 4000000) only [↓packA, ↓reduceIte, packB, pureOp, quietOp, loadOp, quietB, fr0, cellsK, implies_true, ite_true, ite_false, eq_self, ne_eq, reduceCtorEq, Nat.reduceLT, Nat.reduceLeDiff, Nat.reduceAdd, Nat.reduceMul, Nat.reduceBEq, Nat.reduceEqDiff, Int.reduceToNat, Int.reduceLT, Int.reduceLE, Nat.reduceSub, pl123, ft3, ft78, ft115, ft116, a0, a1, a5, r1, r2, r3]
      have hgb : (Int.gcd (val (es.take n)) (val (ev.take nv)) : Int) ≤ val (ev.take nv) := Int.le_of_dvd hvp (Int.gcd_dvd_right ..)
      refine limbs_c _ (by omega) fun es' hl' hL' hv' => ?_
      simp (maxSteps := 4000000) only [↓packA, ↓reduceIte, packB, pureOp, quietOp, loadOp, quietB, fr0, cellsK, implies_true, ite_true, ite_false, eq_self, ne_eq, reduceCtorEq, Nat.reduceLT, Nat.reduceLeDiff, Nat.reduceAdd, Nat.reduceMul, Nat.reduceBEq, Nat.reduceEqDiff, Int.reduceToNat, Int.reduceLT, Int.reduceLE, Nat.reduceSub, pl123, ft3, ft78, ft115, ft116, a0, a1, a5, r1, r2, r3]
      refine acalls_fresh (raised_c (es'.take (trmN es' 2)) (hL'.take _) sh (by rw [List.length_take]; omega) hsh) (.cons (frz_lims (by rw [List.getElem?_append_right (by rw [List.length_set]; exact Nat.le_refl _), List.length_set, Nat.sub_self]; rfl) (by have := trmN_le (l := es') 2; omega)) (.cons (.pure _ rfl) .nil)) fun u1 h1 hz1 => ?_
      obtain ⟨r, hr, hvr, hzr⟩ := hz1
      refine ⟨_, hzr, ?_⟩
      simp (maxSteps := 4000000) only [↓packA, ↓reduceIte, packB, pureOp, quietOp, loadOp, quietB, fr0, cellsK, implies_true, ite_true, ite_false, eq_self, ne_eq, reduceCtorEq, Nat.reduceLT, Nat.reduceLeDiff, Nat.reduceAdd, Nat.reduceMul, Nat.reduceBEq, Nat.reduceEqDiff, Int.reduceToNat, Int.reduceLT, Int.reduceLE, Nat.reduceSub, pl123, ft3, ft78, ft115, ft116, a0, a1, a5, r1, r2, r3]
      rw [trmN_val _ (by omega), List.take_of_length_le (by omega), hv', ← hgg] at hvr
      rw [hr.inj hgN hvr]
      exact .pure _ rfl
    · by_cases c4 : n ≤ 2
      · have r2 : (n : Int) ≤ 2 := by omega
        have r3 : ¬ (nv : Int) ≤ 2 := by omega
        simp (maxSteps := 4000000) only [↓packA, ↓reduceIte, packB, pureOp, quietOp, loadOp, quietB, fr0, cellsK, implies_true, ite_true, ite_false, eq_self, ne_eq, reduceCtorEq, Nat.reduceLT, Nat.reduceLeDiff, Nat.reduceAdd, Nat.reduceMul, Nat.reduceBEq, Nat.reduceEqDiff, Int.reduceToNat, Int.reduceLT, Int.reduceLE, Nat.reduceSub, pl123, ft3, ft78, ft115, ft116, a0, a1, a5, r1, r2, r3]
        refine acalls_lend (rcmp_c (es.take n) (ev.take nv) hN hNv (by omega) (by omega)) (.cons (frz_lims (huX _) (by omega)) (.cons (frz_lims (hvX _) hlv) .nil)) rfl ?_
        by_cases c3 : val (es.take n) < val (ev.take nv)
        · have r4 : cmpV (val (es.take n)) (val (ev.take nv)) < 0 := by unfold cmpV; rw [if_pos c3]; decide
          simp (maxSteps := 4000000) only [↓packA, ↓reduceIte, packB, pureOp, quietOp, loadOp, quietB, fr0, cellsK, implies_true, ite_true, ite_false, eq_self, ne_eq, reduceCtorEq, Nat.reduceLT, Nat.reduceLeDiff, Nat.reduceAdd, Nat.reduceMul, Nat.reduceBEq, Nat.reduceEqDiff, Int.reduceToNat, Int.reduceLT, Int.reduceLE, Nat.reduceSub, pl123, ft3, ft78, ft115, ft116, a0, a1, a5, r1, r4]
          refine take_o (hvX _) (huX _) (fun h => huv h.symm) hLv hL hlv hcv (by omega) (by
            have := hN.len_le hNv.1 (by omega)
            omega) hbv (by omega) fun es' n' hl' hL' hN' hn' hv' => ?_
          simp (maxSteps := 4000000) only [↓packA, ↓reduceIte, packB, pureOp, quietOp, loadOp, quietB, fr0, cellsK, implies_true, ite_true, ite_false, eq_self, ne_eq, reduceCtorEq, Nat.reduceLT, Nat.reduceLeDiff, Nat.reduceAdd, Nat.reduceMul, Nat.reduceBEq, Nat.reduceEqDiff, Int.reduceToNat, Int.reduceLT, Int.reduceLE, Nat.reduceSub, pl123, ft3, ft78, ft115, ft116, a0, a1, a5, r1, r4]
          refine .inl ⟨_, ?_, v, u, n', n, cv, cu, es', es, rfl, fun h => huv h.symm, ?_, ?_, hL', hL, hN', hN, by omega, by omega, by omega, by omega, h0n, by omega, by omega, hod, ?_, rfl, rfl⟩
          · omega
          · rw [List.getElem?_set_self (by rw [List.length_set]; exact hvl)]
          · rw [List.getElem?_set_ne (fun h => huv h.symm), List.getElem?_set_self hul]
          · rw [hv', gcd_take, Int.gcd_comm]; exact hgg
        · have r4 : ¬ cmpV (val (es.take n)) (val (ev.take nv)) < 0 := by unfold cmpV; rw [if_neg c3]; split <;> decide
          simp (maxSteps := 4000000) only [↓packA, ↓reduceIte, packB, pureOp, quietOp, loadOp, quietB, fr0, cellsK, implies_true, ite_true, ite_false, eq_self, ne_eq, reduceCtorEq, Nat.reduceLT, Nat.reduceLeDiff, Nat.reduceAdd, Nat.reduceMul, Nat.reduceBEq, Nat.reduceEqDiff, Int.reduceToNat, Int.reduceLT, Int.reduceLE, Nat.reduceSub, pl123, ft3, ft78, ft115, ft116, a0, a1, a5, r1, r4]
          refine take_o (huX _) (hvX _) huv hL hLv (by omega) (by omega) hlv (by
            have := hNv.len_le hN.1 (by omega)
            omega) (by omega) (by omega) fun es' n' hl' hL' hN' hn' hv' => ?_
          simp (maxSteps := 4000000) only [↓packA, ↓reduceIte, packB, pureOp, quietOp, loadOp, quietB, fr0, cellsK, implies_true, ite_true, ite_false, eq_self, ne_eq, reduceCtorEq, Nat.reduceLT, Nat.reduceLeDiff, Nat.reduceAdd, Nat.reduceMul, Nat.reduceBEq, Nat.reduceEqDiff, Int.reduceToNat, Int.reduceLT, Int.reduceLE, Nat.reduceSub, pl123, ft3, ft78, ft115, ft116, a0, a1, a5, r1, r4]
          refine .inl ⟨_, ?_, u, v, n', nv, cu, cv, es', ev, rfl, huv, ?_, ?_, hL', hLv, hN', hNv, by omega, by omega, by omega, by omega, h0v, by omega, by omega, hodd, ?_, rfl, rfl⟩
          · omega
          · rw [List.getElem?_set_self (by rw [List.length_set]; exact hul)]
          · rw [List.getElem?_set_ne huv]; exact hvX _
          · rw [hv', gcd_take]; exact hgg
      · have r2 : ¬ (n : Int) ≤ 2 := by omega
        simp (maxSteps := 4000000) only [↓packA, ↓reduceIte, packB, pureOp, quietOp, loadOp, quietB, fr0, cellsK, implies_true, ite_true, ite_false, eq_self, ne_eq, reduceCtorEq, Nat.reduceLT, Nat.reduceLeDiff, Nat.reduceAdd, Nat.reduceMul, Nat.reduceBEq, Nat.reduceEqDiff, Int.reduceToNat, Int.reduceLT, Int.reduceLE, Nat.reduceSub, pl123, ft3, ft78, ft115, ft116, a0, a1, a5, r1, r2]
        refine acalls_lend (rcmp_c (es.take n) (ev.take nv) hN hNv (by omega) (by omega)) (.cons (frz_lims (huX _) (by omega)) (.cons (frz_lims (hvX _) hlv) .nil)) rfl ?_
        by_cases c3 : val (es.take n) < val (ev.take nv)
        · have r4 : cmpV (val (es.take n)) (val (ev.take nv)) < 0 := by unfold cmpV; rw [if_pos c3]; decide
          simp (maxSteps := 4000000) only [↓packA, ↓reduceIte, packB, pureOp, quietOp, loadOp, quietB, fr0, cellsK, implies_true, ite_true, ite_false, eq_self, ne_eq, reduceCtorEq, Nat.reduceLT, Nat.reduceLeDiff, Nat.reduceAdd, Nat.reduceMul, Nat.reduceBEq, Nat.reduceEqDiff, Int.reduceToNat, Int.reduceLT, Int.reduceLE, Nat.reduceSub, pl123, ft3, ft78, ft115, ft116, a0, a1, a5, r1, r4]
          refine take_o (hvX _) (huX _) (fun h => huv h.symm) hLv hL hlv hcv (by omega) (by
            have := hN.len_le hNv.1 (by omega)
            omega) hbv (by omega) fun es' n' hl' hL' hN' hn' hv' => ?_
          simp (maxSteps := 4000000) only [↓packA, ↓reduceIte, packB, pureOp, quietOp, loadOp, quietB, fr0, cellsK, implies_true, ite_true, ite_false, eq_self, ne_eq, reduceCtorEq, Nat.reduceLT, Nat.reduceLeDiff, Nat.reduceAdd, Nat.reduceMul, Nat.reduceBEq, Nat.reduceEqDiff, Int.reduceToNat, Int.reduceLT, Int.reduceLE, Nat.reduceSub, pl123, ft3, ft78, ft115, ft116, a0, a1, a5, r1, r4]
          refine .inl ⟨_, ?_, v, u, n', n, cv, cu, es', es, rfl, fun h => huv h.symm, ?_, ?_, hL', hL, hN', hN, by omega, by omega, by omega, by omega, h0n, by omega, by omega, hod, ?_, rfl, rfl⟩
          · omega
          · rw [List.getElem?_set_self (by rw [List.length_set]; exact hvl)]
          · rw [List.getElem?_set_ne (fun h => huv h.symm), List.getElem?_set_self hul]
          · rw [hv', gcd_take, Int.gcd_comm]; exact hgg
        · have r4 : ¬ cmpV (val (es.take n)) (val (ev.take nv)) < 0 := by unfold cmpV; rw [if_neg c3]; split <;> decide
          simp (maxSteps := 4000000) only [↓packA, ↓reduceIte, packB, pureOp, quietOp, loadOp, quietB, fr0, cellsK, implies_true, ite_true, ite_false, eq_self, ne_eq, reduceCtorEq, Nat.reduceLT, Nat.reduceLeDiff, Nat.reduceAdd, Nat.reduceMul, Nat.reduceBEq, Nat.reduceEqDiff, Int.reduceToNat, Int.reduceLT, Int.reduceLE, Nat.reduceSub, pl123, ft3, ft78, ft115, ft116, a0, a1, a5, r1, r4]
          refine take_o (huX _) (hvX _) huv hL hLv (by omega) (by omega) hlv (by
            have := hNv.len_le hN.1 (by omega)
            omega) (by omega) (by omega) fun es' n' hl' hL' hN' hn' hv' => ?_
          simp (maxSteps := 4000000) only [↓packA, ↓reduceIte, packB, pureOp, quietOp, loadOp, quietB, fr0, cellsK, implies_true, ite_true, ite_false, eq_self, ne_eq, reduceCtorEq, Nat.reduceLT, Nat.reduceLeDiff, Nat.reduceAdd, Nat.reduceMul, Nat.reduceBEq, Nat.reduceEqDiff, Int.reduceToNat, Int.reduceLT, Int.reduceLE, Nat.reduceSub, pl123, ft3, ft78, ft115, ft116, a0, a1, a5, r1, r4]
          refine .inl ⟨_, ?_, u, v, n', nv, cu, cv, es', ev, rfl, huv, ?_, ?_, hL', hLv, hN', hNv, by omega, by omega, by omega, by omega, h0v, by omega, by omega, hodd, ?_, rfl, rfl⟩
          · omega
          · rw [List.getElem?_set_self (by rw [List.length_set]; exact hul)]
          · rw [List.getElem?_set_ne huv]; exact hvX _
          · rw [hv', gcd_take]; exact hgg
  · have r1 : ¬ (nu : Int) > 0 := by omega
    obtain rfl : nu = 0 := by omega
    simp (maxSteps := 4000000) only [↓packA, ↓reduceIte, packB, pureOp, quietOp, loadOp, quietB, fr0, cellsK, implies_true, ite_true, ite_false, eq_self, ne_eq, reduceCtorEq, Nat.reduceLT, Nat.reduceLeDiff, Nat.reduceAdd, Nat.reduceMul, Nat.reduceBEq, Nat.reduceEqDiff, Int.reduceToNat, Int.reduceLT, Int.reduceLE, Nat.reduceSub, pl123, ft3, ft78, ft115, ft116, a0, a1, a5, r1]
    refine acalls_fresh (raised_c (ev.take nv) hNv.1 sh (by omega) hsh) (.cons (frz_lims hv hlv) (.cons (.pure _ rfl) .nil)) fun u1 h1 hz1 => ?_
    obtain ⟨r, hr, hvr, hzr⟩ := hz1
    refine ⟨_, hzr, ?_⟩
    simp (maxSteps := 4000000) only [↓packA, ↓reduceIte, packB, pureOp, quietOp, loadOp, quietB, fr0, cellsK, implies_true, ite_true, ite_false, eq_self, ne_eq, reduceCtorEq, Nat.reduceLT, Nat.reduceLeDiff, Nat.reduceAdd, Nat.reduceMul, Nat.reduceBEq, Nat.reduceEqDiff, Int.reduceToNat, Int.reduceLT, Int.reduceLE, Nat.reduceSub, pl123, ft3, ft78, ft115, ft116, a0, a1, a5, r1]
    rw [List.take_zero, show val ([] : List Int) = 0 from rfl, Int.gcd_zero_left, Int.natAbs_of_nonneg (by omega), ← hvr] at hgv
    rw [hgN.inj hr hgv]
    exact .pure _ rfl
end Go.Proofs.Ytgdlkhgfehclpaa
end

section
/- The document's rationals that are such. No condition. -/
namespace Go.Proofs.Ytgdlkhgfehclpaa
open Go Go.AL
set_option linter.unusedVariables false
set_option linter.unusedSimpArgs false
theorem limbs_ex (n : Nat) : ∃ g : List Int, Norm g ∧ val g = n := by
  induction n using Nat.strongRecOn with
  | _ n ih =>
    by_cases c : n = 0
    · exact ⟨[], Norm.nil, by subst c; rfl⟩
    obtain ⟨g, hg, hv⟩ := ih (n / 4294967296) (by omega)
    refine ⟨((n % 4294967296 : Nat) : Int) :: g, ⟨LI.cons (by omega) hg.1, fun _ => ?_⟩, ?_⟩
    · cases g with
      | nil =>
        have : n / 4294967296 = 0 := by
          have h1 : val ([] : List Int) = 0 := rfl
          omega
        show ((n % 4294967296 : Nat) : Int) ≠ 0
        omega
      | cons y ys =>
        have := hg.2 (by simp)
        simpa using this
    · show ((n % 4294967296 : Nat) : Int) + 4294967296 * val g = n
      rw [hv]
      omega
set_option maxHeartbeats 4000000 in
set_option maxRecDepth 100000 in
theorem rmay_c (neg : Bool) (num den : List Int) (hn : LI num) (hd : LI den) (hln : num.length < 100000000) (hld : den.length < 100000000) : APure Try.prog 111 [ratV neg num den] (.bool (mayB neg num den)) := by
  refine apure_of (wp111 rfl rfl ?_)
  have p1 := rmaynat_c num (by omega)
  have p2 := rmaynat_c den (by omega)
  simp (maxSteps := 4000000) only [↓packA, ↓reduceIte, packB, pureOp, quietOp, loadOp, quietB, fr0, cellsK, implies_true, ite_true, ite_false, eq_self, ne_eq, reduceCtorEq, Nat.reduceLT, Nat.reduceLeDiff, Nat.reduceAdd, Nat.reduceMul, Nat.reduceBEq, Nat.reduceEqDiff, Int.reduceToNat, Int.reduceLT, Int.reduceLE, Nat.reduceSub, pl111, ft1, ft2, ft3, ft4, ft78, ft79, ft81, ft115, ratV, lims]
  refine acalls_pure p1 rfl ?_
  rw [show decide (num.length ≤ 2048 ∧ (num.length = 0 ∨ num.getD (num.length - 1) default ≠ 0)) = natB num from rfl]
  cases h1 : natB num
  · simp (maxSteps := 4000000) only [↓packA, ↓reduceIte, packB, pureOp, quietOp, loadOp, quietB, fr0, cellsK, implies_true, ite_true, ite_false, eq_self, ne_eq, reduceCtorEq, Nat.reduceLT, Nat.reduceLeDiff, Nat.reduceAdd, Nat.reduceMul, Nat.reduceBEq, Nat.reduceEqDiff, Int.reduceToNat, Int.reduceLT, Int.reduceLE, Nat.reduceSub, pl111, ft1, ft2, ft3, ft4, ft78, ft79, ft81, ft115, ratV, lims]
    rw [show mayB neg num den = false by simp [mayB, h1]]
    exact .pure _ rfl
  simp (maxSteps := 4000000) only [↓packA, ↓reduceIte, packB, pureOp, quietOp, loadOp, quietB, fr0, cellsK, implies_true, ite_true, ite_false, eq_self, ne_eq, reduceCtorEq, Nat.reduceLT, Nat.reduceLeDiff, Nat.reduceAdd, Nat.reduceMul, Nat.reduceBEq, Nat.reduceEqDiff, Int.reduceToNat, Int.reduceLT, Int.reduceLE, Nat.reduceSub, pl111, ft1, ft2, ft3, ft4, ft78, ft79, ft81, ft115, ratV, lims]
  refine acalls_pure p2 rfl ?_
  rw [show decide (den.length ≤ 2048 ∧ (den.length = 0 ∨ den.getD (den.length - 1) default ≠ 0)) = natB den from rfl]
  cases h2 : natB den
  · simp (maxSteps := 4000000) only [↓packA, ↓reduceIte, packB, pureOp, quietOp, loadOp, quietB, fr0, cellsK, implies_true, ite_true, ite_false, eq_self, ne_eq, reduceCtorEq, Nat.reduceLT, Nat.reduceLeDiff, Nat.reduceAdd, Nat.reduceMul, Nat.reduceBEq, Nat.reduceEqDiff, Int.reduceToNat, Int.reduceLT, Int.reduceLE, Nat.reduceSub, pl111, ft1, ft2, ft3, ft4, ft78, ft79, ft81, ft115, ratV, lims]
    rw [show mayB neg num den = false by simp [mayB, h2]]
    exact .pure _ rfl
  obtain ⟨nn, ln⟩ := natB_norm hn h1
  obtain ⟨nd, ld⟩ := natB_norm hd h2
  by_cases c1 : den.length = 0
  · have r1 : (den.length : Int) = 0 := by omega
    simp (maxSteps := 4000000) only [↓packA, ↓reduceIte, packB, pureOp, quietOp, loadOp, quietB, fr0, cellsK, implies_true, ite_true, ite_false, eq_self, ne_eq, reduceCtorEq, Nat.reduceLT, Nat.reduceLeDiff, Nat.reduceAdd, Nat.reduceMul, Nat.reduceBEq, Nat.reduceEqDiff, Int.reduceToNat, Int.reduceLT, Int.reduceLE, Nat.reduceSub, pl111, ft1, ft2, ft3, ft4, ft78, ft79, ft81, ft115, ratV, lims, r1]
    rw [show mayB neg num den = false by simp [mayB, c1]]
    exact .pure _ rfl
  have r1 : ¬ (den.length : Int) = 0 := by omega
  by_cases c2 : num.length = 0
  · have r2 : (num.length : Int) = 0 := by omega
    cases neg
    · by_cases c3 : den.length = 1
      · have r3 : (den.length : Int) = 1 := by omega
        obtain ⟨d, rfl⟩ : ∃ d, den = [d] := List.length_eq_one_iff.1 c3
        by_cases c4 : d = 1
        · subst c4
          simp (maxSteps := 4000000) only [↓packA, ↓reduceIte, packB, pureOp, quietOp, loadOp, quietB, fr0, cellsK, implies_true, ite_true, ite_false, eq_self, ne_eq, reduceCtorEq, Nat.reduceLT, Nat.reduceLeDiff, Nat.reduceAdd, Nat.reduceMul, Nat.reduceBEq, Nat.reduceEqDiff, Int.reduceToNat, Int.reduceLT, Int.reduceLE, Nat.reduceSub, pl111, ft1, ft2, ft3, ft4, ft78, ft79, ft81, ft115, ratV, lims, limR, r2, List.length_cons, List.length_nil, Int.cast_ofNat_Int, Int.natCast_zero, Int.natCast_one, Int.reduceAdd, Int.reduceSub, Int.reduceNeg, Int.reduceMul, Int.reduceToNat, Int.reduceLT, Int.reduceLE, Int.reduceEq, Int.reduceBEq, Int.reduceBNe, Nat.reduceSub, Nat.reduceLT, List.getD_cons_zero, List.getD_cons_succ, List.length_singleton, Bool.and_true, Bool.and_false]
          rw [show mayB false num [1] = true by simp [mayB, c2, h1, show natB [1] = true by decide]]
          exact .pure _ rfl
        · simp (maxSteps := 4000000) only [↓packA, ↓reduceIte, packB, pureOp, quietOp, loadOp, quietB, fr0, cellsK, implies_true, ite_true, ite_false, eq_self, ne_eq, reduceCtorEq, Nat.reduceLT, Nat.reduceLeDiff, Nat.reduceAdd, Nat.reduceMul, Nat.reduceBEq, Nat.reduceEqDiff, Int.reduceToNat, Int.reduceLT, Int.reduceLE, Nat.reduceSub, pl111, ft1, ft2, ft3, ft4, ft78, ft79, ft81, ft115, ratV, lims, limR, r2, c4, List.length_cons, List.length_nil, Int.cast_ofNat_Int, Int.natCast_zero, Int.natCast_one, Int.reduceAdd, Int.reduceSub, Int.reduceNeg, Int.reduceMul, Int.reduceToNat, Int.reduceLT, Int.reduceLE, Int.reduceEq, Int.reduceBEq, Int.reduceBNe, Nat.reduceSub, Nat.reduceLT, List.getD_cons_zero, List.getD_cons_succ, List.length_singleton, Bool.and_true, Bool.and_false]
          rw [show (d == 1) = false from beq_false_of_ne c4, show mayB false num [d] = false by simp [mayB, c2, c4]]
          exact .pure _ rfl
      · have r3 : ¬ (den.length : Int) = 1 := by omega
        simp (maxSteps := 4000000) only [↓packA, ↓reduceIte, packB, pureOp, quietOp, loadOp, quietB, fr0, cellsK, implies_true, ite_true, ite_false, eq_self, ne_eq, reduceCtorEq, Nat.reduceLT, Nat.reduceLeDiff, Nat.reduceAdd, Nat.reduceMul, Nat.reduceBEq, Nat.reduceEqDiff, Int.reduceToNat, Int.reduceLT, Int.reduceLE, Nat.reduceSub, pl111, ft1, ft2, ft3, ft4, ft78, ft79, ft81, ft115, ratV, lims, r1, r2, r3, Int.cast_ofNat_Int, Int.natCast_zero, Int.natCast_one, Int.reduceAdd, Int.reduceSub, Int.reduceNeg, Int.reduceMul, Int.reduceToNat, Int.reduceLT, Int.reduceLE, Int.reduceEq, Int.reduceBEq, Int.reduceBNe, Nat.reduceSub, Nat.reduceLT, List.getD_cons_zero, List.getD_cons_succ, List.length_singleton, Bool.and_true, Bool.and_false]
        rw [show mayB false num den = false by
          have : den ≠ [1] := fun h => c3 (by rw [h]; rfl)
          simp [mayB, c2, this]]
        exact .pure _ rfl
    · simp (maxSteps := 4000000) only [↓packA, ↓reduceIte, packB, pureOp, quietOp, loadOp, quietB, fr0, cellsK, implies_true, ite_true, ite_false, eq_self, ne_eq, reduceCtorEq, Nat.reduceLT, Nat.reduceLeDiff, Nat.reduceAdd, Nat.reduceMul, Nat.reduceBEq, Nat.reduceEqDiff, Int.reduceToNat, Int.reduceLT, Int.reduceLE, Nat.reduceSub, pl111, ft1, ft2, ft3, ft4, ft78, ft79, ft81, ft115, ratV, lims, r1, r2, Int.cast_ofNat_Int, Int.natCast_zero, Int.natCast_one, Int.reduceAdd, Int.reduceSub, Int.reduceNeg, Int.reduceMul, Int.reduceToNat, Int.reduceLT, Int.reduceLE, Int.reduceEq, Int.reduceBEq, Int.reduceBNe, Nat.reduceSub, Nat.reduceLT, List.getD_cons_zero, List.getD_cons_succ, List.length_singleton, Bool.and_true, Bool.and_false]
      rw [show mayB true num den = false by simp [mayB, c2]]
      exact .pure _ rfl
  have r2 : ¬ (num.length : Int) = 0 := by omega
  have hm : mayB neg num den = decide (Int.gcd (val num) (val den) = 1) := by simp [mayB, c2, h1, h2]; omega
  rw [hm]
  obtain ⟨g, hg, hv⟩ := limbs_ex (Int.gcd (val num) (val den))
  simp (maxSteps := 4000000) only [↓packA, ↓reduceIte, packB, pureOp, quietOp, loadOp, quietB, fr0, cellsK, implies_true, ite_true, ite_false, eq_self, ne_eq, reduceCtorEq, Nat.reduceLT, Nat.reduceLeDiff, Nat.reduceAdd, Nat.reduceMul, Nat.reduceBEq, Nat.reduceEqDiff, Int.reduceToNat, Int.reduceLT, Int.reduceLE, Nat.reduceSub, pl111, ft1, ft2, ft3, ft4, ft78, ft79, ft81, ft115, ratV, lims, r1, r2, Int.cast_ofNat_Int, Int.natCast_zero, Int.natCast_one, Int.reduceAdd, Int.reduceSub, Int.reduceNeg, Int.reduceMul, Int.reduceToNat, Int.reduceLT, Int.reduceLE, Int.reduceEq, Int.reduceBEq, Int.reduceBNe, Nat.reduceSub, Nat.reduceLT, List.getD_cons_zero, List.getD_cons_succ, List.length_singleton, Bool.and_true, Bool.and_false]
  refine acalls_pure (gcdw_c num den g nn nd (by omega) (by omega) (by omega) (by omega) hg hv) rfl ?_
  have hm2 : decide (Int.gcd (val num) (val den) = 1) = decide (g = [1]) := by
    apply decide_eq_decide.2
    constructor
    · intro h
      rw [h] at hv
      refine hg.inj ⟨LI.cons (by omega) LI.nil, fun _ => by decide⟩ ?_
      rw [hv, val_one]
      rfl
    · rintro rfl
      rw [val_one] at hv
      omega
  rw [hm2]
  by_cases c3 : g.length = 1
  · obtain ⟨d, rfl⟩ : ∃ d, g = [d] := List.length_eq_one_iff.1 c3
    by_cases c4 : d = 1
    · subst c4
      simp (maxSteps := 4000000) only [↓packA, ↓reduceIte, packB, pureOp, quietOp, loadOp, quietB, fr0, cellsK, implies_true, ite_true, ite_false, eq_self, ne_eq, reduceCtorEq, Nat.reduceLT, Nat.reduceLeDiff, Nat.reduceAdd, Nat.reduceMul, Nat.reduceBEq, Nat.reduceEqDiff, Int.reduceToNat, Int.reduceLT, Int.reduceLE, Nat.reduceSub, pl111, ft1, ft2, ft3, ft4, ft78, ft79, ft81, ft115, ratV, lims, limR, r1, r2, List.length_cons, List.length_nil, Int.cast_ofNat_Int, Int.natCast_zero, Int.natCast_one, Int.reduceAdd, Int.reduceSub, Int.reduceNeg, Int.reduceMul, Int.reduceToNat, Int.reduceLT, Int.reduceLE, Int.reduceEq, Int.reduceBEq, Int.reduceBNe, Nat.reduceSub, Nat.reduceLT, List.getD_cons_zero, List.getD_cons_succ, List.length_singleton, Bool.and_true, Bool.and_false]
      exact .pure _ rfl
    · simp (maxSteps := 4000000) only [↓packA, ↓reduceIte, packB, pureOp, quietOp, loadOp, quietB, fr0, cellsK, implies_true, ite_true, ite_false, eq_self, ne_eq, reduceCtorEq, Nat.reduceLT, Nat.reduceLeDiff, Nat.reduceAdd, Nat.reduceMul, Nat.reduceBEq, Nat.reduceEqDiff, Int.reduceToNat, Int.reduceLT, Int.reduceLE, Nat.reduceSub, pl111, ft1, ft2, ft3, ft4, ft78, ft79, ft81, ft115, ratV, lims, limR, r1, r2, c4, List.length_cons, List.length_nil, Int.cast_ofNat_Int, Int.natCast_zero, Int.natCast_one, Int.reduceAdd, Int.reduceSub, Int.reduceNeg, Int.reduceMul, Int.reduceToNat, Int.reduceLT, Int.reduceLE, Int.reduceEq, Int.reduceBEq, Int.reduceBNe, Nat.reduceSub, Nat.reduceLT, List.getD_cons_zero, List.getD_cons_succ, List.length_singleton, Bool.and_true, Bool.and_false]
      rw [show (d == 1) = false from beq_false_of_ne c4, decide_eq_false fun h => c4 (by simpa using h)]
      exact .pure _ rfl
  · have r3 : ¬ (g.length : Int) = 1 := by omega
    simp (maxSteps := 4000000) only [↓packA, ↓reduceIte, packB, pureOp, quietOp, loadOp, quietB, fr0, cellsK, implies_true, ite_true, ite_false, eq_self, ne_eq, reduceCtorEq, Nat.reduceLT, Nat.reduceLeDiff, Nat.reduceAdd, Nat.reduceMul, Nat.reduceBEq, Nat.reduceEqDiff, Int.reduceToNat, Int.reduceLT, Int.reduceLE, Nat.reduceSub, pl111, ft1, ft2, ft3, ft4, ft78, ft79, ft81, ft115, ratV, lims, r1, r2, r3, Int.cast_ofNat_Int, Int.natCast_zero, Int.natCast_one, Int.reduceAdd, Int.reduceSub, Int.reduceNeg, Int.reduceMul, Int.reduceToNat, Int.reduceLT, Int.reduceLE, Int.reduceEq, Int.reduceBEq, Int.reduceBNe, Nat.reduceSub, Nat.reduceLT, List.getD_cons_zero, List.getD_cons_succ, List.length_singleton, Bool.and_true, Bool.and_false]
    rw [decide_eq_false fun h => c3 (by rw [h]; rfl)]
    exact .pure _ rfl
end Go.Proofs.Ytgdlkhgfehclpaa
end

section
/- A node of a tape: what it leaves unused, walked on both sides. No condition. -/
namespace Go.Proofs.Ytgdlkhgfehclpaa
open Go Go.AL
set_option linter.unusedVariables false
set_option linter.unusedSimpArgs false
theorem bne_dec {x y : Int} : (x != y) = decide (¬ x = y) := by
  by_cases h : x = y <;> simp [h]
/-- A node of a tape. -/
structure Nd where
  op : Int
  a : Int
  b : Int
  c : Int
  neg : Bool
  num : List Int
  den : List Int
instance : Inhabited Nd := ⟨⟨0, 0, 0, 0, false, [], []⟩⟩
def Nd.cells (n : Nd) : List AV := [.int .i64 n.op, .int .i64 n.a, .int .i64 n.b, .int .i64 n.c, .bool n.neg, lims n.num, lims n.den]
def Nd.V (n : Nd) : AV := .agg n.cells
structure Nd.Ok (n : Nd) : Prop where
  num : LI n.num
  den : LI n.den
  ln : n.num.length < 100000000
  ld : n.den.length < 100000000
def two (op : Int) : Bool := decide (op = 3 ∨ op = 4 ∨ op = 5 ∨ op = 6)
def one (op : Int) : Bool := decide (op = 7 ∨ op = 8)
def noneB (neg : Bool) (num den : List Int) : Bool := !neg && decide (num.length = 0) && decide (den.length = 0)
def Nd.spare (n : Nd) : Bool := (decide (n.a ≠ 0) && decide (n.op = 2)) || (decide (n.b ≠ 0) && !two n.op) || (decide (n.c ≠ 0) && decide (n.op ≠ 8)) || (!noneB n.neg n.num n.den && decide (n.op ≠ 2))
set_option maxRecDepth 100000 in
theorem two_c (op : Int) : APure Try.prog 109 [.int .i64 op] (.bool (two op)) := by
  refine apure_of (wp109 rfl rfl ?_)
  by_cases c3 : op = 3
  · subst c3; simp (maxSteps := 4000000) only [↓packA, ↓reduceIte, packB, pureOp, quietOp, loadOp, quietB, fr0, cellsK, implies_true, ite_true, ite_false, eq_self, ne_eq, reduceCtorEq, Nat.reduceLT, Nat.reduceLeDiff, Nat.reduceAdd, Nat.reduceMul, Nat.reduceBEq, Nat.reduceEqDiff, Int.reduceToNat, Int.reduceLT, Int.reduceLE, Nat.reduceSub, pl109, ft77, Int.cast_ofNat_Int, Int.natCast_zero, Int.natCast_one, Int.reduceAdd, Int.reduceSub, Int.reduceNeg, Int.reduceMul, Int.reduceToNat, Int.reduceLT, Int.reduceLE, Int.reduceEq, Int.reduceBEq, Int.reduceBNe, Nat.reduceSub, Nat.reduceLT, List.getD_cons_zero, List.getD_cons_succ, List.length_singleton, Bool.and_true, Bool.and_false]
    exact .pure _ rfl
  by_cases c4 : op = 4
  · subst c4; simp (maxSteps := 4000000) only [↓packA, ↓reduceIte, packB, pureOp, quietOp, loadOp, quietB, fr0, cellsK, implies_true, ite_true, ite_false, eq_self, ne_eq, reduceCtorEq, Nat.reduceLT, Nat.reduceLeDiff, Nat.reduceAdd, Nat.reduceMul, Nat.reduceBEq, Nat.reduceEqDiff, Int.reduceToNat, Int.reduceLT, Int.reduceLE, Nat.reduceSub, pl109, ft77, Int.cast_ofNat_Int, Int.natCast_zero, Int.natCast_one, Int.reduceAdd, Int.reduceSub, Int.reduceNeg, Int.reduceMul, Int.reduceToNat, Int.reduceLT, Int.reduceLE, Int.reduceEq, Int.reduceBEq, Int.reduceBNe, Nat.reduceSub, Nat.reduceLT, List.getD_cons_zero, List.getD_cons_succ, List.length_singleton, Bool.and_true, Bool.and_false]
    exact .pure _ rfl
  by_cases c5 : op = 5
  · subst c5; simp (maxSteps := 4000000) only [↓packA, ↓reduceIte, packB, pureOp, quietOp, loadOp, quietB, fr0, cellsK, implies_true, ite_true, ite_false, eq_self, ne_eq, reduceCtorEq, Nat.reduceLT, Nat.reduceLeDiff, Nat.reduceAdd, Nat.reduceMul, Nat.reduceBEq, Nat.reduceEqDiff, Int.reduceToNat, Int.reduceLT, Int.reduceLE, Nat.reduceSub, pl109, ft77, Int.cast_ofNat_Int, Int.natCast_zero, Int.natCast_one, Int.reduceAdd, Int.reduceSub, Int.reduceNeg, Int.reduceMul, Int.reduceToNat, Int.reduceLT, Int.reduceLE, Int.reduceEq, Int.reduceBEq, Int.reduceBNe, Nat.reduceSub, Nat.reduceLT, List.getD_cons_zero, List.getD_cons_succ, List.length_singleton, Bool.and_true, Bool.and_false]
    exact .pure _ rfl
  by_cases c6 : op = 6
  · subst c6; simp (maxSteps := 4000000) only [↓packA, ↓reduceIte, packB, pureOp, quietOp, loadOp, quietB, fr0, cellsK, implies_true, ite_true, ite_false, eq_self, ne_eq, reduceCtorEq, Nat.reduceLT, Nat.reduceLeDiff, Nat.reduceAdd, Nat.reduceMul, Nat.reduceBEq, Nat.reduceEqDiff, Int.reduceToNat, Int.reduceLT, Int.reduceLE, Nat.reduceSub, pl109, ft77, Int.cast_ofNat_Int, Int.natCast_zero, Int.natCast_one, Int.reduceAdd, Int.reduceSub, Int.reduceNeg, Int.reduceMul, Int.reduceToNat, Int.reduceLT, Int.reduceLE, Int.reduceEq, Int.reduceBEq, Int.reduceBNe, Nat.reduceSub, Nat.reduceLT, List.getD_cons_zero, List.getD_cons_succ, List.length_singleton, Bool.and_true, Bool.and_false]
    exact .pure _ rfl
  · rw [show two op = false from decide_eq_false (by omega)]
    simp (maxSteps := 4000000) only [↓packA, ↓reduceIte, packB, pureOp, quietOp, loadOp, quietB, fr0, cellsK, implies_true, ite_true, ite_false, eq_self, ne_eq, reduceCtorEq, Nat.reduceLT, Nat.reduceLeDiff, Nat.reduceAdd, Nat.reduceMul, Nat.reduceBEq, Nat.reduceEqDiff, Int.reduceToNat, Int.reduceLT, Int.reduceLE, Nat.reduceSub, pl109, ft77, c3, c4, c5, c6, Int.cast_ofNat_Int, Int.natCast_zero, Int.natCast_one, Int.reduceAdd, Int.reduceSub, Int.reduceNeg, Int.reduceMul, Int.reduceToNat, Int.reduceLT, Int.reduceLE, Int.reduceEq, Int.reduceBEq, Int.reduceBNe, Nat.reduceSub, Nat.reduceLT, List.getD_cons_zero, List.getD_cons_succ, List.length_singleton, Bool.and_true, Bool.and_false]
    rw [show (op == 6) = false from beq_false_of_ne c6]
    exact .pure _ rfl
set_option maxRecDepth 100000 in
theorem rtwo_c (op : Int) : APure Try.prog 113 [.int .i64 op] (.bool (two op)) := by
  refine apure_of (wp113 rfl rfl ?_)
  by_cases c3 : op = 3
  · subst c3; simp (maxSteps := 4000000) only [↓packA, ↓reduceIte, packB, pureOp, quietOp, loadOp, quietB, fr0, cellsK, implies_true, ite_true, ite_false, eq_self, ne_eq, reduceCtorEq, Nat.reduceLT, Nat.reduceLeDiff, Nat.reduceAdd, Nat.reduceMul, Nat.reduceBEq, Nat.reduceEqDiff, Int.reduceToNat, Int.reduceLT, Int.reduceLE, Nat.reduceSub, pl113, ft77, Int.cast_ofNat_Int, Int.natCast_zero, Int.natCast_one, Int.reduceAdd, Int.reduceSub, Int.reduceNeg, Int.reduceMul, Int.reduceToNat, Int.reduceLT, Int.reduceLE, Int.reduceEq, Int.reduceBEq, Int.reduceBNe, Nat.reduceSub, Nat.reduceLT, List.getD_cons_zero, List.getD_cons_succ, List.length_singleton, Bool.and_true, Bool.and_false]
    exact .pure _ rfl
  by_cases c4 : op = 4
  · subst c4; simp (maxSteps := 4000000) only [↓packA, ↓reduceIte, packB, pureOp, quietOp, loadOp, quietB, fr0, cellsK, implies_true, ite_true, ite_false, eq_self, ne_eq, reduceCtorEq, Nat.reduceLT, Nat.reduceLeDiff, Nat.reduceAdd, Nat.reduceMul, Nat.reduceBEq, Nat.reduceEqDiff, Int.reduceToNat, Int.reduceLT, Int.reduceLE, Nat.reduceSub, pl113, ft77, Int.cast_ofNat_Int, Int.natCast_zero, Int.natCast_one, Int.reduceAdd, Int.reduceSub, Int.reduceNeg, Int.reduceMul, Int.reduceToNat, Int.reduceLT, Int.reduceLE, Int.reduceEq, Int.reduceBEq, Int.reduceBNe, Nat.reduceSub, Nat.reduceLT, List.getD_cons_zero, List.getD_cons_succ, List.length_singleton, Bool.and_true, Bool.and_false]
    exact .pure _ rfl
  by_cases c5 : op = 5
  · subst c5; simp (maxSteps := 4000000) only [↓packA, ↓reduceIte, packB, pureOp, quietOp, loadOp, quietB, fr0, cellsK, implies_true, ite_true, ite_false, eq_self, ne_eq, reduceCtorEq, Nat.reduceLT, Nat.reduceLeDiff, Nat.reduceAdd, Nat.reduceMul, Nat.reduceBEq, Nat.reduceEqDiff, Int.reduceToNat, Int.reduceLT, Int.reduceLE, Nat.reduceSub, pl113, ft77, Int.cast_ofNat_Int, Int.natCast_zero, Int.natCast_one, Int.reduceAdd, Int.reduceSub, Int.reduceNeg, Int.reduceMul, Int.reduceToNat, Int.reduceLT, Int.reduceLE, Int.reduceEq, Int.reduceBEq, Int.reduceBNe, Nat.reduceSub, Nat.reduceLT, List.getD_cons_zero, List.getD_cons_succ, List.length_singleton, Bool.and_true, Bool.and_false]
    exact .pure _ rfl
  by_cases c6 : op = 6
  · subst c6; simp (maxSteps := 4000000) only [↓packA, ↓reduceIte, packB, pureOp, quietOp, loadOp, quietB, fr0, cellsK, implies_true, ite_true, ite_false, eq_self, ne_eq, reduceCtorEq, Nat.reduceLT, Nat.reduceLeDiff, Nat.reduceAdd, Nat.reduceMul, Nat.reduceBEq, Nat.reduceEqDiff, Int.reduceToNat, Int.reduceLT, Int.reduceLE, Nat.reduceSub, pl113, ft77, Int.cast_ofNat_Int, Int.natCast_zero, Int.natCast_one, Int.reduceAdd, Int.reduceSub, Int.reduceNeg, Int.reduceMul, Int.reduceToNat, Int.reduceLT, Int.reduceLE, Int.reduceEq, Int.reduceBEq, Int.reduceBNe, Nat.reduceSub, Nat.reduceLT, List.getD_cons_zero, List.getD_cons_succ, List.length_singleton, Bool.and_true, Bool.and_false]
    exact .pure _ rfl
  · rw [show two op = false from decide_eq_false (by omega)]
    simp (maxSteps := 4000000) only [↓packA, ↓reduceIte, packB, pureOp, quietOp, loadOp, quietB, fr0, cellsK, implies_true, ite_true, ite_false, eq_self, ne_eq, reduceCtorEq, Nat.reduceLT, Nat.reduceLeDiff, Nat.reduceAdd, Nat.reduceMul, Nat.reduceBEq, Nat.reduceEqDiff, Int.reduceToNat, Int.reduceLT, Int.reduceLE, Nat.reduceSub, pl113, ft77, c3, c4, c5, c6, Int.cast_ofNat_Int, Int.natCast_zero, Int.natCast_one, Int.reduceAdd, Int.reduceSub, Int.reduceNeg, Int.reduceMul, Int.reduceToNat, Int.reduceLT, Int.reduceLE, Int.reduceEq, Int.reduceBEq, Int.reduceBNe, Nat.reduceSub, Nat.reduceLT, List.getD_cons_zero, List.getD_cons_succ, List.length_singleton, Bool.and_true, Bool.and_false]
    rw [show (op == 6) = false from beq_false_of_ne c6]
    exact .pure _ rfl
set_option maxRecDepth 100000 in
theorem one_fold (op : Int) : APure Try.prog 112 [.int .i64 op] (.bool (one op)) := by
  refine apure_of (wp112 rfl rfl ?_)
  by_cases c7 : op = 7
  · subst c7; simp (maxSteps := 4000000) only [↓packA, ↓reduceIte, packB, pureOp, quietOp, loadOp, quietB, fr0, cellsK, implies_true, ite_true, ite_false, eq_self, ne_eq, reduceCtorEq, Nat.reduceLT, Nat.reduceLeDiff, Nat.reduceAdd, Nat.reduceMul, Nat.reduceBEq, Nat.reduceEqDiff, Int.reduceToNat, Int.reduceLT, Int.reduceLE, Nat.reduceSub, pl112, ft77, Int.cast_ofNat_Int, Int.natCast_zero, Int.natCast_one, Int.reduceAdd, Int.reduceSub, Int.reduceNeg, Int.reduceMul, Int.reduceToNat, Int.reduceLT, Int.reduceLE, Int.reduceEq, Int.reduceBEq, Int.reduceBNe, Nat.reduceSub, Nat.reduceLT, List.getD_cons_zero, List.getD_cons_succ, List.length_singleton, Bool.and_true, Bool.and_false]
    exact .pure _ rfl
  by_cases c8 : op = 8
  · subst c8; simp (maxSteps := 4000000) only [↓packA, ↓reduceIte, packB, pureOp, quietOp, loadOp, quietB, fr0, cellsK, implies_true, ite_true, ite_false, eq_self, ne_eq, reduceCtorEq, Nat.reduceLT, Nat.reduceLeDiff, Nat.reduceAdd, Nat.reduceMul, Nat.reduceBEq, Nat.reduceEqDiff, Int.reduceToNat, Int.reduceLT, Int.reduceLE, Nat.reduceSub, pl112, ft77, Int.cast_ofNat_Int, Int.natCast_zero, Int.natCast_one, Int.reduceAdd, Int.reduceSub, Int.reduceNeg, Int.reduceMul, Int.reduceToNat, Int.reduceLT, Int.reduceLE, Int.reduceEq, Int.reduceBEq, Int.reduceBNe, Nat.reduceSub, Nat.reduceLT, List.getD_cons_zero, List.getD_cons_succ, List.length_singleton, Bool.and_true, Bool.and_false]
    exact .pure _ rfl
  · rw [show one op = false from decide_eq_false (by omega)]
    simp (maxSteps := 4000000) only [↓packA, ↓reduceIte, packB, pureOp, quietOp, loadOp, quietB, fr0, cellsK, implies_true, ite_true, ite_false, eq_self, ne_eq, reduceCtorEq, Nat.reduceLT, Nat.reduceLeDiff, Nat.reduceAdd, Nat.reduceMul, Nat.reduceBEq, Nat.reduceEqDiff, Int.reduceToNat, Int.reduceLT, Int.reduceLE, Nat.reduceSub, pl112, ft77, c7, c8, Int.cast_ofNat_Int, Int.natCast_zero, Int.natCast_one, Int.reduceAdd, Int.reduceSub, Int.reduceNeg, Int.reduceMul, Int.reduceToNat, Int.reduceLT, Int.reduceLE, Int.reduceEq, Int.reduceBEq, Int.reduceBNe, Nat.reduceSub, Nat.reduceLT, List.getD_cons_zero, List.getD_cons_succ, List.length_singleton, Bool.and_true, Bool.and_false]
    rw [show (op == 8) = false from beq_false_of_ne c8]
    exact .pure _ rfl
set_option maxRecDepth 100000 in
theorem none_c (neg : Bool) (num den : List Int) : APure Try.prog 121 [ratV neg num den] (.bool (noneB neg num den)) := by
  refine apure_of (wp121 rfl rfl ?_)
  cases neg
  · by_cases c1 : num.length = 0
    · have r1 : (num.length : Int) = 0 := by omega
      by_cases c2 : den.length = 0
      · have r2 : (den.length : Int) = 0 := by omega
        simp (maxSteps := 4000000) only [↓packA, ↓reduceIte, packB, pureOp, quietOp, loadOp, quietB, fr0, cellsK, implies_true, ite_true, ite_false, eq_self, ne_eq, reduceCtorEq, Nat.reduceLT, Nat.reduceLeDiff, Nat.reduceAdd, Nat.reduceMul, Nat.reduceBEq, Nat.reduceEqDiff, Int.reduceToNat, Int.reduceLT, Int.reduceLE, Nat.reduceSub, pl121, ft1, ft2, ft3, ft4, ft79, ft81, ft115, ratV, lims, r1, r2, Int.cast_ofNat_Int, Int.natCast_zero, Int.natCast_one, Int.reduceAdd, Int.reduceSub, Int.reduceNeg, Int.reduceMul, Int.reduceToNat, Int.reduceLT, Int.reduceLE, Int.reduceEq, Int.reduceBEq, Int.reduceBNe, Nat.reduceSub, Nat.reduceLT, List.getD_cons_zero, List.getD_cons_succ, List.length_singleton, Bool.and_true, Bool.and_false]
        rw [show noneB false num den = true by simp [noneB, c1, c2]]
        exact .pure _ rfl
      · have r2 : ¬ (den.length : Int) = 0 := by omega
        simp (maxSteps := 4000000) only [↓packA, ↓reduceIte, packB, pureOp, quietOp, loadOp, quietB, fr0, cellsK, implies_true, ite_true, ite_false, eq_self, ne_eq, reduceCtorEq, Nat.reduceLT, Nat.reduceLeDiff, Nat.reduceAdd, Nat.reduceMul, Nat.reduceBEq, Nat.reduceEqDiff, Int.reduceToNat, Int.reduceLT, Int.reduceLE, Nat.reduceSub, pl121, ft1, ft2, ft3, ft4, ft79, ft81, ft115, ratV, lims, r1, r2, Int.cast_ofNat_Int, Int.natCast_zero, Int.natCast_one, Int.reduceAdd, Int.reduceSub, Int.reduceNeg, Int.reduceMul, Int.reduceToNat, Int.reduceLT, Int.reduceLE, Int.reduceEq, Int.reduceBEq, Int.reduceBNe, Nat.reduceSub, Nat.reduceLT, List.getD_cons_zero, List.getD_cons_succ, List.length_singleton, Bool.and_true, Bool.and_false]
        rw [show noneB false num den = false by simp [noneB, c1, c2]]
        (try rw [show ((den.length : Int) == 0) = false from beq_false_of_ne r2])
        exact .pure _ rfl
    · have r1 : ¬ (num.length : Int) = 0 := by omega
      simp (maxSteps := 4000000) only [↓packA, ↓reduceIte, packB, pureOp, quietOp, loadOp, quietB, fr0, cellsK, implies_true, ite_true, ite_false, eq_self, ne_eq, reduceCtorEq, Nat.reduceLT, Nat.reduceLeDiff, Nat.reduceAdd, Nat.reduceMul, Nat.reduceBEq, Nat.reduceEqDiff, Int.reduceToNat, Int.reduceLT, Int.reduceLE, Nat.reduceSub, pl121, ft1, ft2, ft3, ft4, ft79, ft81, ft115, ratV, lims, r1, Int.cast_ofNat_Int, Int.natCast_zero, Int.natCast_one, Int.reduceAdd, Int.reduceSub, Int.reduceNeg, Int.reduceMul, Int.reduceToNat, Int.reduceLT, Int.reduceLE, Int.reduceEq, Int.reduceBEq, Int.reduceBNe, Nat.reduceSub, Nat.reduceLT, List.getD_cons_zero, List.getD_cons_succ, List.length_singleton, Bool.and_true, Bool.and_false]
      rw [show noneB false num den = false by simp [noneB, c1]]
      exact .pure _ rfl
  · simp (maxSteps := 4000000) only [↓packA, ↓reduceIte, packB, pureOp, quietOp, loadOp, quietB, fr0, cellsK, implies_true, ite_true, ite_false, eq_self, ne_eq, reduceCtorEq, Nat.reduceLT, Nat.reduceLeDiff, Nat.reduceAdd, Nat.reduceMul, Nat.reduceBEq, Nat.reduceEqDiff, Int.reduceToNat, Int.reduceLT, Int.reduceLE, Nat.reduceSub, pl121, ft1, ft2, ft3, ft4, ft79, ft81, ft115, ratV, lims, Int.cast_ofNat_Int, Int.natCast_zero, Int.natCast_one, Int.reduceAdd, Int.reduceSub, Int.reduceNeg, Int.reduceMul, Int.reduceToNat, Int.reduceLT, Int.reduceLE, Int.reduceEq, Int.reduceBEq, Int.reduceBNe, Nat.reduceSub, Nat.reduceLT, List.getD_cons_zero, List.getD_cons_succ, List.length_singleton, Bool.and_true, Bool.and_false]
    exact .pure _ rfl
set_option maxRecDepth 100000 in
theorem spare_c (n : Nd) (hn : n.Ok) : APure Try.prog 107 [n.V] (.bool n.spare) := by
  refine apure_of (wp107 rfl rfl ?_)
  have hln := hn.ln
  have hld := hn.ld
  obtain ⟨op, a, b, c, neg, num, den⟩ := n
  simp only at hln hld
  refine asx_cut (fun f h => f 1 = .op 0 7 0 0 ∧ h = [.arr 7 [Nd.cells ⟨op, a, b, c, neg, num, den⟩] true]) ?_ fun f h hM => ?_
  · simp (maxSteps := 4000000) only [↓packA, ↓reduceIte, packB, pureOp, quietOp, loadOp, quietB, fr0, cellsK, implies_true, ite_true, ite_false, eq_self, ne_eq, reduceCtorEq, Nat.reduceLT, Nat.reduceLeDiff, Nat.reduceAdd, Nat.reduceMul, Nat.reduceBEq, Nat.reduceEqDiff, Int.reduceToNat, Int.reduceLT, Int.reduceLE, Nat.reduceSub, pl107, ft1, ft2, ft3, ft4, ft77, ft79, ft81, ft83, ft115, Nd.V, Nd.cells]
  obtain ⟨f1, rfl⟩ := hM
  refine asx_cut (fun f h => f 1 = .op 0 7 0 0 ∧ f 3 = .bool (decide (a ≠ 0) && decide (op = 2)) ∧ h = [.arr 7 [Nd.cells ⟨op, a, b, c, neg, num, den⟩] true]) ?_ fun f h hM => ?_
  · by_cases c1 : a = 0
    · simp (maxSteps := 4000000) only [↓packA, ↓reduceIte, packB, pureOp, quietOp, loadOp, quietB, fr0, cellsK, implies_true, ite_true, ite_false, eq_self, ne_eq, reduceCtorEq, Nat.reduceLT, Nat.reduceLeDiff, Nat.reduceAdd, Nat.reduceMul, Nat.reduceBEq, Nat.reduceEqDiff, Int.reduceToNat, Int.reduceLT, Int.reduceLE, Nat.reduceSub, pl107, ft1, ft2, ft3, ft4, ft77, ft79, ft81, ft83, ft115, Nd.V, Nd.cells, f1, c1, Int.cast_ofNat_Int, Int.natCast_zero, Int.natCast_one, Int.reduceAdd, Int.reduceSub, Int.reduceNeg, Int.reduceMul, Int.reduceToNat, Int.reduceLT, Int.reduceLE, Int.reduceEq, Int.reduceBEq, Int.reduceBNe, Nat.reduceSub, Nat.reduceLT, List.getD_cons_zero, List.getD_cons_succ, List.length_singleton, Bool.and_true, Bool.and_false]
      rfl
    · by_cases c2 : op = 2
      · simp (maxSteps := 4000000) only [↓packA, ↓reduceIte, packB, pureOp, quietOp, loadOp, quietB, fr0, cellsK, implies_true, ite_true, ite_false, eq_self, ne_eq, reduceCtorEq, Nat.reduceLT, Nat.reduceLeDiff, Nat.reduceAdd, Nat.reduceMul, Nat.reduceBEq, Nat.reduceEqDiff, Int.reduceToNat, Int.reduceLT, Int.reduceLE, Nat.reduceSub, pl107, ft1, ft2, ft3, ft4, ft77, ft79, ft81, ft83, ft115, Nd.V, Nd.cells, f1, c1, c2, Int.cast_ofNat_Int, Int.natCast_zero, Int.natCast_one, Int.reduceAdd, Int.reduceSub, Int.reduceNeg, Int.reduceMul, Int.reduceToNat, Int.reduceLT, Int.reduceLE, Int.reduceEq, Int.reduceBEq, Int.reduceBNe, Nat.reduceSub, Nat.reduceLT, List.getD_cons_zero, List.getD_cons_succ, List.length_singleton, Bool.and_true, Bool.and_false]
      · simp (maxSteps := 4000000) only [↓packA, ↓reduceIte, packB, pureOp, quietOp, loadOp, quietB, fr0, cellsK, implies_true, ite_true, ite_false, eq_self, ne_eq, reduceCtorEq, Nat.reduceLT, Nat.reduceLeDiff, Nat.reduceAdd, Nat.reduceMul, Nat.reduceBEq, Nat.reduceEqDiff, Int.reduceToNat, Int.reduceLT, Int.reduceLE, Nat.reduceSub, pl107, ft1, ft2, ft3, ft4, ft77, ft79, ft81, ft83, ft115, Nd.V, Nd.cells, f1, c1, c2, Int.cast_ofNat_Int, Int.natCast_zero, Int.natCast_one, Int.reduceAdd, Int.reduceSub, Int.reduceNeg, Int.reduceMul, Int.reduceToNat, Int.reduceLT, Int.reduceLE, Int.reduceEq, Int.reduceBEq, Int.reduceBNe, Nat.reduceSub, Nat.reduceLT, List.getD_cons_zero, List.getD_cons_succ, List.length_singleton, Bool.and_true, Bool.and_false]
  obtain ⟨f1, f3, rfl⟩ := hM
  refine asx_cut (fun f h => f 1 = .op 0 7 0 0 ∧ f 3 = .bool (decide (a ≠ 0) && decide (op = 2)) ∧ f 4 = .bool (decide (b ≠ 0) && !two op) ∧ h = [.arr 7 [Nd.cells ⟨op, a, b, c, neg, num, den⟩] true]) ?_ fun f h hM => ?_
  · by_cases c1 : b = 0
    · simp (maxSteps := 4000000) only [↓packA, ↓reduceIte, packB, pureOp, quietOp, loadOp, quietB, fr0, cellsK, implies_true, ite_true, ite_false, eq_self, ne_eq, reduceCtorEq, Nat.reduceLT, Nat.reduceLeDiff, Nat.reduceAdd, Nat.reduceMul, Nat.reduceBEq, Nat.reduceEqDiff, Int.reduceToNat, Int.reduceLT, Int.reduceLE, Nat.reduceSub, pl107, ft1, ft2, ft3, ft4, ft77, ft79, ft81, ft83, ft115, Nd.V, Nd.cells, f1, f3, c1, Int.cast_ofNat_Int, Int.natCast_zero, Int.natCast_one, Int.reduceAdd, Int.reduceSub, Int.reduceNeg, Int.reduceMul, Int.reduceToNat, Int.reduceLT, Int.reduceLE, Int.reduceEq, Int.reduceBEq, Int.reduceBNe, Nat.reduceSub, Nat.reduceLT, List.getD_cons_zero, List.getD_cons_succ, List.length_singleton, Bool.and_true, Bool.and_false]
      rfl
    · simp (maxSteps := 4000000) only [↓packA, ↓reduceIte, packB, pureOp, quietOp, loadOp, quietB, fr0, cellsK, implies_true, ite_true, ite_false, eq_self, ne_eq, reduceCtorEq, Nat.reduceLT, Nat.reduceLeDiff, Nat.reduceAdd, Nat.reduceMul, Nat.reduceBEq, Nat.reduceEqDiff, Int.reduceToNat, Int.reduceLT, Int.reduceLE, Nat.reduceSub, pl107, ft1, ft2, ft3, ft4, ft77, ft79, ft81, ft83, ft115, Nd.V, Nd.cells, f1, f3, c1, Int.cast_ofNat_Int, Int.natCast_zero, Int.natCast_one, Int.reduceAdd, Int.reduceSub, Int.reduceNeg, Int.reduceMul, Int.reduceToNat, Int.reduceLT, Int.reduceLE, Int.reduceEq, Int.reduceBEq, Int.reduceBNe, Nat.reduceSub, Nat.reduceLT, List.getD_cons_zero, List.getD_cons_succ, List.length_singleton, Bool.and_true, Bool.and_false]
      refine acalls_pure (two_c op) rfl ?_
      simp (maxSteps := 4000000) only [↓packA, ↓reduceIte, packB, pureOp, quietOp, loadOp, quietB, fr0, cellsK, implies_true, ite_true, ite_false, eq_self, ne_eq, reduceCtorEq, Nat.reduceLT, Nat.reduceLeDiff, Nat.reduceAdd, Nat.reduceMul, Nat.reduceBEq, Nat.reduceEqDiff, Int.reduceToNat, Int.reduceLT, Int.reduceLE, Nat.reduceSub, pl107, ft1, ft2, ft3, ft4, ft77, ft79, ft81, ft83, ft115, Nd.V, Nd.cells, f1, f3, c1, Int.cast_ofNat_Int, Int.natCast_zero, Int.natCast_one, Int.reduceAdd, Int.reduceSub, Int.reduceNeg, Int.reduceMul, Int.reduceToNat, Int.reduceLT, Int.reduceLE, Int.reduceEq, Int.reduceBEq, Int.reduceBNe, Nat.reduceSub, Nat.reduceLT, List.getD_cons_zero, List.getD_cons_succ, List.length_singleton, Bool.and_true, Bool.and_false]
      exact (Bool.true_and _).symm
  obtain ⟨f1, f3, f4, rfl⟩ := hM
  refine asx_cut (fun f h => f 1 = .op 0 7 0 0 ∧ f 3 = .bool (decide (a ≠ 0) && decide (op = 2)) ∧ f 4 = .bool (decide (b ≠ 0) && !two op) ∧ f 5 = .bool (decide (c ≠ 0) && decide (op ≠ 8)) ∧ h = [.arr 7 [Nd.cells ⟨op, a, b, c, neg, num, den⟩] true]) ?_ fun f h hM => ?_
  · by_cases c1 : c = 0
    · simp (maxSteps := 4000000) only [↓packA, ↓reduceIte, packB, pureOp, quietOp, loadOp, quietB, fr0, cellsK, implies_true, ite_true, ite_false, eq_self, ne_eq, reduceCtorEq, Nat.reduceLT, Nat.reduceLeDiff, Nat.reduceAdd, Nat.reduceMul, Nat.reduceBEq, Nat.reduceEqDiff, Int.reduceToNat, Int.reduceLT, Int.reduceLE, Nat.reduceSub, pl107, ft1, ft2, ft3, ft4, ft77, ft79, ft81, ft83, ft115, Nd.V, Nd.cells, f1, f3, f4, c1, Int.cast_ofNat_Int, Int.natCast_zero, Int.natCast_one, Int.reduceAdd, Int.reduceSub, Int.reduceNeg, Int.reduceMul, Int.reduceToNat, Int.reduceLT, Int.reduceLE, Int.reduceEq, Int.reduceBEq, Int.reduceBNe, Nat.reduceSub, Nat.reduceLT, List.getD_cons_zero, List.getD_cons_succ, List.length_singleton, Bool.and_true, Bool.and_false]
      rfl
    · simp (maxSteps := 4000000) only [↓packA, ↓reduceIte, packB, pureOp, quietOp, loadOp, quietB, fr0, cellsK, implies_true, ite_true, ite_false, eq_self, ne_eq, reduceCtorEq, Nat.reduceLT, Nat.reduceLeDiff, Nat.reduceAdd, Nat.reduceMul, Nat.reduceBEq, Nat.reduceEqDiff, Int.reduceToNat, Int.reduceLT, Int.reduceLE, Nat.reduceSub, pl107, ft1, ft2, ft3, ft4, ft77, ft79, ft81, ft83, ft115, Nd.V, Nd.cells, f1, f3, f4, c1, Int.cast_ofNat_Int, Int.natCast_zero, Int.natCast_one, Int.reduceAdd, Int.reduceSub, Int.reduceNeg, Int.reduceMul, Int.reduceToNat, Int.reduceLT, Int.reduceLE, Int.reduceEq, Int.reduceBEq, Int.reduceBNe, Nat.reduceSub, Nat.reduceLT, List.getD_cons_zero, List.getD_cons_succ, List.length_singleton, Bool.and_true, Bool.and_false]
      rw [Bool.true_and, bne_dec]
  obtain ⟨f1, f3, f4, f5, rfl⟩ := hM
  refine asx_cut (fun f h => f 3 = .bool (decide (a ≠ 0) && decide (op = 2)) ∧ f 4 = .bool (decide (b ≠ 0) && !two op) ∧ f 5 = .bool (decide (c ≠ 0) && decide (op ≠ 8)) ∧ f 6 = .bool (!noneB neg num den && decide (op ≠ 2))) ?_ fun f h hM => ?_
  · cases neg
    · by_cases c1 : num.length = 0
      · by_cases c2 : den.length = 0
        · have r1 : ¬ (num.length : Int) + den.length > 0 := by omega
          simp (maxSteps := 4000000) only [↓packA, ↓reduceIte, packB, pureOp, quietOp, loadOp, quietB, fr0, cellsK, implies_true, ite_true, ite_false, eq_self, ne_eq, reduceCtorEq, Nat.reduceLT, Nat.reduceLeDiff, Nat.reduceAdd, Nat.reduceMul, Nat.reduceBEq, Nat.reduceEqDiff, Int.reduceToNat, Int.reduceLT, Int.reduceLE, Nat.reduceSub, pl107, ft1, ft2, ft3, ft4, ft77, ft79, ft81, ft83, ft115, Nd.V, Nd.cells, lims, f1, f3, f4, f5, r1, Int.cast_ofNat_Int, Int.natCast_zero, Int.natCast_one, Int.reduceAdd, Int.reduceSub, Int.reduceNeg, Int.reduceMul, Int.reduceToNat, Int.reduceLT, Int.reduceLE, Int.reduceEq, Int.reduceBEq, Int.reduceBNe, Nat.reduceSub, Nat.reduceLT, List.getD_cons_zero, List.getD_cons_succ, List.length_singleton, Bool.and_true, Bool.and_false]
          exact ⟨by omega, by simp [noneB, c1, c2]⟩
        · have r1 : (num.length : Int) + den.length > 0 := by omega
          simp (maxSteps := 4000000) only [↓packA, ↓reduceIte, packB, pureOp, quietOp, loadOp, quietB, fr0, cellsK, implies_true, ite_true, ite_false, eq_self, ne_eq, reduceCtorEq, Nat.reduceLT, Nat.reduceLeDiff, Nat.reduceAdd, Nat.reduceMul, Nat.reduceBEq, Nat.reduceEqDiff, Int.reduceToNat, Int.reduceLT, Int.reduceLE, Nat.reduceSub, pl107, ft1, ft2, ft3, ft4, ft77, ft79, ft81, ft83, ft115, Nd.V, Nd.cells, lims, f1, f3, f4, f5, r1, Int.cast_ofNat_Int, Int.natCast_zero, Int.natCast_one, Int.reduceAdd, Int.reduceSub, Int.reduceNeg, Int.reduceMul, Int.reduceToNat, Int.reduceLT, Int.reduceLE, Int.reduceEq, Int.reduceBEq, Int.reduceBNe, Nat.reduceSub, Nat.reduceLT, List.getD_cons_zero, List.getD_cons_succ, List.length_singleton, Bool.and_true, Bool.and_false]
          exact ⟨by omega, by rw [bne_dec]; simp [noneB, c1, c2]⟩
      · have r1 : (num.length : Int) + den.length > 0 := by omega
        simp (maxSteps := 4000000) only [↓packA, ↓reduceIte, packB, pureOp, quietOp, loadOp, quietB, fr0, cellsK, implies_true, ite_true, ite_false, eq_self, ne_eq, reduceCtorEq, Nat.reduceLT, Nat.reduceLeDiff, Nat.reduceAdd, Nat.reduceMul, Nat.reduceBEq, Nat.reduceEqDiff, Int.reduceToNat, Int.reduceLT, Int.reduceLE, Nat.reduceSub, pl107, ft1, ft2, ft3, ft4, ft77, ft79, ft81, ft83, ft115, Nd.V, Nd.cells, lims, f1, f3, f4, f5, r1, Int.cast_ofNat_Int, Int.natCast_zero, Int.natCast_one, Int.reduceAdd, Int.reduceSub, Int.reduceNeg, Int.reduceMul, Int.reduceToNat, Int.reduceLT, Int.reduceLE, Int.reduceEq, Int.reduceBEq, Int.reduceBNe, Nat.reduceSub, Nat.reduceLT, List.getD_cons_zero, List.getD_cons_succ, List.length_singleton, Bool.and_true, Bool.and_false]
        exact ⟨by omega, by rw [bne_dec]; simp [noneB, c1]⟩
    · simp (maxSteps := 4000000) only [↓packA, ↓reduceIte, packB, pureOp, quietOp, loadOp, quietB, fr0, cellsK, implies_true, ite_true, ite_false, eq_self, ne_eq, reduceCtorEq, Nat.reduceLT, Nat.reduceLeDiff, Nat.reduceAdd, Nat.reduceMul, Nat.reduceBEq, Nat.reduceEqDiff, Int.reduceToNat, Int.reduceLT, Int.reduceLE, Nat.reduceSub, pl107, ft1, ft2, ft3, ft4, ft77, ft79, ft81, ft83, ft115, Nd.V, Nd.cells, lims, f1, f3, f4, f5, Int.cast_ofNat_Int, Int.natCast_zero, Int.natCast_one, Int.reduceAdd, Int.reduceSub, Int.reduceNeg, Int.reduceMul, Int.reduceToNat, Int.reduceLT, Int.reduceLE, Int.reduceEq, Int.reduceBEq, Int.reduceBNe, Nat.reduceSub, Nat.reduceLT, List.getD_cons_zero, List.getD_cons_succ, List.length_singleton, Bool.and_true, Bool.and_false]
      rw [bne_dec]; simp [noneB]
  obtain ⟨f3, f4, f5, f6⟩ := hM
  show asx _ _ _ _ _ f h
  rw [show Nd.spare ⟨op, a, b, c, neg, num, den⟩ = ((((decide (a ≠ 0) && decide (op = 2)) || (decide (b ≠ 0) && !two op)) || (decide (c ≠ 0) && decide (op ≠ 8))) || (!noneB neg num den && decide (op ≠ 2))) from rfl]
  generalize (decide (a ≠ 0) && decide (op = 2)) = B1 at *
  generalize (decide (b ≠ 0) && !two op) = B2 at *
  generalize (decide (c ≠ 0) && decide (op ≠ 8)) = B3 at *
  generalize (!noneB neg num den && decide (op ≠ 2)) = B4 at *
  cases B1
  · cases B2
    · cases B3
      · simp (maxSteps := 4000000) only [↓packA, ↓reduceIte, packB, pureOp, quietOp, loadOp, quietB, fr0, cellsK, implies_true, ite_true, ite_false, eq_self, ne_eq, reduceCtorEq, Nat.reduceLT, Nat.reduceLeDiff, Nat.reduceAdd, Nat.reduceMul, Nat.reduceBEq, Nat.reduceEqDiff, Int.reduceToNat, Int.reduceLT, Int.reduceLE, Nat.reduceSub, pl107, ft1, ft2, ft3, ft4, ft77, ft79, ft81, ft83, ft115, f3, f4, f5, f6, Int.cast_ofNat_Int, Int.natCast_zero, Int.natCast_one, Int.reduceAdd, Int.reduceSub, Int.reduceNeg, Int.reduceMul, Int.reduceToNat, Int.reduceLT, Int.reduceLE, Int.reduceEq, Int.reduceBEq, Int.reduceBNe, Nat.reduceSub, Nat.reduceLT, List.getD_cons_zero, List.getD_cons_succ, List.length_singleton, Bool.and_true, Bool.and_false]
        exact .pure _ rfl
      · simp (maxSteps := 4000000) only [↓packA, ↓reduceIte, packB, pureOp, quietOp, loadOp, quietB, fr0, cellsK, implies_true, ite_true, ite_false, eq_self, ne_eq, reduceCtorEq, Nat.reduceLT, Nat.reduceLeDiff, Nat.reduceAdd, Nat.reduceMul, Nat.reduceBEq, Nat.reduceEqDiff, Int.reduceToNat, Int.reduceLT, Int.reduceLE, Nat.reduceSub, pl107, ft1, ft2, ft3, ft4, ft77, ft79, ft81, ft83, ft115, f3, f4, f5, f6, Int.cast_ofNat_Int, Int.natCast_zero, Int.natCast_one, Int.reduceAdd, Int.reduceSub, Int.reduceNeg, Int.reduceMul, Int.reduceToNat, Int.reduceLT, Int.reduceLE, Int.reduceEq, Int.reduceBEq, Int.reduceBNe, Nat.reduceSub, Nat.reduceLT, List.getD_cons_zero, List.getD_cons_succ, List.length_singleton, Bool.and_true, Bool.and_false]
        exact .pure _ rfl
    · simp (maxSteps := 4000000) only [↓packA, ↓reduceIte, packB, pureOp, quietOp, loadOp, quietB, fr0, cellsK, implies_true, ite_true, ite_false, eq_self, ne_eq, reduceCtorEq, Nat.reduceLT, Nat.reduceLeDiff, Nat.reduceAdd, Nat.reduceMul, Nat.reduceBEq, Nat.reduceEqDiff, Int.reduceToNat, Int.reduceLT, Int.reduceLE, Nat.reduceSub, pl107, ft1, ft2, ft3, ft4, ft77, ft79, ft81, ft83, ft115, f3, f4, f5, f6, Int.cast_ofNat_Int, Int.natCast_zero, Int.natCast_one, Int.reduceAdd, Int.reduceSub, Int.reduceNeg, Int.reduceMul, Int.reduceToNat, Int.reduceLT, Int.reduceLE, Int.reduceEq, Int.reduceBEq, Int.reduceBNe, Nat.reduceSub, Nat.reduceLT, List.getD_cons_zero, List.getD_cons_succ, List.length_singleton, Bool.and_true, Bool.and_false]
      exact .pure _ rfl
  · simp (maxSteps := 4000000) only [↓packA, ↓reduceIte, packB, pureOp, quietOp, loadOp, quietB, fr0, cellsK, implies_true, ite_true, ite_false, eq_self, ne_eq, reduceCtorEq, Nat.reduceLT, Nat.reduceLeDiff, Nat.reduceAdd, Nat.reduceMul, Nat.reduceBEq, Nat.reduceEqDiff, Int.reduceToNat, Int.reduceLT, Int.reduceLE, Nat.reduceSub, pl107, ft1, ft2, ft3, ft4, ft77, ft79, ft81, ft83, ft115, f3, f4, f5, f6, Int.cast_ofNat_Int, Int.natCast_zero, Int.natCast_one, Int.reduceAdd, Int.reduceSub, Int.reduceNeg, Int.reduceMul, Int.reduceToNat, Int.reduceLT, Int.reduceLE, Int.reduceEq, Int.reduceBEq, Int.reduceBNe, Nat.reduceSub, Nat.reduceLT, List.getD_cons_zero, List.getD_cons_succ, List.length_singleton, Bool.and_true, Bool.and_false]
    exact .pure _ rfl
end Go.Proofs.Ytgdlkhgfehclpaa
end

section
/- What a node leaves unused, the document's. No condition. -/
namespace Go.Proofs.Ytgdlkhgfehclpaa
open Go Go.AL
set_option linter.unusedVariables false
set_option linter.unusedSimpArgs false
set_option maxRecDepth 100000 in
theorem unused_c (n : Nd) (hn : n.Ok) : APure Try.prog 110 [n.V] (.bool n.spare) := by
  refine apure_of (wp110 rfl rfl ?_)
  obtain ⟨op, a, b, c, neg, num, den⟩ := n
  have hsp : Nd.spare ⟨op, a, b, c, neg, num, den⟩ = ((((decide (a ≠ 0) && decide (op = 2)) || (decide (b ≠ 0) && !two op)) || (decide (c ≠ 0) && decide (op ≠ 8))) || (!noneB neg num den && decide (op ≠ 2))) := rfl
  refine asx_cut (fun f h => f 1 = .op 0 7 0 0 ∧ h = [.arr 7 [Nd.cells ⟨op, a, b, c, neg, num, den⟩] true]) ?_ fun f h hM => ?_
  · simp (maxSteps := 4000000) only [↓packA, ↓reduceIte, packB, pureOp, quietOp, loadOp, quietB, fr0, cellsK, implies_true, ite_true, ite_false, eq_self, ne_eq, reduceCtorEq, Nat.reduceLT, Nat.reduceLeDiff, Nat.reduceAdd, Nat.reduceMul, Nat.reduceBEq, Nat.reduceEqDiff, Int.reduceToNat, Int.reduceLT, Int.reduceLE, Nat.reduceSub, pl110, ft1, ft2, ft3, ft4, ft77, ft79, ft81, ft83, ft115, Nd.V, Nd.cells]
  obtain ⟨f1, rfl⟩ := hM
  refine asx_cut (fun f h => f 1 = .op 0 7 0 0 ∧ (op = 2 → a = 0) ∧ h = [.arr 7 [Nd.cells ⟨op, a, b, c, neg, num, den⟩] true]) ?_ fun f h hM => ?_
  · generalize Nd.spare ⟨op, a, b, c, neg, num, den⟩ = sp at *
    by_cases c2 : op = 2
    · by_cases c1 : a = 0
      · simp (maxSteps := 4000000) only [↓packA, ↓reduceIte, packB, pureOp, quietOp, loadOp, quietB, fr0, cellsK, implies_true, ite_true, ite_false, eq_self, ne_eq, reduceCtorEq, Nat.reduceLT, Nat.reduceLeDiff, Nat.reduceAdd, Nat.reduceMul, Nat.reduceBEq, Nat.reduceEqDiff, Int.reduceToNat, Int.reduceLT, Int.reduceLE, Nat.reduceSub, pl110, ft1, ft2, ft3, ft4, ft77, ft79, ft81, ft83, ft115, Nd.V, Nd.cells, f1, c2, c1, Int.cast_ofNat_Int, Int.natCast_zero, Int.natCast_one, Int.reduceAdd, Int.reduceSub, Int.reduceNeg, Int.reduceMul, Int.reduceToNat, Int.reduceLT, Int.reduceLE, Int.reduceEq, Int.reduceBEq, Int.reduceBNe, Nat.reduceSub, Nat.reduceLT, List.getD_cons_zero, List.getD_cons_succ, List.length_singleton, Bool.and_true, Bool.and_false]
        try exact fun _ => c1
      · simp (maxSteps := 4000000) only [↓packA, ↓reduceIte, packB, pureOp, quietOp, loadOp, quietB, fr0, cellsK, implies_true, ite_true, ite_false, eq_self, ne_eq, reduceCtorEq, Nat.reduceLT, Nat.reduceLeDiff, Nat.reduceAdd, Nat.reduceMul, Nat.reduceBEq, Nat.reduceEqDiff, Int.reduceToNat, Int.reduceLT, Int.reduceLE, Nat.reduceSub, pl110, ft1, ft2, ft3, ft4, ft77, ft79, ft81, ft83, ft115, Nd.V, Nd.cells, f1, c2, c1, Int.cast_ofNat_Int, Int.natCast_zero, Int.natCast_one, Int.reduceAdd, Int.reduceSub, Int.reduceNeg, Int.reduceMul, Int.reduceToNat, Int.reduceLT, Int.reduceLE, Int.reduceEq, Int.reduceBEq, Int.reduceBNe, Nat.reduceSub, Nat.reduceLT, List.getD_cons_zero, List.getD_cons_succ, List.length_singleton, Bool.and_true, Bool.and_false]
        rw [show sp = true by rw [hsp]; simp [c1, c2]]
        exact .pure _ rfl
    · simp (maxSteps := 4000000) only [↓packA, ↓reduceIte, packB, pureOp, quietOp, loadOp, quietB, fr0, cellsK, implies_true, ite_true, ite_false, eq_self, ne_eq, reduceCtorEq, Nat.reduceLT, Nat.reduceLeDiff, Nat.reduceAdd, Nat.reduceMul, Nat.reduceBEq, Nat.reduceEqDiff, Int.reduceToNat, Int.reduceLT, Int.reduceLE, Nat.reduceSub, pl110, ft1, ft2, ft3, ft4, ft77, ft79, ft81, ft83, ft115, Nd.V, Nd.cells, f1, c2, Int.cast_ofNat_Int, Int.natCast_zero, Int.natCast_one, Int.reduceAdd, Int.reduceSub, Int.reduceNeg, Int.reduceMul, Int.reduceToNat, Int.reduceLT, Int.reduceLE, Int.reduceEq, Int.reduceBEq, Int.reduceBNe, Nat.reduceSub, Nat.reduceLT, List.getD_cons_zero, List.getD_cons_succ, List.length_singleton, Bool.and_true, Bool.and_false]
      try exact fun h => absurd h c2
  obtain ⟨f1, hc1, rfl⟩ := hM
  refine asx_cut (fun f h => f 1 = .op 0 7 0 0 ∧ (two op = false → b = 0) ∧ h = [.arr 7 [Nd.cells ⟨op, a, b, c, neg, num, den⟩] true]) ?_ fun f h hM => ?_
  · generalize Nd.spare ⟨op, a, b, c, neg, num, den⟩ = sp at *
    simp (maxSteps := 4000000) only [↓packA, ↓reduceIte, packB, pureOp, quietOp, loadOp, quietB, fr0, cellsK, implies_true, ite_true, ite_false, eq_self, ne_eq, reduceCtorEq, Nat.reduceLT, Nat.reduceLeDiff, Nat.reduceAdd, Nat.reduceMul, Nat.reduceBEq, Nat.reduceEqDiff, Int.reduceToNat, Int.reduceLT, Int.reduceLE, Nat.reduceSub, pl110, ft1, ft2, ft3, ft4, ft77, ft79, ft81, ft83, ft115, Nd.V, Nd.cells, f1, Int.cast_ofNat_Int, Int.natCast_zero, Int.natCast_one, Int.reduceAdd, Int.reduceSub, Int.reduceNeg, Int.reduceMul, Int.reduceToNat, Int.reduceLT, Int.reduceLE, Int.reduceEq, Int.reduceBEq, Int.reduceBNe, Nat.reduceSub, Nat.reduceLT, List.getD_cons_zero, List.getD_cons_succ, List.length_singleton, Bool.and_true, Bool.and_false]
    refine acalls_pure (rtwo_c op) rfl ?_
    generalize hto : two op = to at *
    cases to
    · by_cases c1 : b = 0
      · simp (maxSteps := 4000000) only [↓packA, ↓reduceIte, packB, pureOp, quietOp, loadOp, quietB, fr0, cellsK, implies_true, ite_true, ite_false, eq_self, ne_eq, reduceCtorEq, Nat.reduceLT, Nat.reduceLeDiff, Nat.reduceAdd, Nat.reduceMul, Nat.reduceBEq, Nat.reduceEqDiff, Int.reduceToNat, Int.reduceLT, Int.reduceLE, Nat.reduceSub, pl110, ft1, ft2, ft3, ft4, ft77, ft79, ft81, ft83, ft115, Nd.V, Nd.cells, f1, c1, Int.cast_ofNat_Int, Int.natCast_zero, Int.natCast_one, Int.reduceAdd, Int.reduceSub, Int.reduceNeg, Int.reduceMul, Int.reduceToNat, Int.reduceLT, Int.reduceLE, Int.reduceEq, Int.reduceBEq, Int.reduceBNe, Nat.reduceSub, Nat.reduceLT, List.getD_cons_zero, List.getD_cons_succ, List.length_singleton, Bool.and_true, Bool.and_false]
        try exact fun _ => c1
      · simp (maxSteps := 4000000) only [↓packA, ↓reduceIte, packB, pureOp, quietOp, loadOp, quietB, fr0, cellsK, implies_true, ite_true, ite_false, eq_self, ne_eq, reduceCtorEq, Nat.reduceLT, Nat.reduceLeDiff, Nat.reduceAdd, Nat.reduceMul, Nat.reduceBEq, Nat.reduceEqDiff, Int.reduceToNat, Int.reduceLT, Int.reduceLE, Nat.reduceSub, pl110, ft1, ft2, ft3, ft4, ft77, ft79, ft81, ft83, ft115, Nd.V, Nd.cells, f1, c1, Int.cast_ofNat_Int, Int.natCast_zero, Int.natCast_one, Int.reduceAdd, Int.reduceSub, Int.reduceNeg, Int.reduceMul, Int.reduceToNat, Int.reduceLT, Int.reduceLE, Int.reduceEq, Int.reduceBEq, Int.reduceBNe, Nat.reduceSub, Nat.reduceLT, List.getD_cons_zero, List.getD_cons_succ, List.length_singleton, Bool.and_true, Bool.and_false]
        rw [show sp = true by rw [hsp]; simp [c1]]
        exact .pure _ rfl
    · simp (maxSteps := 4000000) only [↓packA, ↓reduceIte, packB, pureOp, quietOp, loadOp, quietB, fr0, cellsK, implies_true, ite_true, ite_false, eq_self, ne_eq, reduceCtorEq, Nat.reduceLT, Nat.reduceLeDiff, Nat.reduceAdd, Nat.reduceMul, Nat.reduceBEq, Nat.reduceEqDiff, Int.reduceToNat, Int.reduceLT, Int.reduceLE, Nat.reduceSub, pl110, ft1, ft2, ft3, ft4, ft77, ft79, ft81, ft83, ft115, Nd.V, Nd.cells, f1, Int.cast_ofNat_Int, Int.natCast_zero, Int.natCast_one, Int.reduceAdd, Int.reduceSub, Int.reduceNeg, Int.reduceMul, Int.reduceToNat, Int.reduceLT, Int.reduceLE, Int.reduceEq, Int.reduceBEq, Int.reduceBNe, Nat.reduceSub, Nat.reduceLT, List.getD_cons_zero, List.getD_cons_succ, List.length_singleton, Bool.and_true, Bool.and_false]
      try exact fun h => by cases h
  obtain ⟨f1, hc2, rfl⟩ := hM
  refine asx_cut (fun f h => f 1 = .op 0 7 0 0 ∧ (¬ op = 8 → c = 0) ∧ h = [.arr 7 [Nd.cells ⟨op, a, b, c, neg, num, den⟩] true]) ?_ fun f h hM => ?_
  · generalize Nd.spare ⟨op, a, b, c, neg, num, den⟩ = sp at *
    by_cases c2 : op = 8
    · simp (maxSteps := 4000000) only [↓packA, ↓reduceIte, packB, pureOp, quietOp, loadOp, quietB, fr0, cellsK, implies_true, ite_true, ite_false, eq_self, ne_eq, reduceCtorEq, Nat.reduceLT, Nat.reduceLeDiff, Nat.reduceAdd, Nat.reduceMul, Nat.reduceBEq, Nat.reduceEqDiff, Int.reduceToNat, Int.reduceLT, Int.reduceLE, Nat.reduceSub, pl110, ft1, ft2, ft3, ft4, ft77, ft79, ft81, ft83, ft115, Nd.V, Nd.cells, f1, c2, Int.cast_ofNat_Int, Int.natCast_zero, Int.natCast_one, Int.reduceAdd, Int.reduceSub, Int.reduceNeg, Int.reduceMul, Int.reduceToNat, Int.reduceLT, Int.reduceLE, Int.reduceEq, Int.reduceBEq, Int.reduceBNe, Nat.reduceSub, Nat.reduceLT, List.getD_cons_zero, List.getD_cons_succ, List.length_singleton, Bool.and_true, Bool.and_false]
      try exact fun h => absurd c2 h
    · by_cases c1 : c = 0
      · simp (maxSteps := 4000000) only [↓packA, ↓reduceIte, packB, pureOp, quietOp, loadOp, quietB, fr0, cellsK, implies_true, ite_true, ite_false, eq_self, ne_eq, reduceCtorEq, Nat.reduceLT, Nat.reduceLeDiff, Nat.reduceAdd, Nat.reduceMul, Nat.reduceBEq, Nat.reduceEqDiff, Int.reduceToNat, Int.reduceLT, Int.reduceLE, Nat.reduceSub, pl110, ft1, ft2, ft3, ft4, ft77, ft79, ft81, ft83, ft115, Nd.V, Nd.cells, f1, c2, c1, Int.cast_ofNat_Int, Int.natCast_zero, Int.natCast_one, Int.reduceAdd, Int.reduceSub, Int.reduceNeg, Int.reduceMul, Int.reduceToNat, Int.reduceLT, Int.reduceLE, Int.reduceEq, Int.reduceBEq, Int.reduceBNe, Nat.reduceSub, Nat.reduceLT, List.getD_cons_zero, List.getD_cons_succ, List.length_singleton, Bool.and_true, Bool.and_false]
        try exact fun _ => c1
      · simp (maxSteps := 4000000) only [↓packA, ↓reduceIte, packB, pureOp, quietOp, loadOp, quietB, fr0, cellsK, implies_true, ite_true, ite_false, eq_self, ne_eq, reduceCtorEq, Nat.reduceLT, Nat.reduceLeDiff, Nat.reduceAdd, Nat.reduceMul, Nat.reduceBEq, Nat.reduceEqDiff, Int.reduceToNat, Int.reduceLT, Int.reduceLE, Nat.reduceSub, pl110, ft1, ft2, ft3, ft4, ft77, ft79, ft81, ft83, ft115, Nd.V, Nd.cells, f1, c2, c1, Int.cast_ofNat_Int, Int.natCast_zero, Int.natCast_one, Int.reduceAdd, Int.reduceSub, Int.reduceNeg, Int.reduceMul, Int.reduceToNat, Int.reduceLT, Int.reduceLE, Int.reduceEq, Int.reduceBEq, Int.reduceBNe, Nat.reduceSub, Nat.reduceLT, List.getD_cons_zero, List.getD_cons_succ, List.length_singleton, Bool.and_true, Bool.and_false]
        rw [show sp = true by rw [hsp]; simp [c1, c2]]
        exact .pure _ rfl
  obtain ⟨f1, hc3, rfl⟩ := hM
  have hsp2 : Nd.spare ⟨op, a, b, c, neg, num, den⟩ = (!noneB neg num den && decide (op ≠ 2)) := by
    rw [hsp, show (decide (a ≠ 0) && decide (op = 2)) = false by by_cases h : op = 2 <;> simp [h, hc1], show (decide (b ≠ 0) && !two op) = false by cases h : two op <;> simp [h, hc2], show (decide (c ≠ 0) && decide (op ≠ 8)) = false by by_cases h : op = 8 <;> simp [h, hc3]]
    rfl
  rw [hsp2]
  by_cases c2 : op = 2
  · simp (maxSteps := 4000000) only [↓packA, ↓reduceIte, packB, pureOp, quietOp, loadOp, quietB, fr0, cellsK, implies_true, ite_true, ite_false, eq_self, ne_eq, reduceCtorEq, Nat.reduceLT, Nat.reduceLeDiff, Nat.reduceAdd, Nat.reduceMul, Nat.reduceBEq, Nat.reduceEqDiff, Int.reduceToNat, Int.reduceLT, Int.reduceLE, Nat.reduceSub, pl110, ft1, ft2, ft3, ft4, ft77, ft79, ft81, ft83, ft115, Nd.V, Nd.cells, f1, c2, Int.cast_ofNat_Int, Int.natCast_zero, Int.natCast_one, Int.reduceAdd, Int.reduceSub, Int.reduceNeg, Int.reduceMul, Int.reduceToNat, Int.reduceLT, Int.reduceLE, Int.reduceEq, Int.reduceBEq, Int.reduceBNe, Nat.reduceSub, Nat.reduceLT, List.getD_cons_zero, List.getD_cons_succ, List.length_singleton, Bool.and_true, Bool.and_false]
    exact .pure _ rfl
  · simp (maxSteps := 4000000) only [↓packA, ↓reduceIte, packB, pureOp, quietOp, loadOp, quietB, fr0, cellsK, implies_true, ite_true, ite_false, eq_self, ne_eq, reduceCtorEq, Nat.reduceLT, Nat.reduceLeDiff, Nat.reduceAdd, Nat.reduceMul, Nat.reduceBEq, Nat.reduceEqDiff, Int.reduceToNat, Int.reduceLT, Int.reduceLE, Nat.reduceSub, pl110, ft1, ft2, ft3, ft4, ft77, ft79, ft81, ft83, ft115, Nd.V, Nd.cells, f1, c2, Int.cast_ofNat_Int, Int.natCast_zero, Int.natCast_one, Int.reduceAdd, Int.reduceSub, Int.reduceNeg, Int.reduceMul, Int.reduceToNat, Int.reduceLT, Int.reduceLE, Int.reduceEq, Int.reduceBEq, Int.reduceBNe, Nat.reduceSub, Nat.reduceLT, List.getD_cons_zero, List.getD_cons_succ, List.length_singleton, Bool.and_true, Bool.and_false]
    refine acalls_pure (none_c neg num den) rfl ?_
    rw [show (!noneB neg num den && decide (op ≠ 2)) = !noneB neg num den by simp [c2]]
    simp (maxSteps := 4000000) only [↓packA, ↓reduceIte, packB, pureOp, quietOp, loadOp, quietB, fr0, cellsK, implies_true, ite_true, ite_false, eq_self, ne_eq, reduceCtorEq, Nat.reduceLT, Nat.reduceLeDiff, Nat.reduceAdd, Nat.reduceMul, Nat.reduceBEq, Nat.reduceEqDiff, Int.reduceToNat, Int.reduceLT, Int.reduceLE, Nat.reduceSub, pl110, ft1, ft2, ft3, ft4, ft77, ft79, ft81, ft83, ft115, Nd.V, Nd.cells, f1, c2, Int.cast_ofNat_Int, Int.natCast_zero, Int.natCast_one, Int.reduceAdd, Int.reduceSub, Int.reduceNeg, Int.reduceMul, Int.reduceToNat, Int.reduceLT, Int.reduceLE, Int.reduceEq, Int.reduceBEq, Int.reduceBNe, Nat.reduceSub, Nat.reduceLT, List.getD_cons_zero, List.getD_cons_succ, List.length_singleton, Bool.and_true, Bool.and_false]
    exact .pure _ rfl
/-- What is wrong with a node. -/
def Nd.wrong (n : Nd) (vars i : Int) : Int :=
  if n.op < 1 ∨ 8 < n.op then 103 else if n.spare = true then 104 else
  if n.op = 1 then (if n.a < 0 ∨ vars ≤ n.a then 105 else 0) else
  if n.op = 2 then (if mayB n.neg n.num n.den = true then 0 else 40) else
  if n.a < 0 ∨ i ≤ n.a then 106 else if two n.op = true ∧ (n.b < 0 ∨ i ≤ n.b) then 106 else
  if n.c < -1024 ∨ 1024 < n.c then 107 else 0
set_option maxRecDepth 100000 in
theorem in_o {h : Heap} {id : Nat} {i x : Int} {ex : Bool} {Q : AV → Heap → Prop} (hid : h[id]? = some (.arr 1 [[.int .i64 i]] ex)) (hq : Q (.bool (decide (0 ≤ x ∧ x < i))) h) : ACalls Try.prog 106 [.int .i64 x, .op id 1 0 0] h Q := by
  refine wp106 rfl rfl ?_
  by_cases c1 : 0 ≤ x
  · have r1 : x ≥ 0 := c1
    simp (maxSteps := 4000000) only [↓packA, ↓reduceIte, packB, pureOp, quietOp, loadOp, quietB, fr0, cellsK, implies_true, ite_true, ite_false, eq_self, ne_eq, reduceCtorEq, Nat.reduceLT, Nat.reduceLeDiff, Nat.reduceAdd, Nat.reduceMul, Nat.reduceBEq, Nat.reduceEqDiff, Int.reduceToNat, Int.reduceLT, Int.reduceLE, Nat.reduceSub, pl106, ft3, hid, r1, Int.cast_ofNat_Int, Int.natCast_zero, Int.natCast_one, Int.reduceAdd, Int.reduceSub, Int.reduceNeg, Int.reduceMul, Int.reduceToNat, Int.reduceLT, Int.reduceLE, Int.reduceEq, Int.reduceBEq, Int.reduceBNe, Nat.reduceSub, Nat.reduceLT, List.getD_cons_zero, List.getD_cons_succ, List.length_singleton, Bool.and_true, Bool.and_false]
    rw [show decide (0 ≤ x ∧ x < i) = decide (x < i) by simp [c1]] at hq
    exact hq
  · have r1 : ¬ x ≥ 0 := c1
    simp (maxSteps := 4000000) only [↓packA, ↓reduceIte, packB, pureOp, quietOp, loadOp, quietB, fr0, cellsK, implies_true, ite_true, ite_false, eq_self, ne_eq, reduceCtorEq, Nat.reduceLT, Nat.reduceLeDiff, Nat.reduceAdd, Nat.reduceMul, Nat.reduceBEq, Nat.reduceEqDiff, Int.reduceToNat, Int.reduceLT, Int.reduceLE, Nat.reduceSub, pl106, ft3, hid, r1, Int.cast_ofNat_Int, Int.natCast_zero, Int.natCast_one, Int.reduceAdd, Int.reduceSub, Int.reduceNeg, Int.reduceMul, Int.reduceToNat, Int.reduceLT, Int.reduceLE, Int.reduceEq, Int.reduceBEq, Int.reduceBNe, Nat.reduceSub, Nat.reduceLT, List.getD_cons_zero, List.getD_cons_succ, List.length_singleton, Bool.and_true, Bool.and_false]
    rw [decide_eq_false (fun h => c1 h.1)] at hq
    exact hq
set_option maxHeartbeats 4000000 in
set_option maxRecDepth 100000 in
theorem pnode_c (n : Nd) (hn : n.Ok) (vars i : Int) : APure Try.prog 88 [n.V, .int .i64 vars, .int .i64 i] (.int .i64 (n.wrong vars i)) := by
  refine apure_of (wp88 rfl rfl ?_)
  have hsp := spare_c n hn
  have hmay := may_c n.neg n.num n.den hn.num hn.den hn.ln hn.ld
  obtain ⟨W, hW⟩ : ∃ W, W = n.wrong vars i := ⟨_, rfl⟩
  rw [← hW]
  unfold Nd.wrong at hW
  generalize hspe : n.spare = sp at *
  obtain ⟨op, a, b, c, neg, num, den⟩ := n
  simp only at hW hmay
  by_cases c1 : op < 1
  · simp (maxSteps := 4000000) only [↓packA, ↓reduceIte, packB, pureOp, quietOp, loadOp, quietB, fr0, cellsK, implies_true, ite_true, ite_false, eq_self, ne_eq, reduceCtorEq, Nat.reduceLT, Nat.reduceLeDiff, Nat.reduceAdd, Nat.reduceMul, Nat.reduceBEq, Nat.reduceEqDiff, Int.reduceToNat, Int.reduceLT, Int.reduceLE, Nat.reduceSub, pl88, ft1, ft2, ft3, ft4, ft77, ft79, ft81, ft83, ft115, Nd.V, Nd.cells, c1, Int.cast_ofNat_Int, Int.natCast_zero, Int.natCast_one, Int.reduceAdd, Int.reduceSub, Int.reduceNeg, Int.reduceMul, Int.reduceToNat, Int.reduceLT, Int.reduceLE, Int.reduceEq, Int.reduceBEq, Int.reduceBNe, Nat.reduceSub, Nat.reduceLT, List.getD_cons_zero, List.getD_cons_succ, List.length_singleton, Bool.and_true, Bool.and_false]
    rw [hW, if_pos (.inl c1)]
    exact .pure _ rfl
  by_cases c2 : 8 < op
  · have r2 : op > 8 := c2
    simp (maxSteps := 4000000) only [↓packA, ↓reduceIte, packB, pureOp, quietOp, loadOp, quietB, fr0, cellsK, implies_true, ite_true, ite_false, eq_self, ne_eq, reduceCtorEq, Nat.reduceLT, Nat.reduceLeDiff, Nat.reduceAdd, Nat.reduceMul, Nat.reduceBEq, Nat.reduceEqDiff, Int.reduceToNat, Int.reduceLT, Int.reduceLE, Nat.reduceSub, pl88, ft1, ft2, ft3, ft4, ft77, ft79, ft81, ft83, ft115, Nd.V, Nd.cells, c1, r2, Int.cast_ofNat_Int, Int.natCast_zero, Int.natCast_one, Int.reduceAdd, Int.reduceSub, Int.reduceNeg, Int.reduceMul, Int.reduceToNat, Int.reduceLT, Int.reduceLE, Int.reduceEq, Int.reduceBEq, Int.reduceBNe, Nat.reduceSub, Nat.reduceLT, List.getD_cons_zero, List.getD_cons_succ, List.length_singleton, Bool.and_true, Bool.and_false]
    rw [hW, if_pos (.inr c2)]
    exact .pure _ rfl
  have r2 : ¬ op > 8 := c2
  rw [if_neg (by omega)] at hW
  simp (maxSteps := 4000000) only [↓packA, ↓reduceIte, packB, pureOp, quietOp, loadOp, quietB, fr0, cellsK, implies_true, ite_true, ite_false, eq_self, ne_eq, reduceCtorEq, Nat.reduceLT, Nat.reduceLeDiff, Nat.reduceAdd, Nat.reduceMul, Nat.reduceBEq, Nat.reduceEqDiff, Int.reduceToNat, Int.reduceLT, Int.reduceLE, Nat.reduceSub, pl88, ft1, ft2, ft3, ft4, ft77, ft79, ft81, ft83, ft115, Nd.V, Nd.cells, c1, r2, Int.cast_ofNat_Int, Int.natCast_zero, Int.natCast_one, Int.reduceAdd, Int.reduceSub, Int.reduceNeg, Int.reduceMul, Int.reduceToNat, Int.reduceLT, Int.reduceLE, Int.reduceEq, Int.reduceBEq, Int.reduceBNe, Nat.reduceSub, Nat.reduceLT, List.getD_cons_zero, List.getD_cons_succ, List.length_singleton, Bool.and_true, Bool.and_false]
  refine acalls_pure hsp rfl ?_
  cases sp
  rotate_left
  · simp (maxSteps := 4000000) only [↓packA, ↓reduceIte, packB, pureOp, quietOp, loadOp, quietB, fr0, cellsK, implies_true, ite_true, ite_false, eq_self, ne_eq, reduceCtorEq, Nat.reduceLT, Nat.reduceLeDiff, Nat.reduceAdd, Nat.reduceMul, Nat.reduceBEq, Nat.reduceEqDiff, Int.reduceToNat, Int.reduceLT, Int.reduceLE, Nat.reduceSub, pl88, ft1, ft2, ft3, ft4, ft77, ft79, ft81, ft83, ft115, Nd.V, Nd.cells, c1, r2, Int.cast_ofNat_Int, Int.natCast_zero, Int.natCast_one, Int.reduceAdd, Int.reduceSub, Int.reduceNeg, Int.reduceMul, Int.reduceToNat, Int.reduceLT, Int.reduceLE, Int.reduceEq, Int.reduceBEq, Int.reduceBNe, Nat.reduceSub, Nat.reduceLT, List.getD_cons_zero, List.getD_cons_succ, List.length_singleton, Bool.and_true, Bool.and_false]
    rw [hW, if_pos rfl]
    exact .pure _ rfl
  rw [if_neg (fun h => by cases h)] at hW
  by_cases c3 : op = 1
  · subst c3
    rw [if_pos rfl] at hW
    by_cases c4 : a < 0
    · simp (maxSteps := 4000000) only [↓packA, ↓reduceIte, packB, pureOp, quietOp, loadOp, quietB, fr0, cellsK, implies_true, ite_true, ite_false, eq_self, ne_eq, reduceCtorEq, Nat.reduceLT, Nat.reduceLeDiff, Nat.reduceAdd, Nat.reduceMul, Nat.reduceBEq, Nat.reduceEqDiff, Int.reduceToNat, Int.reduceLT, Int.reduceLE, Nat.reduceSub, pl88, ft1, ft2, ft3, ft4, ft77, ft79, ft81, ft83, ft115, Nd.V, Nd.cells, c4, Int.cast_ofNat_Int, Int.natCast_zero, Int.natCast_one, Int.reduceAdd, Int.reduceSub, Int.reduceNeg, Int.reduceMul, Int.reduceToNat, Int.reduceLT, Int.reduceLE, Int.reduceEq, Int.reduceBEq, Int.reduceBNe, Nat.reduceSub, Nat.reduceLT, List.getD_cons_zero, List.getD_cons_succ, List.length_singleton, Bool.and_true, Bool.and_false]
      rw [hW, if_pos (.inl c4)]
      exact .pure _ rfl
    · by_cases c5 : vars ≤ a
      · have r5 : a ≥ vars := c5
        simp (maxSteps := 4000000) only [↓packA, ↓reduceIte, packB, pureOp, quietOp, loadOp, quietB, fr0, cellsK, implies_true, ite_true, ite_false, eq_self, ne_eq, reduceCtorEq, Nat.reduceLT, Nat.reduceLeDiff, Nat.reduceAdd, Nat.reduceMul, Nat.reduceBEq, Nat.reduceEqDiff, Int.reduceToNat, Int.reduceLT, Int.reduceLE, Nat.reduceSub, pl88, ft1, ft2, ft3, ft4, ft77, ft79, ft81, ft83, ft115, Nd.V, Nd.cells, c4, r5, Int.cast_ofNat_Int, Int.natCast_zero, Int.natCast_one, Int.reduceAdd, Int.reduceSub, Int.reduceNeg, Int.reduceMul, Int.reduceToNat, Int.reduceLT, Int.reduceLE, Int.reduceEq, Int.reduceBEq, Int.reduceBNe, Nat.reduceSub, Nat.reduceLT, List.getD_cons_zero, List.getD_cons_succ, List.length_singleton, Bool.and_true, Bool.and_false]
        rw [hW, if_pos (.inr c5)]
        exact .pure _ rfl
      · have r5 : ¬ a ≥ vars := c5
        simp (maxSteps := 4000000) only [↓packA, ↓reduceIte, packB, pureOp, quietOp, loadOp, quietB, fr0, cellsK, implies_true, ite_true, ite_false, eq_self, ne_eq, reduceCtorEq, Nat.reduceLT, Nat.reduceLeDiff, Nat.reduceAdd, Nat.reduceMul, Nat.reduceBEq, Nat.reduceEqDiff, Int.reduceToNat, Int.reduceLT, Int.reduceLE, Nat.reduceSub, pl88, ft1, ft2, ft3, ft4, ft77, ft79, ft81, ft83, ft115, Nd.V, Nd.cells, c4, r5, Int.cast_ofNat_Int, Int.natCast_zero, Int.natCast_one, Int.reduceAdd, Int.reduceSub, Int.reduceNeg, Int.reduceMul, Int.reduceToNat, Int.reduceLT, Int.reduceLE, Int.reduceEq, Int.reduceBEq, Int.reduceBNe, Nat.reduceSub, Nat.reduceLT, List.getD_cons_zero, List.getD_cons_succ, List.length_singleton, Bool.and_true, Bool.and_false]
        rw [hW, if_neg (by omega)]
        exact .pure _ rfl
  rw [if_neg c3] at hW
  by_cases c4 : op = 2
  · subst c4
    rw [if_pos rfl] at hW
    simp (maxSteps := 4000000) only [↓packA, ↓reduceIte, packB, pureOp, quietOp, loadOp, quietB, fr0, cellsK, implies_true, ite_true, ite_false, eq_self, ne_eq, reduceCtorEq, Nat.reduceLT, Nat.reduceLeDiff, Nat.reduceAdd, Nat.reduceMul, Nat.reduceBEq, Nat.reduceEqDiff, Int.reduceToNat, Int.reduceLT, Int.reduceLE, Nat.reduceSub, pl88, ft1, ft2, ft3, ft4, ft77, ft79, ft81, ft83, ft115, Nd.V, Nd.cells, Int.cast_ofNat_Int, Int.natCast_zero, Int.natCast_one, Int.reduceAdd, Int.reduceSub, Int.reduceNeg, Int.reduceMul, Int.reduceToNat, Int.reduceLT, Int.reduceLE, Int.reduceEq, Int.reduceBEq, Int.reduceBNe, Nat.reduceSub, Nat.reduceLT, List.getD_cons_zero, List.getD_cons_succ, List.length_singleton, Bool.and_true, Bool.and_false]
    refine acalls_pure hmay rfl ?_
    cases hm : mayB neg num den
    · simp (maxSteps := 4000000) only [↓packA, ↓reduceIte, packB, pureOp, quietOp, loadOp, quietB, fr0, cellsK, implies_true, ite_true, ite_false, eq_self, ne_eq, reduceCtorEq, Nat.reduceLT, Nat.reduceLeDiff, Nat.reduceAdd, Nat.reduceMul, Nat.reduceBEq, Nat.reduceEqDiff, Int.reduceToNat, Int.reduceLT, Int.reduceLE, Nat.reduceSub, pl88, ft1, ft2, ft3, ft4, ft77, ft79, ft81, ft83, ft115, Nd.V, Nd.cells, Int.cast_ofNat_Int, Int.natCast_zero, Int.natCast_one, Int.reduceAdd, Int.reduceSub, Int.reduceNeg, Int.reduceMul, Int.reduceToNat, Int.reduceLT, Int.reduceLE, Int.reduceEq, Int.reduceBEq, Int.reduceBNe, Nat.reduceSub, Nat.reduceLT, List.getD_cons_zero, List.getD_cons_succ, List.length_singleton, Bool.and_true, Bool.and_false]
      rw [hW, if_neg (by rw [hm]; decide)]
      exact .pure _ rfl
    · simp (maxSteps := 4000000) only [↓packA, ↓reduceIte, packB, pureOp, quietOp, loadOp, quietB, fr0, cellsK, implies_true, ite_true, ite_false, eq_self, ne_eq, reduceCtorEq, Nat.reduceLT, Nat.reduceLeDiff, Nat.reduceAdd, Nat.reduceMul, Nat.reduceBEq, Nat.reduceEqDiff, Int.reduceToNat, Int.reduceLT, Int.reduceLE, Nat.reduceSub, pl88, ft1, ft2, ft3, ft4, ft77, ft79, ft81, ft83, ft115, Nd.V, Nd.cells, Int.cast_ofNat_Int, Int.natCast_zero, Int.natCast_one, Int.reduceAdd, Int.reduceSub, Int.reduceNeg, Int.reduceMul, Int.reduceToNat, Int.reduceLT, Int.reduceLE, Int.reduceEq, Int.reduceBEq, Int.reduceBNe, Nat.reduceSub, Nat.reduceLT, List.getD_cons_zero, List.getD_cons_succ, List.length_singleton, Bool.and_true, Bool.and_false]
      rw [hW, if_pos hm]
      exact .pure _ rfl
  rw [if_neg c4] at hW
  simp (maxSteps := 4000000) only [↓packA, ↓reduceIte, packB, pureOp, quietOp, loadOp, quietB, fr0, cellsK, implies_true, ite_true, ite_false, eq_self, ne_eq, reduceCtorEq, Nat.reduceLT, Nat.reduceLeDiff, Nat.reduceAdd, Nat.reduceMul, Nat.reduceBEq, Nat.reduceEqDiff, Int.reduceToNat, Int.reduceLT, Int.reduceLE, Nat.reduceSub, pl88, ft1, ft2, ft3, ft4, ft77, ft79, ft81, ft83, ft115, Nd.V, Nd.cells, c1, r2, c3, c4, Int.cast_ofNat_Int, Int.natCast_zero, Int.natCast_one, Int.reduceAdd, Int.reduceSub, Int.reduceNeg, Int.reduceMul, Int.reduceToNat, Int.reduceLT, Int.reduceLE, Int.reduceEq, Int.reduceBEq, Int.reduceBNe, Nat.reduceSub, Nat.reduceLT, List.getD_cons_zero, List.getD_cons_succ, List.length_singleton, Bool.and_true, Bool.and_false]
  refine in_o rfl ?_
  by_cases c5 : 0 ≤ a ∧ a < i
  rotate_left
  · rw [decide_eq_false c5]
    simp (maxSteps := 4000000) only [↓packA, ↓reduceIte, packB, pureOp, quietOp, loadOp, quietB, fr0, cellsK, implies_true, ite_true, ite_false, eq_self, ne_eq, reduceCtorEq, Nat.reduceLT, Nat.reduceLeDiff, Nat.reduceAdd, Nat.reduceMul, Nat.reduceBEq, Nat.reduceEqDiff, Int.reduceToNat, Int.reduceLT, Int.reduceLE, Nat.reduceSub, pl88, ft1, ft2, ft3, ft4, ft77, ft79, ft81, ft83, ft115, Nd.V, Nd.cells, c1, r2, c3, c4, Int.cast_ofNat_Int, Int.natCast_zero, Int.natCast_one, Int.reduceAdd, Int.reduceSub, Int.reduceNeg, Int.reduceMul, Int.reduceToNat, Int.reduceLT, Int.reduceLE, Int.reduceEq, Int.reduceBEq, Int.reduceBNe, Nat.reduceSub, Nat.reduceLT, List.getD_cons_zero, List.getD_cons_succ, List.length_singleton, Bool.and_true, Bool.and_false]
    rw [hW, if_pos (by omega)]
    exact .pure _ rfl
  rw [decide_eq_true c5]
  rw [if_neg (by omega)] at hW
  simp (maxSteps := 4000000) only [↓packA, ↓reduceIte, packB, pureOp, quietOp, loadOp, quietB, fr0, cellsK, implies_true, ite_true, ite_false, eq_self, ne_eq, reduceCtorEq, Nat.reduceLT, Nat.reduceLeDiff, Nat.reduceAdd, Nat.reduceMul, Nat.reduceBEq, Nat.reduceEqDiff, Int.reduceToNat, Int.reduceLT, Int.reduceLE, Nat.reduceSub, pl88, ft1, ft2, ft3, ft4, ft77, ft79, ft81, ft83, ft115, Nd.V, Nd.cells, c1, r2, c3, c4, Int.cast_ofNat_Int, Int.natCast_zero, Int.natCast_one, Int.reduceAdd, Int.reduceSub, Int.reduceNeg, Int.reduceMul, Int.reduceToNat, Int.reduceLT, Int.reduceLE, Int.reduceEq, Int.reduceBEq, Int.reduceBNe, Nat.reduceSub, Nat.reduceLT, List.getD_cons_zero, List.getD_cons_succ, List.length_singleton, Bool.and_true, Bool.and_false]
  refine acalls_pure (two_c op) rfl ?_
  generalize two op = to at *
  cases to
  · rw [if_neg (fun h => by cases h.1)] at hW
    by_cases c7 : c < -1024
    · simp (maxSteps := 4000000) only [↓packA, ↓reduceIte, packB, pureOp, quietOp, loadOp, quietB, fr0, cellsK, implies_true, ite_true, ite_false, eq_self, ne_eq, reduceCtorEq, Nat.reduceLT, Nat.reduceLeDiff, Nat.reduceAdd, Nat.reduceMul, Nat.reduceBEq, Nat.reduceEqDiff, Int.reduceToNat, Int.reduceLT, Int.reduceLE, Nat.reduceSub, pl88, ft1, ft2, ft3, ft4, ft77, ft79, ft81, ft83, ft115, Nd.V, Nd.cells, c1, r2, c3, c4, c7, Int.cast_ofNat_Int, Int.natCast_zero, Int.natCast_one, Int.reduceAdd, Int.reduceSub, Int.reduceNeg, Int.reduceMul, Int.reduceToNat, Int.reduceLT, Int.reduceLE, Int.reduceEq, Int.reduceBEq, Int.reduceBNe, Nat.reduceSub, Nat.reduceLT, List.getD_cons_zero, List.getD_cons_succ, List.length_singleton, Bool.and_true, Bool.and_false]
      rw [hW, if_pos (.inl c7)]
      exact .pure _ rfl
    by_cases c8 : 1024 < c
    · have r8 : c > 1024 := c8
      simp (maxSteps := 4000000) only [↓packA, ↓reduceIte, packB, pureOp, quietOp, loadOp, quietB, fr0, cellsK, implies_true, ite_true, ite_false, eq_self, ne_eq, reduceCtorEq, Nat.reduceLT, Nat.reduceLeDiff, Nat.reduceAdd, Nat.reduceMul, Nat.reduceBEq, Nat.reduceEqDiff, Int.reduceToNat, Int.reduceLT, Int.reduceLE, Nat.reduceSub, pl88, ft1, ft2, ft3, ft4, ft77, ft79, ft81, ft83, ft115, Nd.V, Nd.cells, c1, r2, c3, c4, c7, r8, Int.cast_ofNat_Int, Int.natCast_zero, Int.natCast_one, Int.reduceAdd, Int.reduceSub, Int.reduceNeg, Int.reduceMul, Int.reduceToNat, Int.reduceLT, Int.reduceLE, Int.reduceEq, Int.reduceBEq, Int.reduceBNe, Nat.reduceSub, Nat.reduceLT, List.getD_cons_zero, List.getD_cons_succ, List.length_singleton, Bool.and_true, Bool.and_false]
      rw [hW, if_pos (.inr c8)]
      exact .pure _ rfl
    have r8 : ¬ c > 1024 := c8
    simp (maxSteps := 4000000) only [↓packA, ↓reduceIte, packB, pureOp, quietOp, loadOp, quietB, fr0, cellsK, implies_true, ite_true, ite_false, eq_self, ne_eq, reduceCtorEq, Nat.reduceLT, Nat.reduceLeDiff, Nat.reduceAdd, Nat.reduceMul, Nat.reduceBEq, Nat.reduceEqDiff, Int.reduceToNat, Int.reduceLT, Int.reduceLE, Nat.reduceSub, pl88, ft1, ft2, ft3, ft4, ft77, ft79, ft81, ft83, ft115, Nd.V, Nd.cells, c1, r2, c3, c4, c7, r8, Int.cast_ofNat_Int, Int.natCast_zero, Int.natCast_one, Int.reduceAdd, Int.reduceSub, Int.reduceNeg, Int.reduceMul, Int.reduceToNat, Int.reduceLT, Int.reduceLE, Int.reduceEq, Int.reduceBEq, Int.reduceBNe, Nat.reduceSub, Nat.reduceLT, List.getD_cons_zero, List.getD_cons_succ, List.length_singleton, Bool.and_true, Bool.and_false]
    rw [hW, if_neg (by omega)]
    exact .pure _ rfl
  · simp (maxSteps := 4000000) only [↓packA, ↓reduceIte, packB, pureOp, quietOp, loadOp, quietB, fr0, cellsK, implies_true, ite_true, ite_false, eq_self, ne_eq, reduceCtorEq, Nat.reduceLT, Nat.reduceLeDiff, Nat.reduceAdd, Nat.reduceMul, Nat.reduceBEq, Nat.reduceEqDiff, Int.reduceToNat, Int.reduceLT, Int.reduceLE, Nat.reduceSub, pl88, ft1, ft2, ft3, ft4, ft77, ft79, ft81, ft83, ft115, Nd.V, Nd.cells, c1, r2, c3, c4, Int.cast_ofNat_Int, Int.natCast_zero, Int.natCast_one, Int.reduceAdd, Int.reduceSub, Int.reduceNeg, Int.reduceMul, Int.reduceToNat, Int.reduceLT, Int.reduceLE, Int.reduceEq, Int.reduceBEq, Int.reduceBNe, Nat.reduceSub, Nat.reduceLT, List.getD_cons_zero, List.getD_cons_succ, List.length_singleton, Bool.and_true, Bool.and_false]
    refine in_o rfl ?_
    by_cases c6 : 0 ≤ b ∧ b < i
    rotate_left
    · rw [decide_eq_false c6]
      simp (maxSteps := 4000000) only [↓packA, ↓reduceIte, packB, pureOp, quietOp, loadOp, quietB, fr0, cellsK, implies_true, ite_true, ite_false, eq_self, ne_eq, reduceCtorEq, Nat.reduceLT, Nat.reduceLeDiff, Nat.reduceAdd, Nat.reduceMul, Nat.reduceBEq, Nat.reduceEqDiff, Int.reduceToNat, Int.reduceLT, Int.reduceLE, Nat.reduceSub, pl88, ft1, ft2, ft3, ft4, ft77, ft79, ft81, ft83, ft115, Nd.V, Nd.cells, c1, r2, c3, c4, Int.cast_ofNat_Int, Int.natCast_zero, Int.natCast_one, Int.reduceAdd, Int.reduceSub, Int.reduceNeg, Int.reduceMul, Int.reduceToNat, Int.reduceLT, Int.reduceLE, Int.reduceEq, Int.reduceBEq, Int.reduceBNe, Nat.reduceSub, Nat.reduceLT, List.getD_cons_zero, List.getD_cons_succ, List.length_singleton, Bool.and_true, Bool.and_false]
      rw [hW, if_pos ⟨rfl, by omega⟩]
      exact .pure _ rfl
    rw [decide_eq_true c6]
    rw [if_neg (by omega)] at hW
    by_cases c7 : c < -1024
    · simp (maxSteps := 4000000) only [↓packA, ↓reduceIte, packB, pureOp, quietOp, loadOp, quietB, fr0, cellsK, implies_true, ite_true, ite_false, eq_self, ne_eq, reduceCtorEq, Nat.reduceLT, Nat.reduceLeDiff, Nat.reduceAdd, Nat.reduceMul, Nat.reduceBEq, Nat.reduceEqDiff, Int.reduceToNat, Int.reduceLT, Int.reduceLE, Nat.reduceSub, pl88, ft1, ft2, ft3, ft4, ft77, ft79, ft81, ft83, ft115, Nd.V, Nd.cells, c1, r2, c3, c4, c7, Int.cast_ofNat_Int, Int.natCast_zero, Int.natCast_one, Int.reduceAdd, Int.reduceSub, Int.reduceNeg, Int.reduceMul, Int.reduceToNat, Int.reduceLT, Int.reduceLE, Int.reduceEq, Int.reduceBEq, Int.reduceBNe, Nat.reduceSub, Nat.reduceLT, List.getD_cons_zero, List.getD_cons_succ, List.length_singleton, Bool.and_true, Bool.and_false]
      rw [hW, if_pos (.inl c7)]
      exact .pure _ rfl
    by_cases c8 : 1024 < c
    · have r8 : c > 1024 := c8
      simp (maxSteps := 4000000) only [↓packA, ↓reduceIte, packB, pureOp, quietOp, loadOp, quietB, fr0, cellsK, implies_true, ite_true, ite_false, eq_self, ne_eq, reduceCtorEq, Nat.reduceLT, Nat.reduceLeDiff, Nat.reduceAdd, Nat.reduceMul, Nat.reduceBEq, Nat.reduceEqDiff, Int.reduceToNat, Int.reduceLT, Int.reduceLE, Nat.reduceSub, pl88, ft1, ft2, ft3, ft4, ft77, ft79, ft81, ft83, ft115, Nd.V, Nd.cells, c1, r2, c3, c4, c7, r8, Int.cast_ofNat_Int, Int.natCast_zero, Int.natCast_one, Int.reduceAdd, Int.reduceSub, Int.reduceNeg, Int.reduceMul, Int.reduceToNat, Int.reduceLT, Int.reduceLE, Int.reduceEq, Int.reduceBEq, Int.reduceBNe, Nat.reduceSub, Nat.reduceLT, List.getD_cons_zero, List.getD_cons_succ, List.length_singleton, Bool.and_true, Bool.and_false]
      rw [hW, if_pos (.inr c8)]
      exact .pure _ rfl
    have r8 : ¬ c > 1024 := c8
    simp (maxSteps := 4000000) only [↓packA, ↓reduceIte, packB, pureOp, quietOp, loadOp, quietB, fr0, cellsK, implies_true, ite_true, ite_false, eq_self, ne_eq, reduceCtorEq, Nat.reduceLT, Nat.reduceLeDiff, Nat.reduceAdd, Nat.reduceMul, Nat.reduceBEq, Nat.reduceEqDiff, Int.reduceToNat, Int.reduceLT, Int.reduceLE, Nat.reduceSub, pl88, ft1, ft2, ft3, ft4, ft77, ft79, ft81, ft83, ft115, Nd.V, Nd.cells, c1, r2, c3, c4, c7, r8, Int.cast_ofNat_Int, Int.natCast_zero, Int.natCast_one, Int.reduceAdd, Int.reduceSub, Int.reduceNeg, Int.reduceMul, Int.reduceToNat, Int.reduceLT, Int.reduceLE, Int.reduceEq, Int.reduceBEq, Int.reduceBNe, Nat.reduceSub, Nat.reduceLT, List.getD_cons_zero, List.getD_cons_succ, List.length_singleton, Bool.and_true, Bool.and_false]
    rw [hW, if_neg (by omega)]
    exact .pure _ rfl
end Go.Proofs.Ytgdlkhgfehclpaa
end

section
/- What is wrong with a node, the document's. No condition. -/
namespace Go.Proofs.Ytgdlkhgfehclpaa
open Go Go.AL
set_option linter.unusedVariables false
set_option linter.unusedSimpArgs false
theorem spare_c0 {op a b c : Int} {neg : Bool} {num den : List Int} (h : Nd.spare ⟨op, a, b, c, neg, num, den⟩ = false) (ho : op ≠ 8) : c = 0 := by
  apply Classical.byContradiction
  intro hc
  simp [Nd.spare, hc, ho] at h
set_option maxHeartbeats 4000000 in
set_option maxRecDepth 100000 in
theorem rnode_c (n : Nd) (hn : n.Ok) (vars i : Int) : APure Try.prog 89 [n.V, .int .i64 vars, .int .i64 i] (.int .i64 (n.wrong vars i)) := by
  refine apure_of (wp89 rfl rfl ?_)
  have hsp := unused_c n hn
  have hmay := rmay_c n.neg n.num n.den hn.num hn.den hn.ln hn.ld
  obtain ⟨W, hW⟩ : ∃ W, W = n.wrong vars i := ⟨_, rfl⟩
  rw [← hW]
  unfold Nd.wrong at hW
  have hc0 : n.spare = false → n.op ≠ 8 → n.c = 0 := fun h ho => spare_c0 h ho
  generalize hspe : n.spare = sp at *
  obtain ⟨op, a, b, c, neg, num, den⟩ := n
  simp only at hW hmay hc0
  by_cases c1 : op < 1
  · simp (maxSteps := 4000000) only [↓packA, ↓reduceIte, packB, pureOp, quietOp, loadOp, quietB, fr0, cellsK, implies_true, ite_true, ite_false, eq_self, ne_eq, reduceCtorEq, Nat.reduceLT, Nat.reduceLeDiff, Nat.reduceAdd, Nat.reduceMul, Nat.reduceBEq, Nat.reduceEqDiff, Int.reduceToNat, Int.reduceLT, Int.reduceLE, Nat.reduceSub, pl89, ft1, ft2, ft3, ft4, ft77, ft79, ft81, ft83, ft115, Nd.V, Nd.cells, c1, Int.cast_ofNat_Int, Int.natCast_zero, Int.natCast_one, Int.reduceAdd, Int.reduceSub, Int.reduceNeg, Int.reduceMul, Int.reduceToNat, Int.reduceLT, Int.reduceLE, Int.reduceEq, Int.reduceBEq, Int.reduceBNe, Nat.reduceSub, Nat.reduceLT, List.getD_cons_zero, List.getD_cons_succ, List.length_singleton, Bool.and_true, Bool.and_false]
    rw [hW, if_pos (.inl c1)]
    exact .pure _ rfl
  by_cases c2 : 8 < op
  · have r2 : op > 8 := c2
    simp (maxSteps := 4000000) only [↓packA, ↓reduceIte, packB, pureOp, quietOp, loadOp, quietB, fr0, cellsK, implies_true, ite_true, ite_false, eq_self, ne_eq, reduceCtorEq, Nat.reduceLT, Nat.reduceLeDiff, Nat.reduceAdd, Nat.reduceMul, Nat.reduceBEq, Nat.reduceEqDiff, Int.reduceToNat, Int.reduceLT, Int.reduceLE, Nat.reduceSub, pl89, ft1, ft2, ft3, ft4, ft77, ft79, ft81, ft83, ft115, Nd.V, Nd.cells, c1, r2, Int.cast_ofNat_Int, Int.natCast_zero, Int.natCast_one, Int.reduceAdd, Int.reduceSub, Int.reduceNeg, Int.reduceMul, Int.reduceToNat, Int.reduceLT, Int.reduceLE, Int.reduceEq, Int.reduceBEq, Int.reduceBNe, Nat.reduceSub, Nat.reduceLT, List.getD_cons_zero, List.getD_cons_succ, List.length_singleton, Bool.and_true, Bool.and_false]
    rw [hW, if_pos (.inr c2)]
    exact .pure _ rfl
  have r2 : ¬ op > 8 := c2
  rw [if_neg (by omega)] at hW
  simp (maxSteps := 4000000) only [↓packA, ↓reduceIte, packB, pureOp, quietOp, loadOp, quietB, fr0, cellsK, implies_true, ite_true, ite_false, eq_self, ne_eq, reduceCtorEq, Nat.reduceLT, Nat.reduceLeDiff, Nat.reduceAdd, Nat.reduceMul, Nat.reduceBEq, Nat.reduceEqDiff, Int.reduceToNat, Int.reduceLT, Int.reduceLE, Nat.reduceSub, pl89, ft1, ft2, ft3, ft4, ft77, ft79, ft81, ft83, ft115, Nd.V, Nd.cells, c1, r2, Int.cast_ofNat_Int, Int.natCast_zero, Int.natCast_one, Int.reduceAdd, Int.reduceSub, Int.reduceNeg, Int.reduceMul, Int.reduceToNat, Int.reduceLT, Int.reduceLE, Int.reduceEq, Int.reduceBEq, Int.reduceBNe, Nat.reduceSub, Nat.reduceLT, List.getD_cons_zero, List.getD_cons_succ, List.length_singleton, Bool.and_true, Bool.and_false]
  refine acalls_pure hsp rfl ?_
  cases sp
  rotate_left
  · simp (maxSteps := 4000000) only [↓packA, ↓reduceIte, packB, pureOp, quietOp, loadOp, quietB, fr0, cellsK, implies_true, ite_true, ite_false, eq_self, ne_eq, reduceCtorEq, Nat.reduceLT, Nat.reduceLeDiff, Nat.reduceAdd, Nat.reduceMul, Nat.reduceBEq, Nat.reduceEqDiff, Int.reduceToNat, Int.reduceLT, Int.reduceLE, Nat.reduceSub, pl89, ft1, ft2, ft3, ft4, ft77, ft79, ft81, ft83, ft115, Nd.V, Nd.cells, c1, r2, Int.cast_ofNat_Int, Int.natCast_zero, Int.natCast_one, Int.reduceAdd, Int.reduceSub, Int.reduceNeg, Int.reduceMul, Int.reduceToNat, Int.reduceLT, Int.reduceLE, Int.reduceEq, Int.reduceBEq, Int.reduceBNe, Nat.reduceSub, Nat.reduceLT, List.getD_cons_zero, List.getD_cons_succ, List.length_singleton, Bool.and_true, Bool.and_false]
    rw [hW, if_pos rfl]
    exact .pure _ rfl
  rw [if_neg (fun h => by cases h)] at hW
  have p2 := rtwo_c op
  have p1 := one_fold op
  by_cases c3 : op = 1
  · subst c3
    have c0 : c = 0 := hc0 rfl (by decide)
    subst c0
    rw [if_pos rfl] at hW
    by_cases c4 : a < 0
    · simp (maxSteps := 4000000) only [↓packA, ↓reduceIte, packB, pureOp, quietOp, loadOp, quietB, fr0, cellsK, implies_true, ite_true, ite_false, eq_self, ne_eq, reduceCtorEq, Nat.reduceLT, Nat.reduceLeDiff, Nat.reduceAdd, Nat.reduceMul, Nat.reduceBEq, Nat.reduceEqDiff, Int.reduceToNat, Int.reduceLT, Int.reduceLE, Nat.reduceSub, pl89, ft1, ft2, ft3, ft4, ft77, ft79, ft81, ft83, ft115, Nd.V, Nd.cells, c4, Int.cast_ofNat_Int, Int.natCast_zero, Int.natCast_one, Int.reduceAdd, Int.reduceSub, Int.reduceNeg, Int.reduceMul, Int.reduceToNat, Int.reduceLT, Int.reduceLE, Int.reduceEq, Int.reduceBEq, Int.reduceBNe, Nat.reduceSub, Nat.reduceLT, List.getD_cons_zero, List.getD_cons_succ, List.length_singleton, Bool.and_true, Bool.and_false]
      rw [hW, if_pos (.inl c4)]
      exact .pure _ rfl
    · by_cases c5 : vars ≤ a
      · have r5 : a ≥ vars := c5
        simp (maxSteps := 4000000) only [↓packA, ↓reduceIte, packB, pureOp, quietOp, loadOp, quietB, fr0, cellsK, implies_true, ite_true, ite_false, eq_self, ne_eq, reduceCtorEq, Nat.reduceLT, Nat.reduceLeDiff, Nat.reduceAdd, Nat.reduceMul, Nat.reduceBEq, Nat.reduceEqDiff, Int.reduceToNat, Int.reduceLT, Int.reduceLE, Nat.reduceSub, pl89, ft1, ft2, ft3, ft4, ft77, ft79, ft81, ft83, ft115, Nd.V, Nd.cells, c4, r5, Int.cast_ofNat_Int, Int.natCast_zero, Int.natCast_one, Int.reduceAdd, Int.reduceSub, Int.reduceNeg, Int.reduceMul, Int.reduceToNat, Int.reduceLT, Int.reduceLE, Int.reduceEq, Int.reduceBEq, Int.reduceBNe, Nat.reduceSub, Nat.reduceLT, List.getD_cons_zero, List.getD_cons_succ, List.length_singleton, Bool.and_true, Bool.and_false]
        rw [hW, if_pos (.inr c5)]
        exact .pure _ rfl
      · have r5 : ¬ a ≥ vars := c5
        rw [if_neg (by omega)] at hW
        subst hW
        simp (maxSteps := 4000000) only [↓packA, ↓reduceIte, packB, pureOp, quietOp, loadOp, quietB, fr0, cellsK, implies_true, ite_true, ite_false, eq_self, ne_eq, reduceCtorEq, Nat.reduceLT, Nat.reduceLeDiff, Nat.reduceAdd, Nat.reduceMul, Nat.reduceBEq, Nat.reduceEqDiff, Int.reduceToNat, Int.reduceLT, Int.reduceLE, Nat.reduceSub, pl89, ft1, ft2, ft3, ft4, ft77, ft79, ft81, ft83, ft115, Nd.V, Nd.cells, c4, r5, Int.cast_ofNat_Int, Int.natCast_zero, Int.natCast_one, Int.reduceAdd, Int.reduceSub, Int.reduceNeg, Int.reduceMul, Int.reduceToNat, Int.reduceLT, Int.reduceLE, Int.reduceEq, Int.reduceBEq, Int.reduceBNe, Nat.reduceSub, Nat.reduceLT, List.getD_cons_zero, List.getD_cons_succ, List.length_singleton, Bool.and_true, Bool.and_false]
        refine acalls_pure p1 rfl ?_
        rw [show one 1 = false from rfl]
        simp (maxSteps := 4000000) only [↓packA, ↓reduceIte, packB, pureOp, quietOp, loadOp, quietB, fr0, cellsK, implies_true, ite_true, ite_false, eq_self, ne_eq, reduceCtorEq, Nat.reduceLT, Nat.reduceLeDiff, Nat.reduceAdd, Nat.reduceMul, Nat.reduceBEq, Nat.reduceEqDiff, Int.reduceToNat, Int.reduceLT, Int.reduceLE, Nat.reduceSub, pl89, ft1, ft2, ft3, ft4, ft77, ft79, ft81, ft83, ft115, Nd.V, Nd.cells, c4, r5, Int.cast_ofNat_Int, Int.natCast_zero, Int.natCast_one, Int.reduceAdd, Int.reduceSub, Int.reduceNeg, Int.reduceMul, Int.reduceToNat, Int.reduceLT, Int.reduceLE, Int.reduceEq, Int.reduceBEq, Int.reduceBNe, Nat.reduceSub, Nat.reduceLT, List.getD_cons_zero, List.getD_cons_succ, List.length_singleton, Bool.and_true, Bool.and_false]
        refine acalls_pure p2 rfl ?_
        rw [show two 1 = false from rfl]
        simp (maxSteps := 4000000) only [↓packA, ↓reduceIte, packB, pureOp, quietOp, loadOp, quietB, fr0, cellsK, implies_true, ite_true, ite_false, eq_self, ne_eq, reduceCtorEq, Nat.reduceLT, Nat.reduceLeDiff, Nat.reduceAdd, Nat.reduceMul, Nat.reduceBEq, Nat.reduceEqDiff, Int.reduceToNat, Int.reduceLT, Int.reduceLE, Nat.reduceSub, pl89, ft1, ft2, ft3, ft4, ft77, ft79, ft81, ft83, ft115, Nd.V, Nd.cells, c4, r5, Int.cast_ofNat_Int, Int.natCast_zero, Int.natCast_one, Int.reduceAdd, Int.reduceSub, Int.reduceNeg, Int.reduceMul, Int.reduceToNat, Int.reduceLT, Int.reduceLE, Int.reduceEq, Int.reduceBEq, Int.reduceBNe, Nat.reduceSub, Nat.reduceLT, List.getD_cons_zero, List.getD_cons_succ, List.length_singleton, Bool.and_true, Bool.and_false]
        refine acalls_pure p2 rfl ?_
        rw [show two 1 = false from rfl]
        simp (maxSteps := 4000000) only [↓packA, ↓reduceIte, packB, pureOp, quietOp, loadOp, quietB, fr0, cellsK, implies_true, ite_true, ite_false, eq_self, ne_eq, reduceCtorEq, Nat.reduceLT, Nat.reduceLeDiff, Nat.reduceAdd, Nat.reduceMul, Nat.reduceBEq, Nat.reduceEqDiff, Int.reduceToNat, Int.reduceLT, Int.reduceLE, Nat.reduceSub, pl89, ft1, ft2, ft3, ft4, ft77, ft79, ft81, ft83, ft115, Nd.V, Nd.cells, c4, r5, Int.cast_ofNat_Int, Int.natCast_zero, Int.natCast_one, Int.reduceAdd, Int.reduceSub, Int.reduceNeg, Int.reduceMul, Int.reduceToNat, Int.reduceLT, Int.reduceLE, Int.reduceEq, Int.reduceBEq, Int.reduceBNe, Nat.reduceSub, Nat.reduceLT, List.getD_cons_zero, List.getD_cons_succ, List.length_singleton, Bool.and_true, Bool.and_false]
        exact .pure _ rfl
  rw [if_neg c3] at hW
  by_cases c4 : op = 2
  · subst c4
    have c0 : c = 0 := hc0 rfl (by decide)
    subst c0
    rw [if_pos rfl] at hW
    simp (maxSteps := 4000000) only [↓packA, ↓reduceIte, packB, pureOp, quietOp, loadOp, quietB, fr0, cellsK, implies_true, ite_true, ite_false, eq_self, ne_eq, reduceCtorEq, Nat.reduceLT, Nat.reduceLeDiff, Nat.reduceAdd, Nat.reduceMul, Nat.reduceBEq, Nat.reduceEqDiff, Int.reduceToNat, Int.reduceLT, Int.reduceLE, Nat.reduceSub, pl89, ft1, ft2, ft3, ft4, ft77, ft79, ft81, ft83, ft115, Nd.V, Nd.cells, Int.cast_ofNat_Int, Int.natCast_zero, Int.natCast_one, Int.reduceAdd, Int.reduceSub, Int.reduceNeg, Int.reduceMul, Int.reduceToNat, Int.reduceLT, Int.reduceLE, Int.reduceEq, Int.reduceBEq, Int.reduceBNe, Nat.reduceSub, Nat.reduceLT, List.getD_cons_zero, List.getD_cons_succ, List.length_singleton, Bool.and_true, Bool.and_false]
    refine acalls_pure hmay rfl ?_
    cases hm : mayB neg num den
    · simp (maxSteps := 4000000) only [↓packA, ↓reduceIte, packB, pureOp, quietOp, loadOp, quietB, fr0, cellsK, implies_true, ite_true, ite_false, eq_self, ne_eq, reduceCtorEq, Nat.reduceLT, Nat.reduceLeDiff, Nat.reduceAdd, Nat.reduceMul, Nat.reduceBEq, Nat.reduceEqDiff, Int.reduceToNat, Int.reduceLT, Int.reduceLE, Nat.reduceSub, pl89, ft1, ft2, ft3, ft4, ft77, ft79, ft81, ft83, ft115, Nd.V, Nd.cells, Int.cast_ofNat_Int, Int.natCast_zero, Int.natCast_one, Int.reduceAdd, Int.reduceSub, Int.reduceNeg, Int.reduceMul, Int.reduceToNat, Int.reduceLT, Int.reduceLE, Int.reduceEq, Int.reduceBEq, Int.reduceBNe, Nat.reduceSub, Nat.reduceLT, List.getD_cons_zero, List.getD_cons_succ, List.length_singleton, Bool.and_true, Bool.and_false]
      rw [hW, if_neg (by rw [hm]; decide)]
      exact .pure _ rfl
    · rw [if_pos hm] at hW
      subst hW
      simp (maxSteps := 4000000) only [↓packA, ↓reduceIte, packB, pureOp, quietOp, loadOp, quietB, fr0, cellsK, implies_true, ite_true, ite_false, eq_self, ne_eq, reduceCtorEq, Nat.reduceLT, Nat.reduceLeDiff, Nat.reduceAdd, Nat.reduceMul, Nat.reduceBEq, Nat.reduceEqDiff, Int.reduceToNat, Int.reduceLT, Int.reduceLE, Nat.reduceSub, pl89, ft1, ft2, ft3, ft4, ft77, ft79, ft81, ft83, ft115, Nd.V, Nd.cells, Int.cast_ofNat_Int, Int.natCast_zero, Int.natCast_one, Int.reduceAdd, Int.reduceSub, Int.reduceNeg, Int.reduceMul, Int.reduceToNat, Int.reduceLT, Int.reduceLE, Int.reduceEq, Int.reduceBEq, Int.reduceBNe, Nat.reduceSub, Nat.reduceLT, List.getD_cons_zero, List.getD_cons_succ, List.length_singleton, Bool.and_true, Bool.and_false]
      refine acalls_pure p1 rfl ?_
      rw [show one 2 = false from rfl]
      simp (maxSteps := 4000000) only [↓packA, ↓reduceIte, packB, pureOp, quietOp, loadOp, quietB, fr0, cellsK, implies_true, ite_true, ite_false, eq_self, ne_eq, reduceCtorEq, Nat.reduceLT, Nat.reduceLeDiff, Nat.reduceAdd, Nat.reduceMul, Nat.reduceBEq, Nat.reduceEqDiff, Int.reduceToNat, Int.reduceLT, Int.reduceLE, Nat.reduceSub, pl89, ft1, ft2, ft3, ft4, ft77, ft79, ft81, ft83, ft115, Nd.V, Nd.cells, Int.cast_ofNat_Int, Int.natCast_zero, Int.natCast_one, Int.reduceAdd, Int.reduceSub, Int.reduceNeg, Int.reduceMul, Int.reduceToNat, Int.reduceLT, Int.reduceLE, Int.reduceEq, Int.reduceBEq, Int.reduceBNe, Nat.reduceSub, Nat.reduceLT, List.getD_cons_zero, List.getD_cons_succ, List.length_singleton, Bool.and_true, Bool.and_false]
      refine acalls_pure p2 rfl ?_
      rw [show two 2 = false from rfl]
      simp (maxSteps := 4000000) only [↓packA, ↓reduceIte, packB, pureOp, quietOp, loadOp, quietB, fr0, cellsK, implies_true, ite_true, ite_false, eq_self, ne_eq, reduceCtorEq, Nat.reduceLT, Nat.reduceLeDiff, Nat.reduceAdd, Nat.reduceMul, Nat.reduceBEq, Nat.reduceEqDiff, Int.reduceToNat, Int.reduceLT, Int.reduceLE, Nat.reduceSub, pl89, ft1, ft2, ft3, ft4, ft77, ft79, ft81, ft83, ft115, Nd.V, Nd.cells, Int.cast_ofNat_Int, Int.natCast_zero, Int.natCast_one, Int.reduceAdd, Int.reduceSub, Int.reduceNeg, Int.reduceMul, Int.reduceToNat, Int.reduceLT, Int.reduceLE, Int.reduceEq, Int.reduceBEq, Int.reduceBNe, Nat.reduceSub, Nat.reduceLT, List.getD_cons_zero, List.getD_cons_succ, List.length_singleton, Bool.and_true, Bool.and_false]
      refine acalls_pure p2 rfl ?_
      rw [show two 2 = false from rfl]
      simp (maxSteps := 4000000) only [↓packA, ↓reduceIte, packB, pureOp, quietOp, loadOp, quietB, fr0, cellsK, implies_true, ite_true, ite_false, eq_self, ne_eq, reduceCtorEq, Nat.reduceLT, Nat.reduceLeDiff, Nat.reduceAdd, Nat.reduceMul, Nat.reduceBEq, Nat.reduceEqDiff, Int.reduceToNat, Int.reduceLT, Int.reduceLE, Nat.reduceSub, pl89, ft1, ft2, ft3, ft4, ft77, ft79, ft81, ft83, ft115, Nd.V, Nd.cells, Int.cast_ofNat_Int, Int.natCast_zero, Int.natCast_one, Int.reduceAdd, Int.reduceSub, Int.reduceNeg, Int.reduceMul, Int.reduceToNat, Int.reduceLT, Int.reduceLE, Int.reduceEq, Int.reduceBEq, Int.reduceBNe, Nat.reduceSub, Nat.reduceLT, List.getD_cons_zero, List.getD_cons_succ, List.length_singleton, Bool.and_true, Bool.and_false]
      exact .pure _ rfl
  rw [if_neg c4] at hW
  simp (maxSteps := 4000000) only [↓packA, ↓reduceIte, packB, pureOp, quietOp, loadOp, quietB, fr0, cellsK, implies_true, ite_true, ite_false, eq_self, ne_eq, reduceCtorEq, Nat.reduceLT, Nat.reduceLeDiff, Nat.reduceAdd, Nat.reduceMul, Nat.reduceBEq, Nat.reduceEqDiff, Int.reduceToNat, Int.reduceLT, Int.reduceLE, Nat.reduceSub, pl89, ft1, ft2, ft3, ft4, ft77, ft79, ft81, ft83, ft115, Nd.V, Nd.cells, c1, r2, c3, c4, Int.cast_ofNat_Int, Int.natCast_zero, Int.natCast_one, Int.reduceAdd, Int.reduceSub, Int.reduceNeg, Int.reduceMul, Int.reduceToNat, Int.reduceLT, Int.reduceLE, Int.reduceEq, Int.reduceBEq, Int.reduceBNe, Nat.reduceSub, Nat.reduceLT, List.getD_cons_zero, List.getD_cons_succ, List.length_singleton, Bool.and_true, Bool.and_false]
  refine acalls_pure p1 rfl ?_
  have h12 : one op = true ∨ two op = true := by
    unfold one two
    rw [decide_eq_true_iff, decide_eq_true_iff]
    omega
  generalize two op = to at *
  generalize one op = on at *
  cases on
  · obtain rfl : to = true := by simpa using h12
    simp (maxSteps := 4000000) only [↓packA, ↓reduceIte, packB, pureOp, quietOp, loadOp, quietB, fr0, cellsK, implies_true, ite_true, ite_false, eq_self, ne_eq, reduceCtorEq, Nat.reduceLT, Nat.reduceLeDiff, Nat.reduceAdd, Nat.reduceMul, Nat.reduceBEq, Nat.reduceEqDiff, Int.reduceToNat, Int.reduceLT, Int.reduceLE, Nat.reduceSub, pl89, ft1, ft2, ft3, ft4, ft77, ft79, ft81, ft83, ft115, Nd.V, Nd.cells, c1, r2, c3, c4, Int.cast_ofNat_Int, Int.natCast_zero, Int.natCast_one, Int.reduceAdd, Int.reduceSub, Int.reduceNeg, Int.reduceMul, Int.reduceToNat, Int.reduceLT, Int.reduceLE, Int.reduceEq, Int.reduceBEq, Int.reduceBNe, Nat.reduceSub, Nat.reduceLT, List.getD_cons_zero, List.getD_cons_succ, List.length_singleton, Bool.and_true, Bool.and_false]
    refine acalls_pure p2 rfl ?_
    by_cases c5 : a < 0
    · simp (maxSteps := 4000000) only [↓packA, ↓reduceIte, packB, pureOp, quietOp, loadOp, quietB, fr0, cellsK, implies_true, ite_true, ite_false, eq_self, ne_eq, reduceCtorEq, Nat.reduceLT, Nat.reduceLeDiff, Nat.reduceAdd, Nat.reduceMul, Nat.reduceBEq, Nat.reduceEqDiff, Int.reduceToNat, Int.reduceLT, Int.reduceLE, Nat.reduceSub, pl89, ft1, ft2, ft3, ft4, ft77, ft79, ft81, ft83, ft115, Nd.V, Nd.cells, c1, r2, c3, c4, c5, Int.cast_ofNat_Int, Int.natCast_zero, Int.natCast_one, Int.reduceAdd, Int.reduceSub, Int.reduceNeg, Int.reduceMul, Int.reduceToNat, Int.reduceLT, Int.reduceLE, Int.reduceEq, Int.reduceBEq, Int.reduceBNe, Nat.reduceSub, Nat.reduceLT, List.getD_cons_zero, List.getD_cons_succ, List.length_singleton, Bool.and_true, Bool.and_false]
      rw [hW, if_pos (.inl c5)]
      exact .pure _ rfl
    by_cases c6 : i ≤ a
    · have r6 : a ≥ i := c6
      simp (maxSteps := 4000000) only [↓packA, ↓reduceIte, packB, pureOp, quietOp, loadOp, quietB, fr0, cellsK, implies_true, ite_true, ite_false, eq_self, ne_eq, reduceCtorEq, Nat.reduceLT, Nat.reduceLeDiff, Nat.reduceAdd, Nat.reduceMul, Nat.reduceBEq, Nat.reduceEqDiff, Int.reduceToNat, Int.reduceLT, Int.reduceLE, Nat.reduceSub, pl89, ft1, ft2, ft3, ft4, ft77, ft79, ft81, ft83, ft115, Nd.V, Nd.cells, c1, r2, c3, c4, c5, r6, Int.cast_ofNat_Int, Int.natCast_zero, Int.natCast_one, Int.reduceAdd, Int.reduceSub, Int.reduceNeg, Int.reduceMul, Int.reduceToNat, Int.reduceLT, Int.reduceLE, Int.reduceEq, Int.reduceBEq, Int.reduceBNe, Nat.reduceSub, Nat.reduceLT, List.getD_cons_zero, List.getD_cons_succ, List.length_singleton, Bool.and_true, Bool.and_false]
      rw [hW, if_pos (.inr c6)]
      exact .pure _ rfl
    have r6 : ¬ a ≥ i := c6
    rw [if_neg (by omega)] at hW
    simp (maxSteps := 4000000) only [↓packA, ↓reduceIte, packB, pureOp, quietOp, loadOp, quietB, fr0, cellsK, implies_true, ite_true, ite_false, eq_self, ne_eq, reduceCtorEq, Nat.reduceLT, Nat.reduceLeDiff, Nat.reduceAdd, Nat.reduceMul, Nat.reduceBEq, Nat.reduceEqDiff, Int.reduceToNat, Int.reduceLT, Int.reduceLE, Nat.reduceSub, pl89, ft1, ft2, ft3, ft4, ft77, ft79, ft81, ft83, ft115, Nd.V, Nd.cells, c1, r2, c3, c4, c5, r6, Int.cast_ofNat_Int, Int.natCast_zero, Int.natCast_one, Int.reduceAdd, Int.reduceSub, Int.reduceNeg, Int.reduceMul, Int.reduceToNat, Int.reduceLT, Int.reduceLE, Int.reduceEq, Int.reduceBEq, Int.reduceBNe, Nat.reduceSub, Nat.reduceLT, List.getD_cons_zero, List.getD_cons_succ, List.length_singleton, Bool.and_true, Bool.and_false]
    refine acalls_pure p2 rfl ?_
    by_cases c9 : b < 0
    · simp (maxSteps := 4000000) only [↓packA, ↓reduceIte, packB, pureOp, quietOp, loadOp, quietB, fr0, cellsK, implies_true, ite_true, ite_false, eq_self, ne_eq, reduceCtorEq, Nat.reduceLT, Nat.reduceLeDiff, Nat.reduceAdd, Nat.reduceMul, Nat.reduceBEq, Nat.reduceEqDiff, Int.reduceToNat, Int.reduceLT, Int.reduceLE, Nat.reduceSub, pl89, ft1, ft2, ft3, ft4, ft77, ft79, ft81, ft83, ft115, Nd.V, Nd.cells, c1, r2, c3, c4, c5, r6, c9, Int.cast_ofNat_Int, Int.natCast_zero, Int.natCast_one, Int.reduceAdd, Int.reduceSub, Int.reduceNeg, Int.reduceMul, Int.reduceToNat, Int.reduceLT, Int.reduceLE, Int.reduceEq, Int.reduceBEq, Int.reduceBNe, Nat.reduceSub, Nat.reduceLT, List.getD_cons_zero, List.getD_cons_succ, List.length_singleton, Bool.and_true, Bool.and_false]
      rw [hW, if_pos ⟨rfl, .inl c9⟩]
      exact .pure _ rfl
    by_cases c10 : i ≤ b
    · have r10 : b ≥ i := c10
      simp (maxSteps := 4000000) only [↓packA, ↓reduceIte, packB, pureOp, quietOp, loadOp, quietB, fr0, cellsK, implies_true, ite_true, ite_false, eq_self, ne_eq, reduceCtorEq, Nat.reduceLT, Nat.reduceLeDiff, Nat.reduceAdd, Nat.reduceMul, Nat.reduceBEq, Nat.reduceEqDiff, Int.reduceToNat, Int.reduceLT, Int.reduceLE, Nat.reduceSub, pl89, ft1, ft2, ft3, ft4, ft77, ft79, ft81, ft83, ft115, Nd.V, Nd.cells, c1, r2, c3, c4, c5, r6, c9, r10, Int.cast_ofNat_Int, Int.natCast_zero, Int.natCast_one, Int.reduceAdd, Int.reduceSub, Int.reduceNeg, Int.reduceMul, Int.reduceToNat, Int.reduceLT, Int.reduceLE, Int.reduceEq, Int.reduceBEq, Int.reduceBNe, Nat.reduceSub, Nat.reduceLT, List.getD_cons_zero, List.getD_cons_succ, List.length_singleton, Bool.and_true, Bool.and_false]
      rw [hW, if_pos ⟨rfl, .inr c10⟩]
      exact .pure _ rfl
    have r10 : ¬ b ≥ i := c10
    rw [if_neg (by omega)] at hW
    by_cases c7 : c < -1024
    · simp (maxSteps := 4000000) only [↓packA, ↓reduceIte, packB, pureOp, quietOp, loadOp, quietB, fr0, cellsK, implies_true, ite_true, ite_false, eq_self, ne_eq, reduceCtorEq, Nat.reduceLT, Nat.reduceLeDiff, Nat.reduceAdd, Nat.reduceMul, Nat.reduceBEq, Nat.reduceEqDiff, Int.reduceToNat, Int.reduceLT, Int.reduceLE, Nat.reduceSub, pl89, ft1, ft2, ft3, ft4, ft77, ft79, ft81, ft83, ft115, Nd.V, Nd.cells, c1, r2, c3, c4, c5, r6, c9, r10, c7, Int.cast_ofNat_Int, Int.natCast_zero, Int.natCast_one, Int.reduceAdd, Int.reduceSub, Int.reduceNeg, Int.reduceMul, Int.reduceToNat, Int.reduceLT, Int.reduceLE, Int.reduceEq, Int.reduceBEq, Int.reduceBNe, Nat.reduceSub, Nat.reduceLT, List.getD_cons_zero, List.getD_cons_succ, List.length_singleton, Bool.and_true, Bool.and_false]
      rw [hW, if_pos (.inl c7)]
      exact .pure _ rfl
    by_cases c8 : 1024 < c
    · have r8 : c > 1024 := c8
      simp (maxSteps := 4000000) only [↓packA, ↓reduceIte, packB, pureOp, quietOp, loadOp, quietB, fr0, cellsK, implies_true, ite_true, ite_false, eq_self, ne_eq, reduceCtorEq, Nat.reduceLT, Nat.reduceLeDiff, Nat.reduceAdd, Nat.reduceMul, Nat.reduceBEq, Nat.reduceEqDiff, Int.reduceToNat, Int.reduceLT, Int.reduceLE, Nat.reduceSub, pl89, ft1, ft2, ft3, ft4, ft77, ft79, ft81, ft83, ft115, Nd.V, Nd.cells, c1, r2, c3, c4, c5, r6, c9, r10, c7, r8, Int.cast_ofNat_Int, Int.natCast_zero, Int.natCast_one, Int.reduceAdd, Int.reduceSub, Int.reduceNeg, Int.reduceMul, Int.reduceToNat, Int.reduceLT, Int.reduceLE, Int.reduceEq, Int.reduceBEq, Int.reduceBNe, Nat.reduceSub, Nat.reduceLT, List.getD_cons_zero, List.getD_cons_succ, List.length_singleton, Bool.and_true, Bool.and_false]
      rw [hW, if_pos (.inr c8)]
      exact .pure _ rfl
    have r8 : ¬ c > 1024 := c8
    simp (maxSteps := 4000000) only [↓packA, ↓reduceIte, packB, pureOp, quietOp, loadOp, quietB, fr0, cellsK, implies_true, ite_true, ite_false, eq_self, ne_eq, reduceCtorEq, Nat.reduceLT, Nat.reduceLeDiff, Nat.reduceAdd, Nat.reduceMul, Nat.reduceBEq, Nat.reduceEqDiff, Int.reduceToNat, Int.reduceLT, Int.reduceLE, Nat.reduceSub, pl89, ft1, ft2, ft3, ft4, ft77, ft79, ft81, ft83, ft115, Nd.V, Nd.cells, c1, r2, c3, c4, c5, r6, c9, r10, c7, r8, Int.cast_ofNat_Int, Int.natCast_zero, Int.natCast_one, Int.reduceAdd, Int.reduceSub, Int.reduceNeg, Int.reduceMul, Int.reduceToNat, Int.reduceLT, Int.reduceLE, Int.reduceEq, Int.reduceBEq, Int.reduceBNe, Nat.reduceSub, Nat.reduceLT, List.getD_cons_zero, List.getD_cons_succ, List.length_singleton, Bool.and_true, Bool.and_false]
    rw [hW, if_neg (by omega)]
    exact .pure _ rfl
  · by_cases c5 : a < 0
    · simp (maxSteps := 4000000) only [↓packA, ↓reduceIte, packB, pureOp, quietOp, loadOp, quietB, fr0, cellsK, implies_true, ite_true, ite_false, eq_self, ne_eq, reduceCtorEq, Nat.reduceLT, Nat.reduceLeDiff, Nat.reduceAdd, Nat.reduceMul, Nat.reduceBEq, Nat.reduceEqDiff, Int.reduceToNat, Int.reduceLT, Int.reduceLE, Nat.reduceSub, pl89, ft1, ft2, ft3, ft4, ft77, ft79, ft81, ft83, ft115, Nd.V, Nd.cells, c1, r2, c3, c4, c5, Int.cast_ofNat_Int, Int.natCast_zero, Int.natCast_one, Int.reduceAdd, Int.reduceSub, Int.reduceNeg, Int.reduceMul, Int.reduceToNat, Int.reduceLT, Int.reduceLE, Int.reduceEq, Int.reduceBEq, Int.reduceBNe, Nat.reduceSub, Nat.reduceLT, List.getD_cons_zero, List.getD_cons_succ, List.length_singleton, Bool.and_true, Bool.and_false]
      rw [hW, if_pos (.inl c5)]
      exact .pure _ rfl
    by_cases c6 : i ≤ a
    · have r6 : a ≥ i := c6
      simp (maxSteps := 4000000) only [↓packA, ↓reduceIte, packB, pureOp, quietOp, loadOp, quietB, fr0, cellsK, implies_true, ite_true, ite_false, eq_self, ne_eq, reduceCtorEq, Nat.reduceLT, Nat.reduceLeDiff, Nat.reduceAdd, Nat.reduceMul, Nat.reduceBEq, Nat.reduceEqDiff, Int.reduceToNat, Int.reduceLT, Int.reduceLE, Nat.reduceSub, pl89, ft1, ft2, ft3, ft4, ft77, ft79, ft81, ft83, ft115, Nd.V, Nd.cells, c1, r2, c3, c4, c5, r6, Int.cast_ofNat_Int, Int.natCast_zero, Int.natCast_one, Int.reduceAdd, Int.reduceSub, Int.reduceNeg, Int.reduceMul, Int.reduceToNat, Int.reduceLT, Int.reduceLE, Int.reduceEq, Int.reduceBEq, Int.reduceBNe, Nat.reduceSub, Nat.reduceLT, List.getD_cons_zero, List.getD_cons_succ, List.length_singleton, Bool.and_true, Bool.and_false]
      rw [hW, if_pos (.inr c6)]
      exact .pure _ rfl
    have r6 : ¬ a ≥ i := c6
    rw [if_neg (by omega)] at hW
    simp (maxSteps := 4000000) only [↓packA, ↓reduceIte, packB, pureOp, quietOp, loadOp, quietB, fr0, cellsK, implies_true, ite_true, ite_false, eq_self, ne_eq, reduceCtorEq, Nat.reduceLT, Nat.reduceLeDiff, Nat.reduceAdd, Nat.reduceMul, Nat.reduceBEq, Nat.reduceEqDiff, Int.reduceToNat, Int.reduceLT, Int.reduceLE, Nat.reduceSub, pl89, ft1, ft2, ft3, ft4, ft77, ft79, ft81, ft83, ft115, Nd.V, Nd.cells, c1, r2, c3, c4, c5, r6, Int.cast_ofNat_Int, Int.natCast_zero, Int.natCast_one, Int.reduceAdd, Int.reduceSub, Int.reduceNeg, Int.reduceMul, Int.reduceToNat, Int.reduceLT, Int.reduceLE, Int.reduceEq, Int.reduceBEq, Int.reduceBNe, Nat.reduceSub, Nat.reduceLT, List.getD_cons_zero, List.getD_cons_succ, List.length_singleton, Bool.and_true, Bool.and_false]
    refine acalls_pure p2 rfl ?_
    cases to
    · rw [if_neg (fun h => by cases h.1)] at hW
      by_cases c7 : c < -1024
      · simp (maxSteps := 4000000) only [↓packA, ↓reduceIte, packB, pureOp, quietOp, loadOp, quietB, fr0, cellsK, implies_true, ite_true, ite_false, eq_self, ne_eq, reduceCtorEq, Nat.reduceLT, Nat.reduceLeDiff, Nat.reduceAdd, Nat.reduceMul, Nat.reduceBEq, Nat.reduceEqDiff, Int.reduceToNat, Int.reduceLT, Int.reduceLE, Nat.reduceSub, pl89, ft1, ft2, ft3, ft4, ft77, ft79, ft81, ft83, ft115, Nd.V, Nd.cells, c1, r2, c3, c4, c5, r6, c7, Int.cast_ofNat_Int, Int.natCast_zero, Int.natCast_one, Int.reduceAdd, Int.reduceSub, Int.reduceNeg, Int.reduceMul, Int.reduceToNat, Int.reduceLT, Int.reduceLE, Int.reduceEq, Int.reduceBEq, Int.reduceBNe, Nat.reduceSub, Nat.reduceLT, List.getD_cons_zero, List.getD_cons_succ, List.length_singleton, Bool.and_true, Bool.and_false]
        rw [hW, if_pos (.inl c7)]
        exact .pure _ rfl
      by_cases c8 : 1024 < c
      · have r8 : c > 1024 := c8
        simp (maxSteps := 4000000) only [↓packA, ↓reduceIte, packB, pureOp, quietOp, loadOp, quietB, fr0, cellsK, implies_true, ite_true, ite_false, eq_self, ne_eq, reduceCtorEq, Nat.reduceLT, Nat.reduceLeDiff, Nat.reduceAdd, Nat.reduceMul, Nat.reduceBEq, Nat.reduceEqDiff, Int.reduceToNat, Int.reduceLT, Int.reduceLE, Nat.reduceSub, pl89, ft1, ft2, ft3, ft4, ft77, ft79, ft81, ft83, ft115, Nd.V, Nd.cells, c1, r2, c3, c4, c5, r6, c7, r8, Int.cast_ofNat_Int, Int.natCast_zero, Int.natCast_one, Int.reduceAdd, Int.reduceSub, Int.reduceNeg, Int.reduceMul, Int.reduceToNat, Int.reduceLT, Int.reduceLE, Int.reduceEq, Int.reduceBEq, Int.reduceBNe, Nat.reduceSub, Nat.reduceLT, List.getD_cons_zero, List.getD_cons_succ, List.length_singleton, Bool.and_true, Bool.and_false]
        rw [hW, if_pos (.inr c8)]
        exact .pure _ rfl
      have r8 : ¬ c > 1024 := c8
      simp (maxSteps := 4000000) only [↓packA, ↓reduceIte, packB, pureOp, quietOp, loadOp, quietB, fr0, cellsK, implies_true, ite_true, ite_false, eq_self, ne_eq, reduceCtorEq, Nat.reduceLT, Nat.reduceLeDiff, Nat.reduceAdd, Nat.reduceMul, Nat.reduceBEq, Nat.reduceEqDiff, Int.reduceToNat, Int.reduceLT, Int.reduceLE, Nat.reduceSub, pl89, ft1, ft2, ft3, ft4, ft77, ft79, ft81, ft83, ft115, Nd.V, Nd.cells, c1, r2, c3, c4, c5, r6, c7, r8, Int.cast_ofNat_Int, Int.natCast_zero, Int.natCast_one, Int.reduceAdd, Int.reduceSub, Int.reduceNeg, Int.reduceMul, Int.reduceToNat, Int.reduceLT, Int.reduceLE, Int.reduceEq, Int.reduceBEq, Int.reduceBNe, Nat.reduceSub, Nat.reduceLT, List.getD_cons_zero, List.getD_cons_succ, List.length_singleton, Bool.and_true, Bool.and_false]
      rw [hW, if_neg (by omega)]
      exact .pure _ rfl
    · by_cases c9 : b < 0
      · simp (maxSteps := 4000000) only [↓packA, ↓reduceIte, packB, pureOp, quietOp, loadOp, quietB, fr0, cellsK, implies_true, ite_true, ite_false, eq_self, ne_eq, reduceCtorEq, Nat.reduceLT, Nat.reduceLeDiff, Nat.reduceAdd, Nat.reduceMul, Nat.reduceBEq, Nat.reduceEqDiff, Int.reduceToNat, Int.reduceLT, Int.reduceLE, Nat.reduceSub, pl89, ft1, ft2, ft3, ft4, ft77, ft79, ft81, ft83, ft115, Nd.V, Nd.cells, c1, r2, c3, c4, c5, r6, c9, Int.cast_ofNat_Int, Int.natCast_zero, Int.natCast_one, Int.reduceAdd, Int.reduceSub, Int.reduceNeg, Int.reduceMul, Int.reduceToNat, Int.reduceLT, Int.reduceLE, Int.reduceEq, Int.reduceBEq, Int.reduceBNe, Nat.reduceSub, Nat.reduceLT, List.getD_cons_zero, List.getD_cons_succ, List.length_singleton, Bool.and_true, Bool.and_false]
        rw [hW, if_pos ⟨rfl, .inl c9⟩]
        exact .pure _ rfl
      by_cases c10 : i ≤ b
      · have r10 : b ≥ i := c10
        simp (maxSteps := 4000000) only [↓packA, ↓reduceIte, packB, pureOp, quietOp, loadOp, quietB, fr0, cellsK, implies_true, ite_true, ite_false, eq_self, ne_eq, reduceCtorEq, Nat.reduceLT, Nat.reduceLeDiff, Nat.reduceAdd, Nat.reduceMul, Nat.reduceBEq, Nat.reduceEqDiff, Int.reduceToNat, Int.reduceLT, Int.reduceLE, Nat.reduceSub, pl89, ft1, ft2, ft3, ft4, ft77, ft79, ft81, ft83, ft115, Nd.V, Nd.cells, c1, r2, c3, c4, c5, r6, c9, r10, Int.cast_ofNat_Int, Int.natCast_zero, Int.natCast_one, Int.reduceAdd, Int.reduceSub, Int.reduceNeg, Int.reduceMul, Int.reduceToNat, Int.reduceLT, Int.reduceLE, Int.reduceEq, Int.reduceBEq, Int.reduceBNe, Nat.reduceSub, Nat.reduceLT, List.getD_cons_zero, List.getD_cons_succ, List.length_singleton, Bool.and_true, Bool.and_false]
        rw [hW, if_pos ⟨rfl, .inr c10⟩]
        exact .pure _ rfl
      have r10 : ¬ b ≥ i := c10
      rw [if_neg (by omega)] at hW
      by_cases c7 : c < -1024
      · simp (maxSteps := 4000000) only [↓packA, ↓reduceIte, packB, pureOp, quietOp, loadOp, quietB, fr0, cellsK, implies_true, ite_true, ite_false, eq_self, ne_eq, reduceCtorEq, Nat.reduceLT, Nat.reduceLeDiff, Nat.reduceAdd, Nat.reduceMul, Nat.reduceBEq, Nat.reduceEqDiff, Int.reduceToNat, Int.reduceLT, Int.reduceLE, Nat.reduceSub, pl89, ft1, ft2, ft3, ft4, ft77, ft79, ft81, ft83, ft115, Nd.V, Nd.cells, c1, r2, c3, c4, c5, r6, c9, r10, c7, Int.cast_ofNat_Int, Int.natCast_zero, Int.natCast_one, Int.reduceAdd, Int.reduceSub, Int.reduceNeg, Int.reduceMul, Int.reduceToNat, Int.reduceLT, Int.reduceLE, Int.reduceEq, Int.reduceBEq, Int.reduceBNe, Nat.reduceSub, Nat.reduceLT, List.getD_cons_zero, List.getD_cons_succ, List.length_singleton, Bool.and_true, Bool.and_false]
        rw [hW, if_pos (.inl c7)]
        exact .pure _ rfl
      by_cases c8 : 1024 < c
      · have r8 : c > 1024 := c8
        simp (maxSteps := 4000000) only [↓packA, ↓reduceIte, packB, pureOp, quietOp, loadOp, quietB, fr0, cellsK, implies_true, ite_true, ite_false, eq_self, ne_eq, reduceCtorEq, Nat.reduceLT, Nat.reduceLeDiff, Nat.reduceAdd, Nat.reduceMul, Nat.reduceBEq, Nat.reduceEqDiff, Int.reduceToNat, Int.reduceLT, Int.reduceLE, Nat.reduceSub, pl89, ft1, ft2, ft3, ft4, ft77, ft79, ft81, ft83, ft115, Nd.V, Nd.cells, c1, r2, c3, c4, c5, r6, c9, r10, c7, r8, Int.cast_ofNat_Int, Int.natCast_zero, Int.natCast_one, Int.reduceAdd, Int.reduceSub, Int.reduceNeg, Int.reduceMul, Int.reduceToNat, Int.reduceLT, Int.reduceLE, Int.reduceEq, Int.reduceBEq, Int.reduceBNe, Nat.reduceSub, Nat.reduceLT, List.getD_cons_zero, List.getD_cons_succ, List.length_singleton, Bool.and_true, Bool.and_false]
        rw [hW, if_pos (.inr c8)]
        exact .pure _ rfl
      have r8 : ¬ c > 1024 := c8
      simp (maxSteps := 4000000) only [↓packA, ↓reduceIte, packB, pureOp, quietOp, loadOp, quietB, fr0, cellsK, implies_true, ite_true, ite_false, eq_self, ne_eq, reduceCtorEq, Nat.reduceLT, Nat.reduceLeDiff, Nat.reduceAdd, Nat.reduceMul, Nat.reduceBEq, Nat.reduceEqDiff, Int.reduceToNat, Int.reduceLT, Int.reduceLE, Nat.reduceSub, pl89, ft1, ft2, ft3, ft4, ft77, ft79, ft81, ft83, ft115, Nd.V, Nd.cells, c1, r2, c3, c4, c5, r6, c9, r10, c7, r8, Int.cast_ofNat_Int, Int.natCast_zero, Int.natCast_one, Int.reduceAdd, Int.reduceSub, Int.reduceNeg, Int.reduceMul, Int.reduceToNat, Int.reduceLT, Int.reduceLE, Int.reduceEq, Int.reduceBEq, Int.reduceBNe, Nat.reduceSub, Nat.reduceLT, List.getD_cons_zero, List.getD_cons_succ, List.length_singleton, Bool.and_true, Bool.and_false]
      rw [hW, if_neg (by omega)]
      exact .pure _ rfl
end Go.Proofs.Ytgdlkhgfehclpaa
end

section
/- A tape's first fault, walked. No condition. -/
namespace Go.Proofs.Ytgdlkhgfehclpaa
open Go Go.AL
set_option linter.unusedVariables false
set_option linter.unusedSimpArgs false
structure Tp where
  vars : Int
  ns : List Nd
  outs : List Int
def Tp.V (t : Tp) : AV := .agg [.int .i64 t.vars, .isl 7 (List.map Nd.cells t.ns), ints t.outs]
def Tp.goO (t : Tp) : Nat → Int × Int
  | 0 => (0, 0)
  | r + 1 => if t.outs.getD (t.outs.length - (r + 1)) default < 0 ∨ (t.ns.length : Int) ≤ t.outs.getD (t.outs.length - (r + 1)) default then (t.ns.length + (t.outs.length - (r + 1) : Nat), 108) else t.goO r
def Tp.goN (t : Tp) : Nat → Int × Int
  | 0 => t.goO t.outs.length
  | r + 1 => if (t.ns.getD (t.ns.length - (r + 1)) default).wrong t.vars (t.ns.length - (r + 1) : Nat) ≠ 0 then ((t.ns.length - (r + 1) : Nat), (t.ns.getD (t.ns.length - (r + 1)) default).wrong t.vars (t.ns.length - (r + 1) : Nat)) else t.goN r
def Tp.check (t : Tp) : Int × Int :=
  if t.vars < 0 ∨ 64 < t.vars then (-1, 100) else if 2048 < t.ns.length then (-1, 101) else if t.outs.length = 0 ∨ 64 < t.outs.length then (-1, 102) else t.goN t.ns.length
structure Tp.Ok (t : Tp) : Prop where
  ns : ∀ n, n ∈ t.ns → n.Ok
set_option maxHeartbeats 4000000 in
set_option maxRecDepth 100000 in
theorem pcheck_c (t : Tp) (ht : t.Ok) : APure Try.prog 58 [t.V] (.tup [.int .i64 t.check.1, .int .i64 t.check.2]) := by
  refine apure_of (wp58 rfl rfl ?_)
  obtain ⟨C, hC⟩ : ∃ C, C = t.check := ⟨_, rfl⟩
  rw [← hC]
  unfold Tp.check at hC
  obtain ⟨vars, ns, outs⟩ := t
  simp only at hC
  by_cases c1 : vars < 0
  · rw [if_pos (.inl c1)] at hC
    subst hC
    simp (maxSteps := 4000000) only [↓packA, ↓reduceIte, packB, pureOp, quietOp, loadOp, quietB, fr0, cellsK, implies_true, ite_true, ite_false, eq_self, ne_eq, reduceCtorEq, Nat.reduceLT, Nat.reduceLeDiff, Nat.reduceAdd, Nat.reduceMul, Nat.reduceBEq, Nat.reduceEqDiff, Int.reduceToNat, Int.reduceLT, Int.reduceLE, Nat.reduceSub, pl58, ft1, ft2, ft3, ft22, ft23, ft25, ft53, ft77, ft81, ft83, Tp.V, ints, c1, Int.cast_ofNat_Int, Int.natCast_zero, Int.natCast_one, Int.reduceAdd, Int.reduceSub, Int.reduceNeg, Int.reduceMul, Int.reduceToNat, Int.reduceLT, Int.reduceLE, Int.reduceEq, Int.reduceBEq, Int.reduceBNe, Nat.reduceSub, Nat.reduceLT, List.getD_cons_zero, List.getD_cons_succ, List.length_singleton, Bool.and_true, Bool.and_false]
    exact .pure _ rfl
  by_cases c2 : 64 < vars
  · rw [if_pos (.inr c2)] at hC
    subst hC
    have r2 : vars > 64 := c2
    simp (maxSteps := 4000000) only [↓packA, ↓reduceIte, packB, pureOp, quietOp, loadOp, quietB, fr0, cellsK, implies_true, ite_true, ite_false, eq_self, ne_eq, reduceCtorEq, Nat.reduceLT, Nat.reduceLeDiff, Nat.reduceAdd, Nat.reduceMul, Nat.reduceBEq, Nat.reduceEqDiff, Int.reduceToNat, Int.reduceLT, Int.reduceLE, Nat.reduceSub, pl58, ft1, ft2, ft3, ft22, ft23, ft25, ft53, ft77, ft81, ft83, Tp.V, ints, c1, r2, Int.cast_ofNat_Int, Int.natCast_zero, Int.natCast_one, Int.reduceAdd, Int.reduceSub, Int.reduceNeg, Int.reduceMul, Int.reduceToNat, Int.reduceLT, Int.reduceLE, Int.reduceEq, Int.reduceBEq, Int.reduceBNe, Nat.reduceSub, Nat.reduceLT, List.getD_cons_zero, List.getD_cons_succ, List.length_singleton, Bool.and_true, Bool.and_false]
    exact .pure _ rfl
  have r2 : ¬ vars > 64 := c2
  rw [if_neg (by omega)] at hC
  by_cases c3 : 2048 < ns.length
  · rw [if_pos c3] at hC
    subst hC
    have r3 : (ns.length : Int) > 2048 := by omega
    simp (maxSteps := 4000000) only [↓packA, ↓reduceIte, packB, pureOp, quietOp, loadOp, quietB, fr0, cellsK, implies_true, ite_true, ite_false, eq_self, ne_eq, reduceCtorEq, Nat.reduceLT, Nat.reduceLeDiff, Nat.reduceAdd, Nat.reduceMul, Nat.reduceBEq, Nat.reduceEqDiff, Int.reduceToNat, Int.reduceLT, Int.reduceLE, Nat.reduceSub, pl58, ft1, ft2, ft3, ft22, ft23, ft25, ft53, ft77, ft81, ft83, Tp.V, ints, c1, r2, r3, List.length_map, Int.cast_ofNat_Int, Int.natCast_zero, Int.natCast_one, Int.reduceAdd, Int.reduceSub, Int.reduceNeg, Int.reduceMul, Int.reduceToNat, Int.reduceLT, Int.reduceLE, Int.reduceEq, Int.reduceBEq, Int.reduceBNe, Nat.reduceSub, Nat.reduceLT, List.getD_cons_zero, List.getD_cons_succ, List.length_singleton, Bool.and_true, Bool.and_false]
    exact .pure _ rfl
  have r3 : ¬ (ns.length : Int) > 2048 := by omega
  rw [if_neg c3] at hC
  by_cases c4 : outs.length = 0
  · rw [if_pos (.inl c4)] at hC
    subst hC
    have r4 : (outs.length : Int) = 0 := by omega
    simp (maxSteps := 4000000) only [↓packA, ↓reduceIte, packB, pureOp, quietOp, loadOp, quietB, fr0, cellsK, implies_true, ite_true, ite_false, eq_self, ne_eq, reduceCtorEq, Nat.reduceLT, Nat.reduceLeDiff, Nat.reduceAdd, Nat.reduceMul, Nat.reduceBEq, Nat.reduceEqDiff, Int.reduceToNat, Int.reduceLT, Int.reduceLE, Nat.reduceSub, pl58, ft1, ft2, ft3, ft22, ft23, ft25, ft53, ft77, ft81, ft83, Tp.V, ints, c1, r2, r3, r4, List.length_map, Int.cast_ofNat_Int, Int.natCast_zero, Int.natCast_one, Int.reduceAdd, Int.reduceSub, Int.reduceNeg, Int.reduceMul, Int.reduceToNat, Int.reduceLT, Int.reduceLE, Int.reduceEq, Int.reduceBEq, Int.reduceBNe, Nat.reduceSub, Nat.reduceLT, List.getD_cons_zero, List.getD_cons_succ, List.length_singleton, Bool.and_true, Bool.and_false]
    exact .pure _ rfl
  have r4 : ¬ (outs.length : Int) = 0 := by omega
  by_cases c5 : 64 < outs.length
  · rw [if_pos (.inr c5)] at hC
    subst hC
    have r5 : (outs.length : Int) > 64 := by omega
    simp (maxSteps := 4000000) only [↓packA, ↓reduceIte, packB, pureOp, quietOp, loadOp, quietB, fr0, cellsK, implies_true, ite_true, ite_false, eq_self, ne_eq, reduceCtorEq, Nat.reduceLT, Nat.reduceLeDiff, Nat.reduceAdd, Nat.reduceMul, Nat.reduceBEq, Nat.reduceEqDiff, Int.reduceToNat, Int.reduceLT, Int.reduceLE, Nat.reduceSub, pl58, ft1, ft2, ft3, ft22, ft23, ft25, ft53, ft77, ft81, ft83, Tp.V, ints, c1, r2, r3, r4, r5, List.length_map, Int.cast_ofNat_Int, Int.natCast_zero, Int.natCast_one, Int.reduceAdd, Int.reduceSub, Int.reduceNeg, Int.reduceMul, Int.reduceToNat, Int.reduceLT, Int.reduceLE, Int.reduceEq, Int.reduceBEq, Int.reduceBNe, Nat.reduceSub, Nat.reduceLT, List.getD_cons_zero, List.getD_cons_succ, List.length_singleton, Bool.and_true, Bool.and_false]
    exact .pure _ rfl
  have r5 : ¬ (outs.length : Int) > 64 := by omega
  rw [if_neg (by omega)] at hC
  simp (maxSteps := 4000000) only [↓packA, ↓reduceIte, packB, pureOp, quietOp, loadOp, quietB, fr0, cellsK, implies_true, ite_true, ite_false, eq_self, ne_eq, reduceCtorEq, Nat.reduceLT, Nat.reduceLeDiff, Nat.reduceAdd, Nat.reduceMul, Nat.reduceBEq, Nat.reduceEqDiff, Int.reduceToNat, Int.reduceLT, Int.reduceLE, Nat.reduceSub, pl58, ft1, ft2, ft3, ft22, ft23, ft25, ft53, ft77, ft81, ft83, Tp.V, ints, c1, r2, r3, r4, r5, List.length_map, Int.cast_ofNat_Int, Int.natCast_zero, Int.natCast_one, Int.reduceAdd, Int.reduceSub, Int.reduceNeg, Int.reduceMul, Int.reduceToNat, Int.reduceLT, Int.reduceLE, Int.reduceEq, Int.reduceBEq, Int.reduceBNe, Nat.reduceSub, Nat.reduceLT, List.getD_cons_zero, List.getD_cons_succ, List.length_singleton, Bool.and_true, Bool.and_false]
  have hns := ht.ns
  simp only at hns
  refine LoopK.intro (fun x w g => ∃ k : Nat, x = ns.length - k ∧ k ≤ ns.length ∧ C = Tp.goN ⟨vars, ns, outs⟩ (ns.length - k) ∧ w 1 = .op 0 3 0 0 ∧ w 35 = .isl 7 (List.map Nd.cells ns) ∧ w 36 = .int .i64 ns.length ∧ w 37 = .int .i64 k ∧ g[0]? = some (.arr 3 [[.int .i64 vars, .isl 7 (List.map Nd.cells ns), .isl 1 (List.map intE outs)]] true)) ns.length ⟨0, rfl, by omega, hC, ?_, ?_, ?_, ?_, rfl⟩ ?_
  · simp (maxSteps := 4000000) only [↓packA, ↓reduceIte, packB, pureOp, quietOp, loadOp, quietB, fr0, cellsK, implies_true, ite_true, ite_false, eq_self, ne_eq, reduceCtorEq, Nat.reduceLT, Nat.reduceLeDiff, Nat.reduceAdd, Nat.reduceMul, Nat.reduceBEq, Nat.reduceEqDiff, Int.reduceToNat, Int.reduceLT, Int.reduceLE, Nat.reduceSub, pl58, ft1, ft2, ft3, ft22, ft23, ft25, ft53, ft77, ft81, ft83]
  · simp (maxSteps := 4000000) only [↓packA, ↓reduceIte, packB, pureOp, quietOp, loadOp, quietB, fr0, cellsK, implies_true, ite_true, ite_false, eq_self, ne_eq, reduceCtorEq, Nat.reduceLT, Nat.reduceLeDiff, Nat.reduceAdd, Nat.reduceMul, Nat.reduceBEq, Nat.reduceEqDiff, Int.reduceToNat, Int.reduceLT, Int.reduceLE, Nat.reduceSub, pl58, ft1, ft2, ft3, ft22, ft23, ft25, ft53, ft77, ft81, ft83]
  · simp (maxSteps := 4000000) only [↓packA, ↓reduceIte, packB, pureOp, quietOp, loadOp, quietB, fr0, cellsK, implies_true, ite_true, ite_false, eq_self, ne_eq, reduceCtorEq, Nat.reduceLT, Nat.reduceLeDiff, Nat.reduceAdd, Nat.reduceMul, Nat.reduceBEq, Nat.reduceEqDiff, Int.reduceToNat, Int.reduceLT, Int.reduceLE, Nat.reduceSub, pl58, ft1, ft2, ft3, ft22, ft23, ft25, ft53, ft77, ft81, ft83, List.length_map]
  · simp (maxSteps := 4000000) only [↓packA, ↓reduceIte, packB, pureOp, quietOp, loadOp, quietB, fr0, cellsK, implies_true, ite_true, ite_false, eq_self, ne_eq, reduceCtorEq, Nat.reduceLT, Nat.reduceLeDiff, Nat.reduceAdd, Nat.reduceMul, Nat.reduceBEq, Nat.reduceEqDiff, Int.reduceToNat, Int.reduceLT, Int.reduceLE, Nat.reduceSub, pl58, ft1, ft2, ft3, ft22, ft23, ft25, ft53, ft77, ft81, ft83, Int.natCast_zero]
  rintro x w g ⟨k, rfl, hk, hC, a1, a35, a36, a37, hg⟩
  by_cases c : k < ns.length
  · have r1 : (k : Int) < (ns.length : Int) := by omega
    obtain ⟨n, hn⟩ : ∃ n, n = ns.getD k default := ⟨_, rfl⟩
    have hnk : ns[k]? = some n := by rw [hn, List.getD_eq_getElem?_getD, List.getElem?_eq_getElem c]; rfl
    have rk : (List.map Nd.cells ns)[k]? = some (Nd.cells n) := by rw [List.getElem?_map, hnk]; rfl
    have hnok : n.Ok := hns n (List.mem_of_getElem? hnk)
    have hp := pnode_c n hnok vars k
    obtain ⟨r, hr⟩ : ∃ r, ns.length - k = r + 1 := ⟨ns.length - k - 1, by omega⟩
    have hC2 : C = if n.wrong vars k ≠ 0 then ((k : Int), n.wrong vars k) else Tp.goN ⟨vars, ns, outs⟩ r := by
      rw [hC, hr]
      show (if (ns.getD (ns.length - (r + 1)) default).wrong vars (ns.length - (r + 1) : Nat) ≠ 0 then (((ns.length - (r + 1) : Nat) : Int), (ns.getD (ns.length - (r + 1)) default).wrong vars (ns.length - (r + 1) : Nat)) else Tp.goN ⟨vars, ns, outs⟩ r) = _
      rw [show ns.length - (r + 1) = k by omega, ← hn]
    obtain ⟨M, hM⟩ : ∃ M, g.length = M := ⟨_, rfl⟩
    have rM : ∀ o, (g ++ [o])[M]? = some o := fun o => by rw [List.getElem?_append_right (by omega)]; simp [hM]
    have sM : ∀ o o', (g ++ [o]).set M o' = g ++ [o'] := fun o o' => by rw [List.set_append_right _ _ (by omega)]; simp [hM]
    have rg : ∀ o, (g ++ [o])[0]? = some (.arr 3 [[.int .i64 vars, .isl 7 (List.map Nd.cells ns), .isl 1 (List.map intE outs)]] true) := fun o => by rw [List.getElem?_append_left (List.getElem?_eq_some_iff.1 hg).1]; exact hg
    simp (maxSteps := 4000000) only [↓packA, ↓reduceIte, packB, pureOp, quietOp, loadOp, quietB, fr0, cellsK, implies_true, ite_true, ite_false, eq_self, ne_eq, reduceCtorEq, Nat.reduceLT, Nat.reduceLeDiff, Nat.reduceAdd, Nat.reduceMul, Nat.reduceBEq, Nat.reduceEqDiff, Int.reduceToNat, Int.reduceLT, Int.reduceLE, Nat.reduceSub, pl58, ft1, ft2, ft3, ft22, ft23, ft25, ft53, ft77, ft81, ft83, a1, a35, a36, a37, r1, rk, hM, rM, sM, rg, hg, Nd.cells, Int.cast_ofNat_Int, Int.natCast_zero, Int.natCast_one, Int.reduceAdd, Int.reduceSub, Int.reduceNeg, Int.reduceMul, Int.reduceToNat, Int.reduceLT, Int.reduceLE, Int.reduceEq, Int.reduceBEq, Int.reduceBNe, Nat.reduceSub, Nat.reduceLT, List.getD_cons_zero, List.getD_cons_succ, List.length_singleton, Bool.and_true, Bool.and_false]
    refine ⟨by omega, acalls_pure hp rfl ?_⟩
    by_cases cw : n.wrong vars k = 0
    · rw [if_neg (by omega)] at hC2
      rw [cw]
      simp (maxSteps := 4000000) only [↓packA, ↓reduceIte, packB, pureOp, quietOp, loadOp, quietB, fr0, cellsK, implies_true, ite_true, ite_false, eq_self, ne_eq, reduceCtorEq, Nat.reduceLT, Nat.reduceLeDiff, Nat.reduceAdd, Nat.reduceMul, Nat.reduceBEq, Nat.reduceEqDiff, Int.reduceToNat, Int.reduceLT, Int.reduceLE, Nat.reduceSub, pl58, ft1, ft2, ft3, ft22, ft23, ft25, ft53, ft77, ft81, ft83, a1, a35, a36, a37, r1, rk, hM, rM, sM, rg, hg, Nd.cells, Int.cast_ofNat_Int, Int.natCast_zero, Int.natCast_one, Int.reduceAdd, Int.reduceSub, Int.reduceNeg, Int.reduceMul, Int.reduceToNat, Int.reduceLT, Int.reduceLE, Int.reduceEq, Int.reduceBEq, Int.reduceBNe, Nat.reduceSub, Nat.reduceLT, List.getD_cons_zero, List.getD_cons_succ, List.length_singleton, Bool.and_true, Bool.and_false]
      exact ⟨by omega, .inl ⟨ns.length - (k + 1), by omega, k + 1, rfl, by omega, by rw [hC2]; congr 1; omega, by omega⟩⟩
    · rw [if_pos cw] at hC2
      subst hC2
      simp (maxSteps := 4000000) only [↓packA, ↓reduceIte, packB, pureOp, quietOp, loadOp, quietB, fr0, cellsK, implies_true, ite_true, ite_false, eq_self, ne_eq, reduceCtorEq, Nat.reduceLT, Nat.reduceLeDiff, Nat.reduceAdd, Nat.reduceMul, Nat.reduceBEq, Nat.reduceEqDiff, Int.reduceToNat, Int.reduceLT, Int.reduceLE, Nat.reduceSub, pl58, ft1, ft2, ft3, ft22, ft23, ft25, ft53, ft77, ft81, ft83, a1, a35, a36, a37, r1, rk, hM, rM, sM, rg, hg, cw, Nd.cells, Int.cast_ofNat_Int, Int.natCast_zero, Int.natCast_one, Int.reduceAdd, Int.reduceSub, Int.reduceNeg, Int.reduceMul, Int.reduceToNat, Int.reduceLT, Int.reduceLE, Int.reduceEq, Int.reduceBEq, Int.reduceBNe, Nat.reduceSub, Nat.reduceLT, List.getD_cons_zero, List.getD_cons_succ, List.length_singleton, Bool.and_true, Bool.and_false]
      exact .pure _ rfl
  · have r1 : ¬ (k : Int) < (ns.length : Int) := by omega
    obtain rfl : k = ns.length := by omega
    simp (maxSteps := 4000000) only [↓packA, ↓reduceIte, packB, pureOp, quietOp, loadOp, quietB, fr0, cellsK, implies_true, ite_true, ite_false, eq_self, ne_eq, reduceCtorEq, Nat.reduceLT, Nat.reduceLeDiff, Nat.reduceAdd, Nat.reduceMul, Nat.reduceBEq, Nat.reduceEqDiff, Int.reduceToNat, Int.reduceLT, Int.reduceLE, Nat.reduceSub, pl58, ft1, ft2, ft3, ft22, ft23, ft25, ft53, ft77, ft81, ft83, a1, a35, a36, a37, r1, hg, Int.cast_ofNat_Int, Int.natCast_zero, Int.natCast_one, Int.reduceAdd, Int.reduceSub, Int.reduceNeg, Int.reduceMul, Int.reduceToNat, Int.reduceLT, Int.reduceLE, Int.reduceEq, Int.reduceBEq, Int.reduceBNe, Nat.reduceSub, Nat.reduceLT, List.getD_cons_zero, List.getD_cons_succ, List.length_singleton, Bool.and_true, Bool.and_false]
    rw [Nat.sub_self] at hC
    have hC3 : C = Tp.goO ⟨vars, ns, outs⟩ outs.length := hC
    clear hC
    refine LoopK.intro (fun x w g => ∃ k : Nat, x = outs.length - k ∧ k ≤ outs.length ∧ C = Tp.goO ⟨vars, ns, outs⟩ (outs.length - k) ∧ w 1 = .op 0 3 0 0 ∧ w 53 = ints outs ∧ w 54 = .int .i64 outs.length ∧ w 55 = .int .i64 k ∧ g[0]? = some (.arr 3 [[.int .i64 vars, .isl 7 (List.map Nd.cells ns), .isl 1 (List.map intE outs)]] true)) outs.length ⟨0, rfl, by omega, hC3, ?_, ?_, ?_, ?_, hg⟩ ?_
    · simp (maxSteps := 4000000) only [↓packA, ↓reduceIte, packB, pureOp, quietOp, loadOp, quietB, fr0, cellsK, implies_true, ite_true, ite_false, eq_self, ne_eq, reduceCtorEq, Nat.reduceLT, Nat.reduceLeDiff, Nat.reduceAdd, Nat.reduceMul, Nat.reduceBEq, Nat.reduceEqDiff, Int.reduceToNat, Int.reduceLT, Int.reduceLE, Nat.reduceSub, pl58, ft1, ft2, ft3, ft22, ft23, ft25, ft53, ft77, ft81, ft83, a1]
    · simp (maxSteps := 4000000) only [↓packA, ↓reduceIte, packB, pureOp, quietOp, loadOp, quietB, fr0, cellsK, implies_true, ite_true, ite_false, eq_self, ne_eq, reduceCtorEq, Nat.reduceLT, Nat.reduceLeDiff, Nat.reduceAdd, Nat.reduceMul, Nat.reduceBEq, Nat.reduceEqDiff, Int.reduceToNat, Int.reduceLT, Int.reduceLE, Nat.reduceSub, pl58, ft1, ft2, ft3, ft22, ft23, ft25, ft53, ft77, ft81, ft83, ints]
    · simp (maxSteps := 4000000) only [↓packA, ↓reduceIte, packB, pureOp, quietOp, loadOp, quietB, fr0, cellsK, implies_true, ite_true, ite_false, eq_self, ne_eq, reduceCtorEq, Nat.reduceLT, Nat.reduceLeDiff, Nat.reduceAdd, Nat.reduceMul, Nat.reduceBEq, Nat.reduceEqDiff, Int.reduceToNat, Int.reduceLT, Int.reduceLE, Nat.reduceSub, pl58, ft1, ft2, ft3, ft22, ft23, ft25, ft53, ft77, ft81, ft83, List.length_map]
    · simp (maxSteps := 4000000) only [↓packA, ↓reduceIte, packB, pureOp, quietOp, loadOp, quietB, fr0, cellsK, implies_true, ite_true, ite_false, eq_self, ne_eq, reduceCtorEq, Nat.reduceLT, Nat.reduceLeDiff, Nat.reduceAdd, Nat.reduceMul, Nat.reduceBEq, Nat.reduceEqDiff, Int.reduceToNat, Int.reduceLT, Int.reduceLE, Nat.reduceSub, pl58, ft1, ft2, ft3, ft22, ft23, ft25, ft53, ft77, ft81, ft83, Int.natCast_zero]
    clear a1 a35 a36 a37 hg w
    rintro x w g ⟨k, rfl, hk, hC, a1, a53, a54, a55, hg⟩
    by_cases c : k < outs.length
    · have r1 : (k : Int) < (outs.length : Int) := by omega
      obtain ⟨r, hr⟩ : ∃ r, outs.length - k = r + 1 := ⟨outs.length - k - 1, by omega⟩
      have hC2 : C = if outs.getD k default < 0 ∨ (ns.length : Int) ≤ outs.getD k default then (((ns.length : Int) + k), 108) else Tp.goO ⟨vars, ns, outs⟩ r := by
        rw [hC, hr]
        show (if outs.getD (outs.length - (r + 1)) default < 0 ∨ (ns.length : Int) ≤ outs.getD (outs.length - (r + 1)) default then ((ns.length : Int) + (outs.length - (r + 1) : Nat), 108) else Tp.goO ⟨vars, ns, outs⟩ r) = _
        rw [show outs.length - (r + 1) = k by omega]
      by_cases c6 : outs.getD k default < 0
      · rw [if_pos (.inl c6)] at hC2
        subst hC2
        simp (maxSteps := 4000000) only [↓packA, ↓reduceIte, packB, pureOp, quietOp, loadOp, quietB, fr0, cellsK, implies_true, ite_true, ite_false, eq_self, ne_eq, reduceCtorEq, Nat.reduceLT, Nat.reduceLeDiff, Nat.reduceAdd, Nat.reduceMul, Nat.reduceBEq, Nat.reduceEqDiff, Int.reduceToNat, Int.reduceLT, Int.reduceLE, Nat.reduceSub, pl58, ft1, ft2, ft3, ft22, ft23, ft25, ft53, ft77, ft81, ft83, a1, a53, a54, a55, r1, ints, hg, c6, List.length_map, Int.cast_ofNat_Int, Int.natCast_zero, Int.natCast_one, Int.reduceAdd, Int.reduceSub, Int.reduceNeg, Int.reduceMul, Int.reduceToNat, Int.reduceLT, Int.reduceLE, Int.reduceEq, Int.reduceBEq, Int.reduceBNe, Nat.reduceSub, Nat.reduceLT, List.getD_cons_zero, List.getD_cons_succ, List.length_singleton, Bool.and_true, Bool.and_false]
        exact ⟨by omega, by omega, by omega, .pure _ rfl⟩
      by_cases c7 : (ns.length : Int) ≤ outs.getD k default
      · rw [if_pos (.inr c7)] at hC2
        subst hC2
        have r7 : outs.getD k default ≥ (ns.length : Int) := c7
        simp (maxSteps := 4000000) only [↓packA, ↓reduceIte, packB, pureOp, quietOp, loadOp, quietB, fr0, cellsK, implies_true, ite_true, ite_false, eq_self, ne_eq, reduceCtorEq, Nat.reduceLT, Nat.reduceLeDiff, Nat.reduceAdd, Nat.reduceMul, Nat.reduceBEq, Nat.reduceEqDiff, Int.reduceToNat, Int.reduceLT, Int.reduceLE, Nat.reduceSub, pl58, ft1, ft2, ft3, ft22, ft23, ft25, ft53, ft77, ft81, ft83, a1, a53, a54, a55, r1, ints, hg, c6, r7, List.length_map, Int.cast_ofNat_Int, Int.natCast_zero, Int.natCast_one, Int.reduceAdd, Int.reduceSub, Int.reduceNeg, Int.reduceMul, Int.reduceToNat, Int.reduceLT, Int.reduceLE, Int.reduceEq, Int.reduceBEq, Int.reduceBNe, Nat.reduceSub, Nat.reduceLT, List.getD_cons_zero, List.getD_cons_succ, List.length_singleton, Bool.and_true, Bool.and_false]
        exact ⟨by omega, by omega, by omega, .pure _ rfl⟩
      have r7 : ¬ outs.getD k default ≥ (ns.length : Int) := c7
      rw [if_neg (by omega)] at hC2
      simp (maxSteps := 4000000) only [↓packA, ↓reduceIte, packB, pureOp, quietOp, loadOp, quietB, fr0, cellsK, implies_true, ite_true, ite_false, eq_self, ne_eq, reduceCtorEq, Nat.reduceLT, Nat.reduceLeDiff, Nat.reduceAdd, Nat.reduceMul, Nat.reduceBEq, Nat.reduceEqDiff, Int.reduceToNat, Int.reduceLT, Int.reduceLE, Nat.reduceSub, pl58, ft1, ft2, ft3, ft22, ft23, ft25, ft53, ft77, ft81, ft83, a1, a53, a54, a55, r1, ints, hg, c6, r7, List.length_map, Int.cast_ofNat_Int, Int.natCast_zero, Int.natCast_one, Int.reduceAdd, Int.reduceSub, Int.reduceNeg, Int.reduceMul, Int.reduceToNat, Int.reduceLT, Int.reduceLE, Int.reduceEq, Int.reduceBEq, Int.reduceBNe, Nat.reduceSub, Nat.reduceLT, List.getD_cons_zero, List.getD_cons_succ, List.length_singleton, Bool.and_true, Bool.and_false]
      exact ⟨by omega, by omega, by omega, .inl ⟨outs.length - (k + 1), by omega, k + 1, rfl, by omega, by rw [hC2]; congr 1; omega, by omega⟩⟩
    · have r1 : ¬ (k : Int) < (outs.length : Int) := by omega
      obtain rfl : k = outs.length := by omega
      rw [Nat.sub_self] at hC
      have hC4 : C = (0, 0) := hC
      subst hC4
      simp (maxSteps := 4000000) only [↓packA, ↓reduceIte, packB, pureOp, quietOp, loadOp, quietB, fr0, cellsK, implies_true, ite_true, ite_false, eq_self, ne_eq, reduceCtorEq, Nat.reduceLT, Nat.reduceLeDiff, Nat.reduceAdd, Nat.reduceMul, Nat.reduceBEq, Nat.reduceEqDiff, Int.reduceToNat, Int.reduceLT, Int.reduceLE, Nat.reduceSub, pl58, ft1, ft2, ft3, ft22, ft23, ft25, ft53, ft77, ft81, ft83, a1, a53, a54, a55, r1, hg, Int.cast_ofNat_Int, Int.natCast_zero, Int.natCast_one, Int.reduceAdd, Int.reduceSub, Int.reduceNeg, Int.reduceMul, Int.reduceToNat, Int.reduceLT, Int.reduceLE, Int.reduceEq, Int.reduceBEq, Int.reduceBNe, Nat.reduceSub, Nat.reduceLT, List.getD_cons_zero, List.getD_cons_succ, List.length_singleton, Bool.and_true, Bool.and_false]
      exact .pure _ rfl
end Go.Proofs.Ytgdlkhgfehclpaa
end

section
/- A tape's first fault, the document's. No condition. -/
namespace Go.Proofs.Ytgdlkhgfehclpaa
open Go Go.AL
set_option linter.unusedVariables false
set_option linter.unusedSimpArgs false
set_option maxHeartbeats 4000000 in
set_option maxRecDepth 100000 in
theorem rcheck_c (t : Tp) (ht : t.Ok) : APure Try.prog 60 [t.V] (.tup [.int .i64 t.check.1, .int .i64 t.check.2]) := by
  refine apure_of (wp60 rfl rfl ?_)
  obtain ⟨C, hC⟩ : ∃ C, C = t.check := ⟨_, rfl⟩
  rw [← hC]
  unfold Tp.check at hC
  obtain ⟨vars, ns, outs⟩ := t
  simp only at hC
  by_cases c1 : vars < 0
  · rw [if_pos (.inl c1)] at hC
    subst hC
    simp (maxSteps := 4000000) only [↓packA, ↓reduceIte, packB, pureOp, quietOp, loadOp, quietB, fr0, cellsK, implies_true, ite_true, ite_false, eq_self, ne_eq, reduceCtorEq, Nat.reduceLT, Nat.reduceLeDiff, Nat.reduceAdd, Nat.reduceMul, Nat.reduceBEq, Nat.reduceEqDiff, Int.reduceToNat, Int.reduceLT, Int.reduceLE, Nat.reduceSub, pl60, ft1, ft2, ft3, ft22, ft23, ft25, ft77, ft81, ft83, Tp.V, ints, c1, Int.cast_ofNat_Int, Int.natCast_zero, Int.natCast_one, Int.reduceAdd, Int.reduceSub, Int.reduceNeg, Int.reduceMul, Int.reduceToNat, Int.reduceLT, Int.reduceLE, Int.reduceEq, Int.reduceBEq, Int.reduceBNe, Nat.reduceSub, Nat.reduceLT, List.getD_cons_zero, List.getD_cons_succ, List.length_singleton, Bool.and_true, Bool.and_false]
    exact .pure _ rfl
  by_cases c2 : 64 < vars
  · rw [if_pos (.inr c2)] at hC
    subst hC
    have r2 : vars > 64 := c2
    simp (maxSteps := 4000000) only [↓packA, ↓reduceIte, packB, pureOp, quietOp, loadOp, quietB, fr0, cellsK, implies_true, ite_true, ite_false, eq_self, ne_eq, reduceCtorEq, Nat.reduceLT, Nat.reduceLeDiff, Nat.reduceAdd, Nat.reduceMul, Nat.reduceBEq, Nat.reduceEqDiff, Int.reduceToNat, Int.reduceLT, Int.reduceLE, Nat.reduceSub, pl60, ft1, ft2, ft3, ft22, ft23, ft25, ft77, ft81, ft83, Tp.V, ints, c1, r2, Int.cast_ofNat_Int, Int.natCast_zero, Int.natCast_one, Int.reduceAdd, Int.reduceSub, Int.reduceNeg, Int.reduceMul, Int.reduceToNat, Int.reduceLT, Int.reduceLE, Int.reduceEq, Int.reduceBEq, Int.reduceBNe, Nat.reduceSub, Nat.reduceLT, List.getD_cons_zero, List.getD_cons_succ, List.length_singleton, Bool.and_true, Bool.and_false]
    exact .pure _ rfl
  have r2 : ¬ vars > 64 := c2
  rw [if_neg (by omega)] at hC
  by_cases c3 : 2048 < ns.length
  · rw [if_pos c3] at hC
    subst hC
    have r3 : (ns.length : Int) > 2048 := by omega
    simp (maxSteps := 4000000) only [↓packA, ↓reduceIte, packB, pureOp, quietOp, loadOp, quietB, fr0, cellsK, implies_true, ite_true, ite_false, eq_self, ne_eq, reduceCtorEq, Nat.reduceLT, Nat.reduceLeDiff, Nat.reduceAdd, Nat.reduceMul, Nat.reduceBEq, Nat.reduceEqDiff, Int.reduceToNat, Int.reduceLT, Int.reduceLE, Nat.reduceSub, pl60, ft1, ft2, ft3, ft22, ft23, ft25, ft77, ft81, ft83, Tp.V, ints, c1, r2, r3, List.length_map, Int.cast_ofNat_Int, Int.natCast_zero, Int.natCast_one, Int.reduceAdd, Int.reduceSub, Int.reduceNeg, Int.reduceMul, Int.reduceToNat, Int.reduceLT, Int.reduceLE, Int.reduceEq, Int.reduceBEq, Int.reduceBNe, Nat.reduceSub, Nat.reduceLT, List.getD_cons_zero, List.getD_cons_succ, List.length_singleton, Bool.and_true, Bool.and_false]
    exact .pure _ rfl
  have r3 : ¬ (ns.length : Int) > 2048 := by omega
  rw [if_neg c3] at hC
  by_cases c4 : outs.length = 0
  · rw [if_pos (.inl c4)] at hC
    subst hC
    have r4 : (outs.length : Int) = 0 := by omega
    simp (maxSteps := 4000000) only [↓packA, ↓reduceIte, packB, pureOp, quietOp, loadOp, quietB, fr0, cellsK, implies_true, ite_true, ite_false, eq_self, ne_eq, reduceCtorEq, Nat.reduceLT, Nat.reduceLeDiff, Nat.reduceAdd, Nat.reduceMul, Nat.reduceBEq, Nat.reduceEqDiff, Int.reduceToNat, Int.reduceLT, Int.reduceLE, Nat.reduceSub, pl60, ft1, ft2, ft3, ft22, ft23, ft25, ft77, ft81, ft83, Tp.V, ints, c1, r2, r3, r4, List.length_map, Int.cast_ofNat_Int, Int.natCast_zero, Int.natCast_one, Int.reduceAdd, Int.reduceSub, Int.reduceNeg, Int.reduceMul, Int.reduceToNat, Int.reduceLT, Int.reduceLE, Int.reduceEq, Int.reduceBEq, Int.reduceBNe, Nat.reduceSub, Nat.reduceLT, List.getD_cons_zero, List.getD_cons_succ, List.length_singleton, Bool.and_true, Bool.and_false]
    exact .pure _ rfl
  have r4 : ¬ (outs.length : Int) = 0 := by omega
  by_cases c5 : 64 < outs.length
  · rw [if_pos (.inr c5)] at hC
    subst hC
    have r5 : (outs.length : Int) > 64 := by omega
    simp (maxSteps := 4000000) only [↓packA, ↓reduceIte, packB, pureOp, quietOp, loadOp, quietB, fr0, cellsK, implies_true, ite_true, ite_false, eq_self, ne_eq, reduceCtorEq, Nat.reduceLT, Nat.reduceLeDiff, Nat.reduceAdd, Nat.reduceMul, Nat.reduceBEq, Nat.reduceEqDiff, Int.reduceToNat, Int.reduceLT, Int.reduceLE, Nat.reduceSub, pl60, ft1, ft2, ft3, ft22, ft23, ft25, ft77, ft81, ft83, Tp.V, ints, c1, r2, r3, r4, r5, List.length_map, Int.cast_ofNat_Int, Int.natCast_zero, Int.natCast_one, Int.reduceAdd, Int.reduceSub, Int.reduceNeg, Int.reduceMul, Int.reduceToNat, Int.reduceLT, Int.reduceLE, Int.reduceEq, Int.reduceBEq, Int.reduceBNe, Nat.reduceSub, Nat.reduceLT, List.getD_cons_zero, List.getD_cons_succ, List.length_singleton, Bool.and_true, Bool.and_false]
    exact .pure _ rfl
  have r5 : ¬ (outs.length : Int) > 64 := by omega
  rw [if_neg (by omega)] at hC
  simp (maxSteps := 4000000) only [↓packA, ↓reduceIte, packB, pureOp, quietOp, loadOp, quietB, fr0, cellsK, implies_true, ite_true, ite_false, eq_self, ne_eq, reduceCtorEq, Nat.reduceLT, Nat.reduceLeDiff, Nat.reduceAdd, Nat.reduceMul, Nat.reduceBEq, Nat.reduceEqDiff, Int.reduceToNat, Int.reduceLT, Int.reduceLE, Nat.reduceSub, pl60, ft1, ft2, ft3, ft22, ft23, ft25, ft77, ft81, ft83, Tp.V, ints, c1, r2, r3, r4, r5, List.length_map, Int.cast_ofNat_Int, Int.natCast_zero, Int.natCast_one, Int.reduceAdd, Int.reduceSub, Int.reduceNeg, Int.reduceMul, Int.reduceToNat, Int.reduceLT, Int.reduceLE, Int.reduceEq, Int.reduceBEq, Int.reduceBNe, Nat.reduceSub, Nat.reduceLT, List.getD_cons_zero, List.getD_cons_succ, List.length_singleton, Bool.and_true, Bool.and_false]
  have hns := ht.ns
  simp only at hns
  refine LoopK.intro (fun x w g => ∃ k : Nat, x = ns.length - k ∧ k ≤ ns.length ∧ C = Tp.goN ⟨vars, ns, outs⟩ (ns.length - k) ∧ w 1 = .op 0 3 0 0 ∧ w 4 = .int .i64 k ∧ g[0]? = some (.arr 3 [[.int .i64 vars, .isl 7 (List.map Nd.cells ns), .isl 1 (List.map intE outs)]] true)) ns.length ⟨0, rfl, by omega, hC, ?_, ?_, rfl⟩ ?_
  · simp (maxSteps := 4000000) only [↓packA, ↓reduceIte, packB, pureOp, quietOp, loadOp, quietB, fr0, cellsK, implies_true, ite_true, ite_false, eq_self, ne_eq, reduceCtorEq, Nat.reduceLT, Nat.reduceLeDiff, Nat.reduceAdd, Nat.reduceMul, Nat.reduceBEq, Nat.reduceEqDiff, Int.reduceToNat, Int.reduceLT, Int.reduceLE, Nat.reduceSub, pl60, ft1, ft2, ft3, ft22, ft23, ft25, ft77, ft81, ft83]
  · simp (maxSteps := 4000000) only [↓packA, ↓reduceIte, packB, pureOp, quietOp, loadOp, quietB, fr0, cellsK, implies_true, ite_true, ite_false, eq_self, ne_eq, reduceCtorEq, Nat.reduceLT, Nat.reduceLeDiff, Nat.reduceAdd, Nat.reduceMul, Nat.reduceBEq, Nat.reduceEqDiff, Int.reduceToNat, Int.reduceLT, Int.reduceLE, Nat.reduceSub, pl60, ft1, ft2, ft3, ft22, ft23, ft25, ft77, ft81, ft83, Int.natCast_zero]
  rintro x w g ⟨k, rfl, hk, hC, a1, a4, hg⟩
  by_cases c : k < ns.length
  · have r1 : (k : Int) < (ns.length : Int) := by omega
    obtain ⟨n, hn⟩ : ∃ n, n = ns.getD k default := ⟨_, rfl⟩
    have hnk : ns[k]? = some n := by rw [hn, List.getD_eq_getElem?_getD, List.getElem?_eq_getElem c]; rfl
    have rk : (List.map Nd.cells ns)[k]? = some (Nd.cells n) := by rw [List.getElem?_map, hnk]; rfl
    have hnok : n.Ok := hns n (List.mem_of_getElem? hnk)
    have hp := rnode_c n hnok vars k
    obtain ⟨r, hr⟩ : ∃ r, ns.length - k = r + 1 := ⟨ns.length - k - 1, by omega⟩
    have hC2 : C = if n.wrong vars k ≠ 0 then ((k : Int), n.wrong vars k) else Tp.goN ⟨vars, ns, outs⟩ r := by
      rw [hC, hr]
      show (if (ns.getD (ns.length - (r + 1)) default).wrong vars (ns.length - (r + 1) : Nat) ≠ 0 then (((ns.length - (r + 1) : Nat) : Int), (ns.getD (ns.length - (r + 1)) default).wrong vars (ns.length - (r + 1) : Nat)) else Tp.goN ⟨vars, ns, outs⟩ r) = _
      rw [show ns.length - (r + 1) = k by omega, ← hn]
    obtain ⟨M, hM⟩ : ∃ M, g.length = M := ⟨_, rfl⟩
    have rM : ∀ o, (g ++ [o])[M]? = some o := fun o => by rw [List.getElem?_append_right (by omega)]; simp [hM]
    have sM : ∀ o o', (g ++ [o]).set M o' = g ++ [o'] := fun o o' => by rw [List.set_append_right _ _ (by omega)]; simp [hM]
    have rg : ∀ o, (g ++ [o])[0]? = some (.arr 3 [[.int .i64 vars, .isl 7 (List.map Nd.cells ns), .isl 1 (List.map intE outs)]] true) := fun o => by rw [List.getElem?_append_left (List.getElem?_eq_some_iff.1 hg).1]; exact hg
    simp (maxSteps := 4000000) only [↓packA, ↓reduceIte, packB, pureOp, quietOp, loadOp, quietB, fr0, cellsK, implies_true, ite_true, ite_false, eq_self, ne_eq, reduceCtorEq, Nat.reduceLT, Nat.reduceLeDiff, Nat.reduceAdd, Nat.reduceMul, Nat.reduceBEq, Nat.reduceEqDiff, Int.reduceToNat, Int.reduceLT, Int.reduceLE, Nat.reduceSub, pl60, ft1, ft2, ft3, ft22, ft23, ft25, ft77, ft81, ft83, a1, a4, r1, List.length_map, rk, hM, rM, sM, rg, hg, Nd.cells, Int.cast_ofNat_Int, Int.natCast_zero, Int.natCast_one, Int.reduceAdd, Int.reduceSub, Int.reduceNeg, Int.reduceMul, Int.reduceToNat, Int.reduceLT, Int.reduceLE, Int.reduceEq, Int.reduceBEq, Int.reduceBNe, Nat.reduceSub, Nat.reduceLT, List.getD_cons_zero, List.getD_cons_succ, List.length_singleton, Bool.and_true, Bool.and_false]
    refine ⟨by omega, acalls_pure hp rfl ?_⟩
    by_cases cw : n.wrong vars k = 0
    · rw [if_neg (by omega)] at hC2
      rw [cw]
      simp (maxSteps := 4000000) only [↓packA, ↓reduceIte, packB, pureOp, quietOp, loadOp, quietB, fr0, cellsK, implies_true, ite_true, ite_false, eq_self, ne_eq, reduceCtorEq, Nat.reduceLT, Nat.reduceLeDiff, Nat.reduceAdd, Nat.reduceMul, Nat.reduceBEq, Nat.reduceEqDiff, Int.reduceToNat, Int.reduceLT, Int.reduceLE, Nat.reduceSub, pl60, ft1, ft2, ft3, ft22, ft23, ft25, ft77, ft81, ft83, a1, a4, r1, List.length_map, rk, hM, rM, sM, rg, hg, Nd.cells, Int.cast_ofNat_Int, Int.natCast_zero, Int.natCast_one, Int.reduceAdd, Int.reduceSub, Int.reduceNeg, Int.reduceMul, Int.reduceToNat, Int.reduceLT, Int.reduceLE, Int.reduceEq, Int.reduceBEq, Int.reduceBNe, Nat.reduceSub, Nat.reduceLT, List.getD_cons_zero, List.getD_cons_succ, List.length_singleton, Bool.and_true, Bool.and_false]
      exact ⟨by omega, .inl ⟨ns.length - (k + 1), by omega, k + 1, rfl, by omega, by rw [hC2]; congr 1; omega, by omega⟩⟩
    · rw [if_pos cw] at hC2
      subst hC2
      simp (maxSteps := 4000000) only [↓packA, ↓reduceIte, packB, pureOp, quietOp, loadOp, quietB, fr0, cellsK, implies_true, ite_true, ite_false, eq_self, ne_eq, reduceCtorEq, Nat.reduceLT, Nat.reduceLeDiff, Nat.reduceAdd, Nat.reduceMul, Nat.reduceBEq, Nat.reduceEqDiff, Int.reduceToNat, Int.reduceLT, Int.reduceLE, Nat.reduceSub, pl60, ft1, ft2, ft3, ft22, ft23, ft25, ft77, ft81, ft83, a1, a4, r1, List.length_map, rk, hM, rM, sM, rg, hg, cw, Nd.cells, Int.cast_ofNat_Int, Int.natCast_zero, Int.natCast_one, Int.reduceAdd, Int.reduceSub, Int.reduceNeg, Int.reduceMul, Int.reduceToNat, Int.reduceLT, Int.reduceLE, Int.reduceEq, Int.reduceBEq, Int.reduceBNe, Nat.reduceSub, Nat.reduceLT, List.getD_cons_zero, List.getD_cons_succ, List.length_singleton, Bool.and_true, Bool.and_false]
      exact .pure _ rfl
  · have r1 : ¬ (k : Int) < (ns.length : Int) := by omega
    obtain rfl : k = ns.length := by omega
    simp (maxSteps := 4000000) only [↓packA, ↓reduceIte, packB, pureOp, quietOp, loadOp, quietB, fr0, cellsK, implies_true, ite_true, ite_false, eq_self, ne_eq, reduceCtorEq, Nat.reduceLT, Nat.reduceLeDiff, Nat.reduceAdd, Nat.reduceMul, Nat.reduceBEq, Nat.reduceEqDiff, Int.reduceToNat, Int.reduceLT, Int.reduceLE, Nat.reduceSub, pl60, ft1, ft2, ft3, ft22, ft23, ft25, ft77, ft81, ft83, a1, a4, r1, List.length_map, hg, Int.cast_ofNat_Int, Int.natCast_zero, Int.natCast_one, Int.reduceAdd, Int.reduceSub, Int.reduceNeg, Int.reduceMul, Int.reduceToNat, Int.reduceLT, Int.reduceLE, Int.reduceEq, Int.reduceBEq, Int.reduceBNe, Nat.reduceSub, Nat.reduceLT, List.getD_cons_zero, List.getD_cons_succ, List.length_singleton, Bool.and_true, Bool.and_false]
    rw [Nat.sub_self] at hC
    have hC3 : C = Tp.goO ⟨vars, ns, outs⟩ outs.length := hC
    clear hC
    refine LoopK.intro (fun x w g => ∃ k : Nat, x = outs.length - k ∧ k ≤ outs.length ∧ C = Tp.goO ⟨vars, ns, outs⟩ (outs.length - k) ∧ w 1 = .op 0 3 0 0 ∧ w 6 = .int .i64 k ∧ g[0]? = some (.arr 3 [[.int .i64 vars, .isl 7 (List.map Nd.cells ns), .isl 1 (List.map intE outs)]] true)) outs.length ⟨0, rfl, by omega, hC3, ?_, ?_, hg⟩ ?_
    · simp (maxSteps := 4000000) only [↓packA, ↓reduceIte, packB, pureOp, quietOp, loadOp, quietB, fr0, cellsK, implies_true, ite_true, ite_false, eq_self, ne_eq, reduceCtorEq, Nat.reduceLT, Nat.reduceLeDiff, Nat.reduceAdd, Nat.reduceMul, Nat.reduceBEq, Nat.reduceEqDiff, Int.reduceToNat, Int.reduceLT, Int.reduceLE, Nat.reduceSub, pl60, ft1, ft2, ft3, ft22, ft23, ft25, ft77, ft81, ft83, a1]
    · simp (maxSteps := 4000000) only [↓packA, ↓reduceIte, packB, pureOp, quietOp, loadOp, quietB, fr0, cellsK, implies_true, ite_true, ite_false, eq_self, ne_eq, reduceCtorEq, Nat.reduceLT, Nat.reduceLeDiff, Nat.reduceAdd, Nat.reduceMul, Nat.reduceBEq, Nat.reduceEqDiff, Int.reduceToNat, Int.reduceLT, Int.reduceLE, Nat.reduceSub, pl60, ft1, ft2, ft3, ft22, ft23, ft25, ft77, ft81, ft83, Int.natCast_zero]
    clear a1 a4 hg w
    rintro x w g ⟨k, rfl, hk, hC, a1, a6, hg⟩
    by_cases c : k < outs.length
    · have r1 : (k : Int) < (outs.length : Int) := by omega
      obtain ⟨r, hr⟩ : ∃ r, outs.length - k = r + 1 := ⟨outs.length - k - 1, by omega⟩
      have hC2 : C = if outs.getD k default < 0 ∨ (ns.length : Int) ≤ outs.getD k default then (((ns.length : Int) + k), 108) else Tp.goO ⟨vars, ns, outs⟩ r := by
        rw [hC, hr]
        show (if outs.getD (outs.length - (r + 1)) default < 0 ∨ (ns.length : Int) ≤ outs.getD (outs.length - (r + 1)) default then ((ns.length : Int) + (outs.length - (r + 1) : Nat), 108) else Tp.goO ⟨vars, ns, outs⟩ r) = _
        rw [show outs.length - (r + 1) = k by omega]
      by_cases c6 : outs.getD k default < 0
      · rw [if_pos (.inl c6)] at hC2
        subst hC2
        simp (maxSteps := 4000000) only [↓packA, ↓reduceIte, packB, pureOp, quietOp, loadOp, quietB, fr0, cellsK, implies_true, ite_true, ite_false, eq_self, ne_eq, reduceCtorEq, Nat.reduceLT, Nat.reduceLeDiff, Nat.reduceAdd, Nat.reduceMul, Nat.reduceBEq, Nat.reduceEqDiff, Int.reduceToNat, Int.reduceLT, Int.reduceLE, Nat.reduceSub, pl60, ft1, ft2, ft3, ft22, ft23, ft25, ft77, ft81, ft83, a1, a6, r1, ints, hg, c6, List.length_map, Int.cast_ofNat_Int, Int.natCast_zero, Int.natCast_one, Int.reduceAdd, Int.reduceSub, Int.reduceNeg, Int.reduceMul, Int.reduceToNat, Int.reduceLT, Int.reduceLE, Int.reduceEq, Int.reduceBEq, Int.reduceBNe, Nat.reduceSub, Nat.reduceLT, List.getD_cons_zero, List.getD_cons_succ, List.length_singleton, Bool.and_true, Bool.and_false]
        exact ⟨by omega, by omega, by omega, .pure _ rfl⟩
      by_cases c7 : (ns.length : Int) ≤ outs.getD k default
      · rw [if_pos (.inr c7)] at hC2
        subst hC2
        have r7 : outs.getD k default ≥ (ns.length : Int) := c7
        simp (maxSteps := 4000000) only [↓packA, ↓reduceIte, packB, pureOp, quietOp, loadOp, quietB, fr0, cellsK, implies_true, ite_true, ite_false, eq_self, ne_eq, reduceCtorEq, Nat.reduceLT, Nat.reduceLeDiff, Nat.reduceAdd, Nat.reduceMul, Nat.reduceBEq, Nat.reduceEqDiff, Int.reduceToNat, Int.reduceLT, Int.reduceLE, Nat.reduceSub, pl60, ft1, ft2, ft3, ft22, ft23, ft25, ft77, ft81, ft83, a1, a6, r1, ints, hg, c6, r7, List.length_map, Int.cast_ofNat_Int, Int.natCast_zero, Int.natCast_one, Int.reduceAdd, Int.reduceSub, Int.reduceNeg, Int.reduceMul, Int.reduceToNat, Int.reduceLT, Int.reduceLE, Int.reduceEq, Int.reduceBEq, Int.reduceBNe, Nat.reduceSub, Nat.reduceLT, List.getD_cons_zero, List.getD_cons_succ, List.length_singleton, Bool.and_true, Bool.and_false]
        exact ⟨by omega, by omega, by omega, by omega, by omega, .pure _ rfl⟩
      have r7 : ¬ outs.getD k default ≥ (ns.length : Int) := c7
      rw [if_neg (by omega)] at hC2
      simp (maxSteps := 4000000) only [↓packA, ↓reduceIte, packB, pureOp, quietOp, loadOp, quietB, fr0, cellsK, implies_true, ite_true, ite_false, eq_self, ne_eq, reduceCtorEq, Nat.reduceLT, Nat.reduceLeDiff, Nat.reduceAdd, Nat.reduceMul, Nat.reduceBEq, Nat.reduceEqDiff, Int.reduceToNat, Int.reduceLT, Int.reduceLE, Nat.reduceSub, pl60, ft1, ft2, ft3, ft22, ft23, ft25, ft77, ft81, ft83, a1, a6, r1, ints, hg, c6, r7, List.length_map, Int.cast_ofNat_Int, Int.natCast_zero, Int.natCast_one, Int.reduceAdd, Int.reduceSub, Int.reduceNeg, Int.reduceMul, Int.reduceToNat, Int.reduceLT, Int.reduceLE, Int.reduceEq, Int.reduceBEq, Int.reduceBNe, Nat.reduceSub, Nat.reduceLT, List.getD_cons_zero, List.getD_cons_succ, List.length_singleton, Bool.and_true, Bool.and_false]
      exact ⟨by omega, by omega, by omega, by omega, by omega, .inl ⟨outs.length - (k + 1), by omega, k + 1, rfl, by omega, by rw [hC2]; congr 1; omega, by omega⟩⟩
    · have r1 : ¬ (k : Int) < (outs.length : Int) := by omega
      obtain rfl : k = outs.length := by omega
      rw [Nat.sub_self] at hC
      have hC4 : C = (0, 0) := hC
      subst hC4
      simp (maxSteps := 4000000) only [↓packA, ↓reduceIte, packB, pureOp, quietOp, loadOp, quietB, fr0, cellsK, implies_true, ite_true, ite_false, eq_self, ne_eq, reduceCtorEq, Nat.reduceLT, Nat.reduceLeDiff, Nat.reduceAdd, Nat.reduceMul, Nat.reduceBEq, Nat.reduceEqDiff, Int.reduceToNat, Int.reduceLT, Int.reduceLE, Nat.reduceSub, pl60, ft1, ft2, ft3, ft22, ft23, ft25, ft77, ft81, ft83, a1, a6, r1, hg, Int.cast_ofNat_Int, Int.natCast_zero, Int.natCast_one, Int.reduceAdd, Int.reduceSub, Int.reduceNeg, Int.reduceMul, Int.reduceToNat, Int.reduceLT, Int.reduceLE, Int.reduceEq, Int.reduceBEq, Int.reduceBNe, Nat.reduceSub, Nat.reduceLT, List.getD_cons_zero, List.getD_cons_succ, List.length_singleton, Bool.and_true, Bool.and_false]
      exact .pure _ rfl
end Go.Proofs.Ytgdlkhgfehclpaa
end

section
/- Copies of rationals, both. No condition. -/
namespace Go.Proofs.Ytgdlkhgfehclpaa
open Go Go.AL
set_option linter.unusedVariables false
set_option linter.unusedSimpArgs false
theorem ofz_pre {h : Heap} {id cap : Nat} {ex ex' : Bool} {l t : List Int} (hid : h[id]? = some (.arr 1 (List.map u32E (l ++ t)) ex')) : OFz h (.osl id 1 0 l.length cap ex) (.isl 1 (List.map u32E l)) := by
  have := ofz_lims (h := h) (id := id) (len := l.length) (cap := cap) (ex := ex) hid (Nat.le_refl _) (by rw [List.length_append]; omega)
  rw [List.take_left] at this
  exact this
theorem ext_getD {a b : List Int} (hl : a.length = b.length) (h : ∀ i, a.getD i default = b.getD i default) : a = b := by
  apply List.ext_getElem hl
  intro i h1 h2
  have := h i
  rw [List.getD_eq_getElem?_getD, List.getD_eq_getElem?_getD, List.getElem?_eq_getElem h1, List.getElem?_eq_getElem h2] at this
  exact this
theorem ofz_agg3 {h : Heap} {u v t u' v' t' : AV} (h1 : OFz h u u') (h2 : OFz h v v') (h3 : OFz h t t') : OFz h (.agg [u, v, t]) (.agg [u', v', t']) := by
  refine .agg _ _ rfl fun q x x' hx hx' => ?_
  match q with
  | 0 => simp at hx hx'; subst hx hx'; exact h1
  | 1 => simp at hx hx'; subst hx hx'; exact h2
  | 2 => simp at hx hx'; subst hx hx'; exact h3
  | q + 3 => simp at hx
theorem ofz_all {h : Heap} {id cap : Nat} {ex ex' : Bool} {es : List Int} {n : Nat} (hn : n = es.length) (hid : h[id]? = some (.arr 1 (List.map u32E es) ex')) : OFz h (.osl id 1 0 n cap ex) (.isl 1 (List.map u32E es)) := by
  have := ofz_lims (h := h) (id := id) (len := n) (cap := cap) (ex := ex) hid (Nat.le_refl _) (by omega)
  rw [hn, List.take_length] at this
  rw [hn]
  exact this
set_option maxHeartbeats 4000000 in
set_option maxRecDepth 100000 in
theorem own_c (neg : Bool) (num den : List Int) (hn : num.length < 100000000) (hd : den.length < 100000000) : ACalls Try.prog 59 [ratV neg num den] [] fun v h => OFz h v (ratV neg num den) := by
  refine wp59 rfl rfl ?_
  have eN : ∀ (K : AV → Heap → Prop) (h : Heap), apK [AV.int IntKind.u32 0] 4 h AV.nils [] K = K .nils h := fun K h => by simp [apK]
  cases num with
  | nil =>
    cases den with
    | nil =>
      simp (maxSteps := 4000000) only [↓packA, ↓reduceIte, packB, pureOp, quietOp, loadOp, quietB, fr0, cellsK, implies_true, ite_true, ite_false, eq_self, ne_eq, reduceCtorEq, Nat.reduceLT, Nat.reduceLeDiff, Nat.reduceAdd, Nat.reduceMul, Nat.reduceBEq, Nat.reduceEqDiff, Int.reduceToNat, Int.reduceLT, Int.reduceLE, Nat.reduceSub, pl59, ft1, ft2, ft4, ft79, ft81, ft115, ratV, lims, eN, List.map_nil, patch, patch', Int.cast_ofNat_Int, Int.natCast_zero, Int.natCast_one, Int.reduceAdd, Int.reduceSub, Int.reduceNeg, Int.reduceMul, Int.reduceToNat, Int.reduceLT, Int.reduceLE, Int.reduceEq, Int.reduceBEq, Int.reduceBNe, Nat.reduceSub, Nat.reduceLT, List.getD_cons_zero, List.getD_cons_succ, List.length_singleton, Bool.and_true, Bool.and_false]
      exact ofz_agg3 (.flat _ rfl) (.nils 1) (.nils 1)
    | cons z zs =>
      have lz : (List.map u32E zs).length = zs.length := List.length_map ..
      simp (maxSteps := 4000000) only [↓packA, ↓reduceIte, packB, pureOp, quietOp, loadOp, quietB, fr0, cellsK, implies_true, ite_true, ite_false, eq_self, ne_eq, reduceCtorEq, Nat.reduceLT, Nat.reduceLeDiff, Nat.reduceAdd, Nat.reduceMul, Nat.reduceBEq, Nat.reduceEqDiff, Int.reduceToNat, Int.reduceLT, Int.reduceLE, Nat.reduceSub, pl59, ft1, ft2, ft4, ft79, ft81, ft115, ratV, lims, eN, lz, List.map_nil, List.map_cons, patch, patch', Int.cast_ofNat_Int, Int.natCast_zero, Int.natCast_one, Int.reduceAdd, Int.reduceSub, Int.reduceNeg, Int.reduceMul, Int.reduceToNat, Int.reduceLT, Int.reduceLE, Int.reduceEq, Int.reduceBEq, Int.reduceBNe, Nat.reduceSub, Nat.reduceLT, List.getD_cons_zero, List.getD_cons_succ, List.length_singleton, Bool.and_true, Bool.and_false]
      refine ⟨by simp at hd; omega, ofz_agg3 (.flat _ rfl) (.nils 1) (ofz_all (es := z :: zs) rfl rfl)⟩
  | cons y ys =>
    have ly : (List.map u32E ys).length = ys.length := List.length_map ..
    cases den with
    | nil =>
      simp (maxSteps := 4000000) only [↓packA, ↓reduceIte, packB, pureOp, quietOp, loadOp, quietB, fr0, cellsK, implies_true, ite_true, ite_false, eq_self, ne_eq, reduceCtorEq, Nat.reduceLT, Nat.reduceLeDiff, Nat.reduceAdd, Nat.reduceMul, Nat.reduceBEq, Nat.reduceEqDiff, Int.reduceToNat, Int.reduceLT, Int.reduceLE, Nat.reduceSub, pl59, ft1, ft2, ft4, ft79, ft81, ft115, ratV, lims, eN, ly, List.map_nil, List.map_cons, patch, patch', Int.cast_ofNat_Int, Int.natCast_zero, Int.natCast_one, Int.reduceAdd, Int.reduceSub, Int.reduceNeg, Int.reduceMul, Int.reduceToNat, Int.reduceLT, Int.reduceLE, Int.reduceEq, Int.reduceBEq, Int.reduceBNe, Nat.reduceSub, Nat.reduceLT, List.getD_cons_zero, List.getD_cons_succ, List.length_singleton, Bool.and_true, Bool.and_false]
      refine ⟨by simp at hn; omega, ofz_agg3 (.flat _ rfl) (ofz_all (es := y :: ys) rfl rfl) (.nils 1)⟩
    | cons z zs =>
      have lz : (List.map u32E zs).length = zs.length := List.length_map ..
      simp (maxSteps := 4000000) only [↓packA, ↓reduceIte, packB, pureOp, quietOp, loadOp, quietB, fr0, cellsK, implies_true, ite_true, ite_false, eq_self, ne_eq, reduceCtorEq, Nat.reduceLT, Nat.reduceLeDiff, Nat.reduceAdd, Nat.reduceMul, Nat.reduceBEq, Nat.reduceEqDiff, Int.reduceToNat, Int.reduceLT, Int.reduceLE, Nat.reduceSub, pl59, ft1, ft2, ft4, ft79, ft81, ft115, ratV, lims, eN, ly, lz, List.map_nil, List.map_cons, patch, patch', Int.cast_ofNat_Int, Int.natCast_zero, Int.natCast_one, Int.reduceAdd, Int.reduceSub, Int.reduceNeg, Int.reduceMul, Int.reduceToNat, Int.reduceLT, Int.reduceLE, Int.reduceEq, Int.reduceBEq, Int.reduceBNe, Nat.reduceSub, Nat.reduceLT, List.getD_cons_zero, List.getD_cons_succ, List.length_singleton, Bool.and_true, Bool.and_false]
      refine ⟨by simp at hn; omega, by simp at hd; omega, ofz_agg3 (.flat _ rfl) (ofz_all (es := y :: ys) rfl rfl) (ofz_all (es := z :: zs) rfl rfl)⟩
set_option maxHeartbeats 4000000 in
set_option maxRecDepth 100000 in
theorem copyNat_o (l : List Int) (hL : LI l) (hl : l.length < 100000000) {h : Heap} {Q : AV → Heap → Prop} (hq : Q (.osl h.length 1 0 l.length (l.length + 3) true) (h ++ [.arr 1 (List.map u32E (l ++ [0, 0, 0])) true])) : ACalls Try.prog 90 [lims l] h Q := by
  refine wp90 rfl rfl ?_
  obtain ⟨M, hM⟩ : ∃ M, h.length = M := ⟨_, rfl⟩
  have rM : ∀ o, (h ++ [o])[M]? = some o := fun o => by rw [List.getElem?_append_right (by omega)]; simp [hM]
  have sM : ∀ o o', (h ++ [o]).set M o' = h ++ [o'] := fun o o' => by rw [List.set_append_right _ _ (by omega)]; simp [hM]
  have en : (l.length : Int) + 3 = ((l.length + 3 : Nat) : Int) := by omega
  simp (maxSteps := 4000000) only [↓packA, ↓reduceIte, packB, pureOp, quietOp, loadOp, quietB, fr0, cellsK, implies_true, ite_true, ite_false, eq_self, ne_eq, reduceCtorEq, Nat.reduceLT, Nat.reduceLeDiff, Nat.reduceAdd, Nat.reduceMul, Nat.reduceBEq, Nat.reduceEqDiff, Int.reduceToNat, Int.reduceLT, Int.reduceLE, Nat.reduceSub, pl90, ft3, ft78, ft79, ft115, lims, limR, hM, rM, en]
  refine ⟨by omega, by omega, ?_⟩
  refine LoopK.intro (fun x w g => ∃ (k : Nat) (es : List Int), x = l.length - k ∧ k ≤ l.length ∧ es.length = l.length + 3 ∧ (∀ i, i < k → es.getD i default = l.getD i default) ∧ (∀ i, k ≤ i → es.getD i default = 0) ∧ w 0 = lims l ∧ w 3 = .osl M 1 0 l.length (l.length + 3) true ∧ w 4 = .int .i64 k ∧ g = h ++ [.arr 1 (List.map u32E es) true]) l.length ⟨0, List.replicate (l.length + 3) 0, rfl, by omega, by simp, fun i hi => by omega, fun i _ => ?_, ?_, ?_, ?_, ?_⟩ ?_
  · rw [List.getD_eq_getElem?_getD, List.getElem?_replicate]; split <;> rfl
  · simp (maxSteps := 4000000) only [↓packA, ↓reduceIte, packB, pureOp, quietOp, loadOp, quietB, fr0, cellsK, implies_true, ite_true, ite_false, eq_self, ne_eq, reduceCtorEq, Nat.reduceLT, Nat.reduceLeDiff, Nat.reduceAdd, Nat.reduceMul, Nat.reduceBEq, Nat.reduceEqDiff, Int.reduceToNat, Int.reduceLT, Int.reduceLE, Nat.reduceSub, pl90, ft3, ft78, ft79, ft115, lims]
  · simp (maxSteps := 4000000) only [↓packA, ↓reduceIte, packB, pureOp, quietOp, loadOp, quietB, fr0, cellsK, implies_true, ite_true, ite_false, eq_self, ne_eq, reduceCtorEq, Nat.reduceLT, Nat.reduceLeDiff, Nat.reduceAdd, Nat.reduceMul, Nat.reduceBEq, Nat.reduceEqDiff, Int.reduceToNat, Int.reduceLT, Int.reduceLE, Nat.reduceSub, pl90, ft3, ft78, ft79, ft115]
  · simp (maxSteps := 4000000) only [↓packA, ↓reduceIte, packB, pureOp, quietOp, loadOp, quietB, fr0, cellsK, implies_true, ite_true, ite_false, eq_self, ne_eq, reduceCtorEq, Nat.reduceLT, Nat.reduceLeDiff, Nat.reduceAdd, Nat.reduceMul, Nat.reduceBEq, Nat.reduceEqDiff, Int.reduceToNat, Int.reduceLT, Int.reduceLE, Nat.reduceSub, pl90, ft3, ft78, ft79, ft115, Int.natCast_zero]
  · simp (maxSteps := 4000000) only [↓packA, ↓reduceIte, packB, pureOp, quietOp, loadOp, quietB, fr0, cellsK, implies_true, ite_true, ite_false, eq_self, ne_eq, reduceCtorEq, Nat.reduceLT, Nat.reduceLeDiff, Nat.reduceAdd, Nat.reduceMul, Nat.reduceBEq, Nat.reduceEqDiff, Int.reduceToNat, Int.reduceLT, Int.reduceLE, Nat.reduceSub, pl90, ft3, ft78, ft79, ft115]
  rintro x w g ⟨k, es, rfl, hk, hes, hs1, hs0, a0, a3, a4, rfl⟩
  by_cases c : k < l.length
  · have r1 : (k : Int) < (l.length : Int) := by omega
    simp (maxSteps := 4000000) only [↓packA, ↓reduceIte, packB, pureOp, quietOp, loadOp, quietB, fr0, cellsK, implies_true, ite_true, ite_false, eq_self, ne_eq, reduceCtorEq, Nat.reduceLT, Nat.reduceLeDiff, Nat.reduceAdd, Nat.reduceMul, Nat.reduceBEq, Nat.reduceEqDiff, Int.reduceToNat, Int.reduceLT, Int.reduceLE, Nat.reduceSub, pl90, ft3, ft78, ft79, ft115, lims, limR, hM, rM, sM, a0, a3, a4, r1]
    refine ⟨by omega, by omega, by omega, by omega, by omega, .inl ⟨l.length - (k + 1), by omega, k + 1, es.set k (l.getD k default), rfl, by omega, by rw [List.length_set]; exact hes, fun i hi => ?_, fun i hi => by rw [getD_setN (by omega)]; exact hs0 i (by omega), by omega, rfl⟩⟩
    by_cases ci : i = k
    · subst ci
      rw [getD_setI (by omega)]
    · rw [getD_setN (by omega)]
      exact hs1 i (by omega)
  · have r1 : ¬ (k : Int) < (l.length : Int) := by omega
    obtain rfl : k = l.length := by omega
    simp (maxSteps := 4000000) only [↓packA, ↓reduceIte, packB, pureOp, quietOp, loadOp, quietB, fr0, cellsK, implies_true, ite_true, ite_false, eq_self, ne_eq, reduceCtorEq, Nat.reduceLT, Nat.reduceLeDiff, Nat.reduceAdd, Nat.reduceMul, Nat.reduceBEq, Nat.reduceEqDiff, Int.reduceToNat, Int.reduceLT, Int.reduceLE, Nat.reduceSub, pl90, ft3, ft78, ft79, ft115, lims, limR, hM, rM, sM, a0, a3, a4, r1]
    have e : es = l ++ [0, 0, 0] := by
      apply ext_getD (by rw [hes, List.length_append]; rfl)
      intro i
      by_cases ci : i < l.length
      · rw [hs1 i ci, List.getD_eq_getElem?_getD, List.getD_eq_getElem?_getD, List.getElem?_append_left ci]
      · rw [hs0 i (by omega), List.getD_eq_getElem?_getD, List.getElem?_append_right (by omega)]
        match i - l.length with
        | 0 => rfl
        | 1 => rfl
        | 2 => rfl
        | q + 3 => rfl
    rw [e, ← hM]
    exact hq
set_option maxHeartbeats 4000000 in
set_option maxRecDepth 100000 in
theorem copyRat_c (neg : Bool) (num den : List Int) (hnL : LI num) (hdL : LI den) (hn : num.length < 100000000) (hd : den.length < 100000000) : ACalls Try.prog 61 [ratV neg num den] [] fun v h => OFz h v (ratV neg num den) := by
  refine wp61 rfl rfl ?_
  simp (maxSteps := 4000000) only [↓packA, ↓reduceIte, packB, pureOp, quietOp, loadOp, quietB, fr0, cellsK, implies_true, ite_true, ite_false, eq_self, ne_eq, reduceCtorEq, Nat.reduceLT, Nat.reduceLeDiff, Nat.reduceAdd, Nat.reduceMul, Nat.reduceBEq, Nat.reduceEqDiff, Int.reduceToNat, Int.reduceLT, Int.reduceLE, Nat.reduceSub, pl61, ft1, ft2, ft4, ft79, ft81, ft115, ratV, lims]
  refine copyNat_o num hnL hn ?_
  simp (maxSteps := 4000000) only [↓packA, ↓reduceIte, packB, pureOp, quietOp, loadOp, quietB, fr0, cellsK, implies_true, ite_true, ite_false, eq_self, ne_eq, reduceCtorEq, Nat.reduceLT, Nat.reduceLeDiff, Nat.reduceAdd, Nat.reduceMul, Nat.reduceBEq, Nat.reduceEqDiff, Int.reduceToNat, Int.reduceLT, Int.reduceLE, Nat.reduceSub, pl61, ft1, ft2, ft4, ft79, ft81, ft115, ratV, lims]
  refine copyNat_o den hdL hd ?_
  simp (maxSteps := 4000000) only [↓packA, ↓reduceIte, packB, pureOp, quietOp, loadOp, quietB, fr0, cellsK, implies_true, ite_true, ite_false, eq_self, ne_eq, reduceCtorEq, Nat.reduceLT, Nat.reduceLeDiff, Nat.reduceAdd, Nat.reduceMul, Nat.reduceBEq, Nat.reduceEqDiff, Int.reduceToNat, Int.reduceLT, Int.reduceLE, Nat.reduceSub, pl61, ft1, ft2, ft4, ft79, ft81, ft115, ratV, lims, patch, patch', Int.cast_ofNat_Int, Int.natCast_zero, Int.natCast_one, Int.reduceAdd, Int.reduceSub, Int.reduceNeg, Int.reduceMul, Int.reduceToNat, Int.reduceLT, Int.reduceLE, Int.reduceEq, Int.reduceBEq, Int.reduceBNe, Nat.reduceSub, Nat.reduceLT, List.getD_cons_zero, List.getD_cons_succ, List.length_singleton, Bool.and_true, Bool.and_false]
  exact ofz_agg3 (.flat _ rfl) (ofz_pre (t := [0, 0, 0]) rfl) (ofz_pre (t := [0, 0, 0]) rfl)
end Go.Proofs.Ytgdlkhgfehclpaa
end

section
namespace Go.Proofs.Ytgdlkhgfehclpaa
open Go Go.AL
set_option linter.unusedVariables false
set_option linter.unusedSimpArgs false
theorem take_set {xs : List Int} {k m m' : Nat} {z : Int} (hk : k < xs.length) (hm : m = m' + 1) : (List.take k xs ++ List.replicate m z).set k (xs.getD k default) = List.take (k + 1) xs ++ List.replicate m' z := by
  subst hm
  apply List.ext_getElem?
  intro i
  rw [List.getElem?_set]
  simp only [List.length_append, List.length_take, List.length_replicate, List.getD_eq_getElem?_getD, List.getElem?_eq_getElem hk, Option.getD_some]
  by_cases h1 : k = i
  · subst h1
    rw [if_pos rfl, if_pos (by omega), List.getElem?_append_left (by simp; omega), List.getElem?_take_of_lt (by omega), List.getElem?_eq_getElem hk]
  · rw [if_neg h1]
    by_cases h2 : i < k
    · rw [List.getElem?_append_left (by simp; omega), List.getElem?_append_left (by simp; omega), List.getElem?_take_of_lt h2, List.getElem?_take_of_lt (by omega)]
    · rw [List.getElem?_append_right (by simp; omega), List.getElem?_append_right (by simp; omega), List.getElem?_replicate, List.getElem?_replicate]
      simp only [List.length_take]
      have e : (i - min k xs.length < m' + 1) ↔ (i - min (k + 1) xs.length < m') := by omega
      by_cases h3 : i - min k xs.length < m' + 1
      · rw [if_pos h3, if_pos (e.1 h3)]
      · rw [if_neg h3, if_neg (fun h => h3 (e.2 h))]
theorem list_ext_getD {xs ys : List Int} (hl : xs.length = ys.length) (h : ∀ j, j < xs.length → xs.getD j default = ys.getD j default) : xs = ys := by
  apply List.ext_getElem hl
  intro i h1 h2
  have := h i h1
  simpa [List.getD_eq_getElem?_getD, List.getElem?_eq_getElem h1, List.getElem?_eq_getElem h2] using this
set_option maxRecDepth 100000 in
theorem same_pure (xs ys : List Int) (hb : xs.length < 1000000000) : APure Try.prog 31 [ints xs, ints ys] (.bool (decide (xs = ys))) := by
  refine apure_of (wp31 rfl rfl ?_)
  simp (maxSteps := 4000000) only [↓packA, ↓reduceIte, packB, pureOp, quietOp, loadOp, quietB, fr0, cellsK, implies_true, ite_true, ite_false, eq_self, ne_eq, reduceCtorEq, Nat.reduceLT, Nat.reduceLeDiff, Nat.reduceAdd, Nat.reduceMul, Nat.reduceBEq, Nat.reduceEqDiff, Int.reduceToNat, Int.reduceLT, Int.reduceLE, Nat.reduceSub, pl31, ft3, ft23, ints]
  refine ⟨fun h => ?_, fun h => LoopK.intro (fun m a h => ∃ k : Nat, m = xs.length - k ∧ k ≤ xs.length ∧ (∀ j, j < k → xs.getD j default = ys.getD j default) ∧ a 5 = .int .i64 k ∧ a 0 = ints xs ∧ a 1 = ints ys ∧ h = []) xs.length ⟨0, rfl, Nat.zero_le _, fun j hj => absurd hj (Nat.not_lt_zero j), ?_⟩ ?_⟩
  · have : decide (xs = ys) = false := by simp; intro e; subst e; exact h rfl
    rw [this]; exact .pure _ rfl
  · simp (maxSteps := 4000000) only [↓packA, ↓reduceIte, packB, pureOp, quietOp, loadOp, quietB, fr0, cellsK, implies_true, ite_true, ite_false, eq_self, ne_eq, reduceCtorEq, Nat.reduceLT, Nat.reduceLeDiff, Nat.reduceAdd, Nat.reduceMul, Nat.reduceBEq, Nat.reduceEqDiff, Int.reduceToNat, Int.reduceLT, Int.reduceLE, Nat.reduceSub, pl31, ft3, ft23, ints, Int.natCast_zero]
  · rintro m a h1 ⟨k, rfl, hk, hj, a5, a0, a1, rfl⟩
    simp (maxSteps := 4000000) only [↓packA, ↓reduceIte, packB, pureOp, quietOp, loadOp, quietB, fr0, cellsK, implies_true, ite_true, ite_false, eq_self, ne_eq, reduceCtorEq, Nat.reduceLT, Nat.reduceLeDiff, Nat.reduceAdd, Nat.reduceMul, Nat.reduceBEq, Nat.reduceEqDiff, Int.reduceToNat, Int.reduceLT, Int.reduceLE, Nat.reduceSub, pl31, ft3, ft23, ints, a0, a1, a5]
    have hl : xs.length = ys.length := by omega
    refine ⟨fun h2 => ⟨by omega, by omega, by omega, by omega, fun h3 => ?_, fun h3 => ⟨by omega, .inl ⟨xs.length - (k + 1), by omega, k + 1, rfl, by omega, fun j hj2 => ?_, by omega⟩⟩⟩, fun h2 => ?_⟩
    · have : decide (xs = ys) = false := by simp; intro e; subst e; exact h3 rfl
      rw [this]; exact .pure _ rfl
    · by_cases e : j = k
      · subst e; exact h3
      · exact hj j (by omega)
    · have : decide (xs = ys) = true := by simp; exact list_ext_getD hl fun j h3 => hj j (by omega)
      rw [this]; exact .pure _ rfl
set_option maxRecDepth 100000 in
theorem copy_c (xs : List Int) (hb : xs.length < 1000000000) : ACalls Try.prog 47 [ints xs] [] fun v h => v = .osl 0 1 0 xs.length (xs.length + 3) true ∧ h = [Ob.arr 1 (List.map intE (xs ++ [0, 0, 0])) true] := by
  refine (wp47 rfl rfl ?_)
  simp (maxSteps := 4000000) only [↓packA, ↓reduceIte, packB, pureOp, quietOp, loadOp, quietB, fr0, cellsK, implies_true, ite_true, ite_false, eq_self, ne_eq, reduceCtorEq, Nat.reduceLT, Nat.reduceLeDiff, Nat.reduceAdd, Nat.reduceMul, Nat.reduceBEq, Nat.reduceEqDiff, Int.reduceToNat, Int.reduceLT, Int.reduceLE, Nat.reduceSub, pl47, ft3, ft23, ints]
  refine ⟨by omega, by omega, LoopK.intro (fun m a h => ∃ k : Nat, m = xs.length - k ∧ k ≤ xs.length ∧ a 0 = ints xs ∧ a 3 = .osl 0 1 0 xs.length (xs.length + 3) true ∧ a 4 = .int .i64 k ∧ h = [Ob.arr 1 (List.map intE (xs.take k ++ List.replicate (xs.length + 3 - k) 0)) true]) xs.length ⟨0, rfl, Nat.zero_le _, ?_⟩ ?_⟩
  · simp (maxSteps := 4000000) only [↓packA, ↓reduceIte, packB, pureOp, quietOp, loadOp, quietB, fr0, cellsK, implies_true, ite_true, ite_false, eq_self, ne_eq, reduceCtorEq, Nat.reduceLT, Nat.reduceLeDiff, Nat.reduceAdd, Nat.reduceMul, Nat.reduceBEq, Nat.reduceEqDiff, Int.reduceToNat, Int.reduceLT, Int.reduceLE, Nat.reduceSub, pl47, ft3, ft23, ints, Int.natCast_zero]
  · rintro m a h1 ⟨k, rfl, hk, a0, a3, a4, rfl⟩
    simp (maxSteps := 4000000) only [↓packA, ↓reduceIte, packB, pureOp, quietOp, loadOp, quietB, fr0, cellsK, implies_true, ite_true, ite_false, eq_self, ne_eq, reduceCtorEq, Nat.reduceLT, Nat.reduceLeDiff, Nat.reduceAdd, Nat.reduceMul, Nat.reduceBEq, Nat.reduceEqDiff, Int.reduceToNat, Int.reduceLT, Int.reduceLE, Nat.reduceSub, pl47, ft3, ft23, ints, a0, a3, a4]
    have hset : k < xs.length → (List.take k xs ++ List.replicate (xs.length + 3 - k) 0).set k (xs.getD k default) = List.take (k + 1) xs ++ List.replicate (xs.length + 3 - (k + 1)) 0 := fun hk => take_set hk (by omega)
    refine ⟨fun e => ⟨by omega, by omega, by omega, by rw [List.length_take]; omega, by omega, .inl ⟨xs.length - (k + 1), by omega, k + 1, rfl, by omega, by omega, by rw [hset (by omega)]⟩⟩, fun e => ?_⟩
    have : k = xs.length := by omega
    subst this
    rw [List.take_length, Nat.add_sub_cancel_left]
    rfl
def okAt (n : Int) (xs : List Int) (i : Nat) : Prop := 0 ≤ xs.getD i default ∧ xs.getD i default < n ∧ ∀ j, j < i → xs.getD j default ≠ xs.getD i default
def ordOK (n : Int) (xs : List Int) : Prop := ∀ i, i < xs.length → okAt n xs i
open Classical in
noncomputable def checkR (n : Int) (xs : List Int) : Int := if n < 0 ∨ 128 < n then 220 else if (xs.length : Int) ≠ n then 182 else if ordOK n xs then 0 else 182
def seenOK (xs : List Int) (k : Nat) (bs : List Bool) : Prop := ∀ v : Nat, v < bs.length → (bs.getD v default = true ↔ ∃ j, j < k ∧ xs.getD j default = v)
theorem seen0 (xs : List Int) (n : Nat) : seenOK xs 0 (List.replicate n false) := fun v hv => by
  rw [List.getD_eq_getElem?_getD, List.getElem?_replicate]
  simp only [List.length_replicate] at hv
  rw [if_pos hv]
  simp
theorem seen_set {xs : List Int} {k : Nat} {bs : List Bool} (hs : seenOK xs k bs) (h0 : 0 ≤ xs.getD k default) (h1 : (xs.getD k default).toNat < bs.length) : seenOK xs (k + 1) (bs.set (xs.getD k default).toNat true) := fun v hv => by
  simp only [List.length_set] at hv
  rw [List.getD_eq_getElem?_getD, List.getElem?_set]
  by_cases e : (xs.getD k default).toNat = v
  · rw [if_pos e, if_pos h1]
    simp only [Option.getD_some, true_iff]
    exact ⟨k, by omega, by omega⟩
  · rw [if_neg e, ← List.getD_eq_getElem?_getD, hs v hv]
    constructor
    · rintro ⟨j, hj, hj2⟩; exact ⟨j, by omega, hj2⟩
    · rintro ⟨j, hj, hj2⟩
      by_cases hjk : j < k
      · exact ⟨j, hjk, hj2⟩
      · have : j = k := by omega
        subst this
        omega
set_option maxRecDepth 100000 in
theorem check_c (n : Int) (xs : List Int) : APure Try.prog 54 [.int .i64 n, ints xs] (.int .i64 (checkR n xs)) := by
  refine apure_of (wp54 rfl rfl ?_)
  simp (maxSteps := 4000000) +contextual only [↓packA, ↓reduceIte, packB, pureOp, quietOp, loadOp, quietB, fr0, cellsK, implies_true, ite_true, ite_false, eq_self, ne_eq, reduceCtorEq, Nat.reduceLT, Nat.reduceLeDiff, Nat.reduceAdd, Nat.reduceMul, Nat.reduceBEq, Nat.reduceEqDiff, Int.reduceToNat, Int.reduceLT, Int.reduceLE, Nat.reduceSub, pl54, ft3, ft4, ft23, ft136, ints]
  refine ⟨fun h => ?_, fun h => ⟨fun h1 => ?_, fun h1 => ⟨fun h2 => ?_, fun h2 => ?_⟩⟩⟩
  · rw [show checkR n xs = 220 from if_pos (.inl h)]; exact .pure _ rfl
  · rw [show checkR n xs = 220 from if_pos (.inr h1)]; exact .pure _ rfl
  · rw [show checkR n xs = 182 by unfold checkR; rw [if_neg (by omega), if_pos h2]]; exact .pure _ rfl
  refine LoopK.intro (fun m a h => ∃ (k : Nat) (bs : List Bool), m = xs.length - k ∧ k ≤ xs.length ∧ (∀ i, i < k → okAt n xs i) ∧ bs.length = 128 ∧ seenOK xs k bs ∧ a 0 = .int .i64 n ∧ a 5 = .op 0 128 0 0 ∧ a 18 = ints xs ∧ a 19 = .int .i64 n ∧ a 20 = .int .i64 k ∧
    h = [Ob.arr 128 [List.map AV.bool bs] true]) xs.length ⟨0, List.replicate 128 false, rfl, Nat.zero_le _, fun j hj => absurd hj (Nat.not_lt_zero j), by simp, seen0 xs 128, ?_⟩ ?_
  · simp (maxSteps := 4000000) only [↓packA, ↓reduceIte, packB, pureOp, quietOp, loadOp, quietB, fr0, cellsK, implies_true, ite_true, ite_false, eq_self, ne_eq, reduceCtorEq, Nat.reduceLT, Nat.reduceLeDiff, Nat.reduceAdd, Nat.reduceMul, Nat.reduceBEq, Nat.reduceEqDiff, Int.reduceToNat, Int.reduceLT, Int.reduceLE, Nat.reduceSub, pl54, ft3, ft4, ft23, ft136, ints, Int.natCast_zero]
  · rintro m a h3 ⟨k, bs, rfl, hk, hok, hbl, hs, a0, a5, a18, a19, a20, rfl⟩
    simp (maxSteps := 4000000) +contextual only [↓packA, ↓reduceIte, packB, pureOp, quietOp, loadOp, quietB, fr0, cellsK, implies_true, ite_true, ite_false, eq_self, ne_eq, reduceCtorEq, Nat.reduceLT, Nat.reduceLeDiff, Nat.reduceAdd, Nat.reduceMul, Nat.reduceBEq, Nat.reduceEqDiff, Int.reduceToNat, Int.reduceLT, Int.reduceLE, Nat.reduceSub, pl54, ft3, ft4, ft23, ft136, ints, a0, a5, a18, a19, a20, hbl]
    have hbad : ¬ okAt n xs k → k < xs.length → checkR n xs = 182 := fun hn hk => by
      unfold checkR; rw [if_neg (by omega), if_neg (by omega), if_neg (fun ho => hn (ho k hk))]
    refine ⟨fun e => ⟨by omega, by omega, fun e1 => ?_, fun e1 => ⟨fun e2 => ?_, fun e2 => ⟨by omega, by omega, fun e3 => ?_, fun e3 => ⟨by omega, by omega, by omega, .inl ⟨xs.length - (k + 1), by omega, k + 1, _, rfl, by omega, ?_, by simpa using hbl, ?_, by omega, rfl⟩⟩⟩⟩⟩, fun e => ?_⟩
    · rw [hbad (fun ho => absurd ho.1 (by omega)) (by omega)]; exact .pure _ rfl
    · rw [hbad (fun ho => absurd ho.2.1 (by omega)) (by omega)]; exact .pure _ rfl
    · obtain ⟨j, hj, hj2⟩ := (hs (xs.getD k default).toNat (by omega)).1 e3
      rw [hbad (fun ho => ho.2.2 j hj (by omega)) (by omega)]; exact .pure _ rfl
    · intro i hi
      by_cases hik : i < k
      · exact hok i hik
      · have : i = k := by omega
        subst this
        refine ⟨by omega, by omega, fun j hj hjx => ?_⟩
        have := (hs (xs.getD i default).toNat (by omega)).2 ⟨j, hj, by omega⟩
        rw [this] at e3; cases e3
    · exact seen_set hs (by omega) (by omega)
    · rw [show checkR n xs = 0 by unfold checkR; rw [if_neg (by omega), if_neg (by omega), if_pos (show ordOK n xs from fun i hi => hok i (by omega))]]; exact .pure _ rfl
set_option maxRecDepth 100000 in
theorem checkr_c (n : Int) (xs : List Int) : APure Try.prog 25 [.int .i64 n, ints xs] (.int .i64 (checkR n xs)) := by
  refine apure_of (wp25 rfl rfl ?_)
  simp (maxSteps := 4000000) +contextual only [↓packA, ↓reduceIte, packB, pureOp, quietOp, loadOp, quietB, fr0, cellsK, implies_true, ite_true, ite_false, eq_self, ne_eq, reduceCtorEq, Nat.reduceLT, Nat.reduceLeDiff, Nat.reduceAdd, Nat.reduceMul, Nat.reduceBEq, Nat.reduceEqDiff, Int.reduceToNat, Int.reduceLT, Int.reduceLE, Nat.reduceSub, pl25, ft3, ft4, ft23, ft52, ints]
  refine ⟨fun h => ?_, fun h => ⟨fun h1 => ?_, fun h1 => ⟨fun h2 => ?_, fun h2 => ⟨by omega, ?_⟩⟩⟩⟩
  · rw [show checkR n xs = 220 from if_pos (.inl h)]; exact .pure _ rfl
  · rw [show checkR n xs = 220 from if_pos (.inr h1)]; exact .pure _ rfl
  · rw [show checkR n xs = 182 by unfold checkR; rw [if_neg (by omega), if_pos h2]]; exact .pure _ rfl
  refine LoopK.intro (fun m a h => ∃ (k : Nat) (bs : List Bool), m = xs.length - k ∧ k ≤ xs.length ∧ (∀ i, i < k → okAt n xs i) ∧ bs.length = n.toNat ∧ seenOK xs k bs ∧ a 0 = .int .i64 n ∧ a 1 = ints xs ∧ a 5 = .osl 0 1 0 n.toNat n.toNat true ∧ a 6 = .int .i64 k ∧
    h = [Ob.arr 1 (List.map boolE bs) true]) xs.length ⟨0, List.replicate n.toNat false, rfl, Nat.zero_le _, fun j hj => absurd hj (Nat.not_lt_zero j), by simp, seen0 xs n.toNat, ?_⟩ ?_
  · simp (maxSteps := 4000000) only [↓packA, ↓reduceIte, packB, pureOp, quietOp, loadOp, quietB, fr0, cellsK, implies_true, ite_true, ite_false, eq_self, ne_eq, reduceCtorEq, Nat.reduceLT, Nat.reduceLeDiff, Nat.reduceAdd, Nat.reduceMul, Nat.reduceBEq, Nat.reduceEqDiff, Int.reduceToNat, Int.reduceLT, Int.reduceLE, Nat.reduceSub, pl25, ft3, ft4, ft23, ft52, ints, Int.natCast_zero]
  · rintro m a h3 ⟨k, bs, rfl, hk, hok, hbl, hs, a0, a1, a5, a6, rfl⟩
    simp (maxSteps := 4000000) +contextual only [↓packA, ↓reduceIte, packB, pureOp, quietOp, loadOp, quietB, fr0, cellsK, implies_true, ite_true, ite_false, eq_self, ne_eq, reduceCtorEq, Nat.reduceLT, Nat.reduceLeDiff, Nat.reduceAdd, Nat.reduceMul, Nat.reduceBEq, Nat.reduceEqDiff, Int.reduceToNat, Int.reduceLT, Int.reduceLE, Nat.reduceSub, pl25, ft3, ft4, ft23, ft52, ints, a0, a1, a5, a6, hbl]
    have hbad : ¬ okAt n xs k → k < xs.length → checkR n xs = 182 := fun hn hk => by
      unfold checkR; rw [if_neg (by omega), if_neg (by omega), if_neg (fun ho => hn (ho k hk))]
    refine ⟨fun e => ⟨by omega, by omega, fun e1 => ?_, fun e1 => ⟨by omega, by omega, fun e2 => ?_, fun e2 => ⟨by omega, by omega, by omega, by omega, fun e3 => ?_, fun e3 => ⟨by omega, by omega, by omega, by omega, by omega, .inl ⟨xs.length - (k + 1), by omega, k + 1, _, rfl, by omega, ?_, by simpa using hbl, ?_, by omega, rfl⟩⟩⟩⟩⟩, fun e => ?_⟩
    · rw [hbad (fun ho => absurd ho.1 (by omega)) (by omega)]; exact .pure _ rfl
    · rw [hbad (fun ho => absurd ho.2.1 (by omega)) (by omega)]; exact .pure _ rfl
    · obtain ⟨j, hj, hj2⟩ := (hs (xs.getD k default).toNat (by omega)).1 e3
      rw [hbad (fun ho => ho.2.2 j hj (by omega)) (by omega)]; exact .pure _ rfl
    · intro i hi
      by_cases hik : i < k
      · exact hok i hik
      · have : i = k := by omega
        subst this
        refine ⟨by omega, by omega, fun j hj hjx => ?_⟩
        have := (hs (xs.getD i default).toNat (by omega)).2 ⟨j, hj, by omega⟩
        rw [this] at e3; cases e3
    · exact seen_set hs (by omega) (by omega)
    · rw [show checkR n xs = 0 by unfold checkR; rw [if_neg (by omega), if_neg (by omega), if_pos (show ordOK n xs from fun i hi => hok i (by omega))]]; exact .pure _ rfl
end Go.Proofs.Ytgdlkhgfehclpaa
end

section
/- A tape is the same as itself. No condition. -/
namespace Go.Proofs.Ytgdlkhgfehclpaa
open Go Go.AL
set_option linter.unusedVariables false
set_option linter.unusedSimpArgs false
set_option maxRecDepth 100000 in
theorem sameNat_c (l : List Int) (hl : l.length < 100000000) : APure Try.prog 40 [lims l, lims l] (.bool true) := by
  refine apure_of (wp40 rfl rfl ?_)
  simp (maxSteps := 4000000) only [↓packA, ↓reduceIte, packB, pureOp, quietOp, loadOp, quietB, fr0, cellsK, implies_true, ite_true, ite_false, eq_self, ne_eq, reduceCtorEq, Nat.reduceLT, Nat.reduceLeDiff, Nat.reduceAdd, Nat.reduceMul, Nat.reduceBEq, Nat.reduceEqDiff, Int.reduceToNat, Int.reduceLT, Int.reduceLE, Nat.reduceSub, pl40, ft3, ft79, ft115, lims, bne_self_eq_false, ne_eq, not_true_eq_false, Int.cast_ofNat_Int, Int.natCast_zero, Int.natCast_one, Int.reduceAdd, Int.reduceSub, Int.reduceNeg, Int.reduceMul, Int.reduceToNat, Int.reduceLT, Int.reduceLE, Int.reduceEq, Int.reduceBEq, Int.reduceBNe, Nat.reduceSub, Nat.reduceLT, List.getD_cons_zero, List.getD_cons_succ, List.length_singleton, Bool.and_true, Bool.and_false]
  refine LoopK.intro (fun x w g => ∃ k : Nat, x = l.length - k ∧ k ≤ l.length ∧ w 0 = lims l ∧ w 1 = lims l ∧ w 5 = .int .i64 k ∧ g = []) l.length ⟨0, rfl, by omega, ?_, ?_, ?_, rfl⟩ ?_
  · simp (maxSteps := 4000000) only [↓packA, ↓reduceIte, packB, pureOp, quietOp, loadOp, quietB, fr0, cellsK, implies_true, ite_true, ite_false, eq_self, ne_eq, reduceCtorEq, Nat.reduceLT, Nat.reduceLeDiff, Nat.reduceAdd, Nat.reduceMul, Nat.reduceBEq, Nat.reduceEqDiff, Int.reduceToNat, Int.reduceLT, Int.reduceLE, Nat.reduceSub, pl40, ft3, ft79, ft115, lims]
  · simp (maxSteps := 4000000) only [↓packA, ↓reduceIte, packB, pureOp, quietOp, loadOp, quietB, fr0, cellsK, implies_true, ite_true, ite_false, eq_self, ne_eq, reduceCtorEq, Nat.reduceLT, Nat.reduceLeDiff, Nat.reduceAdd, Nat.reduceMul, Nat.reduceBEq, Nat.reduceEqDiff, Int.reduceToNat, Int.reduceLT, Int.reduceLE, Nat.reduceSub, pl40, ft3, ft79, ft115, lims]
  · simp (maxSteps := 4000000) only [↓packA, ↓reduceIte, packB, pureOp, quietOp, loadOp, quietB, fr0, cellsK, implies_true, ite_true, ite_false, eq_self, ne_eq, reduceCtorEq, Nat.reduceLT, Nat.reduceLeDiff, Nat.reduceAdd, Nat.reduceMul, Nat.reduceBEq, Nat.reduceEqDiff, Int.reduceToNat, Int.reduceLT, Int.reduceLE, Nat.reduceSub, pl40, ft3, ft79, ft115, Int.natCast_zero]
  rintro x w g ⟨k, rfl, hk, a0, a1, a5, rfl⟩
  by_cases c : k < l.length
  · have r1 : (k : Int) < (l.length : Int) := by omega
    simp (maxSteps := 4000000) only [↓packA, ↓reduceIte, packB, pureOp, quietOp, loadOp, quietB, fr0, cellsK, implies_true, ite_true, ite_false, eq_self, ne_eq, reduceCtorEq, Nat.reduceLT, Nat.reduceLeDiff, Nat.reduceAdd, Nat.reduceMul, Nat.reduceBEq, Nat.reduceEqDiff, Int.reduceToNat, Int.reduceLT, Int.reduceLE, Nat.reduceSub, pl40, ft3, ft79, ft115, lims, limR, a0, a1, a5, r1, bne_self_eq_false, ne_eq, not_true_eq_false, Int.cast_ofNat_Int, Int.natCast_zero, Int.natCast_one, Int.reduceAdd, Int.reduceSub, Int.reduceNeg, Int.reduceMul, Int.reduceToNat, Int.reduceLT, Int.reduceLE, Int.reduceEq, Int.reduceBEq, Int.reduceBNe, Nat.reduceSub, Nat.reduceLT, List.getD_cons_zero, List.getD_cons_succ, List.length_singleton, Bool.and_true, Bool.and_false]
    exact ⟨by omega, by omega, by omega, by omega, by omega, .inl ⟨l.length - (k + 1), by omega, k + 1, rfl, by omega, by omega⟩⟩
  · have r1 : ¬ (k : Int) < (l.length : Int) := by omega
    simp (maxSteps := 4000000) only [↓packA, ↓reduceIte, packB, pureOp, quietOp, loadOp, quietB, fr0, cellsK, implies_true, ite_true, ite_false, eq_self, ne_eq, reduceCtorEq, Nat.reduceLT, Nat.reduceLeDiff, Nat.reduceAdd, Nat.reduceMul, Nat.reduceBEq, Nat.reduceEqDiff, Int.reduceToNat, Int.reduceLT, Int.reduceLE, Nat.reduceSub, pl40, ft3, ft79, ft115, lims, limR, a0, a1, a5, r1, Int.cast_ofNat_Int, Int.natCast_zero, Int.natCast_one, Int.reduceAdd, Int.reduceSub, Int.reduceNeg, Int.reduceMul, Int.reduceToNat, Int.reduceLT, Int.reduceLE, Int.reduceEq, Int.reduceBEq, Int.reduceBNe, Nat.reduceSub, Nat.reduceLT, List.getD_cons_zero, List.getD_cons_succ, List.length_singleton, Bool.and_true, Bool.and_false]
    exact .pure _ rfl
set_option maxRecDepth 100000 in
theorem sameRat_c (neg : Bool) (num den : List Int) (hn : num.length < 100000000) (hd : den.length < 100000000) : APure Try.prog 64 [ratV neg num den, ratV neg num den] (.bool true) := by
  refine apure_of (wp64 rfl rfl ?_)
  cases neg
  all_goals
    simp (maxSteps := 4000000) only [↓packA, ↓reduceIte, packB, pureOp, quietOp, loadOp, quietB, fr0, cellsK, implies_true, ite_true, ite_false, eq_self, ne_eq, reduceCtorEq, Nat.reduceLT, Nat.reduceLeDiff, Nat.reduceAdd, Nat.reduceMul, Nat.reduceBEq, Nat.reduceEqDiff, Int.reduceToNat, Int.reduceLT, Int.reduceLE, Nat.reduceSub, pl64, ft1, ft2, ft4, ft79, ft81, ft115, ratV, lims, Int.cast_ofNat_Int, Int.natCast_zero, Int.natCast_one, Int.reduceAdd, Int.reduceSub, Int.reduceNeg, Int.reduceMul, Int.reduceToNat, Int.reduceLT, Int.reduceLE, Int.reduceEq, Int.reduceBEq, Int.reduceBNe, Nat.reduceSub, Nat.reduceLT, List.getD_cons_zero, List.getD_cons_succ, List.length_singleton, Bool.and_true, Bool.and_false]
    refine acalls_pure (sameNat_c num hn) rfl ?_
    simp (maxSteps := 4000000) only [↓packA, ↓reduceIte, packB, pureOp, quietOp, loadOp, quietB, fr0, cellsK, implies_true, ite_true, ite_false, eq_self, ne_eq, reduceCtorEq, Nat.reduceLT, Nat.reduceLeDiff, Nat.reduceAdd, Nat.reduceMul, Nat.reduceBEq, Nat.reduceEqDiff, Int.reduceToNat, Int.reduceLT, Int.reduceLE, Nat.reduceSub, pl64, ft1, ft2, ft4, ft79, ft81, ft115, ratV, lims, Int.cast_ofNat_Int, Int.natCast_zero, Int.natCast_one, Int.reduceAdd, Int.reduceSub, Int.reduceNeg, Int.reduceMul, Int.reduceToNat, Int.reduceLT, Int.reduceLE, Int.reduceEq, Int.reduceBEq, Int.reduceBNe, Nat.reduceSub, Nat.reduceLT, List.getD_cons_zero, List.getD_cons_succ, List.length_singleton, Bool.and_true, Bool.and_false]
    refine acalls_pure (sameNat_c den hd) rfl ?_
    simp (maxSteps := 4000000) only [↓packA, ↓reduceIte, packB, pureOp, quietOp, loadOp, quietB, fr0, cellsK, implies_true, ite_true, ite_false, eq_self, ne_eq, reduceCtorEq, Nat.reduceLT, Nat.reduceLeDiff, Nat.reduceAdd, Nat.reduceMul, Nat.reduceBEq, Nat.reduceEqDiff, Int.reduceToNat, Int.reduceLT, Int.reduceLE, Nat.reduceSub, pl64, ft1, ft2, ft4, ft79, ft81, ft115, ratV, lims, Int.cast_ofNat_Int, Int.natCast_zero, Int.natCast_one, Int.reduceAdd, Int.reduceSub, Int.reduceNeg, Int.reduceMul, Int.reduceToNat, Int.reduceLT, Int.reduceLE, Int.reduceEq, Int.reduceBEq, Int.reduceBNe, Nat.reduceSub, Nat.reduceLT, List.getD_cons_zero, List.getD_cons_succ, List.length_singleton, Bool.and_true, Bool.and_false]
    exact .pure _ rfl
set_option maxRecDepth 100000 in
theorem sameOp_c (n : Nd) (hn : n.Ok) : APure Try.prog 62 [n.V, n.V] (.bool true) := by
  refine apure_of (wp62 rfl rfl ?_)
  have h := sameRat_c n.neg n.num n.den hn.ln hn.ld
  obtain ⟨op, a, b, c, neg, num, den⟩ := n
  simp (maxSteps := 4000000) only [↓packA, ↓reduceIte, packB, pureOp, quietOp, loadOp, quietB, fr0, cellsK, implies_true, ite_true, ite_false, eq_self, ne_eq, reduceCtorEq, Nat.reduceLT, Nat.reduceLeDiff, Nat.reduceAdd, Nat.reduceMul, Nat.reduceBEq, Nat.reduceEqDiff, Int.reduceToNat, Int.reduceLT, Int.reduceLE, Nat.reduceSub, pl62, ft1, ft2, ft3, ft4, ft77, ft79, ft81, ft83, ft115, Nd.V, Nd.cells, beq_self_eq_true, Int.cast_ofNat_Int, Int.natCast_zero, Int.natCast_one, Int.reduceAdd, Int.reduceSub, Int.reduceNeg, Int.reduceMul, Int.reduceToNat, Int.reduceLT, Int.reduceLE, Int.reduceEq, Int.reduceBEq, Int.reduceBNe, Nat.reduceSub, Nat.reduceLT, List.getD_cons_zero, List.getD_cons_succ, List.length_singleton, Bool.and_true, Bool.and_false]
  refine acalls_pure h rfl ?_
  simp (maxSteps := 4000000) only [↓packA, ↓reduceIte, packB, pureOp, quietOp, loadOp, quietB, fr0, cellsK, implies_true, ite_true, ite_false, eq_self, ne_eq, reduceCtorEq, Nat.reduceLT, Nat.reduceLeDiff, Nat.reduceAdd, Nat.reduceMul, Nat.reduceBEq, Nat.reduceEqDiff, Int.reduceToNat, Int.reduceLT, Int.reduceLE, Nat.reduceSub, pl62, ft1, ft2, ft3, ft4, ft77, ft79, ft81, ft83, ft115, Nd.V, Nd.cells, Int.cast_ofNat_Int, Int.natCast_zero, Int.natCast_one, Int.reduceAdd, Int.reduceSub, Int.reduceNeg, Int.reduceMul, Int.reduceToNat, Int.reduceLT, Int.reduceLE, Int.reduceEq, Int.reduceBEq, Int.reduceBNe, Nat.reduceSub, Nat.reduceLT, List.getD_cons_zero, List.getD_cons_succ, List.length_singleton, Bool.and_true, Bool.and_false]
  exact .pure _ rfl
set_option maxRecDepth 100000 in
theorem sameTape_c (t : Tp) (ht : t.Ok) (hn : t.ns.length < 100000000) (ho : t.outs.length < 100000000) : APure Try.prog 37 [t.V, t.V] (.bool true) := by
  refine apure_of (wp37 rfl rfl ?_)
  have hns := ht.ns
  obtain ⟨vars, ns, outs⟩ := t
  simp only at hns hn ho
  have hs := same_pure outs outs (by omega)
  rw [decide_eq_true rfl] at hs
  simp (maxSteps := 4000000) only [↓packA, ↓reduceIte, packB, pureOp, quietOp, loadOp, quietB, fr0, cellsK, implies_true, ite_true, ite_false, eq_self, ne_eq, reduceCtorEq, Nat.reduceLT, Nat.reduceLeDiff, Nat.reduceAdd, Nat.reduceMul, Nat.reduceBEq, Nat.reduceEqDiff, Int.reduceToNat, Int.reduceLT, Int.reduceLE, Nat.reduceSub, pl37, ft1, ft2, ft3, ft4, ft22, ft23, ft25, ft77, ft81, ft83, Tp.V, ints, bne_self_eq_false, ne_eq, not_true_eq_false, List.length_map, Int.cast_ofNat_Int, Int.natCast_zero, Int.natCast_one, Int.reduceAdd, Int.reduceSub, Int.reduceNeg, Int.reduceMul, Int.reduceToNat, Int.reduceLT, Int.reduceLE, Int.reduceEq, Int.reduceBEq, Int.reduceBNe, Nat.reduceSub, Nat.reduceLT, List.getD_cons_zero, List.getD_cons_succ, List.length_singleton, Bool.and_true, Bool.and_false]
  refine acalls_pure hs rfl ?_
  simp (maxSteps := 4000000) only [↓packA, ↓reduceIte, packB, pureOp, quietOp, loadOp, quietB, fr0, cellsK, implies_true, ite_true, ite_false, eq_self, ne_eq, reduceCtorEq, Nat.reduceLT, Nat.reduceLeDiff, Nat.reduceAdd, Nat.reduceMul, Nat.reduceBEq, Nat.reduceEqDiff, Int.reduceToNat, Int.reduceLT, Int.reduceLE, Nat.reduceSub, pl37, ft1, ft2, ft3, ft4, ft22, ft23, ft25, ft77, ft81, ft83, Tp.V, ints, List.length_map, Int.cast_ofNat_Int, Int.natCast_zero, Int.natCast_one, Int.reduceAdd, Int.reduceSub, Int.reduceNeg, Int.reduceMul, Int.reduceToNat, Int.reduceLT, Int.reduceLE, Int.reduceEq, Int.reduceBEq, Int.reduceBNe, Nat.reduceSub, Nat.reduceLT, List.getD_cons_zero, List.getD_cons_succ, List.length_singleton, Bool.and_true, Bool.and_false]
  obtain ⟨B, hB⟩ : ∃ B : Ob, B = .arr 3 [[.int .i64 vars, .isl 7 (List.map Nd.cells ns), .isl 1 (List.map intE outs)]] true := ⟨_, rfl⟩
  rw [← hB]
  refine LoopK.intro (fun x w g => ∃ k : Nat, x = ns.length - k ∧ k ≤ ns.length ∧ w 2 = .op 0 3 0 0 ∧ w 3 = .op 1 3 0 0 ∧ w 5 = .int .i64 k ∧ g = [B, B]) ns.length ⟨0, rfl, by omega, ?_, ?_, ?_, rfl⟩ ?_
  · simp (maxSteps := 4000000) only [↓packA, ↓reduceIte, packB, pureOp, quietOp, loadOp, quietB, fr0, cellsK, implies_true, ite_true, ite_false, eq_self, ne_eq, reduceCtorEq, Nat.reduceLT, Nat.reduceLeDiff, Nat.reduceAdd, Nat.reduceMul, Nat.reduceBEq, Nat.reduceEqDiff, Int.reduceToNat, Int.reduceLT, Int.reduceLE, Nat.reduceSub, pl37, ft1, ft2, ft3, ft4, ft22, ft23, ft25, ft77, ft81, ft83]
  · simp (maxSteps := 4000000) only [↓packA, ↓reduceIte, packB, pureOp, quietOp, loadOp, quietB, fr0, cellsK, implies_true, ite_true, ite_false, eq_self, ne_eq, reduceCtorEq, Nat.reduceLT, Nat.reduceLeDiff, Nat.reduceAdd, Nat.reduceMul, Nat.reduceBEq, Nat.reduceEqDiff, Int.reduceToNat, Int.reduceLT, Int.reduceLE, Nat.reduceSub, pl37, ft1, ft2, ft3, ft4, ft22, ft23, ft25, ft77, ft81, ft83]
  · simp (maxSteps := 4000000) only [↓packA, ↓reduceIte, packB, pureOp, quietOp, loadOp, quietB, fr0, cellsK, implies_true, ite_true, ite_false, eq_self, ne_eq, reduceCtorEq, Nat.reduceLT, Nat.reduceLeDiff, Nat.reduceAdd, Nat.reduceMul, Nat.reduceBEq, Nat.reduceEqDiff, Int.reduceToNat, Int.reduceLT, Int.reduceLE, Nat.reduceSub, pl37, ft1, ft2, ft3, ft4, ft22, ft23, ft25, ft77, ft81, ft83, Int.natCast_zero]
  rintro x w g ⟨k, rfl, hk, a2, a3, a5, rfl⟩
  by_cases c : k < ns.length
  · have r1 : (k : Int) < (ns.length : Int) := by omega
    obtain ⟨n, hnk⟩ : ∃ n, ns[k]? = some n := ⟨_, List.getElem?_eq_getElem c⟩
    have rk : (List.map Nd.cells ns)[k]? = some (Nd.cells n) := by rw [List.getElem?_map, hnk]; rfl
    have hp := sameOp_c n (hns n (List.mem_of_getElem? hnk))
    simp (maxSteps := 4000000) only [↓packA, ↓reduceIte, packB, pureOp, quietOp, loadOp, quietB, fr0, cellsK, implies_true, ite_true, ite_false, eq_self, ne_eq, reduceCtorEq, Nat.reduceLT, Nat.reduceLeDiff, Nat.reduceAdd, Nat.reduceMul, Nat.reduceBEq, Nat.reduceEqDiff, Int.reduceToNat, Int.reduceLT, Int.reduceLE, Nat.reduceSub, pl37, ft1, ft2, ft3, ft4, ft22, ft23, ft25, ft77, ft81, ft83, hB, a2, a3, a5, r1, rk, Nd.cells, List.length_map, Int.cast_ofNat_Int, Int.natCast_zero, Int.natCast_one, Int.reduceAdd, Int.reduceSub, Int.reduceNeg, Int.reduceMul, Int.reduceToNat, Int.reduceLT, Int.reduceLE, Int.reduceEq, Int.reduceBEq, Int.reduceBNe, Nat.reduceSub, Nat.reduceLT, List.getD_cons_zero, List.getD_cons_succ, List.length_singleton, Bool.and_true, Bool.and_false]
    refine ⟨by omega, by omega, acalls_pure hp rfl ?_⟩
    simp (maxSteps := 4000000) only [↓packA, ↓reduceIte, packB, pureOp, quietOp, loadOp, quietB, fr0, cellsK, implies_true, ite_true, ite_false, eq_self, ne_eq, reduceCtorEq, Nat.reduceLT, Nat.reduceLeDiff, Nat.reduceAdd, Nat.reduceMul, Nat.reduceBEq, Nat.reduceEqDiff, Int.reduceToNat, Int.reduceLT, Int.reduceLE, Nat.reduceSub, pl37, ft1, ft2, ft3, ft4, ft22, ft23, ft25, ft77, ft81, ft83, hB, a2, a3, a5, r1, rk, Nd.cells, List.length_map, Int.cast_ofNat_Int, Int.natCast_zero, Int.natCast_one, Int.reduceAdd, Int.reduceSub, Int.reduceNeg, Int.reduceMul, Int.reduceToNat, Int.reduceLT, Int.reduceLE, Int.reduceEq, Int.reduceBEq, Int.reduceBNe, Nat.reduceSub, Nat.reduceLT, List.getD_cons_zero, List.getD_cons_succ, List.length_singleton, Bool.and_true, Bool.and_false]
    exact ⟨by omega, .inl ⟨ns.length - (k + 1), by omega, k + 1, rfl, by omega, by omega⟩⟩
  · have r1 : ¬ (k : Int) < (ns.length : Int) := by omega
    simp (maxSteps := 4000000) only [↓packA, ↓reduceIte, packB, pureOp, quietOp, loadOp, quietB, fr0, cellsK, implies_true, ite_true, ite_false, eq_self, ne_eq, reduceCtorEq, Nat.reduceLT, Nat.reduceLeDiff, Nat.reduceAdd, Nat.reduceMul, Nat.reduceBEq, Nat.reduceEqDiff, Int.reduceToNat, Int.reduceLT, Int.reduceLE, Nat.reduceSub, pl37, ft1, ft2, ft3, ft4, ft22, ft23, ft25, ft77, ft81, ft83, hB, a2, a3, a5, r1, List.length_map, Int.cast_ofNat_Int, Int.natCast_zero, Int.natCast_one, Int.reduceAdd, Int.reduceSub, Int.reduceNeg, Int.reduceMul, Int.reduceToNat, Int.reduceLT, Int.reduceLE, Int.reduceEq, Int.reduceBEq, Int.reduceBNe, Nat.reduceSub, Nat.reduceLT, List.getD_cons_zero, List.getD_cons_succ, List.length_singleton, Bool.and_true, Bool.and_false]
    exact .pure _ rfl
end Go.Proofs.Ytgdlkhgfehclpaa
end

section
/- Lists under way: a list of one's own to which more is laid. No condition. -/
namespace Go.AL
set_option linter.unusedVariables false
set_option linter.unusedSimpArgs false
def oid : AV → Option Nat
  | .osl id _ _ _ _ _ => some id
  | _ => none
/-- A list of one's own, from the start of an object on, or none. -/
def OL (F : Nat → Prop) (k : Nat) (h : Heap) (x : AV) (rows : List (List AV)) : Prop :=
  (x = .nils ∧ rows = []) ∨ ∃ (id cap : Nat) (ex : Bool) (rest : List (List AV)) (ex' : Bool), x = .osl id k 0 rows.length cap ex ∧ ¬ F id ∧ h[id]? = some (.arr k (rows ++ rest) ex') ∧ rows.length ≤ cap ∧ cap ≤ rows.length + rest.length ∧ ∀ e, e ∈ rest → flats e = true
theorem OL.nil {F : Nat → Prop} {k : Nat} {h : Heap} : OL F k h .nils [] := .inl ⟨rfl, rfl⟩
theorem OL.keep {F F' : Nat → Prop} {k : Nat} {h h' : Heap} {x : AV} {rows : List (List AV)} (o : OL F k h x rows) (hh : ∀ id, oid x = some id → id < h.length → ¬ F id → ¬ F' id ∧ h'[id]? = h[id]?) : OL F' k h' x rows := by
  rcases o with o | ⟨id, cap, ex, rest, ex', rfl, h1, h2, h3⟩
  · exact .inl o
  · obtain ⟨q1, q2⟩ := hh _ rfl (List.getElem?_eq_some_iff.1 h2).1 h1
    exact .inr ⟨id, cap, ex, rest, ex', rfl, q1, by rw [q2]; exact h2, h3⟩
theorem OL.set {F : Nat → Prop} {k : Nat} {h : Heap} {x : AV} {rows : List (List AV)} (o : OL F k h x rows) {i : Nat} (hi : F i) (b : Ob) : OL F k (h.set i b) x rows :=
  o.keep fun id _ _ hn => ⟨hn, List.getElem?_set_ne (fun e => hn (by rw [← e]; exact hi))⟩
theorem OL.app {F : Nat → Prop} {k : Nat} {h t : Heap} {x : AV} {rows : List (List AV)} (o : OL F k h x rows) : OL F k (h ++ t) x rows :=
  o.keep fun id _ hl hn => ⟨hn, List.getElem?_append_left hl⟩
theorem OL.weak {F F' : Nat → Prop} {k : Nat} {h : Heap} {x : AV} {rows : List (List AV)} (o : OL F' k h x rows) (hF : ∀ i, F i → F' i) : OL F k h x rows :=
  o.keep fun id _ _ hn => ⟨fun e => hn (hF _ e), rfl⟩
/-- Lists under way are what they were, where nothing was written but what is shut out. -/
theorem OL.more {F F' : Nat → Prop} {k : Nat} {h h' : Heap} {x : AV} {rows : List (List AV)} (o : OL F k h x rows) (hF : ∀ i, F' i → F i ∨ h.length ≤ i) (hh : ∀ i, i < h.length → ¬ F i → h'[i]? = h[i]?) : OL F' k h' x rows :=
  o.keep fun id _ hl hn => ⟨fun e => by rcases hF _ e with h1 | h1; exact hn h1; omega, hh id hl hn⟩
theorem OL.len {F : Nat → Prop} {k : Nat} {h : Heap} {x : AV} {rows : List (List AV)} (o : OL F k h x rows) : (x = .nils ∧ rows = []) ∨ ∃ id cap ex, x = .osl id k 0 rows.length cap ex := by
  rcases o with o | ⟨id, cap, ex, rest, ex', rfl, h1⟩
  · exact .inl o
  · exact .inr ⟨_, _, _, rfl⟩
/-- Laid behind. -/
theorem ol_append {F : Nat → Prop} {k b : Nat} {h : Heap} {x : AV} {rows xs : List (List AV)} {z : List AV} {K : AV → Heap → Prop} (hz : z.length = k) (hzf : flats z = true) (hF : ∀ i, F i → i < h.length) (o : OL F k h x rows) (hx : xs ≠ []) (hb : (rows.length + xs.length) * b ≤ 140737488355328)
    (hK : ∀ x' h', (∃ id cap ex, x' = .osl id k 0 (rows.length + xs.length) cap ex ∧ (oid x = some id ∨ h.length ≤ id)) → OL F k h' x' (rows ++ xs) → h.length ≤ h'.length → (∀ i, i < h.length → oid x ≠ some i → h'[i]? = h[i]?) → (∀ i, F i → h'[i]? = h[i]?) → K x' h') : apK z b h x xs K := by
  subst hz
  have hg : ∀ (es : List (List AV)), es = rows ++ xs → growK z.length b z h.length h es K := by
    rintro es rfl
    have hlt : ∀ (o : Ob), (h ++ [o])[h.length]? = some o := fun o => by rw [List.getElem?_append_right (Nat.le_refl _), Nat.sub_self]; rfl
    unfold growK
    split
    · intro c hc
      rw [List.length_append] at hc ⊢
      refine hK _ _ ⟨_, _, _, rfl, .inr (Nat.le_refl _)⟩ (.inr ⟨h.length, c, true, _, true, by rw [List.length_append], fun e => by have := hF _ e; omega, hlt _, by rw [List.length_append]; exact hc, by simp; omega, fun e he => by rw [List.eq_of_mem_replicate he]; exact hzf⟩) (by simp) (fun i hi _ => List.getElem?_append_left hi) (fun i hi => List.getElem?_append_left (hF i hi))
    · rw [List.length_append]
      refine hK _ _ ⟨_, _, _, rfl, .inr (Nat.le_refl _)⟩ (.inr ⟨h.length, _, false, [], false, by rw [List.length_append], fun e => by have := hF _ e; omega, by rw [List.append_nil]; exact hlt _, by rw [List.length_append]; omega, by rw [List.length_append]; simp, by simp⟩) (by simp) (fun i hi _ => List.getElem?_append_left hi) (fun i hi => List.getElem?_append_left (hF i hi))
  have h0 : 0 < xs.length := by
    cases xs with
    | nil => exact absurd rfl hx
    | cons _ _ => simp
  rcases o with ⟨rfl, rfl⟩ | ⟨id, cap, ex, rest, ex', rfl, hid, hrow, hlc, hce, hre⟩
  · unfold apK
    exact ⟨by simpa using hb, fun e => absurd e hx, fun _ => hg xs rfl⟩
  · have hidl := (List.getElem?_eq_some_iff.1 hrow).1
    have htk : (rows ++ rest).take rows.length = rows := List.take_left
    unfold apK
    refine ⟨rfl, hb, _, ex', hrow, by simp, fun hle => ⟨by simp; omega, ?_⟩, fun hgt => ?_⟩
    · rw [Nat.zero_add, htk]
      refine hK _ _ ⟨id, cap, ex, rfl, .inl rfl⟩ (.inr ⟨id, cap, ex, (rows ++ rest).drop (rows.length + xs.length), ex', by rw [List.length_append], hid, List.getElem?_set_self hidl, by rw [List.length_append]; exact hle, by simp; omega, fun e he => ?_⟩) (by simp) (fun i hi hne => List.getElem?_set_ne (fun e => hne (by rw [← e]; rfl))) (fun i hi => List.getElem?_set_ne (fun e => hid (by rw [e]; exact hi)))
      rw [List.drop_append, List.drop_of_length_le (by omega), List.nil_append] at he
      exact hre e (List.mem_of_mem_drop he)
    · cases ex with
      | true =>
        show growK z.length b z h.length h _ K
        refine hg _ ?_
        rw [List.drop_zero, htk]
      | false =>
        refine ⟨rfl, ?_⟩
        have hlt : ∀ (o : Ob), (h.set id .dead ++ [o])[h.length]? = some o := fun o => by rw [List.getElem?_append_right (by simp), List.length_set, Nat.sub_self]; rfl
        rw [htk]
        refine hK _ _ ⟨h.length, _, false, rfl, .inr (Nat.le_refl _)⟩ (.inr ⟨h.length, _, false, [], false, by rw [List.length_append], fun e => by have := hF _ e; omega, by rw [List.append_nil]; exact hlt _, by rw [List.length_append]; omega, by rw [List.length_append]; simp, by simp⟩) (by simp) (fun i hi hne => ?_) (fun i hi => ?_)
        · rw [List.getElem?_append_left (by simpa using hi), List.getElem?_set_ne (fun e => hne (by rw [← e]; rfl))]
        · rw [List.getElem?_append_left (by simpa using hF i hi), List.getElem?_set_ne (fun e => hid (by rw [e]; exact hi))]
theorem ol_push {F : Nat → Prop} (k : Nat) {b : Nat} {h : Heap} {x : AV} {rows : List (List AV)} {row : List AV} {z : List AV} {K : AV → Heap → Prop} (hz : z.length = k) (hzf : flats z = true) (hF : ∀ i, F i → i < h.length) (o : OL F k h x rows) (hb : (rows.length + 1) * b ≤ 140737488355328)
    (hK : ∀ x' h', (∃ id cap ex, x' = .osl id k 0 (rows.length + 1) cap ex ∧ (oid x = some id ∨ h.length ≤ id)) → OL F k h' x' (rows ++ [row]) → h.length ≤ h'.length → (∀ i, i < h.length → oid x ≠ some i → h'[i]? = h[i]?) → (∀ i, F i → h'[i]? = h[i]?) → K x' h') : apK z b h x [row] K :=
  ol_append hz hzf hF o (by simp) hb hK
/-- Frozen: row by row. -/
theorem OL.frz {F : Nat → Prop} {k : Nat} {h : Heap} {x : AV} {rows rows' : List (List AV)} (o : OL F k h x rows) (hl : rows'.length = rows.length) (hr : ∀ (i : Nat) (e e' : List AV), rows[i]? = some e → rows'[i]? = some e' → e'.length = e.length ∧ ∀ (q : Nat) (u u' : AV), e[q]? = some u → e'[q]? = some u' → Frz h u u') : Frz h x (.isl k rows') := by
  rcases o with ⟨rfl, rfl⟩ | ⟨id, cap, ex, rest, ex', rfl, hid, hrow, hlc, hce, hre⟩
  · obtain rfl : rows' = [] := List.length_eq_zero_iff.1 hl
    exact .nils k
  · have key : ∀ (j : Nat) (e e' : List AV), (rows ++ rest)[0 + j]? = some e → rows'[j]? = some e' → rows[j]? = some e := fun j e e' he he' => by
      have := (List.getElem?_eq_some_iff.1 he').1
      rw [Nat.zero_add, List.getElem?_append_left (by omega)] at he
      exact he
    exact .osl id k 0 rows.length cap ex ex' _ rows' hrow (by simp) hl (fun j e e' he he' => (hr j e e' (key j e e' he he') he').1) (fun j e e' q u u' he he' => (hr j e e' (key j e e' he he') he').2 q u u')
theorem OL.frz_self {F : Nat → Prop} {k : Nat} {h : Heap} {x : AV} {rows : List (List AV)} (o : OL F k h x rows) (hp : ∀ e, e ∈ rows → pures e = true) : Frz h x (.isl k rows) :=
  o.frz rfl fun i e e' he he' => by
    rw [he] at he'
    obtain rfl := Option.some.inj he'
    exact ⟨rfl, fun q u u' hu hu' => by rw [hu] at hu'; obtain rfl := Option.some.inj hu'; exact .pure _ (pures_get (hp _ (List.mem_of_getElem? he)) hu)⟩
theorem OL.ofz {F : Nat → Prop} {k : Nat} {h : Heap} {x : AV} {rows : List (List AV)} (o : OL F k h x rows) (hp : ∀ e, e ∈ rows → flats e = true) : OFz h x (.isl k rows) := by
  rcases o with ⟨rfl, rfl⟩ | ⟨id, cap, ex, rest, ex', rfl, hid, hrow, hlc, hce, hre⟩
  · exact .nils k
  · have := OFz.osl (h := h) id k 0 rows.length cap ex ex' _ hrow (by simp) (fun e he => by
      rcases List.mem_append.1 he with h1 | h1
      · exact hp e h1
      · exact hre e h1)
    rw [List.drop_zero, List.take_left] at this
    exact this
/-! ### what was laid behind, by number -/
section
variable {h : Heap} {M : Nat}
theorem at11 (e : h.length = M) (a : Ob) : (h ++ [a])[M]? = some a := by subst e; simp
theorem at21 (e : h.length = M) (a b : Ob) : (h ++ [a] ++ [b])[M]? = some a := by subst e; simp
theorem at22 (e : h.length = M) (a b : Ob) : (h ++ [a] ++ [b])[M + 1]? = some b := by subst e; simp
theorem at31 (e : h.length = M) (a b c : Ob) : (h ++ [a] ++ [b] ++ [c])[M]? = some a := by subst e; simp
theorem at32 (e : h.length = M) (a b c : Ob) : (h ++ [a] ++ [b] ++ [c])[M + 1]? = some b := by subst e; simp
theorem at33 (e : h.length = M) (a b c : Ob) : (h ++ [a] ++ [b] ++ [c])[M + 2]? = some c := by subst e; simp
theorem st11 (e : h.length = M) (a a' : Ob) : (h ++ [a]).set M a' = h ++ [a'] := by subst e; simp
theorem st21 (e : h.length = M) (a b a' : Ob) : (h ++ [a] ++ [b]).set M a' = h ++ [a'] ++ [b] := by subst e; simp
theorem st22 (e : h.length = M) (a b b' : Ob) : (h ++ [a] ++ [b]).set (M + 1) b' = h ++ [a] ++ [b'] := by subst e; simp
theorem st31 (e : h.length = M) (a b c a' : Ob) : (h ++ [a] ++ [b] ++ [c]).set M a' = h ++ [a'] ++ [b] ++ [c] := by subst e; simp
theorem st32 (e : h.length = M) (a b c b' : Ob) : (h ++ [a] ++ [b] ++ [c]).set (M + 1) b' = h ++ [a] ++ [b'] ++ [c] := by subst e; simp
theorem st33 (e : h.length = M) (a b c c' : Ob) : (h ++ [a] ++ [b] ++ [c]).set (M + 2) c' = h ++ [a] ++ [b] ++ [c'] := by subst e; simp
theorem gR0 (e : h.length = M) (t : Heap) : (h ++ t)[M]? = t[0]? := by subst e; rw [List.getElem?_append_right (Nat.le_refl _), Nat.sub_self]
theorem gR (e : h.length = M) (t : Heap) (j : Nat) : (h ++ t)[M + j]? = t[j]? := by subst e; rw [List.getElem?_append_right (Nat.le_add_right _ _), Nat.add_sub_cancel_left]
theorem sR0 (e : h.length = M) (t : Heap) (o : Ob) : (h ++ t).set M o = h ++ t.set 0 o := by subst e; rw [List.set_append_right _ _ (Nat.le_refl _), Nat.sub_self]
theorem sR (e : h.length = M) (t : Heap) (j : Nat) (o : Ob) : (h ++ t).set (M + j) o = h ++ t.set j o := by subst e; rw [List.set_append_right _ _ (Nat.le_add_right _ _), Nat.add_sub_cancel_left]
theorem tailR (e : h.length = M) : type_of% (And.intro (gR0 e) (And.intro (gR e) (And.intro (sR0 e) (And.intro (sR e) (And.intro (Nat.add_assoc M) (And.intro (@List.append_assoc Ob) (And.intro (@List.cons_append Ob) (@List.nil_append Ob)))))))) := And.intro (gR0 e) (And.intro (gR e) (And.intro (sR0 e) (And.intro (sR e) (And.intro (Nat.add_assoc M) (And.intro (@List.append_assoc Ob) (And.intro (@List.cons_append Ob) (@List.nil_append Ob)))))))
theorem up11 {i : Nat} (hi : i < h.length) (a : Ob) : (h ++ [a])[i]? = h[i]? := List.getElem?_append_left hi
end
end Go.AL
end

section
/- A tape's copy, walked. No condition. -/
namespace Go.Proofs.Ytgdlkhgfehclpaa
open Go Go.AL
set_option linter.unusedVariables false
set_option linter.unusedSimpArgs false
def zrow : List AV := [.int .i64 0, .int .i64 0, .int .i64 0, .int .i64 0, .bool false, .nils, .nils]
/-- Rows under way: the first k are these nodes, the others are blank. -/
def RowsW (R : List (List AV)) (ns : List Nd) (k m : Nat) : Prop := R.length = m ∧ (∀ i n, i < k → ns[i]? = some n → R[i]? = some (Nd.cells n)) ∧ ∀ i, k ≤ i → i < m → R[i]? = some zrow
theorem RowsW.start {ns : List Nd} {m : Nat} : RowsW (List.replicate m zrow) ns 0 m := ⟨by simp, fun i n h => by omega, fun i _ h => by rw [List.getElem?_replicate, if_pos h]⟩
theorem RowsW.step {R : List (List AV)} {ns : List Nd} {k m : Nat} {n : Nd} (h : RowsW R ns k m) (hk : ns[k]? = some n) (hm : k < m) : RowsW (R.set k (Nd.cells n)) ns (k + 1) m := by
  refine ⟨by rw [List.length_set]; exact h.1, fun i n' hi hn => ?_, fun i hi hm' => ?_⟩
  · by_cases e : i = k
    · subst e
      rw [hk] at hn
      obtain rfl := Option.some.inj hn
      exact List.getElem?_set_self (by rw [h.1]; exact hm)
    · rw [List.getElem?_set_ne (by omega)]
      exact h.2.1 i n' (by omega) hn
  · rw [List.getElem?_set_ne (by omega)]
    exact h.2.2 i (by omega) hm'
theorem RowsW.full {R : List (List AV)} {ns : List Nd} (h : RowsW R ns ns.length (ns.length + 3)) : R = ns.map Nd.cells ++ [zrow, zrow, zrow] := by
  apply List.ext_getElem?
  intro i
  by_cases c : i < ns.length
  · rw [h.2.1 i _ c (List.getElem?_eq_getElem c), List.getElem?_append_left (by simpa using c), List.getElem?_map, List.getElem?_eq_getElem c]
    rfl
  · rw [List.getElem?_append_right (by simpa using c), List.length_map]
    by_cases c2 : i < ns.length + 3
    · rw [h.2.2 i (by omega) c2]
      match hq : i - ns.length with
      | 0 => rfl
      | 1 => rfl
      | 2 => rfl
      | q + 3 => omega
    · rw [List.getElem?_eq_none (by rw [h.1]; omega), List.getElem?_eq_none (by simp; omega)]
set_option maxHeartbeats 4000000 in
set_option maxRecDepth 100000 in
theorem copyTape_c (t : Tp) (ht : t.Ok) (hn : t.ns.length < 100000000) (ho : t.outs.length < 100000000) {h : Heap} {Q : AV → Heap → Prop}
    (hq : ∀ v x h', OL (fun i => i < h.length) 7 h' v (t.ns.map Nd.cells) → OL (fun i => i < h.length) 1 h' x (t.outs.map intE) → h.length < h'.length → (∀ i, i < h.length → h'[i]? = h[i]?) → (∃ a b c, v = .osl a 7 0 t.ns.length b c) → Q (.agg [.int .i64 t.vars, v, x]) h') : ACalls Try.prog 39 [t.V] h Q := by
  refine wp39 rfl rfl ?_
  have hns := ht.ns
  obtain ⟨vars, ns, outs⟩ := t
  simp only at hns hn ho hq
  obtain ⟨M, hM⟩ : ∃ M, h.length = M := ⟨_, rfl⟩
  have en : (ns.length : Int) + 3 = ((ns.length + 3 : Nat) : Int) := by omega
  have tR := tailR hM
  simp (maxSteps := 4000000) only [↓packA, ↓reduceIte, packB, pureOp, quietOp, loadOp, quietB, fr0, cellsK, implies_true, ite_true, ite_false, eq_self, ne_eq, reduceCtorEq, Nat.reduceLT, Nat.reduceLeDiff, Nat.reduceAdd, Nat.reduceMul, Nat.reduceBEq, Nat.reduceEqDiff, Int.reduceToNat, Int.reduceLT, Int.reduceLE, Nat.reduceSub, pl39, ft1, ft2, ft3, ft4, ft22, ft23, ft25, ft77, ft79, ft81, ft83, ft115, Tp.V, ints, hM, tR, List.length_map, en]
  refine ⟨by omega, by omega, ?_⟩
  refine LoopK.intro (fun x w z => ∃ (k : Nat) (R : List (List AV)), x = ns.length - k ∧ k ≤ ns.length ∧ RowsW R ns k (ns.length + 3) ∧ w 1 = .op M 3 0 0 ∧ w 2 = .op (M + 1) 3 0 0 ∧ w 3 = .osl (M + 2) 7 0 ns.length (ns.length + 3) true ∧ w 4 = .int .i64 k ∧ z = h ++ [.arr 3 [[AV.int IntKind.i64 vars, AV.isl 7 (List.map Nd.cells ns), AV.isl 1 (List.map intE outs)]] true, .arr 3 [[AV.int IntKind.i64 0, AV.nils, AV.nils]] true, .arr 7 R true]) ns.length ⟨0, _, rfl, by omega, RowsW.start, ?_, ?_, ?_, ?_, rfl⟩ ?_
  rotate_right
  all_goals (try (simp (maxSteps := 4000000) only [↓packA, ↓reduceIte, packB, pureOp, quietOp, loadOp, quietB, fr0, cellsK, implies_true, ite_true, ite_false, eq_self, ne_eq, reduceCtorEq, Nat.reduceLT, Nat.reduceLeDiff, Nat.reduceAdd, Nat.reduceMul, Nat.reduceBEq, Nat.reduceEqDiff, Int.reduceToNat, Int.reduceLT, Int.reduceLE, Nat.reduceSub, pl39, ft1, ft2, ft3, ft4, ft22, ft23, ft25, ft77, ft79, ft81, ft83, ft115, Int.natCast_zero]; done))
  rintro x w z ⟨k, R, rfl, hk, hR, a1, a2, a3, a4, rfl⟩
  by_cases c : k < ns.length
  · have q1 : (k : Int) < (ns.length : Int) := by omega
    obtain ⟨n, hnk⟩ : ∃ n, ns[k]? = some n := ⟨_, List.getElem?_eq_getElem c⟩
    have rk : (List.map Nd.cells ns)[k]? = some (Nd.cells n) := by rw [List.getElem?_map, hnk]; rfl
    have hnok : n.Ok := hns n (List.mem_of_getElem? hnk)
    have hcp := copyRat_c n.neg n.num n.den hnok.num hnok.den hnok.ln hnok.ld
    have rR : R[k]? = some zrow := hR.2.2 k (Nat.le_refl _) (by omega)
    have hRl := hR.1
    have rS : ∀ e, (R.set k e)[k]? = some e := fun e => List.getElem?_set_self (by omega)
    have hst := hR.step hnk (by omega)
    simp (maxSteps := 4000000) only [↓packA, ↓reduceIte, packB, pureOp, quietOp, loadOp, quietB, fr0, cellsK, implies_true, ite_true, ite_false, eq_self, ne_eq, reduceCtorEq, Nat.reduceLT, Nat.reduceLeDiff, Nat.reduceAdd, Nat.reduceMul, Nat.reduceBEq, Nat.reduceEqDiff, Int.reduceToNat, Int.reduceLT, Int.reduceLE, Nat.reduceSub, pl39, ft1, ft2, ft3, ft4, ft22, ft23, ft25, ft77, ft79, ft81, ft83, ft115, a1, a2, a3, a4, q1, rk, rR, rS, hM, tR, List.length_map, List.set_set, zrow, Nd.cells, patch, patch', Int.cast_ofNat_Int, Int.natCast_zero, Int.natCast_one, Int.reduceAdd, Int.reduceSub, Int.reduceNeg, Int.reduceMul, Int.reduceToNat, Int.reduceLT, Int.reduceLE, Int.reduceEq, Int.reduceBEq, Int.reduceBNe, Nat.reduceSub, Nat.reduceLT, List.getD_cons_zero, List.getD_cons_succ, List.length_singleton, Bool.and_true, Bool.and_false]
    refine ⟨by omega, by omega, by omega, acalls_fresh hcp (.cons (.pure _ rfl) .nil) fun u hx hz => ⟨_, hz, ?_⟩⟩
    simp (maxSteps := 4000000) only [↓packA, ↓reduceIte, packB, pureOp, quietOp, loadOp, quietB, fr0, cellsK, implies_true, ite_true, ite_false, eq_self, ne_eq, reduceCtorEq, Nat.reduceLT, Nat.reduceLeDiff, Nat.reduceAdd, Nat.reduceMul, Nat.reduceBEq, Nat.reduceEqDiff, Int.reduceToNat, Int.reduceLT, Int.reduceLE, Nat.reduceSub, pl39, ft1, ft2, ft3, ft4, ft22, ft23, ft25, ft77, ft79, ft81, ft83, ft115, ratV, lims, a1, a2, a3, a4, q1, rk, rR, rS, hM, tR, List.length_map, List.set_set, zrow, Nd.cells, patch, patch', Int.cast_ofNat_Int, Int.natCast_zero, Int.natCast_one, Int.reduceAdd, Int.reduceSub, Int.reduceNeg, Int.reduceMul, Int.reduceToNat, Int.reduceLT, Int.reduceLE, Int.reduceEq, Int.reduceBEq, Int.reduceBNe, Nat.reduceSub, Nat.reduceLT, List.getD_cons_zero, List.getD_cons_succ, List.length_singleton, Bool.and_true, Bool.and_false]
    exact ⟨by omega, by omega, .inl ⟨ns.length - (k + 1), by omega, k + 1, _, rfl, by omega, hst, by omega, rfl⟩⟩
  · have q1 : ¬ (k : Int) < (ns.length : Int) := by omega
    obtain rfl : k = ns.length := by omega
    have hRf := hR.full
    have hcy := copy_c outs (by omega)
    simp (maxSteps := 4000000) only [↓packA, ↓reduceIte, packB, pureOp, quietOp, loadOp, quietB, fr0, cellsK, implies_true, ite_true, ite_false, eq_self, ne_eq, reduceCtorEq, Nat.reduceLT, Nat.reduceLeDiff, Nat.reduceAdd, Nat.reduceMul, Nat.reduceBEq, Nat.reduceEqDiff, Int.reduceToNat, Int.reduceLT, Int.reduceLE, Nat.reduceSub, pl39, ft1, ft2, ft3, ft4, ft22, ft23, ft25, ft77, ft79, ft81, ft83, ft115, a1, a2, a3, a4, q1, hM, tR, List.length_map]
    refine acalls_shift hcy rfl fun u h0 ⟨hu, hh⟩ => ?_
    subst hu hh
    simp (maxSteps := 4000000) only [↓packA, ↓reduceIte, packB, pureOp, quietOp, loadOp, quietB, fr0, cellsK, implies_true, ite_true, ite_false, eq_self, ne_eq, reduceCtorEq, Nat.reduceLT, Nat.reduceLeDiff, Nat.reduceAdd, Nat.reduceMul, Nat.reduceBEq, Nat.reduceEqDiff, Int.reduceToNat, Int.reduceLT, Int.reduceLE, Nat.reduceSub, pl39, ft1, ft2, ft3, ft4, ft22, ft23, ft25, ft77, ft79, ft81, ft83, ft115, a1, a2, a3, a4, q1, hM, tR, List.length_map, patch, patch', Int.cast_ofNat_Int, Int.natCast_zero, Int.natCast_one, Int.reduceAdd, Int.reduceSub, Int.reduceNeg, Int.reduceMul, Int.reduceToNat, Int.reduceLT, Int.reduceLE, Int.reduceEq, Int.reduceBEq, Int.reduceBNe, Nat.reduceSub, Nat.reduceLT, List.getD_cons_zero, List.getD_cons_succ, List.length_singleton, Bool.and_true, Bool.and_false]
    have hg1 : (h ++ [Ob.arr 3 [[AV.int IntKind.i64 vars, AV.isl 7 (List.map Nd.cells ns), AV.isl 1 (List.map intE outs)]] true, Ob.arr 3 [[AV.int IntKind.i64 vars, AV.osl (M + 2) 7 0 ns.length (ns.length + 3) true, AV.osl (M + 3) 1 0 outs.length (outs.length + 3) true]] true, Ob.arr 7 R true, Ob.arr 1 (List.map intE (outs ++ [0, 0, 0])) true])[M + 2]? = some (Ob.arr 7 R true) := gR hM _ 2
    have hg2 : (h ++ [Ob.arr 3 [[AV.int IntKind.i64 vars, AV.isl 7 (List.map Nd.cells ns), AV.isl 1 (List.map intE outs)]] true, Ob.arr 3 [[AV.int IntKind.i64 vars, AV.osl (M + 2) 7 0 ns.length (ns.length + 3) true, AV.osl (M + 3) 1 0 outs.length (outs.length + 3) true]] true, Ob.arr 7 R true, Ob.arr 1 (List.map intE (outs ++ [0, 0, 0])) true])[M + 3]? = some (Ob.arr 1 (List.map intE (outs ++ [0, 0, 0])) true) := gR hM _ 3
    refine hq _ _ _ (.inr ⟨M + 2, ns.length + 3, true, [zrow, zrow, zrow], true, by rw [List.length_map], fun e => by omega, by rw [hg1, hRf], by simp, by simp, fun e he => by simp at he; subst he; rfl⟩) (.inr ⟨M + 3, outs.length + 3, true, List.map intE [0, 0, 0], true, by rw [List.length_map], fun e => by omega, by rw [hg2, List.map_append], by simp, by simp, fun e he => by simp at he; subst he; rfl⟩) (by simp) (fun i hi => List.getElem?_append_left hi) ⟨_, _, _, rfl⟩
end Go.Proofs.Ytgdlkhgfehclpaa
end

section
/- What a tape without fault is. No condition. -/
namespace Go.Proofs.Ytgdlkhgfehclpaa
open Go Go.AL
set_option linter.unusedVariables false
set_option linter.unusedSimpArgs false
theorem goO_ok (t : Tp) : ∀ r, r ≤ t.outs.length → (t.goO r).2 = 0 → ∀ k, t.outs.length - r ≤ k → k < t.outs.length → 0 ≤ t.outs.getD k default ∧ t.outs.getD k default < t.ns.length
  | 0, _, _, k, hk, hl => by omega
  | r + 1, hr, h, k, hk, hl => by
    unfold Tp.goO at h
    by_cases c : t.outs.getD (t.outs.length - (r + 1)) default < 0 ∨ (t.ns.length : Int) ≤ t.outs.getD (t.outs.length - (r + 1)) default
    · rw [if_pos c] at h
      exact absurd h (show ¬ (108 : Int) = 0 by decide)
    · rw [if_neg c] at h
      by_cases e : k = t.outs.length - (r + 1)
      · subst e
        omega
      · exact goO_ok t r (by omega) h k (by omega) hl
theorem goN_ok (t : Tp) : ∀ r, r ≤ t.ns.length → (t.goN r).2 = 0 → (∀ (k : Nat) (n : Nd), t.ns.length - r ≤ k → t.ns[k]? = some n → n.wrong t.vars k = 0) ∧ (t.goO t.outs.length).2 = 0
  | 0, _, h => ⟨fun k n hk hn => by have := (List.getElem?_eq_some_iff.1 hn).1; omega, h⟩
  | r + 1, hr, h => by
    unfold Tp.goN at h
    by_cases c : (t.ns.getD (t.ns.length - (r + 1)) default).wrong t.vars (t.ns.length - (r + 1) : Nat) ≠ 0
    · rw [if_pos c] at h
      exact absurd h c
    · rw [if_neg c] at h
      obtain ⟨h1, h2⟩ := goN_ok t r (by omega) h
      refine ⟨fun k n hk hn => ?_, h2⟩
      by_cases e : k = t.ns.length - (r + 1)
      · subst e
        rw [List.getD_eq_getElem?_getD, hn] at c
        exact Classical.byContradiction fun hc => c hc
      · exact h1 k n (by omega) hn
/-- Of a tape that is let through. -/
theorem check_ok (t : Tp) (h : t.check.2 = 0) : (0 ≤ t.vars ∧ t.vars ≤ 64) ∧ t.ns.length ≤ 2048 ∧ (0 < t.outs.length ∧ t.outs.length ≤ 64) ∧ (∀ (k : Nat) (n : Nd), t.ns[k]? = some n → n.wrong t.vars k = 0) ∧ (∀ k : Nat, k < t.outs.length → 0 ≤ t.outs.getD k default ∧ t.outs.getD k default < t.ns.length) := by
  unfold Tp.check at h
  by_cases c1 : t.vars < 0 ∨ 64 < t.vars
  · rw [if_pos c1] at h; exact absurd h (by decide)
  rw [if_neg c1] at h
  by_cases c2 : 2048 < t.ns.length
  · rw [if_pos c2] at h; exact absurd h (by decide)
  rw [if_neg c2] at h
  by_cases c3 : t.outs.length = 0 ∨ 64 < t.outs.length
  · rw [if_pos c3] at h; exact absurd h (by decide)
  rw [if_neg c3] at h
  obtain ⟨h1, h2⟩ := goN_ok t _ (Nat.le_refl _) h
  exact ⟨by omega, by omega, by omega, fun k n hn => h1 k n (by omega) hn, fun k hk => goO_ok t _ (Nat.le_refl _) h2 k (by omega) hk⟩
/-- Of a node that is let through: where it may point. -/
theorem wrong_ok {n : Nd} {vars i : Int} (h : n.wrong vars i = 0) : (1 ≤ n.op ∧ n.op ≤ 8) ∧ (n.op = 1 → 0 ≤ n.a ∧ n.a < vars) ∧ (3 ≤ n.op → 0 ≤ n.a ∧ n.a < i) ∧ (two n.op = true → 0 ≤ n.b ∧ n.b < i) := by
  unfold Nd.wrong at h
  have ht : two n.op = true → 3 ≤ n.op := fun ht => by
    have := of_decide_eq_true ht
    omega
  by_cases c1 : n.op < 1 ∨ 8 < n.op
  · rw [if_pos c1] at h; exact absurd h (by decide)
  rw [if_neg c1] at h
  by_cases c2 : n.spare = true
  · rw [if_pos c2] at h; exact absurd h (by decide)
  rw [if_neg c2] at h
  by_cases c3 : n.op = 1
  · rw [if_pos c3] at h
    by_cases c4 : n.a < 0 ∨ vars ≤ n.a
    · rw [if_pos c4] at h; exact absurd h (by decide)
    · exact ⟨by omega, fun _ => by omega, fun h => by omega, fun h => by have := ht h; omega⟩
  rw [if_neg c3] at h
  by_cases c4 : n.op = 2
  · exact ⟨by omega, fun h => absurd h c3, fun h => by omega, fun h => by have := ht h; omega⟩
  rw [if_neg c4] at h
  by_cases c5 : n.a < 0 ∨ i ≤ n.a
  · rw [if_pos c5] at h; exact absurd h (by decide)
  rw [if_neg c5] at h
  by_cases c6 : two n.op = true ∧ (n.b < 0 ∨ i ≤ n.b)
  · rw [if_pos c6] at h; exact absurd h (by decide)
  exact ⟨by omega, fun h => absurd h c3, fun _ => by omega, fun h => by
    have : ¬ (n.b < 0 ∨ i ≤ n.b) := fun hc => c6 ⟨h, hc⟩
    omega⟩
end Go.Proofs.Ytgdlkhgfehclpaa
end
