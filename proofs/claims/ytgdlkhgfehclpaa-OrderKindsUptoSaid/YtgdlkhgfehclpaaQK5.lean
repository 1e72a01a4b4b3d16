/- Texts of one claim bound together: POS, POT, POU, POV, POW, POt, POb, POp, POv, POu, POw, POx. -/
import Derived.Test.YtgdlkhgfehclpaaQK4

section
/- Insertion sort. No condition. -/
namespace Go.Proofs.Ytgdlkhgfehclpaa
open Go Go.AL
set_option linter.unusedVariables false
set_option linter.unusedSimpArgs false
/-- What the compare of two vertices answers. -/
def Cmp (pid : Nat) (o : Ob) (n : Int) (d : Int → Int) : Prop := ∀ {x y : Int} {h : Heap} {Q : AV → Heap → Prop}, h[pid]? = some o → (0 ≤ x ∧ x < n) → (0 ≤ y ∧ y < n) → (∀ k : Int, (k < 0 ↔ d y < d x) → Q (.int .i64 k) h) → ACalls Try.prog 102 [.int .i64 x, .int .i64 y, .op pid 4 0 0] h Q
def Dom (n : Int) (es : List Int) (a b : Nat) : Prop := ∀ i, a ≤ i → i < b → 0 ≤ gv es i ∧ gv es i < n
set_option maxRecDepth 100000 in
theorem ins_c {pid : Nat} {o : Ob} {n : Int} {d : Int → Int} (hcmp : Cmp pid o n d) {h : Heap} {id len cap : Nat} {ex ex' : Bool} {es : List Int} {a b : Nat} {Q : AV → Heap → Prop} (hb : es.length < 1000000000) (hid : h[id]? = some (.arr 1 (List.map intE es) ex')) (hp : h[pid]? = some o) (hne : id ≠ pid) (hl : len ≤ es.length) (hab : a ≤ b) (hbl : b ≤ len) (hdom : Dom n es a b) (hu : Up es a b)
    (hq : ∀ gs : List Int, Sm es gs a b → Sd d gs a b → Q (.tup []) (h.set id (.arr 1 (List.map intE gs) ex'))) :
    ACalls Try.prog 125 [.osl id 1 0 len cap ex, .int .i64 a, .int .i64 b, .fn (.func 102) [] [.op pid 4 0 0]] h Q := by
  have hlt : id < h.length := (List.getElem?_eq_some_iff.1 hid).1
  have hse : ∀ o : Ob, (h.set id o)[id]? = some o := fun o => List.getElem?_set_self hlt
  have hsp : ∀ o' : Ob, (h.set id o')[pid]? = some o := fun o' => by rw [List.getElem?_set_ne hne]; exact hp
  refine wp125 rfl rfl ?_
  simp (maxSteps := 4000000) +contextual only [↓packA0, ↓packA1, ↓packA2, ↓reduceIte, packB0, packB1, packB2, packB3, packB4, pureOp, quietOp, loadOp, quietB, fr0, cellsK, Option.getD_some, Option.getD_none, implies_true, ite_true, ite_false, eq_self, ne_eq, reduceCtorEq, Nat.reduceLT, Nat.reduceLeDiff, Nat.reduceAdd, Nat.reduceMul, Nat.reduceBEq, Nat.reduceEqDiff, Int.reduceToNat, Int.reduceLT, Int.reduceLE, Nat.reduceSub, pl125, tsize_3, tbytes_3, tagg_3, zcells_3, telem_3, tint_3, tnotIface_3, tsize_23, tbytes_23, tagg_23, zcells_23, telem_23, tnotIface_23]
  refine ⟨by omega, ?_⟩
  refine LoopK.intro (fun w u h1 => ∃ (i : Nat) (cs : List Int), w = b + 1 - i ∧ a < i ∧ (i ≤ b ∨ i = a + 1) ∧ Sm es cs a (min i b) ∧ Sd d cs a (min i b) ∧ u 0 = .osl id 1 0 len cap ex ∧ u 1 = .int .i64 a ∧ u 2 = .int .i64 b ∧ u 3 = .fn (.func 102) [] [.op pid 4 0 0] ∧ u 8 = .int .i64 i ∧ h1 = h.set id (.arr 1 (List.map intE cs) ex')) (b + 1 - (a + 1)) ⟨a + 1, es, rfl, by omega, by omega, Sm.rfl', fun i j h1 h2 h3 => by omega, ?_⟩ ?_
  · simp (maxSteps := 4000000) only [↓packA0, ↓packA1, ↓packA2, ↓reduceIte, packB0, packB1, packB2, packB3, packB4, pureOp, quietOp, loadOp, quietB, fr0, cellsK, Option.getD_some, Option.getD_none, implies_true, ite_true, ite_false, eq_self, ne_eq, reduceCtorEq, Nat.reduceLT, Nat.reduceLeDiff, Nat.reduceAdd, Nat.reduceMul, Nat.reduceBEq, Nat.reduceEqDiff, Int.reduceToNat, Int.reduceLT, Int.reduceLE, Nat.reduceSub, pl125, tsize_3, tbytes_3, tagg_3, zcells_3, telem_3, tint_3, tnotIface_3, tsize_23, tbytes_23, tagg_23, zcells_23, telem_23, tnotIface_23, set_same hid]
    omega
  rintro w u h1 ⟨i, cs, rfl, hai, hib, hs, hd, u0, u1, u2, u3, u8, rfl⟩
  have hcl := hs.len
  simp (maxSteps := 4000000) +contextual only [↓packA0, ↓packA1, ↓packA2, ↓reduceIte, packB0, packB1, packB2, packB3, packB4, pureOp, quietOp, loadOp, quietB, fr0, cellsK, Option.getD_some, Option.getD_none, implies_true, ite_true, ite_false, eq_self, ne_eq, reduceCtorEq, Nat.reduceLT, Nat.reduceLeDiff, Nat.reduceAdd, Nat.reduceMul, Nat.reduceBEq, Nat.reduceEqDiff, Int.reduceToNat, Int.reduceLT, Int.reduceLE, Nat.reduceSub, pl125, tsize_3, tbytes_3, tagg_3, zcells_3, telem_3, tint_3, tnotIface_3, tsize_23, tbytes_23, tagg_23, zcells_23, telem_23, tnotIface_23, u0, u1, u2, u3, u8]
  refine ⟨fun h2 => ?_, fun h2 => ?_⟩
  · rw [show min i b = i by omega] at hs hd
    refine LoopK.intro (fun w u h1 => ∃ (j : Nat) (cs : List Int), w = j - a ∧ a ≤ j ∧ j ≤ i ∧ Ins d es cs a i j ∧ u 0 = .osl id 1 0 len cap ex ∧ u 1 = .int .i64 a ∧ u 2 = .int .i64 b ∧ u 3 = .fn (.func 102) [] [.op pid 4 0 0] ∧ u 8 = .int .i64 i ∧ u 9 = .int .i64 j ∧ h1 = h.set id (.arr 1 (List.map intE cs) ex')) (i - a) ⟨i, cs, rfl, by omega, Nat.le_refl _, Ins.start hu (by omega) (by omega) hs hd, ?_⟩ ?_
    · simp (maxSteps := 4000000) only [↓packA0, ↓packA1, ↓packA2, ↓reduceIte, packB0, packB1, packB2, packB3, packB4, pureOp, quietOp, loadOp, quietB, fr0, cellsK, Option.getD_some, Option.getD_none, implies_true, ite_true, ite_false, eq_self, ne_eq, reduceCtorEq, Nat.reduceLT, Nat.reduceLeDiff, Nat.reduceAdd, Nat.reduceMul, Nat.reduceBEq, Nat.reduceEqDiff, Int.reduceToNat, Int.reduceLT, Int.reduceLE, Nat.reduceSub, pl125, tsize_3, tbytes_3, tagg_3, zcells_3, telem_3, tint_3, tnotIface_3, tsize_23, tbytes_23, tagg_23, zcells_23, telem_23, tnotIface_23, u0, u1, u2, u3, u8]
    clear hs hd hcl u0 u1 u2 u3 u8
    rintro w u h1 ⟨j, cs, rfl, haj, hji, hI, u0, u1, u2, u3, u8, u9, rfl⟩
    have hcl := hI.sm.len
    have hdm : ∀ q, a ≤ q → q < b → 0 ≤ cs.getD q default ∧ cs.getD q default < n := hI.sm.all (p := fun x => 0 ≤ x ∧ x < n) (Nat.le_refl _) (by omega) hdom
    by_cases hja : a < j
    · have e1 : (j : Int) - 1 = ((j - 1 : Nat) : Int) := by omega
      have e2 : (a : Int) < (j : Int) := by omega
      simp (maxSteps := 4000000) only [↓packA0, ↓packA1, ↓packA2, ↓reduceIte, packB0, packB1, packB2, packB3, packB4, pureOp, quietOp, loadOp, quietB, fr0, cellsK, Option.getD_some, Option.getD_none, implies_true, ite_true, ite_false, eq_self, ne_eq, reduceCtorEq, Nat.reduceLT, Nat.reduceLeDiff, Nat.reduceAdd, Nat.reduceMul, Nat.reduceBEq, Nat.reduceEqDiff, Int.reduceToNat, Int.reduceLT, Int.reduceLE, Nat.reduceSub, pl125, tsize_3, tbytes_3, tagg_3, zcells_3, telem_3, tint_3, tnotIface_3, tsize_23, tbytes_23, tagg_23, zcells_23, telem_23, tnotIface_23, u0, u1, u2, u3, u8, u9, hse, e1, e2]
      refine ⟨by omega, by omega, by omega, by omega, by omega, hcmp (hsp _) (hdm _ (by omega) (by omega)) (hdm _ (by omega) (by omega)) fun k hk => ?_⟩
      simp (maxSteps := 4000000) only [↓packA0, ↓packA1, ↓packA2, ↓reduceIte, packB0, packB1, packB2, packB3, packB4, pureOp, quietOp, loadOp, quietB, fr0, cellsK, Option.getD_some, Option.getD_none, implies_true, ite_true, ite_false, eq_self, ne_eq, reduceCtorEq, Nat.reduceLT, Nat.reduceLeDiff, Nat.reduceAdd, Nat.reduceMul, Nat.reduceBEq, Nat.reduceEqDiff, Int.reduceToNat, Int.reduceLT, Int.reduceLE, Nat.reduceSub, pl125, tsize_3, tbytes_3, tagg_3, zcells_3, telem_3, tint_3, tnotIface_3, tsize_23, tbytes_23, tagg_23, zcells_23, telem_23, tnotIface_23, u0, u1, u2, u3, u8, u9, hse, e1, e2, List.set_set]
      refine ⟨fun h3 => ⟨by omega, by omega, by omega, by omega, by omega, by omega, by omega, by omega, by omega, by omega, by omega, .inl ⟨j - 1 - a, by omega, j - 1, sw cs j (j - 1), rfl, by omega, by omega, hI.step hja hji (by omega) (hk.1 h3), rfl, rfl⟩⟩, fun h3 => ⟨by omega, .inl ⟨b + 1 - (i + 1), by omega, i + 1, cs, rfl, by omega, by omega, ?_, ?_, by omega, rfl⟩⟩⟩
      · rw [show min (i + 1) b = i + 1 by omega]; exact hI.sm
      · rw [show min (i + 1) b = i + 1 by omega]; exact hI.stop haj hji (.inr fun h4 => absurd (hk.2 h4) (by omega))
    · have e2 : ¬ (a : Int) < (j : Int) := by omega
      simp (maxSteps := 4000000) only [↓packA0, ↓packA1, ↓packA2, ↓reduceIte, packB0, packB1, packB2, packB3, packB4, pureOp, quietOp, loadOp, quietB, fr0, cellsK, Option.getD_some, Option.getD_none, implies_true, ite_true, ite_false, eq_self, ne_eq, reduceCtorEq, Nat.reduceLT, Nat.reduceLeDiff, Nat.reduceAdd, Nat.reduceMul, Nat.reduceBEq, Nat.reduceEqDiff, Int.reduceToNat, Int.reduceLT, Int.reduceLE, Nat.reduceSub, pl125, tsize_3, tbytes_3, tagg_3, zcells_3, telem_3, tint_3, tnotIface_3, tsize_23, tbytes_23, tagg_23, zcells_23, telem_23, tnotIface_23, u0, u1, u2, u3, u8, u9, hse, e2]
      refine ⟨by omega, .inl ⟨b + 1 - (i + 1), by omega, i + 1, cs, rfl, by omega, by omega, ?_, ?_, by omega, rfl⟩⟩
      · rw [show min (i + 1) b = i + 1 by omega]; exact hI.sm
      · rw [show min (i + 1) b = i + 1 by omega]; exact hI.stop haj hji (.inl (by omega))
  · rw [show min i b = b by omega] at hs hd
    exact hq cs hs hd
end Go.Proofs.Ytgdlkhgfehclpaa
end

section
/- The symmetric merge. No condition. -/
namespace Go.Proofs.Ytgdlkhgfehclpaa
open Go Go.AL
set_option linter.unusedVariables false
set_option linter.unusedSimpArgs false
theorem asx_assoc {P : Program} {n : Nat} {pl : Nat → Plan} {x y z : Code} {Q : Exit → Fr → Heap → Prop} {a : Fr} {h : Heap} : asx P n pl (.seq x (.seq y z)) Q a h = asx P n pl (.seq (.seq x y) z) Q a h := by
  rw [asx_seq, asx_seq, asx_seq]
  congr 1
  funext e u v
  cases e <;> rfl
theorem half_eq {i j : Nat} (h : i + j < 10000000000) : (IntKind.u64.wrap ((i : Int) + (j : Int))).fdiv (2 ^ min 1 IntKind.u64.bits) = (((i + j) / 2 : Nat) : Int) := by
  have e : IntKind.u64.wrap ((i : Int) + (j : Int)) = (i : Int) + j := by
    simp [IntKind.wrap, IntKind.bits, IntKind.signed]
    omega
  rw [e, show (2 : Int) ^ min 1 IntKind.u64.bits = 2 from rfl, Int.fdiv_eq_ediv_of_nonneg _ (by omega)]
  omega
set_option maxRecDepth 100000 in
theorem merge1_c {pid : Nat} {o : Ob} {n : Int} {d : Int → Int} (hcmp : Cmp pid o n d) {h : Heap} {id len cap : Nat} {ex ex' : Bool} {es : List Int} {a m b : Nat} {Q : AV → Heap → Prop} (hb : es.length < 1000000000) (hid : h[id]? = some (.arr 1 (List.map intE es) ex')) (hp : h[pid]? = some o) (hne : id ≠ pid) (hl : len ≤ es.length) (ham : m = a + 1) (hmb : m < b) (hbl : b ≤ len) (hdom : Dom n es a b)
    (hr : Sd d es m b) (hx : Xn es a m m b)
    (hq : ∀ gs : List Int, Sm es gs a b → Sd d gs a b → Q (.tup []) (h.set id (.arr 1 (List.map intE gs) ex'))) :
    ACalls Try.prog 126 [.osl id 1 0 len cap ex, .int .i64 a, .int .i64 m, .int .i64 b, .fn (.func 102) [] [.op pid 4 0 0]] h Q := by
  have hlt : id < h.length := (List.getElem?_eq_some_iff.1 hid).1
  have hse : ∀ o : Ob, (h.set id o)[id]? = some o := fun o => List.getElem?_set_self hlt
  have e1 : (m : Int) - (a : Int) = 1 := by omega
  refine wp126 rfl rfl ?_
  simp (maxSteps := 4000000) only [↓packA0, ↓packA1, ↓packA2, ↓reduceIte, packB0, packB1, packB2, packB3, packB4, pureOp, quietOp, loadOp, quietB, fr0, cellsK, Option.getD_some, Option.getD_none, implies_true, ite_true, ite_false, eq_self, ne_eq, reduceCtorEq, Nat.reduceLT, Nat.reduceLeDiff, Nat.reduceAdd, Nat.reduceMul, Nat.reduceBEq, Nat.reduceEqDiff, Int.reduceToNat, Int.reduceLT, Int.reduceLE, Nat.reduceSub, pl126, tsize_3, tbytes_3, tagg_3, zcells_3, telem_3, tint_3, tnotIface_3, tsize_4, tbytes_4, tagg_4, zcells_4, telem_4, tbool_4, tnotIface_4, tsize_23, tbytes_23, tagg_23, zcells_23, telem_23, tnotIface_23, tfun_160, telem_160, tsize_173, tbytes_173, tagg_173, zcells_173, telem_173, tint_173, tnotIface_173, e1]
  refine LoopK.intro (fun w u h1 => ∃ (i j : Nat), w = j - i ∧ m ≤ i ∧ i ≤ j ∧ j ≤ b ∧ (i = m ∨ ltD d (gv es (i - 1)) (gv es a)) ∧ (j = b ∨ ltD d (gv es a) (gv es j)) ∧ u 0 = .osl id 1 0 len cap ex ∧ u 1 = .int .i64 a ∧ u 4 = .fn (.func 102) [] [.op pid 4 0 0] ∧ u 10 = .int .i64 i ∧ u 11 = .int .i64 j ∧ h1 = h) (b - m) ⟨m, b, rfl, by omega, by omega, by omega, .inl rfl, .inl rfl, ?_⟩ ?_
  · simp (maxSteps := 4000000) only [↓packA0, ↓packA1, ↓packA2, ↓reduceIte, packB0, packB1, packB2, packB3, packB4, pureOp, quietOp, loadOp, quietB, fr0, cellsK, Option.getD_some, Option.getD_none, implies_true, ite_true, ite_false, eq_self, ne_eq, reduceCtorEq, Nat.reduceLT, Nat.reduceLeDiff, Nat.reduceAdd, Nat.reduceMul, Nat.reduceBEq, Nat.reduceEqDiff, Int.reduceToNat, Int.reduceLT, Int.reduceLE, Nat.reduceSub, pl126, tsize_3, tbytes_3, tagg_3, zcells_3, telem_3, tint_3, tnotIface_3, tsize_4, tbytes_4, tagg_4, zcells_4, telem_4, tbool_4, tnotIface_4, tsize_23, tbytes_23, tagg_23, zcells_23, telem_23, tnotIface_23, tfun_160, telem_160, tsize_173, tbytes_173, tagg_173, zcells_173, telem_173, tint_173, tnotIface_173]
  rintro w u h ⟨i, j, rfl, him, hij, hjb, lo, hi, u0, u1, u4, u10, u11, rfl⟩
  have hm := half_eq (i := i) (j := j) (by omega)
  by_cases hlt2 : i < j
  · have e2 : (i : Int) < (j : Int) := by omega
    simp (maxSteps := 4000000) only [↓packA0, ↓packA1, ↓packA2, ↓reduceIte, packB0, packB1, packB2, packB3, packB4, pureOp, quietOp, loadOp, quietB, fr0, cellsK, Option.getD_some, Option.getD_none, implies_true, ite_true, ite_false, eq_self, ne_eq, reduceCtorEq, Nat.reduceLT, Nat.reduceLeDiff, Nat.reduceAdd, Nat.reduceMul, Nat.reduceBEq, Nat.reduceEqDiff, Int.reduceToNat, Int.reduceLT, Int.reduceLE, Nat.reduceSub, pl126, tsize_3, tbytes_3, tagg_3, zcells_3, telem_3, tint_3, tnotIface_3, tsize_4, tbytes_4, tagg_4, zcells_4, telem_4, tbool_4, tnotIface_4, tsize_23, tbytes_23, tagg_23, zcells_23, telem_23, tnotIface_23, tfun_160, telem_160, tsize_173, tbytes_173, tagg_173, zcells_173, telem_173, tint_173, tnotIface_173, u0, u1, u4, u10, u11, e2, hm, hid]
    refine ⟨by omega, by omega, by omega, by omega, by omega, by omega, hcmp hp (hdom _ (by omega) (by omega)) (hdom _ (by omega) (by omega)) fun k hk => ?_⟩
    have hn := hx a ((i + j) / 2) (by omega) (by omega) (by omega) (by omega)
    simp (maxSteps := 4000000) only [↓packA0, ↓packA1, ↓packA2, ↓reduceIte, packB0, packB1, packB2, packB3, packB4, pureOp, quietOp, loadOp, quietB, fr0, cellsK, Option.getD_some, Option.getD_none, implies_true, ite_true, ite_false, eq_self, ne_eq, reduceCtorEq, Nat.reduceLT, Nat.reduceLeDiff, Nat.reduceAdd, Nat.reduceMul, Nat.reduceBEq, Nat.reduceEqDiff, Int.reduceToNat, Int.reduceLT, Int.reduceLE, Nat.reduceSub, pl126, tsize_3, tbytes_3, tagg_3, zcells_3, telem_3, tint_3, tnotIface_3, tsize_4, tbytes_4, tagg_4, zcells_4, telem_4, tbool_4, tnotIface_4, tsize_23, tbytes_23, tagg_23, zcells_23, telem_23, tnotIface_23, tfun_160, telem_160, tsize_173, tbytes_173, tagg_173, zcells_173, telem_173, tint_173, tnotIface_173, u0, u1, u4, u10, u11, e2, hm, hid]
    refine ⟨fun h3 => ⟨by omega, .inl ⟨j - ((i + j) / 2 + 1), by omega, (i + j) / 2 + 1, j, rfl, by omega, by omega, by omega, .inr (.inl (hk.1 h3)), hi, by omega, rfl⟩⟩, fun h3 => .inl ⟨(i + j) / 2 - i, by omega, i, (i + j) / 2, rfl, by omega, by omega, by omega, lo, .inr ?_, rfl, rfl⟩⟩
    have h4 : ¬ d (gv es a) < d (gv es ((i + j) / 2)) := fun h4 => absurd (hk.2 h4) (by omega)
    unfold ltD
    omega
  · have e2 : ¬ (i : Int) < (j : Int) := by omega
    obtain rfl : i = j := by omega
    simp (maxSteps := 4000000) only [↓packA0, ↓packA1, ↓packA2, ↓reduceIte, packB0, packB1, packB2, packB3, packB4, pureOp, quietOp, loadOp, quietB, fr0, cellsK, Option.getD_some, Option.getD_none, implies_true, ite_true, ite_false, eq_self, ne_eq, reduceCtorEq, Nat.reduceLT, Nat.reduceLeDiff, Nat.reduceAdd, Nat.reduceMul, Nat.reduceBEq, Nat.reduceEqDiff, Int.reduceToNat, Int.reduceLT, Int.reduceLE, Nat.reduceSub, pl126, tsize_3, tbytes_3, tagg_3, zcells_3, telem_3, tint_3, tnotIface_3, tsize_4, tbytes_4, tagg_4, zcells_4, telem_4, tbool_4, tnotIface_4, tsize_23, tbytes_23, tagg_23, zcells_23, telem_23, tnotIface_23, tfun_160, telem_160, tsize_173, tbytes_173, tagg_173, zcells_173, telem_173, tint_173, tnotIface_173, u0, u1, u4, u10, u11, e2, hm, hid]
    refine LoopK.intro (fun w u h1 => ∃ (k : Nat) (cs : List Int), w = i - 1 - k ∧ a ≤ k ∧ k ≤ i - 1 ∧ Sm es cs a b ∧ (∀ q, a ≤ q → q < k → gv cs q = gv es (q + 1)) ∧ gv cs k = gv es a ∧ (∀ q, k < q → gv cs q = gv es q) ∧ u 0 = .osl id 1 0 len cap ex ∧ u 10 = .int .i64 i ∧ u 13 = .int .i64 k ∧ h1 = h.set id (.arr 1 (List.map intE cs) ex')) (i - 1 - a) ⟨a, es, rfl, by omega, by omega, Sm.rfl', fun q h1 h2 => by omega, rfl, fun q _ => rfl, ?_⟩ ?_
    · simp (maxSteps := 4000000) only [↓packA0, ↓packA1, ↓packA2, ↓reduceIte, packB0, packB1, packB2, packB3, packB4, pureOp, quietOp, loadOp, quietB, fr0, cellsK, Option.getD_some, Option.getD_none, implies_true, ite_true, ite_false, eq_self, ne_eq, reduceCtorEq, Nat.reduceLT, Nat.reduceLeDiff, Nat.reduceAdd, Nat.reduceMul, Nat.reduceBEq, Nat.reduceEqDiff, Int.reduceToNat, Int.reduceLT, Int.reduceLE, Nat.reduceSub, pl126, tsize_3, tbytes_3, tagg_3, zcells_3, telem_3, tint_3, tnotIface_3, tsize_4, tbytes_4, tagg_4, zcells_4, telem_4, tbool_4, tnotIface_4, tsize_23, tbytes_23, tagg_23, zcells_23, telem_23, tnotIface_23, tfun_160, telem_160, tsize_173, tbytes_173, tagg_173, zcells_173, telem_173, tint_173, tnotIface_173, u0, u1, u4, u10, u11, set_same hid]
    clear u0 u1 u4 u10 u11
    rintro w u h1 ⟨k, cs, rfl, hak, hki, hs, c1, c2, c3, u0, u10, u13, rfl⟩
    have hcl := hs.len
    have e3 : (i : Int) - 1 = ((i - 1 : Nat) : Int) := by omega
    have e4 : (k : Int) + 1 = ((k + 1 : Nat) : Int) := by omega
    by_cases hlt3 : k < i - 1
    · have e5 : (k : Int) < ((i - 1 : Nat) : Int) := by omega
      simp (maxSteps := 4000000) only [↓packA0, ↓packA1, ↓packA2, ↓reduceIte, packB0, packB1, packB2, packB3, packB4, pureOp, quietOp, loadOp, quietB, fr0, cellsK, Option.getD_some, Option.getD_none, implies_true, ite_true, ite_false, eq_self, ne_eq, reduceCtorEq, Nat.reduceLT, Nat.reduceLeDiff, Nat.reduceAdd, Nat.reduceMul, Nat.reduceBEq, Nat.reduceEqDiff, Int.reduceToNat, Int.reduceLT, Int.reduceLE, Nat.reduceSub, pl126, tsize_3, tbytes_3, tagg_3, zcells_3, telem_3, tint_3, tnotIface_3, tsize_4, tbytes_4, tagg_4, zcells_4, telem_4, tbool_4, tnotIface_4, tsize_23, tbytes_23, tagg_23, zcells_23, telem_23, tnotIface_23, tfun_160, telem_160, tsize_173, tbytes_173, tagg_173, zcells_173, telem_173, tint_173, tnotIface_173, u0, u10, u13, hse, e3, e4, e5, List.set_set]
      have g : ∀ q, gv (sw cs k (k + 1)) q = if q = k + 1 then gv cs k else if q = k then gv cs (k + 1) else gv cs q := fun q => gv_sw (by omega) (by omega)
      refine ⟨by omega, by omega, by omega, by omega, by omega, by omega, by omega, by omega, by omega, by omega, by omega, by omega, .inl ⟨i - 1 - (k + 1), by omega, k + 1, sw cs k (k + 1), rfl, by omega, by omega, hs.trans (Sm.sw (by omega) (by omega) (by omega)), fun q h1 h2 => ?_, ?_, fun q h1 => ?_, rfl, rfl⟩⟩
      · rw [g, if_neg (by omega)]
        by_cases e : q = k
        · rw [if_pos e, c3 _ (by omega), e]
        · rw [if_neg e, c1 q h1 (by omega)]
      · rw [g, if_pos rfl, c2]
      · rw [g, if_neg (by omega), if_neg (by omega), c3 q (by omega)]
    · have e5 : ¬ (k : Int) < ((i - 1 : Nat) : Int) := by omega
      obtain rfl : k = i - 1 := by omega
      simp (maxSteps := 4000000) only [↓packA0, ↓packA1, ↓packA2, ↓reduceIte, packB0, packB1, packB2, packB3, packB4, pureOp, quietOp, loadOp, quietB, fr0, cellsK, Option.getD_some, Option.getD_none, implies_true, ite_true, ite_false, eq_self, ne_eq, reduceCtorEq, Nat.reduceLT, Nat.reduceLeDiff, Nat.reduceAdd, Nat.reduceMul, Nat.reduceBEq, Nat.reduceEqDiff, Int.reduceToNat, Int.reduceLT, Int.reduceLE, Nat.reduceSub, pl126, tsize_3, tbytes_3, tagg_3, zcells_3, telem_3, tint_3, tnotIface_3, tsize_4, tbytes_4, tagg_4, zcells_4, telem_4, tbool_4, tnotIface_4, tsize_23, tbytes_23, tagg_23, zcells_23, telem_23, tnotIface_23, tfun_160, telem_160, tsize_173, tbytes_173, tagg_173, zcells_173, telem_173, tint_173, tnotIface_173, u0, u10, u13, hse, e3, e4, e5, List.set_set]
      refine ⟨by omega, hq cs hs (ins_left (i := i) (by rw [← ham]; exact hr) (by omega) hjb (by rw [← ham]; exact lo) hi c1 c2 fun q h1 => c3 q (by omega))⟩
set_option maxRecDepth 100000 in
theorem merge2_c {pid : Nat} {o : Ob} {n : Int} {d : Int → Int} (hcmp : Cmp pid o n d) {h : Heap} {id len cap : Nat} {ex ex' : Bool} {es : List Int} {a m b : Nat} {Q : AV → Heap → Prop} (hb : es.length < 1000000000) (hid : h[id]? = some (.arr 1 (List.map intE es) ex')) (hp : h[pid]? = some o) (hne : id ≠ pid) (hl : len ≤ es.length) (ham : a + 1 < m) (hmb : b = m + 1) (hbl : b ≤ len) (hdom : Dom n es a b)
    (hr : Sd d es a m) (hx : Xn es a m m b)
    (hq : ∀ gs : List Int, Sm es gs a b → Sd d gs a b → Q (.tup []) (h.set id (.arr 1 (List.map intE gs) ex'))) :
    ACalls Try.prog 126 [.osl id 1 0 len cap ex, .int .i64 a, .int .i64 m, .int .i64 b, .fn (.func 102) [] [.op pid 4 0 0]] h Q := by
  have hlt : id < h.length := (List.getElem?_eq_some_iff.1 hid).1
  have hse : ∀ o : Ob, (h.set id o)[id]? = some o := fun o => List.getElem?_set_self hlt
  have e0 : (m : Int) - (a : Int) = ((m - a : Nat) : Int) := by omega
  have e0' : ¬ ((m - a : Nat) : Int) = 1 := by omega
  have e1 : (b : Int) - (m : Int) = 1 := by omega
  refine wp126 rfl rfl ?_
  simp (maxSteps := 4000000) only [↓packA0, ↓packA1, ↓packA2, ↓reduceIte, packB0, packB1, packB2, packB3, packB4, pureOp, quietOp, loadOp, quietB, fr0, cellsK, Option.getD_some, Option.getD_none, implies_true, ite_true, ite_false, eq_self, ne_eq, reduceCtorEq, Nat.reduceLT, Nat.reduceLeDiff, Nat.reduceAdd, Nat.reduceMul, Nat.reduceBEq, Nat.reduceEqDiff, Int.reduceToNat, Int.reduceLT, Int.reduceLE, Nat.reduceSub, pl126, tsize_3, tbytes_3, tagg_3, zcells_3, telem_3, tint_3, tnotIface_3, tsize_4, tbytes_4, tagg_4, zcells_4, telem_4, tbool_4, tnotIface_4, tsize_23, tbytes_23, tagg_23, zcells_23, telem_23, tnotIface_23, tfun_160, telem_160, tsize_173, tbytes_173, tagg_173, zcells_173, telem_173, tint_173, tnotIface_173, e0, e0', e1]
  refine ⟨by omega, ?_⟩
  refine LoopK.intro (fun w u h1 => ∃ (i j : Nat), w = j - i ∧ a ≤ i ∧ i ≤ j ∧ j ≤ m ∧ (i = a ∨ ltD d (gv es (i - 1)) (gv es m)) ∧ (j = m ∨ ltD d (gv es m) (gv es j)) ∧ u 0 = .osl id 1 0 len cap ex ∧ u 2 = .int .i64 m ∧ u 4 = .fn (.func 102) [] [.op pid 4 0 0] ∧ u 14 = .int .i64 i ∧ u 15 = .int .i64 j ∧ h1 = h) (m - a) ⟨a, m, rfl, by omega, by omega, by omega, .inl rfl, .inl rfl, ?_⟩ ?_
  · simp (maxSteps := 4000000) only [↓packA0, ↓packA1, ↓packA2, ↓reduceIte, packB0, packB1, packB2, packB3, packB4, pureOp, quietOp, loadOp, quietB, fr0, cellsK, Option.getD_some, Option.getD_none, implies_true, ite_true, ite_false, eq_self, ne_eq, reduceCtorEq, Nat.reduceLT, Nat.reduceLeDiff, Nat.reduceAdd, Nat.reduceMul, Nat.reduceBEq, Nat.reduceEqDiff, Int.reduceToNat, Int.reduceLT, Int.reduceLE, Nat.reduceSub, pl126, tsize_3, tbytes_3, tagg_3, zcells_3, telem_3, tint_3, tnotIface_3, tsize_4, tbytes_4, tagg_4, zcells_4, telem_4, tbool_4, tnotIface_4, tsize_23, tbytes_23, tagg_23, zcells_23, telem_23, tnotIface_23, tfun_160, telem_160, tsize_173, tbytes_173, tagg_173, zcells_173, telem_173, tint_173, tnotIface_173]
  rintro w u h ⟨i, j, rfl, him, hij, hjb, lo, hi, u0, u1, u4, u10, u11, rfl⟩
  have hm := half_eq (i := i) (j := j) (by omega)
  by_cases hlt2 : i < j
  · have e2 : (i : Int) < (j : Int) := by omega
    simp (maxSteps := 4000000) only [↓packA0, ↓packA1, ↓packA2, ↓reduceIte, packB0, packB1, packB2, packB3, packB4, pureOp, quietOp, loadOp, quietB, fr0, cellsK, Option.getD_some, Option.getD_none, implies_true, ite_true, ite_false, eq_self, ne_eq, reduceCtorEq, Nat.reduceLT, Nat.reduceLeDiff, Nat.reduceAdd, Nat.reduceMul, Nat.reduceBEq, Nat.reduceEqDiff, Int.reduceToNat, Int.reduceLT, Int.reduceLE, Nat.reduceSub, pl126, tsize_3, tbytes_3, tagg_3, zcells_3, telem_3, tint_3, tnotIface_3, tsize_4, tbytes_4, tagg_4, zcells_4, telem_4, tbool_4, tnotIface_4, tsize_23, tbytes_23, tagg_23, zcells_23, telem_23, tnotIface_23, tfun_160, telem_160, tsize_173, tbytes_173, tagg_173, zcells_173, telem_173, tint_173, tnotIface_173, u0, u1, u4, u10, u11, e2, hm, hid]
    refine ⟨by omega, by omega, by omega, by omega, by omega, by omega, hcmp hp (hdom _ (by omega) (by omega)) (hdom _ (by omega) (by omega)) fun k hk => ?_⟩
    have hn := hx ((i + j) / 2) m (by omega) (by omega) (by omega) (by omega)
    by_cases h3 : k < 0
    · simp (maxSteps := 4000000) only [↓packA0, ↓packA1, ↓packA2, ↓reduceIte, packB0, packB1, packB2, packB3, packB4, pureOp, quietOp, loadOp, quietB, fr0, cellsK, Option.getD_some, Option.getD_none, implies_true, ite_true, ite_false, eq_self, ne_eq, reduceCtorEq, Nat.reduceLT, Nat.reduceLeDiff, Nat.reduceAdd, Nat.reduceMul, Nat.reduceBEq, Nat.reduceEqDiff, Int.reduceToNat, Int.reduceLT, Int.reduceLE, Nat.reduceSub, pl126, tsize_3, tbytes_3, tagg_3, zcells_3, telem_3, tint_3, tnotIface_3, tsize_4, tbytes_4, tagg_4, zcells_4, telem_4, tbool_4, tnotIface_4, tsize_23, tbytes_23, tagg_23, zcells_23, telem_23, tnotIface_23, tfun_160, telem_160, tsize_173, tbytes_173, tagg_173, zcells_173, telem_173, tint_173, tnotIface_173, u0, u1, u4, u10, u11, e2, hm, hid, h3]
      exact .inl ⟨(i + j) / 2 - i, by omega, i, (i + j) / 2, rfl, by omega, by omega, by omega, lo, .inr (.inl (hk.1 h3)), rfl, rfl⟩
    · simp (maxSteps := 4000000) only [↓packA0, ↓packA1, ↓packA2, ↓reduceIte, packB0, packB1, packB2, packB3, packB4, pureOp, quietOp, loadOp, quietB, fr0, cellsK, Option.getD_some, Option.getD_none, implies_true, ite_true, ite_false, eq_self, ne_eq, reduceCtorEq, Nat.reduceLT, Nat.reduceLeDiff, Nat.reduceAdd, Nat.reduceMul, Nat.reduceBEq, Nat.reduceEqDiff, Int.reduceToNat, Int.reduceLT, Int.reduceLE, Nat.reduceSub, pl126, tsize_3, tbytes_3, tagg_3, zcells_3, telem_3, tint_3, tnotIface_3, tsize_4, tbytes_4, tagg_4, zcells_4, telem_4, tbool_4, tnotIface_4, tsize_23, tbytes_23, tagg_23, zcells_23, telem_23, tnotIface_23, tfun_160, telem_160, tsize_173, tbytes_173, tagg_173, zcells_173, telem_173, tint_173, tnotIface_173, u0, u1, u4, u10, u11, e2, hm, hid, h3]
      refine ⟨by omega, .inl ⟨j - ((i + j) / 2 + 1), by omega, (i + j) / 2 + 1, j, rfl, by omega, by omega, by omega, .inr ?_, hi, by omega, rfl⟩⟩
      have h4 : ¬ d (gv es ((i + j) / 2)) < d (gv es m) := fun h4 => h3 (hk.2 h4)
      rw [Nat.add_sub_cancel]
      unfold ltD
      omega
  · have e2 : ¬ (i : Int) < (j : Int) := by omega
    obtain rfl : i = j := by omega
    simp (maxSteps := 4000000) only [↓packA0, ↓packA1, ↓packA2, ↓reduceIte, packB0, packB1, packB2, packB3, packB4, pureOp, quietOp, loadOp, quietB, fr0, cellsK, Option.getD_some, Option.getD_none, implies_true, ite_true, ite_false, eq_self, ne_eq, reduceCtorEq, Nat.reduceLT, Nat.reduceLeDiff, Nat.reduceAdd, Nat.reduceMul, Nat.reduceBEq, Nat.reduceEqDiff, Int.reduceToNat, Int.reduceLT, Int.reduceLE, Nat.reduceSub, pl126, tsize_3, tbytes_3, tagg_3, zcells_3, telem_3, tint_3, tnotIface_3, tsize_4, tbytes_4, tagg_4, zcells_4, telem_4, tbool_4, tnotIface_4, tsize_23, tbytes_23, tagg_23, zcells_23, telem_23, tnotIface_23, tfun_160, telem_160, tsize_173, tbytes_173, tagg_173, zcells_173, telem_173, tint_173, tnotIface_173, u0, u1, u4, u10, u11, e2, hm, hid]
    refine LoopK.intro (fun w u h1 => ∃ (k : Nat) (cs : List Int), w = k - i ∧ i ≤ k ∧ k ≤ m ∧ Sm es cs a b ∧ (∀ q, q < k → gv cs q = gv es q) ∧ gv cs k = gv es m ∧ (∀ q, k < q → q ≤ m → gv cs q = gv es (q - 1)) ∧ u 0 = .osl id 1 0 len cap ex ∧ u 14 = .int .i64 i ∧ u 17 = .int .i64 k ∧ h1 = h.set id (.arr 1 (List.map intE cs) ex')) (m - i) ⟨m, es, rfl, by omega, by omega, Sm.rfl', fun q _ => rfl, rfl, fun q h1 h2 => by omega, ?_⟩ ?_
    · simp (maxSteps := 4000000) only [↓packA0, ↓packA1, ↓packA2, ↓reduceIte, packB0, packB1, packB2, packB3, packB4, pureOp, quietOp, loadOp, quietB, fr0, cellsK, Option.getD_some, Option.getD_none, implies_true, ite_true, ite_false, eq_self, ne_eq, reduceCtorEq, Nat.reduceLT, Nat.reduceLeDiff, Nat.reduceAdd, Nat.reduceMul, Nat.reduceBEq, Nat.reduceEqDiff, Int.reduceToNat, Int.reduceLT, Int.reduceLE, Nat.reduceSub, pl126, tsize_3, tbytes_3, tagg_3, zcells_3, telem_3, tint_3, tnotIface_3, tsize_4, tbytes_4, tagg_4, zcells_4, telem_4, tbool_4, tnotIface_4, tsize_23, tbytes_23, tagg_23, zcells_23, telem_23, tnotIface_23, tfun_160, telem_160, tsize_173, tbytes_173, tagg_173, zcells_173, telem_173, tint_173, tnotIface_173, u0, u1, u4, u10, u11, set_same hid]
    clear u0 u1 u4 u10 u11
    rintro w u h1 ⟨k, cs, rfl, hak, hki, hs, c1, c2, c3, u0, u10, u13, rfl⟩
    have hcl := hs.len
    by_cases hlt3 : i < k
    · have e3 : (k : Int) - 1 = ((k - 1 : Nat) : Int) := by omega
      have e5 : (i : Int) < (k : Int) := by omega
      simp (maxSteps := 4000000) only [↓packA0, ↓packA1, ↓packA2, ↓reduceIte, packB0, packB1, packB2, packB3, packB4, pureOp, quietOp, loadOp, quietB, fr0, cellsK, Option.getD_some, Option.getD_none, implies_true, ite_true, ite_false, eq_self, ne_eq, reduceCtorEq, Nat.reduceLT, Nat.reduceLeDiff, Nat.reduceAdd, Nat.reduceMul, Nat.reduceBEq, Nat.reduceEqDiff, Int.reduceToNat, Int.reduceLT, Int.reduceLE, Nat.reduceSub, pl126, tsize_3, tbytes_3, tagg_3, zcells_3, telem_3, tint_3, tnotIface_3, tsize_4, tbytes_4, tagg_4, zcells_4, telem_4, tbool_4, tnotIface_4, tsize_23, tbytes_23, tagg_23, zcells_23, telem_23, tnotIface_23, tfun_160, telem_160, tsize_173, tbytes_173, tagg_173, zcells_173, telem_173, tint_173, tnotIface_173, u0, u10, u13, hse, e3, e5, List.set_set]
      have g : ∀ q, gv (sw cs k (k - 1)) q = if q = k - 1 then gv cs k else if q = k then gv cs (k - 1) else gv cs q := fun q => gv_sw (by omega) (by omega)
      refine ⟨by omega, by omega, by omega, by omega, by omega, by omega, by omega, by omega, by omega, by omega, by omega, .inl ⟨k - 1 - i, by omega, k - 1, sw cs k (k - 1), rfl, by omega, by omega, hs.trans (Sm.sw (by omega) (by omega) (by omega)), fun q h1 => ?_, ?_, fun q h1 h2 => ?_, rfl, rfl⟩⟩
      · rw [g, if_neg (by omega), if_neg (by omega), c1 q (by omega)]
      · rw [g, if_pos rfl, c2]
      · rw [g, if_neg (by omega)]
        by_cases e : q = k
        · rw [if_pos e, c1 _ (by omega), e]
        · rw [if_neg e, c3 q (by omega) h2]
    · have e5 : ¬ (i : Int) < (k : Int) := by omega
      obtain rfl : k = i := by omega
      simp (maxSteps := 4000000) only [↓packA0, ↓packA1, ↓packA2, ↓reduceIte, packB0, packB1, packB2, packB3, packB4, pureOp, quietOp, loadOp, quietB, fr0, cellsK, Option.getD_some, Option.getD_none, implies_true, ite_true, ite_false, eq_self, ne_eq, reduceCtorEq, Nat.reduceLT, Nat.reduceLeDiff, Nat.reduceAdd, Nat.reduceMul, Nat.reduceBEq, Nat.reduceEqDiff, Int.reduceToNat, Int.reduceLT, Int.reduceLE, Nat.reduceSub, pl126, tsize_3, tbytes_3, tagg_3, zcells_3, telem_3, tint_3, tnotIface_3, tsize_4, tbytes_4, tagg_4, zcells_4, telem_4, tbool_4, tnotIface_4, tsize_23, tbytes_23, tagg_23, zcells_23, telem_23, tnotIface_23, tfun_160, telem_160, tsize_173, tbytes_173, tagg_173, zcells_173, telem_173, tint_173, tnotIface_173, u0, u10, u13, hse, e5, List.set_set]
      subst hmb
      exact hq cs hs (ins_right (i := k) hr (by omega) hjb lo hi c1 c2 c3)
end Go.Proofs.Ytgdlkhgfehclpaa
end

section
/- The symmetric merge, in general. No condition. -/
namespace Go.Proofs.Ytgdlkhgfehclpaa
open Go Go.AL
set_option linter.unusedVariables false
set_option linter.unusedSimpArgs false
set_option maxHeartbeats 4000000 in
set_option maxRecDepth 100000 in
theorem merge_c {pid : Nat} {o : Ob} {n : Int} {d : Int → Int} (hcmp : Cmp pid o n d) : ∀ (w : Nat) {h : Heap} {id len cap : Nat} {ex ex' : Bool} {es : List Int} {a m b : Nat} {Q : AV → Heap → Prop} (hw : b - a ≤ w) (hb : es.length < 1000000000) (hid : h[id]? = some (.arr 1 (List.map intE es) ex')) (hp : h[pid]? = some o) (hne : id ≠ pid) (hl : len ≤ es.length) (ham : a < m) (hmb : m < b) (hbl : b ≤ len) (hdom : Dom n es a b)
    (hL : Sd d es a m) (hR : Sd d es m b) (hx : Xn es a m m b)
    (hq : ∀ gs : List Int, Sm es gs a b → Sd d gs a b → Q (.tup []) (h.set id (.arr 1 (List.map intE gs) ex'))),
    ACalls Try.prog 126 [.osl id 1 0 len cap ex, .int .i64 a, .int .i64 m, .int .i64 b, .fn (.func 102) [] [.op pid 4 0 0]] h Q := by
  intro w
  induction w with
  | zero => intro h id len cap ex ex' es a m b Q hw; omega
  | succ w ih =>
  intro h id len cap ex ex' es a m b Q hw hb hid hp hne hl ham hmb hbl hdom hL hR hx hq
  by_cases h1 : m = a + 1
  · exact merge1_c hcmp hb hid hp hne hl h1 hmb hbl hdom hR hx hq
  by_cases h2 : b = m + 1
  · exact merge2_c hcmp hb hid hp hne hl (by omega) h2 hbl hdom hL hx hq
  have hlt : id < h.length := (List.getElem?_eq_some_iff.1 hid).1
  have hse : ∀ o : Ob, (h.set id o)[id]? = some o := fun o => List.getElem?_set_self hlt
  have hsp : ∀ o' : Ob, (h.set id o')[pid]? = some o := fun o' => by rw [List.getElem?_set_ne hne]; exact hp
  obtain ⟨mid, hmid⟩ : ∃ mid, (a + b) / 2 = mid := ⟨_, rfl⟩
  have e0 : (m : Int) - (a : Int) = ((m - a : Nat) : Int) := by omega
  have e0' : ¬ ((m - a : Nat) : Int) = 1 := by omega
  have e1 : (b : Int) - (m : Int) = ((b - m : Nat) : Int) := by omega
  have e1' : ¬ ((b - m : Nat) : Int) = 1 := by omega
  have hh := half_eq (i := a) (j := b) (by omega)
  rw [hmid] at hh
  refine wp126 rfl rfl ?_
  rw [asx_assoc, asx_assoc, asx_assoc, asx_assoc, asx_assoc, asx_assoc, asx_assoc]
  refine asx_cut (fun u h1 => ∃ s : Nat, Cut d es a m b s mid ∧ u 0 = .osl id 1 0 len cap ex ∧ u 1 = .int .i64 a ∧ u 2 = .int .i64 m ∧ u 3 = .int .i64 b ∧ u 4 = .fn (.func 102) [] [.op pid 4 0 0] ∧ u 18 = .int .i64 mid ∧ u 19 = .int .i64 (mid + m : Nat) ∧ u 20 = .int .i64 s ∧ h1 = h) ?_ fun u h hM => ?_
  · have e2 : (mid : Int) + (m : Int) = ((mid + m : Nat) : Int) := by omega
    have e3 : ((mid + m : Nat) : Int) - 1 = ((mid + m - 1 : Nat) : Int) := by omega
    simp (maxSteps := 4000000) only [↓packA0, ↓packA1, ↓packA2, ↓reduceIte, packB0, packB1, packB2, packB3, packB4, pureOp, quietOp, loadOp, quietB, fr0, cellsK, Option.getD_some, Option.getD_none, implies_true, ite_true, ite_false, eq_self, ne_eq, reduceCtorEq, Nat.reduceLT, Nat.reduceLeDiff, Nat.reduceAdd, Nat.reduceMul, Nat.reduceBEq, Nat.reduceEqDiff, Int.reduceToNat, Int.reduceLT, Int.reduceLE, Nat.reduceSub, pl126, tsize_3, tbytes_3, tagg_3, zcells_3, telem_3, tint_3, tnotIface_3, tsize_4, tbytes_4, tagg_4, zcells_4, telem_4, tbool_4, tnotIface_4, tsize_23, tbytes_23, tagg_23, zcells_23, telem_23, tnotIface_23, tfun_160, telem_160, tsize_173, tbytes_173, tagg_173, zcells_173, telem_173, tint_173, tnotIface_173, e0, e0', e1, e1', hh, e2, e3]
    refine (fun body => ⟨by omega, by omega, by omega, by omega, by omega, fun h3 => ⟨by omega, by omega, LoopK.intro (fun w u h1 => ∃ (s r : Nat), w = r - s ∧ a ≤ s ∧ s ≤ r ∧ r ≤ m ∧ r ≤ mid ∧ m + mid ≤ b + s ∧ (s = a ∨ m + mid = b + s ∨ ltD d (gv es (s - 1)) (gv es (m + mid - s))) ∧ (r = m ∨ r = mid ∨ ltD d (gv es (m + mid - r - 1)) (gv es r)) ∧ u 0 = .osl id 1 0 len cap ex ∧ u 1 = .int .i64 a ∧ u 2 = .int .i64 m ∧ u 3 = .int .i64 b ∧ u 4 = .fn (.func 102) [] [.op pid 4 0 0] ∧ u 18 = .int .i64 mid ∧ u 19 = .int .i64 (mid + m : Nat) ∧ u 20 = .int .i64 s ∧ u 21 = .int .i64 r ∧ u 22 = .int .i64 (mid + m - 1 : Nat) ∧ h1 = h) (mid - (mid + m - b)) ⟨mid + m - b, mid, rfl, by omega, by omega, by omega, by omega, by omega, .inr (.inl (by omega)), .inr (.inl rfl), ?_⟩ body⟩,
      fun h3 => ⟨by omega, LoopK.intro _ (m - a) ⟨a, m, rfl, by omega, by omega, by omega, by omega, by omega, .inl rfl, .inl rfl, ?_⟩ body⟩⟩) ?_
    · rintro w u h ⟨s, r, rfl, c1, c2, c3, c4, c5, lo, hi, u0, u1, u2, u3, u4, u18, u19, u20, u21, u22, rfl⟩
      by_cases hlt2 : s < r
      · have hm := half_eq (i := s) (j := r) (by omega)
        obtain ⟨c, hc⟩ : ∃ c, (s + r) / 2 = c := ⟨_, rfl⟩
        rw [hc] at hm
        have e6 : (s : Int) < (r : Int) := by omega
        have e4 : ((mid + m - 1 : Nat) : Int) - (c : Int) = ((mid + m - 1 - c : Nat) : Int) := by omega
        simp (maxSteps := 4000000) only [↓packA0, ↓packA1, ↓packA2, ↓reduceIte, packB0, packB1, packB2, packB3, packB4, pureOp, quietOp, loadOp, quietB, fr0, cellsK, Option.getD_some, Option.getD_none, implies_true, ite_true, ite_false, eq_self, ne_eq, reduceCtorEq, Nat.reduceLT, Nat.reduceLeDiff, Nat.reduceAdd, Nat.reduceMul, Nat.reduceBEq, Nat.reduceEqDiff, Int.reduceToNat, Int.reduceLT, Int.reduceLE, Nat.reduceSub, pl126, tsize_3, tbytes_3, tagg_3, zcells_3, telem_3, tint_3, tnotIface_3, tsize_4, tbytes_4, tagg_4, zcells_4, telem_4, tbool_4, tnotIface_4, tsize_23, tbytes_23, tagg_23, zcells_23, telem_23, tnotIface_23, tfun_160, telem_160, tsize_173, tbytes_173, tagg_173, zcells_173, telem_173, tint_173, tnotIface_173, u0, u1, u2, u3, u4, u18, u19, u20, u21, u22, e6, hm, e4, hid]
        refine ⟨by omega, by omega, by omega, by omega, by omega, by omega, by omega, hcmp hp (hdom _ (by omega) (by omega)) (hdom _ (by omega) (by omega)) fun k hk => ?_⟩
        have hn := hx c (mid + m - 1 - c) (by omega) (by omega) (by omega) (by omega)
        by_cases h3 : k < 0
        · simp (maxSteps := 4000000) only [↓packA0, ↓packA1, ↓packA2, ↓reduceIte, packB0, packB1, packB2, packB3, packB4, pureOp, quietOp, loadOp, quietB, fr0, cellsK, Option.getD_some, Option.getD_none, implies_true, ite_true, ite_false, eq_self, ne_eq, reduceCtorEq, Nat.reduceLT, Nat.reduceLeDiff, Nat.reduceAdd, Nat.reduceMul, Nat.reduceBEq, Nat.reduceEqDiff, Int.reduceToNat, Int.reduceLT, Int.reduceLE, Nat.reduceSub, pl126, tsize_3, tbytes_3, tagg_3, zcells_3, telem_3, tint_3, tnotIface_3, tsize_4, tbytes_4, tagg_4, zcells_4, telem_4, tbool_4, tnotIface_4, tsize_23, tbytes_23, tagg_23, zcells_23, telem_23, tnotIface_23, tfun_160, telem_160, tsize_173, tbytes_173, tagg_173, zcells_173, telem_173, tint_173, tnotIface_173, u0, u1, u2, u3, u4, u18, u19, u20, u21, u22, e6, hm, e4, hid, h3]
          refine .inl ⟨c - s, by omega, s, c, rfl, by omega, by omega, by omega, by omega, by omega, lo, .inr (.inr ?_), rfl, rfl⟩
          rw [show m + mid - c - 1 = mid + m - 1 - c by omega]
          exact .inl (hk.1 h3)
        · simp (maxSteps := 4000000) only [↓packA0, ↓packA1, ↓packA2, ↓reduceIte, packB0, packB1, packB2, packB3, packB4, pureOp, quietOp, loadOp, quietB, fr0, cellsK, Option.getD_some, Option.getD_none, implies_true, ite_true, ite_false, eq_self, ne_eq, reduceCtorEq, Nat.reduceLT, Nat.reduceLeDiff, Nat.reduceAdd, Nat.reduceMul, Nat.reduceBEq, Nat.reduceEqDiff, Int.reduceToNat, Int.reduceLT, Int.reduceLE, Nat.reduceSub, pl126, tsize_3, tbytes_3, tagg_3, zcells_3, telem_3, tint_3, tnotIface_3, tsize_4, tbytes_4, tagg_4, zcells_4, telem_4, tbool_4, tnotIface_4, tsize_23, tbytes_23, tagg_23, zcells_23, telem_23, tnotIface_23, tfun_160, telem_160, tsize_173, tbytes_173, tagg_173, zcells_173, telem_173, tint_173, tnotIface_173, u0, u1, u2, u3, u4, u18, u19, u20, u21, u22, e6, hm, e4, hid, h3]
          refine ⟨by omega, .inl ⟨r - (c + 1), by omega, c + 1, r, rfl, by omega, by omega, by omega, by omega, by omega, .inr (.inr ?_), hi, by omega, rfl⟩⟩
          have h4 : ¬ d (gv es c) < d (gv es (mid + m - 1 - c)) := fun h4 => h3 (hk.2 h4)
          rw [Nat.add_sub_cancel, show m + mid - (c + 1) = mid + m - 1 - c by omega]
          unfold ltD
          omega
      · have e6 : ¬ (s : Int) < (r : Int) := by omega
        obtain rfl : s = r := by omega
        simp (maxSteps := 4000000) only [↓packA0, ↓packA1, ↓packA2, ↓reduceIte, packB0, packB1, packB2, packB3, packB4, pureOp, quietOp, loadOp, quietB, fr0, cellsK, Option.getD_some, Option.getD_none, implies_true, ite_true, ite_false, eq_self, ne_eq, reduceCtorEq, Nat.reduceLT, Nat.reduceLeDiff, Nat.reduceAdd, Nat.reduceMul, Nat.reduceBEq, Nat.reduceEqDiff, Int.reduceToNat, Int.reduceLT, Int.reduceLE, Nat.reduceSub, pl126, tsize_3, tbytes_3, tagg_3, zcells_3, telem_3, tint_3, tnotIface_3, tsize_4, tbytes_4, tagg_4, zcells_4, telem_4, tbool_4, tnotIface_4, tsize_23, tbytes_23, tagg_23, zcells_23, telem_23, tnotIface_23, tfun_160, telem_160, tsize_173, tbytes_173, tagg_173, zcells_173, telem_173, tint_173, tnotIface_173, u0, u1, u2, u3, u4, u18, u19, u20, u21, u22, e6]
        exact ⟨s, ⟨c1, c3, c4, c5, lo, hi⟩, rfl⟩
    · simp (maxSteps := 4000000) only [↓packA0, ↓packA1, ↓packA2, ↓reduceIte, packB0, packB1, packB2, packB3, packB4, pureOp, quietOp, loadOp, quietB, fr0, cellsK, Option.getD_some, Option.getD_none, implies_true, ite_true, ite_false, eq_self, ne_eq, reduceCtorEq, Nat.reduceLT, Nat.reduceLeDiff, Nat.reduceAdd, Nat.reduceMul, Nat.reduceBEq, Nat.reduceEqDiff, Int.reduceToNat, Int.reduceLT, Int.reduceLE, Nat.reduceSub, pl126, tsize_3, tbytes_3, tagg_3, zcells_3, telem_3, tint_3, tnotIface_3, tsize_4, tbytes_4, tagg_4, zcells_4, telem_4, tbool_4, tnotIface_4, tsize_23, tbytes_23, tagg_23, zcells_23, telem_23, tnotIface_23, tfun_160, telem_160, tsize_173, tbytes_173, tagg_173, zcells_173, telem_173, tint_173, tnotIface_173]
      omega
    · simp (maxSteps := 4000000) only [↓packA0, ↓packA1, ↓packA2, ↓reduceIte, packB0, packB1, packB2, packB3, packB4, pureOp, quietOp, loadOp, quietB, fr0, cellsK, Option.getD_some, Option.getD_none, implies_true, ite_true, ite_false, eq_self, ne_eq, reduceCtorEq, Nat.reduceLT, Nat.reduceLeDiff, Nat.reduceAdd, Nat.reduceMul, Nat.reduceBEq, Nat.reduceEqDiff, Int.reduceToNat, Int.reduceLT, Int.reduceLE, Nat.reduceSub, pl126, tsize_3, tbytes_3, tagg_3, zcells_3, telem_3, tint_3, tnotIface_3, tsize_4, tbytes_4, tagg_4, zcells_4, telem_4, tbool_4, tnotIface_4, tsize_23, tbytes_23, tagg_23, zcells_23, telem_23, tnotIface_23, tfun_160, telem_160, tsize_173, tbytes_173, tagg_173, zcells_173, telem_173, tint_173, tnotIface_173]
  obtain ⟨s, hC, u0, u1, u2, u3, u4, u18, u19, u20, rfl⟩ := hM
  have ⟨s0, s1, s2, s3, _, _⟩ := hC
  rw [asx_assoc]
  refine asx_cut (fun u h1 => ∃ gs : List Int, Sm es gs a b ∧ (∀ k, s ≤ k → k < mid → gv gs k = gv es (k + (m - s))) ∧ (∀ k, mid ≤ k → k < m + mid - s → gv gs k = gv es (k - (mid - s))) ∧ (∀ k, k < s ∨ m + mid - s ≤ k → gv gs k = gv es k) ∧ u 0 = .osl id 1 0 len cap ex ∧ u 1 = .int .i64 a ∧ u 3 = .int .i64 b ∧ u 4 = .fn (.func 102) [] [.op pid 4 0 0] ∧ u 18 = .int .i64 mid ∧ u 20 = .int .i64 s ∧ u 24 = .int .i64 (m + mid - s : Nat) ∧ h1 = h.set id (.arr 1 (List.map intE gs) ex')) ?_ fun u h1 hM => ?_
  · have e5 : ((mid + m : Nat) : Int) - (s : Int) = ((m + mid - s : Nat) : Int) := by omega
    have hsh := (set_same hid).symm
    by_cases r1 : s < m
    · have f1 : (s : Int) < (m : Int) := by omega
      by_cases r2 : m < m + mid - s
      · have f2 : (m : Int) < ((m + mid - s : Nat) : Int) := by omega
        simp (maxSteps := 4000000) only [↓packA0, ↓packA1, ↓packA2, ↓reduceIte, packB0, packB1, packB2, packB3, packB4, pureOp, quietOp, loadOp, quietB, fr0, cellsK, Option.getD_some, Option.getD_none, implies_true, ite_true, ite_false, eq_self, ne_eq, reduceCtorEq, Nat.reduceLT, Nat.reduceLeDiff, Nat.reduceAdd, Nat.reduceMul, Nat.reduceBEq, Nat.reduceEqDiff, Int.reduceToNat, Int.reduceLT, Int.reduceLE, Nat.reduceSub, pl126, tsize_3, tbytes_3, tagg_3, zcells_3, telem_3, tint_3, tnotIface_3, tsize_4, tbytes_4, tagg_4, zcells_4, telem_4, tbool_4, tnotIface_4, tsize_23, tbytes_23, tagg_23, zcells_23, telem_23, tnotIface_23, tfun_160, telem_160, tsize_173, tbytes_173, tagg_173, zcells_173, telem_173, tint_173, tnotIface_173, u0, u1, u2, u3, u4, u18, u19, u20, e5, f1, f2]
        refine ⟨by omega, rotate_c hb hid hl r1 r2 (by omega) fun gs hs hg => ?_⟩
        simp (maxSteps := 4000000) only [↓packA0, ↓packA1, ↓packA2, ↓reduceIte, packB0, packB1, packB2, packB3, packB4, pureOp, quietOp, loadOp, quietB, fr0, cellsK, Option.getD_some, Option.getD_none, implies_true, ite_true, ite_false, eq_self, ne_eq, reduceCtorEq, Nat.reduceLT, Nat.reduceLeDiff, Nat.reduceAdd, Nat.reduceMul, Nat.reduceBEq, Nat.reduceEqDiff, Int.reduceToNat, Int.reduceLT, Int.reduceLE, Nat.reduceSub, pl126, tsize_3, tbytes_3, tagg_3, zcells_3, telem_3, tint_3, tnotIface_3, tsize_4, tbytes_4, tagg_4, zcells_4, telem_4, tbool_4, tnotIface_4, tsize_23, tbytes_23, tagg_23, zcells_23, telem_23, tnotIface_23, tfun_160, telem_160, tsize_173, tbytes_173, tagg_173, zcells_173, telem_173, tint_173, tnotIface_173, u0, u1, u2, u3, u4, u18, u19, u20, e5, f1, f2]
        refine ⟨gs, hs.wide s0 (by omega), fun k k1 k2 => ?_, fun k k1 k2 => ?_, fun k k1 => ?_, rfl⟩
        · rw [hg k]; unfold rtR; rw [if_pos (by omega)]
        · rw [hg k]; unfold rtR; rw [if_neg (by omega), if_pos (by omega), show m + mid - s - m = mid - s by omega]
        · rw [hg k]; unfold rtR; rw [if_neg (by omega), if_neg (by omega)]
      · have f2 : ¬ (m : Int) < ((m + mid - s : Nat) : Int) := by omega
        simp (maxSteps := 4000000) only [↓packA0, ↓packA1, ↓packA2, ↓reduceIte, packB0, packB1, packB2, packB3, packB4, pureOp, quietOp, loadOp, quietB, fr0, cellsK, Option.getD_some, Option.getD_none, implies_true, ite_true, ite_false, eq_self, ne_eq, reduceCtorEq, Nat.reduceLT, Nat.reduceLeDiff, Nat.reduceAdd, Nat.reduceMul, Nat.reduceBEq, Nat.reduceEqDiff, Int.reduceToNat, Int.reduceLT, Int.reduceLE, Nat.reduceSub, pl126, tsize_3, tbytes_3, tagg_3, zcells_3, telem_3, tint_3, tnotIface_3, tsize_4, tbytes_4, tagg_4, zcells_4, telem_4, tbool_4, tnotIface_4, tsize_23, tbytes_23, tagg_23, zcells_23, telem_23, tnotIface_23, tfun_160, telem_160, tsize_173, tbytes_173, tagg_173, zcells_173, telem_173, tint_173, tnotIface_173, u0, u1, u2, u3, u4, u18, u19, u20, e5, f1, f2]
        exact ⟨by omega, es, Sm.rfl', fun k k1 k2 => by omega, fun k k1 k2 => by rw [show k - (mid - s) = k by omega], fun k _ => rfl, hsh⟩
    · have f1 : ¬ (s : Int) < (m : Int) := by omega
      simp (maxSteps := 4000000) only [↓packA0, ↓packA1, ↓packA2, ↓reduceIte, packB0, packB1, packB2, packB3, packB4, pureOp, quietOp, loadOp, quietB, fr0, cellsK, Option.getD_some, Option.getD_none, implies_true, ite_true, ite_false, eq_self, ne_eq, reduceCtorEq, Nat.reduceLT, Nat.reduceLeDiff, Nat.reduceAdd, Nat.reduceMul, Nat.reduceBEq, Nat.reduceEqDiff, Int.reduceToNat, Int.reduceLT, Int.reduceLE, Nat.reduceSub, pl126, tsize_3, tbytes_3, tagg_3, zcells_3, telem_3, tint_3, tnotIface_3, tsize_4, tbytes_4, tagg_4, zcells_4, telem_4, tbool_4, tnotIface_4, tsize_23, tbytes_23, tagg_23, zcells_23, telem_23, tnotIface_23, tfun_160, telem_160, tsize_173, tbytes_173, tagg_173, zcells_173, telem_173, tint_173, tnotIface_173, u0, u1, u2, u3, u4, u18, u19, u20, e5, f1]
      exact ⟨by omega, es, Sm.rfl', fun k k1 k2 => by rw [show k + (m - s) = k by omega], fun k k1 k2 => by omega, fun k _ => rfl, hsh⟩
  clear u0 u1 u2 u3 u4 u18 u19 u20
  obtain ⟨gs, hs, hle, hri, ho, u0, u1, u3, u4, u18, u20, u24, rfl⟩ := hM
  obtain ⟨e, he⟩ : ∃ e, m + mid - s = e := ⟨_, rfl⟩
  have hcl := hs.len
  have hA1 : Sd d gs a s := fun i j i1 i2 i3 => by rw [ho i (by omega), ho j (by omega)]; exact hL i j i1 i2 (by omega)
  have hA2 : Sd d gs s mid := fun i j i1 i2 i3 => by rw [hle i (by omega) (by omega), hle j (by omega) (by omega)]; exact hR _ _ (by omega) (by omega) (by omega)
  have hB1 : Sd d gs mid e := fun i j i1 i2 i3 => by rw [hri i (by omega) (by omega), hri j (by omega) (by omega)]; exact hL _ _ (by omega) (by omega) (by omega)
  have hB2 : Sd d gs e b := fun i j i1 i2 i3 => by rw [ho i (by omega), ho j (by omega)]; exact hR _ _ (by omega) (by omega) (by omega)
  have hXA : Xn gs a s s mid := fun i j i1 i2 j1 j2 => by rw [ho i (by omega), hle j (by omega) (by omega)]; exact hx _ _ (by omega) (by omega) (by omega) (by omega)
  have hXB : Xn gs mid e e b := fun i j i1 i2 j1 j2 => by rw [hri i (by omega) (by omega), ho j (by omega)]; exact hx _ _ (by omega) (by omega) (by omega) (by omega)
  have hX : Xd d gs a mid mid b := hC.cross hL hR (by omega) hle hri ho
  have hem : mid ≤ e ∧ e ≤ b := by omega
  rw [he] at u24
  clear hle hri ho hC he
  have hD : Dom n gs a b := hs.all (p := fun x => 0 ≤ x ∧ x < n) (Nat.le_refl _) (Nat.le_refl _) hdom
  refine asx_cut (fun u h1 => ∃ gs : List Int, Sm es gs a b ∧ Sd d gs a mid ∧ Sd d gs mid e ∧ Sd d gs e b ∧ Xn gs mid e e b ∧ Xd d gs a mid mid b ∧ u 0 = .osl id 1 0 len cap ex ∧ u 3 = .int .i64 b ∧ u 4 = .fn (.func 102) [] [.op pid 4 0 0] ∧ u 18 = .int .i64 mid ∧ u 24 = .int .i64 e ∧ h1 = h.set id (.arr 1 (List.map intE gs) ex')) ?_ fun u h1 hM => ?_
  · by_cases r1 : a < s
    · have f1 : (a : Int) < (s : Int) := by omega
      by_cases r2 : s < mid
      · have f2 : (s : Int) < (mid : Int) := by omega
        simp (maxSteps := 4000000) only [↓packA0, ↓packA1, ↓packA2, ↓reduceIte, packB0, packB1, packB2, packB3, packB4, pureOp, quietOp, loadOp, quietB, fr0, cellsK, Option.getD_some, Option.getD_none, implies_true, ite_true, ite_false, eq_self, ne_eq, reduceCtorEq, Nat.reduceLT, Nat.reduceLeDiff, Nat.reduceAdd, Nat.reduceMul, Nat.reduceBEq, Nat.reduceEqDiff, Int.reduceToNat, Int.reduceLT, Int.reduceLE, Nat.reduceSub, pl126, tsize_3, tbytes_3, tagg_3, zcells_3, telem_3, tint_3, tnotIface_3, tsize_4, tbytes_4, tagg_4, zcells_4, telem_4, tbool_4, tnotIface_4, tsize_23, tbytes_23, tagg_23, zcells_23, telem_23, tnotIface_23, tfun_160, telem_160, tsize_173, tbytes_173, tagg_173, zcells_173, telem_173, tint_173, tnotIface_173, u0, u1, u3, u4, u18, u20, u24, f1, f2]
        refine ih (es := gs) (a := a) (m := s) (b := mid) (by omega) (by omega) (hse _) (hsp _) hne (by omega) r1 r2 (by omega) (fun i i1 i2 => hD i i1 (by omega)) hA1 hA2 hXA fun ks hk hkd => ?_
        simp (maxSteps := 4000000) only [↓packA0, ↓packA1, ↓packA2, ↓reduceIte, packB0, packB1, packB2, packB3, packB4, pureOp, quietOp, loadOp, quietB, fr0, cellsK, Option.getD_some, Option.getD_none, implies_true, ite_true, ite_false, eq_self, ne_eq, reduceCtorEq, Nat.reduceLT, Nat.reduceLeDiff, Nat.reduceAdd, Nat.reduceMul, Nat.reduceBEq, Nat.reduceEqDiff, Int.reduceToNat, Int.reduceLT, Int.reduceLE, Nat.reduceSub, pl126, tsize_3, tbytes_3, tagg_3, zcells_3, telem_3, tint_3, tnotIface_3, tsize_4, tbytes_4, tagg_4, zcells_4, telem_4, tbool_4, tnotIface_4, tsize_23, tbytes_23, tagg_23, zcells_23, telem_23, tnotIface_23, tfun_160, telem_160, tsize_173, tbytes_173, tagg_173, zcells_173, telem_173, tint_173, tnotIface_173, u0, u1, u3, u4, u18, u20, u24, f1, f2, List.set_set]
        exact ⟨ks, hs.trans (hk.wide (Nat.le_refl _) (by omega)), hkd, hB1.off hk (.inr (Nat.le_refl _)), hB2.off hk (.inr (by omega)), hXB.perm hk (.inr (.inl (Nat.le_refl _))) (.inr (.inl (by omega))), hX.perm hk (.inl ⟨Nat.le_refl _, Nat.le_refl _⟩) (.inr (.inl (Nat.le_refl _))), rfl⟩
      · have f2 : ¬ (s : Int) < (mid : Int) := by omega
        simp (maxSteps := 4000000) only [↓packA0, ↓packA1, ↓packA2, ↓reduceIte, packB0, packB1, packB2, packB3, packB4, pureOp, quietOp, loadOp, quietB, fr0, cellsK, Option.getD_some, Option.getD_none, implies_true, ite_true, ite_false, eq_self, ne_eq, reduceCtorEq, Nat.reduceLT, Nat.reduceLeDiff, Nat.reduceAdd, Nat.reduceMul, Nat.reduceBEq, Nat.reduceEqDiff, Int.reduceToNat, Int.reduceLT, Int.reduceLE, Nat.reduceSub, pl126, tsize_3, tbytes_3, tagg_3, zcells_3, telem_3, tint_3, tnotIface_3, tsize_4, tbytes_4, tagg_4, zcells_4, telem_4, tbool_4, tnotIface_4, tsize_23, tbytes_23, tagg_23, zcells_23, telem_23, tnotIface_23, tfun_160, telem_160, tsize_173, tbytes_173, tagg_173, zcells_173, telem_173, tint_173, tnotIface_173, u0, u1, u3, u4, u18, u20, u24, f1, f2]
        obtain rfl : s = mid := by omega
        exact ⟨gs, hs, hA1, hB1, hB2, hXB, hX, rfl⟩
    · have f1 : ¬ (a : Int) < (s : Int) := by omega
      simp (maxSteps := 4000000) only [↓packA0, ↓packA1, ↓packA2, ↓reduceIte, packB0, packB1, packB2, packB3, packB4, pureOp, quietOp, loadOp, quietB, fr0, cellsK, Option.getD_some, Option.getD_none, implies_true, ite_true, ite_false, eq_self, ne_eq, reduceCtorEq, Nat.reduceLT, Nat.reduceLeDiff, Nat.reduceAdd, Nat.reduceMul, Nat.reduceBEq, Nat.reduceEqDiff, Int.reduceToNat, Int.reduceLT, Int.reduceLE, Nat.reduceSub, pl126, tsize_3, tbytes_3, tagg_3, zcells_3, telem_3, tint_3, tnotIface_3, tsize_4, tbytes_4, tagg_4, zcells_4, telem_4, tbool_4, tnotIface_4, tsize_23, tbytes_23, tagg_23, zcells_23, telem_23, tnotIface_23, tfun_160, telem_160, tsize_173, tbytes_173, tagg_173, zcells_173, telem_173, tint_173, tnotIface_173, u0, u1, u3, u4, u18, u20, u24, f1]
      obtain rfl : s = a := by omega
      exact ⟨gs, hs, hA2, hB1, hB2, hXB, hX, rfl⟩
  clear u0 u1 u3 u4 u18 u20 u24 hA1 hA2 hB1 hB2 hXA hXB hX hD hcl hs
  obtain ⟨gs, hs, hA, hB1, hB2, hXB, hX, u0, u3, u4, u18, u24, rfl⟩ := hM
  have hcl := hs.len
  have hD : Dom n gs a b := hs.all (p := fun x => 0 ≤ x ∧ x < n) (Nat.le_refl _) (Nat.le_refl _) hdom
  by_cases r1 : mid < e
  · have f1 : (mid : Int) < (e : Int) := by omega
    by_cases r2 : e < b
    · have f2 : (e : Int) < (b : Int) := by omega
      simp (maxSteps := 4000000) only [↓packA0, ↓packA1, ↓packA2, ↓reduceIte, packB0, packB1, packB2, packB3, packB4, pureOp, quietOp, loadOp, quietB, fr0, cellsK, Option.getD_some, Option.getD_none, implies_true, ite_true, ite_false, eq_self, ne_eq, reduceCtorEq, Nat.reduceLT, Nat.reduceLeDiff, Nat.reduceAdd, Nat.reduceMul, Nat.reduceBEq, Nat.reduceEqDiff, Int.reduceToNat, Int.reduceLT, Int.reduceLE, Nat.reduceSub, pl126, tsize_3, tbytes_3, tagg_3, zcells_3, telem_3, tint_3, tnotIface_3, tsize_4, tbytes_4, tagg_4, zcells_4, telem_4, tbool_4, tnotIface_4, tsize_23, tbytes_23, tagg_23, zcells_23, telem_23, tnotIface_23, tfun_160, telem_160, tsize_173, tbytes_173, tagg_173, zcells_173, telem_173, tint_173, tnotIface_173, u0, u3, u4, u18, u24, f1, f2]
      refine ih (es := gs) (a := mid) (m := e) (b := b) (by omega) (by omega) (hse _) (hsp _) hne (by omega) r1 r2 (by omega) (fun i i1 i2 => hD i (by omega) i2) hB1 hB2 hXB fun ks hk hkd => ?_
      simp (maxSteps := 4000000) only [↓packA0, ↓packA1, ↓packA2, ↓reduceIte, packB0, packB1, packB2, packB3, packB4, pureOp, quietOp, loadOp, quietB, fr0, cellsK, Option.getD_some, Option.getD_none, implies_true, ite_true, ite_false, eq_self, ne_eq, reduceCtorEq, Nat.reduceLT, Nat.reduceLeDiff, Nat.reduceAdd, Nat.reduceMul, Nat.reduceBEq, Nat.reduceEqDiff, Int.reduceToNat, Int.reduceLT, Int.reduceLE, Nat.reduceSub, pl126, tsize_3, tbytes_3, tagg_3, zcells_3, telem_3, tint_3, tnotIface_3, tsize_4, tbytes_4, tagg_4, zcells_4, telem_4, tbool_4, tnotIface_4, tsize_23, tbytes_23, tagg_23, zcells_23, telem_23, tnotIface_23, tfun_160, telem_160, tsize_173, tbytes_173, tagg_173, zcells_173, telem_173, tint_173, tnotIface_173, u0, u3, u4, u18, u24, f1, f2, List.set_set]
      exact hq ks (hs.trans (hk.wide (by omega) (Nat.le_refl _))) (Sd.join (hA.off hk (.inl (Nat.le_refl _))) hkd (hX.perm hk (.inr (.inr (Nat.le_refl _))) (.inl ⟨Nat.le_refl _, Nat.le_refl _⟩)))
    · have f2 : ¬ (e : Int) < (b : Int) := by omega
      simp (maxSteps := 4000000) only [↓packA0, ↓packA1, ↓packA2, ↓reduceIte, packB0, packB1, packB2, packB3, packB4, pureOp, quietOp, loadOp, quietB, fr0, cellsK, Option.getD_some, Option.getD_none, implies_true, ite_true, ite_false, eq_self, ne_eq, reduceCtorEq, Nat.reduceLT, Nat.reduceLeDiff, Nat.reduceAdd, Nat.reduceMul, Nat.reduceBEq, Nat.reduceEqDiff, Int.reduceToNat, Int.reduceLT, Int.reduceLE, Nat.reduceSub, pl126, tsize_3, tbytes_3, tagg_3, zcells_3, telem_3, tint_3, tnotIface_3, tsize_4, tbytes_4, tagg_4, zcells_4, telem_4, tbool_4, tnotIface_4, tsize_23, tbytes_23, tagg_23, zcells_23, telem_23, tnotIface_23, tfun_160, telem_160, tsize_173, tbytes_173, tagg_173, zcells_173, telem_173, tint_173, tnotIface_173, u0, u3, u4, u18, u24, f1, f2]
      obtain rfl : e = b := by omega
      exact hq gs hs (Sd.join hA hB1 hX)
  · have f1 : ¬ (mid : Int) < (e : Int) := by omega
    simp (maxSteps := 4000000) only [↓packA0, ↓packA1, ↓packA2, ↓reduceIte, packB0, packB1, packB2, packB3, packB4, pureOp, quietOp, loadOp, quietB, fr0, cellsK, Option.getD_some, Option.getD_none, implies_true, ite_true, ite_false, eq_self, ne_eq, reduceCtorEq, Nat.reduceLT, Nat.reduceLeDiff, Nat.reduceAdd, Nat.reduceMul, Nat.reduceBEq, Nat.reduceEqDiff, Int.reduceToNat, Int.reduceLT, Int.reduceLE, Nat.reduceSub, pl126, tsize_3, tbytes_3, tagg_3, zcells_3, telem_3, tint_3, tnotIface_3, tsize_4, tbytes_4, tagg_4, zcells_4, telem_4, tbool_4, tnotIface_4, tsize_23, tbytes_23, tagg_23, zcells_23, telem_23, tnotIface_23, tfun_160, telem_160, tsize_173, tbytes_173, tagg_173, zcells_173, telem_173, tint_173, tnotIface_173, u0, u3, u4, u18, u24, f1]
    obtain rfl : e = mid := by omega
    exact hq gs hs (Sd.join hA hB2 hX)
end Go.Proofs.Ytgdlkhgfehclpaa
end

section
/- Blocks of a list, sorted one by one and then together: the plain part. No condition. -/
namespace Go.Proofs.Ytgdlkhgfehclpaa
open Go Go.AL
set_option linter.unusedVariables false
set_option linter.unusedSimpArgs false
theorem mul_sep {c t k : Nat} : (t = k) ∨ (t < k ∧ c * t + c ≤ c * k) ∨ (k < t ∧ c * k + c ≤ c * t) := by
  rcases Nat.lt_trichotomy t k with h | h | h
  · exact .inr (.inl ⟨h, by have := Nat.mul_le_mul_left c (show t + 1 ≤ k from h); rw [Nat.mul_succ] at this; exact this⟩)
  · exact .inl h
  · exact .inr (.inr ⟨h, by have := Nat.mul_le_mul_left c (show k + 1 ≤ t from h); rw [Nat.mul_succ] at this; exact this⟩)
/-- Blocks of s are sorted, and each has greater numbers than those ahead of it. -/
structure Bk (d : Int → Int) (es cs : List Int) (N s : Nat) : Prop where
  sm : Sm es cs 0 N
  so : ∀ t, Sd d cs (s * t) (min (s * t + s) N)
  bd : ∀ t, s * t ≤ N → Xn cs 0 (s * t) (s * t) N
/-- Blocks of c = 2 s below the k-th, blocks of s from there on. -/
structure Bm (d : Int → Int) (es cs : List Int) (N s c k : Nat) : Prop where
  sm : Sm es cs 0 N
  s1 : ∀ t, t < k → Sd d cs (c * t) (c * t + c)
  s2 : ∀ t, k ≤ t → Sd d cs (c * t) (min (c * t + s) N)
  s3 : ∀ t, k ≤ t → Sd d cs (c * t + s) (min (c * t + c) N)
  ev : ∀ t, c * t ≤ N → Xn cs 0 (c * t) (c * t) N
  od : ∀ t, k ≤ t → c * t + s ≤ N → Xn cs 0 (c * t + s) (c * t + s) N
theorem Bk.start {d : Int → Int} {es cs : List Int} {N s c : Nat} (h : Bk d es cs N s) (hc : c = 2 * s) : Bm d es cs N s c 0 := by
  have e : ∀ t, c * t = s * (2 * t) := fun t => by rw [hc, ← Nat.mul_assoc, Nat.mul_comm 2 s]
  have e2 : ∀ t, c * t + s = s * (2 * t + 1) := fun t => by rw [e, Nat.mul_succ]
  refine ⟨h.sm, fun t ht => by omega, fun t _ => ?_, fun t _ => ?_, fun t ht => ?_, fun t _ ht => ?_⟩
  · rw [e]; exact h.so _
  · have := h.so (2 * t + 1)
    rw [← e2] at this
    rw [show c * t + c = c * t + s + s by omega]
    exact this
  · rw [e] at ht ⊢; exact h.bd _ ht
  · rw [e2] at ht ⊢; exact h.bd _ ht
theorem Bm.step {d : Int → Int} {es cs ks : List Int} {N s c k : Nat} (h : Bm d es cs N s c k) (hs : s ≤ c) (hk : c * k + c ≤ N) (sm : Sm cs ks (c * k) (c * k + c)) (sd : Sd d ks (c * k) (c * k + c)) : Bm d es ks N s c (k + 1) := by
  refine ⟨h.sm.trans (sm.wide (Nat.zero_le _) hk), fun t ht => ?_, fun t ht => ?_, fun t ht => ?_, fun t ht => ?_, fun t ht1 ht => ?_⟩
  · rcases @mul_sep c t k with e | ⟨_, e⟩ | ⟨e, _⟩
    · rw [e]; exact sd
    · exact (h.s1 t (by omega)).off sm (.inl e)
    · omega
  · rcases @mul_sep c t k with e | ⟨e, _⟩ | ⟨_, e⟩
    · omega
    · omega
    · exact (h.s2 t (by omega)).off sm (.inr e)
  · rcases @mul_sep c t k with e | ⟨e, _⟩ | ⟨_, e⟩
    · omega
    · omega
    · exact (h.s3 t (by omega)).off sm (.inr (by omega))
  · rcases @mul_sep c t k with e | ⟨_, e⟩ | ⟨_, e⟩
    · rw [e] at ht ⊢; exact (h.ev k ht).perm sm (.inr (.inr (Nat.le_refl _))) (.inl ⟨Nat.le_refl _, hk⟩)
    · exact (h.ev t ht).perm sm (.inr (.inr (by omega))) (.inl ⟨by omega, hk⟩)
    · exact (h.ev t ht).perm sm (.inl ⟨Nat.zero_le _, e⟩) (.inr (.inl e))
  · rcases @mul_sep c t k with e | ⟨e, _⟩ | ⟨_, e⟩
    · omega
    · omega
    · exact (h.od t (by omega) ht).perm sm (.inl ⟨Nat.zero_le _, by omega⟩) (.inr (.inl (by omega)))
theorem Bm.fin {d : Int → Int} {es cs ks : List Int} {N s c k : Nat} (h : Bm d es cs N s c k) (hk : N < c * k + c) (hk2 : c * k ≤ N) (sm : Sm cs ks (c * k) N) (sd : Sd d ks (c * k) N) : Bk d es ks N c := by
  refine ⟨h.sm.trans (sm.wide (Nat.zero_le _) (Nat.le_refl _)), fun t => ?_, fun t ht => ?_⟩
  · rcases @mul_sep c t k with e | ⟨e1, e⟩ | ⟨_, e⟩
    · rw [e, show min (c * k + c) N = N by omega]; exact sd
    · rw [show min (c * t + c) N = c * t + c by omega]; exact (h.s1 t e1).off sm (.inl e)
    · intro i j i1 i2 i3; omega
  · rcases @mul_sep c t k with e | ⟨_, e⟩ | ⟨_, e⟩
    · rw [e]; exact (h.ev k hk2).perm sm (.inr (.inr (Nat.le_refl _))) (.inl ⟨Nat.le_refl _, Nat.le_refl _⟩)
    · exact (h.ev t ht).perm sm (.inr (.inr (by omega))) (.inl ⟨by omega, Nat.le_refl _⟩)
    · omega
/-- Blocks of 20 below the k-th; the rest as it was. -/
structure Bi (d : Int → Int) (es cs : List Int) (N k : Nat) : Prop where
  sm : Sm es cs 0 N
  s1 : ∀ t, t < k → Sd d cs (20 * t) (20 * t + 20)
  ev : ∀ t, 20 * t ≤ N → Xn cs 0 (20 * t) (20 * t) N
  up : Up cs (20 * k) N
theorem Bi.start {d : Int → Int} {es : List Int} {N : Nat} (h : Up es 0 N) : Bi d es es N 0 :=
  ⟨Sm.rfl', fun t ht => by omega, fun t ht i j i1 i2 j1 j2 => h i j i1 (by omega) j2, h⟩
theorem Bi.step {d : Int → Int} {es cs ks : List Int} {N k : Nat} (h : Bi d es cs N k) (hk : 20 * k + 20 ≤ N) (sm : Sm cs ks (20 * k) (20 * k + 20)) (sd : Sd d ks (20 * k) (20 * k + 20)) : Bi d es ks N (k + 1) := by
  refine ⟨h.sm.trans (sm.wide (Nat.zero_le _) hk), fun t ht => ?_, fun t ht => ?_, fun i j i1 i2 i3 => ?_⟩
  · by_cases e : t = k
    · rw [e]; exact sd
    · exact (h.s1 t (by omega)).off sm (.inl (by omega))
  · by_cases e : t ≤ k
    · exact (h.ev t ht).perm sm (.inr (.inr (by omega))) (.inl ⟨by omega, hk⟩)
    · exact (h.ev t ht).perm sm (.inl ⟨Nat.zero_le _, by omega⟩) (.inr (.inl (by omega)))
  · rw [sm.out i (by omega), sm.out j (by omega)]; exact h.up i j (by omega) i2 i3
theorem Bi.fin {d : Int → Int} {es cs ks : List Int} {N k : Nat} (h : Bi d es cs N k) (hk : N < 20 * k + 20) (hk2 : 20 * k ≤ N) (sm : Sm cs ks (20 * k) N) (sd : Sd d ks (20 * k) N) : Bk d es ks N 20 := by
  refine ⟨h.sm.trans (sm.wide (Nat.zero_le _) (Nat.le_refl _)), fun t => ?_, fun t ht => ?_⟩
  · by_cases e : t = k
    · rw [e, show min (20 * k + 20) N = N by omega]; exact sd
    · by_cases e2 : t < k
      · rw [show min (20 * t + 20) N = 20 * t + 20 by omega]; exact (h.s1 t e2).off sm (.inl (by omega))
      · intro i j i1 i2 i3; omega
  · exact (h.ev t ht).perm sm (.inr (.inr (by omega))) (.inl ⟨by omega, Nat.le_refl _⟩)
end Go.Proofs.Ytgdlkhgfehclpaa
end

section
/- The stable sort. No condition. -/
namespace Go.Proofs.Ytgdlkhgfehclpaa
open Go Go.AL
set_option linter.unusedVariables false
set_option linter.unusedSimpArgs false
set_option maxHeartbeats 4000000 in
set_option maxRecDepth 100000 in
theorem stable_c {pid : Nat} {o : Ob} {n : Int} {d : Int → Int} (hcmp : Cmp pid o n d) {h : Heap} {id len cap : Nat} {ex ex' : Bool} {es : List Int} {N : Nat} {Q : AV → Heap → Prop} (hb : es.length < 1000000000) (hid : h[id]? = some (.arr 1 (List.map intE es) ex')) (hp : h[pid]? = some o) (hne : id ≠ pid) (hl : len ≤ es.length) (hN : N ≤ len) (hdom : Dom n es 0 N) (hu : Up es 0 N)
    (hq : ∀ gs : List Int, Sm es gs 0 N → Sd d gs 0 N → Q (.tup []) (h.set id (.arr 1 (List.map intE gs) ex'))) :
    ACalls Try.prog 116 [.osl id 1 0 len cap ex, .int .i64 N, .fn (.func 102) [] [.op pid 4 0 0]] h Q := by
  have hlt : id < h.length := (List.getElem?_eq_some_iff.1 hid).1
  have hse : ∀ o : Ob, (h.set id o)[id]? = some o := fun o => List.getElem?_set_self hlt
  have hsp : ∀ o' : Ob, (h.set id o')[pid]? = some o := fun o' => by rw [List.getElem?_set_ne hne]; exact hp
  refine wp116 rfl rfl ?_
  simp (maxSteps := 4000000) only [↓packA0, ↓packA1, ↓packA2, ↓reduceIte, packB0, packB1, packB2, packB3, packB4, pureOp, quietOp, loadOp, quietB, fr0, cellsK, Option.getD_some, Option.getD_none, implies_true, ite_true, ite_false, eq_self, ne_eq, reduceCtorEq, Nat.reduceLT, Nat.reduceLeDiff, Nat.reduceAdd, Nat.reduceMul, Nat.reduceBEq, Nat.reduceEqDiff, Int.reduceToNat, Int.reduceLT, Int.reduceLE, Nat.reduceSub, pl116, tsize_3, tbytes_3, tagg_3, zcells_3, telem_3, tint_3, tnotIface_3, tsize_23, tbytes_23, tagg_23, zcells_23, telem_23, tnotIface_23, tfun_160, telem_160]
  refine LoopK.intro (fun w u h1 => ∃ (k : Nat) (cs : List Int), w = N + 20 - 20 * k ∧ 20 * k ≤ N ∧ Bi d es cs N k ∧ u 0 = .osl id 1 0 len cap ex ∧ u 1 = .int .i64 N ∧ u 2 = .fn (.func 102) [] [.op pid 4 0 0] ∧ u 6 = .int .i64 20 ∧ u 7 = .int .i64 (20 * k : Nat) ∧ u 8 = .int .i64 (20 * k + 20 : Nat) ∧ h1 = h.set id (.arr 1 (List.map intE cs) ex')) (N + 20 - 20 * 0) ⟨0, es, rfl, by omega, Bi.start hu, ?_⟩ ?_
  · simp (maxSteps := 4000000) only [↓packA0, ↓packA1, ↓packA2, ↓reduceIte, packB0, packB1, packB2, packB3, packB4, pureOp, quietOp, loadOp, quietB, fr0, cellsK, Option.getD_some, Option.getD_none, implies_true, ite_true, ite_false, eq_self, ne_eq, reduceCtorEq, Nat.reduceLT, Nat.reduceLeDiff, Nat.reduceAdd, Nat.reduceMul, Nat.reduceBEq, Nat.reduceEqDiff, Int.reduceToNat, Int.reduceLT, Int.reduceLE, Nat.reduceSub, pl116, tsize_3, tbytes_3, tagg_3, zcells_3, telem_3, tint_3, tnotIface_3, tsize_23, tbytes_23, tagg_23, zcells_23, telem_23, tnotIface_23, tfun_160, telem_160, set_same hid, Int.natCast_zero]
    rfl
  rintro w u h1 ⟨k, cs, rfl, hk, hB, u0, u1, u2, u6, u7, u8, rfl⟩
  have hcl := hB.sm.len
  have hD : Dom n cs 0 N := hB.sm.all (p := fun x => 0 ≤ x ∧ x < n) (Nat.le_refl _) (Nat.le_refl _) hdom
  by_cases r1 : 20 * k + 20 ≤ N
  · have f1 : ((20 * k + 20 : Nat) : Int) ≤ (N : Int) := by omega
    simp (maxSteps := 4000000) only [↓packA0, ↓packA1, ↓packA2, ↓reduceIte, packB0, packB1, packB2, packB3, packB4, pureOp, quietOp, loadOp, quietB, fr0, cellsK, Option.getD_some, Option.getD_none, implies_true, ite_true, ite_false, eq_self, ne_eq, reduceCtorEq, Nat.reduceLT, Nat.reduceLeDiff, Nat.reduceAdd, Nat.reduceMul, Nat.reduceBEq, Nat.reduceEqDiff, Int.reduceToNat, Int.reduceLT, Int.reduceLE, Nat.reduceSub, pl116, tsize_3, tbytes_3, tagg_3, zcells_3, telem_3, tint_3, tnotIface_3, tsize_23, tbytes_23, tagg_23, zcells_23, telem_23, tnotIface_23, tfun_160, telem_160, u0, u1, u2, u6, u7, u8, f1]
    refine ins_c hcmp (es := cs) (by omega) (hse _) (hsp _) hne (by omega) (by omega) (by omega) (fun i i1 i2 => hD i (by omega) (by omega)) (fun i j i1 i2 i3 => hB.up i j i1 i2 (by omega)) fun ks hk1 hk2 => ?_
    simp (maxSteps := 4000000) only [↓packA0, ↓packA1, ↓packA2, ↓reduceIte, packB0, packB1, packB2, packB3, packB4, pureOp, quietOp, loadOp, quietB, fr0, cellsK, Option.getD_some, Option.getD_none, implies_true, ite_true, ite_false, eq_self, ne_eq, reduceCtorEq, Nat.reduceLT, Nat.reduceLeDiff, Nat.reduceAdd, Nat.reduceMul, Nat.reduceBEq, Nat.reduceEqDiff, Int.reduceToNat, Int.reduceLT, Int.reduceLE, Nat.reduceSub, pl116, tsize_3, tbytes_3, tagg_3, zcells_3, telem_3, tint_3, tnotIface_3, tsize_23, tbytes_23, tagg_23, zcells_23, telem_23, tnotIface_23, tfun_160, telem_160, u0, u1, u2, u6, u7, u8, f1, List.set_set]
    refine ⟨by omega, .inl ⟨N + 20 - 20 * (k + 1), by omega, k + 1, ks, rfl, by omega, hB.step r1 hk1 hk2, by omega, by omega, rfl⟩⟩
  · have f1 : ¬ ((20 * k + 20 : Nat) : Int) ≤ (N : Int) := by omega
    simp (maxSteps := 4000000) only [↓packA0, ↓packA1, ↓packA2, ↓reduceIte, packB0, packB1, packB2, packB3, packB4, pureOp, quietOp, loadOp, quietB, fr0, cellsK, Option.getD_some, Option.getD_none, implies_true, ite_true, ite_false, eq_self, ne_eq, reduceCtorEq, Nat.reduceLT, Nat.reduceLeDiff, Nat.reduceAdd, Nat.reduceMul, Nat.reduceBEq, Nat.reduceEqDiff, Int.reduceToNat, Int.reduceLT, Int.reduceLE, Nat.reduceSub, pl116, tsize_3, tbytes_3, tagg_3, zcells_3, telem_3, tint_3, tnotIface_3, tsize_23, tbytes_23, tagg_23, zcells_23, telem_23, tnotIface_23, tfun_160, telem_160, u0, u1, u2, u6, u7, u8, f1]
    refine ins_c hcmp (es := cs) (by omega) (hse _) (hsp _) hne (by omega) (by omega) (by omega) (fun i i1 i2 => hD i (by omega) (by omega)) (fun i j i1 i2 i3 => hB.up i j i1 i2 (by omega)) fun ks hk1 hk2 => ?_
    have hK := hB.fin (by omega) hk hk1 hk2
    clear hB hD hcl hk1 hk2
    simp (maxSteps := 4000000) only [↓packA0, ↓packA1, ↓packA2, ↓reduceIte, packB0, packB1, packB2, packB3, packB4, pureOp, quietOp, loadOp, quietB, fr0, cellsK, Option.getD_some, Option.getD_none, implies_true, ite_true, ite_false, eq_self, ne_eq, reduceCtorEq, Nat.reduceLT, Nat.reduceLeDiff, Nat.reduceAdd, Nat.reduceMul, Nat.reduceBEq, Nat.reduceEqDiff, Int.reduceToNat, Int.reduceLT, Int.reduceLE, Nat.reduceSub, pl116, tsize_3, tbytes_3, tagg_3, zcells_3, telem_3, tint_3, tnotIface_3, tsize_23, tbytes_23, tagg_23, zcells_23, telem_23, tnotIface_23, tfun_160, telem_160, u0, u1, u2, u6, u7, u8, List.set_set]
    refine LoopK.intro (fun w u h1 => ∃ (s : Nat) (cs : List Int), w = N - s ∧ 0 < s ∧ s < 3000000000 ∧ Bk d es cs N s ∧ u 0 = .osl id 1 0 len cap ex ∧ u 1 = .int .i64 N ∧ u 2 = .fn (.func 102) [] [.op pid 4 0 0] ∧ u 6 = .int .i64 s ∧ h1 = h.set id (.arr 1 (List.map intE cs) ex')) (N - 20) ⟨20, ks, rfl, by omega, by omega, hK, ?_⟩ ?_
    · simp (maxSteps := 4000000) only [↓packA0, ↓packA1, ↓packA2, ↓reduceIte, packB0, packB1, packB2, packB3, packB4, pureOp, quietOp, loadOp, quietB, fr0, cellsK, Option.getD_some, Option.getD_none, implies_true, ite_true, ite_false, eq_self, ne_eq, reduceCtorEq, Nat.reduceLT, Nat.reduceLeDiff, Nat.reduceAdd, Nat.reduceMul, Nat.reduceBEq, Nat.reduceEqDiff, Int.reduceToNat, Int.reduceLT, Int.reduceLE, Nat.reduceSub, pl116, tsize_3, tbytes_3, tagg_3, zcells_3, telem_3, tint_3, tnotIface_3, tsize_23, tbytes_23, tagg_23, zcells_23, telem_23, tnotIface_23, tfun_160, telem_160, u0, u1, u2, u6]
      rfl
    clear hK u0 u1 u2 u6 u7 u8
    rintro w u h1 ⟨s, cs, rfl, hs0, hs1, hB, u0, u1, u2, u6, rfl⟩
    by_cases r2 : s < N
    · have f2 : (s : Int) < (N : Int) := by omega
      obtain ⟨c, hc⟩ : ∃ c, c = 2 * s := ⟨_, rfl⟩
      have f3 : 2 * (s : Int) = (c : Int) := by omega
      have f4 : (s : Int) * 2 = (c : Int) := by omega
      simp (maxSteps := 4000000) only [↓packA0, ↓packA1, ↓packA2, ↓reduceIte, packB0, packB1, packB2, packB3, packB4, pureOp, quietOp, loadOp, quietB, fr0, cellsK, Option.getD_some, Option.getD_none, implies_true, ite_true, ite_false, eq_self, ne_eq, reduceCtorEq, Nat.reduceLT, Nat.reduceLeDiff, Nat.reduceAdd, Nat.reduceMul, Nat.reduceBEq, Nat.reduceEqDiff, Int.reduceToNat, Int.reduceLT, Int.reduceLE, Nat.reduceSub, pl116, tsize_3, tbytes_3, tagg_3, zcells_3, telem_3, tint_3, tnotIface_3, tsize_23, tbytes_23, tagg_23, zcells_23, telem_23, tnotIface_23, tfun_160, telem_160, u0, u1, u2, u6, f2, f3]
      refine ⟨by omega, ?_⟩
      refine LoopK.intro (fun w u h1 => ∃ (k : Nat) (cs : List Int), w = N + c - c * k ∧ c * k ≤ N ∧ Bm d es cs N s c k ∧ u 0 = .osl id 1 0 len cap ex ∧ u 1 = .int .i64 N ∧ u 2 = .fn (.func 102) [] [.op pid 4 0 0] ∧ u 6 = .int .i64 s ∧ u 7 = .int .i64 (c * k : Nat) ∧ u 8 = .int .i64 (c * k + c : Nat) ∧ h1 = h.set id (.arr 1 (List.map intE cs) ex')) (N + c - c * 0) ⟨0, cs, rfl, by omega, hB.start hc, ?_⟩ ?_
      · simp (maxSteps := 4000000) only [↓packA0, ↓packA1, ↓packA2, ↓reduceIte, packB0, packB1, packB2, packB3, packB4, pureOp, quietOp, loadOp, quietB, fr0, cellsK, Option.getD_some, Option.getD_none, implies_true, ite_true, ite_false, eq_self, ne_eq, reduceCtorEq, Nat.reduceLT, Nat.reduceLeDiff, Nat.reduceAdd, Nat.reduceMul, Nat.reduceBEq, Nat.reduceEqDiff, Int.reduceToNat, Int.reduceLT, Int.reduceLE, Nat.reduceSub, pl116, tsize_3, tbytes_3, tagg_3, zcells_3, telem_3, tint_3, tnotIface_3, tsize_23, tbytes_23, tagg_23, zcells_23, telem_23, tnotIface_23, tfun_160, telem_160, u0, u1, u2, u6]
        exact ⟨by rw [Nat.mul_zero]; rfl, by rw [Nat.mul_zero, Nat.zero_add]⟩
      clear hB u0 u1 u2 u6
      rintro w u h1 ⟨k, cs, rfl, hk, hB, u0, u1, u2, u6, u7, u8, rfl⟩
      have hcl := hB.sm.len
      have hD : Dom n cs 0 N := hB.sm.all (p := fun x => 0 ≤ x ∧ x < n) (Nat.le_refl _) (Nat.le_refl _) hdom
      have hB2 := hB.s2 k (Nat.le_refl _)
      have hB3 := hB.s3 k (Nat.le_refl _)
      have hBo := hB.od k (Nat.le_refl _)
      have hms : c * (k + 1) = c * k + c := Nat.mul_succ c k
      have hst := fun ks => hB.step (ks := ks) (by omega)
      have hfi := fun ks => hB.fin (ks := ks)
      obtain ⟨A, hA⟩ : ∃ A, A = c * k := ⟨_, rfl⟩
      rw [← hA] at hk hB2 hB3 hBo hms hst hfi u7 u8
      have f6 : (A : Int) + (s : Int) = ((A + s : Nat) : Int) := by omega
      by_cases r3 : A + c ≤ N
      · have f5 : ((A + c : Nat) : Int) ≤ (N : Int) := by omega
        simp (maxSteps := 4000000) only [↓packA0, ↓packA1, ↓packA2, ↓reduceIte, packB0, packB1, packB2, packB3, packB4, pureOp, quietOp, loadOp, quietB, fr0, cellsK, Option.getD_some, Option.getD_none, implies_true, ite_true, ite_false, eq_self, ne_eq, reduceCtorEq, Nat.reduceLT, Nat.reduceLeDiff, Nat.reduceAdd, Nat.reduceMul, Nat.reduceBEq, Nat.reduceEqDiff, Int.reduceToNat, Int.reduceLT, Int.reduceLE, Nat.reduceSub, pl116, tsize_3, tbytes_3, tagg_3, zcells_3, telem_3, tint_3, tnotIface_3, tsize_23, tbytes_23, tagg_23, zcells_23, telem_23, tnotIface_23, tfun_160, telem_160, u0, u1, u2, u6, u7, u8, f5, f6]
        refine ⟨by omega, merge_c hcmp c (es := cs) (by omega) (by omega) (hse _) (hsp _) hne (by omega) (by omega) (by omega) (by omega) (fun i i1 i2 => hD i (by omega) (by omega)) (hB2.sub (Nat.le_refl _) (by omega)) (hB3.sub (Nat.le_refl _) (by omega)) ((hBo (by omega)).sub (Nat.zero_le _) (Nat.le_refl _) (Nat.le_refl _) (by omega)) fun ks hk1 hk2 => ?_⟩
        simp (maxSteps := 4000000) only [↓packA0, ↓packA1, ↓packA2, ↓reduceIte, packB0, packB1, packB2, packB3, packB4, pureOp, quietOp, loadOp, quietB, fr0, cellsK, Option.getD_some, Option.getD_none, implies_true, ite_true, ite_false, eq_self, ne_eq, reduceCtorEq, Nat.reduceLT, Nat.reduceLeDiff, Nat.reduceAdd, Nat.reduceMul, Nat.reduceBEq, Nat.reduceEqDiff, Int.reduceToNat, Int.reduceLT, Int.reduceLE, Nat.reduceSub, pl116, tsize_3, tbytes_3, tagg_3, zcells_3, telem_3, tint_3, tnotIface_3, tsize_23, tbytes_23, tagg_23, zcells_23, telem_23, tnotIface_23, tfun_160, telem_160, u0, u1, u2, u6, u7, u8, f3, List.set_set]
        exact ⟨by omega, by omega, .inl ⟨N + c - c * (k + 1), by rw [hms, ← hA]; omega, k + 1, ks, rfl, by rw [hms]; exact r3, hst ks r3 hk1 hk2, by rw [hms], by rw [hms]; omega, rfl⟩⟩
      · have f5 : ¬ ((A + c : Nat) : Int) ≤ (N : Int) := by omega
        by_cases r4 : A + s < N
        · have f7 : ((A + s : Nat) : Int) < (N : Int) := by omega
          simp (maxSteps := 4000000) only [↓packA0, ↓packA1, ↓packA2, ↓reduceIte, packB0, packB1, packB2, packB3, packB4, pureOp, quietOp, loadOp, quietB, fr0, cellsK, Option.getD_some, Option.getD_none, implies_true, ite_true, ite_false, eq_self, ne_eq, reduceCtorEq, Nat.reduceLT, Nat.reduceLeDiff, Nat.reduceAdd, Nat.reduceMul, Nat.reduceBEq, Nat.reduceEqDiff, Int.reduceToNat, Int.reduceLT, Int.reduceLE, Nat.reduceSub, pl116, tsize_3, tbytes_3, tagg_3, zcells_3, telem_3, tint_3, tnotIface_3, tsize_23, tbytes_23, tagg_23, zcells_23, telem_23, tnotIface_23, tfun_160, telem_160, u0, u1, u2, u6, u7, u8, f5, f6, f7]
          refine ⟨by omega, merge_c hcmp c (es := cs) (by omega) (by omega) (hse _) (hsp _) hne (by omega) (by omega) (by omega) (by omega) (fun i i1 i2 => hD i (by omega) (by omega)) (hB2.sub (Nat.le_refl _) (by omega)) (hB3.sub (Nat.le_refl _) (by omega)) ((hBo (by omega)).sub (Nat.zero_le _) (Nat.le_refl _) (Nat.le_refl _) (by omega)) fun ks hk1 hk2 => ?_⟩
          simp (maxSteps := 4000000) only [↓packA0, ↓packA1, ↓packA2, ↓reduceIte, packB0, packB1, packB2, packB3, packB4, pureOp, quietOp, loadOp, quietB, fr0, cellsK, Option.getD_some, Option.getD_none, implies_true, ite_true, ite_false, eq_self, ne_eq, reduceCtorEq, Nat.reduceLT, Nat.reduceLeDiff, Nat.reduceAdd, Nat.reduceMul, Nat.reduceBEq, Nat.reduceEqDiff, Int.reduceToNat, Int.reduceLT, Int.reduceLE, Nat.reduceSub, pl116, tsize_3, tbytes_3, tagg_3, zcells_3, telem_3, tint_3, tnotIface_3, tsize_23, tbytes_23, tagg_23, zcells_23, telem_23, tnotIface_23, tfun_160, telem_160, u0, u1, u2, u6, u7, u8, f4, List.set_set]
          exact ⟨by omega, .inl ⟨N - c, by omega, c, ks, rfl, by omega, by omega, hfi ks (by omega) hk hk1 hk2, rfl, rfl⟩⟩
        · have f7 : ¬ ((A + s : Nat) : Int) < (N : Int) := by omega
          simp (maxSteps := 4000000) only [↓packA0, ↓packA1, ↓packA2, ↓reduceIte, packB0, packB1, packB2, packB3, packB4, pureOp, quietOp, loadOp, quietB, fr0, cellsK, Option.getD_some, Option.getD_none, implies_true, ite_true, ite_false, eq_self, ne_eq, reduceCtorEq, Nat.reduceLT, Nat.reduceLeDiff, Nat.reduceAdd, Nat.reduceMul, Nat.reduceBEq, Nat.reduceEqDiff, Int.reduceToNat, Int.reduceLT, Int.reduceLE, Nat.reduceSub, pl116, tsize_3, tbytes_3, tagg_3, zcells_3, telem_3, tint_3, tnotIface_3, tsize_23, tbytes_23, tagg_23, zcells_23, telem_23, tnotIface_23, tfun_160, telem_160, u0, u1, u2, u6, u7, u8, f5, f6, f7, f4]
          rw [show min (A + s) N = N by omega] at hB2
          exact ⟨by omega, by omega, .inl ⟨N - c, by omega, c, cs, rfl, by omega, by omega, hfi cs (by omega) hk Sm.rfl' hB2, rfl, rfl⟩⟩
    · have f2 : ¬ (s : Int) < (N : Int) := by omega
      simp (maxSteps := 4000000) only [↓packA0, ↓packA1, ↓packA2, ↓reduceIte, packB0, packB1, packB2, packB3, packB4, pureOp, quietOp, loadOp, quietB, fr0, cellsK, Option.getD_some, Option.getD_none, implies_true, ite_true, ite_false, eq_self, ne_eq, reduceCtorEq, Nat.reduceLT, Nat.reduceLeDiff, Nat.reduceAdd, Nat.reduceMul, Nat.reduceBEq, Nat.reduceEqDiff, Int.reduceToNat, Int.reduceLT, Int.reduceLE, Nat.reduceSub, pl116, tsize_3, tbytes_3, tagg_3, zcells_3, telem_3, tint_3, tnotIface_3, tsize_23, tbytes_23, tagg_23, zcells_23, telem_23, tnotIface_23, tfun_160, telem_160, u0, u1, u2, u6, f2]
      have := hB.so 0
      rw [Nat.mul_zero, Nat.zero_add, show min s N = N by omega] at this
      exact hq cs hB.sm this
end Go.Proofs.Ytgdlkhgfehclpaa
end

section
/- Buckets: lists of numbers, each in an object of its own. No condition. -/
namespace Go.Proofs.Ytgdlkhgfehclpaa
open Go Go.AL
set_option linter.unusedVariables false
set_option linter.unusedSimpArgs false
def idOf : AV → Option Nat
  | .osl id _ _ _ _ _ => some id
  | _ => none
/-- A slice that lies in an object of its own, or none. -/
def BC (F : Nat → Prop) (h : Heap) (x : AV) (l : List Int) : Prop :=
  (x = .nils ∧ l = []) ∨ ∃ id len cap ex es ex', x = .osl id 1 0 len cap ex ∧ ¬ F id ∧ h[id]? = some (.arr 1 (List.map intE es) ex') ∧ len ≤ cap ∧ cap ≤ es.length ∧ es.length < 1000000 ∧ es.take len = l
structure PS (F : Nat → Prop) (n : Nat) (h : Heap) (cells : List (List AV)) (B : Nat → List Int) : Prop where
  fix : ∀ i : Nat, F i → i < h.length
  len : cells.length = n + 1
  bc : ∀ d : Nat, d ≤ n → ∃ x, cells[d]? = some [x] ∧ BC F h x (B d)
  dj : ∀ (d d' : Nat) (x y : AV) (i : Nat), d ≠ d' → cells[d]? = some [x] → cells[d']? = some [y] → idOf x = some i → idOf y ≠ some i
def updB (B : Nat → List Int) (d : Nat) (l : List Int) : Nat → List Int := fun e => if e = d then l else B e
theorem updB_same {B : Nat → List Int} {d : Nat} {l : List Int} : updB B d l d = l := if_pos rfl
theorem updB_ne {B : Nat → List Int} {d e : Nat} {l : List Int} (h : e ≠ d) : updB B d l e = B e := if_neg h
theorem BC.keep {F F' : Nat → Prop} {h h' : Heap} {x : AV} {l : List Int} (hb : BC F h x l) (hh : ∀ id, idOf x = some id → id < h.length → ¬ F id → ¬ F' id ∧ h'[id]? = h[id]?) : BC F' h' x l := by
  rcases hb with hb | ⟨id, len, cap, ex, es, ex', rfl, h1, h2, h3⟩
  · exact .inl hb
  · obtain ⟨q1, q2⟩ := hh _ rfl (List.getElem?_eq_some_iff.1 h2).1 h1
    exact .inr ⟨id, len, cap, ex, es, ex', rfl, q1, by rw [q2]; exact h2, h3⟩
theorem BC.lt {F : Nat → Prop} {h : Heap} {x : AV} {l : List Int} (hb : BC F h x l) {id : Nat} (e : idOf x = some id) : id < h.length ∧ ¬ F id := by
  rcases hb with ⟨rfl, _⟩ | ⟨id, len, cap, ex, es, ex', rfl, h1, h2, h3⟩
  · cases e
  · cases e
    exact ⟨(List.getElem?_eq_some_iff.1 h2).1, h1⟩
theorem PS.mono {F F' : Nat → Prop} {n : Nat} {h : Heap} {cells : List (List AV)} {B : Nat → List Int} (p : PS F n h cells B) (hF : ∀ i, F' i → F i) : PS F' n h cells B :=
  ⟨fun i hi => p.fix i (hF i hi), p.len, fun d hd => by
    obtain ⟨x, h1, h2⟩ := p.bc d hd
    exact ⟨x, h1, h2.keep fun id _ _ hn => ⟨fun e => hn (hF _ e), rfl⟩⟩, p.dj⟩
/-- What is none of the buckets may be written, and more may be laid behind. -/
theorem PS.keep {F : Nat → Prop} {n : Nat} {h h' : Heap} {cells : List (List AV)} {B : Nat → List Int} (p : PS F n h cells B) (hl : h.length ≤ h'.length) (hh : ∀ i, i < h.length → ¬ F i → h'[i]? = h[i]?) : PS F n h' cells B :=
  ⟨fun i hi => Nat.lt_of_lt_of_le (p.fix i hi) hl, p.len, fun d hd => by
    obtain ⟨x, h1, h2⟩ := p.bc d hd
    exact ⟨x, h1, h2.keep fun id _ hlt hn => ⟨hn, hh id hlt hn⟩⟩, p.dj⟩
theorem PS.set {F : Nat → Prop} {n : Nat} {h : Heap} {cells : List (List AV)} {B : Nat → List Int} (p : PS F n h cells B) {i : Nat} (hi : F i) (o : Ob) : PS F n (h.set i o) cells B :=
  p.keep (by simp) fun j _ hj => List.getElem?_set_ne (fun e => hj (by rw [← e]; exact hi))
theorem PS.app {F : Nat → Prop} {n : Nat} {h : Heap} {cells : List (List AV)} {B : Nat → List Int} (p : PS F n h cells B) (l : Heap) : PS F n (h ++ l) cells B :=
  p.keep (by simp) fun j hj _ => List.getElem?_append_left hj
/-- New objects that no bucket may be. -/
theorem PS.more {F F' : Nat → Prop} {n : Nat} {h h' : Heap} {cells : List (List AV)} {B : Nat → List Int} (p : PS F n h cells B) (hh : ∀ i, i < h.length → h'[i]? = h[i]?) (hl : h.length ≤ h'.length) (hF : ∀ i, F' i → F i ∨ (h.length ≤ i ∧ i < h'.length)) : PS F' n h' cells B :=
  ⟨fun i hi => by
    rcases hF i hi with h1 | h1
    · have := p.fix i h1; omega
    · exact h1.2, p.len, fun d hd => by
    obtain ⟨x, h1, h2⟩ := p.bc d hd
    refine ⟨x, h1, h2.keep fun id _ hlt hn => ⟨fun e => ?_, hh id hlt⟩⟩
    rcases hF id e with h3 | h3
    · exact hn h3
    · omega, p.dj⟩
/-- One bucket turned. -/
theorem PS.turn {F : Nat → Prop} {n : Nat} {h h' : Heap} {cells : List (List AV)} {B : Nat → List Int} (p : PS F n h cells B) {d : Nat} (hd : d ≤ n) {x x' : AV} {l' : List Int} (hx : cells[d]? = some [x]) (hl : h.length ≤ h'.length) (hk : ∀ i, i < h.length → idOf x ≠ some i → h'[i]? = h[i]?)
    (hb : BC F h' x' l') (hid : ∀ i, idOf x' = some i → idOf x = some i ∨ h.length ≤ i) : PS F n h' (cells.set d [x']) (updB B d l') := by
  have hdl : d < cells.length := by rw [p.len]; omega
  have old : ∀ {e y}, e ≠ d → (cells.set d [x'])[e]? = some [y] → cells[e]? = some [y] := fun he hy => by rwa [List.getElem?_set_ne (Ne.symm he)] at hy
  have here : ∀ {y}, (cells.set d [x'])[d]? = some [y] → y = x' := fun hy => by
    rw [List.getElem?_set_self hdl] at hy
    simp at hy
    exact hy.symm
  have lt : ∀ {e y i}, cells[e]? = some [y] → idOf y = some i → i < h.length := fun {e y i} hy hi => by
    have hle : e ≤ n := by
      have := (List.getElem?_eq_some_iff.1 hy).1
      rw [p.len] at this
      omega
    obtain ⟨z, h1, h2⟩ := p.bc e hle
    rw [hy] at h1
    simp at h1
    subst h1
    exact (h2.lt hi).1
  refine ⟨fun i hi => Nat.lt_of_lt_of_le (p.fix i hi) hl, by simp [p.len], fun e he => ?_, fun e e' y z i hee hy hz hi hz2 => ?_⟩
  · by_cases hed : e = d
    · subst hed
      exact ⟨x', List.getElem?_set_self hdl, by rw [updB_same]; exact hb⟩
    · obtain ⟨y, h1, h2⟩ := p.bc e he
      refine ⟨y, by rw [List.getElem?_set_ne (Ne.symm hed)]; exact h1, ?_⟩
      rw [updB_ne hed]
      exact h2.keep fun id hi hlt hn => ⟨hn, hk id hlt (p.dj e d y x id hed h1 hx hi)⟩
  · by_cases h1 : e = d
    · subst h1
      rw [here hy] at hi
      have hz' := old (Ne.symm hee) hz
      rcases hid i hi with h2 | h2
      · exact p.dj e e' x z i hee hx hz' h2 hz2
      · have := lt hz' hz2
        omega
    · have hy' := old h1 hy
      by_cases h3 : e' = d
      · subst h3
        rw [here hz] at hz2
        rcases hid i hz2 with h2 | h2
        · exact p.dj e e' y x i hee hy' hx hi h2
        · have := lt hy' hi
          omega
      · exact p.dj e e' y z i hee hy' (old h3 hz) hi hz2
theorem lenK_bc {P : Program} {t : TypeId} {F : Nat → Prop} {h : Heap} {x : AV} {l : List Int} {K : AV → Prop} (hb : BC F h x l) : lenK P t x K = ((telem P t).isSome = true ∧ K (.int .i64 (l.length : Nat))) := by
  rcases hb with ⟨rfl, rfl⟩ | ⟨id, len, cap, ex, es, ex', rfl, q1, q2, q3, q4, q5, rfl⟩
  · rfl
  · rw [show (es.take len).length = len by simp; omega]
    rfl
theorem max_bc {F : Nat → Prop} {h : Heap} {x : AV} {l : List Int} {Q : AV → Heap → Prop} (hb : BC F h x l) (h0 : 0 < l.length) (hq : Q (.int .i64 (maxK l (l.length - 1))) h) : ACalls Try.prog 77 [x] h Q := by
  rcases hb with ⟨rfl, rfl⟩ | ⟨id, len, cap, ex, es, ex', rfl, q1, q2, q3, q4, q5, rfl⟩
  · simp at h0
  · have hl : (es.take len).length = len := by simp; omega
    exact acalls_lend (max_c (es.take len) (by omega) h0) (.cons (frz_ints q2 rfl hl) .nil) rfl hq
theorem del_ps {c : FuncId} (hclo : Clo c) {F : Nat → Prop} {n : Nat} {h : Heap} {cells : List (List AV)} {B : Nat → List Int} (p : PS F n h cells B) {d : Nat} (hd : d ≤ n) {x : AV} (hx : cells[d]? = some [x]) (h0 : 0 < (B d).length) {vid : Nat} {exv : Bool} {v : Int} (hv : F vid) (hvid : h[vid]? = some (.arr 1 [[.int .i64 v]] exv)) {Q : AV → Heap → Prop}
    (hq : ∀ x' h', (∃ id len cap ex, x' = AV.osl id 1 0 len cap ex) → h'.length = h.length → (∀ i, F i → h'[i]? = h[i]?) → PS F n h' (cells.set d [x']) (updB B d (rid v (B d))) → Q x' h') : ACalls Try.prog 78 [x, .fn (.func c) [] [.op vid 1 0 0]] h Q := by
  obtain ⟨y, h1, h2⟩ := p.bc d hd
  rw [hx] at h1
  simp at h1
  subst h1
  rcases h2 with ⟨rfl, h2⟩ | ⟨id, len, cap, ex, es, ex', rfl, q1, q2, q3, q4, q5, q6⟩
  · rw [h2] at h0; simp at h0
  · have hlt : id < h.length := (List.getElem?_eq_some_iff.1 q2).1
    refine del_c hclo (by omega) q2 hvid (fun e => q1 (e ▸ hv)) (by omega) q3 fun es' h3 h4 => ?_
    rw [q6] at h4 ⊢
    have hle : (rid v (B d)).length ≤ (B d).length := List.length_filter_le _ _
    have hBl : (B d).length = len := by rw [← q6]; simp; omega
    refine hq _ _ ⟨_, _, _, _, rfl⟩ (by simp) (fun i hi => List.getElem?_set_ne (fun e => q1 (by rw [e]; exact hi))) (p.turn hd hx (by simp) (fun i _ hi => List.getElem?_set_ne (fun e => hi (by rw [← e]; rfl))) (.inr ⟨id, _, cap, ex, es', ex', rfl, q1, List.getElem?_set_self hlt, by omega, by omega, by omega, h4⟩) (fun i hi => .inl hi))
/-- One more in a bucket. -/
theorem push_ps {F : Nat → Prop} {n : Nat} {h : Heap} {cells : List (List AV)} {B : Nat → List Int} (p : PS F n h cells B) {d : Nat} (hd : d ≤ n) {x : AV} (hx : cells[d]? = some [x]) (hsm : (B d).length < 900000) {w : Int} {K : AV → Heap → Prop}
    (hq : ∀ x' h', (∃ id len cap ex, x' = AV.osl id 1 0 len cap ex) → h.length ≤ h'.length → (∀ i, F i → h'[i]? = h[i]?) → PS F n h' (cells.set d [x']) (updB B d (B d ++ [w])) → K x' h') : apK 1 8 h x [[.int .i64 w]] K := by
  obtain ⟨y, h1, h2⟩ := p.bc d hd
  rw [hx] at h1
  simp at h1
  subst h1
  rcases h2 with ⟨rfl, h2⟩ | ⟨id, len, cap, ex, es, ex', rfl, q1, q2, q3, q4, q5, q6⟩
  · rw [apK_nils, letH_eq]
    refine ⟨by simp, hq _ _ ⟨_, _, _, _, rfl⟩ (by simp) (fun i hi => List.getElem?_append_left (p.fix i hi)) (p.turn hd hx (by simp) (fun i hi _ => List.getElem?_append_left hi) (.inr ⟨h.length, 1, 1, false, [w], false, rfl, fun e => absurd (p.fix _ e) (Nat.lt_irrefl _), by simp [intE], by omega, by simp, by simp, by rw [h2]; rfl⟩) (fun i hi => .inr (by cases hi; exact Nat.le_refl _)))⟩
  · have hlt : id < h.length := (List.getElem?_eq_some_iff.1 q2).1
    have hBl : (B d).length = len := by rw [← q6]; simp; omega
    have hq6 : (es.take len).length = len := by simp; omega
    refine ⟨rfl, by simp; omega, List.map intE es, ex', q2, by simp; omega, fun hin => ⟨by simp at hin ⊢; omega, ?_⟩, fun hout => ?_⟩
    · simp only [List.length_singleton] at hin
      refine hq _ _ ⟨_, _, _, _, rfl⟩ (by simp) (fun i hi => List.getElem?_set_ne (fun e => q1 (by rw [e]; exact hi))) (p.turn hd hx (by simp) (fun i _ hi => List.getElem?_set_ne (fun e => hi (by rw [← e]; rfl))) (.inr ⟨id, len + 1, cap, ex, es.take len ++ [w] ++ es.drop (len + 1), ex', rfl, q1, ?_, hin, ?_, ?_, ?_⟩) (fun i hi => .inl hi))
      · rw [List.getElem?_set_self hlt]
        simp [List.map_take, List.map_drop, intE]
      · simp only [List.length_append, hq6, List.length_drop, List.length_singleton]; omega
      · simp only [List.length_append, hq6, List.length_drop, List.length_singleton]; omega
      · rw [List.take_left' (by simp [hq6]), q6]
    · have hnew : ∀ g : Heap, g.length = h.length → (∀ i, i < h.length → idOf (.osl id 1 0 len cap ex) ≠ some i → g[i]? = h[i]?) → K (.osl h.length 1 0 (len + 1) (len + 1) false) (g ++ [.arr 1 ((List.map intE es).take len ++ [[.int .i64 w]]) false]) := fun g hg hgk => by
        refine hq _ _ ⟨_, _, _, _, rfl⟩ (by simp [hg]) (fun i hi => ?_) (p.turn hd hx (by simp [hg]) (fun i hi hni => ?_) (.inr ⟨h.length, len + 1, len + 1, false, es.take len ++ [w], false, rfl, fun e => absurd (p.fix _ e) (Nat.lt_irrefl _), ?_, Nat.le_refl _, ?_, ?_, ?_⟩) (fun i hi => .inr (by cases hi; exact Nat.le_refl _)))
        · have hf := p.fix i hi
          rw [List.getElem?_append_left (by omega)]
          exact hgk i hf (fun e => by cases e; exact q1 hi)
        · rw [List.getElem?_append_left (by omega)]
          exact hgk i hi hni
        · rw [List.getElem?_append_right (by omega), hg]
          simp [intE, List.map_take]
        · simp [hq6]
        · simp [hq6]; omega
        · rw [List.take_of_length_le (by simp [hq6]), q6]
      cases ex with
      | true => exact hnew h rfl (fun _ _ _ => rfl)
      | false => exact ⟨rfl, hnew (h.set id .dead) (by simp) (fun i _ hi => List.getElem?_set_ne (fun e => hi (by rw [← e]; rfl)))⟩
end Go.Proofs.Ytgdlkhgfehclpaa
end

section
/- Functions on lists of numbers, second part: Inverse, both. No condition. -/
namespace Go.Proofs.Ytgdlkhgfehclpaa
open Go Go.AL
set_option linter.unusedVariables false
set_option linter.unusedSimpArgs false
/-- Each number's place, the first k written. -/
def invK (xs : List Int) : Nat → List Int
  | 0 => List.replicate xs.length 0
  | k + 1 => (invK xs k).set (xs.getD k default).toNat k
theorem invK_length (xs : List Int) : ∀ k, (invK xs k).length = xs.length
  | 0 => by simp [invK]
  | k + 1 => by simp [invK, invK_length xs k]
theorem checkR_zero {n : Int} {xs : List Int} (h : checkR n xs = 0) : 0 ≤ n ∧ n ≤ 128 ∧ (xs.length : Int) = n ∧ ordOK n xs := by
  unfold checkR at h
  by_cases h1 : n < 0 ∨ 128 < n
  · rw [if_pos h1] at h; omega
  · rw [if_neg h1] at h
    by_cases h2 : (xs.length : Int) ≠ n
    · rw [if_pos h2] at h; omega
    · rw [if_neg h2] at h
      by_cases h3 : ordOK n xs
      · exact ⟨by omega, by omega, by omega, h3⟩
      · rw [if_neg h3] at h; omega
/-- What Inverse answers. -/
noncomputable def invR (xs : List Int) : List Int := if checkR xs.length xs = 0 then invK xs xs.length else []
noncomputable def invE (xs : List Int) : Int := if checkR xs.length xs = 0 then 0 else 182
theorem invR_ok {xs : List Int} (h : checkR xs.length xs = 0) : invR xs = invK xs xs.length ∧ invE xs = 0 := ⟨if_pos h, if_pos h⟩
theorem invR_bad {xs : List Int} (h : checkR xs.length xs ≠ 0) : invR xs = [] ∧ invE xs = 182 := ⟨if_neg h, if_neg h⟩
set_option maxRecDepth 100000 in
theorem inverse_c (xs : List Int) (hb : xs.length < 1000000000) : ACalls Try.prog 30 [ints xs] [] fun v h => OFz h v (.tup [ints (invR xs), .int .i64 (invE xs)]) := by
  refine (wp30 rfl rfl ?_)
  simp (maxSteps := 4000000) +contextual only [↓packA0, ↓packA1, ↓packA2, ↓reduceIte, packB0, packB1, packB2, packB3, packB4, pureOp, quietOp, loadOp, quietB, fr0, cellsK, Option.getD_some, Option.getD_none, implies_true, ite_true, ite_false, eq_self, ne_eq, reduceCtorEq, Nat.reduceLT, Nat.reduceLeDiff, Nat.reduceAdd, Nat.reduceMul, Nat.reduceBEq, Nat.reduceEqDiff, Int.reduceToNat, Int.reduceLT, Int.reduceLE, Nat.reduceSub, pl30, tsize_3, tbytes_3, tagg_3, zcells_3, telem_3, tint_3, tnotIface_3, tsize_23, tbytes_23, tagg_23, zcells_23, telem_23, tnotIface_23, tsize_53, tbytes_53, tagg_53, zcells_53, telem_53, tint_53, tnotIface_53, ints]
  refine acalls_pure (check_c _ _) rfl ?_
  simp (maxSteps := 4000000) +contextual only [↓packA0, ↓packA1, ↓packA2, ↓reduceIte, packB0, packB1, packB2, packB3, packB4, pureOp, quietOp, loadOp, quietB, fr0, cellsK, Option.getD_some, Option.getD_none, implies_true, ite_true, ite_false, eq_self, ne_eq, reduceCtorEq, Nat.reduceLT, Nat.reduceLeDiff, Nat.reduceAdd, Nat.reduceMul, Nat.reduceBEq, Nat.reduceEqDiff, Int.reduceToNat, Int.reduceLT, Int.reduceLE, Nat.reduceSub, pl30, tsize_3, tbytes_3, tagg_3, zcells_3, telem_3, tint_3, tnotIface_3, tsize_23, tbytes_23, tagg_23, zcells_23, telem_23, tnotIface_23, tsize_53, tbytes_53, tagg_53, zcells_53, telem_53, tint_53, tnotIface_53, ints]
  refine ⟨fun h => ?_, fun h => ?_⟩
  · rw [(invR_bad h).1, (invR_bad h).2]
    exact .two (.nils 1) (.flat _ rfl)
  · refine ⟨by omega, ?_⟩
    obtain ⟨_, _, _, hok⟩ := checkR_zero h
    refine LoopK.intro (fun m a h => ∃ k : Nat, m = xs.length - k ∧ k ≤ xs.length ∧ a 4 = .osl 0 1 0 xs.length xs.length true ∧ a 15 = ints xs ∧ a 16 = .int .i64 xs.length ∧ a 17 = .int .i64 k ∧ h = [Ob.arr 1 (List.map intE (invK xs k)) true]) xs.length ⟨0, rfl, Nat.zero_le _, ?_⟩ ?_
    · simp (maxSteps := 4000000) only [↓packA0, ↓packA1, ↓packA2, ↓reduceIte, packB0, packB1, packB2, packB3, packB4, pureOp, quietOp, loadOp, quietB, fr0, cellsK, Option.getD_some, Option.getD_none, implies_true, ite_true, ite_false, eq_self, ne_eq, reduceCtorEq, Nat.reduceLT, Nat.reduceLeDiff, Nat.reduceAdd, Nat.reduceMul, Nat.reduceBEq, Nat.reduceEqDiff, Int.reduceToNat, Int.reduceLT, Int.reduceLE, Nat.reduceSub, pl30, tsize_3, tbytes_3, tagg_3, zcells_3, telem_3, tint_3, tnotIface_3, tsize_23, tbytes_23, tagg_23, zcells_23, telem_23, tnotIface_23, tsize_53, tbytes_53, tagg_53, zcells_53, telem_53, tint_53, tnotIface_53, ints, Int.natCast_zero, invK]
    · rintro m a h1 ⟨k, rfl, hk, a4, a15, a16, a17, rfl⟩
      have hxk := hok k
      unfold okAt at hxk
      simp (maxSteps := 4000000) +contextual only [↓packA0, ↓packA1, ↓packA2, ↓reduceIte, packB0, packB1, packB2, packB3, packB4, pureOp, quietOp, loadOp, quietB, fr0, cellsK, Option.getD_some, Option.getD_none, implies_true, ite_true, ite_false, eq_self, ne_eq, reduceCtorEq, Nat.reduceLT, Nat.reduceLeDiff, Nat.reduceAdd, Nat.reduceMul, Nat.reduceBEq, Nat.reduceEqDiff, Int.reduceToNat, Int.reduceLT, Int.reduceLE, Nat.reduceSub, pl30, tsize_3, tbytes_3, tagg_3, zcells_3, telem_3, tint_3, tnotIface_3, tsize_23, tbytes_23, tagg_23, zcells_23, telem_23, tnotIface_23, tsize_53, tbytes_53, tagg_53, zcells_53, telem_53, tint_53, tnotIface_53, ints, a4, a15, a16, a17, invK_length]
      refine ⟨fun e => ⟨by omega, by omega, by omega, by omega, by omega, .inl ⟨xs.length - (k + 1), by omega, k + 1, rfl, by omega, by omega, rfl⟩⟩, fun e => ?_⟩
      have : k = xs.length := by omega
      subst this
      rw [(invR_ok h).1, (invR_ok h).2]
      exact .two (ofz_ints rfl (invK_length _ _).symm) (.flat _ rfl)
set_option maxRecDepth 100000 in
theorem inverser_c (xs : List Int) (hb : xs.length < 1000000000) : ACalls Try.prog 53 [ints xs] [] fun v h => OFz h v (.tup [ints (invR xs), .int .i64 (invE xs)]) := by
  refine (wp53 rfl rfl ?_)
  simp (maxSteps := 4000000) +contextual only [↓packA0, ↓packA1, ↓packA2, ↓reduceIte, packB0, packB1, packB2, packB3, packB4, pureOp, quietOp, loadOp, quietB, fr0, cellsK, Option.getD_some, Option.getD_none, implies_true, ite_true, ite_false, eq_self, ne_eq, reduceCtorEq, Nat.reduceLT, Nat.reduceLeDiff, Nat.reduceAdd, Nat.reduceMul, Nat.reduceBEq, Nat.reduceEqDiff, Int.reduceToNat, Int.reduceLT, Int.reduceLE, Nat.reduceSub, pl53, tsize_3, tbytes_3, tagg_3, zcells_3, telem_3, tint_3, tnotIface_3, tsize_23, tbytes_23, tagg_23, zcells_23, telem_23, tnotIface_23, ints]
  refine ⟨fun h => ?_, fun h => acalls_pure (checkr_c _ _) rfl ?_⟩
  · have h' : checkR xs.length xs ≠ 0 := fun e => by have := checkR_zero e; omega
    rw [← ints, (invR_bad h').1, (invR_bad h').2]
    exact .two (.nils 1) (.flat _ rfl)
  simp (maxSteps := 4000000) +contextual only [↓packA0, ↓packA1, ↓packA2, ↓reduceIte, packB0, packB1, packB2, packB3, packB4, pureOp, quietOp, loadOp, quietB, fr0, cellsK, Option.getD_some, Option.getD_none, implies_true, ite_true, ite_false, eq_self, ne_eq, reduceCtorEq, Nat.reduceLT, Nat.reduceLeDiff, Nat.reduceAdd, Nat.reduceMul, Nat.reduceBEq, Nat.reduceEqDiff, Int.reduceToNat, Int.reduceLT, Int.reduceLE, Nat.reduceSub, pl53, tsize_3, tbytes_3, tagg_3, zcells_3, telem_3, tint_3, tnotIface_3, tsize_23, tbytes_23, tagg_23, zcells_23, telem_23, tnotIface_23, ints, h]
  refine ⟨fun h => ?_, fun h => ⟨by omega, ?_⟩⟩
  · rw [← ints, (invR_bad h).1, (invR_bad h).2]
    exact .two (.nils 1) (.flat _ rfl)
  obtain ⟨_, _, _, hok⟩ := checkR_zero h
  refine LoopK.intro (fun m a h => ∃ k : Nat, m = xs.length - k ∧ k ≤ xs.length ∧ a 0 = ints xs ∧ a 4 = .osl 0 1 0 xs.length xs.length true ∧ a 5 = .int .i64 k ∧ h = [Ob.arr 1 (List.map intE (invK xs k)) true]) xs.length ⟨0, rfl, Nat.zero_le _, ?_⟩ ?_
  · simp (maxSteps := 4000000) only [↓packA0, ↓packA1, ↓packA2, ↓reduceIte, packB0, packB1, packB2, packB3, packB4, pureOp, quietOp, loadOp, quietB, fr0, cellsK, Option.getD_some, Option.getD_none, implies_true, ite_true, ite_false, eq_self, ne_eq, reduceCtorEq, Nat.reduceLT, Nat.reduceLeDiff, Nat.reduceAdd, Nat.reduceMul, Nat.reduceBEq, Nat.reduceEqDiff, Int.reduceToNat, Int.reduceLT, Int.reduceLE, Nat.reduceSub, pl53, tsize_3, tbytes_3, tagg_3, zcells_3, telem_3, tint_3, tnotIface_3, tsize_23, tbytes_23, tagg_23, zcells_23, telem_23, tnotIface_23, ints, Int.natCast_zero, invK]
  · rintro m a h1 ⟨k, rfl, hk, a0, a4, a5, rfl⟩
    have hxk := hok k
    unfold okAt at hxk
    simp (maxSteps := 4000000) +contextual only [↓packA0, ↓packA1, ↓packA2, ↓reduceIte, packB0, packB1, packB2, packB3, packB4, pureOp, quietOp, loadOp, quietB, fr0, cellsK, Option.getD_some, Option.getD_none, implies_true, ite_true, ite_false, eq_self, ne_eq, reduceCtorEq, Nat.reduceLT, Nat.reduceLeDiff, Nat.reduceAdd, Nat.reduceMul, Nat.reduceBEq, Nat.reduceEqDiff, Int.reduceToNat, Int.reduceLT, Int.reduceLE, Nat.reduceSub, pl53, tsize_3, tbytes_3, tagg_3, zcells_3, telem_3, tint_3, tnotIface_3, tsize_23, tbytes_23, tagg_23, zcells_23, telem_23, tnotIface_23, ints, a0, a4, a5, invK_length]
    refine ⟨fun e => ⟨by omega, by omega, by omega, by omega, by omega, .inl ⟨xs.length - (k + 1), by omega, k + 1, rfl, by omega, by omega, rfl⟩⟩, fun e => ?_⟩
    have : k = xs.length := by omega
    subst this
    rw [(invR_ok h).1, (invR_ok h).2]
    exact .two (ofz_ints rfl (invK_length _ _).symm) (.flat _ rfl)
end Go.Proofs.Ytgdlkhgfehclpaa
end

section
/- Plain laws of orders: an order's inverse is one, and its inverse is the order. No condition. -/
namespace Go.Proofs.Ytgdlkhgfehclpaa
open Go Go.AL
theorem pigeon : ∀ (n : Nat) (l : List Nat), l.Nodup → (∀ x, x ∈ l → x < n) → l.length ≤ n
  | 0, l, _, h => by
    cases l with
    | nil => exact Nat.le_refl _
    | cons a l => exact absurd (h a (by simp)) (Nat.not_lt_zero _)
  | n + 1, l, hn, h => by
    have h1 := pigeon n (l.erase n) (hn.erase n) (fun x hx => by
      have h2 := (List.Nodup.mem_erase_iff hn).1 hx
      have h3 := h x h2.2
      have h4 := h2.1
      omega)
    rw [List.length_erase] at h1
    split at h1 <;> omega
theorem gd {xs : List Int} {i : Nat} (h : i < xs.length) : xs.getD i default = xs[i] := by simp [List.getD_eq_getElem?_getD, List.getElem?_eq_getElem h]
theorem ord_onto {xs : List Int} (h : ordOK xs.length xs) {v : Nat} (hv : v < xs.length) : ∃ j, j < xs.length ∧ xs.getD j default = v := by
  rcases Classical.em (∃ j, j < xs.length ∧ xs.getD j default = v) with hc | hc
  · exact hc
  have hp : (v :: xs.map Int.toNat).length ≤ xs.length := by
    refine pigeon _ _ ?_ ?_
    · refine List.nodup_cons.2 ⟨fun hm => ?_, ?_⟩
      · obtain ⟨x, hx, e⟩ := List.mem_map.1 hm
        obtain ⟨i, hi, e2⟩ := List.getElem_of_mem hx
        have h1 := (h i hi).1
        rw [gd hi, e2] at h1
        exact hc ⟨i, hi, by rw [gd hi, e2]; omega⟩
      · refine List.pairwise_iff_getElem.2 fun i j hi hj hij => ?_
        simp only [List.length_map] at hi hj
        simp only [List.getElem_map]
        have h1 := (h j hj).2.2 i hij
        have h2 := (h j hj).1
        have h3 := (h i hi).1
        rw [gd hi, gd hj] at h1
        rw [gd hj] at h2
        rw [gd hi] at h3
        omega
    · intro x hx
      rcases List.mem_cons.1 hx with e | hx
      · omega
      · obtain ⟨y, hy, e⟩ := List.mem_map.1 hx
        obtain ⟨i, hi, e2⟩ := List.getElem_of_mem hy
        have h1 := (h i hi).1
        have h2 := (h i hi).2.1
        rw [gd hi, e2] at h1 h2
        omega
  simp only [List.length_cons, List.length_map] at hp
  omega
theorem invK_get {xs : List Int} (h : ordOK xs.length xs) : ∀ k, k ≤ xs.length → ∀ j, j < k → (invK xs k).getD (xs.getD j default).toNat default = j
  | 0, _, j, hj => absurd hj (Nat.not_lt_zero _)
  | k + 1, hk, j, hj => by
    have h1 := h k (by omega)
    simp only [invK]
    rw [List.getD_eq_getElem?_getD, List.getElem?_set]
    by_cases e : (xs.getD k default).toNat = (xs.getD j default).toNat
    · have e1 : j = k := by
        rcases Nat.lt_or_ge j k with hlt | hge
        · exfalso
          have h2 := h j (by omega)
          have h3 := h1.2.2 j hlt
          have h4 := h1.1
          have h5 := h2.1
          omega
        · omega
      subst e1
      have h6 := h1.1
      have h7 := h1.2.1
      rw [if_pos rfl, if_pos (by rw [invK_length]; omega)]
      rfl
    · rw [if_neg e, ← List.getD_eq_getElem?_getD]
      refine invK_get h k (by omega) j ?_
      rcases Nat.lt_or_ge j k with hlt | hge
      · exact hlt
      · exact absurd (by rw [show j = k by omega]) e
theorem checkR_ok {xs : List Int} (h0 : xs.length ≤ 128) (h : ordOK xs.length xs) : checkR xs.length xs = 0 := by
  unfold checkR
  rw [if_neg (by omega), if_neg (by simp), if_pos h]
theorem inv_ord {xs : List Int} (h : ordOK xs.length xs) : ordOK (invK xs xs.length).length (invK xs xs.length) := by
  intro v hv
  rw [invK_length] at hv
  obtain ⟨j, hj, e⟩ := ord_onto h hv
  have h1 := invK_get h xs.length (Nat.le_refl _) j hj
  rw [e, show ((v : Int)).toNat = v from Int.toNat_natCast v] at h1
  refine ⟨by rw [h1]; omega, by rw [h1, invK_length]; omega, fun w hw hc => ?_⟩
  obtain ⟨i, hi, e2⟩ := ord_onto h (v := w) (by omega)
  have h2 := invK_get h xs.length (Nat.le_refl _) i hi
  rw [e2, show ((w : Int)).toNat = w from Int.toNat_natCast w] at h2
  rw [h1, h2] at hc
  have : i = j := by omega
  subst this
  omega
theorem inv_inv {xs : List Int} (h : ordOK xs.length xs) : invK (invK xs xs.length) (invK xs xs.length).length = xs := by
  refine list_ext_getD (by rw [invK_length, invK_length]) fun i hi => ?_
  rw [invK_length, invK_length] at hi
  have h1 := invK_get h xs.length (Nat.le_refl _) i hi
  have h2 := h i hi
  have h3 := h2.1
  have h4 := h2.2.1
  have h5 := invK_get (inv_ord h) _ (Nat.le_refl _) (xs.getD i default).toNat (by rw [invK_length]; omega)
  rw [h1, show ((i : Int)).toNat = i from Int.toNat_natCast i] at h5
  rw [h5]
  omega
theorem invR_two {xs : List Int} (h : invE xs = 0) : invE (invR xs) = 0 ∧ invR (invR xs) = xs := by
  have hc : checkR xs.length xs = 0 := by
    rcases Classical.em (checkR xs.length xs = 0) with hc | hc
    · exact hc
    · rw [(invR_bad hc).2] at h; omega
  obtain ⟨_, h2, _, h4⟩ := checkR_zero hc
  rw [(invR_ok hc).1]
  have h5 := checkR_ok (by rw [invK_length]; omega) (inv_ord h4)
  exact ⟨(invR_ok h5).2, by rw [(invR_ok h5).1]; exact inv_inv h4⟩
end Go.Proofs.Ytgdlkhgfehclpaa
end

section
/- Vertices taken away one by one: the plain part. No condition. -/
namespace Go.Proofs.Ytgdlkhgfehclpaa
open Go Go.AL
set_option linter.unusedVariables false
set_option linter.unusedSimpArgs false
/-- How many of a vertex's neighbours are in a set. -/
def cnt (st cs : List Int) (S : List Bool) (v : Nat) : Nat := ((rowOf st cs v).filter (fun w => S.getD w.toNat false)).length
/-- The last one below k of those that have the fewest neighbours in the set. -/
def bestB (st cs : List Int) (S : List Bool) : Nat → Option Nat
  | 0 => none
  | k + 1 => match bestB st cs S k with
    | none => if S.getD k false then some k else none
    | some b => if S.getD k false = true ∧ cnt st cs S k ≤ cnt st cs S b then some k else some b
def Best (st cs : List Int) (S : List Bool) (k v : Nat) : Prop := v < k ∧ S.getD v false = true ∧ ∀ u, u < k → S.getD u false = true → cnt st cs S v ≤ cnt st cs S u ∧ (cnt st cs S u = cnt st cs S v → u ≤ v)
theorem best_none {st cs : List Int} {S : List Bool} : ∀ {k : Nat}, bestB st cs S k = none → ∀ u, u < k → S.getD u false = false
  | 0, _, u, h => absurd h (Nat.not_lt_zero _)
  | k + 1, e, u, h => by
    simp only [bestB] at e
    cases hb : bestB st cs S k with
    | none =>
      rw [hb] at e
      simp only at e
      split at e
      · cases e
      · rename_i hk
        rcases Nat.lt_or_ge u k with h1 | h1
        · exact best_none hb u h1
        · rw [show u = k by omega]; simpa using hk
    | some b =>
      rw [hb] at e
      simp only at e
      split at e <;> cases e
theorem best_some {st cs : List Int} {S : List Bool} : ∀ {k v : Nat}, bestB st cs S k = some v → Best st cs S k v
  | 0, v, e => by cases e
  | k + 1, v, e => by
    simp only [bestB] at e
    cases hb : bestB st cs S k with
    | none =>
      rw [hb] at e
      simp only at e
      split at e
      · rename_i hk
        cases e
        refine ⟨by omega, hk, fun u hu hs => ?_⟩
        rcases Nat.lt_or_ge u k with h1 | h1
        · have := best_none hb u h1
          rw [hs] at this; cases this
        · rw [show u = k by omega]; exact ⟨Nat.le_refl _, fun _ => Nat.le_refl _⟩
      · cases e
    | some b =>
      rw [hb] at e
      obtain ⟨b1, b2, b3⟩ := best_some hb
      simp only at e
      split at e
      · rename_i hk
        cases e
        refine ⟨by omega, hk.1, fun u hu hs => ?_⟩
        rcases Nat.lt_or_ge u k with h1 | h1
        · have := b3 u h1 hs
          exact ⟨by omega, fun _ => by omega⟩
        · rw [show u = k by omega]; exact ⟨Nat.le_refl _, fun _ => Nat.le_refl _⟩
      · rename_i hk
        cases e
        refine ⟨by omega, b2, fun u hu hs => ?_⟩
        rcases Nat.lt_or_ge u k with h1 | h1
        · exact b3 u h1 hs
        · obtain rfl : u = k := by omega
          have : ¬ cnt st cs S u ≤ cnt st cs S v := fun h => hk ⟨hs, h⟩
          exact ⟨by omega, fun _ => by omega⟩
theorem best_uniq {st cs : List Int} {S : List Bool} {k v : Nat} (h : Best st cs S k v) : bestB st cs S k = some v := by
  cases hb : bestB st cs S k with
  | none =>
    have := best_none hb v h.1
    rw [h.2.1] at this; cases this
  | some b =>
    obtain ⟨b1, b2, b3⟩ := best_some hb
    have h1 := h.2.2 b b1 b2
    have h2 := b3 v h.1 h.2.1
    have h3 := h1.2 (by omega)
    have h4 := h2.2 (by omega)
    rw [show b = v by omega]
structure PT where
  S : List Bool
  c : Nat
  O : List Int
  C : List Int
/-- What is known when k vertices have been taken away. -/
def pst (st cs : List Int) (n : Nat) : Nat → PT
  | 0 => ⟨List.replicate n true, 0, List.replicate n 0, List.replicate n 0⟩
  | k + 1 => match bestB st cs (pst st cs n k).S n with
    | none => pst st cs n k
    | some v => ⟨(pst st cs n k).S.set v false, max (pst st cs n k).c (cnt st cs (pst st cs n k).S v), (pst st cs n k).O.set (n - 1 - k) v, (pst st cs n k).C.set v (max (pst st cs n k).c (cnt st cs (pst st cs n k).S v) : Nat)⟩
def trues (S : List Bool) : Nat := (S.filter id).length
theorem trues_set {v : Nat} : ∀ {S : List Bool}, S.getD v false = true → trues (S.set v false) + 1 = trues S := by
  induction v with
  | zero =>
    intro S h
    cases S with
    | nil => simp at h
    | cons x S => simp at h; rw [h]; simp [trues]
  | succ v ih =>
    intro S h
    cases S with
    | nil => simp at h
    | cons b S =>
      simp only [List.getD_cons_succ] at h
      have := ih h
      cases b <;> simp [trues] at this ⊢ <;> omega
theorem trues_pos {S : List Bool} (h : 0 < trues S) : ∃ v, v < S.length ∧ S.getD v false = true := by
  unfold trues at h
  obtain ⟨x, hx⟩ := List.exists_mem_of_length_pos h
  rw [List.mem_filter] at hx
  obtain ⟨i, hi, e⟩ := List.getElem_of_mem hx.1
  exact ⟨i, hi, by rw [List.getD_eq_getElem?_getD, List.getElem?_eq_getElem hi, e]; exact hx.2⟩
theorem pst_len (st cs : List Int) (n : Nat) : ∀ k, (pst st cs n k).S.length = n ∧ (pst st cs n k).O.length = n ∧ (pst st cs n k).C.length = n
  | 0 => by simp [pst]
  | k + 1 => by
    have := pst_len st cs n k
    simp only [pst]
    cases bestB st cs (pst st cs n k).S n with
    | none => exact this
    | some v => simpa using this
theorem pst_step {st cs : List Int} {n k v : Nat} (h : Best st cs (pst st cs n k).S n v) : pst st cs n (k + 1) = ⟨(pst st cs n k).S.set v false, max (pst st cs n k).c (cnt st cs (pst st cs n k).S v), (pst st cs n k).O.set (n - 1 - k) v, (pst st cs n k).C.set v (max (pst st cs n k).c (cnt st cs (pst st cs n k).S v) : Nat)⟩ := by
  simp only [pst, best_uniq h]
theorem pst_trues (st cs : List Int) (n : Nat) : ∀ k, k ≤ n → trues (pst st cs n k).S = n - k
  | 0, _ => by simp [pst, trues]
  | k + 1, hk => by
    have h1 := pst_trues st cs n k (by omega)
    obtain ⟨u, hu, hs⟩ := trues_pos (S := (pst st cs n k).S) (by omega)
    rw [(pst_len st cs n k).1] at hu
    cases hb : bestB st cs (pst st cs n k).S n with
    | none =>
      have := best_none hb u hu
      rw [hs] at this; cases this
    | some v =>
      have hv := best_some hb
      rw [pst_step hv]
      have := trues_set hv.2.1
      simp only
      omega
theorem cnt_le {st cs : List Int} {S : List Bool} {v : Nat} : cnt st cs S v ≤ (rowOf st cs v).length := List.length_filter_le _ _
/-- One leaves the set. -/
theorem filter_drop {p p' : Int → Bool} {v : Int} (hv : p' v = false) (ho : ∀ w, w ≠ v → p' w = p w) : ∀ {l : List Int}, l.Nodup → (l.filter p').length + (if v ∈ l ∧ p v = true then 1 else 0) = (l.filter p).length
  | [], _ => by simp
  | x :: l, hn => by
    rw [List.nodup_cons] at hn
    have ih := filter_drop hv ho hn.2
    by_cases e : x = v
    · subst e
      rw [if_neg (fun h => hn.1 h.1)] at ih
      rw [List.filter_cons, if_neg (by simp [hv])]
      cases hp : p x with
      | true => rw [if_pos ⟨List.mem_cons_self, rfl⟩, List.filter_cons, if_pos hp]; simp only [List.length_cons]; omega
      | false => rw [if_neg (by simp), List.filter_cons, if_neg (by simp [hp])]; omega
    · have h1 : (v ∈ x :: l ∧ p v = true) ↔ (v ∈ l ∧ p v = true) := by
        simp only [List.mem_cons]
        constructor
        · rintro ⟨h | h, h2⟩
          · exact absurd h.symm e
          · exact ⟨h, h2⟩
        · rintro ⟨h, h2⟩; exact ⟨.inr h, h2⟩
      simp only [h1]
      rw [List.filter_cons, List.filter_cons, ho x e]
      split
      · simp only [List.length_cons]; omega
      · exact ih
end Go.Proofs.Ytgdlkhgfehclpaa
end

section
/- order.peel: the buckets are filled. No condition. -/
namespace Go.Proofs.Ytgdlkhgfehclpaa
open Go Go.AL
set_option linter.unusedVariables false
set_option linter.unusedSimpArgs false
/-- Which numbers below m lie in which bucket. -/
def BR (m : Nat) (L : List Int) (B : Nat → List Int) : Prop := ∀ d : Nat, (B d).Nodup ∧ ∀ w : Int, w ∈ B d ↔ 0 ≤ w ∧ w < m ∧ L.getD w.toNat default = d
theorem BR.len {m : Nat} {L : List Int} {B : Nat → List Int} (h : BR m L B) (d : Nat) : (B d).length ≤ m := by
  have := pigeon m ((B d).map Int.toNat) (by
    refine List.pairwise_map.2 ?_
    refine List.Pairwise.imp_of_mem ?_ (h d).1
    intro a b ha hb hab
    have h1 := ((h d).2 a).1 ha
    have h2 := ((h d).2 b).1 hb
    omega) (fun x hx => by
    obtain ⟨y, hy, e⟩ := List.mem_map.1 hx
    have := ((h d).2 y).1 hy
    omega)
  simpa using this
theorem mem_rid {v w : Int} {l : List Int} : w ∈ rid v l ↔ w ∈ l ∧ w ≠ v := by simp [rid]
theorem nodup_rid {v : Int} {l : List Int} (h : l.Nodup) : (rid v l).Nodup := h.filter _
theorem nodup_row {w : Int} {l : List Int} (h : rowOK w l) : l.Nodup := by
  refine List.pairwise_iff_getElem.2 fun i j hi hj hij => ?_
  have := row_lt h hij hj
  rw [gd hi, gd hj] at this
  omega
theorem row_len {n : Nat} {st cs : List Int} (h : mayP n n st cs) {v : Nat} (hv : v < n) : (rowOf st cs v).length ≤ n := by
  obtain ⟨h1, h2, h3, h4, h5, h6, h7⟩ := may_row h (show v < (n : Int).toNat by omega)
  have := pigeon n ((rowOf st cs v).map Int.toNat) (by
    refine List.pairwise_map.2 ?_
    refine List.Pairwise.imp_of_mem ?_ (nodup_row h4)
    intro a b ha hb hab
    obtain ⟨i, hi, e1⟩ := mem_getD.1 ha
    obtain ⟨j, hj, e2⟩ := mem_getD.1 hb
    have := row_nonneg h4 hi
    have := row_nonneg h4 hj
    omega) (fun x hx => by
    obtain ⟨y, hy, e⟩ := List.mem_map.1 hx
    obtain ⟨i, hi, e1⟩ := mem_getD.1 hy
    have := row_nonneg h4 hi
    have := (h4 i hi).2
    omega)
  simpa using this
theorem BR.push {k : Nat} {L : List Int} {B : Nat → List Int} (h : BR k L B) (hk : k < L.length) (y : Nat) : BR (k + 1) (L.set k (y : Nat)) (updB B y (B y ++ [((k : Nat) : Int)])) := fun d => by
  have key : ∀ w : Int, 0 ≤ w → (L.set k (y : Int)).getD w.toNat default = if w = k then (y : Int) else L.getD w.toNat default := fun w hw => by
    by_cases e : w = k
    · subst e
      rw [if_pos rfl, Int.toNat_natCast]
      simp [List.getD_eq_getElem?_getD, List.getElem?_set_self hk]
    · rw [if_neg e, getD_set_ne (by omega)]
  by_cases hd : d = y
  · subst hd
    rw [updB_same]
    refine ⟨List.nodup_append.2 ⟨(h d).1, by simp, fun a ha b hb => ?_⟩, fun w => ?_⟩
    · have := ((h d).2 a).1 ha
      simp at hb
      omega
    · rw [List.mem_append, (h d).2 w]
      simp only [List.mem_singleton]
      constructor
      · rintro (h1 | rfl)
        · exact ⟨h1.1, by omega, by rw [key w h1.1, if_neg (by omega)]; exact h1.2.2⟩
        · exact ⟨by omega, by omega, by rw [key _ (by omega), if_pos rfl]⟩
      · rintro ⟨h1, h2, h3⟩
        rw [key w h1] at h3
        by_cases e : w = k
        · exact .inr e
        · rw [if_neg e] at h3; exact .inl ⟨h1, by omega, h3⟩
  · rw [updB_ne hd]
    refine ⟨(h d).1, fun w => ?_⟩
    rw [(h d).2 w]
    constructor
    · rintro ⟨h1, h2, h3⟩
      exact ⟨h1, by omega, by rw [key w h1, if_neg (by omega)]; exact h3⟩
    · rintro ⟨h1, h2, h3⟩
      rw [key w h1] at h3
      by_cases e : w = k
      · rw [if_pos e] at h3; omega
      · rw [if_neg e] at h3; exact ⟨h1, by omega, h3⟩
def F3 : Nat → Prop := fun i => i < 3
def Fx (o7 o8 : Nat) : Nat → Prop := fun i => i < 3 ∨ i = o7 ∨ i = o8
/-- How many neighbours are left: of those that are gone -1. -/
def LR (st cs : List Int) (n : Nat) (S : List Bool) (L : List Int) : Prop := ∀ v : Nat, v < n → L.getD v default = if S.getD v false = true then ((cnt st cs S v : Nat) : Int) else -1
def PJ (st cs : List Int) (n m : Nat) (a : Fr) (h : Heap) : Prop := ∃ (k o7 o8 at' : Nat) (L : List Int) (cells : List (List AV)) (B : Nat → List Int), m = n - k ∧ k ≤ n ∧ L.length = n ∧ LR st cs n (pst st cs n k).S L ∧ BR n L B ∧ PS (Fx o7 o8) n h cells B ∧ h[0]? = some (patO n n st cs) ∧ h[1]? = some (.arr 1 (List.map intE L) true) ∧ h[2]? = some (.arr 1 cells true) ∧
  h[o7]? = some (.arr 1 (List.map intE (pst st cs n k).O) true) ∧ h[o8]? = some (.arr 1 (List.map intE (pst st cs n k).C) true) ∧ 3 ≤ o7 ∧ 3 ≤ o8 ∧ o7 ≠ o8 ∧ at' ≤ n ∧ (∀ d, d < at' → B d = []) ∧
  a 1 = .op 0 4 0 0 ∧ a 4 = .osl 1 1 0 n n true ∧ a 5 = .osl 2 1 0 (n + 1) (n + 1) true ∧ a 7 = .osl o7 1 0 n n true ∧ a 8 = .osl o8 1 0 n n true ∧ a 9 = .int .i64 at' ∧ a 10 = .int .i64 (pst st cs n k).c ∧ a 11 = .int .i64 ((n : Int) - 1 - k)
theorem lr_start {st cs : List Int} {n : Nat} (hm : mayP n n st cs) {L : List Int} (hd : ∀ v : Nat, v < n → L.getD v default = (rowOf st cs v).length) : LR st cs n (pst st cs n 0).S L := fun v hv => by
  obtain ⟨h1, h2, h3, h4, h5, h6, h7⟩ := may_row hm (show v < (n : Int).toNat by omega)
  have hS : ∀ w : Nat, w < n → (List.replicate n true).getD w false = true := fun w hw => by rw [List.getD_eq_getElem?_getD, List.getElem?_replicate, if_pos hw]; rfl
  rw [hd v hv]
  change _ = if (List.replicate n true).getD v false = true then ((cnt st cs (List.replicate n true) v : Nat) : Int) else -1
  rw [if_pos (hS v hv), cnt, List.filter_eq_self.2]
  intro w hw
  obtain ⟨i, hi, e⟩ := mem_getD.1 hw
  have := row_nonneg h4 hi
  have := (h4 i hi).2
  exact hS _ (by omega)
theorem bucket_some {st cs : List Int} {n k : Nat} (hm : mayP n n st cs) (hk : k < n) {L : List Int} {B : Nat → List Int} (hL : LR st cs n (pst st cs n k).S L) (hB : BR n L B) : ∃ d, d ≤ n ∧ B d ≠ [] := by
  obtain ⟨v, hv, hs⟩ := trues_pos (S := (pst st cs n k).S) (by rw [pst_trues st cs n k (by omega)]; omega)
  rw [(pst_len st cs n k).1] at hv
  have h1 := hL v hv
  rw [if_pos hs] at h1
  refine ⟨cnt st cs (pst st cs n k).S v, Nat.le_trans cnt_le (row_len hm hv), fun e => ?_⟩
  have h2 := ((hB (cnt st cs (pst st cs n k).S v)).2 (v : Int)).2 ⟨by omega, by omega, by rw [Int.toNat_natCast]; exact h1⟩
  rw [e] at h2
  cases h2
theorem best_of {st cs : List Int} {n q : Nat} {S : List Bool} {L : List Int} {B : Nat → List Int} (hn : L.length = n) (hL : LR st cs n S L) (hB : BR n L B) (hlow : ∀ d, d < q → B d = []) (h0 : 0 < (B q).length) :
    ∃ v : Nat, maxK (B q) ((B q).length - 1) = v ∧ v < n ∧ L.getD v default = q ∧ cnt st cs S v = q ∧ Best st cs S n v := by
  obtain ⟨j, hj, e⟩ := maxK_mem (l := B q) ((B q).length - 1)
  have hm := ((hB q).2 (maxK (B q) ((B q).length - 1))).1 (by rw [e]; exact mem_getD.2 ⟨j, by omega, rfl⟩)
  obtain ⟨v, hv⟩ := Int.eq_ofNat_of_zero_le hm.1
  have hm2 := hm.2.2
  rw [hv] at hm
  rw [hv, Int.toNat_natCast] at hm2
  have hvn : v < n := by omega
  have key : ∀ u, u < n → S.getD u false = true → L.getD u default = cnt st cs S u ∧ (u : Int) ∈ B (cnt st cs S u) := fun u hu hs => by
    have h1 := hL u hu
    rw [if_pos hs] at h1
    exact ⟨h1, ((hB _).2 _).2 ⟨by omega, by omega, by rw [Int.toNat_natCast]; exact h1⟩⟩
  have hs : S.getD v false = true := by
    have h1 := hL v hvn
    cases hsv : S.getD v false with
    | true => rfl
    | false => rw [hsv, if_neg (by simp)] at h1; omega
  have hc : cnt st cs S v = q := by
    have := (key v hvn hs).1
    omega
  refine ⟨v, hv, hvn, hm2, hc, hvn, hs, fun u hu hus => ⟨?_, fun e => ?_⟩⟩
  · have h1 := (key u hu hus).2
    rcases Nat.lt_or_ge (cnt st cs S u) q with h2 | h2
    · rw [hlow _ h2] at h1; cases h1
    · omega
  · have h1 := (key u hu hus).2
    rw [e, hc] at h1
    obtain ⟨i, hi, e2⟩ := mem_getD.1 h1
    have h3 := maxK_le (l := B q) ((B q).length - 1) i (by omega)
    omega
theorem BR.drop {n : Nat} {L : List Int} {B : Nat → List Int} (h : BR n L B) {v q : Nat} (hv : v < L.length) (hq : L.getD v default = q) : BR n (L.set v (-1)) (updB B q (rid v (B q))) := fun d => by
  have key : ∀ w : Int, 0 ≤ w → (L.set v (-1)).getD w.toNat default = if w = v then -1 else L.getD w.toNat default := fun w hw => by
    by_cases e : w = v
    · subst e
      rw [if_pos rfl, Int.toNat_natCast]
      simp [List.getD_eq_getElem?_getD, List.getElem?_set_self hv]
    · rw [if_neg e, getD_set_ne (by omega)]
  by_cases hd : d = q
  · subst hd
    rw [updB_same]
    refine ⟨nodup_rid (h d).1, fun w => ?_⟩
    rw [mem_rid, (h d).2 w]
    constructor
    · rintro ⟨⟨h1, h2, h3⟩, h4⟩
      exact ⟨h1, h2, by rw [key w h1, if_neg h4]; exact h3⟩
    · rintro ⟨h1, h2, h3⟩
      rw [key w h1] at h3
      by_cases e : w = v
      · rw [if_pos e] at h3; omega
      · rw [if_neg e] at h3; exact ⟨⟨h1, h2, h3⟩, e⟩
  · rw [updB_ne hd]
    refine ⟨(h d).1, fun w => ?_⟩
    rw [(h d).2 w]
    constructor
    · rintro ⟨h1, h2, h3⟩
      refine ⟨h1, h2, ?_⟩
      rw [key w h1]
      by_cases e : w = v
      · subst e; rw [Int.toNat_natCast] at h3; omega
      · rw [if_neg e]; exact h3
    · rintro ⟨h1, h2, h3⟩
      rw [key w h1] at h3
      by_cases e : w = v
      · rw [if_pos e] at h3; omega
      · rw [if_neg e] at h3; exact ⟨h1, h2, h3⟩
theorem BR.move {n : Nat} {L : List Int} {B : Nat → List Int} (h : BR n L B) {w e : Nat} (hw : w < L.length) (hwn : w < n) (he : L.getD w default = e) (h1 : 1 ≤ e) : BR n (L.set w ((e : Int) - 1)) (updB (updB B e (rid w (B e))) (e - 1) (updB B e (rid w (B e)) (e - 1) ++ [(w : Int)])) := fun d => by
  have key : ∀ u : Int, 0 ≤ u → (L.set w ((e : Int) - 1)).getD u.toNat default = if u = w then (e : Int) - 1 else L.getD u.toNat default := fun u hu => by
    by_cases c : u = w
    · subst c
      rw [if_pos rfl, Int.toNat_natCast]
      simp [List.getD_eq_getElem?_getD, List.getElem?_set_self hw]
    · rw [if_neg c, getD_set_ne (by omega)]
  by_cases hd : d = e - 1
  · subst hd
    rw [updB_same, updB_ne (by omega)]
    refine ⟨List.nodup_append.2 ⟨(h _).1, by simp, fun a ha b hb => ?_⟩, fun u => ?_⟩
    · have h2 := ((h _).2 a).1 ha
      simp at hb
      subst hb
      intro c
      subst c
      rw [Int.toNat_natCast] at h2
      omega
    · rw [List.mem_append, (h _).2 u]
      simp only [List.mem_singleton]
      constructor
      · rintro (h2 | rfl)
        · refine ⟨h2.1, h2.2.1, ?_⟩
          rw [key u h2.1]
          by_cases c : u = w
          · rw [if_pos c]; omega
          · rw [if_neg c]; exact h2.2.2
        · exact ⟨by omega, by omega, by rw [key _ (by omega), if_pos rfl]; omega⟩
      · rintro ⟨h2, h3, h4⟩
        rw [key u h2] at h4
        by_cases c : u = w
        · exact .inr c
        · rw [if_neg c] at h4; exact .inl ⟨h2, h3, h4⟩
  · rw [updB_ne hd]
    by_cases hde : d = e
    · subst hde
      rw [updB_same]
      refine ⟨nodup_rid (h d).1, fun u => ?_⟩
      rw [mem_rid, (h d).2 u]
      constructor
      · rintro ⟨⟨h2, h3, h4⟩, h5⟩
        exact ⟨h2, h3, by rw [key u h2, if_neg h5]; exact h4⟩
      · rintro ⟨h2, h3, h4⟩
        rw [key u h2] at h4
        by_cases c : u = w
        · rw [if_pos c] at h4; omega
        · rw [if_neg c] at h4; exact ⟨⟨h2, h3, h4⟩, c⟩
    · rw [updB_ne hde]
      refine ⟨(h d).1, fun u => ?_⟩
      rw [(h d).2 u]
      constructor
      · rintro ⟨h2, h3, h4⟩
        refine ⟨h2, h3, ?_⟩
        rw [key u h2]
        by_cases c : u = w
        · subst c; rw [Int.toNat_natCast] at h4; omega
        · rw [if_neg c]; exact h4
      · rintro ⟨h2, h3, h4⟩
        rw [key u h2] at h4
        by_cases c : u = w
        · rw [if_pos c] at h4; omega
        · rw [if_neg c] at h4; exact ⟨h2, h3, h4⟩
theorem sym_row {st cs : List Int} {n : Nat} (hg : graphP n n st cs) {u v : Nat} (hu : u < n) (h : (v : Int) ∈ rowOf st cs u) : (u : Int) ∈ rowOf st cs v := by
  obtain ⟨j, hj, e⟩ := mem_getD.1 h
  have := hg.1.2.2 u (by omega) j hj
  rw [e, Int.toNat_natCast] at this
  exact this
theorem cnt_drop {st cs : List Int} {n : Nat} (hg : graphP n n st cs) {S : List Bool} {u v : Nat} (hv : v < n) (hu : u < n) (hs : S.getD v false = true) (hl : v < S.length) : cnt st cs (S.set v false) u + (if (u : Int) ∈ rowOf st cs v then 1 else 0) = cnt st cs S u := by
  have hm := may_row hg.1.1 (show u < (n : Int).toNat by omega)
  have key := filter_drop (p := fun w : Int => S.getD w.toNat false && decide (0 ≤ w)) (p' := fun w : Int => (S.set v false).getD w.toNat false && decide (0 ≤ w)) (v := (v : Int)) (by simp [List.getD_eq_getElem?_getD, List.getElem?_set_self hl]) (fun w hw => by
    by_cases h0 : 0 ≤ w
    · simp only [h0, decide_true, Bool.and_true]
      simp only [List.getD_eq_getElem?_getD, List.getElem?_set_ne (show v ≠ w.toNat by omega)]
    · simp [h0]) (nodup_row hm.2.2.2.1)
  have e : ∀ T : List Bool, ((rowOf st cs u).filter (fun w : Int => T.getD w.toNat false && decide (0 ≤ w))).length = cnt st cs T u := fun T => by
    unfold cnt
    congr 1
    refine List.filter_congr fun w hw => ?_
    obtain ⟨i, hi, e⟩ := mem_getD.1 hw
    have := row_nonneg hm.2.2.2.1 hi
    rw [show decide (0 ≤ w) = true by simp; omega, Bool.and_true]
  rw [e, e] at key
  have h2 : ((v : Int) ∈ rowOf st cs u ∧ (S.getD ((v : Int)).toNat false && decide (0 ≤ (v : Int))) = true) ↔ (u : Int) ∈ rowOf st cs v := by
    rw [Int.toNat_natCast, hs]
    constructor
    · rintro ⟨h, _⟩; exact sym_row hg hu h
    · intro h; exact ⟨sym_row hg hv h, by simp⟩
  simp only [h2] at key
  exact key
theorem both {G C : Fr → Heap → Prop} {a1 a2 : Fr} {h1 h2 : Heap} (c1 : C a1 h1) (c2 : C a2 h2) (h : ∀ a h, C a h → G a h) : G a1 h1 ∧ G a2 h2 := ⟨h _ _ c1, h _ _ c2⟩
theorem pair3 {A1 B1 C1 A2 B2 C2 L1 L2 : Prop} (a1 : A1) (b1 : B1) (c1 : C1) (a2 : A2) (b2 : B2) (c2 : C2) (l : L1 ∧ L2) : (A1 ∧ B1 ∧ C1 ∧ L1) ∧ (A2 ∧ B2 ∧ C2 ∧ L2) := ⟨⟨a1, b1, c1, l.1⟩, ⟨a2, b2, c2, l.2⟩⟩
set_option maxHeartbeats 40000000 in
set_option maxRecDepth 100000 in
theorem peel_c (n : Nat) (hn : n ≤ 128) (st cs : List Int) (hb : st.length < 1000000000) (hb2 : cs.length < 1000000000) (hg : graphP n n st cs) : ACalls Try.prog 50 [pat n n st cs] [] fun v h => ∃ o7 o8, v = .tup [.osl o7 1 0 n n true, .osl o8 1 0 n n true] ∧ h[o7]? = some (.arr 1 (List.map intE (pst st cs n n).O) true) ∧ h[o8]? = some (.arr 1 (List.map intE (pst st cs n n).C) true) := by
  have hm : mayP n n st cs := hg.1.1
  refine (wp50 rfl rfl ?_)
  simp (maxSteps := 4000000) +contextual only [↓packA0, ↓packA1, ↓packA2, ↓reduceIte, packB0, packB1, packB2, packB3, packB4, pureOp, quietOp, loadOp, quietB, fr0, cellsK, Option.getD_some, Option.getD_none, implies_true, ite_true, ite_false, eq_self, ne_eq, reduceCtorEq, Nat.reduceLT, Nat.reduceLeDiff, Nat.reduceAdd, Nat.reduceMul, Nat.reduceBEq, Nat.reduceEqDiff, Int.reduceToNat, Int.reduceLT, Int.reduceLE, Nat.reduceSub, pl50, tfun_1, telem_1, tsize_3, tbytes_3, tagg_3, zcells_3, telem_3, tint_3, tnotIface_3, tsize_23, tbytes_23, tagg_23, zcells_23, telem_23, tnotIface_23, tsize_29, tbytes_29, tagg_29, zcells_29, telem_29, tnotIface_29, tsize_45, tbytes_45, tagg_45, zcells_45, telem_45, tnotIface_45, foff_45_0, foff_45_1, foff_45_2, foff_45_3, fplaces_45, tfun_135, telem_135, ints]
  refine ⟨by omega, by omega, by omega, ?_⟩
  refine LoopK.intro (fun m a h => ∃ (k : Nat) (L : List Int) (cells : List (List AV)) (B : Nat → List Int), m = n - k ∧ k ≤ n ∧ L.length = n ∧ (∀ v : Nat, v < k → L.getD v default = (rowOf st cs v).length) ∧ BR k L B ∧ PS F3 n h cells B ∧ h[0]? = some (patO n n st cs) ∧ h[1]? = some (.arr 1 (List.map intE L) true) ∧ h[2]? = some (.arr 1 cells true) ∧
    a 1 = .op 0 4 0 0 ∧ a 4 = .osl 1 1 0 n n true ∧ a 5 = .osl 2 1 0 (n + 1) (n + 1) true ∧ a 23 = .int .i64 n ∧ a 24 = .int .i64 k) n ⟨0, List.replicate n 0, List.replicate (n + 1) [.nils], fun _ => [], ?_⟩ ?_
  · simp (maxSteps := 4000000) only [↓packA0, ↓packA1, ↓packA2, ↓reduceIte, packB0, packB1, packB2, packB3, packB4, pureOp, quietOp, loadOp, quietB, fr0, cellsK, Option.getD_some, Option.getD_none, implies_true, ite_true, ite_false, eq_self, ne_eq, reduceCtorEq, Nat.reduceLT, Nat.reduceLeDiff, Nat.reduceAdd, Nat.reduceMul, Nat.reduceBEq, Nat.reduceEqDiff, Int.reduceToNat, Int.reduceLT, Int.reduceLE, Nat.reduceSub, pl50, tfun_1, telem_1, tsize_3, tbytes_3, tagg_3, zcells_3, telem_3, tint_3, tnotIface_3, tsize_23, tbytes_23, tagg_23, zcells_23, telem_23, tnotIface_23, tsize_29, tbytes_29, tagg_29, zcells_29, telem_29, tnotIface_29, tsize_45, tbytes_45, tagg_45, zcells_45, telem_45, tnotIface_45, foff_45_0, foff_45_1, foff_45_2, foff_45_3, fplaces_45, tfun_135, telem_135, ints, patO, Int.natCast_zero]
    refine ⟨fun v hv => by omega, fun d => ⟨by simp, fun w => ⟨fun h => by simp at h, fun h => by omega⟩⟩, ⟨fun i hi => by simp [F3] at hi ⊢; omega, by simp, fun d hd => ⟨.nils, by rw [List.getElem?_replicate, if_pos (by omega)], .inl ⟨rfl, rfl⟩⟩, fun d d' x y i _ hx _ hi => ?_⟩⟩
    have hx2 := List.mem_of_getElem? hx
    rw [List.mem_replicate] at hx2
    have : x = .nils := by simpa using hx2.2
    rw [this] at hi
    cases hi
  rintro m a h ⟨k, L, cells, B, rfl, hk, hL, hdeg, hB, hP, g0, g1, g2, a1, a4, a5, a23, a24⟩
  have hlen1 : 2 < h.length := (List.getElem?_eq_some_iff.1 g2).1
  unfold patO ints at g0
  have q10 : ∀ t, (h ++ t)[0]? = h[0]? := fun t => List.getElem?_append_left (by omega)
  have q20 : ∀ t u, (h ++ t ++ u)[0]? = h[0]? := fun t u => by rw [List.append_assoc]; exact q10 _
  have q21 : ∀ t u, (h ++ t ++ u)[1]? = h[1]? := fun t u => by rw [List.append_assoc]; exact List.getElem?_append_left (by omega)
  have q22 : ∀ t u, (h ++ t ++ u)[2]? = h[2]? := fun t u => by rw [List.append_assoc]; exact List.getElem?_append_left (by omega)
  simp (maxSteps := 4000000) +contextual only [↓packA0, ↓packA1, ↓packA2, ↓reduceIte, packB0, packB1, packB2, packB3, packB4, pureOp, quietOp, loadOp, quietB, fr0, cellsK, Option.getD_some, Option.getD_none, implies_true, ite_true, ite_false, eq_self, ne_eq, reduceCtorEq, Nat.reduceLT, Nat.reduceLeDiff, Nat.reduceAdd, Nat.reduceMul, Nat.reduceBEq, Nat.reduceEqDiff, Int.reduceToNat, Int.reduceLT, Int.reduceLE, Nat.reduceSub, pl50, tfun_1, telem_1, tsize_3, tbytes_3, tagg_3, zcells_3, telem_3, tint_3, tnotIface_3, tsize_23, tbytes_23, tagg_23, zcells_23, telem_23, tnotIface_23, tsize_29, tbytes_29, tagg_29, zcells_29, telem_29, tnotIface_29, tsize_45, tbytes_45, tagg_45, zcells_45, telem_45, tnotIface_45, foff_45_0, foff_45_1, foff_45_2, foff_45_3, fplaces_45, tfun_135, telem_135, a1, a4, a5, a23, a24, g0, g1, g2, q10, q20]
  refine ⟨fun h2 => ?_, fun h2 => ?_⟩
  · have hdl : (rowOf st cs k).length ≤ n := row_len hm (by omega)
    obtain ⟨x, hx, hbx⟩ := hP.bc (rowOf st cs k).length hdl
    have s11 : ∀ o, (h.set 1 o)[1]? = some o := fun o => List.getElem?_set_self (by omega)
    have s12 : ∀ o, (h.set 1 o)[2]? = some (.arr 1 cells true) := fun o => by rw [List.getElem?_set_ne (by omega)]; exact g2
    have gsk : ∀ y, (L.set k y).getD k default = y := fun y => by simp [List.getD_eq_getElem?_getD, List.getElem?_set_self (show k < L.length by omega)]
    refine acalls_pure (degree_c n n st cs hb hb2 hm k (by omega) (by omega)) rfl ?_
    have s21 : ∀ o t, (h.set 1 o ++ t)[1]? = some o := fun o t => by rw [List.getElem?_append_left (by simp; omega)]; exact s11 o
    have s22 : ∀ o t, (h.set 1 o ++ t)[2]? = some (.arr 1 cells true) := fun o t => by rw [List.getElem?_append_left (by simp; omega)]; exact s12 o
    have s2l : ∀ o t, (h.set 1 o ++ [t])[h.length]? = some t := fun o t => by rw [List.getElem?_append_right (by simp)]; simp
    simp (maxSteps := 4000000) +contextual only [↓packA0, ↓packA1, ↓packA2, ↓reduceIte, packB0, packB1, packB2, packB3, packB4, pureOp, quietOp, loadOp, quietB, fr0, cellsK, Option.getD_some, Option.getD_none, implies_true, ite_true, ite_false, eq_self, ne_eq, reduceCtorEq, Nat.reduceLT, Nat.reduceLeDiff, Nat.reduceAdd, Nat.reduceMul, Nat.reduceBEq, Nat.reduceEqDiff, Int.reduceToNat, Int.reduceLT, Int.reduceLE, Nat.reduceSub, pl50, tfun_1, telem_1, tsize_3, tbytes_3, tagg_3, zcells_3, telem_3, tint_3, tnotIface_3, tsize_23, tbytes_23, tagg_23, zcells_23, telem_23, tnotIface_23, tsize_29, tbytes_29, tagg_29, zcells_29, telem_29, tnotIface_29, tsize_45, tbytes_45, tagg_45, zcells_45, telem_45, tnotIface_45, foff_45_0, foff_45_1, foff_45_2, foff_45_3, fplaces_45, tfun_135, telem_135, a1, a4, a5, a23, a24, g0, g1, g2, s11, s12, s21, s22, s2l, gsk, hx]
    refine ⟨by omega, by omega, by omega, by omega, by omega, by omega, by omega, by omega, ?_⟩
    have hBl := hB.len (rowOf st cs k).length
    refine push_ps ((hP.set (show F3 1 by simp [F3]) _).app _) hdl hx (by omega) fun x' h' hcx hl' hf' hP' => ?_
    obtain ⟨xi, xl, xc, xe, rfl⟩ := hcx
    have f1 := (hf' 1 (by simp [F3])).trans (s21 _ _)
    have f2 := (hf' 2 (by simp [F3])).trans (s22 _ _)
    have f0 := hf' 0 (by simp [F3])
    simp only [List.length_append, List.length_set, List.length_singleton] at hl'
    rw [List.getElem?_append_left (by simp; omega), List.getElem?_set_ne (by omega), g0] at f0
    simp (maxSteps := 4000000) +contextual only [↓packA0, ↓packA1, ↓packA2, ↓reduceIte, packB0, packB1, packB2, packB3, packB4, pureOp, quietOp, loadOp, quietB, fr0, cellsK, Option.getD_some, Option.getD_none, implies_true, ite_true, ite_false, eq_self, ne_eq, reduceCtorEq, Nat.reduceLT, Nat.reduceLeDiff, Nat.reduceAdd, Nat.reduceMul, Nat.reduceBEq, Nat.reduceEqDiff, Int.reduceToNat, Int.reduceLT, Int.reduceLE, Nat.reduceSub, pl50, tfun_1, telem_1, tsize_3, tbytes_3, tagg_3, zcells_3, telem_3, tint_3, tnotIface_3, tsize_23, tbytes_23, tagg_23, zcells_23, telem_23, tnotIface_23, tsize_29, tbytes_29, tagg_29, zcells_29, telem_29, tnotIface_29, tsize_45, tbytes_45, tagg_45, zcells_45, telem_45, tnotIface_45, foff_45_0, foff_45_1, foff_45_2, foff_45_3, fplaces_45, tfun_135, telem_135, a1, a4, a5, a23, a24, f0, f1, f2, gsk, hx]
    refine ⟨by omega, by omega, by omega, .inl ⟨n - (k + 1), by omega, k + 1, L.set k (rowOf st cs k).length, _, _, rfl, by omega, by simp [hL], fun v hv => ?_, hB.push (by omega) _, hP'.set (by simp [F3]) _, ?_, ?_, ?_, by omega⟩⟩
    · rcases Nat.lt_or_ge v k with h3 | h3
      · rw [getD_set_ne (by omega)]; exact hdeg v h3
      · rw [show v = k by omega]; exact gsk _
    · rw [List.getElem?_set_ne (by omega)]; exact f0
    · rw [List.getElem?_set_ne (by omega)]; exact f1
    · exact List.getElem?_set_self (by omega)
  · have hkn : n = k := by omega
    subst hkn
    refine pair3 (by omega) (by omega) (by omega) (by omega) (by omega) (by omega) ?_
    refine both (G := fun a h => LoopK _ _ a h) (C := PJ st cs n n) ?_ ?_ fun a h hj => LoopK.intro (PJ st cs n) n hj ?_
    · refine ⟨0, h.length, h.length + 1, 0, L, cells, B, by omega, by omega, hL, lr_start hm hdeg, hB, hP.more (fun i hi => by rw [List.append_assoc]; exact List.getElem?_append_left hi) (by simp) (fun i hi => ?_), (q20 _ _).trans g0, (q21 _ _).trans g1, (q22 _ _).trans g2, ?_, ?_, by omega, by omega, by omega, by omega, fun d hd => by omega, ?_⟩
      · rcases hi with h3 | h3 | h3
        · exact .inl h3
        · right; simp; omega
        · right; simp; omega
      · rw [List.append_assoc, List.getElem?_append_right (Nat.le_refl _)]; simp [pst]
      · rw [List.append_assoc, List.getElem?_append_right (by omega)]; simp [pst]
      · simp (maxSteps := 4000000) only [↓packA0, ↓packA1, ↓packA2, ↓reduceIte, packB0, packB1, packB2, packB3, packB4, pureOp, quietOp, loadOp, quietB, fr0, cellsK, Option.getD_some, Option.getD_none, implies_true, ite_true, ite_false, eq_self, ne_eq, reduceCtorEq, Nat.reduceLT, Nat.reduceLeDiff, Nat.reduceAdd, Nat.reduceMul, Nat.reduceBEq, Nat.reduceEqDiff, Int.reduceToNat, Int.reduceLT, Int.reduceLE, Nat.reduceSub, pl50, tfun_1, telem_1, tsize_3, tbytes_3, tagg_3, zcells_3, telem_3, tint_3, tnotIface_3, tsize_23, tbytes_23, tagg_23, zcells_23, telem_23, tnotIface_23, tsize_29, tbytes_29, tagg_29, zcells_29, telem_29, tnotIface_29, tsize_45, tbytes_45, tagg_45, zcells_45, telem_45, tnotIface_45, foff_45_0, foff_45_1, foff_45_2, foff_45_3, fplaces_45, tfun_135, telem_135, a1, a4, a5, pst, Int.natCast_zero, Int.sub_zero]
    · refine ⟨0, h.length + 1, h.length, 0, L, cells, B, by omega, by omega, hL, lr_start hm hdeg, hB, hP.more (fun i hi => by rw [List.append_assoc]; exact List.getElem?_append_left hi) (by simp) (fun i hi => ?_), (q20 _ _).trans g0, (q21 _ _).trans g1, (q22 _ _).trans g2, ?_, ?_, by omega, by omega, by omega, by omega, fun d hd => by omega, ?_⟩
      · rcases hi with h3 | h3 | h3
        · exact .inl h3
        · right; simp; omega
        · right; simp; omega
      · rw [List.append_assoc, List.getElem?_append_right (by omega)]; simp [pst]
      · rw [List.append_assoc, List.getElem?_append_right (Nat.le_refl _)]; simp [pst]
      · simp (maxSteps := 4000000) only [↓packA0, ↓packA1, ↓packA2, ↓reduceIte, packB0, packB1, packB2, packB3, packB4, pureOp, quietOp, loadOp, quietB, fr0, cellsK, Option.getD_some, Option.getD_none, implies_true, ite_true, ite_false, eq_self, ne_eq, reduceCtorEq, Nat.reduceLT, Nat.reduceLeDiff, Nat.reduceAdd, Nat.reduceMul, Nat.reduceBEq, Nat.reduceEqDiff, Int.reduceToNat, Int.reduceLT, Int.reduceLE, Nat.reduceSub, pl50, tfun_1, telem_1, tsize_3, tbytes_3, tagg_3, zcells_3, telem_3, tint_3, tnotIface_3, tsize_23, tbytes_23, tagg_23, zcells_23, telem_23, tnotIface_23, tsize_29, tbytes_29, tagg_29, zcells_29, telem_29, tnotIface_29, tsize_45, tbytes_45, tagg_45, zcells_45, telem_45, tnotIface_45, foff_45_0, foff_45_1, foff_45_2, foff_45_3, fplaces_45, tfun_135, telem_135, a1, a4, a5, pst, Int.natCast_zero, Int.sub_zero]
    · clear hP hB hdeg g0 g1 g2 q10 q20 q21 q22 a1 a4 a5 a23 a24 hlen1
      clear hj hL h2
      rintro m a h ⟨k, o7, o8, at', L, cells, B, rfl, hk, hL, hLR, hB, hP, g0, g1, g2, g7, g8, ho7, ho8, ho, hat, hlow, a1, a4, a5, a7, a8, a9, a10, a11⟩
      simp (maxSteps := 4000000) +contextual only [↓packA0, ↓packA1, ↓packA2, ↓reduceIte, packB0, packB1, packB2, packB3, packB4, pureOp, quietOp, loadOp, quietB, fr0, cellsK, Option.getD_some, Option.getD_none, implies_true, ite_true, ite_false, eq_self, ne_eq, reduceCtorEq, Nat.reduceLT, Nat.reduceLeDiff, Nat.reduceAdd, Nat.reduceMul, Nat.reduceBEq, Nat.reduceEqDiff, Int.reduceToNat, Int.reduceLT, Int.reduceLE, Nat.reduceSub, pl50, tfun_1, telem_1, tsize_3, tbytes_3, tagg_3, zcells_3, telem_3, tint_3, tnotIface_3, tsize_23, tbytes_23, tagg_23, zcells_23, telem_23, tnotIface_23, tsize_29, tbytes_29, tagg_29, zcells_29, telem_29, tnotIface_29, tsize_45, tbytes_45, tagg_45, zcells_45, telem_45, tnotIface_45, foff_45_0, foff_45_1, foff_45_2, foff_45_3, fplaces_45, tfun_135, telem_135, a1, a4, a5, a7, a8, a9, a10, a11]
      refine ⟨fun h2 => ?_, fun h2 => ?_⟩
      · have hkn : k < n := by omega
        obtain ⟨d0, hd0, hd1⟩ := bucket_some hm hkn hLR hB
        refine LoopK.intro (fun m a h1 => ∃ q : Nat, m = n + 1 - q ∧ q ≤ n ∧ (∀ d, d < q → B d = []) ∧ a 1 = .op 0 4 0 0 ∧ a 4 = .osl 1 1 0 n n true ∧ a 5 = .osl 2 1 0 (n + 1) (n + 1) true ∧ a 7 = .osl o7 1 0 n n true ∧ a 8 = .osl o8 1 0 n n true ∧ a 9 = .int .i64 q ∧ a 10 = .int .i64 (pst st cs n k).c ∧ a 11 = .int .i64 ((n : Int) - 1 - k) ∧ h1 = h) (n + 1 - at') ⟨at', rfl, hat, hlow, ?_⟩ ?_
        · simp (maxSteps := 4000000) only [↓packA0, ↓packA1, ↓packA2, ↓reduceIte, packB0, packB1, packB2, packB3, packB4, pureOp, quietOp, loadOp, quietB, fr0, cellsK, Option.getD_some, Option.getD_none, implies_true, ite_true, ite_false, eq_self, ne_eq, reduceCtorEq, Nat.reduceLT, Nat.reduceLeDiff, Nat.reduceAdd, Nat.reduceMul, Nat.reduceBEq, Nat.reduceEqDiff, Int.reduceToNat, Int.reduceLT, Int.reduceLE, Nat.reduceSub, pl50, tfun_1, telem_1, tsize_3, tbytes_3, tagg_3, zcells_3, telem_3, tint_3, tnotIface_3, tsize_23, tbytes_23, tagg_23, zcells_23, telem_23, tnotIface_23, tsize_29, tbytes_29, tagg_29, zcells_29, telem_29, tnotIface_29, tsize_45, tbytes_45, tagg_45, zcells_45, telem_45, tnotIface_45, foff_45_0, foff_45_1, foff_45_2, foff_45_3, fplaces_45, tfun_135, telem_135, a1, a4, a5, a7, a8, a9, a10, a11]
        clear a1 a4 a5 a7 a8 a9 a10 a11
        rintro m a h1 ⟨q, rfl, hq, hlow, a1, a4, a5, a7, a8, a9, a10, a11, rfl⟩
        obtain ⟨x, hx, hbx⟩ := hP.bc q hq
        unfold patO ints at g0
        simp (maxSteps := 4000000) +contextual only [↓packA0, ↓packA1, ↓packA2, ↓reduceIte, packB0, packB1, packB2, packB3, packB4, pureOp, quietOp, loadOp, quietB, fr0, cellsK, Option.getD_some, Option.getD_none, implies_true, ite_true, ite_false, eq_self, ne_eq, reduceCtorEq, Nat.reduceLT, Nat.reduceLeDiff, Nat.reduceAdd, Nat.reduceMul, Nat.reduceBEq, Nat.reduceEqDiff, Int.reduceToNat, Int.reduceLT, Int.reduceLE, Nat.reduceSub, pl50, tfun_1, telem_1, tsize_3, tbytes_3, tagg_3, zcells_3, telem_3, tint_3, tnotIface_3, tsize_23, tbytes_23, tagg_23, zcells_23, telem_23, tnotIface_23, tsize_29, tbytes_29, tagg_29, zcells_29, telem_29, tnotIface_29, tsize_45, tbytes_45, tagg_45, zcells_45, telem_45, tnotIface_45, foff_45_0, foff_45_1, foff_45_2, foff_45_3, fplaces_45, tfun_135, telem_135, a1, a4, a5, a7, a8, a9, a10, a11, g0, g1, g2, g7, g8, hx, lenK_bc hbx]
        refine ⟨by omega, fun h3 => ?_, fun h3 => ⟨by omega, max_bc hbx (by omega) ?_⟩⟩
        · have : q < d0 := by
            rcases Nat.lt_or_ge q d0 with h4 | h4
            · exact h4
            · exfalso
              rcases Nat.lt_or_ge d0 q with h5 | h5
              · exact hd1 (hlow d0 h5)
              · rw [show d0 = q by omega] at hd1
                exact hd1 (List.eq_nil_of_length_eq_zero (by omega))
          refine ⟨by omega, .inl ⟨n + 1 - (q + 1), by omega, q + 1, rfl, by omega, fun d hd => ?_, by omega⟩⟩
          rcases Nat.lt_or_ge d q with h4 | h4
          · exact hlow d h4
          · rw [show d = q by omega]; exact List.eq_nil_of_length_eq_zero (by omega)
        obtain ⟨v, hV, hvn, hLv, hcv, hbest⟩ := best_of hL hLR hB hlow (show 0 < (B q).length by omega)
        rw [hV]
        obtain ⟨N, hN⟩ : ∃ N, h1.length = N := ⟨_, rfl⟩
        have l7 : o7 < N := by rw [← hN]; exact (List.getElem?_eq_some_iff.1 g7).1
        have l8 : o8 < N := by rw [← hN]; exact (List.getElem?_eq_some_iff.1 g8).1
        have ra : ∀ t i, i < N → (h1 ++ t)[i]? = h1[i]? := fun t i hi => List.getElem?_append_left (by omega)
        have ra0 : ∀ t, (h1 ++ t)[0]? = h1[0]? := fun t => ra t 0 (by omega)
        have ra1 : ∀ t, (h1 ++ t)[1]? = h1[1]? := fun t => ra t 1 (by omega)
        have ra2 : ∀ t, (h1 ++ t)[2]? = h1[2]? := fun t => ra t 2 (by omega)
        have rN : ∀ o, (h1 ++ [o])[N]? = some o := fun o => by rw [List.getElem?_append_right (by omega)]; simp [hN]
        have sN : ∀ o o', (h1 ++ [o]).set N o' = h1 ++ [o'] := fun o o' => by rw [List.set_append_right _ _ (by omega)]; simp [hN]
        simp (maxSteps := 4000000) +contextual only [↓packA0, ↓packA1, ↓packA2, ↓reduceIte, packB0, packB1, packB2, packB3, packB4, pureOp, quietOp, loadOp, quietB, fr0, cellsK, Option.getD_some, Option.getD_none, implies_true, ite_true, ite_false, eq_self, ne_eq, reduceCtorEq, Nat.reduceLT, Nat.reduceLeDiff, Nat.reduceAdd, Nat.reduceMul, Nat.reduceBEq, Nat.reduceEqDiff, Int.reduceToNat, Int.reduceLT, Int.reduceLE, Nat.reduceSub, pl50, tfun_1, telem_1, tsize_3, tbytes_3, tagg_3, zcells_3, telem_3, tint_3, tnotIface_3, tsize_23, tbytes_23, tagg_23, zcells_23, telem_23, tnotIface_23, tsize_29, tbytes_29, tagg_29, zcells_29, telem_29, tnotIface_29, tsize_45, tbytes_45, tagg_45, zcells_45, telem_45, tnotIface_45, foff_45_0, foff_45_1, foff_45_2, foff_45_3, fplaces_45, tfun_135, telem_135, a1, a4, a5, a7, a8, a9, a10, a11, g0, g1, g2, g7, g8, hx, hN, ra0, ra1, ra2, rN, sN]
        have hP1 : PS (fun i => Fx o7 o8 i ∨ i = N) n (h1 ++ [Ob.arr 1 [[AV.int .i64 (v : Int)]] true]) cells B := hP.more (fun i hi => List.getElem?_append_left hi) (by simp) (fun i hi => hi.imp_right fun e => by subst e; simp; omega)
        refine ⟨by omega, del_ps clo79 hP1 hq hx (by omega) (.inr rfl) (rN _) fun x' h' hcx hl' hf' hP' => ?_⟩
        obtain ⟨xi, xl, xc, xe, rfl⟩ := hcx
        have f0 := ((hf' 0 (.inl (.inl (by omega)))).trans (ra0 _)).trans g0
        have f1 := ((hf' 1 (.inl (.inl (by omega)))).trans (ra1 _)).trans g1
        have f2 := ((hf' 2 (.inl (.inl (by omega)))).trans (ra2 _)).trans g2
        have f7 := ((hf' o7 (.inl (.inr (.inl rfl)))).trans (ra _ _ l7)).trans g7
        have f8 := ((hf' o8 (.inl (.inr (.inr rfl)))).trans (ra _ _ l8)).trans g8
        have fN := (hf' N (.inr rfl)).trans (rN _)
        have hlN : h'.length = N + 1 := by rw [hl']; simp [hN]
        clear hl' hf' g0 g1 g2 g7 g8 ra0 ra1 ra2 ra rN sN hN hP1 hP hbx
        have n7 : 2 ≠ o7 := by omega
        have n8 : 2 ≠ o8 := by omega
        have nN : 2 ≠ N := by omega
        have n7N : o7 ≠ N := by omega
        have n8N : o8 ≠ N := by omega
        have n1N : 1 ≠ N := by omega
        have n71 : o7 ≠ 1 := by omega
        have n81 : o8 ≠ 1 := by omega
        have n70 : o7 ≠ 0 := by omega
        have n80 : o8 ≠ 0 := by omega
        simp (maxSteps := 4000000) +contextual only [↓packA0, ↓packA1, ↓packA2, ↓reduceIte, packB0, packB1, packB2, packB3, packB4, pureOp, quietOp, loadOp, quietB, fr0, cellsK, Option.getD_some, Option.getD_none, implies_true, ite_true, ite_false, eq_self, ne_eq, reduceCtorEq, Nat.reduceLT, Nat.reduceLeDiff, Nat.reduceAdd, Nat.reduceMul, Nat.reduceBEq, Nat.reduceEqDiff, Int.reduceToNat, Int.reduceLT, Int.reduceLE, Nat.reduceSub, pl50, tfun_1, telem_1, tsize_3, tbytes_3, tagg_3, zcells_3, telem_3, tint_3, tnotIface_3, tsize_23, tbytes_23, tagg_23, zcells_23, telem_23, tnotIface_23, tsize_29, tbytes_29, tagg_29, zcells_29, telem_29, tnotIface_29, tsize_45, tbytes_45, tagg_45, zcells_45, telem_45, tnotIface_45, foff_45_0, foff_45_1, foff_45_2, foff_45_3, fplaces_45, tfun_135, telem_135, a1, a4, a5, a7, a8, a9, a10, a11, hx, f0, f1, f2, f7, f8, fN, minK_2, imax_eq, List.getElem?_set_ne, n7, n8, nN, n7N, n8N, n1N, n71, n81, n70, n80, ho]
        have hps := pst_step hbest
        obtain ⟨H, hH⟩ : ∃ H, H = (((h'.set 2 (Ob.arr 1 (cells.set q [AV.osl xi 1 0 xl xc xe]) true)).set o7 (Ob.arr 1 (List.map intE ((pst st cs n k).O.set ((n : Int) - 1 - k).toNat v)) true)).set o8 (Ob.arr 1 (List.map intE ((pst st cs n k).C.set v (max ((pst st cs n k).c : Int) q))) true)).set 1 (Ob.arr 1 (List.map intE (L.set v (-1))) true) := ⟨_, rfl⟩
        rw [← hH]
        have hPH : PS (fun i => Fx o7 o8 i ∨ i = N) n H (cells.set q [AV.osl xi 1 0 xl xc xe]) (updB B q (rid v (B q))) := by
          rw [hH]
          exact (((hP'.set (.inl (.inl (by omega))) _).set (.inl (.inr (.inl rfl))) _).set (.inl (.inr (.inr rfl))) _).set (.inl (.inl (by omega))) _
        have e0 : H[0]? = some (patO n n st cs) := by
          rw [hH, List.getElem?_set_ne (by omega), List.getElem?_set_ne (by omega), List.getElem?_set_ne (by omega), List.getElem?_set_ne (by omega)]
          exact f0
        have e1 : H[1]? = some (.arr 1 (List.map intE (L.set v (-1))) true) := by
          rw [hH]; exact List.getElem?_set_self (by simp; omega)
        have e2 : H[2]? = some (.arr 1 (cells.set q [AV.osl xi 1 0 xl xc xe]) true) := by
          rw [hH, List.getElem?_set_ne (by omega), List.getElem?_set_ne (by omega), List.getElem?_set_ne (by omega)]
          exact List.getElem?_set_self (by omega)
        have e7 : H[o7]? = some (.arr 1 (List.map intE (pst st cs n (k + 1)).O) true) := by
          rw [hH, List.getElem?_set_ne (by omega), List.getElem?_set_ne (by omega), List.getElem?_set_self (by simp; omega), hps, show ((n : Int) - 1 - k).toNat = n - 1 - k by omega]
        have e8 : H[o8]? = some (.arr 1 (List.map intE (pst st cs n (k + 1)).C) true) := by
          rw [hH, List.getElem?_set_ne (by omega), List.getElem?_set_self (by simp; omega), hps, hcv]
          rw [show ((max (pst st cs n k).c q : Nat) : Int) = max ((pst st cs n k).c : Int) q by omega]
        have eN : H[N]? = some (.arr 1 [[.int .i64 (v : Int)]] true) := by
          rw [hH, List.getElem?_set_ne (by omega), List.getElem?_set_ne (by omega), List.getElem?_set_ne (by omega), List.getElem?_set_ne (by omega)]
          exact fN
        have hB1 : BR n (L.set v (-1)) (updB B q (rid v (B q))) := hB.drop (by omega) hLv
        have hL1 : ∀ u : Nat, u < n → (L.set v (-1)).getD u default = if (pst st cs n (k + 1)).S.getD u false = true then ((cnt st cs (pst st cs n k).S u : Nat) : Int) - (if (u : Int) ∈ (rowOf st cs v).take 0 then 1 else 0) else -1 := fun u hu => by
          rw [hps]
          by_cases e : u = v
          · subst e
            rw [if_neg (by simp [List.getD_eq_getElem?_getD, List.getElem?_set_self (show u < (pst st cs n k).S.length by rw [(pst_len st cs n k).1]; exact hu)])]
            simp [List.getD_eq_getElem?_getD, List.getElem?_set_self (show u < L.length by omega)]
          · rw [getD_set_ne (Ne.symm e), hLR u hu]
            have : ((pst st cs n k).S.set v false).getD u false = (pst st cs n k).S.getD u false := by simp only [List.getD_eq_getElem?_getD, List.getElem?_set_ne (Ne.symm e)]
            simp only [this]
            simp
        have hcx : ((max (pst st cs n k).c q : Nat) : Int) = (pst st cs n (k + 1)).c := by rw [hps, hcv]
        refine ⟨by omega, by omega, by rw [(pst_len st cs n k).2.1]; omega, by omega, by rw [(pst_len st cs n k).2.2]; omega, by omega, by omega, ?_⟩
        refine acalls_pure (neigh_c n n st cs hb hb2 hm v (by omega) (by omega)) rfl ?_
        have hLl : (L.set v (-1)).length = n := by simp [hL]
        clear f0 f1 f2 f7 f8 fN hP' hH hV
        generalize (L.set v (-1)) = L1 at *
        generalize (cells.set q [AV.osl xi 1 0 xl xc xe]) = cells1 at *
        generalize (updB B q (rid v (B q))) = B1 at *
        simp (maxSteps := 4000000) +contextual only [↓packA0, ↓packA1, ↓packA2, ↓reduceIte, packB0, packB1, packB2, packB3, packB4, pureOp, quietOp, loadOp, quietB, fr0, cellsK, Option.getD_some, Option.getD_none, implies_true, ite_true, ite_false, eq_self, ne_eq, reduceCtorEq, Nat.reduceLT, Nat.reduceLeDiff, Nat.reduceAdd, Nat.reduceMul, Nat.reduceBEq, Nat.reduceEqDiff, Int.reduceToNat, Int.reduceLT, Int.reduceLE, Nat.reduceSub, pl50, tfun_1, telem_1, tsize_3, tbytes_3, tagg_3, zcells_3, telem_3, tint_3, tnotIface_3, tsize_23, tbytes_23, tagg_23, zcells_23, telem_23, tnotIface_23, tsize_29, tbytes_29, tagg_29, zcells_29, telem_29, tnotIface_29, tsize_45, tbytes_45, tagg_45, zcells_45, telem_45, tnotIface_45, foff_45_0, foff_45_1, foff_45_2, foff_45_3, fplaces_45, tfun_135, telem_135, a1, a4, a5, a7, a8, a9, a10, a11, minK_2, imax_eq, ints]
        have q4 := (may_row hm (show v < (n : Int).toNat by omega)).2.2.2.1
        have hndr := nodup_row q4
        refine LoopK.intro (fun m a h2 => ∃ (j : Nat) (L2 : List Int) (cells2 : List (List AV)) (B2 : Nat → List Int), m = (rowOf st cs v).length - j ∧ j ≤ (rowOf st cs v).length ∧ L2.length = n ∧ (∀ u : Nat, u < n → L2.getD u default = if (pst st cs n (k + 1)).S.getD u false = true then ((cnt st cs (pst st cs n k).S u : Nat) : Int) - (if (u : Int) ∈ (rowOf st cs v).take j then 1 else 0) else -1) ∧ BR n L2 B2 ∧ PS (fun i => Fx o7 o8 i ∨ i = N) n h2 cells2 B2 ∧
          h2[0]? = some (patO n n st cs) ∧ h2[1]? = some (.arr 1 (List.map intE L2) true) ∧ h2[2]? = some (.arr 1 cells2 true) ∧ h2[o7]? = some (.arr 1 (List.map intE (pst st cs n (k + 1)).O) true) ∧ h2[o8]? = some (.arr 1 (List.map intE (pst st cs n (k + 1)).C) true) ∧ h2[N]? = some (.arr 1 [[.int .i64 (v : Int)]] true) ∧
          a 1 = .op 0 4 0 0 ∧ a 4 = .osl 1 1 0 n n true ∧ a 5 = .osl 2 1 0 (n + 1) (n + 1) true ∧ a 7 = .osl o7 1 0 n n true ∧ a 8 = .osl o8 1 0 n n true ∧ a 9 = .int .i64 q ∧ a 10 = .int .i64 (pst st cs n (k + 1)).c ∧ a 11 = .int .i64 ((n : Int) - 1 - k) ∧ a 12 = .op N 1 0 0 ∧ a 101 = ints (rowOf st cs v) ∧ a 102 = .int .i64 (rowOf st cs v).length ∧ a 103 = .int .i64 j)
          (rowOf st cs v).length ⟨0, L1, cells1, B1, ?_⟩ ?_
        · simp (maxSteps := 4000000) only [↓packA0, ↓packA1, ↓packA2, ↓reduceIte, packB0, packB1, packB2, packB3, packB4, pureOp, quietOp, loadOp, quietB, fr0, cellsK, Option.getD_some, Option.getD_none, implies_true, ite_true, ite_false, eq_self, ne_eq, reduceCtorEq, Nat.reduceLT, Nat.reduceLeDiff, Nat.reduceAdd, Nat.reduceMul, Nat.reduceBEq, Nat.reduceEqDiff, Int.reduceToNat, Int.reduceLT, Int.reduceLE, Nat.reduceSub, pl50, tfun_1, telem_1, tsize_3, tbytes_3, tagg_3, zcells_3, telem_3, tint_3, tnotIface_3, tsize_23, tbytes_23, tagg_23, zcells_23, telem_23, tnotIface_23, tsize_29, tbytes_29, tagg_29, zcells_29, telem_29, tnotIface_29, tsize_45, tbytes_45, tagg_45, zcells_45, telem_45, tnotIface_45, foff_45_0, foff_45_1, foff_45_2, foff_45_3, fplaces_45, tfun_135, telem_135, a1, a4, a5, a7, a8, a9, a10, a11, Int.natCast_zero, e0, e1, e2, e7, e8, eN, ints]
          exact ⟨hLl, hL1, hB1, hPH, by rw [← hcx]; omega⟩
        clear a1 a4 a5 a7 a8 a9 a10 a11 e0 e1 e2 e7 e8 eN hPH hB1 hL1 hLl
        rintro m a H ⟨j, L2, cells2, B2, rfl, hj, hLl, hLM, hB2, hPH, e0, e1, e2, e7, e8, eN, a1, a4, a5, a7, a8, a9, a10, a11, a12, a101, a102, a103⟩
        obtain ⟨M, hM⟩ : ∃ M, H.length = M := ⟨_, rfl⟩
        have lN : N < M := by rw [← hM]; exact (List.getElem?_eq_some_iff.1 eN).1
        have ra : ∀ t i, i < M → (H ++ t)[i]? = H[i]? := fun t i hi => List.getElem?_append_left (by omega)
        have ra0 : ∀ t, (H ++ t)[0]? = H[0]? := fun t => ra t 0 (by omega)
        have ra1 : ∀ t, (H ++ t)[1]? = H[1]? := fun t => ra t 1 (by omega)
        have ra2 : ∀ t, (H ++ t)[2]? = H[2]? := fun t => ra t 2 (by omega)
        have rM : ∀ o, (H ++ [o])[M]? = some o := fun o => by rw [List.getElem?_append_right (by omega)]; simp [hM]
        have sM : ∀ o o', (H ++ [o]).set M o' = H ++ [o'] := fun o o' => by rw [List.set_append_right _ _ (by omega)]; simp [hM]
        have aw : j < (rowOf st cs v).length → ∃ w : Nat, (rowOf st cs v).getD j default = w ∧ w < n := fun h3 => by
          have h4 := row_nonneg q4 h3
          have h5 := (q4 j h3).2
          exact ⟨((rowOf st cs v).getD j default).toNat, by omega, by omega⟩
        simp (maxSteps := 4000000) +contextual only [↓packA0, ↓packA1, ↓packA2, ↓reduceIte, packB0, packB1, packB2, packB3, packB4, pureOp, quietOp, loadOp, quietB, fr0, cellsK, Option.getD_some, Option.getD_none, implies_true, ite_true, ite_false, eq_self, ne_eq, reduceCtorEq, Nat.reduceLT, Nat.reduceLeDiff, Nat.reduceAdd, Nat.reduceMul, Nat.reduceBEq, Nat.reduceEqDiff, Int.reduceToNat, Int.reduceLT, Int.reduceLE, Nat.reduceSub, pl50, tfun_1, telem_1, tsize_3, tbytes_3, tagg_3, zcells_3, telem_3, tint_3, tnotIface_3, tsize_23, tbytes_23, tagg_23, zcells_23, telem_23, tnotIface_23, tsize_29, tbytes_29, tagg_29, zcells_29, telem_29, tnotIface_29, tsize_45, tbytes_45, tagg_45, zcells_45, telem_45, tnotIface_45, foff_45_0, foff_45_1, foff_45_2, foff_45_3, fplaces_45, tfun_135, telem_135, a1, a4, a5, a7, a8, a9, a10, a11, a12, a101, a102, a103, ints, e0, e1, e2, hM, ra0, ra1, ra2, rM, sM, minK_2, imax_eq]
        refine ⟨fun h3 => ?_, fun h3 => ?_⟩
        · obtain ⟨w, hw, hwn⟩ := aw (by omega)
          have hjl : j < (rowOf st cs v).length := by omega
          have htk : ∀ u : Nat, ((u : Int) ∈ (rowOf st cs v).take (j + 1) ↔ (u : Int) ∈ (rowOf st cs v).take j ∨ u = w) := fun u => by
            rw [List.take_add_one, List.getElem?_eq_getElem hjl, ← gd hjl, hw, List.mem_append]
            simp only [Option.toList, List.mem_singleton]
            constructor
            · rintro (h5 | h5)
              · exact .inl h5
              · exact .inr (by omega)
            · rintro (h5 | h5)
              · exact .inl h5
              · exact .inr (by omega)
          have hnt : ¬ ((w : Nat) : Int) ∈ (rowOf st cs v).take j := fun hc => by
            obtain ⟨i, hi, e⟩ := mem_getD.1 hc
            simp only [List.length_take] at hi
            rw [List.getD_eq_getElem?_getD, List.getElem?_take, if_pos (by omega), ← List.getD_eq_getElem?_getD] at e
            have := row_lt q4 (show i < j by omega) hjl
            omega
          have hLw := hLM w hwn
          rw [if_neg hnt] at hLw
          simp only [hw, Int.toNat_natCast, mk_eq]
          have hrl := row_len hm hvn
          have hPM : PS (fun i => Fx o7 o8 i ∨ i = N) n (H ++ [Ob.arr 1 [[AV.int .i64 (w : Int)]] true]) cells2 B2 := hPH.app _
          refine ⟨by omega, by omega, by omega, by omega, fun h4 => ⟨by omega, .inl ⟨(rowOf st cs v).length - (j + 1), by omega, j + 1, L2, cells2, B2, rfl, by omega, hLl, fun u hu => ?_, hB2, hPM, rfl, rfl, (ra _ _ (by omega)).trans e7, (ra _ _ (by omega)).trans e8, (ra _ _ lN).trans eN, by omega⟩⟩, fun h4 => ?_⟩
          · rw [hLM u hu]
            by_cases e : u = w
            · subst e
              cases hsu : (pst st cs n (k + 1)).S.getD u false with
              | true => rw [hsu, if_pos rfl] at hLw; omega
              | false => rfl
            · have : ((u : Int) ∈ (rowOf st cs v).take (j + 1) ↔ (u : Int) ∈ (rowOf st cs v).take j) := by rw [htk]; simp [e]
              simp only [this]
          obtain ⟨e, he, he1, hen, hsw⟩ : ∃ e : Nat, L2.getD w default = e ∧ 1 ≤ e ∧ e ≤ n ∧ (pst st cs n (k + 1)).S.getD w false = true := by
            cases hsw : (pst st cs n (k + 1)).S.getD w false with
            | false => rw [hsw, if_neg (by simp)] at hLw; omega
            | true =>
              rw [hsw, if_pos rfl] at hLw
              refine ⟨cnt st cs (pst st cs n k).S w, by omega, ?_, Nat.le_trans cnt_le (row_len hm hwn), rfl⟩
              refine List.length_pos_of_mem (a := (v : Int)) (List.mem_filter.2 ⟨?_, by rw [Int.toNat_natCast]; exact hbest.2.1⟩)
              have := hg.1.2.2 v (by omega) j hjl
              rw [hw, Int.toNat_natCast] at this
              exact this
          obtain ⟨x2, hx2, hbx2⟩ := hPM.bc e hen
          have hmem : (w : Int) ∈ B2 e := ((hB2 e).2 _).2 ⟨by omega, by omega, by rw [Int.toNat_natCast]; exact he⟩
          rw [he]
          simp (maxSteps := 4000000) +contextual only [↓packA0, ↓packA1, ↓packA2, ↓reduceIte, packB0, packB1, packB2, packB3, packB4, pureOp, quietOp, loadOp, quietB, fr0, cellsK, Option.getD_some, Option.getD_none, implies_true, ite_true, ite_false, eq_self, ne_eq, reduceCtorEq, Nat.reduceLT, Nat.reduceLeDiff, Nat.reduceAdd, Nat.reduceMul, Nat.reduceBEq, Nat.reduceEqDiff, Int.reduceToNat, Int.reduceLT, Int.reduceLE, Nat.reduceSub, pl50, tfun_1, telem_1, tsize_3, tbytes_3, tagg_3, zcells_3, telem_3, tint_3, tnotIface_3, tsize_23, tbytes_23, tagg_23, zcells_23, telem_23, tnotIface_23, tsize_29, tbytes_29, tagg_29, zcells_29, telem_29, tnotIface_29, tsize_45, tbytes_45, tagg_45, zcells_45, telem_45, tnotIface_45, foff_45_0, foff_45_1, foff_45_2, foff_45_3, fplaces_45, tfun_135, telem_135, a1, a4, a5, a7, a8, a9, a10, a11, a12, a101, a102, a103, ints, e0, e1, e2, hM, ra0, ra1, ra2, rM, sM, he, hx2, hw]
          have hPM2 : PS (fun i => (Fx o7 o8 i ∨ i = N) ∨ i = M) n (H ++ [Ob.arr 1 [[AV.int .i64 (w : Int)]] true]) cells2 B2 := hPH.more (fun i hi => List.getElem?_append_left hi) (by simp) (fun i hi => hi.imp_right fun e => by subst e; simp; omega)
          refine ⟨by omega, by omega, by omega, by omega, by omega, del_ps clo80 hPM2 hen hx2 (List.length_pos_of_mem hmem) (.inr rfl) (rM _) fun x' H' hcx2 hl' hf' hP' => ?_⟩
          obtain ⟨xi2, xl2, xc2, xe2, rfl⟩ := hcx2
          have f0 := ((hf' 0 (.inl (.inl (.inl (by omega))))).trans (ra0 _)).trans e0
          have f1 := ((hf' 1 (.inl (.inl (.inl (by omega))))).trans (ra1 _)).trans e1
          have f2 := ((hf' 2 (.inl (.inl (.inl (by omega))))).trans (ra2 _)).trans e2
          have f7 := ((hf' o7 (.inl (.inl (.inr (.inl rfl))))).trans (ra _ _ (by omega))).trans e7
          have f8 := ((hf' o8 (.inl (.inl (.inr (.inr rfl))))).trans (ra _ _ (by omega))).trans e8
          have fN := ((hf' N (.inl (.inr rfl))).trans (ra _ _ lN)).trans eN
          have fM := (hf' M (.inr rfl)).trans (rM _)
          have hlM : H'.length = M + 1 := by rw [hl']; simp [hM]
          clear hl' hf' e0 e1 e2 e7 e8 eN ra0 ra1 ra2 ra rM sM hM hPM2 hPM hPH
          have hk22 : ∀ o : Ob, (H'.set 2 o)[2]? = some o := fun o => List.getElem?_set_self (by omega)
          have hk21 : ∀ o : Ob, (H'.set 2 o)[1]? = H'[1]? := fun o => List.getElem?_set_ne (by omega)
          have hk2M : ∀ o : Ob, (H'.set 2 o)[M]? = H'[M]? := fun o => List.getElem?_set_ne (by omega)
          have hk11 : ∀ o p : Ob, ((H'.set 2 o).set 1 p)[1]? = some p := fun o p => List.getElem?_set_self (by simp; omega)
          have hk12 : ∀ o p : Ob, ((H'.set 2 o).set 1 p)[2]? = some o := fun o p => by rw [List.getElem?_set_ne (by omega)]; exact hk22 o
          have hk1M : ∀ o p : Ob, ((H'.set 2 o).set 1 p)[M]? = H'[M]? := fun o p => by rw [List.getElem?_set_ne (by omega)]; exact hk2M o
          have hka : ∀ (o p : Ob) t i, i < M + 1 → ((H'.set 2 o).set 1 p ++ t)[i]? = ((H'.set 2 o).set 1 p)[i]? := fun o p t i hi => List.getElem?_append_left (by simp; omega)
          have hk31 : ∀ (o p : Ob) t, ((H'.set 2 o).set 1 p ++ t)[1]? = some p := fun o p t => (hka o p t 1 (by omega)).trans (hk11 o p)
          have hk32 : ∀ (o p : Ob) t, ((H'.set 2 o).set 1 p ++ t)[2]? = some o := fun o p t => (hka o p t 2 (by omega)).trans (hk12 o p)
          have hk3M : ∀ (o p : Ob) t, ((H'.set 2 o).set 1 p ++ t)[M]? = H'[M]? := fun o p t => (hka o p t M (by omega)).trans (hk1M o p)
          have hk3l : ∀ o p t : Ob, ((H'.set 2 o).set 1 p ++ [t])[M + 1]? = some t := fun o p t => by rw [List.getElem?_append_right (by simp; omega)]; simp [hlM]
          have hle1 : ((e : Int) - 1).toNat = e - 1 := by omega
          obtain ⟨y, hy, hby⟩ := hP'.bc (e - 1) (by omega)
          have hgw : ∀ z, (L2.set w z).getD w default = z := fun z => by simp [List.getD_eq_getElem?_getD, List.getElem?_set_self (show w < L2.length by omega)]
          simp (maxSteps := 4000000) +contextual only [↓packA0, ↓packA1, ↓packA2, ↓reduceIte, packB0, packB1, packB2, packB3, packB4, pureOp, quietOp, loadOp, quietB, fr0, cellsK, Option.getD_some, Option.getD_none, implies_true, ite_true, ite_false, eq_self, ne_eq, reduceCtorEq, Nat.reduceLT, Nat.reduceLeDiff, Nat.reduceAdd, Nat.reduceMul, Nat.reduceBEq, Nat.reduceEqDiff, Int.reduceToNat, Int.reduceLT, Int.reduceLE, Nat.reduceSub, pl50, tfun_1, telem_1, tsize_3, tbytes_3, tagg_3, zcells_3, telem_3, tint_3, tnotIface_3, tsize_23, tbytes_23, tagg_23, zcells_23, telem_23, tnotIface_23, tsize_29, tbytes_29, tagg_29, zcells_29, telem_29, tnotIface_29, tsize_45, tbytes_45, tagg_45, zcells_45, telem_45, tnotIface_45, foff_45_0, foff_45_1, foff_45_2, foff_45_3, fplaces_45, tfun_135, telem_135, a1, a4, a5, a7, a8, a9, a10, a11, a12, a101, a102, a103, ints, f0, f1, f2, fM, hlM, he, hx2, hw, hk22, hk21, hk2M, hk11, hk12, hk1M, hk31, hk32, hk3M, hk3l, hle1, hy, hgw]
          have hb3 : (updB B2 e (rid w (B2 e)) (e - 1)).length < 900000 := by
            rw [updB_ne (by omega)]
            have := hB2.len (e - 1)
            omega
          refine ⟨by omega, by omega, by omega, by omega, by omega, by omega, by omega, by omega, by omega, by omega, by omega, by omega, by omega, push_ps (((hP'.set (.inl (.inl (.inl (by omega)))) _).set (.inl (.inl (.inl (by omega)))) _).app _) (by omega) hy hb3 fun x' G hcx3 hl' hf' hP3 => ?_⟩
          obtain ⟨xi3, xl3, xc3, xe3, rfl⟩ := hcx3
          have d1 := (hf' 1 (.inl (.inl (.inl (by omega))))).trans (hk31 _ _ _)
          have d2 := (hf' 2 (.inl (.inl (.inl (by omega))))).trans (hk32 _ _ _)
          have dM := ((hf' M (.inr rfl)).trans (hk3M _ _ _)).trans fM
          have d0 := ((hf' 0 (.inl (.inl (.inl (by omega))))).trans ((hka _ _ _ 0 (by omega)).trans (by rw [List.getElem?_set_ne (by omega), List.getElem?_set_ne (by omega)]))).trans f0
          have d7 := ((hf' o7 (.inl (.inl (.inr (.inl rfl))))).trans ((hka _ _ _ o7 (by omega)).trans (by rw [List.getElem?_set_ne (by omega), List.getElem?_set_ne (by omega)]))).trans f7
          have d8 := ((hf' o8 (.inl (.inl (.inr (.inr rfl))))).trans ((hka _ _ _ o8 (by omega)).trans (by rw [List.getElem?_set_ne (by omega), List.getElem?_set_ne (by omega)]))).trans f8
          have dN := ((hf' N (.inl (.inr rfl))).trans ((hka _ _ _ N (by omega)).trans (by rw [List.getElem?_set_ne (by omega), List.getElem?_set_ne (by omega)]))).trans fN
          have hlG : M + 1 < G.length := by
            simp only [List.length_append, List.length_set, List.length_singleton] at hl'
            omega
          clear hl' hf' hk22 hk21 hk2M hk11 hk12 hk1M hka hk31 hk32 hk3M hk3l f0 f1 f2 f7 f8 fN fM hlM hP'
          have d22 : ∀ o : Ob, (G.set 2 o)[2]? = some o := fun o => List.getElem?_set_self (by omega)
          have d2o : ∀ (o : Ob) i, i ≠ 2 → (G.set 2 o)[i]? = G[i]? := fun o i hi => List.getElem?_set_ne (fun e => hi e.symm)
          have d21 : ∀ o : Ob, (G.set 2 o)[1]? = G[1]? := fun o => d2o o 1 (by omega)
          have d2M : ∀ o : Ob, (G.set 2 o)[M]? = G[M]? := fun o => d2o o M (by omega)
          simp (maxSteps := 4000000) +contextual only [↓packA0, ↓packA1, ↓packA2, ↓reduceIte, packB0, packB1, packB2, packB3, packB4, pureOp, quietOp, loadOp, quietB, fr0, cellsK, Option.getD_some, Option.getD_none, implies_true, ite_true, ite_false, eq_self, ne_eq, reduceCtorEq, Nat.reduceLT, Nat.reduceLeDiff, Nat.reduceAdd, Nat.reduceMul, Nat.reduceBEq, Nat.reduceEqDiff, Int.reduceToNat, Int.reduceLT, Int.reduceLE, Nat.reduceSub, pl50, tfun_1, telem_1, tsize_3, tbytes_3, tagg_3, zcells_3, telem_3, tint_3, tnotIface_3, tsize_23, tbytes_23, tagg_23, zcells_23, telem_23, tnotIface_23, tsize_29, tbytes_29, tagg_29, zcells_29, telem_29, tnotIface_29, tsize_45, tbytes_45, tagg_45, zcells_45, telem_45, tnotIface_45, foff_45_0, foff_45_1, foff_45_2, foff_45_3, fplaces_45, tfun_135, telem_135, a1, a4, a5, a7, a8, a9, a10, a11, a12, a101, a102, a103, ints, d1, d2, dM, he, hx2, hw, hle1, hy, hgw, d22, d21, d2M]
          refine ⟨by omega, by omega, by omega, .inl ⟨(rowOf st cs v).length - (j + 1), by omega, j + 1, L2.set w ((e : Int) - 1), _, _, rfl, by omega, by simp [hLl], fun u hu => ?_, hB2.move (by omega) hwn he he1, (hP3.mono (fun i hi => .inl hi)).set (.inl (.inl (by omega))) _, (d2o _ 0 (by omega)).trans d0, rfl, rfl, (d2o _ o7 (by omega)).trans d7, (d2o _ o8 (by omega)).trans d8, (d2o _ N (by omega)).trans dN, by omega⟩⟩
          by_cases c : u = w
          · subst c
            rw [hgw, hsw, if_pos rfl, if_pos ((htk u).2 (.inr rfl))]
            rw [hsw, if_pos rfl] at hLw
            omega
          · have : ((u : Int) ∈ (rowOf st cs v).take (j + 1) ↔ (u : Int) ∈ (rowOf st cs v).take j) := by rw [htk]; simp [c]
            rw [getD_set_ne (Ne.symm c), hLM u hu]
            simp only [this]
        · have hjl : j = (rowOf st cs v).length := by omega
          subst hjl
          rw [List.take_length] at hLM
          have hS1 : ∀ u : Nat, (pst st cs n (k + 1)).S.getD u false = true → (pst st cs n k).S.getD u false = true ∧ u ≠ v := fun u hu => by
            rw [hps] at hu
            by_cases c : u = v
            · subst c
              simp [List.getD_eq_getElem?_getD, List.getElem?_set_self (show u < (pst st cs n k).S.length by rw [(pst_len st cs n k).1]; exact hvn)] at hu
            · simp only [List.getD_eq_getElem?_getD, List.getElem?_set_ne (Ne.symm c)] at hu ⊢
              exact ⟨hu, c⟩
          have hLR1 : LR st cs n (pst st cs n (k + 1)).S L2 := fun u hu => by
            rw [hLM u hu]
            cases hsu : (pst st cs n (k + 1)).S.getD u false with
            | false => rw [if_neg (by simp), if_neg (by simp)]
            | true =>
              rw [if_pos rfl, if_pos rfl]
              have h5 := cnt_drop hg hvn hu hbest.2.1 (by rw [(pst_len st cs n k).1]; exact hvn)
              have hps2 : (pst st cs n (k + 1)).S = (pst st cs n k).S.set v false := by rw [hps]
              rw [hps2]
              by_cases c : (u : Int) ∈ rowOf st cs v
              · rw [if_pos c] at h5 ⊢; omega
              · rw [if_neg c] at h5 ⊢; omega
          refine ⟨by omega, by omega, .inl ⟨n - (k + 1), by omega, k + 1, o7, o8, q - 1, L2, cells2, B2, rfl, by omega, hLl, hLR1, hB2, hPH.mono (fun i hi => .inl hi), e0, e1, e2, e7, e8, ho7, ho8, ho, by omega, fun d hd => ?_, ?_⟩⟩
          · refine List.eq_nil_iff_forall_not_mem.2 fun u hu => ?_
            obtain ⟨h5, h6, h7⟩ := ((hB2 d).2 u).1 hu
            have h8 := hLM u.toNat (by omega)
            cases hsu : (pst st cs n (k + 1)).S.getD u.toNat false with
            | false => rw [hsu, if_neg (by simp)] at h8; omega
            | true =>
              rw [hsu, if_pos rfl] at h8
              have h9 := (hbest.2.2 u.toNat (by omega) (hS1 _ hsu).1).1
              split at h8 <;> omega
          · have hmx : max 0 ((q : Int) - 1) = ((q - 1 : Nat) : Int) := by omega
            have hix : (n : Int) - 1 - k - 1 = (n : Int) - 1 - (k + 1 : Nat) := by omega
            simp (maxSteps := 4000000) only [↓packA0, ↓packA1, ↓packA2, ↓reduceIte, packB0, packB1, packB2, packB3, packB4, pureOp, quietOp, loadOp, quietB, fr0, cellsK, Option.getD_some, Option.getD_none, implies_true, ite_true, ite_false, eq_self, ne_eq, reduceCtorEq, Nat.reduceLT, Nat.reduceLeDiff, Nat.reduceAdd, Nat.reduceMul, Nat.reduceBEq, Nat.reduceEqDiff, Int.reduceToNat, Int.reduceLT, Int.reduceLE, Nat.reduceSub, pl50, tfun_1, telem_1, tsize_3, tbytes_3, tagg_3, zcells_3, telem_3, tint_3, tnotIface_3, tsize_23, tbytes_23, tagg_23, zcells_23, telem_23, tnotIface_23, tsize_29, tbytes_29, tagg_29, zcells_29, telem_29, tnotIface_29, tsize_45, tbytes_45, tagg_45, zcells_45, telem_45, tnotIface_45, foff_45_0, foff_45_1, foff_45_2, foff_45_3, fplaces_45, tfun_135, telem_135, a1, a4, a5, a7, a8, a9, a10, a11, hmx, hix]
      · have hkn : n = k := by omega
        subst hkn
        exact ⟨o7, o8, rfl, by assumption, by assumption⟩
theorem peel_at (n : Nat) (hn : n ≤ 128) (st cs : List Int) (hb : st.length < 1000000000) (hb2 : cs.length < 1000000000) (hg : graphP n n st cs) {h : Heap} {Q : AV → Heap → Prop}
    (hq : ∀ (G : Heap) (o7 o8 : Nat), (∀ i, i < h.length → G[i]? = h[i]?) → G[o7]? = some (.arr 1 (List.map intE (pst st cs n n).O) true) → G[o8]? = some (.arr 1 (List.map intE (pst st cs n n).C) true) → Q (.tup [.osl o7 1 0 n n true, .osl o8 1 0 n n true]) G) : ACalls Try.prog 50 [pat n n st cs] h Q := by
  refine acalls_shift (peel_c n hn st cs hb hb2 hg) (by simp [pures, AV.pure, ints]) ?_
  rintro u h0 ⟨o7, o8, rfl, h7, h8⟩
  have key : ∀ i o, h0[i]? = some o → (behind h h0)[i + h.length]? = some (o.ren (sh h.length)) := fun i o hi => by
    rw [behind_eq, List.getElem?_append_right (by omega), Nat.add_sub_cancel, List.getElem?_map, hi]
    rfl
  exact hq _ _ _ (fun i hi => by rw [behind_eq]; exact List.getElem?_append_left hi) ((key _ _ h7).trans (by rw [ren_intEs])) ((key _ _ h8).trans (by rw [ren_intEs]))
end Go.Proofs.Ytgdlkhgfehclpaa
end

section
/- Degeneracy. No condition. -/
namespace Go.Proofs.Ytgdlkhgfehclpaa
open Go Go.AL
set_option linter.unusedVariables false
set_option linter.unusedSimpArgs false
/-- The greatest of the first k, and of 0. -/
def mxK (C : List Int) : Nat → Int
  | 0 => 0
  | k + 1 => max (mxK C k) (C.getD k default)
/-- Each vertex's core. -/
def coresOf (st cs : List Int) (n : Nat) : List Int := (pst st cs n n).C
theorem graph_sides {rows width : Int} {st cs : List Int} (h : graphP rows width st cs) : ∃ n : Nat, rows = n ∧ width = n ∧ n ≤ 128 := by
  have h1 := h.1.1.1
  have h2 := h.1.2.1
  exact ⟨rows.toNat, by omega, by omega, by omega⟩
set_option maxHeartbeats 4000000 in
set_option maxRecDepth 100000 in
theorem degen_c (rows width : Int) (st cs : List Int) (hb : st.length < 1000000000) (hb2 : cs.length < 1000000000) : ACalls Try.prog 20 [pat rows width st cs] [] fun v h =>
    (graphP rows width st cs → OFz h v (.tup [.int .i64 (mxK (coresOf st cs rows.toNat) rows.toNat), ints (coresOf st cs rows.toNat), .int .i64 0])) ∧ (¬ graphP rows width st cs → OFz h v (.tup [.int .i64 0, ints [], .int .i64 220])) := by
  refine (wp20 rfl rfl ?_)
  simp (maxSteps := 4000000) +contextual only [↓packA0, ↓packA1, ↓packA2, ↓reduceIte, packB0, packB1, packB2, packB3, packB4, pureOp, quietOp, loadOp, quietB, fr0, cellsK, Option.getD_some, Option.getD_none, implies_true, ite_true, ite_false, eq_self, ne_eq, reduceCtorEq, Nat.reduceLT, Nat.reduceLeDiff, Nat.reduceAdd, Nat.reduceMul, Nat.reduceBEq, Nat.reduceEqDiff, Int.reduceToNat, Int.reduceLT, Int.reduceLE, Nat.reduceSub, pl20, tsize_3, tbytes_3, tagg_3, zcells_3, telem_3, tint_3, tnotIface_3, tsize_4, tbytes_4, tagg_4, zcells_4, telem_4, tbool_4, tnotIface_4, tsize_23, tbytes_23, tagg_23, zcells_23, telem_23, tnotIface_23, tsize_45, tbytes_45, tagg_45, zcells_45, telem_45, tnotIface_45, foff_45_0, foff_45_1, foff_45_2, foff_45_3, fplaces_45, ints]
  refine acalls_pure (graph_c rows width st cs hb hb2) rfl ?_
  simp (maxSteps := 4000000) +contextual only [↓packA0, ↓packA1, ↓packA2, ↓reduceIte, packB0, packB1, packB2, packB3, packB4, pureOp, quietOp, loadOp, quietB, fr0, cellsK, Option.getD_some, Option.getD_none, implies_true, ite_true, ite_false, eq_self, ne_eq, reduceCtorEq, Nat.reduceLT, Nat.reduceLeDiff, Nat.reduceAdd, Nat.reduceMul, Nat.reduceBEq, Nat.reduceEqDiff, Int.reduceToNat, Int.reduceLT, Int.reduceLE, Nat.reduceSub, pl20, tsize_3, tbytes_3, tagg_3, zcells_3, telem_3, tint_3, tnotIface_3, tsize_4, tbytes_4, tagg_4, zcells_4, telem_4, tbool_4, tnotIface_4, tsize_23, tbytes_23, tagg_23, zcells_23, telem_23, tnotIface_23, tsize_45, tbytes_45, tagg_45, zcells_45, telem_45, tnotIface_45, foff_45_0, foff_45_1, foff_45_2, foff_45_3, fplaces_45, ints]
  refine ⟨fun hg => ?_, fun hg => .three (.flat _ rfl) (.nils 1) (.flat _ rfl)⟩
  obtain ⟨n, rfl, rfl, hn⟩ := graph_sides hg
  refine peel_at n hn st cs hb hb2 hg fun G o7 o8 hG g7 g8 => ?_
  have hCl := (pst_len st cs n n).2.2
  simp (maxSteps := 4000000) +contextual only [↓packA0, ↓packA1, ↓packA2, ↓reduceIte, packB0, packB1, packB2, packB3, packB4, pureOp, quietOp, loadOp, quietB, fr0, cellsK, Option.getD_some, Option.getD_none, implies_true, ite_true, ite_false, eq_self, ne_eq, reduceCtorEq, Nat.reduceLT, Nat.reduceLeDiff, Nat.reduceAdd, Nat.reduceMul, Nat.reduceBEq, Nat.reduceEqDiff, Int.reduceToNat, Int.reduceLT, Int.reduceLE, Nat.reduceSub, pl20, tsize_3, tbytes_3, tagg_3, zcells_3, telem_3, tint_3, tnotIface_3, tsize_4, tbytes_4, tagg_4, zcells_4, telem_4, tbool_4, tnotIface_4, tsize_23, tbytes_23, tagg_23, zcells_23, telem_23, tnotIface_23, tsize_45, tbytes_45, tagg_45, zcells_45, telem_45, tnotIface_45, foff_45_0, foff_45_1, foff_45_2, foff_45_3, fplaces_45, ints]
  refine LoopK.intro (fun m a h => ∃ k : Nat, m = n - k ∧ k ≤ n ∧ a 6 = .osl o8 1 0 n n true ∧ a 7 = .int .i64 (mxK (coresOf st cs n) k) ∧ a 18 = .osl o8 1 0 n n true ∧ a 19 = .int .i64 n ∧ a 20 = .int .i64 k ∧ h = G) n ⟨0, rfl, Nat.zero_le _, ?_⟩ ?_
  · simp (maxSteps := 4000000) only [↓packA0, ↓packA1, ↓packA2, ↓reduceIte, packB0, packB1, packB2, packB3, packB4, pureOp, quietOp, loadOp, quietB, fr0, cellsK, Option.getD_some, Option.getD_none, implies_true, ite_true, ite_false, eq_self, ne_eq, reduceCtorEq, Nat.reduceLT, Nat.reduceLeDiff, Nat.reduceAdd, Nat.reduceMul, Nat.reduceBEq, Nat.reduceEqDiff, Int.reduceToNat, Int.reduceLT, Int.reduceLE, Nat.reduceSub, pl20, tsize_3, tbytes_3, tagg_3, zcells_3, telem_3, tint_3, tnotIface_3, tsize_4, tbytes_4, tagg_4, zcells_4, telem_4, tbool_4, tnotIface_4, tsize_23, tbytes_23, tagg_23, zcells_23, telem_23, tnotIface_23, tsize_45, tbytes_45, tagg_45, zcells_45, telem_45, tnotIface_45, foff_45_0, foff_45_1, foff_45_2, foff_45_3, fplaces_45, Int.natCast_zero, mxK]
  rintro m a h ⟨k, rfl, hk, a6, a7, a18, a19, a20, rfl⟩
  simp (maxSteps := 4000000) +contextual only [↓packA0, ↓packA1, ↓packA2, ↓reduceIte, packB0, packB1, packB2, packB3, packB4, pureOp, quietOp, loadOp, quietB, fr0, cellsK, Option.getD_some, Option.getD_none, implies_true, ite_true, ite_false, eq_self, ne_eq, reduceCtorEq, Nat.reduceLT, Nat.reduceLeDiff, Nat.reduceAdd, Nat.reduceMul, Nat.reduceBEq, Nat.reduceEqDiff, Int.reduceToNat, Int.reduceLT, Int.reduceLE, Nat.reduceSub, pl20, tsize_3, tbytes_3, tagg_3, zcells_3, telem_3, tint_3, tnotIface_3, tsize_4, tbytes_4, tagg_4, zcells_4, telem_4, tbool_4, tnotIface_4, tsize_23, tbytes_23, tagg_23, zcells_23, telem_23, tnotIface_23, tsize_45, tbytes_45, tagg_45, zcells_45, telem_45, tnotIface_45, foff_45_0, foff_45_1, foff_45_2, foff_45_3, fplaces_45, a6, a7, a18, a19, a20, g8, minK_2, imax_eq]
  refine ⟨fun h2 => ⟨by omega, by omega, by omega, .inl ⟨n - (k + 1), by omega, k + 1, rfl, by omega, rfl, by omega⟩⟩, fun h2 => ?_⟩
  obtain rfl : n = k := by omega
  exact ⟨fun _ => .three (.flat _ rfl) (ofz_ints (l := coresOf st cs n) g8 hCl.symm) (.flat _ rfl), fun h => absurd hg h⟩
/-- The law's own graph. -/
theorem degen_a : ACalls Try.prog 20 [pat 3 3 [0, 1, 3, 4] [1, 0, 2, 1]] [] fun v h => OFz h v (.tup [.int .i64 1, ints [1, 1, 1], .int .i64 0]) :=
  (degen_c 3 3 [0, 1, 3, 4] [1, 0, 2, 1] (by simp) (by simp)).mono fun u h' hh => by
    have := hh.1 graph_a
    rw [show coresOf [0, 1, 3, 4] [1, 0, 2, 1] (3 : Int).toNat = [1, 1, 1] by decide, show mxK [1, 1, 1] (3 : Int).toNat = 1 by decide] at this
    exact this
end Go.Proofs.Ytgdlkhgfehclpaa
end

section
/- What must come: alive. No condition. -/
namespace Go.Proofs.Ytgdlkhgfehclpaa
open Go Go.AL
set_option linter.unusedVariables false
set_option linter.unusedSimpArgs false
theorem frz_pat {h : Heap} {x y x' y' : AV} {r w : Int} (hx : Frz h x x') (hy : Frz h y y') : Frz h (.agg [.int .i64 r, .int .i64 w, x, y]) (.agg [.int .i64 r, .int .i64 w, x', y']) := by
  refine .agg _ _ rfl fun q u u' hu hu' => ?_
  match q with
  | 0 => simp at hu hu'; subst hu hu'; exact .pure _ rfl
  | 1 => simp at hu hu'; subst hu hu'; exact .pure _ rfl
  | 2 => simp at hu hu'; subst hu hu'; exact hx
  | 3 => simp at hu hu'; subst hu hu'; exact hy
  | q + 4 => simp at hu
set_option maxHeartbeats 4000000 in
set_option maxRecDepth 100000 in
theorem alive_c : ACalls Try.prog 18 [] [] fun v h => OFz h v (.bool true) := by
  refine (wp18 rfl rfl ?_)
  simp (maxSteps := 4000000) +contextual only [↓packA0, ↓packA1, ↓packA2, ↓reduceIte, packB0, packB1, packB2, packB3, packB4, pureOp, quietOp, loadOp, quietB, fr0, cellsK, Option.getD_some, Option.getD_none, implies_true, ite_true, ite_false, eq_self, ne_eq, reduceCtorEq, Nat.reduceLT, Nat.reduceLeDiff, Nat.reduceAdd, Nat.reduceMul, Nat.reduceBEq, Nat.reduceEqDiff, Int.reduceToNat, Int.reduceLT, Int.reduceLE, Nat.reduceSub, pl18, tsize_3, tbytes_3, tagg_3, zcells_3, telem_3, tint_3, tnotIface_3, tsize_4, tbytes_4, tagg_4, zcells_4, telem_4, tbool_4, tnotIface_4, tsize_23, tbytes_23, tagg_23, zcells_23, telem_23, tnotIface_23, tsize_43, tbytes_43, tagg_43, zcells_43, telem_43, tint_43, tnotIface_43, tsize_45, tbytes_45, tagg_45, zcells_45, telem_45, tnotIface_45, foff_45_0, foff_45_1, foff_45_2, foff_45_3, fplaces_45, tsize_53, tbytes_53, tagg_53, zcells_53, telem_53, tint_53, tnotIface_53, patch, Int.cast_ofNat_Int, Int.natCast_zero, Int.natCast_one, Int.reduceAdd, Int.reduceSub, Int.reduceNeg, Int.reduceMul, Int.reduceToNat, Int.reduceLT, Int.reduceLE, Int.reduceEq, Int.reduceBEq, Int.reduceBNe, Nat.reduceSub, Nat.reduceLT, List.getD_cons_zero, List.getD_cons_succ, List.length_singleton, Bool.and_true, Bool.and_false]
  refine acalls_fresh order_a ?_ (fun u h0 hz => ⟨_, hz, ?_⟩)
  · exact .cons (.pure _ rfl) (.cons (frz_pat (frz_ints (l' := [0, 1, 3, 4]) (l := [0, 1, 3, 4]) rfl rfl rfl) (frz_ints (l' := [1, 0, 2, 1]) (l := [1, 0, 2, 1]) rfl rfl rfl)) (.cons (.pure _ rfl) .nil))
  simp (maxSteps := 4000000) +contextual only [↓packA0, ↓packA1, ↓packA2, ↓reduceIte, packB0, packB1, packB2, packB3, packB4, pureOp, quietOp, loadOp, quietB, fr0, cellsK, Option.getD_some, Option.getD_none, implies_true, ite_true, ite_false, eq_self, ne_eq, reduceCtorEq, Nat.reduceLT, Nat.reduceLeDiff, Nat.reduceAdd, Nat.reduceMul, Nat.reduceBEq, Nat.reduceEqDiff, Int.reduceToNat, Int.reduceLT, Int.reduceLE, Nat.reduceSub, pl18, tsize_3, tbytes_3, tagg_3, zcells_3, telem_3, tint_3, tnotIface_3, tsize_4, tbytes_4, tagg_4, zcells_4, telem_4, tbool_4, tnotIface_4, tsize_23, tbytes_23, tagg_23, zcells_23, telem_23, tnotIface_23, tsize_43, tbytes_43, tagg_43, zcells_43, telem_43, tint_43, tnotIface_43, tsize_45, tbytes_45, tagg_45, zcells_45, telem_45, tnotIface_45, foff_45_0, foff_45_1, foff_45_2, foff_45_3, fplaces_45, tsize_53, tbytes_53, tagg_53, zcells_53, telem_53, tint_53, tnotIface_53, patch, Int.cast_ofNat_Int, Int.natCast_zero, Int.natCast_one, Int.reduceAdd, Int.reduceSub, Int.reduceNeg, Int.reduceMul, Int.reduceToNat, Int.reduceLT, Int.reduceLE, Int.reduceEq, Int.reduceBEq, Int.reduceBNe, Nat.reduceSub, Nat.reduceLT, List.getD_cons_zero, List.getD_cons_succ, List.length_singleton, Bool.and_true, Bool.and_false, ints]
  refine acalls_fresh degen_a ?_ (fun u h0 hz => ⟨_, hz, ?_⟩)
  · exact .cons (frz_pat (frz_ints (l' := [0, 1, 3, 4]) (l := [0, 1, 3, 4]) rfl rfl rfl) (frz_ints (l' := [1, 0, 2, 1]) (l := [1, 0, 2, 1]) rfl rfl rfl)) .nil
  simp (maxSteps := 4000000) +contextual only [↓packA0, ↓packA1, ↓packA2, ↓reduceIte, packB0, packB1, packB2, packB3, packB4, pureOp, quietOp, loadOp, quietB, fr0, cellsK, Option.getD_some, Option.getD_none, implies_true, ite_true, ite_false, eq_self, ne_eq, reduceCtorEq, Nat.reduceLT, Nat.reduceLeDiff, Nat.reduceAdd, Nat.reduceMul, Nat.reduceBEq, Nat.reduceEqDiff, Int.reduceToNat, Int.reduceLT, Int.reduceLE, Nat.reduceSub, pl18, tsize_3, tbytes_3, tagg_3, zcells_3, telem_3, tint_3, tnotIface_3, tsize_4, tbytes_4, tagg_4, zcells_4, telem_4, tbool_4, tnotIface_4, tsize_23, tbytes_23, tagg_23, zcells_23, telem_23, tnotIface_23, tsize_43, tbytes_43, tagg_43, zcells_43, telem_43, tint_43, tnotIface_43, tsize_45, tbytes_45, tagg_45, zcells_45, telem_45, tnotIface_45, foff_45_0, foff_45_1, foff_45_2, foff_45_3, fplaces_45, tsize_53, tbytes_53, tagg_53, zcells_53, telem_53, tint_53, tnotIface_53, patch, Int.cast_ofNat_Int, Int.natCast_zero, Int.natCast_one, Int.reduceAdd, Int.reduceSub, Int.reduceNeg, Int.reduceMul, Int.reduceToNat, Int.reduceLT, Int.reduceLE, Int.reduceEq, Int.reduceBEq, Int.reduceBNe, Nat.reduceSub, Nat.reduceLT, List.getD_cons_zero, List.getD_cons_succ, List.length_singleton, Bool.and_true, Bool.and_false, ints]
  refine wp22 rfl rfl ?_
  simp (maxSteps := 4000000) +contextual only [↓packA0, ↓packA1, ↓packA2, ↓reduceIte, packB0, packB1, packB2, packB3, packB4, pureOp, quietOp, loadOp, quietB, fr0, cellsK, Option.getD_some, Option.getD_none, implies_true, ite_true, ite_false, eq_self, ne_eq, reduceCtorEq, Nat.reduceLT, Nat.reduceLeDiff, Nat.reduceAdd, Nat.reduceMul, Nat.reduceBEq, Nat.reduceEqDiff, Int.reduceToNat, Int.reduceLT, Int.reduceLE, Nat.reduceSub, pl22, pl18, tsize_3, tbytes_3, tagg_3, zcells_3, telem_3, tint_3, tnotIface_3, tsize_4, tbytes_4, tagg_4, zcells_4, telem_4, tbool_4, tnotIface_4, tsize_23, tbytes_23, tagg_23, zcells_23, telem_23, tnotIface_23, tsize_43, tbytes_43, tagg_43, zcells_43, telem_43, tint_43, tnotIface_43, tsize_45, tbytes_45, tagg_45, zcells_45, telem_45, tnotIface_45, foff_45_0, foff_45_1, foff_45_2, foff_45_3, fplaces_45, tsize_53, tbytes_53, tagg_53, zcells_53, telem_53, tint_53, tnotIface_53, patch, Int.cast_ofNat_Int, Int.natCast_zero, Int.natCast_one, Int.reduceAdd, Int.reduceSub, Int.reduceNeg, Int.reduceMul, Int.reduceToNat, Int.reduceLT, Int.reduceLE, Int.reduceEq, Int.reduceBEq, Int.reduceBNe, Nat.reduceSub, Nat.reduceLT, List.getD_cons_zero, List.getD_cons_succ, List.length_singleton, Bool.and_true, Bool.and_false, ints]
  refine acalls_lend (same_pure [1, 0, 2] [1, 0, 2] (by simp)) ?_ rfl ?_
  · exact .cons (.pure _ rfl) (.cons (frz_ints (l' := [1, 0, 2]) (l := [1, 0, 2]) rfl rfl rfl) .nil)
  simp (maxSteps := 4000000) +contextual only [↓packA0, ↓packA1, ↓packA2, ↓reduceIte, packB0, packB1, packB2, packB3, packB4, pureOp, quietOp, loadOp, quietB, fr0, cellsK, Option.getD_some, Option.getD_none, implies_true, ite_true, ite_false, eq_self, ne_eq, reduceCtorEq, Nat.reduceLT, Nat.reduceLeDiff, Nat.reduceAdd, Nat.reduceMul, Nat.reduceBEq, Nat.reduceEqDiff, Int.reduceToNat, Int.reduceLT, Int.reduceLE, Nat.reduceSub, pl18, tsize_3, tbytes_3, tagg_3, zcells_3, telem_3, tint_3, tnotIface_3, tsize_4, tbytes_4, tagg_4, zcells_4, telem_4, tbool_4, tnotIface_4, tsize_23, tbytes_23, tagg_23, zcells_23, telem_23, tnotIface_23, tsize_43, tbytes_43, tagg_43, zcells_43, telem_43, tint_43, tnotIface_43, tsize_45, tbytes_45, tagg_45, zcells_45, telem_45, tnotIface_45, foff_45_0, foff_45_1, foff_45_2, foff_45_3, fplaces_45, tsize_53, tbytes_53, tagg_53, zcells_53, telem_53, tint_53, tnotIface_53, patch, Int.cast_ofNat_Int, Int.natCast_zero, Int.natCast_one, Int.reduceAdd, Int.reduceSub, Int.reduceNeg, Int.reduceMul, Int.reduceToNat, Int.reduceLT, Int.reduceLE, Int.reduceEq, Int.reduceBEq, Int.reduceBNe, Nat.reduceSub, Nat.reduceLT, List.getD_cons_zero, List.getD_cons_succ, List.length_singleton, Bool.and_true, Bool.and_false, ints]
  refine wp22 rfl rfl ?_
  simp (maxSteps := 4000000) +contextual only [↓packA0, ↓packA1, ↓packA2, ↓reduceIte, packB0, packB1, packB2, packB3, packB4, pureOp, quietOp, loadOp, quietB, fr0, cellsK, Option.getD_some, Option.getD_none, implies_true, ite_true, ite_false, eq_self, ne_eq, reduceCtorEq, Nat.reduceLT, Nat.reduceLeDiff, Nat.reduceAdd, Nat.reduceMul, Nat.reduceBEq, Nat.reduceEqDiff, Int.reduceToNat, Int.reduceLT, Int.reduceLE, Nat.reduceSub, pl22, pl18, tsize_3, tbytes_3, tagg_3, zcells_3, telem_3, tint_3, tnotIface_3, tsize_4, tbytes_4, tagg_4, zcells_4, telem_4, tbool_4, tnotIface_4, tsize_23, tbytes_23, tagg_23, zcells_23, telem_23, tnotIface_23, tsize_43, tbytes_43, tagg_43, zcells_43, telem_43, tint_43, tnotIface_43, tsize_45, tbytes_45, tagg_45, zcells_45, telem_45, tnotIface_45, foff_45_0, foff_45_1, foff_45_2, foff_45_3, fplaces_45, tsize_53, tbytes_53, tagg_53, zcells_53, telem_53, tint_53, tnotIface_53, patch, Int.cast_ofNat_Int, Int.natCast_zero, Int.natCast_one, Int.reduceAdd, Int.reduceSub, Int.reduceNeg, Int.reduceMul, Int.reduceToNat, Int.reduceLT, Int.reduceLE, Int.reduceEq, Int.reduceBEq, Int.reduceBNe, Nat.reduceSub, Nat.reduceLT, List.getD_cons_zero, List.getD_cons_succ, List.length_singleton, Bool.and_true, Bool.and_false, ints]
  refine acalls_lend (same_pure [1, 1, 1] [1, 1, 1] (by simp)) ?_ rfl ?_
  · exact .cons (.pure _ rfl) (.cons (frz_ints (l' := [1, 1, 1]) (l := [1, 1, 1]) rfl rfl rfl) .nil)
  simp (maxSteps := 4000000) +contextual only [↓packA0, ↓packA1, ↓packA2, ↓reduceIte, packB0, packB1, packB2, packB3, packB4, pureOp, quietOp, loadOp, quietB, fr0, cellsK, Option.getD_some, Option.getD_none, implies_true, ite_true, ite_false, eq_self, ne_eq, reduceCtorEq, Nat.reduceLT, Nat.reduceLeDiff, Nat.reduceAdd, Nat.reduceMul, Nat.reduceBEq, Nat.reduceEqDiff, Int.reduceToNat, Int.reduceLT, Int.reduceLE, Nat.reduceSub, pl18, tsize_3, tbytes_3, tagg_3, zcells_3, telem_3, tint_3, tnotIface_3, tsize_4, tbytes_4, tagg_4, zcells_4, telem_4, tbool_4, tnotIface_4, tsize_23, tbytes_23, tagg_23, zcells_23, telem_23, tnotIface_23, tsize_43, tbytes_43, tagg_43, zcells_43, telem_43, tint_43, tnotIface_43, tsize_45, tbytes_45, tagg_45, zcells_45, telem_45, tnotIface_45, foff_45_0, foff_45_1, foff_45_2, foff_45_3, fplaces_45, tsize_53, tbytes_53, tagg_53, zcells_53, telem_53, tint_53, tnotIface_53, patch, Int.cast_ofNat_Int, Int.natCast_zero, Int.natCast_one, Int.reduceAdd, Int.reduceSub, Int.reduceNeg, Int.reduceMul, Int.reduceToNat, Int.reduceLT, Int.reduceLE, Int.reduceEq, Int.reduceBEq, Int.reduceBNe, Nat.reduceSub, Nat.reduceLT, List.getD_cons_zero, List.getD_cons_succ, List.length_singleton, Bool.and_true, Bool.and_false, ints]
  exact .flat _ rfl
end Go.Proofs.Ytgdlkhgfehclpaa
end
