/- Texts of one claim bound together: POg, PZb, POh, POi, POj, POk, POl, POm, POn, POo, POr, POs, POP, POQ, POR, POS, POT, POU, POV, POW, POt, POb, POp. -/
import Derived.Test.YtgdlkhgfehclpaaGreatQW3

section
/- Patterns that may be: what May, Has and the search answer. No condition. -/
namespace Go.Proofs.YtgdlkhgfehclpaaGreat
open Go Go.AL
set_option linter.unusedVariables false
set_option linter.unusedSimpArgs false
abbrev pat (rows width : Int) (st cs : List Int) : AV := .agg [.int .i64 rows, .int .i64 width, ints st, ints cs]
theorem side_c (n : Int) : APure Tryz.prog 78 [.int .i64 n] (.bool (decide (0 ≤ n ∧ n ≤ 128))) := by
  refine apure_of (wp78 rfl rfl ?_)
  simp (maxSteps := 4000000) +contextual only [↓packA, ↓reduceIte, packB, pureOp, quietOp, loadOp, quietB, fr0, cellsK, implies_true, ite_true, ite_false, eq_self, ne_eq, reduceCtorEq, Nat.reduceLT, Nat.reduceLeDiff, Nat.reduceAdd, Nat.reduceMul, Nat.reduceBEq, Nat.reduceEqDiff, Int.reduceToNat, Int.reduceLT, Int.reduceLE, Nat.reduceSub, pl78, ft3, ints]
  refine ⟨fun h => .pure _ rfl, fun h => ?_⟩
  simp only [false_and, decide_false]
  exact .pure _ rfl
theorem nan_c (n : Int) : APure Tryz.prog 100 [.int .i64 n] (.bool false) := by
  refine apure_of (wp100 rfl rfl ?_)
  simp (maxSteps := 4000000) +contextual only [↓packA, ↓reduceIte, packB, pureOp, quietOp, loadOp, quietB, fr0, cellsK, implies_true, ite_true, ite_false, eq_self, ne_eq, reduceCtorEq, Nat.reduceLT, Nat.reduceLeDiff, Nat.reduceAdd, Nat.reduceMul, Nat.reduceBEq, Nat.reduceEqDiff, Int.reduceToNat, Int.reduceLT, Int.reduceLE, Nat.reduceSub, pl100, ft3, ints]
  rw [bne_self_eq_false]
  exact .pure _ rfl
theorem nan2_c (n : Int) : APure Tryz.prog 105 [.int .i64 n] (.bool false) := by
  refine apure_of (wp105 rfl rfl ?_)
  simp (maxSteps := 4000000) +contextual only [↓packA, ↓reduceIte, packB, pureOp, quietOp, loadOp, quietB, fr0, cellsK, implies_true, ite_true, ite_false, eq_self, ne_eq, reduceCtorEq, Nat.reduceLT, Nat.reduceLeDiff, Nat.reduceAdd, Nat.reduceMul, Nat.reduceBEq, Nat.reduceEqDiff, Int.reduceToNat, Int.reduceLT, Int.reduceLE, Nat.reduceSub, pl105, ft3, ints]
  rw [bne_self_eq_false]
  exact .pure _ rfl
theorem less_c (a b : Int) : APure Tryz.prog 97 [.int .i64 a, .int .i64 b] (.bool (decide (a < b))) := by
  refine apure_of (wp97 rfl rfl ?_)
  simp (maxSteps := 4000000) +contextual only [↓packA, ↓reduceIte, packB, pureOp, quietOp, loadOp, quietB, fr0, cellsK, implies_true, ite_true, ite_false, eq_self, ne_eq, reduceCtorEq, Nat.reduceLT, Nat.reduceLeDiff, Nat.reduceAdd, Nat.reduceMul, Nat.reduceBEq, Nat.reduceEqDiff, Int.reduceToNat, Int.reduceLT, Int.reduceLE, Nat.reduceSub, pl97, ft3, ft4, ints]
  refine acalls_pure (nan_c _) rfl ?_
  simp (maxSteps := 4000000) +contextual only [↓packA, ↓reduceIte, packB, pureOp, quietOp, loadOp, quietB, fr0, cellsK, implies_true, ite_true, ite_false, eq_self, ne_eq, reduceCtorEq, Nat.reduceLT, Nat.reduceLeDiff, Nat.reduceAdd, Nat.reduceMul, Nat.reduceBEq, Nat.reduceEqDiff, Int.reduceToNat, Int.reduceLT, Int.reduceLE, Nat.reduceSub, pl97, ft3, ft4, ints]
  exact .pure _ rfl
/-- A list that never falls. -/
def srt (st : List Int) : Prop := ∀ i, i < st.length - 1 → st.getD i default ≤ st.getD (i + 1) default
instance (st : List Int) : Decidable (srt st) := by unfold srt; infer_instance
set_option maxRecDepth 100000 in
theorem sorted_c (st : List Int) (hb : st.length < 1000000000) : APure Tryz.prog 79 [ints st] (.bool (decide (srt st))) := by
  refine apure_of (wp79 rfl rfl ?_)
  simp (maxSteps := 4000000) +contextual only [↓packA, ↓reduceIte, packB, pureOp, quietOp, loadOp, quietB, fr0, cellsK, implies_true, ite_true, ite_false, eq_self, ne_eq, reduceCtorEq, Nat.reduceLT, Nat.reduceLeDiff, Nat.reduceAdd, Nat.reduceMul, Nat.reduceBEq, Nat.reduceEqDiff, Int.reduceToNat, Int.reduceLT, Int.reduceLE, Nat.reduceSub, pl79, ft3, ft22, ints]
  refine ⟨by omega, LoopK.intro (fun m a h => ∃ k : Int, (m : Int) = k + 1 ∧ -1 ≤ k ∧ k < st.length ∧ (∀ i : Nat, k ≤ i → i < st.length - 1 → st.getD i default ≤ st.getD (i + 1) default) ∧ a 0 = ints st ∧ a 3 = .int .i64 k ∧ h = []) st.length ⟨st.length - 1, by omega, by omega, by omega, fun i h1 h2 => by omega, ?_⟩ ?_⟩
  · simp (maxSteps := 4000000) +contextual only [↓packA, ↓reduceIte, packB, pureOp, quietOp, loadOp, quietB, fr0, cellsK, implies_true, ite_true, ite_false, eq_self, ne_eq, reduceCtorEq, Nat.reduceLT, Nat.reduceLeDiff, Nat.reduceAdd, Nat.reduceMul, Nat.reduceBEq, Nat.reduceEqDiff, Int.reduceToNat, Int.reduceLT, Int.reduceLE, Nat.reduceSub, pl79, ft3, ft22, ints]
  rintro m a h1 ⟨k, hm, hk0, hk1, hs, a0, a3, rfl⟩
  simp (maxSteps := 4000000) +contextual only [↓packA, ↓reduceIte, packB, pureOp, quietOp, loadOp, quietB, fr0, cellsK, implies_true, ite_true, ite_false, eq_self, ne_eq, reduceCtorEq, Nat.reduceLT, Nat.reduceLeDiff, Nat.reduceAdd, Nat.reduceMul, Nat.reduceBEq, Nat.reduceEqDiff, Int.reduceToNat, Int.reduceLT, Int.reduceLE, Nat.reduceSub, pl79, ft3, ft22, ints, a0, a3]
  refine ⟨fun h2 => ⟨by omega, by omega, by omega, by omega, by omega, acalls_pure (less_c _ _) rfl ?_⟩, fun h2 => ?_⟩
  · simp (maxSteps := 4000000) +contextual only [↓packA, ↓reduceIte, packB, pureOp, quietOp, loadOp, quietB, fr0, cellsK, implies_true, ite_true, ite_false, eq_self, ne_eq, reduceCtorEq, Nat.reduceLT, Nat.reduceLeDiff, Nat.reduceAdd, Nat.reduceMul, Nat.reduceBEq, Nat.reduceEqDiff, Int.reduceToNat, Int.reduceLT, Int.reduceLE, Nat.reduceSub, pl79, ft3, ft22, ints, a0, a3]
    refine ⟨fun h3 => ?_, fun h3 => ⟨by omega, .inl ⟨k.toNat, by omega, k - 1, by omega, by omega, by omega, fun i h4 h5 => ?_, rfl⟩⟩⟩
    · have : decide (srt st) = false := by
        refine decide_eq_false fun hc => ?_
        have := hc (k - 1).toNat (by omega)
        rw [show (k - 1).toNat + 1 = k.toNat by omega] at this
        omega
      rw [this]; exact .pure _ rfl
    · rcases Int.lt_or_le (i : Int) k with h6 | h6
      · rw [show i = (k - 1).toNat by omega, show (k - 1).toNat + 1 = k.toNat by omega]; omega
      · exact hs i h6 h5
  · have : decide (srt st) = true := decide_eq_true fun i hi => hs i (by omega) hi
    rw [this]; exact .pure _ rfl
end Go.Proofs.YtgdlkhgfehclpaaGreat
end

section
/- Arguments that are patterns. No condition. -/
namespace Go.Proofs.YtgdlkhgfehclpaaGreat
open Go Go.AL Go.ChangeShapes Go.WideShapes Go.ChangeAt Go.RowKit
set_option linter.unusedVariables false
set_option linter.unusedSimpArgs false
theorem open_cell {H : Type} {enc : TypeId × Value → H} {W : World} {t e : TypeId} {fuel : Nat} {v : Value} {d : DataW H} {p : List MemPlace} (ht : Tryz.prog.underlying t = some (.slice e)) (he : Tryz.prog.underlying e = some (.int .i64)) (hc : Tryz.prog.cellsOf e = 1)
    (h : DataW.trod enc Tryz.prog W 0 (fun _ => true) true fuel t [v] = some (d, p)) : ∃ xs : List Int, IRel (allOf W) W (ints xs) v ∧ v.oneCell' = true ∧ xs.length ≤ Rows.uptoBulk d := by
  rcases open_ints ht he hc h with ⟨hcs, hx⟩ | ⟨a, len, cap, zs, hcs, _, hl, hm, hz, hx, hcell, _⟩
  · simp only [List.cons.injEq, and_true] at hcs
    subst hcs
    exact ⟨[], .isl0 1 _ _, rfl, by simp⟩
  · simp only [List.cons.injEq, and_true] at hcs
    subst hcs
    simp only [Prod.mk.injEq] at hx
    obtain ⟨rfl, _⟩ := hx
    simp only [if_true] at hz
    refine ⟨zs.take len, irel_ints (by omega) hl hcell, rfl, ?_⟩
    refine Nat.le_trans ?_ (bulk_slice _ _)
    simp [lits]
set_option maxRecDepth 100000 in
theorem open_pat {H : Type} {enc : TypeId × Value → H} {W : World} {fuel : Nat} {v : Value} {d : DataW H} {p : List MemPlace} (hv : ∃ cs, v = .agg cs ∧ cs.size = Tryz.prog.cellsOf 24) (h : DataW.trod enc Tryz.prog W 0 (fun _ => true) true fuel 24 v.cells.toList = some (d, p)) :
    ∃ (rows width : Int) (st cs : List Int), IRel (allOf W) W (pat rows width st cs) v ∧ st.length ≤ Rows.uptoBulk d ∧ cs.length ≤ Rows.uptoBulk d := by
  obtain ⟨cells, rfl, hsz⟩ := hv
  rw [show Tryz.prog.cellsOf 24 = 4 by kernel_rfl] at hsz
  obtain ⟨xs, n, rfl, hx, hl, hlen, hf⟩ := DataW.trod_struct Tryz.underlying24 h
  simp only [Prod.mk.injEq] at hx
  obtain ⟨hd, _⟩ := hx
  have hlen4 : xs.length = 4 := hlen
  obtain ⟨c0, c1, c2, c3, hcells⟩ : ∃ c0 c1 c2 c3, cells.toList = [c0, c1, c2, c3] := by
    have h4 : cells.toList.length = 4 := by simpa using hsz
    match hm : cells.toList, h4 with
    | [c0, c1, c2, c3], _ => exact ⟨c0, c1, c2, c3, rfl⟩
  have hcl : (Value.agg cells).cells.toList = [c0, c1, c2, c3] := hcells
  rw [hcl] at hf
  obtain ⟨x0, x1, x2, x3, hxs⟩ : ∃ x0 x1 x2 x3, xs = [x0, x1, x2, x3] := by
    match hm : xs, hlen4 with
    | [x0, x1, x2, x3], _ => exact ⟨x0, x1, x2, x3, rfl⟩
  subst hxs
  have h0 : DataW.trod enc Tryz.prog W 0 (fun _ => true) true n 3 (([c0, c1, c2, c3].drop 0).take (Tryz.prog.cellsOf 3)) = [x0, x1, x2, x3][0]? := hf 0 _ rfl
  have h1 : DataW.trod enc Tryz.prog W 0 (fun _ => true) true n 3 (([c0, c1, c2, c3].drop 1).take (Tryz.prog.cellsOf 3)) = [x0, x1, x2, x3][1]? := hf 1 _ rfl
  have h2 : DataW.trod enc Tryz.prog W 0 (fun _ => true) true n 22 (([c0, c1, c2, c3].drop 2).take (Tryz.prog.cellsOf 22)) = [x0, x1, x2, x3][2]? := hf 2 _ rfl
  have h3 : DataW.trod enc Tryz.prog W 0 (fun _ => true) true n 22 (([c0, c1, c2, c3].drop 3).take (Tryz.prog.cellsOf 22)) = [x0, x1, x2, x3][3]? := hf 3 _ rfl
  rw [show Tryz.prog.cellsOf 3 = 1 by kernel_rfl] at h0 h1
  rw [show Tryz.prog.cellsOf 22 = 1 by kernel_rfl] at h2 h3
  simp only [List.drop_zero, List.drop_succ_cons, List.take_succ_cons, List.take_zero, List.getElem?_cons_zero, List.getElem?_cons_succ] at h0 h1 h2 h3
  obtain ⟨r, e0, _, _⟩ := DataW.trod_int Tryz.underlying3 h0
  obtain ⟨w, e1, _, _⟩ := DataW.trod_int Tryz.underlying3 h1
  simp only [List.cons.injEq, and_true] at e0 e1
  obtain ⟨st, i2, o2, b2⟩ := open_cell (p := x2.2) (d := x2.1) Tryz.underlying22 Tryz.underlying3 (by kernel_rfl) h2
  obtain ⟨cs, i3, o3, b3⟩ := open_cell (p := x3.2) (d := x3.1) Tryz.underlying22 Tryz.underlying3 (by kernel_rfl) h3
  have hca : cells = #[c0, c1, c2, c3] := by
    apply Array.ext'
    simpa using hcells
  subst e0 e1 hca
  refine ⟨r, w, st, cs, .agg _ _ rfl (fun j v hj => ?_) (fun j u v hu hj => ?_), ?_, ?_⟩
  · match j with
    | 0 => simp at hj; subst hj; rfl
    | 1 => simp at hj; subst hj; rfl
    | 2 => simp at hj; subst hj; exact o2
    | 3 => simp at hj; subst hj; exact o3
    | j + 4 => simp at hj
  · match j with
    | 0 => simp at hu hj; subst hu; subst hj; exact .int _ _
    | 1 => simp at hu hj; subst hu; subst hj; exact .int _ _
    | 2 => simp at hu hj; subst hu; subst hj; exact i2
    | 3 => simp at hu hj; subst hu; subst hj; exact i3
    | j + 4 => simp at hj
  · subst hd
    refine Nat.le_trans b2 (Nat.le_trans (bulk_part ?_) (bulk_agg _))
    simp
  · subst hd
    refine Nat.le_trans b3 (Nat.le_trans (bulk_part ?_) (bulk_agg _))
    simp
end Go.Proofs.YtgdlkhgfehclpaaGreat
end

section
/- Patterns that may be: what May, Has and the search answer. No condition. -/
namespace Go.Proofs.YtgdlkhgfehclpaaGreat
open Go Go.AL
set_option linter.unusedVariables false
set_option linter.unusedSimpArgs false
def rowOf (st cs : List Int) (r : Nat) : List Int := (cs.drop (st.getD r default).toNat).take ((st.getD (r + 1) default).toNat - (st.getD r default).toNat)
def prv (l : List Int) (j : Nat) : Int := if j = 0 then -1 else l.getD (j - 1) default
def rowOK (w : Int) (l : List Int) : Prop := ∀ j, j < l.length → prv l j < l.getD j default ∧ l.getD j default < w
instance (w : Int) (l : List Int) : Decidable (rowOK w l) := by unfold rowOK; infer_instance
def mayP (rows width : Int) (st cs : List Int) : Prop := (0 ≤ rows ∧ rows ≤ 128) ∧ (0 ≤ width ∧ width ≤ 128) ∧ (st.length : Int) = rows + 1 ∧ st.getD 0 default = 0 ∧ st.getD rows.toNat default = cs.length ∧ srt st ∧ ∀ r, r < rows.toNat → rowOK width (rowOf st cs r)
instance (rows width : Int) (st cs : List Int) : Decidable (mayP rows width st cs) := by unfold mayP; infer_instance
theorem srt_le {st : List Int} (hs : srt st) : ∀ (d i : Nat), i + d < st.length → st.getD i default ≤ st.getD (i + d) default
  | 0, i, _ => Int.le_refl _
  | d + 1, i, h => by
    have h1 := srt_le hs d i (by omega)
    have h2 := hs (i + d) (by omega)
    rw [show i + (d + 1) = i + d + 1 by omega]
    omega
/-- Where a row begins and ends. -/
theorem row_bounds {rows : Int} {st : List Int} {n : Nat} (hr : 0 ≤ rows) (hl : (st.length : Int) = rows + 1) (h0 : st.getD 0 default = 0) (he : st.getD rows.toNat default = n) (hs : srt st) {r : Nat} (h : r < rows.toNat) :
    0 ≤ st.getD r default ∧ st.getD r default ≤ st.getD (r + 1) default ∧ st.getD (r + 1) default ≤ n := by
  have h1 := srt_le hs r 0 (by omega)
  have h2 := srt_le hs 1 r (by omega)
  have h3 := srt_le hs (rows.toNat - (r + 1)) (r + 1) (by omega)
  rw [show 0 + r = r by omega, h0] at h1
  rw [show r + 1 + (rows.toNat - (r + 1)) = rows.toNat by omega, he] at h3
  exact ⟨h1, h2, h3⟩
theorem rowOf_length {st cs : List Int} {r : Nat} (h0 : 0 ≤ st.getD r default) (h1 : st.getD r default ≤ st.getD (r + 1) default) (h2 : st.getD (r + 1) default ≤ cs.length) : (rowOf st cs r).length = (st.getD (r + 1) default).toNat - (st.getD r default).toNat := by
  simp only [rowOf, List.length_take, List.length_drop]
  omega
set_option maxRecDepth 100000 in
theorem may_c (rows width : Int) (st cs : List Int) (hb : st.length < 1000000000) (hb2 : cs.length < 1000000000) : APure Tryz.prog 50 [pat rows width st cs] (.bool (decide (mayP rows width st cs))) := by
  have no : ∀ {h : Heap}, ¬ mayP rows width st cs → Frz h (.bool false) (.bool (decide (mayP rows width st cs))) := fun hc => by rw [decide_eq_false hc]; exact .pure _ rfl
  refine apure_of (wp50 rfl rfl ?_)
  simp (maxSteps := 4000000) +contextual only [↓packA, ↓reduceIte, packB, pureOp, quietOp, loadOp, quietB, fr0, cellsK, implies_true, ite_true, ite_false, eq_self, ne_eq, reduceCtorEq, Nat.reduceLT, Nat.reduceLeDiff, Nat.reduceAdd, Nat.reduceMul, Nat.reduceBEq, Nat.reduceEqDiff, Int.reduceToNat, Int.reduceLT, Int.reduceLE, Nat.reduceSub, pl50, ft1, ft2, ft3, ft4, ft22, ft24, ints]
  refine acalls_pure (side_c _) rfl ?_
  simp (maxSteps := 4000000) +contextual only [↓packA, ↓reduceIte, packB, pureOp, quietOp, loadOp, quietB, fr0, cellsK, implies_true, ite_true, ite_false, eq_self, ne_eq, reduceCtorEq, Nat.reduceLT, Nat.reduceLeDiff, Nat.reduceAdd, Nat.reduceMul, Nat.reduceBEq, Nat.reduceEqDiff, Int.reduceToNat, Int.reduceLT, Int.reduceLE, Nat.reduceSub, pl50, ft1, ft2, ft3, ft4, ft22, ft24, ints]
  refine ⟨fun h0 => acalls_pure (side_c _) rfl ?_, fun h0 => no fun hc => h0 hc.1⟩
  simp (maxSteps := 4000000) +contextual only [↓packA, ↓reduceIte, packB, pureOp, quietOp, loadOp, quietB, fr0, cellsK, implies_true, ite_true, ite_false, eq_self, ne_eq, reduceCtorEq, Nat.reduceLT, Nat.reduceLeDiff, Nat.reduceAdd, Nat.reduceMul, Nat.reduceBEq, Nat.reduceEqDiff, Int.reduceToNat, Int.reduceLT, Int.reduceLE, Nat.reduceSub, pl50, ft1, ft2, ft3, ft4, ft22, ft24, ints, h0]
  refine ⟨fun h1 => ⟨by omega, fun h2 => no fun hc => h2 hc.2.2.1, fun h2 => ⟨by omega, fun h3 => no fun hc => h3 hc.2.2.2.1, fun h3 => ⟨by omega, fun h4 => no fun hc => h4 hc.2.2.2.2.1, fun h4 => acalls_pure (sorted_c st hb) rfl ?_⟩⟩⟩, fun h1 => no fun hc => h1 hc.2.1⟩
  simp (maxSteps := 4000000) +contextual only [↓packA, ↓reduceIte, packB, pureOp, quietOp, loadOp, quietB, fr0, cellsK, implies_true, ite_true, ite_false, eq_self, ne_eq, reduceCtorEq, Nat.reduceLT, Nat.reduceLeDiff, Nat.reduceAdd, Nat.reduceMul, Nat.reduceBEq, Nat.reduceEqDiff, Int.reduceToNat, Int.reduceLT, Int.reduceLE, Nat.reduceSub, pl50, ft1, ft2, ft3, ft4, ft22, ft24, ints, h0, h1, h2, h3, h4]
  refine ⟨fun h5 => ?_, fun h5 => no fun hc => h5 hc.2.2.2.2.2.1⟩
  refine LoopK.intro (fun m a h => ∃ r : Nat, m = rows.toNat - r ∧ r ≤ rows.toNat ∧ (∀ i, i < r → rowOK width (rowOf st cs i)) ∧ a 1 = .op 0 4 0 0 ∧ a 52 = .int .i64 rows ∧ a 53 = .int .i64 r ∧ h = [Ob.arr 4 [[.int .i64 rows, .int .i64 width, ints st, ints cs]] true]) rows.toNat ⟨0, rfl, Nat.zero_le _, fun i h => absurd h (Nat.not_lt_zero _), ?_⟩ ?_
  · simp (maxSteps := 4000000) +contextual only [↓packA, ↓reduceIte, packB, pureOp, quietOp, loadOp, quietB, fr0, cellsK, implies_true, ite_true, ite_false, eq_self, ne_eq, reduceCtorEq, Nat.reduceLT, Nat.reduceLeDiff, Nat.reduceAdd, Nat.reduceMul, Nat.reduceBEq, Nat.reduceEqDiff, Int.reduceToNat, Int.reduceLT, Int.reduceLE, Nat.reduceSub, pl50, ft1, ft2, ft3, ft4, ft22, ft24, ints, Int.natCast_zero]
  rintro m a h ⟨r, rfl, hr, hok, a1, a52, a53, rfl⟩
  simp (maxSteps := 4000000) +contextual only [↓packA, ↓reduceIte, packB, pureOp, quietOp, loadOp, quietB, fr0, cellsK, implies_true, ite_true, ite_false, eq_self, ne_eq, reduceCtorEq, Nat.reduceLT, Nat.reduceLeDiff, Nat.reduceAdd, Nat.reduceMul, Nat.reduceBEq, Nat.reduceEqDiff, Int.reduceToNat, Int.reduceLT, Int.reduceLE, Nat.reduceSub, pl50, ft1, ft2, ft3, ft4, ft22, ft24, ints, a1, a52, a53]
  refine ⟨fun h6 => ?_, fun h6 => ?_⟩
  · have hrb := row_bounds h0.1 h2 h3 h4 h5 (r := r) (by omega)
    refine ⟨by omega, by omega, by omega, by omega, by omega, by omega, by omega, ⟨by omega, by omega⟩, ?_⟩
    have hrl : (rowOf st cs r).length = (st.getD (r + 1) default).toNat - (st.getD r default).toNat := rowOf_length hrb.1 hrb.2.1 hrb.2.2
    have hrw : AV.isl 1 (((List.map intE cs).drop (st.getD r default).toNat).take ((st.getD (r + 1) default).toNat - (st.getD r default).toNat)) = ints (rowOf st cs r) := by simp [ints, rowOf, List.map_take, List.map_drop]
    refine LoopK.intro (fun m a h => ∃ j : Nat, m = (rowOf st cs r).length - j ∧ j ≤ (rowOf st cs r).length ∧ (∀ i, i < j → prv (rowOf st cs r) i < (rowOf st cs r).getD i default ∧ (rowOf st cs r).getD i default < width) ∧ a 1 = .op 0 4 0 0 ∧ a 4 = .int .i64 (prv (rowOf st cs r) j) ∧ a 52 = .int .i64 rows ∧ a 53 = .int .i64 r ∧ a 69 = ints (rowOf st cs r) ∧ a 70 = .int .i64 (rowOf st cs r).length ∧ a 71 = .int .i64 j ∧ h = [Ob.arr 4 [[.int .i64 rows, .int .i64 width, ints st, ints cs]] true]) (rowOf st cs r).length ⟨0, rfl, Nat.zero_le _, fun i h => absurd h (Nat.not_lt_zero _), ?_⟩ ?_
    · simp (maxSteps := 4000000) +contextual only [↓packA, ↓reduceIte, packB, pureOp, quietOp, loadOp, quietB, fr0, cellsK, implies_true, ite_true, ite_false, eq_self, ne_eq, reduceCtorEq, Nat.reduceLT, Nat.reduceLeDiff, Nat.reduceAdd, Nat.reduceMul, Nat.reduceBEq, Nat.reduceEqDiff, Int.reduceToNat, Int.reduceLT, Int.reduceLE, Nat.reduceSub, pl50, ft1, ft2, ft3, ft4, ft22, ft24, ints, Int.natCast_zero, hrw, a1, a52, a53, hrl, prv]
      simp only [List.length_take, List.length_drop, List.length_map]
      omega
    rintro m a h ⟨j, rfl, hj, hjok, a1, a4, a52, a53, a69, a70, a71, rfl⟩
    simp (maxSteps := 4000000) +contextual only [↓packA, ↓reduceIte, packB, pureOp, quietOp, loadOp, quietB, fr0, cellsK, implies_true, ite_true, ite_false, eq_self, ne_eq, reduceCtorEq, Nat.reduceLT, Nat.reduceLeDiff, Nat.reduceAdd, Nat.reduceMul, Nat.reduceBEq, Nat.reduceEqDiff, Int.reduceToNat, Int.reduceLT, Int.reduceLE, Nat.reduceSub, pl50, ft1, ft2, ft3, ft4, ft22, ft24, ints, a1, a4, a52, a53, a69, a70, a71]
    refine ⟨fun h7 => ⟨by omega, by omega, ?_⟩, fun h7 => ?_⟩
    · refine ⟨fun h8 => no fun hc => ?_, fun h8 => ⟨fun h9 => no fun hc => ?_, fun h9 => ⟨by omega, .inl ⟨(rowOf st cs r).length - (j + 1), by omega, j + 1, rfl, by omega, fun i hi => ?_, by simp [prv], by omega⟩⟩⟩⟩
      · have := (hc.2.2.2.2.2.2 r (by omega) j (by omega)).1
        omega
      · have := (hc.2.2.2.2.2.2 r (by omega) j (by omega)).2
        omega
      · rcases Nat.lt_or_ge i j with h10 | h10
        · exact hjok i h10
        · rw [show i = j by omega]
          exact ⟨by omega, by omega⟩
    · refine ⟨by omega, .inl ⟨rows.toNat - (r + 1), by omega, r + 1, rfl, by omega, fun i hi => ?_, by omega⟩⟩
      rcases Nat.lt_or_ge i r with h10 | h10
      · exact hok i h10
      · rw [show i = r by omega]
        exact fun k hk => hjok k (by omega)
  · have : mayP rows width st cs := ⟨h0, h1, h2, h3, h4, h5, fun i hi => hok i (by omega)⟩
    rw [decide_eq_true this]; exact .pure _ rfl
end Go.Proofs.YtgdlkhgfehclpaaGreat
end

section
/- Search in a row, find, Has. No condition. -/
namespace Go.Proofs.YtgdlkhgfehclpaaGreat
open Go Go.AL
set_option linter.unusedVariables false
set_option linter.unusedSimpArgs false
def bp (c : Int) : List Int → Nat
  | [] => 0
  | x :: l => if x < c then bp c l + 1 else 0
theorem bp_eq {c : Int} : ∀ (l : List Int) (i : Nat), (∀ k, k < i → l.getD k default < c) → i ≤ l.length → (i < l.length → c ≤ l.getD i default) → bp c l = i
  | [], i, _, h, _ => by simp at h; simp [bp, h]
  | x :: l, 0, h0, h1, h2 => by
    have := h2 (by simp)
    simp at this
    simp only [bp]
    rw [if_neg (by omega)]
  | x :: l, i + 1, h0, h1, h2 => by
    have h3 := h0 0 (by omega)
    simp at h3
    simp only [bp]
    rw [if_pos h3, bp_eq l i (fun k hk => by have := h0 (k + 1) (by omega); simpa using this) (by simpa using h1) (fun hi => by have := h2 (by simpa using hi); simpa using this)]
theorem row_mono {w : Int} {l : List Int} (h : rowOK w l) : ∀ (d i : Nat), i + d < l.length → l.getD i default ≤ l.getD (i + d) default
  | 0, i, _ => Int.le_refl _
  | d + 1, i, hi => by
    have h1 := row_mono h d i (by omega)
    have h2 := (h (i + d + 1) (by omega)).1
    simp only [prv] at h2
    rw [if_neg (by omega), show i + d + 1 - 1 = i + d by omega] at h2
    rw [show i + (d + 1) = i + d + 1 by omega]
    omega
theorem row_lt {w : Int} {l : List Int} (h : rowOK w l) {i j : Nat} (hij : i < j) (hj : j < l.length) : l.getD i default < l.getD j default := by
  have h1 := row_mono h (j - 1 - i) i (by omega)
  rw [show i + (j - 1 - i) = j - 1 by omega] at h1
  have h2 := (h j hj).1
  simp only [prv] at h2
  rw [if_neg (by omega)] at h2
  omega
theorem row_nonneg {w : Int} {l : List Int} (h : rowOK w l) {i : Nat} (hi : i < l.length) : 0 ≤ l.getD i default := by
  have h1 := row_mono h i 0 (by omega)
  have h2 := (h 0 (by omega)).1
  simp only [prv, if_pos] at h2
  rw [show 0 + i = i by omega] at h1
  omega
theorem mem_getD {l : List Int} {c : Int} : c ∈ l ↔ ∃ i, i < l.length ∧ l.getD i default = c := by
  constructor
  · intro h
    obtain ⟨i, hi, e⟩ := List.getElem_of_mem h
    exact ⟨i, hi, by simp [List.getD_eq_getElem?_getD, List.getElem?_eq_getElem hi, e]⟩
  · rintro ⟨i, hi, e⟩
    simp [List.getD_eq_getElem?_getD, List.getElem?_eq_getElem hi] at e
    rw [← e]
    exact List.getElem_mem hi
set_option maxRecDepth 100000 in
theorem search_c (w : Int) (l : List Int) (c : Int) (hb : l.length < 1000000000) (h : rowOK w l) : APure Tryz.prog 98 [ints l, .int .i64 c] (.tup [.int .i64 (bp c l), .bool (decide (c ∈ l))]) := by
  refine apure_of (wp98 rfl rfl ?_)
  simp (maxSteps := 4000000) +contextual only [↓packA, ↓reduceIte, packB, pureOp, quietOp, loadOp, quietB, fr0, cellsK, implies_true, ite_true, ite_false, eq_self, ne_eq, reduceCtorEq, Nat.reduceLT, Nat.reduceLeDiff, Nat.reduceAdd, Nat.reduceMul, Nat.reduceBEq, Nat.reduceEqDiff, Int.reduceToNat, Int.reduceLT, Int.reduceLE, Nat.reduceSub, pl98, ft3, ft22, ft168, ints]
  refine LoopK.intro (fun m a h => ∃ i j : Nat, m = j - i ∧ i ≤ j ∧ j ≤ l.length ∧ (∀ k, k < i → l.getD k default < c) ∧ (∀ k, j ≤ k → k < l.length → c ≤ l.getD k default) ∧ a 0 = ints l ∧ a 1 = .int .i64 c ∧ a 6 = .int .i64 l.length ∧ a 7 = .int .i64 i ∧ a 8 = .int .i64 j ∧ h = []) l.length ⟨0, l.length, rfl, by omega, by omega, fun k hk => by omega, fun k h1 h2 => by omega, ?_⟩ ?_
  · simp (maxSteps := 4000000) +contextual only [↓packA, ↓reduceIte, packB, pureOp, quietOp, loadOp, quietB, fr0, cellsK, implies_true, ite_true, ite_false, eq_self, ne_eq, reduceCtorEq, Nat.reduceLT, Nat.reduceLeDiff, Nat.reduceAdd, Nat.reduceMul, Nat.reduceBEq, Nat.reduceEqDiff, Int.reduceToNat, Int.reduceLT, Int.reduceLE, Nat.reduceSub, pl98, ft3, ft22, ft168, ints, Int.natCast_zero]
  rintro m a h1 ⟨i, j, rfl, hij, hj, hlo, hhi, a0, a1, a6, a7, a8, rfl⟩
  have hm : (IntKind.u64.wrap ((i : Int) + (j : Int))).fdiv (2 ^ min 1 IntKind.u64.bits) = (((i + j) / 2 : Nat) : Int) := by
    have e : IntKind.u64.wrap ((i : Int) + (j : Int)) = (i : Int) + j := by
      simp [IntKind.wrap, IntKind.bits, IntKind.signed]
      omega
    rw [e, show (2 : Int) ^ min 1 IntKind.u64.bits = 2 from rfl, Int.fdiv_eq_ediv_of_nonneg _ (by omega)]
    omega
  simp (maxSteps := 4000000) +contextual only [↓packA, ↓reduceIte, packB, pureOp, quietOp, loadOp, quietB, fr0, cellsK, implies_true, ite_true, ite_false, eq_self, ne_eq, reduceCtorEq, Nat.reduceLT, Nat.reduceLeDiff, Nat.reduceAdd, Nat.reduceMul, Nat.reduceBEq, Nat.reduceEqDiff, Int.reduceToNat, Int.reduceLT, Int.reduceLE, Nat.reduceSub, pl98, ft3, ft22, ft168, ints, a0, a1, a6, a7, a8, hm]
  refine ⟨fun h2 => ⟨by omega, by omega, by omega, by omega, acalls_pure (less_c _ _) rfl ?_⟩, fun h2 => ?_⟩
  · simp (maxSteps := 4000000) +contextual only [↓packA, ↓reduceIte, packB, pureOp, quietOp, loadOp, quietB, fr0, cellsK, implies_true, ite_true, ite_false, eq_self, ne_eq, reduceCtorEq, Nat.reduceLT, Nat.reduceLeDiff, Nat.reduceAdd, Nat.reduceMul, Nat.reduceBEq, Nat.reduceEqDiff, Int.reduceToNat, Int.reduceLT, Int.reduceLE, Nat.reduceSub, pl98, ft3, ft22, ft168, ints, a0, a1, a6, a7, a8, hm]
    refine ⟨fun h3 => ⟨by omega, .inl ⟨j - ((i + j) / 2 + 1), by omega, (i + j) / 2 + 1, j, by omega, by omega, hj, fun k hk => ?_, hhi, by omega, rfl⟩⟩, fun h3 => .inl ⟨(i + j) / 2 - i, by omega, i, (i + j) / 2, by omega, by omega, by omega, hlo, fun k hk1 hk2 => ?_, by omega, rfl⟩⟩
    · rcases Nat.lt_or_ge k ((i + j) / 2) with h4 | h4
      · have := row_lt h h4 (by omega)
        omega
      · rw [show k = (i + j) / 2 by omega]; exact h3
    · have := row_mono h (k - (i + j) / 2) ((i + j) / 2) (by omega)
      rw [show (i + j) / 2 + (k - (i + j) / 2) = k by omega] at this
      omega
  · obtain rfl : i = j := by omega
    have hbp : bp c l = i := bp_eq l i hlo hj (fun hi => hhi i (Nat.le_refl _) hi)
    have hmem : c ∈ l ↔ i < l.length ∧ l.getD i default = c := by
      rw [mem_getD]
      constructor
      · rintro ⟨k, hk, e⟩
        rcases Nat.lt_trichotomy k i with h4 | h4 | h4
        · have := hlo k h4
          omega
        · subst h4; exact ⟨hk, e⟩
        · have h5 := hhi i (Nat.le_refl _) (by omega)
          have h6 := row_lt h h4 hk
          omega
      · rintro ⟨h1, h2⟩; exact ⟨i, h1, h2⟩
    rw [hbp]
    refine ⟨fun h3 => ⟨by omega, by omega, fun h4 => ?_, fun h4 => ⟨by omega, by omega, acalls_pure (nan2_c _) rfl ?_⟩⟩, fun h3 => ?_⟩
    · rw [decide_eq_true (hmem.2 ⟨by omega, h4⟩)]; exact .pure _ rfl
    · simp (maxSteps := 4000000) +contextual only [↓packA, ↓reduceIte, packB, pureOp, quietOp, loadOp, quietB, fr0, cellsK, implies_true, ite_true, ite_false, eq_self, ne_eq, reduceCtorEq, Nat.reduceLT, Nat.reduceLeDiff, Nat.reduceAdd, Nat.reduceMul, Nat.reduceBEq, Nat.reduceEqDiff, Int.reduceToNat, Int.reduceLT, Int.reduceLE, Nat.reduceSub, pl98, ft3, ft22, ft168, ints, a0, a1, a6, a7, a8, h3, h4]
      rw [decide_eq_false (fun hc => h4 (hmem.1 hc).2)]; exact .pure _ rfl
    · rw [decide_eq_false (fun hc => h3 (by have := (hmem.1 hc).1; omega))]; exact .pure _ rfl
/-- What find answers. -/
theorem may_row {rows width : Int} {st cs : List Int} (h : mayP rows width st cs) {r : Nat} (hr : r < rows.toNat) : 0 ≤ st.getD r default ∧ st.getD r default ≤ st.getD (r + 1) default ∧ st.getD (r + 1) default ≤ cs.length ∧ rowOK width (rowOf st cs r) ∧ (rowOf st cs r).length = (st.getD (r + 1) default).toNat - (st.getD r default).toNat ∧ r + 1 < st.length ∧ rows ≤ 128 := by
  have h1 := row_bounds h.1.1 h.2.2.1 h.2.2.2.1 h.2.2.2.2.1 h.2.2.2.2.2.1 hr
  have h2 := h.2.2.1
  have h3 := h.1.2
  exact ⟨h1.1, h1.2.1, h1.2.2, h.2.2.2.2.2.2 r hr, rowOf_length h1.1 h1.2.1 h1.2.2, by omega, h3⟩
theorem row_isl {st cs : List Int} {r : Nat} : AV.isl 1 (((List.map intE cs).drop (st.getD r default).toNat).take ((st.getD (r + 1) default).toNat - (st.getD r default).toNat)) = ints (rowOf st cs r) := by simp [ints, rowOf, List.map_take, List.map_drop]
set_option maxRecDepth 100000 in
theorem find_c (rows width : Int) (st cs : List Int) (hb : st.length < 1000000000) (hb2 : cs.length < 1000000000) (h : mayP rows width st cs) (r : Nat) (hr : r < rows.toNat) (c : Int) :
    APure Tryz.prog 82 [pat rows width st cs, .int .i64 r, .int .i64 c] (.tup [.int .i64 (st.getD r default + bp c (rowOf st cs r)), .bool (decide (c ∈ rowOf st cs r))]) := by
  obtain ⟨h1, h2, h3, h4, h5, h6, h7⟩ := may_row h hr
  have hbl : bp c (rowOf st cs r) ≤ (rowOf st cs r).length := by
    have : ∀ l : List Int, bp c l ≤ l.length := by
      intro l
      induction l with
      | nil => simp [bp]
      | cons x l ih => simp only [bp, List.length_cons]; split <;> omega
    exact this _
  refine apure_of (wp82 rfl rfl ?_)
  simp (maxSteps := 4000000) +contextual only [↓packA, ↓reduceIte, packB, pureOp, quietOp, loadOp, quietB, fr0, cellsK, implies_true, ite_true, ite_false, eq_self, ne_eq, reduceCtorEq, Nat.reduceLT, Nat.reduceLeDiff, Nat.reduceAdd, Nat.reduceMul, Nat.reduceBEq, Nat.reduceEqDiff, Int.reduceToNat, Int.reduceLT, Int.reduceLE, Nat.reduceSub, pl82, ft2, ft3, ft22, ft24, ints]
  refine ⟨fun h8 => ?_, fun h8 => ?_⟩
  · omega
  · refine ⟨fun h9 => absurd h9 (by omega), fun h9 => ⟨by omega, by omega, by omega, by omega, by omega, by omega, by omega, ⟨by omega, by omega⟩, ?_⟩⟩
    rw [row_isl]
    refine acalls_pure (search_c width _ c (by omega) h4) rfl ?_
    simp (maxSteps := 4000000) +contextual only [↓packA, ↓reduceIte, packB, pureOp, quietOp, loadOp, quietB, fr0, cellsK, implies_true, ite_true, ite_false, eq_self, ne_eq, reduceCtorEq, Nat.reduceLT, Nat.reduceLeDiff, Nat.reduceAdd, Nat.reduceMul, Nat.reduceBEq, Nat.reduceEqDiff, Int.reduceToNat, Int.reduceLT, Int.reduceLE, Nat.reduceSub, pl82, ft2, ft3, ft22, ft24, ints, row_isl]
    refine ⟨by omega, by omega, by omega, ?_⟩
    exact .pure _ rfl
set_option maxRecDepth 100000 in
theorem has_c (rows width : Int) (st cs : List Int) (hb : st.length < 1000000000) (hb2 : cs.length < 1000000000) (h : mayP rows width st cs) (r : Nat) (hr : r < rows.toNat) (c : Int) :
    APure Tryz.prog 52 [pat rows width st cs, .int .i64 r, .int .i64 c] (.bool (decide (c ∈ rowOf st cs r))) := by
  refine apure_of (wp52 rfl rfl ?_)
  simp (maxSteps := 4000000) +contextual only [↓packA, ↓reduceIte, packB, pureOp, quietOp, loadOp, quietB, fr0, cellsK, implies_true, ite_true, ite_false, eq_self, ne_eq, reduceCtorEq, Nat.reduceLT, Nat.reduceLeDiff, Nat.reduceAdd, Nat.reduceMul, Nat.reduceBEq, Nat.reduceEqDiff, Int.reduceToNat, Int.reduceLT, Int.reduceLE, Nat.reduceSub, pl52, ft3, ft4, ft22, ft24, ints]
  refine acalls_pure (may_c rows width st cs hb hb2) rfl ?_
  simp (maxSteps := 4000000) +contextual only [↓packA, ↓reduceIte, packB, pureOp, quietOp, loadOp, quietB, fr0, cellsK, implies_true, ite_true, ite_false, eq_self, ne_eq, reduceCtorEq, Nat.reduceLT, Nat.reduceLeDiff, Nat.reduceAdd, Nat.reduceMul, Nat.reduceBEq, Nat.reduceEqDiff, Int.reduceToNat, Int.reduceLT, Int.reduceLE, Nat.reduceSub, pl52, ft3, ft4, ft22, ft24, ints, h]
  refine acalls_pure (find_c rows width st cs hb hb2 h r hr c) rfl ?_
  simp (maxSteps := 4000000) +contextual only [↓packA, ↓reduceIte, packB, pureOp, quietOp, loadOp, quietB, fr0, cellsK, implies_true, ite_true, ite_false, eq_self, ne_eq, reduceCtorEq, Nat.reduceLT, Nat.reduceLeDiff, Nat.reduceAdd, Nat.reduceMul, Nat.reduceBEq, Nat.reduceEqDiff, Int.reduceToNat, Int.reduceLT, Int.reduceLE, Nat.reduceSub, pl52, ft3, ft4, ft22, ft24, ints, h]
  exact .pure _ rfl
theorem find_i (rows width : Int) (st cs : List Int) (hb : st.length < 1000000000) (hb2 : cs.length < 1000000000) (h : mayP rows width st cs) (r : Int) (h0 : 0 ≤ r) (hr : r < rows) (c : Int) :
    APure Tryz.prog 82 [pat rows width st cs, .int .i64 r, .int .i64 c] (.tup [.int .i64 (st.getD r.toNat default + bp c (rowOf st cs r.toNat)), .bool (decide (c ∈ rowOf st cs r.toNat))]) := by
  have := find_c rows width st cs hb hb2 h r.toNat (by omega) c
  rw [show ((r.toNat : Nat) : Int) = r by omega] at this
  exact this
theorem row_getD {rows width : Int} {st cs : List Int} (h : mayP rows width st cs) {r : Nat} (hr : r < rows.toNat) {j : Nat} (hj : j < (rowOf st cs r).length) : (rowOf st cs r).getD j default = cs.getD ((st.getD r default).toNat + j) default := by
  obtain ⟨h1, h2, h3, h4, h5, h6, h7⟩ := may_row h hr
  rw [h5] at hj
  simp only [List.getD_eq_getElem?_getD] at hj
  simp only [rowOf, List.getD_eq_getElem?_getD, List.getElem?_take, List.getElem?_drop]
  rw [if_pos hj]
end Go.Proofs.YtgdlkhgfehclpaaGreat
end

section
/- Symmetric and graph. No condition. -/
namespace Go.Proofs.YtgdlkhgfehclpaaGreat
open Go Go.AL
set_option linter.unusedVariables false
set_option linter.unusedSimpArgs false
def symRow (st cs : List Int) (r : Nat) : Prop := ∀ j, j < (rowOf st cs r).length → (r : Int) ∈ rowOf st cs ((rowOf st cs r).getD j default).toNat
instance (st cs : List Int) (r : Nat) : Decidable (symRow st cs r) := by unfold symRow; infer_instance
def symP (rows width : Int) (st cs : List Int) : Prop := mayP rows width st cs ∧ rows = width ∧ ∀ r, r < rows.toNat → symRow st cs r
instance (rows width : Int) (st cs : List Int) : Decidable (symP rows width st cs) := by unfold symP; infer_instance
abbrev patO (rows width : Int) (st cs : List Int) : Ob := Ob.arr 4 [[.int .i64 rows, .int .i64 width, ints st, ints cs]] true
set_option maxRecDepth 100000 in
theorem sym_c (rows width : Int) (st cs : List Int) (hb : st.length < 1000000000) (hb2 : cs.length < 1000000000) : APure Tryz.prog 51 [pat rows width st cs] (.bool (decide (symP rows width st cs))) := by
  have no : ∀ {h : Heap}, ¬ symP rows width st cs → Frz h (.bool false) (.bool (decide (symP rows width st cs))) := fun hc => by rw [decide_eq_false hc]; exact .pure _ rfl
  refine apure_of (wp51 rfl rfl ?_)
  simp (maxSteps := 4000000) +contextual only [↓packA, ↓reduceIte, packB, pureOp, quietOp, loadOp, quietB, fr0, cellsK, implies_true, ite_true, ite_false, eq_self, ne_eq, reduceCtorEq, Nat.reduceLT, Nat.reduceLeDiff, Nat.reduceAdd, Nat.reduceMul, Nat.reduceBEq, Nat.reduceEqDiff, Int.reduceToNat, Int.reduceLT, Int.reduceLE, Nat.reduceSub, pl51, ft1, ft3, ft4, ft22, ft24, ft150, ints]
  refine acalls_pure (may_c rows width st cs hb hb2) rfl ?_
  simp (maxSteps := 4000000) +contextual only [↓packA, ↓reduceIte, packB, pureOp, quietOp, loadOp, quietB, fr0, cellsK, implies_true, ite_true, ite_false, eq_self, ne_eq, reduceCtorEq, Nat.reduceLT, Nat.reduceLeDiff, Nat.reduceAdd, Nat.reduceMul, Nat.reduceBEq, Nat.reduceEqDiff, Int.reduceToNat, Int.reduceLT, Int.reduceLE, Nat.reduceSub, pl51, ft1, ft3, ft4, ft22, ft24, ft150, ints]
  refine ⟨fun h0 => ⟨fun h1 => no fun hc => h1 hc.2.1, fun h1 => ?_⟩, fun h0 => no fun hc => h0 hc.1⟩
  subst h1
  refine wp80 rfl rfl ?_
  simp (maxSteps := 4000000) +contextual only [↓packA, ↓reduceIte, packB, pureOp, quietOp, loadOp, quietB, fr0, cellsK, implies_true, ite_true, ite_false, eq_self, ne_eq, reduceCtorEq, Nat.reduceLT, Nat.reduceLeDiff, Nat.reduceAdd, Nat.reduceMul, Nat.reduceBEq, Nat.reduceEqDiff, Int.reduceToNat, Int.reduceLT, Int.reduceLE, Nat.reduceSub, pl80, ft2, ft3, ft22, ft24, pl51, ft1, ft4, ft150, patO, ints]
  refine LoopK.intro (fun m a h => ∃ (r : Nat) (b : Bool), m = rows.toNat - r ∧ r ≤ rows.toNat ∧ (b = true ↔ ∀ i, i < r → symRow st cs i) ∧ a 1 = .fn (.func 81) [] [.op 0 4 0 0, .op 1 1 0 0] ∧ a 2 = .op 2 4 0 0 ∧ a 7 = .int .i64 rows ∧ a 8 = .int .i64 r ∧ h = [patO rows rows st cs, Ob.arr 1 [[.bool b]] true, patO rows rows st cs]) rows.toNat ⟨0, true, rfl, Nat.zero_le _, by simp, ?_⟩ ?_
  · simp (maxSteps := 4000000) +contextual only [↓packA, ↓reduceIte, packB, pureOp, quietOp, loadOp, quietB, fr0, cellsK, implies_true, ite_true, ite_false, eq_self, ne_eq, reduceCtorEq, Nat.reduceLT, Nat.reduceLeDiff, Nat.reduceAdd, Nat.reduceMul, Nat.reduceBEq, Nat.reduceEqDiff, Int.reduceToNat, Int.reduceLT, Int.reduceLE, Nat.reduceSub, pl80, ft2, ft3, ft22, ft24, pl51, ft1, ft4, ft150, patO, ints, Int.natCast_zero]
  rintro m a h ⟨r, b, rfl, hr, hbr, a1, a2, a7, a8, rfl⟩
  simp (maxSteps := 4000000) +contextual only [↓packA, ↓reduceIte, packB, pureOp, quietOp, loadOp, quietB, fr0, cellsK, implies_true, ite_true, ite_false, eq_self, ne_eq, reduceCtorEq, Nat.reduceLT, Nat.reduceLeDiff, Nat.reduceAdd, Nat.reduceMul, Nat.reduceBEq, Nat.reduceEqDiff, Int.reduceToNat, Int.reduceLT, Int.reduceLE, Nat.reduceSub, pl80, ft2, ft3, ft22, ft24, pl51, ft1, ft4, ft150, patO, ints, a1, a2, a7, a8]
  refine ⟨fun h2 => ?_, fun h2 => ?_⟩
  · obtain ⟨q1, q2, q3, q4, q5, q6, q7⟩ := may_row h0 (show r < rows.toNat by omega)
    refine ⟨by omega, by omega, ?_⟩
    refine LoopK.intro (fun m a h => ∃ (j : Nat) (b : Bool), m = (rowOf st cs r).length - j ∧ j ≤ (rowOf st cs r).length ∧ (b = true ↔ (∀ i, i < r → symRow st cs i) ∧ ∀ i, i < j → (r : Int) ∈ rowOf st cs ((rowOf st cs r).getD i default).toNat) ∧ a 1 = .fn (.func 81) [] [.op 0 4 0 0, .op 1 1 0 0] ∧ a 2 = .op 2 4 0 0 ∧ a 4 = .int .i64 r ∧ a 5 = .int .i64 (((st.getD r default).toNat + j : Nat) : Int) ∧ a 7 = .int .i64 rows ∧ a 8 = .int .i64 r ∧ h = [patO rows rows st cs, Ob.arr 1 [[.bool b]] true, patO rows rows st cs]) (rowOf st cs r).length ⟨0, b, rfl, Nat.zero_le _, by simp [hbr], ?_⟩ ?_
    · simp (maxSteps := 4000000) +contextual only [↓packA, ↓reduceIte, packB, pureOp, quietOp, loadOp, quietB, fr0, cellsK, implies_true, ite_true, ite_false, eq_self, ne_eq, reduceCtorEq, Nat.reduceLT, Nat.reduceLeDiff, Nat.reduceAdd, Nat.reduceMul, Nat.reduceBEq, Nat.reduceEqDiff, Int.reduceToNat, Int.reduceLT, Int.reduceLE, Nat.reduceSub, pl80, ft2, ft3, ft22, ft24, pl51, ft1, ft4, ft150, patO, ints, a1, a2, a7, a8]
      omega
    rintro m a h ⟨j, b, rfl, hj, hbj, a1, a2, a4, a5, a7, a8, rfl⟩
    simp (maxSteps := 4000000) +contextual only [↓packA, ↓reduceIte, packB, pureOp, quietOp, loadOp, quietB, fr0, cellsK, implies_true, ite_true, ite_false, eq_self, ne_eq, reduceCtorEq, Nat.reduceLT, Nat.reduceLeDiff, Nat.reduceAdd, Nat.reduceMul, Nat.reduceBEq, Nat.reduceEqDiff, Int.reduceToNat, Int.reduceLT, Int.reduceLE, Nat.reduceSub, pl80, ft2, ft3, ft22, ft24, pl51, ft1, ft4, ft150, patO, ints, a1, a2, a4, a5, a7, a8]
    have hg : j < (rowOf st cs r).length → cs.getD ((st.getD r default).toNat + j) default = (rowOf st cs r).getD j default := fun hj => (row_getD h0 (by omega) hj).symm
    refine ⟨by omega, by omega, by omega, fun h3 => ⟨by omega, by omega, ?_⟩, fun h3 => ?_⟩
    · have hj2 : j < (rowOf st cs r).length := by omega
      have hn0 := row_nonneg q4 hj2
      have hn1 := (q4 j hj2).2
      rw [hg hj2]
      refine wp81 rfl rfl ?_
      simp (maxSteps := 4000000) +contextual only [↓packA, ↓reduceIte, packB, pureOp, quietOp, loadOp, quietB, fr0, cellsK, implies_true, ite_true, ite_false, eq_self, ne_eq, reduceCtorEq, Nat.reduceLT, Nat.reduceLeDiff, Nat.reduceAdd, Nat.reduceMul, Nat.reduceBEq, Nat.reduceEqDiff, Int.reduceToNat, Int.reduceLT, Int.reduceLE, Nat.reduceSub, pl81, ft3, ft4, ft22, ft24, pl80, ft2, pl51, ft1, ft150, patO, ints]
      refine acalls_pure (find_i rows rows st cs hb hb2 h0 _ hn0 hn1 r) rfl ?_
      simp (maxSteps := 4000000) +contextual only [↓packA, ↓reduceIte, packB, pureOp, quietOp, loadOp, quietB, fr0, cellsK, implies_true, ite_true, ite_false, eq_self, ne_eq, reduceCtorEq, Nat.reduceLT, Nat.reduceLeDiff, Nat.reduceAdd, Nat.reduceMul, Nat.reduceBEq, Nat.reduceEqDiff, Int.reduceToNat, Int.reduceLT, Int.reduceLE, Nat.reduceSub, pl81, ft3, ft4, ft22, ft24, pl80, ft2, pl51, ft1, ft150, patO, ints, a1, a2, a4, a5, a7, a8]
      cases b
      · simp (maxSteps := 4000000) +contextual only [↓packA, ↓reduceIte, packB, pureOp, quietOp, loadOp, quietB, fr0, cellsK, implies_true, ite_true, ite_false, eq_self, ne_eq, reduceCtorEq, Nat.reduceLT, Nat.reduceLeDiff, Nat.reduceAdd, Nat.reduceMul, Nat.reduceBEq, Nat.reduceEqDiff, Int.reduceToNat, Int.reduceLT, Int.reduceLE, Nat.reduceSub, pl81, ft3, ft4, ft22, ft24, pl80, ft2, pl51, ft1, ft150, patO, ints, a1, a2, a4, a5, a7, a8]
        refine ⟨by omega, .inl ⟨(rowOf st cs r).length - (j + 1), by omega, j + 1, false, rfl, by omega, ?_, by omega, rfl⟩⟩
        constructor
        · intro hc; cases hc
        · intro hc; exact hbj.2 ⟨hc.1, fun i hi => hc.2 i (by omega)⟩
      · simp (maxSteps := 4000000) +contextual only [↓packA, ↓reduceIte, packB, pureOp, quietOp, loadOp, quietB, fr0, cellsK, implies_true, ite_true, ite_false, eq_self, ne_eq, reduceCtorEq, Nat.reduceLT, Nat.reduceLeDiff, Nat.reduceAdd, Nat.reduceMul, Nat.reduceBEq, Nat.reduceEqDiff, Int.reduceToNat, Int.reduceLT, Int.reduceLE, Nat.reduceSub, pl81, ft3, ft4, ft22, ft24, pl80, ft2, pl51, ft1, ft150, patO, ints, a1, a2, a4, a5, a7, a8]
        refine ⟨by omega, .inl ⟨(rowOf st cs r).length - (j + 1), by omega, j + 1, _, rfl, by omega, ?_, by omega, rfl⟩⟩
        rw [decide_eq_true_iff]
        constructor
        · intro hc
          refine ⟨(hbj.1 rfl).1, fun i hi => ?_⟩
          rcases Nat.lt_or_ge i j with h4 | h4
          · exact (hbj.1 rfl).2 i h4
          · rw [show i = j by omega]; exact hc
        · intro hc; exact hc.2 j (by omega)
    · have hjl : j = (rowOf st cs r).length := by omega
      subst hjl
      refine ⟨by omega, .inl ⟨rows.toNat - (r + 1), by omega, r + 1, b, rfl, by omega, ?_, by omega, rfl⟩⟩
      rw [hbj]
      constructor
      · rintro ⟨h4, h5⟩ i hi
        rcases Nat.lt_or_ge i r with h6 | h6
        · exact h4 i h6
        · rw [show i = r by omega]; exact h5
      · intro h4; exact ⟨fun i hi => h4 i (by omega), h4 r (by omega)⟩
  · have hrr : r = rows.toNat := by omega
    subst hrr
    have : decide (symP rows rows st cs) = b := by
      cases b
      · refine decide_eq_false fun hc => ?_
        have := hbr.2 hc.2.2
        cases this
      · exact decide_eq_true ⟨h0, rfl, hbr.1 rfl⟩
    rw [this]
    exact .pure _ rfl
end Go.Proofs.YtgdlkhgfehclpaaGreat
end

section
/- What a graph is, both. No condition. -/
namespace Go.Proofs.YtgdlkhgfehclpaaGreat
open Go Go.AL
set_option linter.unusedVariables false
set_option linter.unusedSimpArgs false
def graphP (rows width : Int) (st cs : List Int) : Prop := symP rows width st cs ∧ ∀ v, v < rows.toNat → ¬ (v : Int) ∈ rowOf st cs v
instance (rows width : Int) (st cs : List Int) : Decidable (graphP rows width st cs) := by unfold graphP; infer_instance
set_option maxRecDepth 100000 in
theorem graph_c (rows width : Int) (st cs : List Int) (hb : st.length < 1000000000) (hb2 : cs.length < 1000000000) : APure Tryz.prog 19 [pat rows width st cs] (.bool (decide (graphP rows width st cs))) := by
  have no : ∀ {h : Heap}, ¬ graphP rows width st cs → Frz h (.bool false) (.bool (decide (graphP rows width st cs))) := fun hc => by rw [decide_eq_false hc]; exact .pure _ rfl
  refine apure_of (wp19 rfl rfl ?_)
  simp (maxSteps := 4000000) +contextual only [↓packA, ↓reduceIte, packB, pureOp, quietOp, loadOp, quietB, fr0, cellsK, implies_true, ite_true, ite_false, eq_self, ne_eq, reduceCtorEq, Nat.reduceLT, Nat.reduceLeDiff, Nat.reduceAdd, Nat.reduceMul, Nat.reduceBEq, Nat.reduceEqDiff, Int.reduceToNat, Int.reduceLT, Int.reduceLE, Nat.reduceSub, pl19, ft3, ft4, ft22, ft24, ints]
  refine acalls_pure (may_c rows width st cs hb hb2) rfl ?_
  simp (maxSteps := 4000000) +contextual only [↓packA, ↓reduceIte, packB, pureOp, quietOp, loadOp, quietB, fr0, cellsK, implies_true, ite_true, ite_false, eq_self, ne_eq, reduceCtorEq, Nat.reduceLT, Nat.reduceLeDiff, Nat.reduceAdd, Nat.reduceMul, Nat.reduceBEq, Nat.reduceEqDiff, Int.reduceToNat, Int.reduceLT, Int.reduceLE, Nat.reduceSub, pl19, ft3, ft4, ft22, ft24, ints]
  refine ⟨fun h0 => ?_, fun h0 => no fun hc => h0 hc.1.1⟩
  refine acalls_pure (sym_c rows width st cs hb hb2) rfl ?_
  simp (maxSteps := 4000000) +contextual only [↓packA, ↓reduceIte, packB, pureOp, quietOp, loadOp, quietB, fr0, cellsK, implies_true, ite_true, ite_false, eq_self, ne_eq, reduceCtorEq, Nat.reduceLT, Nat.reduceLeDiff, Nat.reduceAdd, Nat.reduceMul, Nat.reduceBEq, Nat.reduceEqDiff, Int.reduceToNat, Int.reduceLT, Int.reduceLE, Nat.reduceSub, pl19, ft3, ft4, ft22, ft24, ints, h0]
  refine ⟨fun h1 => ?_, fun h1 => no fun hc => h1 hc.1⟩
  refine LoopK.intro (fun m a h => ∃ (r : Nat), m = rows.toNat - r ∧ r ≤ rows.toNat ∧ (∀ i, i < r → ¬ (i : Int) ∈ rowOf st cs i) ∧ a 1 = .op 0 4 0 0 ∧ a 13 = .int .i64 rows ∧ a 14 = .int .i64 r ∧ h = [patO rows width st cs]) rows.toNat ⟨0, rfl, Nat.zero_le _, fun i hi => absurd hi (Nat.not_lt_zero _), ?_⟩ ?_
  · have := h1.2.1
    simp (maxSteps := 4000000) +contextual only [↓packA, ↓reduceIte, packB, pureOp, quietOp, loadOp, quietB, fr0, cellsK, implies_true, ite_true, ite_false, eq_self, ne_eq, reduceCtorEq, Nat.reduceLT, Nat.reduceLeDiff, Nat.reduceAdd, Nat.reduceMul, Nat.reduceBEq, Nat.reduceEqDiff, Int.reduceToNat, Int.reduceLT, Int.reduceLE, Nat.reduceSub, pl19, ft3, ft4, ft22, ft24, patO, ints, Int.natCast_zero]
  rintro m a h ⟨r, rfl, hr, hbr, a1, a13, a14, rfl⟩
  have hro := h0.1
  simp (maxSteps := 4000000) +contextual only [↓packA, ↓reduceIte, packB, pureOp, quietOp, loadOp, quietB, fr0, cellsK, implies_true, ite_true, ite_false, eq_self, ne_eq, reduceCtorEq, Nat.reduceLT, Nat.reduceLeDiff, Nat.reduceAdd, Nat.reduceMul, Nat.reduceBEq, Nat.reduceEqDiff, Int.reduceToNat, Int.reduceLT, Int.reduceLE, Nat.reduceSub, pl19, ft3, ft4, ft22, ft24, patO, ints, a1, a13, a14]
  refine ⟨fun h2 => ?_, fun h2 => ?_⟩
  · refine acalls_pure (has_c rows width st cs hb hb2 h0 r (by omega) r) rfl ?_
    simp (maxSteps := 4000000) +contextual only [↓packA, ↓reduceIte, packB, pureOp, quietOp, loadOp, quietB, fr0, cellsK, implies_true, ite_true, ite_false, eq_self, ne_eq, reduceCtorEq, Nat.reduceLT, Nat.reduceLeDiff, Nat.reduceAdd, Nat.reduceMul, Nat.reduceBEq, Nat.reduceEqDiff, Int.reduceToNat, Int.reduceLT, Int.reduceLE, Nat.reduceSub, pl19, ft3, ft4, ft22, ft24, patO, ints, a1, a13, a14]
    refine ⟨fun h3 => no fun hc => hc.2 r (by omega) h3, fun h3 => ⟨by omega, .inl ⟨rows.toNat - (r + 1), by omega, r + 1, rfl, by omega, fun i hi => ?_, by omega⟩⟩⟩
    rcases Nat.lt_or_ge i r with h6 | h6
    · exact hbr i h6
    · rw [show i = r by omega]; exact h3
  · rw [decide_eq_true (show graphP rows width st cs from ⟨h1, fun v hv => hbr v (by omega)⟩)]
    exact .pure _ rfl
set_option maxRecDepth 100000 in
theorem rhas_c (rows width : Int) (st cs : List Int) (hb : st.length < 1000000000) (hb2 : cs.length < 1000000000) (h : mayP rows width st cs) (r : Int) (h0 : 0 ≤ r) (h1 : r < rows) (c : Int) : APure Tryz.prog 48 [pat rows width st cs, .int .i64 r, .int .i64 c] (.bool (decide (c ∈ rowOf st cs r.toNat))) := by
  obtain ⟨q1, q2, q3, q4, q5, q6, q7⟩ := may_row h (show r.toNat < rows.toNat by omega)
  have hr1 : (r + 1).toNat = r.toNat + 1 := by omega
  refine apure_of (wp48 rfl rfl ?_)
  simp (maxSteps := 4000000) +contextual only [↓packA, ↓reduceIte, packB, pureOp, quietOp, loadOp, quietB, fr0, cellsK, implies_true, ite_true, ite_false, eq_self, ne_eq, reduceCtorEq, Nat.reduceLT, Nat.reduceLeDiff, Nat.reduceAdd, Nat.reduceMul, Nat.reduceBEq, Nat.reduceEqDiff, Int.reduceToNat, Int.reduceLT, Int.reduceLE, Nat.reduceSub, pl48, ft2, ft3, ft22, ft24, ints]
  refine ⟨by omega, by omega, LoopK.intro (fun m a hh => ∃ (j : Nat), m = (rowOf st cs r.toNat).length - j ∧ j ≤ (rowOf st cs r.toNat).length ∧ (∀ i, i < j → (rowOf st cs r.toNat).getD i default ≠ c) ∧ a 1 = .int .i64 r ∧ a 2 = .int .i64 c ∧ a 3 = .op 0 4 0 0 ∧ a 7 = .int .i64 (((st.getD r.toNat default).toNat + j : Nat) : Int) ∧ hh = [patO rows width st cs]) (rowOf st cs r.toNat).length ⟨0, rfl, Nat.zero_le _, fun i hi => absurd hi (Nat.not_lt_zero _), ?_⟩ ?_⟩
  · simp (maxSteps := 4000000) +contextual only [↓packA, ↓reduceIte, packB, pureOp, quietOp, loadOp, quietB, fr0, cellsK, implies_true, ite_true, ite_false, eq_self, ne_eq, reduceCtorEq, Nat.reduceLT, Nat.reduceLeDiff, Nat.reduceAdd, Nat.reduceMul, Nat.reduceBEq, Nat.reduceEqDiff, Int.reduceToNat, Int.reduceLT, Int.reduceLE, Nat.reduceSub, pl48, ft2, ft3, ft22, ft24, patO, ints, Int.natCast_zero]
    omega
  rintro m a hh ⟨j, rfl, hj, hok, a1, a2, a3, a7, rfl⟩
  simp (maxSteps := 4000000) +contextual only [↓packA, ↓reduceIte, packB, pureOp, quietOp, loadOp, quietB, fr0, cellsK, implies_true, ite_true, ite_false, eq_self, ne_eq, reduceCtorEq, Nat.reduceLT, Nat.reduceLeDiff, Nat.reduceAdd, Nat.reduceMul, Nat.reduceBEq, Nat.reduceEqDiff, Int.reduceToNat, Int.reduceLT, Int.reduceLE, Nat.reduceSub, pl48, ft2, ft3, ft22, ft24, patO, ints, a1, a2, a3, a7, hr1]
  refine ⟨by omega, by omega, by omega, fun h2 => ⟨by omega, by omega, fun h3 => ?_, fun h3 => ⟨by omega, .inl ⟨(rowOf st cs r.toNat).length - (j + 1), by omega, j + 1, rfl, by omega, fun i hi => ?_, by omega⟩⟩⟩, fun h2 => ?_⟩
  · have hj2 : j < (rowOf st cs r.toNat).length := by omega
    rw [decide_eq_true (mem_getD.2 ⟨j, hj2, by rw [row_getD h (by omega) hj2]; exact h3⟩)]
    exact .pure _ rfl
  · rcases Nat.lt_or_ge i j with h6 | h6
    · exact hok i h6
    · rw [show i = j by omega, row_getD h (by omega) (by omega)]; exact h3
  · rw [decide_eq_false (fun hc => by
      obtain ⟨i, hi, e⟩ := mem_getD.1 hc
      exact hok i (by omega) e)]
    exact .pure _ rfl
end Go.Proofs.YtgdlkhgfehclpaaGreat
end

section
/- What a pattern and a graph are, the document's. No condition. -/
namespace Go.Proofs.YtgdlkhgfehclpaaGreat
open Go Go.AL
set_option linter.unusedVariables false
set_option linter.unusedSimpArgs false
theorem row_get' {st cs : List Int} {r j : Nat} (hj : j < (st.getD (r + 1) default).toNat - (st.getD r default).toNat) : (rowOf st cs r).getD j default = cs.getD ((st.getD r default).toNat + j) default := by
  simp only [List.getD_eq_getElem?_getD] at hj
  simp only [rowOf, List.getD_eq_getElem?_getD, List.getElem?_take, List.getElem?_drop]
  rw [if_pos hj]
set_option maxHeartbeats 4000000 in
set_option maxRecDepth 100000 in
theorem rmay_c (rows width : Int) (st cs : List Int) (hb : st.length < 1000000000) (hb2 : cs.length < 1000000000) : APure Tryz.prog 77 [pat rows width st cs] (.bool (decide (mayP rows width st cs))) := by
  have no : ∀ {h : Heap}, ¬ mayP rows width st cs → Frz h (.bool false) (.bool (decide (mayP rows width st cs))) := fun hc => by rw [decide_eq_false hc]; exact .pure _ rfl
  refine apure_of (wp77 rfl rfl ?_)
  simp (maxSteps := 4000000) +contextual only [↓packA, ↓reduceIte, packB, pureOp, quietOp, loadOp, quietB, fr0, cellsK, implies_true, ite_true, ite_false, eq_self, ne_eq, reduceCtorEq, Nat.reduceLT, Nat.reduceLeDiff, Nat.reduceAdd, Nat.reduceMul, Nat.reduceBEq, Nat.reduceEqDiff, Int.reduceToNat, Int.reduceLT, Int.reduceLE, Nat.reduceSub, pl77, ft1, ft2, ft3, ft22, ft24, ints]
  refine ⟨fun g0 => no fun hc => by have := hc.1; omega, fun g0 => ⟨fun g1 => no fun hc => by have := hc.1; omega, fun g1 => ⟨fun g2 => no fun hc => by have := hc.2.1; omega, fun g2 => ⟨fun g3 => no fun hc => by have := hc.2.1; omega, fun g3 => ⟨by omega, fun h2 => no fun hc => h2 hc.2.2.1, fun h2 => ⟨by omega, fun h3 => no fun hc => h3 hc.2.2.2.1, fun h3 => ⟨by omega, by omega, fun h4 => no fun hc => h4 hc.2.2.2.2.1, fun h4 => ?_⟩⟩⟩⟩⟩⟩⟩
  refine LoopK.intro (fun m a h => ∃ r : Nat, m = rows.toNat - r ∧ r ≤ rows.toNat ∧ 0 ≤ st.getD r default ∧ (∀ i, i < r → st.getD i default ≤ st.getD (i + 1) default ∧ rowOK width (rowOf st cs i)) ∧ a 1 = .op 0 4 0 0 ∧ a 3 = .int .i64 r ∧ h = [patO rows width st cs]) rows.toNat ⟨0, rfl, Nat.zero_le _, by omega, fun i h => absurd h (Nat.not_lt_zero _), ?_⟩ ?_
  · simp (maxSteps := 4000000) +contextual only [↓packA, ↓reduceIte, packB, pureOp, quietOp, loadOp, quietB, fr0, cellsK, implies_true, ite_true, ite_false, eq_self, ne_eq, reduceCtorEq, Nat.reduceLT, Nat.reduceLeDiff, Nat.reduceAdd, Nat.reduceMul, Nat.reduceBEq, Nat.reduceEqDiff, Int.reduceToNat, Int.reduceLT, Int.reduceLE, Nat.reduceSub, pl77, ft1, ft2, ft3, ft22, ft24, patO, ints, Int.natCast_zero]
  rintro m a h ⟨r, rfl, hr, hst, hok, a1, a3, rfl⟩
  have hr1 : ((r : Int) + 1).toNat = r + 1 := by omega
  simp (maxSteps := 4000000) +contextual only [↓packA, ↓reduceIte, packB, pureOp, quietOp, loadOp, quietB, fr0, cellsK, implies_true, ite_true, ite_false, eq_self, ne_eq, reduceCtorEq, Nat.reduceLT, Nat.reduceLeDiff, Nat.reduceAdd, Nat.reduceMul, Nat.reduceBEq, Nat.reduceEqDiff, Int.reduceToNat, Int.reduceLT, Int.reduceLE, Nat.reduceSub, pl77, ft1, ft2, ft3, ft22, ft24, patO, ints, a1, a3, hr1]
  refine ⟨fun h6 => ⟨by omega, by omega, by omega, by omega, by omega, fun h7 => no fun hc => ?_, fun h7 => ⟨by omega, by omega, by omega, fun h8 => no fun hc => ?_, fun h8 => ⟨by omega, by omega, ?_⟩⟩⟩, fun h6 => ?_⟩
  · have := hc.2.2.2.2.2.1 r (by omega)
    omega
  · have := (may_row hc (show r < rows.toNat by omega)).2.2.1
    omega
  · have hrl := rowOf_length (cs := cs) hst (by omega) (by omega)
    have hg : ∀ j, j < (rowOf st cs r).length → cs.getD ((st.getD r default).toNat + j) default = (rowOf st cs r).getD j default := fun j hj => (row_get' (by omega)).symm
    refine LoopK.intro (fun m a h => ∃ j : Nat, m = (rowOf st cs r).length - j ∧ j ≤ (rowOf st cs r).length ∧ (∀ i, i < j → prv (rowOf st cs r) i < (rowOf st cs r).getD i default ∧ (rowOf st cs r).getD i default < width) ∧ a 1 = .op 0 4 0 0 ∧ a 3 = .int .i64 r ∧ a 4 = .int .i64 (((st.getD r default).toNat + j : Nat) : Int) ∧ h = [patO rows width st cs]) (rowOf st cs r).length ⟨0, rfl, Nat.zero_le _, fun i h => absurd h (Nat.not_lt_zero _), ?_⟩ ?_
    · simp (maxSteps := 4000000) +contextual only [↓packA, ↓reduceIte, packB, pureOp, quietOp, loadOp, quietB, fr0, cellsK, implies_true, ite_true, ite_false, eq_self, ne_eq, reduceCtorEq, Nat.reduceLT, Nat.reduceLeDiff, Nat.reduceAdd, Nat.reduceMul, Nat.reduceBEq, Nat.reduceEqDiff, Int.reduceToNat, Int.reduceLT, Int.reduceLE, Nat.reduceSub, pl77, ft1, ft2, ft3, ft22, ft24, patO, ints, Int.natCast_zero, a1, a3]
      omega
    rintro m a h ⟨j, rfl, hj, hjok, a1, a3, a4, rfl⟩
    simp (maxSteps := 4000000) +contextual only [↓packA, ↓reduceIte, packB, pureOp, quietOp, loadOp, quietB, fr0, cellsK, implies_true, ite_true, ite_false, eq_self, ne_eq, reduceCtorEq, Nat.reduceLT, Nat.reduceLeDiff, Nat.reduceAdd, Nat.reduceMul, Nat.reduceBEq, Nat.reduceEqDiff, Int.reduceToNat, Int.reduceLT, Int.reduceLE, Nat.reduceSub, pl77, ft1, ft2, ft3, ft22, ft24, patO, ints, a1, a3, a4, hr1]
    have fin : prv (rowOf st cs r) j < (rowOf st cs r).getD j default → (rowOf st cs r).getD j default < width → ∀ i, i < j + 1 → prv (rowOf st cs r) i < (rowOf st cs r).getD i default ∧ (rowOf st cs r).getD i default < width := fun h9 h10 i hi => by
      rcases Nat.lt_or_ge i j with h11 | h11
      · exact hjok i h11
      · rw [show i = j by omega]; exact ⟨h9, h10⟩
    refine ⟨by omega, by omega, by omega, fun h9 => ?_, fun h9 => ?_⟩
    · have hj2 : j < (rowOf st cs r).length := by omega
      rw [hg j hj2]
      refine ⟨by omega, by omega, fun h10 => no fun hc => ?_, fun h10 => ⟨by omega, by omega, fun h11 => no fun hc => ?_, fun h11 => ⟨by omega, by omega, fun h12 => ?_, fun h12 => ?_⟩⟩⟩
      · have := row_nonneg (may_row hc (show r < rows.toNat by omega)).2.2.2.1 hj2
        omega
      · have := ((may_row hc (show r < rows.toNat by omega)).2.2.2.1 j hj2).2
        omega
      · have hp : cs.getD ((((st.getD r default).toNat + j : Nat) : Int) - 1).toNat default = prv (rowOf st cs r) j := by
          rw [show ((((st.getD r default).toNat + j : Nat) : Int) - 1).toNat = (st.getD r default).toNat + (j - 1) by omega, hg (j - 1) (by omega)]
          simp only [prv]
          rw [if_neg (by omega)]
        rw [hp]
        refine ⟨by omega, by omega, by omega, by omega, by omega, fun h13 => no fun hc => ?_, fun h13 => ⟨by omega, .inl ⟨(rowOf st cs r).length - (j + 1), by omega, j + 1, rfl, by omega, fin (by omega) (by omega), by omega⟩⟩⟩
        have := ((may_row hc (show r < rows.toNat by omega)).2.2.2.1 j hj2).1
        omega
      · obtain rfl : j = 0 := by omega
        refine ⟨by omega, .inl ⟨(rowOf st cs r).length - 1, by omega, 1, rfl, by omega, fin ?_ (by omega), by omega⟩⟩
        simp only [prv, if_pos]
        omega
    · have hjl : j = (rowOf st cs r).length := by omega
      subst hjl
      refine ⟨by omega, .inl ⟨rows.toNat - (r + 1), by omega, r + 1, rfl, by omega, by omega, fun i hi => ?_, by omega⟩⟩
      rcases Nat.lt_or_ge i r with h11 | h11
      · exact hok i h11
      · rw [show i = r by omega]; exact ⟨by omega, hjok⟩
  · have hs : srt st := fun i hi => (hok i (by omega)).1
    rw [decide_eq_true (show mayP rows width st cs from ⟨by omega, by omega, h2, h3, h4, hs, fun i hi => (hok i (by omega)).2⟩)]
    exact .pure _ rfl
end Go.Proofs.YtgdlkhgfehclpaaGreat
end

section
/- What a graph is, the document's. No condition. -/
namespace Go.Proofs.YtgdlkhgfehclpaaGreat
open Go Go.AL
set_option linter.unusedVariables false
set_option linter.unusedSimpArgs false
set_option maxHeartbeats 4000000 in
set_option maxRecDepth 100000 in
theorem rgraph_c (rows width : Int) (st cs : List Int) (hb : st.length < 1000000000) (hb2 : cs.length < 1000000000) : APure Tryz.prog 47 [pat rows width st cs] (.bool (decide (graphP rows width st cs))) := by
  have no : ∀ {h : Heap}, ¬ graphP rows width st cs → Frz h (.bool false) (.bool (decide (graphP rows width st cs))) := fun hc => by rw [decide_eq_false hc]; exact .pure _ rfl
  refine apure_of (wp47 rfl rfl ?_)
  simp (maxSteps := 4000000) +contextual only [↓packA, ↓reduceIte, packB, pureOp, quietOp, loadOp, quietB, fr0, cellsK, implies_true, ite_true, ite_false, eq_self, ne_eq, reduceCtorEq, Nat.reduceLT, Nat.reduceLeDiff, Nat.reduceAdd, Nat.reduceMul, Nat.reduceBEq, Nat.reduceEqDiff, Int.reduceToNat, Int.reduceLT, Int.reduceLE, Nat.reduceSub, pl47, ft1, ft2, ft3, ft4, ft22, ft24, ints]
  refine acalls_pure (rmay_c rows width st cs hb hb2) rfl ?_
  simp (maxSteps := 4000000) +contextual only [↓packA, ↓reduceIte, packB, pureOp, quietOp, loadOp, quietB, fr0, cellsK, implies_true, ite_true, ite_false, eq_self, ne_eq, reduceCtorEq, Nat.reduceLT, Nat.reduceLeDiff, Nat.reduceAdd, Nat.reduceMul, Nat.reduceBEq, Nat.reduceEqDiff, Int.reduceToNat, Int.reduceLT, Int.reduceLE, Nat.reduceSub, pl47, ft1, ft2, ft3, ft4, ft22, ft24, ints]
  refine ⟨fun h0 => ⟨fun h1 => no fun hc => h1 hc.1.2.1, fun h1 => ?_⟩, fun h0 => no fun hc => h0 hc.1.1⟩
  subst h1
  refine LoopK.intro (fun m a h => ∃ r : Nat, m = rows.toNat - r ∧ r ≤ rows.toNat ∧ (∀ i, i < r → symRow st cs i ∧ ¬ (i : Int) ∈ rowOf st cs i) ∧ a 1 = .op 0 4 0 0 ∧ a 3 = .int .i64 r ∧ h = [patO rows rows st cs]) rows.toNat ⟨0, rfl, Nat.zero_le _, fun i h => absurd h (Nat.not_lt_zero _), ?_⟩ ?_
  · simp (maxSteps := 4000000) +contextual only [↓packA, ↓reduceIte, packB, pureOp, quietOp, loadOp, quietB, fr0, cellsK, implies_true, ite_true, ite_false, eq_self, ne_eq, reduceCtorEq, Nat.reduceLT, Nat.reduceLeDiff, Nat.reduceAdd, Nat.reduceMul, Nat.reduceBEq, Nat.reduceEqDiff, Int.reduceToNat, Int.reduceLT, Int.reduceLE, Nat.reduceSub, pl47, ft1, ft2, ft3, ft4, ft22, ft24, patO, ints, Int.natCast_zero]
  rintro m a h ⟨r, rfl, hr, hok, a1, a3, rfl⟩
  have hr1 : ((r : Int) + 1).toNat = r + 1 := by omega
  simp (maxSteps := 4000000) +contextual only [↓packA, ↓reduceIte, packB, pureOp, quietOp, loadOp, quietB, fr0, cellsK, implies_true, ite_true, ite_false, eq_self, ne_eq, reduceCtorEq, Nat.reduceLT, Nat.reduceLeDiff, Nat.reduceAdd, Nat.reduceMul, Nat.reduceBEq, Nat.reduceEqDiff, Int.reduceToNat, Int.reduceLT, Int.reduceLE, Nat.reduceSub, pl47, ft1, ft2, ft3, ft4, ft22, ft24, patO, ints, a1, a3, hr1]
  refine ⟨fun h6 => ?_, fun h6 => ?_⟩
  · obtain ⟨q1, q2, q3, q4, q5, q6, q7⟩ := may_row h0 (show r < rows.toNat by omega)
    have hg : ∀ j, j < (rowOf st cs r).length → cs.getD ((st.getD r default).toNat + j) default = (rowOf st cs r).getD j default := fun j hj => (row_get' (by omega)).symm
    refine ⟨by omega, by omega, ?_⟩
    refine LoopK.intro (fun m a h => ∃ j : Nat, m = (rowOf st cs r).length - j ∧ j ≤ (rowOf st cs r).length ∧ (∀ i, i < j → (rowOf st cs r).getD i default ≠ r ∧ (r : Int) ∈ rowOf st cs ((rowOf st cs r).getD i default).toNat) ∧ a 1 = .op 0 4 0 0 ∧ a 3 = .int .i64 r ∧ a 4 = .int .i64 (((st.getD r default).toNat + j : Nat) : Int) ∧ h = [patO rows rows st cs]) (rowOf st cs r).length ⟨0, rfl, Nat.zero_le _, fun i h => absurd h (Nat.not_lt_zero _), ?_⟩ ?_
    · simp (maxSteps := 4000000) +contextual only [↓packA, ↓reduceIte, packB, pureOp, quietOp, loadOp, quietB, fr0, cellsK, implies_true, ite_true, ite_false, eq_self, ne_eq, reduceCtorEq, Nat.reduceLT, Nat.reduceLeDiff, Nat.reduceAdd, Nat.reduceMul, Nat.reduceBEq, Nat.reduceEqDiff, Int.reduceToNat, Int.reduceLT, Int.reduceLE, Nat.reduceSub, pl47, ft1, ft2, ft3, ft4, ft22, ft24, patO, ints, Int.natCast_zero, a1, a3]
      omega
    rintro m a h ⟨j, rfl, hj, hjok, a1, a3, a4, rfl⟩
    simp (maxSteps := 4000000) +contextual only [↓packA, ↓reduceIte, packB, pureOp, quietOp, loadOp, quietB, fr0, cellsK, implies_true, ite_true, ite_false, eq_self, ne_eq, reduceCtorEq, Nat.reduceLT, Nat.reduceLeDiff, Nat.reduceAdd, Nat.reduceMul, Nat.reduceBEq, Nat.reduceEqDiff, Int.reduceToNat, Int.reduceLT, Int.reduceLE, Nat.reduceSub, pl47, ft1, ft2, ft3, ft4, ft22, ft24, patO, ints, a1, a3, a4, hr1]
    refine ⟨by omega, by omega, by omega, fun h9 => ?_, fun h9 => ?_⟩
    · have hj2 : j < (rowOf st cs r).length := by omega
      rw [hg j hj2]
      refine ⟨by omega, by omega, fun h10 => no fun hc => hc.2 r (by omega) (mem_getD.2 ⟨j, hj2, h10⟩), fun h10 => ⟨by omega, by omega, ?_⟩⟩
      have hn0 := row_nonneg q4 hj2
      have hn1 := (q4 j hj2).2
      refine acalls_pure (rhas_c rows rows st cs hb hb2 h0 _ hn0 hn1 r) rfl ?_
      simp (maxSteps := 4000000) +contextual only [↓packA, ↓reduceIte, packB, pureOp, quietOp, loadOp, quietB, fr0, cellsK, implies_true, ite_true, ite_false, eq_self, ne_eq, reduceCtorEq, Nat.reduceLT, Nat.reduceLeDiff, Nat.reduceAdd, Nat.reduceMul, Nat.reduceBEq, Nat.reduceEqDiff, Int.reduceToNat, Int.reduceLT, Int.reduceLE, Nat.reduceSub, pl47, ft1, ft2, ft3, ft4, ft22, ft24, patO, ints, a1, a3, a4, hr1]
      refine ⟨fun h11 => absurd h11 h10, fun _ => ⟨fun h11 => ⟨by omega, .inl ⟨(rowOf st cs r).length - (j + 1), by omega, j + 1, rfl, by omega, fun i hi => ?_, by omega⟩⟩, fun h11 => no fun hc => h11 (hc.1.2.2 r (by omega) j hj2)⟩⟩
      rcases Nat.lt_or_ge i j with h12 | h12
      · exact hjok i h12
      · rw [show i = j by omega]; exact ⟨h10, h11⟩
    · have hjl : j = (rowOf st cs r).length := by omega
      subst hjl
      refine ⟨by omega, .inl ⟨rows.toNat - (r + 1), by omega, r + 1, rfl, by omega, fun i hi => ?_, by omega⟩⟩
      rcases Nat.lt_or_ge i r with h11 | h11
      · exact hok i h11
      · rw [show i = r by omega]
        refine ⟨fun j hj => (hjok j hj).2, fun hc => ?_⟩
        obtain ⟨i, hi, e⟩ := mem_getD.1 hc
        exact (hjok i hi).1 e
  · rw [decide_eq_true (show graphP rows rows st cs from ⟨⟨h0, rfl, fun i hi => (hok i (by omega)).1⟩, fun i hi => (hok i (by omega)).2⟩)]
    exact .pure _ rfl
end Go.Proofs.YtgdlkhgfehclpaaGreat
end

section
/- Neighbours, degree, comparison. No condition. -/
namespace Go.Proofs.YtgdlkhgfehclpaaGreat
open Go Go.AL
set_option linter.unusedVariables false
set_option linter.unusedSimpArgs false
theorem rowO_isl {st cs : List Int} {r : Nat} : AV.isl 1 (((List.map intE cs).drop (st.getD r default).toNat).take ((st.getD (r + 1) default).toNat - (st.getD r default).toNat)) = .isl 1 (List.map intE (rowOf st cs r)) := row_isl
theorem neigh_c (rows width : Int) (st cs : List Int) (hb : st.length < 1000000000) (hb2 : cs.length < 1000000000) (h : mayP rows width st cs) (r : Int) (h0 : 0 ≤ r) (hr : r < rows) :
    APure Tryz.prog 22 [pat rows width st cs, .int .i64 r] (ints (rowOf st cs r.toNat)) := by
  obtain ⟨q1, q2, q3, q4, q5, q6, q7⟩ := may_row h (show r.toNat < rows.toNat by omega)
  have hr1 : (r + 1).toNat = r.toNat + 1 := by omega
  refine apure_of (wp22 rfl rfl ?_)
  simp (maxSteps := 4000000) +contextual only [↓packA, ↓reduceIte, packB, pureOp, quietOp, loadOp, quietB, fr0, cellsK, implies_true, ite_true, ite_false, eq_self, ne_eq, reduceCtorEq, Nat.reduceLT, Nat.reduceLeDiff, Nat.reduceAdd, Nat.reduceMul, Nat.reduceBEq, Nat.reduceEqDiff, Int.reduceToNat, Int.reduceLT, Int.reduceLE, Nat.reduceSub, pl22, ft2, ft3, ft22, ft24, ints, hr1, rowO_isl]
  refine ⟨by omega, by omega, by omega, by omega, by omega, by omega, by omega, ⟨by omega, by omega⟩, ?_⟩
  exact .pure _ (by simp [AV.pure, intE])
theorem rneigh_c (rows width : Int) (st cs : List Int) (hb : st.length < 1000000000) (hb2 : cs.length < 1000000000) (h : mayP rows width st cs) (r : Int) (h0 : 0 ≤ r) (hr : r < rows) :
    APure Tryz.prog 101 [pat rows width st cs, .int .i64 r] (ints (rowOf st cs r.toNat)) := by
  obtain ⟨q1, q2, q3, q4, q5, q6, q7⟩ := may_row h (show r.toNat < rows.toNat by omega)
  have hr1 : (r + 1).toNat = r.toNat + 1 := by omega
  refine apure_of (wp101 rfl rfl ?_)
  simp (maxSteps := 4000000) +contextual only [↓packA, ↓reduceIte, packB, pureOp, quietOp, loadOp, quietB, fr0, cellsK, implies_true, ite_true, ite_false, eq_self, ne_eq, reduceCtorEq, Nat.reduceLT, Nat.reduceLeDiff, Nat.reduceAdd, Nat.reduceMul, Nat.reduceBEq, Nat.reduceEqDiff, Int.reduceToNat, Int.reduceLT, Int.reduceLE, Nat.reduceSub, pl101, ft2, ft3, ft22, ft24, ints, hr1, rowO_isl]
  refine ⟨by omega, by omega, by omega, by omega, by omega, by omega, by omega, ⟨by omega, by omega⟩, ?_⟩
  exact .pure _ (by simp [AV.pure, intE])
theorem degree_c (rows width : Int) (st cs : List Int) (hb : st.length < 1000000000) (hb2 : cs.length < 1000000000) (h : mayP rows width st cs) (r : Int) (h0 : 0 ≤ r) (hr : r < rows) :
    APure Tryz.prog 58 [pat rows width st cs, .int .i64 r] (.int .i64 (rowOf st cs r.toNat).length) := by
  refine apure_of (wp58 rfl rfl ?_)
  simp (maxSteps := 4000000) +contextual only [↓packA, ↓reduceIte, packB, pureOp, quietOp, loadOp, quietB, fr0, cellsK, implies_true, ite_true, ite_false, eq_self, ne_eq, reduceCtorEq, Nat.reduceLT, Nat.reduceLeDiff, Nat.reduceAdd, Nat.reduceMul, Nat.reduceBEq, Nat.reduceEqDiff, Int.reduceToNat, Int.reduceLT, Int.reduceLE, Nat.reduceSub, pl58, ft3, ft22, ft24, ints]
  refine acalls_pure (neigh_c rows width st cs hb hb2 h r h0 hr) rfl ?_
  simp (maxSteps := 4000000) +contextual only [↓packA, ↓reduceIte, packB, pureOp, quietOp, loadOp, quietB, fr0, cellsK, implies_true, ite_true, ite_false, eq_self, ne_eq, reduceCtorEq, Nat.reduceLT, Nat.reduceLeDiff, Nat.reduceAdd, Nat.reduceMul, Nat.reduceBEq, Nat.reduceEqDiff, Int.reduceToNat, Int.reduceLT, Int.reduceLE, Nat.reduceSub, pl58, ft3, ft22, ft24, ints]
  exact .pure _ rfl
def cmpI (a b : Int) : Int := if a < b then -1 else if b < a then 1 else 0
theorem cmp_c (a b : Int) : APure Tryz.prog 85 [.int .i64 a, .int .i64 b] (.int .i64 (cmpI a b)) := by
  refine apure_of (wp85 rfl rfl ?_)
  simp (maxSteps := 4000000) +contextual only [↓packA, ↓reduceIte, packB, pureOp, quietOp, loadOp, quietB, fr0, cellsK, implies_true, ite_true, ite_false, eq_self, ne_eq, reduceCtorEq, Nat.reduceLT, Nat.reduceLeDiff, Nat.reduceAdd, Nat.reduceMul, Nat.reduceBEq, Nat.reduceEqDiff, Int.reduceToNat, Int.reduceLT, Int.reduceLE, Nat.reduceSub, pl85, ft3, ints]
  refine acalls_pure (nan_c _) rfl ?_
  simp (maxSteps := 4000000) +contextual only [↓packA, ↓reduceIte, packB, pureOp, quietOp, loadOp, quietB, fr0, cellsK, implies_true, ite_true, ite_false, eq_self, ne_eq, reduceCtorEq, Nat.reduceLT, Nat.reduceLeDiff, Nat.reduceAdd, Nat.reduceMul, Nat.reduceBEq, Nat.reduceEqDiff, Int.reduceToNat, Int.reduceLT, Int.reduceLE, Nat.reduceSub, pl85, ft3, ints]
  refine acalls_pure (nan_c _) rfl ?_
  simp (maxSteps := 4000000) +contextual only [↓packA, ↓reduceIte, packB, pureOp, quietOp, loadOp, quietB, fr0, cellsK, implies_true, ite_true, ite_false, eq_self, ne_eq, reduceCtorEq, Nat.reduceLT, Nat.reduceLeDiff, Nat.reduceAdd, Nat.reduceMul, Nat.reduceBEq, Nat.reduceEqDiff, Int.reduceToNat, Int.reduceLT, Int.reduceLE, Nat.reduceSub, pl85, ft3, ints]
  refine ⟨fun h => ?_, fun h => ⟨fun h1 => ?_, fun h1 => ?_⟩⟩
  · simp only [cmpI, if_pos h]; exact .pure _ rfl
  · simp only [cmpI, if_neg h, if_pos h1]; exact .pure _ rfl
  · simp only [cmpI, if_neg h, if_neg h1]; exact .pure _ rfl
end Go.Proofs.YtgdlkhgfehclpaaGreat
end

section
/- The law's own graph of three vertices. No condition. -/
namespace Go.Proofs.YtgdlkhgfehclpaaGreat
open Go Go.AL
set_option linter.unusedVariables false
set_option linter.unusedSimpArgs false
set_option maxRecDepth 100000 in
theorem lcmp_c (rows width : Int) (st cs : List Int) (hb : st.length < 1000000000) (hb2 : cs.length < 1000000000) (hm : mayP rows width st cs) {a b : Int} (ha : 0 ≤ a ∧ a < rows) (hbb : 0 ≤ b ∧ b < rows) {id : Nat} {h : Heap} {ex : Bool} (hh : h[id]? = some (.arr 4 [[.int .i64 rows, .int .i64 width, ints st, ints cs]] ex)) {Q : AV → Heap → Prop}
    (hq : Q (.int .i64 (cmpI (rowOf st cs b.toNat).length (rowOf st cs a.toNat).length)) h) : ACalls Tryz.prog 84 [.int .i64 a, .int .i64 b, .op id 4 0 0] h Q := by
  unfold ints at hh
  refine wp84 rfl rfl ?_
  simp (maxSteps := 4000000) +contextual only [↓packA, ↓reduceIte, packB, pureOp, quietOp, loadOp, quietB, fr0, cellsK, implies_true, ite_true, ite_false, eq_self, ne_eq, reduceCtorEq, Nat.reduceLT, Nat.reduceLeDiff, Nat.reduceAdd, Nat.reduceMul, Nat.reduceBEq, Nat.reduceEqDiff, Int.reduceToNat, Int.reduceLT, Int.reduceLE, Nat.reduceSub, pl84, ft3, ft22, ft24, hh]
  refine acalls_pure (degree_c rows width st cs hb hb2 hm b hbb.1 hbb.2) rfl ?_
  simp (maxSteps := 4000000) +contextual only [↓packA, ↓reduceIte, packB, pureOp, quietOp, loadOp, quietB, fr0, cellsK, implies_true, ite_true, ite_false, eq_self, ne_eq, reduceCtorEq, Nat.reduceLT, Nat.reduceLeDiff, Nat.reduceAdd, Nat.reduceMul, Nat.reduceBEq, Nat.reduceEqDiff, Int.reduceToNat, Int.reduceLT, Int.reduceLE, Nat.reduceSub, pl84, ft3, ft22, ft24, hh]
  refine acalls_pure (degree_c rows width st cs hb hb2 hm a ha.1 ha.2) rfl ?_
  simp (maxSteps := 4000000) +contextual only [↓packA, ↓reduceIte, packB, pureOp, quietOp, loadOp, quietB, fr0, cellsK, implies_true, ite_true, ite_false, eq_self, ne_eq, reduceCtorEq, Nat.reduceLT, Nat.reduceLeDiff, Nat.reduceAdd, Nat.reduceMul, Nat.reduceBEq, Nat.reduceEqDiff, Int.reduceToNat, Int.reduceLT, Int.reduceLE, Nat.reduceSub, pl84, ft3, ft22, ft24, hh]
  refine acalls_pure (cmp_c _ _) rfl ?_
  simp (maxSteps := 4000000) +contextual only [↓packA, ↓reduceIte, packB, pureOp, quietOp, loadOp, quietB, fr0, cellsK, implies_true, ite_true, ite_false, eq_self, ne_eq, reduceCtorEq, Nat.reduceLT, Nat.reduceLeDiff, Nat.reduceAdd, Nat.reduceMul, Nat.reduceBEq, Nat.reduceEqDiff, Int.reduceToNat, Int.reduceLT, Int.reduceLE, Nat.reduceSub, pl84, ft3, ft22, ft24, hh]
  exact hq
theorem may_a : mayP 3 3 [0, 1, 3, 4] [1, 0, 2, 1] := by decide
theorem graph_a : graphP 3 3 [0, 1, 3, 4] [1, 0, 2, 1] := by decide
theorem fpl102 : fplaces Tryz.prog 66 = some [(0, 1), (1, 1), (2, 1), (3, 1), (4, 1), (5, 1)] := by kernel_rfl
theorem tagg99 : tagg Tryz.prog 63 = some false := by kernel_rfl
theorem tsize99 : tsize Tryz.prog 63 = some 1 := by kernel_rfl
end Go.Proofs.YtgdlkhgfehclpaaGreat
end

section
/- The greatest of a list, the first that fits, what is left. No condition. -/
namespace Go.Proofs.YtgdlkhgfehclpaaGreat
open Go Go.AL
set_option linter.unusedVariables false
set_option linter.unusedSimpArgs false
theorem minK_2 {g : Int → Int → Int} {x y : Int} {K : AV → Prop} : minK g [.int .i64 x, .int .i64 y] K = K (.int .i64 (g x y)) := by
  simp [minK, mins]
@[congr] theorem minK_cg {g g' : Int → Int → Int} {us us' : List AV} {K : AV → Prop} (e1 : mk us = us') (e2 : mk g = g') : minK g us K = minK g' us' K := by rw [← e1, ← e2]; rfl
theorem imax_eq {x y : Int} : imax x y = max x y := by unfold imax; omega
/-- The greatest of the first k (k > 0). -/
def maxK (l : List Int) : Nat → Int
  | 0 => l.getD 0 default
  | k + 1 => max (maxK l k) (l.getD (k + 1) default)
set_option maxRecDepth 100000 in
theorem max_c (l : List Int) (hb : l.length < 1000000000) (h0 : 0 < l.length) : APure Tryz.prog 59 [ints l] (.int .i64 (maxK l (l.length - 1))) := by
  refine apure_of (wp59 rfl rfl ?_)
  simp (maxSteps := 4000000) +contextual only [↓packA, ↓reduceIte, packB, pureOp, quietOp, loadOp, quietB, fr0, cellsK, implies_true, ite_true, ite_false, eq_self, ne_eq, reduceCtorEq, Nat.reduceLT, Nat.reduceLeDiff, Nat.reduceAdd, Nat.reduceMul, Nat.reduceBEq, Nat.reduceEqDiff, Int.reduceToNat, Int.reduceLT, Int.reduceLE, Nat.reduceSub, pl59, ft3, ft9, ft22, ints, minK_2, imax_eq]
  refine ⟨fun h => by omega, fun h => ⟨by omega, ?_⟩⟩
  refine LoopK.intro (fun m a h => ∃ k : Nat, m = l.length - k ∧ k < l.length ∧ a 0 = ints l ∧ a 3 = .int .i64 (maxK l k) ∧ a 4 = .int .i64 (k + 1 : Nat) ∧ h = []) (l.length - 0) ⟨0, rfl, h0, ?_⟩ ?_
  · simp (maxSteps := 4000000) only [↓packA, ↓reduceIte, packB, pureOp, quietOp, loadOp, quietB, fr0, cellsK, implies_true, ite_true, ite_false, eq_self, ne_eq, reduceCtorEq, Nat.reduceLT, Nat.reduceLeDiff, Nat.reduceAdd, Nat.reduceMul, Nat.reduceBEq, Nat.reduceEqDiff, Int.reduceToNat, Int.reduceLT, Int.reduceLE, Nat.reduceSub, pl59, ft3, ft9, ft22, ints, maxK]
    rfl
  rintro m a h ⟨k, rfl, hk, a0, a3, a4, rfl⟩
  simp (maxSteps := 4000000) +contextual only [↓packA, ↓reduceIte, packB, pureOp, quietOp, loadOp, quietB, fr0, cellsK, implies_true, ite_true, ite_false, eq_self, ne_eq, reduceCtorEq, Nat.reduceLT, Nat.reduceLeDiff, Nat.reduceAdd, Nat.reduceMul, Nat.reduceBEq, Nat.reduceEqDiff, Int.reduceToNat, Int.reduceLT, Int.reduceLE, Nat.reduceSub, pl59, ft3, ft9, ft22, ints, a0, a3, a4, minK_2, imax_eq]
  refine ⟨fun h2 => ⟨by omega, by omega, by omega, .inl ⟨l.length - (k + 1), by omega, k + 1, rfl, by omega, rfl, by omega⟩⟩, fun h2 => ?_⟩
  rw [show l.length - 1 = k by omega]
  exact .pure _ rfl
theorem maxK_le {l : List Int} : ∀ k j, j ≤ k → l.getD j default ≤ maxK l k
  | 0, j, h => by rw [show j = 0 by omega]; exact Int.le_refl _
  | k + 1, j, h => by
    simp only [maxK]
    rcases Nat.lt_or_ge j (k + 1) with h1 | h1
    · have := maxK_le (l := l) k j (by omega)
      omega
    · rw [show j = k + 1 by omega]; omega
theorem maxK_mem {l : List Int} : ∀ k, ∃ j, j ≤ k ∧ maxK l k = l.getD j default
  | 0 => ⟨0, Nat.le_refl _, rfl⟩
  | k + 1 => by
    obtain ⟨j, h1, h2⟩ := maxK_mem (l := l) k
    simp only [maxK]
    rcases Int.lt_or_le (maxK l k) (l.getD (k + 1) default) with h3 | h3
    · exact ⟨k + 1, Nat.le_refl _, by omega⟩
    · exact ⟨j, by omega, by omega⟩
def Clo (c : FuncId) : Prop := ∀ {w v : Int} {h : Heap} {vid : Nat} {exv : Bool} {Q : AV → Heap → Prop}, h[vid]? = some (.arr 1 [[.int .i64 v]] exv) → Q (.bool (decide (w = v))) h → ACalls Tryz.prog c [.int .i64 w, .op vid 1 0 0] h Q
theorem clo79 : Clo 61 := by
  intro w v h vid exv Q hv hq
  refine wp61 rfl rfl ?_
  simp (maxSteps := 4000000) +contextual only [↓packA, ↓reduceIte, packB, pureOp, quietOp, loadOp, quietB, fr0, cellsK, implies_true, ite_true, ite_false, eq_self, ne_eq, reduceCtorEq, Nat.reduceLT, Nat.reduceLeDiff, Nat.reduceAdd, Nat.reduceMul, Nat.reduceBEq, Nat.reduceEqDiff, Int.reduceToNat, Int.reduceLT, Int.reduceLE, Nat.reduceSub, pl61, ft3, hv]
  rw [show (w == v) = decide (w = v) from rfl]
  exact hq
theorem clo80 : Clo 62 := by
  intro w v h vid exv Q hv hq
  refine wp62 rfl rfl ?_
  simp (maxSteps := 4000000) +contextual only [↓packA, ↓reduceIte, packB, pureOp, quietOp, loadOp, quietB, fr0, cellsK, implies_true, ite_true, ite_false, eq_self, ne_eq, reduceCtorEq, Nat.reduceLT, Nat.reduceLeDiff, Nat.reduceAdd, Nat.reduceMul, Nat.reduceBEq, Nat.reduceEqDiff, Int.reduceToNat, Int.reduceLT, Int.reduceLE, Nat.reduceSub, pl62, ft3, hv]
  rw [show (w == v) = decide (w = v) from rfl]
  exact hq
set_option maxRecDepth 100000 in
theorem index_c {c : FuncId} (hclo : Clo c) {h : Heap} {id vid len cap : Nat} {ex ex' exv : Bool} {es : List Int} {v : Int} {Q : AV → Heap → Prop} (hb : len < 1000000000) (hid : h[id]? = some (.arr 1 (List.map intE es) ex')) (hvid : h[vid]? = some (.arr 1 [[.int .i64 v]] exv)) (hl : len ≤ es.length)
    (hq : ∀ k : Int, (k = -1 ∧ ∀ j, j < len → es.getD j default ≠ v) ∨ (∃ i : Nat, k = i ∧ i < len ∧ es.getD i default = v ∧ ∀ j, j < i → es.getD j default ≠ v) → Q (.int .i64 k) h) :
    ACalls Tryz.prog 88 [.osl id 1 0 len cap ex, .fn (.func c) [] [.op vid 1 0 0]] h Q := by
  refine wp88 rfl rfl ?_
  simp (maxSteps := 4000000) +contextual only [↓packA, ↓reduceIte, packB, pureOp, quietOp, loadOp, quietB, fr0, cellsK, implies_true, ite_true, ite_false, eq_self, ne_eq, reduceCtorEq, Nat.reduceLT, Nat.reduceLeDiff, Nat.reduceAdd, Nat.reduceMul, Nat.reduceBEq, Nat.reduceEqDiff, Int.reduceToNat, Int.reduceLT, Int.reduceLE, Nat.reduceSub, pl88, ft3, ft22]
  refine LoopK.intro (fun m a h1 => ∃ k : Nat, m = len - k ∧ k ≤ len ∧ (∀ j, j < k → es.getD j default ≠ v) ∧ a 0 = .osl id 1 0 len cap ex ∧ a 1 = .fn (.func c) [] [.op vid 1 0 0] ∧ a 7 = .int .i64 len ∧ a 8 = .int .i64 k ∧ h1 = h) len ⟨0, rfl, Nat.zero_le _, fun j hj => absurd hj (Nat.not_lt_zero _), ?_⟩ ?_
  · simp (maxSteps := 4000000) +contextual only [↓packA, ↓reduceIte, packB, pureOp, quietOp, loadOp, quietB, fr0, cellsK, implies_true, ite_true, ite_false, eq_self, ne_eq, reduceCtorEq, Nat.reduceLT, Nat.reduceLeDiff, Nat.reduceAdd, Nat.reduceMul, Nat.reduceBEq, Nat.reduceEqDiff, Int.reduceToNat, Int.reduceLT, Int.reduceLE, Nat.reduceSub, pl88, ft3, ft22, Int.natCast_zero]
  rintro m a h1 ⟨k, rfl, hk, hj, a0, a1, a7, a8, rfl⟩
  simp (maxSteps := 4000000) +contextual only [↓packA, ↓reduceIte, packB, pureOp, quietOp, loadOp, quietB, fr0, cellsK, implies_true, ite_true, ite_false, eq_self, ne_eq, reduceCtorEq, Nat.reduceLT, Nat.reduceLeDiff, Nat.reduceAdd, Nat.reduceMul, Nat.reduceBEq, Nat.reduceEqDiff, Int.reduceToNat, Int.reduceLT, Int.reduceLE, Nat.reduceSub, pl88, ft3, ft22, a0, a1, a7, a8, hid]
  refine ⟨fun h2 => ⟨by omega, by omega, hclo hvid ?_⟩, fun h2 => hq _ (.inl ⟨rfl, fun j h3 => hj j (by omega)⟩)⟩
  simp (maxSteps := 4000000) +contextual only [↓packA, ↓reduceIte, packB, pureOp, quietOp, loadOp, quietB, fr0, cellsK, implies_true, ite_true, ite_false, eq_self, ne_eq, reduceCtorEq, Nat.reduceLT, Nat.reduceLeDiff, Nat.reduceAdd, Nat.reduceMul, Nat.reduceBEq, Nat.reduceEqDiff, Int.reduceToNat, Int.reduceLT, Int.reduceLE, Nat.reduceSub, pl88, ft3, ft22, a0, a1, a7, a8, hid]
  refine ⟨fun h3 => hq _ (.inr ⟨k, rfl, by omega, h3, hj⟩), fun h3 => ⟨by omega, .inl ⟨len - (k + 1), by omega, k + 1, rfl, by omega, fun j h4 => ?_, by omega⟩⟩⟩
  rcases Nat.lt_or_ge j k with h5 | h5
  · exact hj j h5
  · rw [show j = k by omega]; exact h3
end Go.Proofs.YtgdlkhgfehclpaaGreat
end

section
/- DeleteFunc of one number. No condition. -/
namespace Go.Proofs.YtgdlkhgfehclpaaGreat
open Go Go.AL
set_option linter.unusedVariables false
set_option linter.unusedSimpArgs false
def rid (v : Int) (l : List Int) : List Int := l.filter (fun x => decide (x ≠ v))
theorem gd0 {xs : List Int} {i : Nat} (h : i < xs.length) : xs.getD i default = xs[i] := by simp [List.getD_eq_getElem?_getD, List.getElem?_eq_getElem h]
theorem rid_none {v : Int} {l : List Int} (h : ∀ j, j < l.length → l.getD j default ≠ v) : rid v l = l := by
  refine List.filter_eq_self.2 fun x hx => ?_
  obtain ⟨i, hi, e⟩ := List.getElem_of_mem hx
  have := h i hi
  rw [gd0 hi, e] at this
  simpa using this
theorem rid_take {v : Int} {l : List Int} {k : Nat} (hk : k < l.length) : rid v (l.take (k + 1)) = if l.getD k default = v then rid v (l.take k) else rid v (l.take k) ++ [l.getD k default] := by
  rw [show l.take (k + 1) = l.take k ++ [l.getD k default] by rw [List.take_add_one, List.getElem?_eq_getElem hk, List.getD_eq_getElem?_getD, List.getElem?_eq_getElem hk]; rfl]
  simp only [rid, List.filter_append]
  by_cases e : l.getD k default = v
  · rw [if_pos e, e]; simp
  · rw [if_neg e]; simp only [List.filter_cons, List.filter_nil, ne_eq, e, not_false_eq_true, decide_true, if_true]
theorem take_set_one {l : List Int} {i : Nat} {y : Int} (h : i < l.length) : (l.set i y).take (i + 1) = l.take i ++ [y] := by
  rw [List.take_add_one, List.getElem?_set_self h, List.take_set, List.set_eq_of_length_le (by simp; omega)]
  rfl
theorem getD_set_ne {l : List Int} {i j : Nat} {y : Int} (h : i ≠ j) : (l.set i y).getD j default = l.getD j default := by
  simp only [List.getD_eq_getElem?_getD, List.getElem?_set_ne h]
set_option maxRecDepth 100000 in
theorem del_c {c : FuncId} (hclo : Clo c) {h : Heap} {id vid len cap : Nat} {ex ex' exv : Bool} {es : List Int} {v : Int} {Q : AV → Heap → Prop} (hb : len < 1000000000) (hid : h[id]? = some (.arr 1 (List.map intE es) ex')) (hvid : h[vid]? = some (.arr 1 [[.int .i64 v]] exv)) (hne : id ≠ vid) (hl : len ≤ es.length) (hc : len ≤ cap)
    (hq : ∀ es' : List Int, es'.length = es.length → es'.take (rid v (es.take len)).length = rid v (es.take len) → Q (.osl id 1 0 (rid v (es.take len)).length cap ex) (h.set id (.arr 1 (List.map intE es') ex'))) :
    ACalls Tryz.prog 60 [.osl id 1 0 len cap ex, .fn (.func c) [] [.op vid 1 0 0]] h Q := by
  have hlt : id < h.length := (List.getElem?_eq_some_iff.1 hid).1
  have hself : h.set id (.arr 1 (List.map intE es) ex') = h := by
    apply List.ext_getElem?
    intro i
    rw [List.getElem?_set]
    by_cases e : id = i
    · subst e; rw [if_pos rfl, if_pos hlt, hid]
    · rw [if_neg e]
  refine wp60 rfl rfl ?_
  simp (maxSteps := 4000000) +contextual only [↓packA, ↓reduceIte, packB, pureOp, quietOp, loadOp, quietB, fr0, cellsK, implies_true, ite_true, ite_false, eq_self, ne_eq, reduceCtorEq, Nat.reduceLT, Nat.reduceLeDiff, Nat.reduceAdd, Nat.reduceMul, Nat.reduceBEq, Nat.reduceEqDiff, Int.reduceToNat, Int.reduceLT, Int.reduceLE, Nat.reduceSub, pl60, ft3, ft4, ft22, ft92]
  refine index_c hclo hb hid hvid hl fun k hk => ?_
  rcases hk with ⟨rfl, hno⟩ | ⟨i, rfl, hi, hv, hno⟩
  · simp (maxSteps := 4000000) +contextual only [↓packA, ↓reduceIte, packB, pureOp, quietOp, loadOp, quietB, fr0, cellsK, implies_true, ite_true, ite_false, eq_self, ne_eq, reduceCtorEq, Nat.reduceLT, Nat.reduceLeDiff, Nat.reduceAdd, Nat.reduceMul, Nat.reduceBEq, Nat.reduceEqDiff, Int.reduceToNat, Int.reduceLT, Int.reduceLE, Nat.reduceSub, pl60, ft3, ft4, ft22, ft92, Int.cast_ofNat_Int, Int.natCast_zero, Int.natCast_one, Int.reduceAdd, Int.reduceSub, Int.reduceNeg, Int.reduceMul, Int.reduceToNat, Int.reduceLT, Int.reduceLE, Int.reduceEq, Int.reduceBEq, Int.reduceBNe, Nat.reduceSub, Nat.reduceLT, List.getD_cons_zero, List.getD_cons_succ, List.length_singleton, Bool.and_true, Bool.and_false]
    have hr : rid v (es.take len) = es.take len := rid_none fun j hj => by
      simp only [List.length_take] at hj
      have := hno j (by omega)
      rw [List.getD_eq_getElem?_getD, List.getElem?_take, if_pos (by omega), ← List.getD_eq_getElem?_getD]
      exact this
    have := hq es rfl (by rw [hr]; simp)
    rw [hr, hself] at this
    simp only [List.length_take, Nat.min_eq_left hl] at this
    exact this
  · simp (maxSteps := 4000000) +contextual only [↓packA, ↓reduceIte, packB, pureOp, quietOp, loadOp, quietB, fr0, cellsK, implies_true, ite_true, ite_false, eq_self, ne_eq, reduceCtorEq, Nat.reduceLT, Nat.reduceLeDiff, Nat.reduceAdd, Nat.reduceMul, Nat.reduceBEq, Nat.reduceEqDiff, Int.reduceToNat, Int.reduceLT, Int.reduceLE, Nat.reduceSub, pl60, ft3, ft4, ft22, ft92]
    have hse : ∀ o : Ob, (h.set id o)[id]? = some o := fun o => List.getElem?_set_self hlt
    have hsv : ∀ o : Ob, (h.set id o)[vid]? = some (.arr 1 [[.int .i64 v]] exv) := fun o => by rw [List.getElem?_set_ne hne]; exact hvid
    have hr0 : rid v (es.take i) = es.take i := rid_none fun j hj => by
      simp only [List.length_take] at hj
      have := hno j (by omega)
      rw [List.getD_eq_getElem?_getD, List.getElem?_take, if_pos (by omega), ← List.getD_eq_getElem?_getD]
      exact this
    have hr1 : rid v (es.take (i + 1)) = es.take i := by rw [rid_take (by omega), if_pos hv, hr0]
    refine ⟨by omega, ?_⟩
    refine LoopK.intro (fun m a h1 => ∃ (j : Nat) (es1 : List Int), m = len - j ∧ j ≤ len ∧ (rid v (es.take j)).length < j ∧ es1.length = es.length ∧ es1.take (rid v (es.take j)).length = rid v (es.take j) ∧ (∀ t, j ≤ t → es1.getD t default = es.getD t default) ∧ a 0 = .osl id 1 0 len cap ex ∧ a 1 = .fn (.func c) [] [.op vid 1 0 0] ∧ a 5 = .int .i64 (rid v (es.take j)).length ∧ a 6 = .int .i64 j ∧ h1 = h.set id (.arr 1 (List.map intE es1) ex')) (len - (i + 1)) ⟨i + 1, es, ?_⟩ ?_
    · simp (maxSteps := 4000000) only [↓packA, ↓reduceIte, packB, pureOp, quietOp, loadOp, quietB, fr0, cellsK, implies_true, ite_true, ite_false, eq_self, ne_eq, reduceCtorEq, Nat.reduceLT, Nat.reduceLeDiff, Nat.reduceAdd, Nat.reduceMul, Nat.reduceBEq, Nat.reduceEqDiff, Int.reduceToNat, Int.reduceLT, Int.reduceLE, Nat.reduceSub, pl60, ft3, ft4, ft22, ft92, hr1, hself]
      have hti : (List.take i es).length = i := by simp; omega
      rw [hti]
      exact ⟨by omega, by omega, rfl, rfl, by omega⟩
    rintro m a h1 ⟨j, es1, rfl, hj, hij, hes, htk, hdr, a0, a1, a5, a6, rfl⟩
    simp (maxSteps := 4000000) +contextual only [↓packA, ↓reduceIte, packB, pureOp, quietOp, loadOp, quietB, fr0, cellsK, implies_true, ite_true, ite_false, eq_self, ne_eq, reduceCtorEq, Nat.reduceLT, Nat.reduceLeDiff, Nat.reduceAdd, Nat.reduceMul, Nat.reduceBEq, Nat.reduceEqDiff, Int.reduceToNat, Int.reduceLT, Int.reduceLE, Nat.reduceSub, pl60, ft3, ft4, ft22, ft92, a0, a1, a5, a6, hse]
    refine ⟨fun h2 => ⟨by omega, by omega, hclo (hsv _) ?_⟩, fun h2 => ?_⟩
    · have hrt := rid_take (v := v) (l := es) (k := j) (by omega)
      simp (maxSteps := 4000000) +contextual only [↓packA, ↓reduceIte, packB, pureOp, quietOp, loadOp, quietB, fr0, cellsK, implies_true, ite_true, ite_false, eq_self, ne_eq, reduceCtorEq, Nat.reduceLT, Nat.reduceLeDiff, Nat.reduceAdd, Nat.reduceMul, Nat.reduceBEq, Nat.reduceEqDiff, Int.reduceToNat, Int.reduceLT, Int.reduceLE, Nat.reduceSub, pl60, ft3, ft4, ft22, ft92, a0, a1, a5, a6, hse, List.set_set]
      have hd := hdr j (Nat.le_refl _)
      rw [hd]
      refine ⟨fun h3 => ?_, fun h3 => ?_⟩
      · rw [if_pos h3] at hrt
        exact ⟨by omega, .inl ⟨len - (j + 1), by omega, j + 1, es1, rfl, by omega, by rw [hrt]; omega, hes, by rw [hrt]; exact htk, fun t ht => hdr t (by omega), by rw [hrt], by omega, rfl⟩⟩
      · rw [if_neg h3] at hrt
        refine ⟨by omega, by omega, by omega, by omega, .inl ⟨len - (j + 1), by omega, j + 1, es1.set (rid v (List.take j es)).length (es.getD j default), rfl, by omega, by rw [hrt]; simp; omega, by simp [hes], ?_, fun t ht => ?_, by rw [hrt]; simp, by omega, rfl⟩⟩
        · rw [hrt]
          simp only [List.length_append, List.length_singleton]
          rw [take_set_one (by omega), htk]
        · rw [getD_set_ne (by omega)]
          exact hdr t (by omega)
    · obtain rfl : j = len := by omega
      have hs2 : (rid v (List.take j es)).length < cap ∨ (rid v (List.take j es)).length = 0 := by omega
      rw [if_pos hs2]
      refine ⟨by omega, by omega, by omega, by omega, by omega, ?_⟩
      rw [List.set_set, ← List.map_take, ← List.map_drop, ← List.map_append, ← List.map_append]
      have hi1 : (List.take (rid v (List.take j es)).length es1).length = (rid v (List.take j es)).length := by simp only [List.length_take]; omega
      refine hq _ ?_ ?_
      · simp only [List.length_append, List.length_replicate, List.length_drop, hi1]
        omega
      · rw [List.append_assoc, List.take_left' hi1, htk]
end Go.Proofs.YtgdlkhgfehclpaaGreat
end

section
/- Windows of a list that are put in another order: the plain part of a stable sort. No condition. -/
namespace Go.Proofs.YtgdlkhgfehclpaaGreat
open Go Go.AL
set_option linter.unusedVariables false
set_option linter.unusedSimpArgs false
/-- The number at a place. -/
def gv (l : List Int) (i : Nat) : Int := l.getD i default
/-- The order that is asked for: the degree falls; among equal ones the number rises. -/
def ltD (d : Int → Int) (x y : Int) : Prop := d y < d x ∨ (d x = d y ∧ x < y)
theorem ltD_trans {d : Int → Int} {x y z : Int} (h1 : ltD d x y) (h2 : ltD d y z) : ltD d x z := by unfold ltD at *; omega
theorem ltD_irrefl {d : Int → Int} {x : Int} : ¬ ltD d x x := by unfold ltD; omega
/-- A window's numbers in another order, the rest as it was. -/
structure Sm (es gs : List Int) (a b : Nat) : Prop where
  len : gs.length = es.length
  to : ∀ i, a ≤ i → i < b → ∃ j, a ≤ j ∧ j < b ∧ gv gs i = gv es j
  fro : ∀ i, a ≤ i → i < b → ∃ j, a ≤ j ∧ j < b ∧ gv es i = gv gs j
  out : ∀ i, i < a ∨ b ≤ i → gv gs i = gv es i
theorem Sm.rfl' {es : List Int} {a b : Nat} : Sm es es a b := ⟨rfl, fun i h1 h2 => ⟨i, h1, h2, rfl⟩, fun i h1 h2 => ⟨i, h1, h2, rfl⟩, fun i _ => rfl⟩
theorem Sm.trans {es gs hs : List Int} {a b : Nat} (h : Sm es gs a b) (k : Sm gs hs a b) : Sm es hs a b := by
  refine ⟨k.len.trans h.len, fun i h1 h2 => ?_, fun i h1 h2 => ?_, fun i h1 => (k.out i h1).trans (h.out i h1)⟩
  · obtain ⟨j, j1, j2, e⟩ := k.to i h1 h2
    obtain ⟨t, t1, t2, e2⟩ := h.to j j1 j2
    exact ⟨t, t1, t2, e.trans e2⟩
  · obtain ⟨j, j1, j2, e⟩ := h.fro i h1 h2
    obtain ⟨t, t1, t2, e2⟩ := k.fro j j1 j2
    exact ⟨t, t1, t2, e.trans e2⟩
theorem Sm.wide {es gs : List Int} {a b c e : Nat} (h : Sm es gs a b) (h1 : c ≤ a) (h2 : b ≤ e) : Sm es gs c e := by
  refine ⟨h.len, fun i i1 i2 => ?_, fun i i1 i2 => ?_, fun i i1 => h.out i (by omega)⟩
  · by_cases hw : a ≤ i ∧ i < b
    · obtain ⟨j, j1, j2, e⟩ := h.to i hw.1 hw.2
      exact ⟨j, by omega, by omega, e⟩
    · exact ⟨i, i1, i2, h.out i (by omega)⟩
  · by_cases hw : a ≤ i ∧ i < b
    · obtain ⟨j, j1, j2, e⟩ := h.fro i hw.1 hw.2
      exact ⟨j, by omega, by omega, e⟩
    · exact ⟨i, i1, i2, (h.out i (by omega)).symm⟩
/-- What holds of all numbers of a window goes on holding, for each window about the one that was put in another order. -/
theorem Sm.all {es gs : List Int} {a b c e : Nat} (h : Sm es gs a b) {p : Int → Prop} (h1 : c ≤ a) (h2 : b ≤ e) (hp : ∀ i, c ≤ i → i < e → p (gv es i)) : ∀ i, c ≤ i → i < e → p (gv gs i) := by
  intro i i1 i2
  obtain ⟨j, j1, j2, e⟩ := (h.wide h1 h2).to i i1 i2
  rw [e]; exact hp j j1 j2
/-- And for each window apart from it. -/
theorem Sm.off {es gs : List Int} {a b c e : Nat} (h : Sm es gs a b) {p : Int → Prop} (h1 : e ≤ a ∨ b ≤ c) (hp : ∀ i, c ≤ i → i < e → p (gv es i)) : ∀ i, c ≤ i → i < e → p (gv gs i) := by
  intro i i1 i2
  rw [h.out i (by omega)]; exact hp i i1 i2
def sw (l : List Int) (i j : Nat) : List Int := (l.set i (gv l j)).set j (gv l i)
theorem gv_set {l : List Int} {i k : Nat} {x : Int} (h : i < l.length) : gv (l.set i x) k = if k = i then x else gv l k := by
  unfold gv
  by_cases e : k = i
  · subst e; rw [if_pos rfl, List.getD_eq_getElem?_getD, List.getElem?_set_self h]; rfl
  · rw [if_neg e]; exact getD_set_ne (fun h => e h.symm)
theorem gv_sw {l : List Int} {i j k : Nat} (hi : i < l.length) (hj : j < l.length) : gv (sw l i j) k = if k = j then gv l i else if k = i then gv l j else gv l k := by
  unfold sw
  rw [gv_set (by simpa using hj), gv_set hi]
theorem sw_len {l : List Int} {i j : Nat} : (sw l i j).length = l.length := by simp [sw]
theorem Sm.sw {l : List Int} {i j a b : Nat} (hi : i < l.length) (hj : j < l.length) (h : a ≤ i ∧ i < b ∧ a ≤ j ∧ j < b) : Sm l (sw l i j) a b := by
  refine ⟨sw_len, fun k k1 k2 => ?_, fun k k1 k2 => ?_, fun k k1 => ?_⟩
  · rw [gv_sw hi hj]
    by_cases e : k = j
    · exact ⟨i, by omega, by omega, by rw [if_pos e]⟩
    · rw [if_neg e]
      by_cases e2 : k = i
      · exact ⟨j, by omega, by omega, by rw [if_pos e2]⟩
      · exact ⟨k, by omega, by omega, by rw [if_neg e2]⟩
  · by_cases e : k = j
    · refine ⟨i, by omega, by omega, ?_⟩
      rw [gv_sw hi hj]
      by_cases e2 : i = j
      · rw [if_pos e2, e, e2]
      · rw [if_neg e2, if_pos rfl, e]
    · by_cases e2 : k = i
      · exact ⟨j, by omega, by omega, by rw [gv_sw hi hj, if_pos rfl, e2]⟩
      · exact ⟨k, by omega, by omega, by rw [gv_sw hi hj, if_neg e, if_neg e2]⟩
  · rw [gv_sw hi hj, if_neg (by omega), if_neg (by omega)]
/-- A window is sorted. -/
def Sd (d : Int → Int) (l : List Int) (a b : Nat) : Prop := ∀ i j, a ≤ i → i < j → j < b → ltD d (gv l i) (gv l j)
/-- All of a window lies ahead of all of another one. -/
def Xd (d : Int → Int) (l : List Int) (a b c e : Nat) : Prop := ∀ i j, a ≤ i → i < b → c ≤ j → j < e → ltD d (gv l i) (gv l j)
/-- Likewise by the number alone. -/
def Xn (l : List Int) (a b c e : Nat) : Prop := ∀ i j, a ≤ i → i < b → c ≤ j → j < e → gv l i < gv l j
theorem Sd.off {d : Int → Int} {es gs : List Int} {a b c e : Nat} (h : Sd d es c e) (k : Sm es gs a b) (h1 : e ≤ a ∨ b ≤ c) : Sd d gs c e := by
  intro i j h2 h3 h4
  rw [k.out i (by omega), k.out j (by omega)]; exact h i j h2 h3 h4
theorem Sd.sub {d : Int → Int} {es : List Int} {a b c e : Nat} (h : Sd d es a b) (h1 : a ≤ c) (h2 : e ≤ b) : Sd d es c e := fun i j i1 i2 i3 => h i j (by omega) i2 (by omega)
theorem Sd.join {d : Int → Int} {es : List Int} {a m b : Nat} (h : Sd d es a m) (k : Sd d es m b) (x : Xd d es a m m b) : Sd d es a b := by
  intro i j h1 h2 h3
  by_cases e : j < m
  · exact h i j h1 h2 e
  · by_cases e2 : m ≤ i
    · exact k i j e2 h2 h3
    · exact x i j h1 (by omega) (by omega) h3
theorem Xd.perm {d : Int → Int} {es gs : List Int} {a b c e p q : Nat} (h : Xd d es a b c e) (k : Sm es gs p q) (h1 : (a ≤ p ∧ q ≤ b) ∨ q ≤ a ∨ b ≤ p) (h2 : (c ≤ p ∧ q ≤ e) ∨ q ≤ c ∨ e ≤ p) : Xd d gs a b c e := by
  intro i j i1 i2 j1 j2
  have hi : ∃ i', a ≤ i' ∧ i' < b ∧ gv gs i = gv es i' := by
    rcases h1 with h1 | h1
    · exact (k.wide h1.1 h1.2).to i i1 i2
    · exact ⟨i, i1, i2, k.out i (by omega)⟩
  have hj : ∃ j', c ≤ j' ∧ j' < e ∧ gv gs j = gv es j' := by
    rcases h2 with h2 | h2
    · exact (k.wide h2.1 h2.2).to j j1 j2
    · exact ⟨j, j1, j2, k.out j (by omega)⟩
  obtain ⟨i', a1, a2, a3⟩ := hi
  obtain ⟨j', b1, b2, b3⟩ := hj
  rw [a3, b3]; exact h i' j' a1 a2 b1 b2
theorem Xn.perm {es gs : List Int} {a b c e p q : Nat} (h : Xn es a b c e) (k : Sm es gs p q) (h1 : (a ≤ p ∧ q ≤ b) ∨ q ≤ a ∨ b ≤ p) (h2 : (c ≤ p ∧ q ≤ e) ∨ q ≤ c ∨ e ≤ p) : Xn gs a b c e := by
  intro i j i1 i2 j1 j2
  have hi : ∃ i', a ≤ i' ∧ i' < b ∧ gv gs i = gv es i' := by
    rcases h1 with h1 | h1
    · exact (k.wide h1.1 h1.2).to i i1 i2
    · exact ⟨i, i1, i2, k.out i (by omega)⟩
  have hj : ∃ j', c ≤ j' ∧ j' < e ∧ gv gs j = gv es j' := by
    rcases h2 with h2 | h2
    · exact (k.wide h2.1 h2.2).to j j1 j2
    · exact ⟨j, j1, j2, k.out j (by omega)⟩
  obtain ⟨i', a1, a2, a3⟩ := hi
  obtain ⟨j', b1, b2, b3⟩ := hj
  rw [a3, b3]; exact h i' j' a1 a2 b1 b2
theorem Xn.sub {es : List Int} {a b c e a' b' c' e' : Nat} (h : Xn es a b c e) (h1 : a ≤ a') (h2 : b' ≤ b) (h3 : c ≤ c') (h4 : e' ≤ e) : Xn es a' b' c' e' := fun i j i1 i2 j1 j2 => h i j (by omega) (by omega) (by omega) (by omega)
/-- The numbers rise within a window. -/
def Up (l : List Int) (a b : Nat) : Prop := ∀ i j, a ≤ i → i < j → j < b → gv l i < gv l j
/-- Insertion: within [a, i] all but place j is sorted, and what stands at j belongs ahead of what is behind it, and has the greatest number. -/
structure Ins (d : Int → Int) (es cs : List Int) (a i j : Nat) : Prop where
  sm : Sm es cs a (i + 1)
  so : ∀ p q, a ≤ p → p < q → q ≤ i → p ≠ j → q ≠ j → ltD d (gv cs p) (gv cs q)
  be : ∀ q, j < q → q ≤ i → ltD d (gv cs j) (gv cs q)
  nu : ∀ p, a ≤ p → p ≤ i → p ≠ j → gv cs p < gv cs j
theorem Ins.start {d : Int → Int} {es cs : List Int} {a b i : Nat} (hu : Up es a b) (hi : i < b) (hai : a ≤ i) (hs : Sm es cs a i) (hd : Sd d cs a i) : Ins d es cs a i i := by
  refine ⟨hs.wide (Nat.le_refl _) (by omega), fun p q h1 h2 h3 h4 h5 => hd p q h1 h2 (by omega), fun q h1 h2 => by omega, fun p h1 h2 h3 => ?_⟩
  obtain ⟨j, j1, j2, e⟩ := hs.to p h1 (by omega)
  rw [e, hs.out i (.inr (Nat.le_refl _))]
  exact hu j i j1 j2 hi
theorem Ins.step {d : Int → Int} {es cs : List Int} {a i j : Nat} (h : Ins d es cs a i j) (hj : a < j) (hji : j ≤ i) (hl : i < cs.length) (hc : d (gv cs (j - 1)) < d (gv cs j)) : Ins d es (sw cs j (j - 1)) a i (j - 1) := by
  have g : ∀ k, gv (sw cs j (j - 1)) k = if k = j - 1 then gv cs j else if k = j then gv cs (j - 1) else gv cs k := fun k => gv_sw (by omega) (by omega)
  refine ⟨h.sm.trans (Sm.sw (by omega) (by omega) (by omega)), fun p q h1 h2 h3 h4 h5 => ?_, fun q h1 h2 => ?_, fun p h1 h2 h3 => ?_⟩
  · rw [g p, g q, if_neg h4, if_neg h5]
    by_cases e : p = j
    · rw [if_pos e, if_neg (by omega)]
      exact h.so (j - 1) q (by omega) (by omega) h3 (by omega) (by omega)
    · rw [if_neg e]
      by_cases e2 : q = j
      · rw [if_pos e2]
        exact h.so p (j - 1) h1 (by omega) (by omega) (by omega) (by omega)
      · rw [if_neg e2]
        exact h.so p q h1 h2 h3 e e2
  · rw [g (j - 1), g q, if_pos rfl, if_neg (by omega)]
    by_cases e : q = j
    · rw [if_pos e]; exact .inl hc
    · rw [if_neg e]; exact h.be q (by omega) h2
  · rw [g (j - 1), g p, if_pos rfl, if_neg h3]
    by_cases e : p = j
    · rw [if_pos e]; exact h.nu (j - 1) (by omega) (by omega) (by omega)
    · rw [if_neg e]; exact h.nu p h1 h2 e
theorem Ins.stop {d : Int → Int} {es cs : List Int} {a i j : Nat} (h : Ins d es cs a i j) (haj : a ≤ j) (hji : j ≤ i) (hc : j = a ∨ ¬ d (gv cs (j - 1)) < d (gv cs j)) : Sd d cs a (i + 1) := by
  intro p q h1 h2 h3
  by_cases e : p = j
  · subst e; exact h.be q h2 (by omega)
  by_cases e2 : q = j
  · subst e2
    have hl : ltD d (gv cs (q - 1)) (gv cs q) := by
      have h4 := h.nu (q - 1) (by omega) (by omega) (by omega)
      unfold ltD; omega
    by_cases e3 : p = q - 1
    · rw [e3]; exact hl
    · exact ltD_trans (h.so p (q - 1) h1 (by omega) (by omega) e (by omega)) hl
  exact h.so p q h1 h2 (by omega) e e2
/-- A left half of one number, put where it belongs. -/
theorem ins_left {d : Int → Int} {es gs : List Int} {a b i : Nat} (hs : Sd d es (a + 1) b) (h1 : a + 1 ≤ i) (h2 : i ≤ b) (hl : i = a + 1 ∨ ltD d (gv es (i - 1)) (gv es a)) (hr : i = b ∨ ltD d (gv es a) (gv es i))
    (g1 : ∀ q, a ≤ q → q < i - 1 → gv gs q = gv es (q + 1)) (g2 : gv gs (i - 1) = gv es a) (g3 : ∀ q, i ≤ q → gv gs q = gv es q) : Sd d gs a b := by
  intro p q p1 p2 p3
  by_cases e : q < i - 1
  · rw [g1 p p1 (by omega), g1 q (by omega) e]; exact hs _ _ (by omega) (by omega) (by omega)
  by_cases e2 : q = i - 1
  · subst e2
    rw [g2, g1 p p1 p2]
    have hl : ltD d (gv es (i - 1)) (gv es a) := hl.resolve_left (by omega)
    by_cases e3 : p + 1 = i - 1
    · rw [e3]; exact hl
    · exact ltD_trans (hs _ _ (by omega) (by omega) (by omega)) hl
  have hr : ltD d (gv es a) (gv es i) := hr.resolve_left (by omega)
  rw [g3 q (by omega)]
  by_cases e3 : p < i - 1
  · rw [g1 p p1 e3]; exact hs _ _ (by omega) (by omega) p3
  by_cases e4 : p = i - 1
  · rw [e4, g2]
    by_cases e5 : q = i
    · rw [e5]; exact hr
    · exact ltD_trans hr (hs _ _ (by omega) (by omega) p3)
  · rw [g3 p (by omega)]; exact hs _ _ (by omega) p2 p3
/-- A right half of one number. -/
theorem ins_right {d : Int → Int} {es gs : List Int} {a m i : Nat} (hs : Sd d es a m) (h1 : a ≤ i) (h2 : i ≤ m) (hl : i = a ∨ ltD d (gv es (i - 1)) (gv es m)) (hr : i = m ∨ ltD d (gv es m) (gv es i))
    (g1 : ∀ q, q < i → gv gs q = gv es q) (g2 : gv gs i = gv es m) (g3 : ∀ q, i < q → q ≤ m → gv gs q = gv es (q - 1)) : Sd d gs a (m + 1) := by
  intro p q p1 p2 p3
  by_cases e : q < i
  · rw [g1 p (by omega), g1 q e]; exact hs _ _ p1 p2 (by omega)
  by_cases e2 : q = i
  · subst e2
    rw [g2, g1 p p2]
    have hl : ltD d (gv es (q - 1)) (gv es m) := hl.resolve_left (by omega)
    by_cases e3 : p = q - 1
    · rw [e3]; exact hl
    · exact ltD_trans (hs _ _ (by omega) (by omega) (by omega)) hl
  have hr : ltD d (gv es m) (gv es i) := hr.resolve_left (by omega)
  rw [g3 q (by omega) (by omega)]
  by_cases e3 : p < i
  · rw [g1 p e3]; exact hs _ _ p1 (by omega) (by omega)
  by_cases e4 : p = i
  · rw [e4, g2]
    by_cases e5 : q - 1 = i
    · rw [e5]; exact hr
    · exact ltD_trans hr (hs _ _ (by omega) (by omega) (by omega))
  · rw [g3 p (by omega) (by omega)]; exact hs _ _ (by omega) (by omega) (by omega)
/-- Two neighbouring windows change places. -/
structure Rt (es gs : List Int) (a m b : Nat) : Prop where
  sm : Sm es gs a b
  le : ∀ k, a ≤ k → k < a + (b - m) → gv gs k = gv es (k + (m - a))
  ri : ∀ k, a + (b - m) ≤ k → k < b → gv gs k = gv es (k - (b - m))
/-- What the symmetric merge has found: start and its mirror image about m. -/
structure Cut (d : Int → Int) (es : List Int) (a m b s mid : Nat) : Prop where
  s0 : a ≤ s
  s1 : s ≤ m
  s2 : s ≤ mid
  s3 : m + mid ≤ b + s
  lo : s = a ∨ m + mid = b + s ∨ ltD d (gv es (s - 1)) (gv es (m + mid - s))
  hi : s = m ∨ s = mid ∨ ltD d (gv es (m + mid - s - 1)) (gv es s)
theorem Cut.cross {d : Int → Int} {es gs : List Int} {a m b s mid : Nat} (hc : Cut d es a m b s mid) (hl : Sd d es a m) (hr : Sd d es m b) (hm : a ≤ mid ∧ mid ≤ b)
    (hle : ∀ k, s ≤ k → k < mid → gv gs k = gv es (k + (m - s))) (hri : ∀ k, mid ≤ k → k < m + mid - s → gv gs k = gv es (k - (mid - s))) (ho : ∀ k, k < s ∨ m + mid - s ≤ k → gv gs k = gv es k) : Xd d gs a mid mid b := by
  obtain ⟨s0, s1, s2, s3, lo, hi⟩ := hc
  have hLR : ∀ i j, a ≤ i → i < s → m + mid - s ≤ j → j < b → ltD d (gv es i) (gv es j) := by
    intro i j h1 h2 h3 h4
    have lo := (lo.resolve_left (by omega)).resolve_left (by omega)
    have l1 : i = s - 1 ∨ ltD d (gv es i) (gv es (s - 1)) := by
      by_cases e : i = s - 1
      · exact .inl e
      · exact .inr (hl _ _ h1 (by omega) (by omega))
    have l2 : m + mid - s = j ∨ ltD d (gv es (m + mid - s)) (gv es j) := by
      by_cases e : m + mid - s = j
      · exact .inl e
      · exact .inr (hr _ _ (by omega) (by omega) h4)
    have l3 : ltD d (gv es i) (gv es (m + mid - s)) := by
      rcases l1 with rfl | l1
      · exact lo
      · exact ltD_trans l1 lo
    rcases l2 with l2 | l2
    · rw [← l2]; exact l3
    · exact ltD_trans l3 l2
  have hRL : ∀ i j, m ≤ i → i < m + mid - s → s ≤ j → j < m → ltD d (gv es i) (gv es j) := by
    intro i j h1 h2 h3 h4
    have hi := (hi.resolve_left (by omega)).resolve_left (by omega)
    have l1 : i = m + mid - s - 1 ∨ ltD d (gv es i) (gv es (m + mid - s - 1)) := by
      by_cases e : i = m + mid - s - 1
      · exact .inl e
      · exact .inr (hr _ _ h1 (by omega) (by omega))
    have l2 : s = j ∨ ltD d (gv es s) (gv es j) := by
      by_cases e : s = j
      · exact .inl e
      · exact .inr (hl _ _ (by omega) (by omega) h4)
    have l3 : ltD d (gv es i) (gv es s) := by
      rcases l1 with rfl | l1
      · exact hi
      · exact ltD_trans l1 hi
    rcases l2 with l2 | l2
    · rw [← l2]; exact l3
    · exact ltD_trans l3 l2
  intro i j i1 i2 j1 j2
  by_cases c1 : i < s
  · rw [ho i (.inl c1)]
    by_cases c2 : j < m + mid - s
    · rw [hri j j1 c2]; exact hl _ _ i1 (by omega) (by omega)
    · rw [ho j (by omega)]; exact hLR i j i1 c1 (by omega) j2
  · rw [hle i (by omega) i2]
    by_cases c2 : j < m + mid - s
    · rw [hri j j1 c2]; exact hRL _ _ (by omega) (by omega) (by omega) (by omega)
    · rw [ho j (by omega)]; exact hr _ _ (by omega) (by omega) j2
end Go.Proofs.YtgdlkhgfehclpaaGreat
end

section
/- Ranges change places, blocks change places. No condition. -/
namespace Go.Proofs.YtgdlkhgfehclpaaGreat
open Go Go.AL
set_option linter.unusedVariables false
set_option linter.unusedSimpArgs false
theorem set_same {h : Heap} {id : Nat} {o : Ob} (hid : h[id]? = some o) : h.set id o = h := by
  have hlt : id < h.length := (List.getElem?_eq_some_iff.1 hid).1
  apply List.ext_getElem?
  intro i
  rw [List.getElem?_set]
  by_cases e : id = i
  · subst e; rw [if_pos rfl, if_pos hlt, hid]
  · rw [if_neg e]
/-- What stands at a place when two ranges of k numbers have changed places. -/
def swR (es : List Int) (a b k q : Nat) : Int := if a ≤ q ∧ q < a + k then gv es (q + (b - a)) else if b ≤ q ∧ q < b + k then gv es (q - (b - a)) else gv es q
/-- What stands at a place when [a, m) and [m, b) have changed places. -/
def rtR (es : List Int) (a m b q : Nat) : Int := if a ≤ q ∧ q < a + (b - m) then gv es (q + (m - a)) else if a + (b - m) ≤ q ∧ q < b then gv es (q - (b - m)) else gv es q
theorem swR_step {es cs : List Int} {a b k n : Nat} (hab : a + n ≤ b) (hk : k < n) (hl : b + n ≤ cs.length) (h : ∀ q, gv cs q = swR es a b k q) : ∀ q, gv (sw cs (a + k) (b + k)) q = swR es a b (k + 1) q := by
  intro q
  rw [gv_sw (by omega) (by omega), h (a + k), h (b + k), h q]
  unfold swR
  repeat' split
  all_goals first | rfl | (congr 1; omega) | (exfalso; omega)
theorem rtR_left {cs gs : List Int} {m : Nat} {i j : Nat} (hi : j < i) (hj : 0 < j) (hia : i ≤ m) (hg : ∀ q, gv gs q = swR cs (m - i) m j q) : ∀ q, rtR cs (m - i) m (m + j) q = rtR gs (m - (i - j)) m (m + j) q := by
  intro q
  unfold rtR
  rw [hg q, hg (q + (m - (m - (i - j)))), hg (q - (m + j - m))]
  unfold swR
  repeat' split
  all_goals first | rfl | (congr 1; omega) | (exfalso; omega)
theorem rtR_right {cs gs : List Int} {m : Nat} {i j : Nat} (hi : i < j) (hj : 0 < i) (hia : i ≤ m) (hg : ∀ q, gv gs q = swR cs (m - i) (m + j - i) i q) : ∀ q, rtR cs (m - i) m (m + j) q = rtR gs (m - i) m (m + (j - i)) q := by
  intro q
  unfold rtR
  rw [hg q, hg (q + (m - (m - i))), hg (q - (m + (j - i) - m))]
  unfold swR
  repeat' split
  all_goals first | rfl | (congr 1; omega) | (exfalso; omega)
theorem rtR_even {cs gs : List Int} {m : Nat} {i : Nat} (hia : i ≤ m) (hg : ∀ q, gv gs q = swR cs (m - i) m i q) : ∀ q, rtR cs (m - i) m (m + i) q = gv gs q := by
  intro q
  rw [hg q]
  unfold rtR swR
  repeat' split
  all_goals first | rfl | (congr 1; omega) | (exfalso; omega)
set_option maxRecDepth 100000 in
theorem swapR_c {h : Heap} {id len cap : Nat} {ex ex' : Bool} {es : List Int} {a b n : Nat} {fv : AV} {Q : AV → Heap → Prop} (hb : len < 1000000000) (hid : h[id]? = some (.arr 1 (List.map intE es) ex')) (hl : len ≤ es.length) (hab : a + n ≤ b) (hbl : b + n ≤ len)
    (hq : ∀ gs : List Int, Sm es gs a (b + n) → (∀ q, gv gs q = swR es a b n q) → Q (.tup []) (h.set id (.arr 1 (List.map intE gs) ex'))) :
    ACalls Tryz.prog 109 [.osl id 1 0 len cap ex, .int .i64 a, .int .i64 b, .int .i64 n, fv] h Q := by
  have hlt : id < h.length := (List.getElem?_eq_some_iff.1 hid).1
  have hse : ∀ o : Ob, (h.set id o)[id]? = some o := fun o => List.getElem?_set_self hlt
  refine wp109 rfl rfl ?_
  simp (maxSteps := 4000000) +contextual only [↓packA, ↓reduceIte, packB, pureOp, quietOp, loadOp, quietB, fr0, cellsK, implies_true, ite_true, ite_false, eq_self, ne_eq, reduceCtorEq, Nat.reduceLT, Nat.reduceLeDiff, Nat.reduceAdd, Nat.reduceMul, Nat.reduceBEq, Nat.reduceEqDiff, Int.reduceToNat, Int.reduceLT, Int.reduceLE, Nat.reduceSub, pl109, ft3, ft22]
  refine LoopK.intro (fun m u h1 => ∃ (k : Nat) (cs : List Int), m = n - k ∧ k ≤ n ∧ Sm es cs a (b + n) ∧ (∀ q, gv cs q = swR es a b k q) ∧ u 0 = .osl id 1 0 len cap ex ∧ u 1 = .int .i64 a ∧ u 2 = .int .i64 b ∧ u 3 = .int .i64 n ∧ u 10 = .int .i64 k ∧ h1 = h.set id (.arr 1 (List.map intE cs) ex')) n ⟨0, es, rfl, Nat.zero_le _, Sm.rfl', fun q => ?_, ?_⟩ ?_
  · unfold swR; rw [if_neg (by omega), if_neg (by omega)]
  · simp (maxSteps := 4000000) only [↓packA, ↓reduceIte, packB, pureOp, quietOp, loadOp, quietB, fr0, cellsK, implies_true, ite_true, ite_false, eq_self, ne_eq, reduceCtorEq, Nat.reduceLT, Nat.reduceLeDiff, Nat.reduceAdd, Nat.reduceMul, Nat.reduceBEq, Nat.reduceEqDiff, Int.reduceToNat, Int.reduceLT, Int.reduceLE, Nat.reduceSub, pl109, ft3, ft22, set_same hid, Int.natCast_zero]
  rintro m u h1 ⟨k, cs, rfl, hk, hs, hg, u0, u1, u2, u3, u10, rfl⟩
  have hcl := hs.len
  have hak : ((a : Int) + (k : Int)).toNat = a + k := by omega
  have hbk : ((b : Int) + (k : Int)).toNat = b + k := by omega
  simp (maxSteps := 4000000) +contextual only [↓packA, ↓reduceIte, packB, pureOp, quietOp, loadOp, quietB, fr0, cellsK, implies_true, ite_true, ite_false, eq_self, ne_eq, reduceCtorEq, Nat.reduceLT, Nat.reduceLeDiff, Nat.reduceAdd, Nat.reduceMul, Nat.reduceBEq, Nat.reduceEqDiff, Int.reduceToNat, Int.reduceLT, Int.reduceLE, Nat.reduceSub, pl109, ft3, ft22, u0, u1, u2, u3, u10, hse, List.set_set, hak, hbk]
  refine ⟨fun h2 => ⟨by omega, by omega, by omega, by omega, by omega, by omega, by omega, by omega, by omega, by omega, by omega, by omega, by omega, .inl ⟨n - (k + 1), by omega, k + 1, sw cs (a + k) (b + k), rfl, by omega, hs.trans (Sm.sw (by omega) (by omega) (by omega)), swR_step hab (by omega) (by omega) hg, by omega, rfl⟩⟩, fun h2 => ?_⟩
  obtain rfl : k = n := by omega
  exact hq cs hs hg
end Go.Proofs.YtgdlkhgfehclpaaGreat
end

section
/- Blocks change places; insertion sort. No condition. -/
namespace Go.Proofs.YtgdlkhgfehclpaaGreat
open Go Go.AL
set_option linter.unusedVariables false
set_option linter.unusedSimpArgs false
set_option maxRecDepth 100000 in
theorem rotate_c {h : Heap} {id len cap : Nat} {ex ex' : Bool} {es : List Int} {a m b : Nat} {fv : AV} {Q : AV → Heap → Prop} (hb : len < 1000000000) (hid : h[id]? = some (.arr 1 (List.map intE es) ex')) (hl : len ≤ es.length) (ham : a < m) (hmb : m < b) (hbl : b ≤ len)
    (hq : ∀ gs : List Int, Sm es gs a b → (∀ q, gv gs q = rtR es a m b q) → Q (.tup []) (h.set id (.arr 1 (List.map intE gs) ex'))) :
    ACalls Tryz.prog 108 [.osl id 1 0 len cap ex, .int .i64 a, .int .i64 m, .int .i64 b, fv] h Q := by
  have hlt : id < h.length := (List.getElem?_eq_some_iff.1 hid).1
  have hse : ∀ o : Ob, (h.set id o)[id]? = some o := fun o => List.getElem?_set_self hlt
  refine wp108 rfl rfl ?_
  simp (maxSteps := 4000000) +contextual only [↓packA, ↓reduceIte, packB, pureOp, quietOp, loadOp, quietB, fr0, cellsK, implies_true, ite_true, ite_false, eq_self, ne_eq, reduceCtorEq, Nat.reduceLT, Nat.reduceLeDiff, Nat.reduceAdd, Nat.reduceMul, Nat.reduceBEq, Nat.reduceEqDiff, Int.reduceToNat, Int.reduceLT, Int.reduceLE, Nat.reduceSub, pl108, ft3, ft22, ft94]
  refine ⟨by omega, by omega, ?_⟩
  refine LoopK.intro (fun w u h1 => ∃ (i j : Nat) (cs : List Int), w = i + j ∧ 0 < i ∧ 0 < j ∧ a + i ≤ m ∧ m + j ≤ b ∧ Sm es cs a b ∧ (∀ q, rtR es a m b q = rtR cs (m - i) m (m + j) q) ∧ u 0 = .osl id 1 0 len cap ex ∧ u 2 = .int .i64 m ∧ u 4 = fv ∧ u 10 = .int .i64 i ∧ u 11 = .int .i64 j ∧ h1 = h.set id (.arr 1 (List.map intE cs) ex')) (m - a + (b - m)) ⟨m - a, b - m, es, rfl, by omega, by omega, by omega, by omega, Sm.rfl', fun q => ?_, ?_⟩ ?_
  · rw [show m - (m - a) = a by omega, show m + (b - m) = b by omega]
  · simp (maxSteps := 4000000) only [↓packA, ↓reduceIte, packB, pureOp, quietOp, loadOp, quietB, fr0, cellsK, implies_true, ite_true, ite_false, eq_self, ne_eq, reduceCtorEq, Nat.reduceLT, Nat.reduceLeDiff, Nat.reduceAdd, Nat.reduceMul, Nat.reduceBEq, Nat.reduceEqDiff, Int.reduceToNat, Int.reduceLT, Int.reduceLE, Nat.reduceSub, pl108, ft3, ft22, ft94, set_same hid]
    omega
  rintro w u h1 ⟨i, j, cs, rfl, hi, hj, hia, hjb, hs, hg, u0, u2, u4, u10, u11, rfl⟩
  have hcl := hs.len
  have e1 : (m : Int) - (i : Int) = ((m - i : Nat) : Int) := by omega
  have e2 : j < i → (i : Int) - (j : Int) = ((i - j : Nat) : Int) := by omega
  have e3 : i < j → (m : Int) + (j : Int) - (i : Int) = ((m + j - i : Nat) : Int) := by omega
  have e4 : i < j → (j : Int) - (i : Int) = ((j - i : Nat) : Int) := by omega
  simp (maxSteps := 4000000) +contextual only [↓packA, ↓reduceIte, packB, pureOp, quietOp, loadOp, quietB, fr0, cellsK, implies_true, ite_true, ite_false, eq_self, ne_eq, reduceCtorEq, Nat.reduceLT, Nat.reduceLeDiff, Nat.reduceAdd, Nat.reduceMul, Nat.reduceBEq, Nat.reduceEqDiff, Int.reduceToNat, Int.reduceLT, Int.reduceLE, Nat.reduceSub, pl108, ft3, ft22, ft94, u0, u2, u4, u10, u11, hse, List.set_set, e1]
  refine ⟨fun h2 => ⟨fun h3 => ⟨by omega, swapR_c (es := cs) (by omega) (hse _) (by omega) (by omega) (by omega) fun gs hs2 hg2 => ?_⟩, fun h3 => ⟨by omega, by omega, by omega, ?_⟩⟩, fun h2 => ⟨by omega, ?_⟩⟩
  · simp (maxSteps := 4000000) +contextual only [↓packA, ↓reduceIte, packB, pureOp, quietOp, loadOp, quietB, fr0, cellsK, implies_true, ite_true, ite_false, eq_self, ne_eq, reduceCtorEq, Nat.reduceLT, Nat.reduceLeDiff, Nat.reduceAdd, Nat.reduceMul, Nat.reduceBEq, Nat.reduceEqDiff, Int.reduceToNat, Int.reduceLT, Int.reduceLE, Nat.reduceSub, pl108, ft3, ft22, ft94, u0, u2, u4, u10, u11, hse, List.set_set, e2 (by omega)]
    exact ⟨by omega, .inl ⟨i - j + j, by omega, i - j, j, gs, rfl, by omega, by omega, by omega, by omega, hs.trans (hs2.wide (by omega) (by omega)), fun q => (hg q).trans (rtR_left (by omega) hj (by omega) hg2 q), rfl, rfl, rfl⟩⟩
  · rw [e3 (by omega)]
    refine swapR_c (es := cs) (by omega) (hse _) (by omega) (by omega) (by omega) fun gs hs2 hg2 => ?_
    simp (maxSteps := 4000000) +contextual only [↓packA, ↓reduceIte, packB, pureOp, quietOp, loadOp, quietB, fr0, cellsK, implies_true, ite_true, ite_false, eq_self, ne_eq, reduceCtorEq, Nat.reduceLT, Nat.reduceLeDiff, Nat.reduceAdd, Nat.reduceMul, Nat.reduceBEq, Nat.reduceEqDiff, Int.reduceToNat, Int.reduceLT, Int.reduceLE, Nat.reduceSub, pl108, ft3, ft22, ft94, u0, u2, u4, u10, u11, hse, List.set_set, e4 (by omega)]
    exact ⟨by omega, .inl ⟨i + (j - i), by omega, i, j - i, gs, rfl, by omega, by omega, by omega, by omega, hs.trans (hs2.wide (by omega) (by omega)), fun q => (hg q).trans (rtR_right (by omega) hi (by omega) hg2 q), rfl, rfl, rfl⟩⟩
  · obtain rfl : i = j := by omega
    rw [e1]
    refine swapR_c (es := cs) (by omega) (hse _) (by omega) (by omega) (by omega) fun gs hs2 hg2 => ?_
    simp (maxSteps := 4000000) +contextual only [↓packA, ↓reduceIte, packB, pureOp, quietOp, loadOp, quietB, fr0, cellsK, implies_true, ite_true, ite_false, eq_self, ne_eq, reduceCtorEq, Nat.reduceLT, Nat.reduceLeDiff, Nat.reduceAdd, Nat.reduceMul, Nat.reduceBEq, Nat.reduceEqDiff, Int.reduceToNat, Int.reduceLT, Int.reduceLE, Nat.reduceSub, pl108, ft3, ft22, ft94, u0, u2, u4, u10, u11, hse, List.set_set]
    exact hq gs (hs.trans (hs2.wide (by omega) (by omega))) fun q => ((hg q).trans (rtR_even (by omega) hg2 q)).symm
end Go.Proofs.YtgdlkhgfehclpaaGreat
end

section
/- Insertion sort. No condition. -/
namespace Go.Proofs.YtgdlkhgfehclpaaGreat
open Go Go.AL
set_option linter.unusedVariables false
set_option linter.unusedSimpArgs false
/-- What the compare of two vertices answers. -/
def Cmp (pid : Nat) (o : Ob) (n : Int) (d : Int → Int) : Prop := ∀ {x y : Int} {h : Heap} {Q : AV → Heap → Prop}, h[pid]? = some o → (0 ≤ x ∧ x < n) → (0 ≤ y ∧ y < n) → (∀ k : Int, (k < 0 ↔ d y < d x) → Q (.int .i64 k) h) → ACalls Tryz.prog 84 [.int .i64 x, .int .i64 y, .op pid 4 0 0] h Q
def Dom (n : Int) (es : List Int) (a b : Nat) : Prop := ∀ i, a ≤ i → i < b → 0 ≤ gv es i ∧ gv es i < n
set_option maxRecDepth 100000 in
theorem ins_c {pid : Nat} {o : Ob} {n : Int} {d : Int → Int} (hcmp : Cmp pid o n d) {h : Heap} {id len cap : Nat} {ex ex' : Bool} {es : List Int} {a b : Nat} {Q : AV → Heap → Prop} (hb : len < 1000000000) (hid : h[id]? = some (.arr 1 (List.map intE es) ex')) (hp : h[pid]? = some o) (hne : id ≠ pid) (hl : len ≤ es.length) (hab : a ≤ b) (hbl : b ≤ len) (hdom : Dom n es a b) (hu : Up es a b)
    (hq : ∀ gs : List Int, Sm es gs a b → Sd d gs a b → Q (.tup []) (h.set id (.arr 1 (List.map intE gs) ex'))) :
    ACalls Tryz.prog 106 [.osl id 1 0 len cap ex, .int .i64 a, .int .i64 b, .fn (.func 84) [] [.op pid 4 0 0]] h Q := by
  have hlt : id < h.length := (List.getElem?_eq_some_iff.1 hid).1
  have hse : ∀ o : Ob, (h.set id o)[id]? = some o := fun o => List.getElem?_set_self hlt
  have hsp : ∀ o' : Ob, (h.set id o')[pid]? = some o := fun o' => by rw [List.getElem?_set_ne hne]; exact hp
  refine wp106 rfl rfl ?_
  simp (maxSteps := 4000000) +contextual only [↓packA, ↓reduceIte, packB, pureOp, quietOp, loadOp, quietB, fr0, cellsK, implies_true, ite_true, ite_false, eq_self, ne_eq, reduceCtorEq, Nat.reduceLT, Nat.reduceLeDiff, Nat.reduceAdd, Nat.reduceMul, Nat.reduceBEq, Nat.reduceEqDiff, Int.reduceToNat, Int.reduceLT, Int.reduceLE, Nat.reduceSub, pl106, ft3, ft22]
  refine ⟨by omega, ?_⟩
  refine LoopK.intro (fun w u h1 => ∃ (i : Nat) (cs : List Int), w = b + 1 - i ∧ a < i ∧ (i ≤ b ∨ i = a + 1) ∧ Sm es cs a (min i b) ∧ Sd d cs a (min i b) ∧ u 0 = .osl id 1 0 len cap ex ∧ u 1 = .int .i64 a ∧ u 2 = .int .i64 b ∧ u 3 = .fn (.func 84) [] [.op pid 4 0 0] ∧ u 8 = .int .i64 i ∧ h1 = h.set id (.arr 1 (List.map intE cs) ex')) (b + 1 - (a + 1)) ⟨a + 1, es, rfl, by omega, by omega, Sm.rfl', fun i j h1 h2 h3 => by omega, ?_⟩ ?_
  · simp (maxSteps := 4000000) only [↓packA, ↓reduceIte, packB, pureOp, quietOp, loadOp, quietB, fr0, cellsK, implies_true, ite_true, ite_false, eq_self, ne_eq, reduceCtorEq, Nat.reduceLT, Nat.reduceLeDiff, Nat.reduceAdd, Nat.reduceMul, Nat.reduceBEq, Nat.reduceEqDiff, Int.reduceToNat, Int.reduceLT, Int.reduceLE, Nat.reduceSub, pl106, ft3, ft22, set_same hid]
    omega
  rintro w u h1 ⟨i, cs, rfl, hai, hib, hs, hd, u0, u1, u2, u3, u8, rfl⟩
  have hcl := hs.len
  simp (maxSteps := 4000000) +contextual only [↓packA, ↓reduceIte, packB, pureOp, quietOp, loadOp, quietB, fr0, cellsK, implies_true, ite_true, ite_false, eq_self, ne_eq, reduceCtorEq, Nat.reduceLT, Nat.reduceLeDiff, Nat.reduceAdd, Nat.reduceMul, Nat.reduceBEq, Nat.reduceEqDiff, Int.reduceToNat, Int.reduceLT, Int.reduceLE, Nat.reduceSub, pl106, ft3, ft22, u0, u1, u2, u3, u8]
  refine ⟨fun h2 => ?_, fun h2 => ?_⟩
  · rw [show min i b = i by omega] at hs hd
    refine LoopK.intro (fun w u h1 => ∃ (j : Nat) (cs : List Int), w = j - a ∧ a ≤ j ∧ j ≤ i ∧ Ins d es cs a i j ∧ u 0 = .osl id 1 0 len cap ex ∧ u 1 = .int .i64 a ∧ u 2 = .int .i64 b ∧ u 3 = .fn (.func 84) [] [.op pid 4 0 0] ∧ u 8 = .int .i64 i ∧ u 9 = .int .i64 j ∧ h1 = h.set id (.arr 1 (List.map intE cs) ex')) (i - a) ⟨i, cs, rfl, by omega, Nat.le_refl _, Ins.start hu (by omega) (by omega) hs hd, ?_⟩ ?_
    · simp (maxSteps := 4000000) only [↓packA, ↓reduceIte, packB, pureOp, quietOp, loadOp, quietB, fr0, cellsK, implies_true, ite_true, ite_false, eq_self, ne_eq, reduceCtorEq, Nat.reduceLT, Nat.reduceLeDiff, Nat.reduceAdd, Nat.reduceMul, Nat.reduceBEq, Nat.reduceEqDiff, Int.reduceToNat, Int.reduceLT, Int.reduceLE, Nat.reduceSub, pl106, ft3, ft22, u0, u1, u2, u3, u8]
    clear hs hd hcl u0 u1 u2 u3 u8
    rintro w u h1 ⟨j, cs, rfl, haj, hji, hI, u0, u1, u2, u3, u8, u9, rfl⟩
    have hcl := hI.sm.len
    have hdm : ∀ q, a ≤ q → q < b → 0 ≤ cs.getD q default ∧ cs.getD q default < n := hI.sm.all (p := fun x => 0 ≤ x ∧ x < n) (Nat.le_refl _) (by omega) hdom
    by_cases hja : a < j
    · have e1 : (j : Int) - 1 = ((j - 1 : Nat) : Int) := by omega
      have e2 : (a : Int) < (j : Int) := by omega
      simp (maxSteps := 4000000) only [↓packA, ↓reduceIte, packB, pureOp, quietOp, loadOp, quietB, fr0, cellsK, implies_true, ite_true, ite_false, eq_self, ne_eq, reduceCtorEq, Nat.reduceLT, Nat.reduceLeDiff, Nat.reduceAdd, Nat.reduceMul, Nat.reduceBEq, Nat.reduceEqDiff, Int.reduceToNat, Int.reduceLT, Int.reduceLE, Nat.reduceSub, pl106, ft3, ft22, u0, u1, u2, u3, u8, u9, hse, e1, e2]
      refine ⟨by omega, by omega, by omega, by omega, by omega, hcmp (hsp _) (hdm _ (by omega) (by omega)) (hdm _ (by omega) (by omega)) fun k hk => ?_⟩
      simp (maxSteps := 4000000) only [↓packA, ↓reduceIte, packB, pureOp, quietOp, loadOp, quietB, fr0, cellsK, implies_true, ite_true, ite_false, eq_self, ne_eq, reduceCtorEq, Nat.reduceLT, Nat.reduceLeDiff, Nat.reduceAdd, Nat.reduceMul, Nat.reduceBEq, Nat.reduceEqDiff, Int.reduceToNat, Int.reduceLT, Int.reduceLE, Nat.reduceSub, pl106, ft3, ft22, u0, u1, u2, u3, u8, u9, hse, e1, e2, List.set_set]
      refine ⟨fun h3 => ⟨by omega, by omega, by omega, by omega, by omega, by omega, by omega, by omega, by omega, by omega, by omega, .inl ⟨j - 1 - a, by omega, j - 1, sw cs j (j - 1), rfl, by omega, by omega, hI.step hja hji (by omega) (hk.1 h3), rfl, rfl⟩⟩, fun h3 => ⟨by omega, .inl ⟨b + 1 - (i + 1), by omega, i + 1, cs, rfl, by omega, by omega, ?_, ?_, by omega, rfl⟩⟩⟩
      · rw [show min (i + 1) b = i + 1 by omega]; exact hI.sm
      · rw [show min (i + 1) b = i + 1 by omega]; exact hI.stop haj hji (.inr fun h4 => absurd (hk.2 h4) (by omega))
    · have e2 : ¬ (a : Int) < (j : Int) := by omega
      simp (maxSteps := 4000000) only [↓packA, ↓reduceIte, packB, pureOp, quietOp, loadOp, quietB, fr0, cellsK, implies_true, ite_true, ite_false, eq_self, ne_eq, reduceCtorEq, Nat.reduceLT, Nat.reduceLeDiff, Nat.reduceAdd, Nat.reduceMul, Nat.reduceBEq, Nat.reduceEqDiff, Int.reduceToNat, Int.reduceLT, Int.reduceLE, Nat.reduceSub, pl106, ft3, ft22, u0, u1, u2, u3, u8, u9, hse, e2]
      refine ⟨by omega, .inl ⟨b + 1 - (i + 1), by omega, i + 1, cs, rfl, by omega, by omega, ?_, ?_, by omega, rfl⟩⟩
      · rw [show min (i + 1) b = i + 1 by omega]; exact hI.sm
      · rw [show min (i + 1) b = i + 1 by omega]; exact hI.stop haj hji (.inl (by omega))
  · rw [show min i b = b by omega] at hs hd
    exact hq cs hs hd
end Go.Proofs.YtgdlkhgfehclpaaGreat
end

section
/- The symmetric merge. No condition. -/
namespace Go.Proofs.YtgdlkhgfehclpaaGreat
open Go Go.AL
set_option linter.unusedVariables false
set_option linter.unusedSimpArgs false
theorem asx_assoc {P : Program} {n : Nat} {pl : Nat → Plan} {x y z : Code} {Q : Exit → Fr → Heap → Prop} {a : Fr} {h : Heap} : asx P n pl (.seq x (.seq y z)) Q a h = asx P n pl (.seq (.seq x y) z) Q a h := by
  rw [asx_seq, asx_seq, asx_seq]
  congr 1
  funext e u v
  cases e <;> rfl
theorem half_eq {i j : Nat} (h : i + j < 10000000000) : (IntKind.u64.wrap ((i : Int) + (j : Int))).fdiv (2 ^ min 1 IntKind.u64.bits) = (((i + j) / 2 : Nat) : Int) := by
  have e : IntKind.u64.wrap ((i : Int) + (j : Int)) = (i : Int) + j := by
    simp [IntKind.wrap, IntKind.bits, IntKind.signed]
    omega
  rw [e, show (2 : Int) ^ min 1 IntKind.u64.bits = 2 from rfl, Int.fdiv_eq_ediv_of_nonneg _ (by omega)]
  omega
set_option maxRecDepth 100000 in
theorem merge1_c {pid : Nat} {o : Ob} {n : Int} {d : Int → Int} (hcmp : Cmp pid o n d) {h : Heap} {id len cap : Nat} {ex ex' : Bool} {es : List Int} {a m b : Nat} {Q : AV → Heap → Prop} (hb : len < 1000000000) (hid : h[id]? = some (.arr 1 (List.map intE es) ex')) (hp : h[pid]? = some o) (hne : id ≠ pid) (hl : len ≤ es.length) (ham : m = a + 1) (hmb : m < b) (hbl : b ≤ len) (hdom : Dom n es a b)
    (hr : Sd d es m b) (hx : Xn es a m m b)
    (hq : ∀ gs : List Int, Sm es gs a b → Sd d gs a b → Q (.tup []) (h.set id (.arr 1 (List.map intE gs) ex'))) :
    ACalls Tryz.prog 107 [.osl id 1 0 len cap ex, .int .i64 a, .int .i64 m, .int .i64 b, .fn (.func 84) [] [.op pid 4 0 0]] h Q := by
  have hlt : id < h.length := (List.getElem?_eq_some_iff.1 hid).1
  have hse : ∀ o : Ob, (h.set id o)[id]? = some o := fun o => List.getElem?_set_self hlt
  have e1 : (m : Int) - (a : Int) = 1 := by omega
  refine wp107 rfl rfl ?_
  simp (maxSteps := 4000000) only [↓packA, ↓reduceIte, packB, pureOp, quietOp, loadOp, quietB, fr0, cellsK, implies_true, ite_true, ite_false, eq_self, ne_eq, reduceCtorEq, Nat.reduceLT, Nat.reduceLeDiff, Nat.reduceAdd, Nat.reduceMul, Nat.reduceBEq, Nat.reduceEqDiff, Int.reduceToNat, Int.reduceLT, Int.reduceLE, Nat.reduceSub, pl107, ft3, ft4, ft22, ft94, ft168, e1]
  refine LoopK.intro (fun w u h1 => ∃ (i j : Nat), w = j - i ∧ m ≤ i ∧ i ≤ j ∧ j ≤ b ∧ (i = m ∨ ltD d (gv es (i - 1)) (gv es a)) ∧ (j = b ∨ ltD d (gv es a) (gv es j)) ∧ u 0 = .osl id 1 0 len cap ex ∧ u 1 = .int .i64 a ∧ u 4 = .fn (.func 84) [] [.op pid 4 0 0] ∧ u 10 = .int .i64 i ∧ u 11 = .int .i64 j ∧ h1 = h) (b - m) ⟨m, b, rfl, by omega, by omega, by omega, .inl rfl, .inl rfl, ?_⟩ ?_
  · simp (maxSteps := 4000000) only [↓packA, ↓reduceIte, packB, pureOp, quietOp, loadOp, quietB, fr0, cellsK, implies_true, ite_true, ite_false, eq_self, ne_eq, reduceCtorEq, Nat.reduceLT, Nat.reduceLeDiff, Nat.reduceAdd, Nat.reduceMul, Nat.reduceBEq, Nat.reduceEqDiff, Int.reduceToNat, Int.reduceLT, Int.reduceLE, Nat.reduceSub, pl107, ft3, ft4, ft22, ft94, ft168]
  rintro w u h ⟨i, j, rfl, him, hij, hjb, lo, hi, u0, u1, u4, u10, u11, rfl⟩
  have hm := half_eq (i := i) (j := j) (by omega)
  by_cases hlt2 : i < j
  · have e2 : (i : Int) < (j : Int) := by omega
    simp (maxSteps := 4000000) only [↓packA, ↓reduceIte, packB, pureOp, quietOp, loadOp, quietB, fr0, cellsK, implies_true, ite_true, ite_false, eq_self, ne_eq, reduceCtorEq, Nat.reduceLT, Nat.reduceLeDiff, Nat.reduceAdd, Nat.reduceMul, Nat.reduceBEq, Nat.reduceEqDiff, Int.reduceToNat, Int.reduceLT, Int.reduceLE, Nat.reduceSub, pl107, ft3, ft4, ft22, ft94, ft168, u0, u1, u4, u10, u11, e2, hm, hid]
    refine ⟨by omega, by omega, by omega, by omega, by omega, by omega, hcmp hp (hdom _ (by omega) (by omega)) (hdom _ (by omega) (by omega)) fun k hk => ?_⟩
    have hn := hx a ((i + j) / 2) (by omega) (by omega) (by omega) (by omega)
    simp (maxSteps := 4000000) only [↓packA, ↓reduceIte, packB, pureOp, quietOp, loadOp, quietB, fr0, cellsK, implies_true, ite_true, ite_false, eq_self, ne_eq, reduceCtorEq, Nat.reduceLT, Nat.reduceLeDiff, Nat.reduceAdd, Nat.reduceMul, Nat.reduceBEq, Nat.reduceEqDiff, Int.reduceToNat, Int.reduceLT, Int.reduceLE, Nat.reduceSub, pl107, ft3, ft4, ft22, ft94, ft168, u0, u1, u4, u10, u11, e2, hm, hid]
    refine ⟨fun h3 => ⟨by omega, .inl ⟨j - ((i + j) / 2 + 1), by omega, (i + j) / 2 + 1, j, rfl, by omega, by omega, by omega, .inr (.inl (hk.1 h3)), hi, by omega, rfl⟩⟩, fun h3 => .inl ⟨(i + j) / 2 - i, by omega, i, (i + j) / 2, rfl, by omega, by omega, by omega, lo, .inr ?_, rfl, rfl⟩⟩
    have h4 : ¬ d (gv es a) < d (gv es ((i + j) / 2)) := fun h4 => absurd (hk.2 h4) (by omega)
    unfold ltD
    omega
  · have e2 : ¬ (i : Int) < (j : Int) := by omega
    obtain rfl : i = j := by omega
    simp (maxSteps := 4000000) only [↓packA, ↓reduceIte, packB, pureOp, quietOp, loadOp, quietB, fr0, cellsK, implies_true, ite_true, ite_false, eq_self, ne_eq, reduceCtorEq, Nat.reduceLT, Nat.reduceLeDiff, Nat.reduceAdd, Nat.reduceMul, Nat.reduceBEq, Nat.reduceEqDiff, Int.reduceToNat, Int.reduceLT, Int.reduceLE, Nat.reduceSub, pl107, ft3, ft4, ft22, ft94, ft168, u0, u1, u4, u10, u11, e2, hm, hid]
    refine LoopK.intro (fun w u h1 => ∃ (k : Nat) (cs : List Int), w = i - 1 - k ∧ a ≤ k ∧ k ≤ i - 1 ∧ Sm es cs a b ∧ (∀ q, a ≤ q → q < k → gv cs q = gv es (q + 1)) ∧ gv cs k = gv es a ∧ (∀ q, k < q → gv cs q = gv es q) ∧ u 0 = .osl id 1 0 len cap ex ∧ u 10 = .int .i64 i ∧ u 13 = .int .i64 k ∧ h1 = h.set id (.arr 1 (List.map intE cs) ex')) (i - 1 - a) ⟨a, es, rfl, by omega, by omega, Sm.rfl', fun q h1 h2 => by omega, rfl, fun q _ => rfl, ?_⟩ ?_
    · simp (maxSteps := 4000000) only [↓packA, ↓reduceIte, packB, pureOp, quietOp, loadOp, quietB, fr0, cellsK, implies_true, ite_true, ite_false, eq_self, ne_eq, reduceCtorEq, Nat.reduceLT, Nat.reduceLeDiff, Nat.reduceAdd, Nat.reduceMul, Nat.reduceBEq, Nat.reduceEqDiff, Int.reduceToNat, Int.reduceLT, Int.reduceLE, Nat.reduceSub, pl107, ft3, ft4, ft22, ft94, ft168, u0, u1, u4, u10, u11, set_same hid]
    clear u0 u1 u4 u10 u11
    rintro w u h1 ⟨k, cs, rfl, hak, hki, hs, c1, c2, c3, u0, u10, u13, rfl⟩
    have hcl := hs.len
    have e3 : (i : Int) - 1 = ((i - 1 : Nat) : Int) := by omega
    have e4 : (k : Int) + 1 = ((k + 1 : Nat) : Int) := by omega
    by_cases hlt3 : k < i - 1
    · have e5 : (k : Int) < ((i - 1 : Nat) : Int) := by omega
      simp (maxSteps := 4000000) only [↓packA, ↓reduceIte, packB, pureOp, quietOp, loadOp, quietB, fr0, cellsK, implies_true, ite_true, ite_false, eq_self, ne_eq, reduceCtorEq, Nat.reduceLT, Nat.reduceLeDiff, Nat.reduceAdd, Nat.reduceMul, Nat.reduceBEq, Nat.reduceEqDiff, Int.reduceToNat, Int.reduceLT, Int.reduceLE, Nat.reduceSub, pl107, ft3, ft4, ft22, ft94, ft168, u0, u10, u13, hse, e3, e4, e5, List.set_set]
      have g : ∀ q, gv (sw cs k (k + 1)) q = if q = k + 1 then gv cs k else if q = k then gv cs (k + 1) else gv cs q := fun q => gv_sw (by omega) (by omega)
      refine ⟨by omega, by omega, by omega, by omega, by omega, by omega, by omega, by omega, by omega, by omega, by omega, by omega, .inl ⟨i - 1 - (k + 1), by omega, k + 1, sw cs k (k + 1), rfl, by omega, by omega, hs.trans (Sm.sw (by omega) (by omega) (by omega)), fun q h1 h2 => ?_, ?_, fun q h1 => ?_, rfl, rfl⟩⟩
      · rw [g, if_neg (by omega)]
        by_cases e : q = k
        · rw [if_pos e, c3 _ (by omega), e]
        · rw [if_neg e, c1 q h1 (by omega)]
      · rw [g, if_pos rfl, c2]
      · rw [g, if_neg (by omega), if_neg (by omega), c3 q (by omega)]
    · have e5 : ¬ (k : Int) < ((i - 1 : Nat) : Int) := by omega
      obtain rfl : k = i - 1 := by omega
      simp (maxSteps := 4000000) only [↓packA, ↓reduceIte, packB, pureOp, quietOp, loadOp, quietB, fr0, cellsK, implies_true, ite_true, ite_false, eq_self, ne_eq, reduceCtorEq, Nat.reduceLT, Nat.reduceLeDiff, Nat.reduceAdd, Nat.reduceMul, Nat.reduceBEq, Nat.reduceEqDiff, Int.reduceToNat, Int.reduceLT, Int.reduceLE, Nat.reduceSub, pl107, ft3, ft4, ft22, ft94, ft168, u0, u10, u13, hse, e3, e4, e5, List.set_set]
      refine ⟨by omega, hq cs hs (ins_left (i := i) (by rw [← ham]; exact hr) (by omega) hjb (by rw [← ham]; exact lo) hi c1 c2 fun q h1 => c3 q (by omega))⟩
set_option maxRecDepth 100000 in
theorem merge2_c {pid : Nat} {o : Ob} {n : Int} {d : Int → Int} (hcmp : Cmp pid o n d) {h : Heap} {id len cap : Nat} {ex ex' : Bool} {es : List Int} {a m b : Nat} {Q : AV → Heap → Prop} (hb : len < 1000000000) (hid : h[id]? = some (.arr 1 (List.map intE es) ex')) (hp : h[pid]? = some o) (hne : id ≠ pid) (hl : len ≤ es.length) (ham : a + 1 < m) (hmb : b = m + 1) (hbl : b ≤ len) (hdom : Dom n es a b)
    (hr : Sd d es a m) (hx : Xn es a m m b)
    (hq : ∀ gs : List Int, Sm es gs a b → Sd d gs a b → Q (.tup []) (h.set id (.arr 1 (List.map intE gs) ex'))) :
    ACalls Tryz.prog 107 [.osl id 1 0 len cap ex, .int .i64 a, .int .i64 m, .int .i64 b, .fn (.func 84) [] [.op pid 4 0 0]] h Q := by
  have hlt : id < h.length := (List.getElem?_eq_some_iff.1 hid).1
  have hse : ∀ o : Ob, (h.set id o)[id]? = some o := fun o => List.getElem?_set_self hlt
  have e0 : (m : Int) - (a : Int) = ((m - a : Nat) : Int) := by omega
  have e0' : ¬ ((m - a : Nat) : Int) = 1 := by omega
  have e1 : (b : Int) - (m : Int) = 1 := by omega
  refine wp107 rfl rfl ?_
  simp (maxSteps := 4000000) only [↓packA, ↓reduceIte, packB, pureOp, quietOp, loadOp, quietB, fr0, cellsK, implies_true, ite_true, ite_false, eq_self, ne_eq, reduceCtorEq, Nat.reduceLT, Nat.reduceLeDiff, Nat.reduceAdd, Nat.reduceMul, Nat.reduceBEq, Nat.reduceEqDiff, Int.reduceToNat, Int.reduceLT, Int.reduceLE, Nat.reduceSub, pl107, ft3, ft4, ft22, ft94, ft168, e0, e0', e1]
  refine ⟨by omega, ?_⟩
  refine LoopK.intro (fun w u h1 => ∃ (i j : Nat), w = j - i ∧ a ≤ i ∧ i ≤ j ∧ j ≤ m ∧ (i = a ∨ ltD d (gv es (i - 1)) (gv es m)) ∧ (j = m ∨ ltD d (gv es m) (gv es j)) ∧ u 0 = .osl id 1 0 len cap ex ∧ u 2 = .int .i64 m ∧ u 4 = .fn (.func 84) [] [.op pid 4 0 0] ∧ u 14 = .int .i64 i ∧ u 15 = .int .i64 j ∧ h1 = h) (m - a) ⟨a, m, rfl, by omega, by omega, by omega, .inl rfl, .inl rfl, ?_⟩ ?_
  · simp (maxSteps := 4000000) only [↓packA, ↓reduceIte, packB, pureOp, quietOp, loadOp, quietB, fr0, cellsK, implies_true, ite_true, ite_false, eq_self, ne_eq, reduceCtorEq, Nat.reduceLT, Nat.reduceLeDiff, Nat.reduceAdd, Nat.reduceMul, Nat.reduceBEq, Nat.reduceEqDiff, Int.reduceToNat, Int.reduceLT, Int.reduceLE, Nat.reduceSub, pl107, ft3, ft4, ft22, ft94, ft168]
  rintro w u h ⟨i, j, rfl, him, hij, hjb, lo, hi, u0, u1, u4, u10, u11, rfl⟩
  have hm := half_eq (i := i) (j := j) (by omega)
  by_cases hlt2 : i < j
  · have e2 : (i : Int) < (j : Int) := by omega
    simp (maxSteps := 4000000) only [↓packA, ↓reduceIte, packB, pureOp, quietOp, loadOp, quietB, fr0, cellsK, implies_true, ite_true, ite_false, eq_self, ne_eq, reduceCtorEq, Nat.reduceLT, Nat.reduceLeDiff, Nat.reduceAdd, Nat.reduceMul, Nat.reduceBEq, Nat.reduceEqDiff, Int.reduceToNat, Int.reduceLT, Int.reduceLE, Nat.reduceSub, pl107, ft3, ft4, ft22, ft94, ft168, u0, u1, u4, u10, u11, e2, hm, hid]
    refine ⟨by omega, by omega, by omega, by omega, by omega, by omega, hcmp hp (hdom _ (by omega) (by omega)) (hdom _ (by omega) (by omega)) fun k hk => ?_⟩
    have hn := hx ((i + j) / 2) m (by omega) (by omega) (by omega) (by omega)
    by_cases h3 : k < 0
    · simp (maxSteps := 4000000) only [↓packA, ↓reduceIte, packB, pureOp, quietOp, loadOp, quietB, fr0, cellsK, implies_true, ite_true, ite_false, eq_self, ne_eq, reduceCtorEq, Nat.reduceLT, Nat.reduceLeDiff, Nat.reduceAdd, Nat.reduceMul, Nat.reduceBEq, Nat.reduceEqDiff, Int.reduceToNat, Int.reduceLT, Int.reduceLE, Nat.reduceSub, pl107, ft3, ft4, ft22, ft94, ft168, u0, u1, u4, u10, u11, e2, hm, hid, h3]
      exact .inl ⟨(i + j) / 2 - i, by omega, i, (i + j) / 2, rfl, by omega, by omega, by omega, lo, .inr (.inl (hk.1 h3)), rfl, rfl⟩
    · simp (maxSteps := 4000000) only [↓packA, ↓reduceIte, packB, pureOp, quietOp, loadOp, quietB, fr0, cellsK, implies_true, ite_true, ite_false, eq_self, ne_eq, reduceCtorEq, Nat.reduceLT, Nat.reduceLeDiff, Nat.reduceAdd, Nat.reduceMul, Nat.reduceBEq, Nat.reduceEqDiff, Int.reduceToNat, Int.reduceLT, Int.reduceLE, Nat.reduceSub, pl107, ft3, ft4, ft22, ft94, ft168, u0, u1, u4, u10, u11, e2, hm, hid, h3]
      refine ⟨by omega, .inl ⟨j - ((i + j) / 2 + 1), by omega, (i + j) / 2 + 1, j, rfl, by omega, by omega, by omega, .inr ?_, hi, by omega, rfl⟩⟩
      have h4 : ¬ d (gv es ((i + j) / 2)) < d (gv es m) := fun h4 => h3 (hk.2 h4)
      rw [Nat.add_sub_cancel]
      unfold ltD
      omega
  · have e2 : ¬ (i : Int) < (j : Int) := by omega
    obtain rfl : i = j := by omega
    simp (maxSteps := 4000000) only [↓packA, ↓reduceIte, packB, pureOp, quietOp, loadOp, quietB, fr0, cellsK, implies_true, ite_true, ite_false, eq_self, ne_eq, reduceCtorEq, Nat.reduceLT, Nat.reduceLeDiff, Nat.reduceAdd, Nat.reduceMul, Nat.reduceBEq, Nat.reduceEqDiff, Int.reduceToNat, Int.reduceLT, Int.reduceLE, Nat.reduceSub, pl107, ft3, ft4, ft22, ft94, ft168, u0, u1, u4, u10, u11, e2, hm, hid]
    refine LoopK.intro (fun w u h1 => ∃ (k : Nat) (cs : List Int), w = k - i ∧ i ≤ k ∧ k ≤ m ∧ Sm es cs a b ∧ (∀ q, q < k → gv cs q = gv es q) ∧ gv cs k = gv es m ∧ (∀ q, k < q → q ≤ m → gv cs q = gv es (q - 1)) ∧ u 0 = .osl id 1 0 len cap ex ∧ u 14 = .int .i64 i ∧ u 17 = .int .i64 k ∧ h1 = h.set id (.arr 1 (List.map intE cs) ex')) (m - i) ⟨m, es, rfl, by omega, by omega, Sm.rfl', fun q _ => rfl, rfl, fun q h1 h2 => by omega, ?_⟩ ?_
    · simp (maxSteps := 4000000) only [↓packA, ↓reduceIte, packB, pureOp, quietOp, loadOp, quietB, fr0, cellsK, implies_true, ite_true, ite_false, eq_self, ne_eq, reduceCtorEq, Nat.reduceLT, Nat.reduceLeDiff, Nat.reduceAdd, Nat.reduceMul, Nat.reduceBEq, Nat.reduceEqDiff, Int.reduceToNat, Int.reduceLT, Int.reduceLE, Nat.reduceSub, pl107, ft3, ft4, ft22, ft94, ft168, u0, u1, u4, u10, u11, set_same hid]
    clear u0 u1 u4 u10 u11
    rintro w u h1 ⟨k, cs, rfl, hak, hki, hs, c1, c2, c3, u0, u10, u13, rfl⟩
    have hcl := hs.len
    by_cases hlt3 : i < k
    · have e3 : (k : Int) - 1 = ((k - 1 : Nat) : Int) := by omega
      have e5 : (i : Int) < (k : Int) := by omega
      simp (maxSteps := 4000000) only [↓packA, ↓reduceIte, packB, pureOp, quietOp, loadOp, quietB, fr0, cellsK, implies_true, ite_true, ite_false, eq_self, ne_eq, reduceCtorEq, Nat.reduceLT, Nat.reduceLeDiff, Nat.reduceAdd, Nat.reduceMul, Nat.reduceBEq, Nat.reduceEqDiff, Int.reduceToNat, Int.reduceLT, Int.reduceLE, Nat.reduceSub, pl107, ft3, ft4, ft22, ft94, ft168, u0, u10, u13, hse, e3, e5, List.set_set]
      have g : ∀ q, gv (sw cs k (k - 1)) q = if q = k - 1 then gv cs k else if q = k then gv cs (k - 1) else gv cs q := fun q => gv_sw (by omega) (by omega)
      refine ⟨by omega, by omega, by omega, by omega, by omega, by omega, by omega, by omega, by omega, by omega, by omega, .inl ⟨k - 1 - i, by omega, k - 1, sw cs k (k - 1), rfl, by omega, by omega, hs.trans (Sm.sw (by omega) (by omega) (by omega)), fun q h1 => ?_, ?_, fun q h1 h2 => ?_, rfl, rfl⟩⟩
      · rw [g, if_neg (by omega), if_neg (by omega), c1 q (by omega)]
      · rw [g, if_pos rfl, c2]
      · rw [g, if_neg (by omega)]
        by_cases e : q = k
        · rw [if_pos e, c1 _ (by omega), e]
        · rw [if_neg e, c3 q (by omega) h2]
    · have e5 : ¬ (i : Int) < (k : Int) := by omega
      obtain rfl : k = i := by omega
      simp (maxSteps := 4000000) only [↓packA, ↓reduceIte, packB, pureOp, quietOp, loadOp, quietB, fr0, cellsK, implies_true, ite_true, ite_false, eq_self, ne_eq, reduceCtorEq, Nat.reduceLT, Nat.reduceLeDiff, Nat.reduceAdd, Nat.reduceMul, Nat.reduceBEq, Nat.reduceEqDiff, Int.reduceToNat, Int.reduceLT, Int.reduceLE, Nat.reduceSub, pl107, ft3, ft4, ft22, ft94, ft168, u0, u10, u13, hse, e5, List.set_set]
      subst hmb
      exact hq cs hs (ins_right (i := k) hr (by omega) hjb lo hi c1 c2 c3)
end Go.Proofs.YtgdlkhgfehclpaaGreat
end

section
/- The symmetric merge, in general. No condition. -/
namespace Go.Proofs.YtgdlkhgfehclpaaGreat
open Go Go.AL
set_option linter.unusedVariables false
set_option linter.unusedSimpArgs false
set_option maxHeartbeats 4000000 in
set_option maxRecDepth 100000 in
theorem merge_c {pid : Nat} {o : Ob} {n : Int} {d : Int → Int} (hcmp : Cmp pid o n d) : ∀ (w : Nat) {h : Heap} {id len cap : Nat} {ex ex' : Bool} {es : List Int} {a m b : Nat} {Q : AV → Heap → Prop} (hw : b - a ≤ w) (hb : len < 1000000000) (hid : h[id]? = some (.arr 1 (List.map intE es) ex')) (hp : h[pid]? = some o) (hne : id ≠ pid) (hl : len ≤ es.length) (ham : a < m) (hmb : m < b) (hbl : b ≤ len) (hdom : Dom n es a b)
    (hL : Sd d es a m) (hR : Sd d es m b) (hx : Xn es a m m b)
    (hq : ∀ gs : List Int, Sm es gs a b → Sd d gs a b → Q (.tup []) (h.set id (.arr 1 (List.map intE gs) ex'))),
    ACalls Tryz.prog 107 [.osl id 1 0 len cap ex, .int .i64 a, .int .i64 m, .int .i64 b, .fn (.func 84) [] [.op pid 4 0 0]] h Q := by
  intro w
  induction w with
  | zero => intro h id len cap ex ex' es a m b Q hw; omega
  | succ w ih =>
  intro h id len cap ex ex' es a m b Q hw hb hid hp hne hl ham hmb hbl hdom hL hR hx hq
  by_cases h1 : m = a + 1
  · exact merge1_c hcmp hb hid hp hne hl h1 hmb hbl hdom hR hx hq
  by_cases h2 : b = m + 1
  · exact merge2_c hcmp hb hid hp hne hl (by omega) h2 hbl hdom hL hx hq
  have hlt : id < h.length := (List.getElem?_eq_some_iff.1 hid).1
  have hse : ∀ o : Ob, (h.set id o)[id]? = some o := fun o => List.getElem?_set_self hlt
  have hsp : ∀ o' : Ob, (h.set id o')[pid]? = some o := fun o' => by rw [List.getElem?_set_ne hne]; exact hp
  obtain ⟨mid, hmid⟩ : ∃ mid, (a + b) / 2 = mid := ⟨_, rfl⟩
  have e0 : (m : Int) - (a : Int) = ((m - a : Nat) : Int) := by omega
  have e0' : ¬ ((m - a : Nat) : Int) = 1 := by omega
  have e1 : (b : Int) - (m : Int) = ((b - m : Nat) : Int) := by omega
  have e1' : ¬ ((b - m : Nat) : Int) = 1 := by omega
  have hh := half_eq (i := a) (j := b) (by omega)
  rw [hmid] at hh
  refine wp107 rfl rfl ?_
  rw [asx_assoc, asx_assoc, asx_assoc, asx_assoc, asx_assoc, asx_assoc, asx_assoc]
  refine asx_cut (fun u h1 => ∃ s : Nat, Cut d es a m b s mid ∧ u 0 = .osl id 1 0 len cap ex ∧ u 1 = .int .i64 a ∧ u 2 = .int .i64 m ∧ u 3 = .int .i64 b ∧ u 4 = .fn (.func 84) [] [.op pid 4 0 0] ∧ u 18 = .int .i64 mid ∧ u 19 = .int .i64 (mid + m : Nat) ∧ u 20 = .int .i64 s ∧ h1 = h) ?_ fun u h hM => ?_
  · have e2 : (mid : Int) + (m : Int) = ((mid + m : Nat) : Int) := by omega
    have e3 : ((mid + m : Nat) : Int) - 1 = ((mid + m - 1 : Nat) : Int) := by omega
    simp (maxSteps := 4000000) only [↓packA, ↓reduceIte, packB, pureOp, quietOp, loadOp, quietB, fr0, cellsK, implies_true, ite_true, ite_false, eq_self, ne_eq, reduceCtorEq, Nat.reduceLT, Nat.reduceLeDiff, Nat.reduceAdd, Nat.reduceMul, Nat.reduceBEq, Nat.reduceEqDiff, Int.reduceToNat, Int.reduceLT, Int.reduceLE, Nat.reduceSub, pl107, ft3, ft4, ft22, ft94, ft168, e0, e0', e1, e1', hh, e2, e3]
    refine (fun body => ⟨by omega, by omega, by omega, by omega, by omega, fun h3 => ⟨by omega, by omega, LoopK.intro (fun w u h1 => ∃ (s r : Nat), w = r - s ∧ a ≤ s ∧ s ≤ r ∧ r ≤ m ∧ r ≤ mid ∧ m + mid ≤ b + s ∧ (s = a ∨ m + mid = b + s ∨ ltD d (gv es (s - 1)) (gv es (m + mid - s))) ∧ (r = m ∨ r = mid ∨ ltD d (gv es (m + mid - r - 1)) (gv es r)) ∧ u 0 = .osl id 1 0 len cap ex ∧ u 1 = .int .i64 a ∧ u 2 = .int .i64 m ∧ u 3 = .int .i64 b ∧ u 4 = .fn (.func 84) [] [.op pid 4 0 0] ∧ u 18 = .int .i64 mid ∧ u 19 = .int .i64 (mid + m : Nat) ∧ u 20 = .int .i64 s ∧ u 21 = .int .i64 r ∧ u 22 = .int .i64 (mid + m - 1 : Nat) ∧ h1 = h) (mid - (mid + m - b)) ⟨mid + m - b, mid, rfl, by omega, by omega, by omega, by omega, by omega, .inr (.inl (by omega)), .inr (.inl rfl), ?_⟩ body⟩,
      fun h3 => ⟨by omega, LoopK.intro _ (m - a) ⟨a, m, rfl, by omega, by omega, by omega, by omega, by omega, .inl rfl, .inl rfl, ?_⟩ body⟩⟩) ?_
    · rintro w u h ⟨s, r, rfl, c1, c2, c3, c4, c5, lo, hi, u0, u1, u2, u3, u4, u18, u19, u20, u21, u22, rfl⟩
      by_cases hlt2 : s < r
      · have hm := half_eq (i := s) (j := r) (by omega)
        obtain ⟨c, hc⟩ : ∃ c, (s + r) / 2 = c := ⟨_, rfl⟩
        rw [hc] at hm
        have e6 : (s : Int) < (r : Int) := by omega
        have e4 : ((mid + m - 1 : Nat) : Int) - (c : Int) = ((mid + m - 1 - c : Nat) : Int) := by omega
        simp (maxSteps := 4000000) only [↓packA, ↓reduceIte, packB, pureOp, quietOp, loadOp, quietB, fr0, cellsK, implies_true, ite_true, ite_false, eq_self, ne_eq, reduceCtorEq, Nat.reduceLT, Nat.reduceLeDiff, Nat.reduceAdd, Nat.reduceMul, Nat.reduceBEq, Nat.reduceEqDiff, Int.reduceToNat, Int.reduceLT, Int.reduceLE, Nat.reduceSub, pl107, ft3, ft4, ft22, ft94, ft168, u0, u1, u2, u3, u4, u18, u19, u20, u21, u22, e6, hm, e4, hid]
        refine ⟨by omega, by omega, by omega, by omega, by omega, by omega, by omega, hcmp hp (hdom _ (by omega) (by omega)) (hdom _ (by omega) (by omega)) fun k hk => ?_⟩
        have hn := hx c (mid + m - 1 - c) (by omega) (by omega) (by omega) (by omega)
        by_cases h3 : k < 0
        · simp (maxSteps := 4000000) only [↓packA, ↓reduceIte, packB, pureOp, quietOp, loadOp, quietB, fr0, cellsK, implies_true, ite_true, ite_false, eq_self, ne_eq, reduceCtorEq, Nat.reduceLT, Nat.reduceLeDiff, Nat.reduceAdd, Nat.reduceMul, Nat.reduceBEq, Nat.reduceEqDiff, Int.reduceToNat, Int.reduceLT, Int.reduceLE, Nat.reduceSub, pl107, ft3, ft4, ft22, ft94, ft168, u0, u1, u2, u3, u4, u18, u19, u20, u21, u22, e6, hm, e4, hid, h3]
          refine .inl ⟨c - s, by omega, s, c, rfl, by omega, by omega, by omega, by omega, by omega, lo, .inr (.inr ?_), rfl, rfl⟩
          rw [show m + mid - c - 1 = mid + m - 1 - c by omega]
          exact .inl (hk.1 h3)
        · simp (maxSteps := 4000000) only [↓packA, ↓reduceIte, packB, pureOp, quietOp, loadOp, quietB, fr0, cellsK, implies_true, ite_true, ite_false, eq_self, ne_eq, reduceCtorEq, Nat.reduceLT, Nat.reduceLeDiff, Nat.reduceAdd, Nat.reduceMul, Nat.reduceBEq, Nat.reduceEqDiff, Int.reduceToNat, Int.reduceLT, Int.reduceLE, Nat.reduceSub, pl107, ft3, ft4, ft22, ft94, ft168, u0, u1, u2, u3, u4, u18, u19, u20, u21, u22, e6, hm, e4, hid, h3]
          refine ⟨by omega, .inl ⟨r - (c + 1), by omega, c + 1, r, rfl, by omega, by omega, by omega, by omega, by omega, .inr (.inr ?_), hi, by omega, rfl⟩⟩
          have h4 : ¬ d (gv es c) < d (gv es (mid + m - 1 - c)) := fun h4 => h3 (hk.2 h4)
          rw [Nat.add_sub_cancel, show m + mid - (c + 1) = mid + m - 1 - c by omega]
          unfold ltD
          omega
      · have e6 : ¬ (s : Int) < (r : Int) := by omega
        obtain rfl : s = r := by omega
        simp (maxSteps := 4000000) only [↓packA, ↓reduceIte, packB, pureOp, quietOp, loadOp, quietB, fr0, cellsK, implies_true, ite_true, ite_false, eq_self, ne_eq, reduceCtorEq, Nat.reduceLT, Nat.reduceLeDiff, Nat.reduceAdd, Nat.reduceMul, Nat.reduceBEq, Nat.reduceEqDiff, Int.reduceToNat, Int.reduceLT, Int.reduceLE, Nat.reduceSub, pl107, ft3, ft4, ft22, ft94, ft168, u0, u1, u2, u3, u4, u18, u19, u20, u21, u22, e6]
        exact ⟨s, ⟨c1, c3, c4, c5, lo, hi⟩, rfl⟩
    · simp (maxSteps := 4000000) only [↓packA, ↓reduceIte, packB, pureOp, quietOp, loadOp, quietB, fr0, cellsK, implies_true, ite_true, ite_false, eq_self, ne_eq, reduceCtorEq, Nat.reduceLT, Nat.reduceLeDiff, Nat.reduceAdd, Nat.reduceMul, Nat.reduceBEq, Nat.reduceEqDiff, Int.reduceToNat, Int.reduceLT, Int.reduceLE, Nat.reduceSub, pl107, ft3, ft4, ft22, ft94, ft168]
      omega
    · simp (maxSteps := 4000000) only [↓packA, ↓reduceIte, packB, pureOp, quietOp, loadOp, quietB, fr0, cellsK, implies_true, ite_true, ite_false, eq_self, ne_eq, reduceCtorEq, Nat.reduceLT, Nat.reduceLeDiff, Nat.reduceAdd, Nat.reduceMul, Nat.reduceBEq, Nat.reduceEqDiff, Int.reduceToNat, Int.reduceLT, Int.reduceLE, Nat.reduceSub, pl107, ft3, ft4, ft22, ft94, ft168]
  obtain ⟨s, hC, u0, u1, u2, u3, u4, u18, u19, u20, rfl⟩ := hM
  have ⟨s0, s1, s2, s3, _, _⟩ := hC
  rw [asx_assoc]
  refine asx_cut (fun u h1 => ∃ gs : List Int, Sm es gs a b ∧ (∀ k, s ≤ k → k < mid → gv gs k = gv es (k + (m - s))) ∧ (∀ k, mid ≤ k → k < m + mid - s → gv gs k = gv es (k - (mid - s))) ∧ (∀ k, k < s ∨ m + mid - s ≤ k → gv gs k = gv es k) ∧ u 0 = .osl id 1 0 len cap ex ∧ u 1 = .int .i64 a ∧ u 3 = .int .i64 b ∧ u 4 = .fn (.func 84) [] [.op pid 4 0 0] ∧ u 18 = .int .i64 mid ∧ u 20 = .int .i64 s ∧ u 24 = .int .i64 (m + mid - s : Nat) ∧ h1 = h.set id (.arr 1 (List.map intE gs) ex')) ?_ fun u h1 hM => ?_
  · have e5 : ((mid + m : Nat) : Int) - (s : Int) = ((m + mid - s : Nat) : Int) := by omega
    have hsh := (set_same hid).symm
    by_cases r1 : s < m
    · have f1 : (s : Int) < (m : Int) := by omega
      by_cases r2 : m < m + mid - s
      · have f2 : (m : Int) < ((m + mid - s : Nat) : Int) := by omega
        simp (maxSteps := 4000000) only [↓packA, ↓reduceIte, packB, pureOp, quietOp, loadOp, quietB, fr0, cellsK, implies_true, ite_true, ite_false, eq_self, ne_eq, reduceCtorEq, Nat.reduceLT, Nat.reduceLeDiff, Nat.reduceAdd, Nat.reduceMul, Nat.reduceBEq, Nat.reduceEqDiff, Int.reduceToNat, Int.reduceLT, Int.reduceLE, Nat.reduceSub, pl107, ft3, ft4, ft22, ft94, ft168, u0, u1, u2, u3, u4, u18, u19, u20, e5, f1, f2]
        refine ⟨by omega, rotate_c hb hid hl r1 r2 (by omega) fun gs hs hg => ?_⟩
        simp (maxSteps := 4000000) only [↓packA, ↓reduceIte, packB, pureOp, quietOp, loadOp, quietB, fr0, cellsK, implies_true, ite_true, ite_false, eq_self, ne_eq, reduceCtorEq, Nat.reduceLT, Nat.reduceLeDiff, Nat.reduceAdd, Nat.reduceMul, Nat.reduceBEq, Nat.reduceEqDiff, Int.reduceToNat, Int.reduceLT, Int.reduceLE, Nat.reduceSub, pl107, ft3, ft4, ft22, ft94, ft168, u0, u1, u2, u3, u4, u18, u19, u20, e5, f1, f2]
        refine ⟨gs, hs.wide s0 (by omega), fun k k1 k2 => ?_, fun k k1 k2 => ?_, fun k k1 => ?_, rfl⟩
        · rw [hg k]; unfold rtR; rw [if_pos (by omega)]
        · rw [hg k]; unfold rtR; rw [if_neg (by omega), if_pos (by omega), show m + mid - s - m = mid - s by omega]
        · rw [hg k]; unfold rtR; rw [if_neg (by omega), if_neg (by omega)]
      · have f2 : ¬ (m : Int) < ((m + mid - s : Nat) : Int) := by omega
        simp (maxSteps := 4000000) only [↓packA, ↓reduceIte, packB, pureOp, quietOp, loadOp, quietB, fr0, cellsK, implies_true, ite_true, ite_false, eq_self, ne_eq, reduceCtorEq, Nat.reduceLT, Nat.reduceLeDiff, Nat.reduceAdd, Nat.reduceMul, Nat.reduceBEq, Nat.reduceEqDiff, Int.reduceToNat, Int.reduceLT, Int.reduceLE, Nat.reduceSub, pl107, ft3, ft4, ft22, ft94, ft168, u0, u1, u2, u3, u4, u18, u19, u20, e5, f1, f2]
        exact ⟨by omega, es, Sm.rfl', fun k k1 k2 => by omega, fun k k1 k2 => by rw [show k - (mid - s) = k by omega], fun k _ => rfl, hsh⟩
    · have f1 : ¬ (s : Int) < (m : Int) := by omega
      simp (maxSteps := 4000000) only [↓packA, ↓reduceIte, packB, pureOp, quietOp, loadOp, quietB, fr0, cellsK, implies_true, ite_true, ite_false, eq_self, ne_eq, reduceCtorEq, Nat.reduceLT, Nat.reduceLeDiff, Nat.reduceAdd, Nat.reduceMul, Nat.reduceBEq, Nat.reduceEqDiff, Int.reduceToNat, Int.reduceLT, Int.reduceLE, Nat.reduceSub, pl107, ft3, ft4, ft22, ft94, ft168, u0, u1, u2, u3, u4, u18, u19, u20, e5, f1]
      exact ⟨by omega, es, Sm.rfl', fun k k1 k2 => by rw [show k + (m - s) = k by omega], fun k k1 k2 => by omega, fun k _ => rfl, hsh⟩
  clear u0 u1 u2 u3 u4 u18 u19 u20
  obtain ⟨gs, hs, hle, hri, ho, u0, u1, u3, u4, u18, u20, u24, rfl⟩ := hM
  obtain ⟨e, he⟩ : ∃ e, m + mid - s = e := ⟨_, rfl⟩
  have hcl := hs.len
  have hA1 : Sd d gs a s := fun i j i1 i2 i3 => by rw [ho i (by omega), ho j (by omega)]; exact hL i j i1 i2 (by omega)
  have hA2 : Sd d gs s mid := fun i j i1 i2 i3 => by rw [hle i (by omega) (by omega), hle j (by omega) (by omega)]; exact hR _ _ (by omega) (by omega) (by omega)
  have hB1 : Sd d gs mid e := fun i j i1 i2 i3 => by rw [hri i (by omega) (by omega), hri j (by omega) (by omega)]; exact hL _ _ (by omega) (by omega) (by omega)
  have hB2 : Sd d gs e b := fun i j i1 i2 i3 => by rw [ho i (by omega), ho j (by omega)]; exact hR _ _ (by omega) (by omega) (by omega)
  have hXA : Xn gs a s s mid := fun i j i1 i2 j1 j2 => by rw [ho i (by omega), hle j (by omega) (by omega)]; exact hx _ _ (by omega) (by omega) (by omega) (by omega)
  have hXB : Xn gs mid e e b := fun i j i1 i2 j1 j2 => by rw [hri i (by omega) (by omega), ho j (by omega)]; exact hx _ _ (by omega) (by omega) (by omega) (by omega)
  have hX : Xd d gs a mid mid b := hC.cross hL hR (by omega) hle hri ho
  have hem : mid ≤ e ∧ e ≤ b := by omega
  rw [he] at u24
  clear hle hri ho hC he
  have hD : Dom n gs a b := hs.all (p := fun x => 0 ≤ x ∧ x < n) (Nat.le_refl _) (Nat.le_refl _) hdom
  refine asx_cut (fun u h1 => ∃ gs : List Int, Sm es gs a b ∧ Sd d gs a mid ∧ Sd d gs mid e ∧ Sd d gs e b ∧ Xn gs mid e e b ∧ Xd d gs a mid mid b ∧ u 0 = .osl id 1 0 len cap ex ∧ u 3 = .int .i64 b ∧ u 4 = .fn (.func 84) [] [.op pid 4 0 0] ∧ u 18 = .int .i64 mid ∧ u 24 = .int .i64 e ∧ h1 = h.set id (.arr 1 (List.map intE gs) ex')) ?_ fun u h1 hM => ?_
  · by_cases r1 : a < s
    · have f1 : (a : Int) < (s : Int) := by omega
      by_cases r2 : s < mid
      · have f2 : (s : Int) < (mid : Int) := by omega
        simp (maxSteps := 4000000) only [↓packA, ↓reduceIte, packB, pureOp, quietOp, loadOp, quietB, fr0, cellsK, implies_true, ite_true, ite_false, eq_self, ne_eq, reduceCtorEq, Nat.reduceLT, Nat.reduceLeDiff, Nat.reduceAdd, Nat.reduceMul, Nat.reduceBEq, Nat.reduceEqDiff, Int.reduceToNat, Int.reduceLT, Int.reduceLE, Nat.reduceSub, pl107, ft3, ft4, ft22, ft94, ft168, u0, u1, u3, u4, u18, u20, u24, f1, f2]
        refine ih (es := gs) (a := a) (m := s) (b := mid) (by omega) (by omega) (hse _) (hsp _) hne (by omega) r1 r2 (by omega) (fun i i1 i2 => hD i i1 (by omega)) hA1 hA2 hXA fun ks hk hkd => ?_
        simp (maxSteps := 4000000) only [↓packA, ↓reduceIte, packB, pureOp, quietOp, loadOp, quietB, fr0, cellsK, implies_true, ite_true, ite_false, eq_self, ne_eq, reduceCtorEq, Nat.reduceLT, Nat.reduceLeDiff, Nat.reduceAdd, Nat.reduceMul, Nat.reduceBEq, Nat.reduceEqDiff, Int.reduceToNat, Int.reduceLT, Int.reduceLE, Nat.reduceSub, pl107, ft3, ft4, ft22, ft94, ft168, u0, u1, u3, u4, u18, u20, u24, f1, f2, List.set_set]
        exact ⟨ks, hs.trans (hk.wide (Nat.le_refl _) (by omega)), hkd, hB1.off hk (.inr (Nat.le_refl _)), hB2.off hk (.inr (by omega)), hXB.perm hk (.inr (.inl (Nat.le_refl _))) (.inr (.inl (by omega))), hX.perm hk (.inl ⟨Nat.le_refl _, Nat.le_refl _⟩) (.inr (.inl (Nat.le_refl _))), rfl⟩
      · have f2 : ¬ (s : Int) < (mid : Int) := by omega
        simp (maxSteps := 4000000) only [↓packA, ↓reduceIte, packB, pureOp, quietOp, loadOp, quietB, fr0, cellsK, implies_true, ite_true, ite_false, eq_self, ne_eq, reduceCtorEq, Nat.reduceLT, Nat.reduceLeDiff, Nat.reduceAdd, Nat.reduceMul, Nat.reduceBEq, Nat.reduceEqDiff, Int.reduceToNat, Int.reduceLT, Int.reduceLE, Nat.reduceSub, pl107, ft3, ft4, ft22, ft94, ft168, u0, u1, u3, u4, u18, u20, u24, f1, f2]
        obtain rfl : s = mid := by omega
        exact ⟨gs, hs, hA1, hB1, hB2, hXB, hX, rfl⟩
    · have f1 : ¬ (a : Int) < (s : Int) := by omega
      simp (maxSteps := 4000000) only [↓packA, ↓reduceIte, packB, pureOp, quietOp, loadOp, quietB, fr0, cellsK, implies_true, ite_true, ite_false, eq_self, ne_eq, reduceCtorEq, Nat.reduceLT, Nat.reduceLeDiff, Nat.reduceAdd, Nat.reduceMul, Nat.reduceBEq, Nat.reduceEqDiff, Int.reduceToNat, Int.reduceLT, Int.reduceLE, Nat.reduceSub, pl107, ft3, ft4, ft22, ft94, ft168, u0, u1, u3, u4, u18, u20, u24, f1]
      obtain rfl : s = a := by omega
      exact ⟨gs, hs, hA2, hB1, hB2, hXB, hX, rfl⟩
  clear u0 u1 u3 u4 u18 u20 u24 hA1 hA2 hB1 hB2 hXA hXB hX hD hcl hs
  obtain ⟨gs, hs, hA, hB1, hB2, hXB, hX, u0, u3, u4, u18, u24, rfl⟩ := hM
  have hcl := hs.len
  have hD : Dom n gs a b := hs.all (p := fun x => 0 ≤ x ∧ x < n) (Nat.le_refl _) (Nat.le_refl _) hdom
  by_cases r1 : mid < e
  · have f1 : (mid : Int) < (e : Int) := by omega
    by_cases r2 : e < b
    · have f2 : (e : Int) < (b : Int) := by omega
      simp (maxSteps := 4000000) only [↓packA, ↓reduceIte, packB, pureOp, quietOp, loadOp, quietB, fr0, cellsK, implies_true, ite_true, ite_false, eq_self, ne_eq, reduceCtorEq, Nat.reduceLT, Nat.reduceLeDiff, Nat.reduceAdd, Nat.reduceMul, Nat.reduceBEq, Nat.reduceEqDiff, Int.reduceToNat, Int.reduceLT, Int.reduceLE, Nat.reduceSub, pl107, ft3, ft4, ft22, ft94, ft168, u0, u3, u4, u18, u24, f1, f2]
      refine ih (es := gs) (a := mid) (m := e) (b := b) (by omega) (by omega) (hse _) (hsp _) hne (by omega) r1 r2 (by omega) (fun i i1 i2 => hD i (by omega) i2) hB1 hB2 hXB fun ks hk hkd => ?_
      simp (maxSteps := 4000000) only [↓packA, ↓reduceIte, packB, pureOp, quietOp, loadOp, quietB, fr0, cellsK, implies_true, ite_true, ite_false, eq_self, ne_eq, reduceCtorEq, Nat.reduceLT, Nat.reduceLeDiff, Nat.reduceAdd, Nat.reduceMul, Nat.reduceBEq, Nat.reduceEqDiff, Int.reduceToNat, Int.reduceLT, Int.reduceLE, Nat.reduceSub, pl107, ft3, ft4, ft22, ft94, ft168, u0, u3, u4, u18, u24, f1, f2, List.set_set]
      exact hq ks (hs.trans (hk.wide (by omega) (Nat.le_refl _))) (Sd.join (hA.off hk (.inl (Nat.le_refl _))) hkd (hX.perm hk (.inr (.inr (Nat.le_refl _))) (.inl ⟨Nat.le_refl _, Nat.le_refl _⟩)))
    · have f2 : ¬ (e : Int) < (b : Int) := by omega
      simp (maxSteps := 4000000) only [↓packA, ↓reduceIte, packB, pureOp, quietOp, loadOp, quietB, fr0, cellsK, implies_true, ite_true, ite_false, eq_self, ne_eq, reduceCtorEq, Nat.reduceLT, Nat.reduceLeDiff, Nat.reduceAdd, Nat.reduceMul, Nat.reduceBEq, Nat.reduceEqDiff, Int.reduceToNat, Int.reduceLT, Int.reduceLE, Nat.reduceSub, pl107, ft3, ft4, ft22, ft94, ft168, u0, u3, u4, u18, u24, f1, f2]
      obtain rfl : e = b := by omega
      exact hq gs hs (Sd.join hA hB1 hX)
  · have f1 : ¬ (mid : Int) < (e : Int) := by omega
    simp (maxSteps := 4000000) only [↓packA, ↓reduceIte, packB, pureOp, quietOp, loadOp, quietB, fr0, cellsK, implies_true, ite_true, ite_false, eq_self, ne_eq, reduceCtorEq, Nat.reduceLT, Nat.reduceLeDiff, Nat.reduceAdd, Nat.reduceMul, Nat.reduceBEq, Nat.reduceEqDiff, Int.reduceToNat, Int.reduceLT, Int.reduceLE, Nat.reduceSub, pl107, ft3, ft4, ft22, ft94, ft168, u0, u3, u4, u18, u24, f1]
    obtain rfl : e = mid := by omega
    exact hq gs hs (Sd.join hA hB2 hX)
end Go.Proofs.YtgdlkhgfehclpaaGreat
end

section
/- Blocks of a list, sorted one by one and then together: the plain part. No condition. -/
namespace Go.Proofs.YtgdlkhgfehclpaaGreat
open Go Go.AL
set_option linter.unusedVariables false
set_option linter.unusedSimpArgs false
theorem mul_sep {c t k : Nat} : (t = k) ∨ (t < k ∧ c * t + c ≤ c * k) ∨ (k < t ∧ c * k + c ≤ c * t) := by
  rcases Nat.lt_trichotomy t k with h | h | h
  · exact .inr (.inl ⟨h, by have := Nat.mul_le_mul_left c (show t + 1 ≤ k from h); rw [Nat.mul_succ] at this; exact this⟩)
  · exact .inl h
  · exact .inr (.inr ⟨h, by have := Nat.mul_le_mul_left c (show k + 1 ≤ t from h); rw [Nat.mul_succ] at this; exact this⟩)
/-- Blocks of s are sorted, and each has greater numbers than those ahead of it. -/
structure Bk (d : Int → Int) (es cs : List Int) (N s : Nat) : Prop where
  sm : Sm es cs 0 N
  so : ∀ t, Sd d cs (s * t) (min (s * t + s) N)
  bd : ∀ t, s * t ≤ N → Xn cs 0 (s * t) (s * t) N
/-- Blocks of c = 2 s below the k-th, blocks of s from there on. -/
structure Bm (d : Int → Int) (es cs : List Int) (N s c k : Nat) : Prop where
  sm : Sm es cs 0 N
  s1 : ∀ t, t < k → Sd d cs (c * t) (c * t + c)
  s2 : ∀ t, k ≤ t → Sd d cs (c * t) (min (c * t + s) N)
  s3 : ∀ t, k ≤ t → Sd d cs (c * t + s) (min (c * t + c) N)
  ev : ∀ t, c * t ≤ N → Xn cs 0 (c * t) (c * t) N
  od : ∀ t, k ≤ t → c * t + s ≤ N → Xn cs 0 (c * t + s) (c * t + s) N
theorem Bk.start {d : Int → Int} {es cs : List Int} {N s c : Nat} (h : Bk d es cs N s) (hc : c = 2 * s) : Bm d es cs N s c 0 := by
  have e : ∀ t, c * t = s * (2 * t) := fun t => by rw [hc, ← Nat.mul_assoc, Nat.mul_comm 2 s]
  have e2 : ∀ t, c * t + s = s * (2 * t + 1) := fun t => by rw [e, Nat.mul_succ]
  refine ⟨h.sm, fun t ht => by omega, fun t _ => ?_, fun t _ => ?_, fun t ht => ?_, fun t _ ht => ?_⟩
  · rw [e]; exact h.so _
  · have := h.so (2 * t + 1)
    rw [← e2] at this
    rw [show c * t + c = c * t + s + s by omega]
    exact this
  · rw [e] at ht ⊢; exact h.bd _ ht
  · rw [e2] at ht ⊢; exact h.bd _ ht
theorem Bm.step {d : Int → Int} {es cs ks : List Int} {N s c k : Nat} (h : Bm d es cs N s c k) (hs : s ≤ c) (hk : c * k + c ≤ N) (sm : Sm cs ks (c * k) (c * k + c)) (sd : Sd d ks (c * k) (c * k + c)) : Bm d es ks N s c (k + 1) := by
  refine ⟨h.sm.trans (sm.wide (Nat.zero_le _) hk), fun t ht => ?_, fun t ht => ?_, fun t ht => ?_, fun t ht => ?_, fun t ht1 ht => ?_⟩
  · rcases @mul_sep c t k with e | ⟨_, e⟩ | ⟨e, _⟩
    · rw [e]; exact sd
    · exact (h.s1 t (by omega)).off sm (.inl e)
    · omega
  · rcases @mul_sep c t k with e | ⟨e, _⟩ | ⟨_, e⟩
    · omega
    · omega
    · exact (h.s2 t (by omega)).off sm (.inr e)
  · rcases @mul_sep c t k with e | ⟨e, _⟩ | ⟨_, e⟩
    · omega
    · omega
    · exact (h.s3 t (by omega)).off sm (.inr (by omega))
  · rcases @mul_sep c t k with e | ⟨_, e⟩ | ⟨_, e⟩
    · rw [e] at ht ⊢; exact (h.ev k ht).perm sm (.inr (.inr (Nat.le_refl _))) (.inl ⟨Nat.le_refl _, hk⟩)
    · exact (h.ev t ht).perm sm (.inr (.inr (by omega))) (.inl ⟨by omega, hk⟩)
    · exact (h.ev t ht).perm sm (.inl ⟨Nat.zero_le _, e⟩) (.inr (.inl e))
  · rcases @mul_sep c t k with e | ⟨e, _⟩ | ⟨_, e⟩
    · omega
    · omega
    · exact (h.od t (by omega) ht).perm sm (.inl ⟨Nat.zero_le _, by omega⟩) (.inr (.inl (by omega)))
theorem Bm.fin {d : Int → Int} {es cs ks : List Int} {N s c k : Nat} (h : Bm d es cs N s c k) (hk : N < c * k + c) (hk2 : c * k ≤ N) (sm : Sm cs ks (c * k) N) (sd : Sd d ks (c * k) N) : Bk d es ks N c := by
  refine ⟨h.sm.trans (sm.wide (Nat.zero_le _) (Nat.le_refl _)), fun t => ?_, fun t ht => ?_⟩
  · rcases @mul_sep c t k with e | ⟨e1, e⟩ | ⟨_, e⟩
    · rw [e, show min (c * k + c) N = N by omega]; exact sd
    · rw [show min (c * t + c) N = c * t + c by omega]; exact (h.s1 t e1).off sm (.inl e)
    · intro i j i1 i2 i3; omega
  · rcases @mul_sep c t k with e | ⟨_, e⟩ | ⟨_, e⟩
    · rw [e]; exact (h.ev k hk2).perm sm (.inr (.inr (Nat.le_refl _))) (.inl ⟨Nat.le_refl _, Nat.le_refl _⟩)
    · exact (h.ev t ht).perm sm (.inr (.inr (by omega))) (.inl ⟨by omega, Nat.le_refl _⟩)
    · omega
/-- Blocks of 20 below the k-th; the rest as it was. -/
structure Bi (d : Int → Int) (es cs : List Int) (N k : Nat) : Prop where
  sm : Sm es cs 0 N
  s1 : ∀ t, t < k → Sd d cs (20 * t) (20 * t + 20)
  ev : ∀ t, 20 * t ≤ N → Xn cs 0 (20 * t) (20 * t) N
  up : Up cs (20 * k) N
theorem Bi.start {d : Int → Int} {es : List Int} {N : Nat} (h : Up es 0 N) : Bi d es es N 0 :=
  ⟨Sm.rfl', fun t ht => by omega, fun t ht i j i1 i2 j1 j2 => h i j i1 (by omega) j2, h⟩
theorem Bi.step {d : Int → Int} {es cs ks : List Int} {N k : Nat} (h : Bi d es cs N k) (hk : 20 * k + 20 ≤ N) (sm : Sm cs ks (20 * k) (20 * k + 20)) (sd : Sd d ks (20 * k) (20 * k + 20)) : Bi d es ks N (k + 1) := by
  refine ⟨h.sm.trans (sm.wide (Nat.zero_le _) hk), fun t ht => ?_, fun t ht => ?_, fun i j i1 i2 i3 => ?_⟩
  · by_cases e : t = k
    · rw [e]; exact sd
    · exact (h.s1 t (by omega)).off sm (.inl (by omega))
  · by_cases e : t ≤ k
    · exact (h.ev t ht).perm sm (.inr (.inr (by omega))) (.inl ⟨by omega, hk⟩)
    · exact (h.ev t ht).perm sm (.inl ⟨Nat.zero_le _, by omega⟩) (.inr (.inl (by omega)))
  · rw [sm.out i (by omega), sm.out j (by omega)]; exact h.up i j (by omega) i2 i3
theorem Bi.fin {d : Int → Int} {es cs ks : List Int} {N k : Nat} (h : Bi d es cs N k) (hk : N < 20 * k + 20) (hk2 : 20 * k ≤ N) (sm : Sm cs ks (20 * k) N) (sd : Sd d ks (20 * k) N) : Bk d es ks N 20 := by
  refine ⟨h.sm.trans (sm.wide (Nat.zero_le _) (Nat.le_refl _)), fun t => ?_, fun t ht => ?_⟩
  · by_cases e : t = k
    · rw [e, show min (20 * k + 20) N = N by omega]; exact sd
    · by_cases e2 : t < k
      · rw [show min (20 * t + 20) N = 20 * t + 20 by omega]; exact (h.s1 t e2).off sm (.inl (by omega))
      · intro i j i1 i2 i3; omega
  · exact (h.ev t ht).perm sm (.inr (.inr (by omega))) (.inl ⟨by omega, Nat.le_refl _⟩)
end Go.Proofs.YtgdlkhgfehclpaaGreat
end

section
/- The stable sort. No condition. -/
namespace Go.Proofs.YtgdlkhgfehclpaaGreat
open Go Go.AL
set_option linter.unusedVariables false
set_option linter.unusedSimpArgs false
set_option maxHeartbeats 4000000 in
set_option maxRecDepth 100000 in
theorem stable_c {pid : Nat} {o : Ob} {n : Int} {d : Int → Int} (hcmp : Cmp pid o n d) {h : Heap} {id len cap : Nat} {ex ex' : Bool} {es : List Int} {N : Nat} {Q : AV → Heap → Prop} (hb : len < 1000000000) (hid : h[id]? = some (.arr 1 (List.map intE es) ex')) (hp : h[pid]? = some o) (hne : id ≠ pid) (hl : len ≤ es.length) (hN : N ≤ len) (hdom : Dom n es 0 N) (hu : Up es 0 N)
    (hq : ∀ gs : List Int, Sm es gs 0 N → Sd d gs 0 N → Q (.tup []) (h.set id (.arr 1 (List.map intE gs) ex'))) :
    ACalls Tryz.prog 99 [.osl id 1 0 len cap ex, .int .i64 N, .fn (.func 84) [] [.op pid 4 0 0]] h Q := by
  have hlt : id < h.length := (List.getElem?_eq_some_iff.1 hid).1
  have hse : ∀ o : Ob, (h.set id o)[id]? = some o := fun o => List.getElem?_set_self hlt
  have hsp : ∀ o' : Ob, (h.set id o')[pid]? = some o := fun o' => by rw [List.getElem?_set_ne hne]; exact hp
  refine wp99 rfl rfl ?_
  simp (maxSteps := 4000000) only [↓packA, ↓reduceIte, packB, pureOp, quietOp, loadOp, quietB, fr0, cellsK, implies_true, ite_true, ite_false, eq_self, ne_eq, reduceCtorEq, Nat.reduceLT, Nat.reduceLeDiff, Nat.reduceAdd, Nat.reduceMul, Nat.reduceBEq, Nat.reduceEqDiff, Int.reduceToNat, Int.reduceLT, Int.reduceLE, Nat.reduceSub, pl99, ft3, ft22, ft94]
  refine LoopK.intro (fun w u h1 => ∃ (k : Nat) (cs : List Int), w = N + 20 - 20 * k ∧ 20 * k ≤ N ∧ Bi d es cs N k ∧ u 0 = .osl id 1 0 len cap ex ∧ u 1 = .int .i64 N ∧ u 2 = .fn (.func 84) [] [.op pid 4 0 0] ∧ u 6 = .int .i64 20 ∧ u 7 = .int .i64 (20 * k : Nat) ∧ u 8 = .int .i64 (20 * k + 20 : Nat) ∧ h1 = h.set id (.arr 1 (List.map intE cs) ex')) (N + 20 - 20 * 0) ⟨0, es, rfl, by omega, Bi.start hu, ?_⟩ ?_
  · simp (maxSteps := 4000000) only [↓packA, ↓reduceIte, packB, pureOp, quietOp, loadOp, quietB, fr0, cellsK, implies_true, ite_true, ite_false, eq_self, ne_eq, reduceCtorEq, Nat.reduceLT, Nat.reduceLeDiff, Nat.reduceAdd, Nat.reduceMul, Nat.reduceBEq, Nat.reduceEqDiff, Int.reduceToNat, Int.reduceLT, Int.reduceLE, Nat.reduceSub, pl99, ft3, ft22, ft94, set_same hid, Int.natCast_zero]
    rfl
  rintro w u h1 ⟨k, cs, rfl, hk, hB, u0, u1, u2, u6, u7, u8, rfl⟩
  have hcl := hB.sm.len
  have hD : Dom n cs 0 N := hB.sm.all (p := fun x => 0 ≤ x ∧ x < n) (Nat.le_refl _) (Nat.le_refl _) hdom
  by_cases r1 : 20 * k + 20 ≤ N
  · have f1 : ((20 * k + 20 : Nat) : Int) ≤ (N : Int) := by omega
    simp (maxSteps := 4000000) only [↓packA, ↓reduceIte, packB, pureOp, quietOp, loadOp, quietB, fr0, cellsK, implies_true, ite_true, ite_false, eq_self, ne_eq, reduceCtorEq, Nat.reduceLT, Nat.reduceLeDiff, Nat.reduceAdd, Nat.reduceMul, Nat.reduceBEq, Nat.reduceEqDiff, Int.reduceToNat, Int.reduceLT, Int.reduceLE, Nat.reduceSub, pl99, ft3, ft22, ft94, u0, u1, u2, u6, u7, u8, f1]
    refine ins_c hcmp (es := cs) (by omega) (hse _) (hsp _) hne (by omega) (by omega) (by omega) (fun i i1 i2 => hD i (by omega) (by omega)) (fun i j i1 i2 i3 => hB.up i j i1 i2 (by omega)) fun ks hk1 hk2 => ?_
    simp (maxSteps := 4000000) only [↓packA, ↓reduceIte, packB, pureOp, quietOp, loadOp, quietB, fr0, cellsK, implies_true, ite_true, ite_false, eq_self, ne_eq, reduceCtorEq, Nat.reduceLT, Nat.reduceLeDiff, Nat.reduceAdd, Nat.reduceMul, Nat.reduceBEq, Nat.reduceEqDiff, Int.reduceToNat, Int.reduceLT, Int.reduceLE, Nat.reduceSub, pl99, ft3, ft22, ft94, u0, u1, u2, u6, u7, u8, f1, List.set_set]
    refine ⟨by omega, .inl ⟨N + 20 - 20 * (k + 1), by omega, k + 1, ks, rfl, by omega, hB.step r1 hk1 hk2, by omega, by omega, rfl⟩⟩
  · have f1 : ¬ ((20 * k + 20 : Nat) : Int) ≤ (N : Int) := by omega
    simp (maxSteps := 4000000) only [↓packA, ↓reduceIte, packB, pureOp, quietOp, loadOp, quietB, fr0, cellsK, implies_true, ite_true, ite_false, eq_self, ne_eq, reduceCtorEq, Nat.reduceLT, Nat.reduceLeDiff, Nat.reduceAdd, Nat.reduceMul, Nat.reduceBEq, Nat.reduceEqDiff, Int.reduceToNat, Int.reduceLT, Int.reduceLE, Nat.reduceSub, pl99, ft3, ft22, ft94, u0, u1, u2, u6, u7, u8, f1]
    refine ins_c hcmp (es := cs) (by omega) (hse _) (hsp _) hne (by omega) (by omega) (by omega) (fun i i1 i2 => hD i (by omega) (by omega)) (fun i j i1 i2 i3 => hB.up i j i1 i2 (by omega)) fun ks hk1 hk2 => ?_
    have hK := hB.fin (by omega) hk hk1 hk2
    clear hB hD hcl hk1 hk2
    simp (maxSteps := 4000000) only [↓packA, ↓reduceIte, packB, pureOp, quietOp, loadOp, quietB, fr0, cellsK, implies_true, ite_true, ite_false, eq_self, ne_eq, reduceCtorEq, Nat.reduceLT, Nat.reduceLeDiff, Nat.reduceAdd, Nat.reduceMul, Nat.reduceBEq, Nat.reduceEqDiff, Int.reduceToNat, Int.reduceLT, Int.reduceLE, Nat.reduceSub, pl99, ft3, ft22, ft94, u0, u1, u2, u6, u7, u8, List.set_set]
    refine LoopK.intro (fun w u h1 => ∃ (s : Nat) (cs : List Int), w = N - s ∧ 0 < s ∧ s < 3000000000 ∧ Bk d es cs N s ∧ u 0 = .osl id 1 0 len cap ex ∧ u 1 = .int .i64 N ∧ u 2 = .fn (.func 84) [] [.op pid 4 0 0] ∧ u 6 = .int .i64 s ∧ h1 = h.set id (.arr 1 (List.map intE cs) ex')) (N - 20) ⟨20, ks, rfl, by omega, by omega, hK, ?_⟩ ?_
    · simp (maxSteps := 4000000) only [↓packA, ↓reduceIte, packB, pureOp, quietOp, loadOp, quietB, fr0, cellsK, implies_true, ite_true, ite_false, eq_self, ne_eq, reduceCtorEq, Nat.reduceLT, Nat.reduceLeDiff, Nat.reduceAdd, Nat.reduceMul, Nat.reduceBEq, Nat.reduceEqDiff, Int.reduceToNat, Int.reduceLT, Int.reduceLE, Nat.reduceSub, pl99, ft3, ft22, ft94, u0, u1, u2, u6]
      rfl
    clear hK u0 u1 u2 u6 u7 u8
    rintro w u h1 ⟨s, cs, rfl, hs0, hs1, hB, u0, u1, u2, u6, rfl⟩
    by_cases r2 : s < N
    · have f2 : (s : Int) < (N : Int) := by omega
      obtain ⟨c, hc⟩ : ∃ c, c = 2 * s := ⟨_, rfl⟩
      have f3 : 2 * (s : Int) = (c : Int) := by omega
      have f4 : (s : Int) * 2 = (c : Int) := by omega
      simp (maxSteps := 4000000) only [↓packA, ↓reduceIte, packB, pureOp, quietOp, loadOp, quietB, fr0, cellsK, implies_true, ite_true, ite_false, eq_self, ne_eq, reduceCtorEq, Nat.reduceLT, Nat.reduceLeDiff, Nat.reduceAdd, Nat.reduceMul, Nat.reduceBEq, Nat.reduceEqDiff, Int.reduceToNat, Int.reduceLT, Int.reduceLE, Nat.reduceSub, pl99, ft3, ft22, ft94, u0, u1, u2, u6, f2, f3]
      refine ⟨by omega, ?_⟩
      refine LoopK.intro (fun w u h1 => ∃ (k : Nat) (cs : List Int), w = N + c - c * k ∧ c * k ≤ N ∧ Bm d es cs N s c k ∧ u 0 = .osl id 1 0 len cap ex ∧ u 1 = .int .i64 N ∧ u 2 = .fn (.func 84) [] [.op pid 4 0 0] ∧ u 6 = .int .i64 s ∧ u 7 = .int .i64 (c * k : Nat) ∧ u 8 = .int .i64 (c * k + c : Nat) ∧ h1 = h.set id (.arr 1 (List.map intE cs) ex')) (N + c - c * 0) ⟨0, cs, rfl, by omega, hB.start hc, ?_⟩ ?_
      · simp (maxSteps := 4000000) only [↓packA, ↓reduceIte, packB, pureOp, quietOp, loadOp, quietB, fr0, cellsK, implies_true, ite_true, ite_false, eq_self, ne_eq, reduceCtorEq, Nat.reduceLT, Nat.reduceLeDiff, Nat.reduceAdd, Nat.reduceMul, Nat.reduceBEq, Nat.reduceEqDiff, Int.reduceToNat, Int.reduceLT, Int.reduceLE, Nat.reduceSub, pl99, ft3, ft22, ft94, u0, u1, u2, u6]
        exact ⟨by rw [Nat.mul_zero]; rfl, by rw [Nat.mul_zero, Nat.zero_add]⟩
      clear hB u0 u1 u2 u6
      rintro w u h1 ⟨k, cs, rfl, hk, hB, u0, u1, u2, u6, u7, u8, rfl⟩
      have hcl := hB.sm.len
      have hD : Dom n cs 0 N := hB.sm.all (p := fun x => 0 ≤ x ∧ x < n) (Nat.le_refl _) (Nat.le_refl _) hdom
      have hB2 := hB.s2 k (Nat.le_refl _)
      have hB3 := hB.s3 k (Nat.le_refl _)
      have hBo := hB.od k (Nat.le_refl _)
      have hms : c * (k + 1) = c * k + c := Nat.mul_succ c k
      have hst := fun ks => hB.step (ks := ks) (by omega)
      have hfi := fun ks => hB.fin (ks := ks)
      obtain ⟨A, hA⟩ : ∃ A, A = c * k := ⟨_, rfl⟩
      rw [← hA] at hk hB2 hB3 hBo hms hst hfi u7 u8
      have f6 : (A : Int) + (s : Int) = ((A + s : Nat) : Int) := by omega
      by_cases r3 : A + c ≤ N
      · have f5 : ((A + c : Nat) : Int) ≤ (N : Int) := by omega
        simp (maxSteps := 4000000) only [↓packA, ↓reduceIte, packB, pureOp, quietOp, loadOp, quietB, fr0, cellsK, implies_true, ite_true, ite_false, eq_self, ne_eq, reduceCtorEq, Nat.reduceLT, Nat.reduceLeDiff, Nat.reduceAdd, Nat.reduceMul, Nat.reduceBEq, Nat.reduceEqDiff, Int.reduceToNat, Int.reduceLT, Int.reduceLE, Nat.reduceSub, pl99, ft3, ft22, ft94, u0, u1, u2, u6, u7, u8, f5, f6]
        refine ⟨by omega, merge_c hcmp c (es := cs) (by omega) (by omega) (hse _) (hsp _) hne (by omega) (by omega) (by omega) (by omega) (fun i i1 i2 => hD i (by omega) (by omega)) (hB2.sub (Nat.le_refl _) (by omega)) (hB3.sub (Nat.le_refl _) (by omega)) ((hBo (by omega)).sub (Nat.zero_le _) (Nat.le_refl _) (Nat.le_refl _) (by omega)) fun ks hk1 hk2 => ?_⟩
        simp (maxSteps := 4000000) only [↓packA, ↓reduceIte, packB, pureOp, quietOp, loadOp, quietB, fr0, cellsK, implies_true, ite_true, ite_false, eq_self, ne_eq, reduceCtorEq, Nat.reduceLT, Nat.reduceLeDiff, Nat.reduceAdd, Nat.reduceMul, Nat.reduceBEq, Nat.reduceEqDiff, Int.reduceToNat, Int.reduceLT, Int.reduceLE, Nat.reduceSub, pl99, ft3, ft22, ft94, u0, u1, u2, u6, u7, u8, f3, List.set_set]
        exact ⟨by omega, by omega, .inl ⟨N + c - c * (k + 1), by rw [hms, ← hA]; omega, k + 1, ks, rfl, by rw [hms]; exact r3, hst ks r3 hk1 hk2, by rw [hms], by rw [hms]; omega, rfl⟩⟩
      · have f5 : ¬ ((A + c : Nat) : Int) ≤ (N : Int) := by omega
        by_cases r4 : A + s < N
        · have f7 : ((A + s : Nat) : Int) < (N : Int) := by omega
          simp (maxSteps := 4000000) only [↓packA, ↓reduceIte, packB, pureOp, quietOp, loadOp, quietB, fr0, cellsK, implies_true, ite_true, ite_false, eq_self, ne_eq, reduceCtorEq, Nat.reduceLT, Nat.reduceLeDiff, Nat.reduceAdd, Nat.reduceMul, Nat.reduceBEq, Nat.reduceEqDiff, Int.reduceToNat, Int.reduceLT, Int.reduceLE, Nat.reduceSub, pl99, ft3, ft22, ft94, u0, u1, u2, u6, u7, u8, f5, f6, f7]
          refine ⟨by omega, merge_c hcmp c (es := cs) (by omega) (by omega) (hse _) (hsp _) hne (by omega) (by omega) (by omega) (by omega) (fun i i1 i2 => hD i (by omega) (by omega)) (hB2.sub (Nat.le_refl _) (by omega)) (hB3.sub (Nat.le_refl _) (by omega)) ((hBo (by omega)).sub (Nat.zero_le _) (Nat.le_refl _) (Nat.le_refl _) (by omega)) fun ks hk1 hk2 => ?_⟩
          simp (maxSteps := 4000000) only [↓packA, ↓reduceIte, packB, pureOp, quietOp, loadOp, quietB, fr0, cellsK, implies_true, ite_true, ite_false, eq_self, ne_eq, reduceCtorEq, Nat.reduceLT, Nat.reduceLeDiff, Nat.reduceAdd, Nat.reduceMul, Nat.reduceBEq, Nat.reduceEqDiff, Int.reduceToNat, Int.reduceLT, Int.reduceLE, Nat.reduceSub, pl99, ft3, ft22, ft94, u0, u1, u2, u6, u7, u8, f4, List.set_set]
          exact ⟨by omega, .inl ⟨N - c, by omega, c, ks, rfl, by omega, by omega, hfi ks (by omega) hk hk1 hk2, rfl, rfl⟩⟩
        · have f7 : ¬ ((A + s : Nat) : Int) < (N : Int) := by omega
          simp (maxSteps := 4000000) only [↓packA, ↓reduceIte, packB, pureOp, quietOp, loadOp, quietB, fr0, cellsK, implies_true, ite_true, ite_false, eq_self, ne_eq, reduceCtorEq, Nat.reduceLT, Nat.reduceLeDiff, Nat.reduceAdd, Nat.reduceMul, Nat.reduceBEq, Nat.reduceEqDiff, Int.reduceToNat, Int.reduceLT, Int.reduceLE, Nat.reduceSub, pl99, ft3, ft22, ft94, u0, u1, u2, u6, u7, u8, f5, f6, f7, f4]
          rw [show min (A + s) N = N by omega] at hB2
          exact ⟨by omega, by omega, .inl ⟨N - c, by omega, c, cs, rfl, by omega, by omega, hfi cs (by omega) hk Sm.rfl' hB2, rfl, rfl⟩⟩
    · have f2 : ¬ (s : Int) < (N : Int) := by omega
      simp (maxSteps := 4000000) only [↓packA, ↓reduceIte, packB, pureOp, quietOp, loadOp, quietB, fr0, cellsK, implies_true, ite_true, ite_false, eq_self, ne_eq, reduceCtorEq, Nat.reduceLT, Nat.reduceLeDiff, Nat.reduceAdd, Nat.reduceMul, Nat.reduceBEq, Nat.reduceEqDiff, Int.reduceToNat, Int.reduceLT, Int.reduceLE, Nat.reduceSub, pl99, ft3, ft22, ft94, u0, u1, u2, u6, f2]
      have := hB.so 0
      rw [Nat.mul_zero, Nat.zero_add, show min s N = N by omega] at this
      exact hq cs hB.sm this
end Go.Proofs.YtgdlkhgfehclpaaGreat
end

section
/- Buckets: lists of numbers, each in an object of its own. No condition. -/
namespace Go.Proofs.YtgdlkhgfehclpaaGreat
open Go Go.AL
set_option linter.unusedVariables false
set_option linter.unusedSimpArgs false
def idOf : AV → Option Nat
  | .osl id _ _ _ _ _ => some id
  | _ => none
/-- A slice that lies in an object of its own, or none. -/
def BC (F : Nat → Prop) (h : Heap) (x : AV) (l : List Int) : Prop :=
  (x = .nils ∧ l = []) ∨ ∃ id len cap ex es ex', x = .osl id 1 0 len cap ex ∧ ¬ F id ∧ h[id]? = some (.arr 1 (List.map intE es) ex') ∧ len ≤ cap ∧ cap ≤ es.length ∧ (len < 1000000 ∧ ex = true) ∧ es.take len = l
structure PS (F : Nat → Prop) (n : Nat) (h : Heap) (cells : List (List AV)) (B : Nat → List Int) : Prop where
  fix : ∀ i : Nat, F i → i < h.length
  len : cells.length = n + 1
  bc : ∀ d : Nat, d ≤ n → ∃ x, cells[d]? = some [x] ∧ BC F h x (B d)
  dj : ∀ (d d' : Nat) (x y : AV) (i : Nat), d ≠ d' → cells[d]? = some [x] → cells[d']? = some [y] → idOf x = some i → idOf y ≠ some i
def updB (B : Nat → List Int) (d : Nat) (l : List Int) : Nat → List Int := fun e => if e = d then l else B e
theorem updB_same {B : Nat → List Int} {d : Nat} {l : List Int} : updB B d l d = l := if_pos rfl
theorem updB_ne {B : Nat → List Int} {d e : Nat} {l : List Int} (h : e ≠ d) : updB B d l e = B e := if_neg h
theorem BC.keep {F F' : Nat → Prop} {h h' : Heap} {x : AV} {l : List Int} (hb : BC F h x l) (hh : ∀ id, idOf x = some id → id < h.length → ¬ F id → ¬ F' id ∧ h'[id]? = h[id]?) : BC F' h' x l := by
  rcases hb with hb | ⟨id, len, cap, ex, es, ex', rfl, h1, h2, h3⟩
  · exact .inl hb
  · obtain ⟨q1, q2⟩ := hh _ rfl (List.getElem?_eq_some_iff.1 h2).1 h1
    exact .inr ⟨id, len, cap, ex, es, ex', rfl, q1, by rw [q2]; exact h2, h3⟩
theorem BC.lt {F : Nat → Prop} {h : Heap} {x : AV} {l : List Int} (hb : BC F h x l) {id : Nat} (e : idOf x = some id) : id < h.length ∧ ¬ F id := by
  rcases hb with ⟨rfl, _⟩ | ⟨id, len, cap, ex, es, ex', rfl, h1, h2, h3⟩
  · cases e
  · cases e
    exact ⟨(List.getElem?_eq_some_iff.1 h2).1, h1⟩
theorem PS.mono {F F' : Nat → Prop} {n : Nat} {h : Heap} {cells : List (List AV)} {B : Nat → List Int} (p : PS F n h cells B) (hF : ∀ i, F' i → F i) : PS F' n h cells B :=
  ⟨fun i hi => p.fix i (hF i hi), p.len, fun d hd => by
    obtain ⟨x, h1, h2⟩ := p.bc d hd
    exact ⟨x, h1, h2.keep fun id _ _ hn => ⟨fun e => hn (hF _ e), rfl⟩⟩, p.dj⟩
/-- What is none of the buckets may be written, and more may be laid behind. -/
theorem PS.keep {F : Nat → Prop} {n : Nat} {h h' : Heap} {cells : List (List AV)} {B : Nat → List Int} (p : PS F n h cells B) (hl : h.length ≤ h'.length) (hh : ∀ i, i < h.length → ¬ F i → h'[i]? = h[i]?) : PS F n h' cells B :=
  ⟨fun i hi => Nat.lt_of_lt_of_le (p.fix i hi) hl, p.len, fun d hd => by
    obtain ⟨x, h1, h2⟩ := p.bc d hd
    exact ⟨x, h1, h2.keep fun id _ hlt hn => ⟨hn, hh id hlt hn⟩⟩, p.dj⟩
theorem PS.set {F : Nat → Prop} {n : Nat} {h : Heap} {cells : List (List AV)} {B : Nat → List Int} (p : PS F n h cells B) {i : Nat} (hi : F i) (o : Ob) : PS F n (h.set i o) cells B :=
  p.keep (by simp) fun j _ hj => List.getElem?_set_ne (fun e => hj (by rw [← e]; exact hi))
theorem PS.app {F : Nat → Prop} {n : Nat} {h : Heap} {cells : List (List AV)} {B : Nat → List Int} (p : PS F n h cells B) (l : Heap) : PS F n (h ++ l) cells B :=
  p.keep (by simp) fun j hj _ => List.getElem?_append_left hj
/-- New objects that no bucket may be. -/
theorem PS.more {F F' : Nat → Prop} {n : Nat} {h h' : Heap} {cells : List (List AV)} {B : Nat → List Int} (p : PS F n h cells B) (hh : ∀ i, i < h.length → h'[i]? = h[i]?) (hl : h.length ≤ h'.length) (hF : ∀ i, F' i → F i ∨ (h.length ≤ i ∧ i < h'.length)) : PS F' n h' cells B :=
  ⟨fun i hi => by
    rcases hF i hi with h1 | h1
    · have := p.fix i h1; omega
    · exact h1.2, p.len, fun d hd => by
    obtain ⟨x, h1, h2⟩ := p.bc d hd
    refine ⟨x, h1, h2.keep fun id _ hlt hn => ⟨fun e => ?_, hh id hlt⟩⟩
    rcases hF id e with h3 | h3
    · exact hn h3
    · omega, p.dj⟩
/-- One bucket turned. -/
theorem PS.turn {F : Nat → Prop} {n : Nat} {h h' : Heap} {cells : List (List AV)} {B : Nat → List Int} (p : PS F n h cells B) {d : Nat} (hd : d ≤ n) {x x' : AV} {l' : List Int} (hx : cells[d]? = some [x]) (hl : h.length ≤ h'.length) (hk : ∀ i, i < h.length → idOf x ≠ some i → h'[i]? = h[i]?)
    (hb : BC F h' x' l') (hid : ∀ i, idOf x' = some i → idOf x = some i ∨ h.length ≤ i) : PS F n h' (cells.set d [x']) (updB B d l') := by
  have hdl : d < cells.length := by rw [p.len]; omega
  have old : ∀ {e y}, e ≠ d → (cells.set d [x'])[e]? = some [y] → cells[e]? = some [y] := fun he hy => by rwa [List.getElem?_set_ne (Ne.symm he)] at hy
  have here : ∀ {y}, (cells.set d [x'])[d]? = some [y] → y = x' := fun hy => by
    rw [List.getElem?_set_self hdl] at hy
    simp at hy
    exact hy.symm
  have lt : ∀ {e y i}, cells[e]? = some [y] → idOf y = some i → i < h.length := fun {e y i} hy hi => by
    have hle : e ≤ n := by
      have := (List.getElem?_eq_some_iff.1 hy).1
      rw [p.len] at this
      omega
    obtain ⟨z, h1, h2⟩ := p.bc e hle
    rw [hy] at h1
    simp at h1
    subst h1
    exact (h2.lt hi).1
  refine ⟨fun i hi => Nat.lt_of_lt_of_le (p.fix i hi) hl, by simp [p.len], fun e he => ?_, fun e e' y z i hee hy hz hi hz2 => ?_⟩
  · by_cases hed : e = d
    · subst hed
      exact ⟨x', List.getElem?_set_self hdl, by rw [updB_same]; exact hb⟩
    · obtain ⟨y, h1, h2⟩ := p.bc e he
      refine ⟨y, by rw [List.getElem?_set_ne (Ne.symm hed)]; exact h1, ?_⟩
      rw [updB_ne hed]
      exact h2.keep fun id hi hlt hn => ⟨hn, hk id hlt (p.dj e d y x id hed h1 hx hi)⟩
  · by_cases h1 : e = d
    · subst h1
      rw [here hy] at hi
      have hz' := old (Ne.symm hee) hz
      rcases hid i hi with h2 | h2
      · exact p.dj e e' x z i hee hx hz' h2 hz2
      · have := lt hz' hz2
        omega
    · have hy' := old h1 hy
      by_cases h3 : e' = d
      · subst h3
        rw [here hz] at hz2
        rcases hid i hz2 with h2 | h2
        · exact p.dj e e' y x i hee hy' hx hi h2
        · have := lt hy' hi
          omega
      · exact p.dj e e' y z i hee hy' (old h3 hz) hi hz2
theorem lenK_bc {P : Program} {t : TypeId} {F : Nat → Prop} {h : Heap} {x : AV} {l : List Int} {K : AV → Prop} (hb : BC F h x l) : lenK P t x K = ((telem P t).isSome = true ∧ K (.int .i64 (l.length : Nat))) := by
  rcases hb with ⟨rfl, rfl⟩ | ⟨id, len, cap, ex, es, ex', rfl, q1, q2, q3, q4, q5, rfl⟩
  · rfl
  · rw [show (es.take len).length = len by simp; omega]
    rfl
theorem max_bc {F : Nat → Prop} {h : Heap} {x : AV} {l : List Int} {Q : AV → Heap → Prop} (hb : BC F h x l) (h0 : 0 < l.length) (hq : Q (.int .i64 (maxK l (l.length - 1))) h) : ACalls Tryz.prog 59 [x] h Q := by
  rcases hb with ⟨rfl, rfl⟩ | ⟨id, len, cap, ex, es, ex', rfl, q1, q2, q3, q4, q5, rfl⟩
  · simp at h0
  · have hl : (es.take len).length = len := by simp; omega
    exact acalls_lend (max_c (es.take len) (by omega) h0) (.cons (frz_ints q2 rfl hl) .nil) rfl hq
theorem del_ps {c : FuncId} (hclo : Clo c) {F : Nat → Prop} {n : Nat} {h : Heap} {cells : List (List AV)} {B : Nat → List Int} (p : PS F n h cells B) {d : Nat} (hd : d ≤ n) {x : AV} (hx : cells[d]? = some [x]) (h0 : 0 < (B d).length) {vid : Nat} {exv : Bool} {v : Int} (hv : F vid) (hvid : h[vid]? = some (.arr 1 [[.int .i64 v]] exv)) {Q : AV → Heap → Prop}
    (hq : ∀ x' h', (∃ id len cap ex, x' = AV.osl id 1 0 len cap ex) → h'.length = h.length → (∀ i, F i → h'[i]? = h[i]?) → PS F n h' (cells.set d [x']) (updB B d (rid v (B d))) → Q x' h') : ACalls Tryz.prog 60 [x, .fn (.func c) [] [.op vid 1 0 0]] h Q := by
  obtain ⟨y, h1, h2⟩ := p.bc d hd
  rw [hx] at h1
  simp at h1
  subst h1
  rcases h2 with ⟨rfl, h2⟩ | ⟨id, len, cap, ex, es, ex', rfl, q1, q2, q3, q4, q5, q6⟩
  · rw [h2] at h0; simp at h0
  · have hlt : id < h.length := (List.getElem?_eq_some_iff.1 q2).1
    refine del_c hclo (by omega) q2 hvid (fun e => q1 (e ▸ hv)) (by omega) q3 fun es' h3 h4 => ?_
    rw [q6] at h4 ⊢
    have hle : (rid v (B d)).length ≤ (B d).length := List.length_filter_le _ _
    have hBl : (B d).length = len := by rw [← q6]; simp; omega
    refine hq _ _ ⟨_, _, _, _, rfl⟩ (by simp) (fun i hi => List.getElem?_set_ne (fun e => q1 (by rw [e]; exact hi))) (p.turn hd hx (by simp) (fun i _ hi => List.getElem?_set_ne (fun e => hi (by rw [← e]; rfl))) (.inr ⟨id, _, cap, ex, es', ex', rfl, q1, List.getElem?_set_self hlt, by omega, by omega, ⟨by omega, q5.2⟩, h4⟩) (fun i hi => .inl hi))
/-- One more in a bucket. -/
theorem push_ps {F : Nat → Prop} {n : Nat} {h : Heap} {cells : List (List AV)} {B : Nat → List Int} (p : PS F n h cells B) {d : Nat} (hd : d ≤ n) {x : AV} (hx : cells[d]? = some [x]) (hsm : (B d).length < 900000) {w : Int} {K : AV → Heap → Prop}
    (hq : ∀ x' h', (∃ id len cap ex, x' = AV.osl id 1 0 len cap ex) → h.length ≤ h'.length → (∀ i, F i → h'[i]? = h[i]?) → PS F n h' (cells.set d [x']) (updB B d (B d ++ [w])) → K x' h') : apK [.int .i64 0] 8 h x [[.int .i64 w]] K := by
  obtain ⟨y, h1, h2⟩ := p.bc d hd
  rw [hx] at h1
  simp at h1
  subst h1
  -- a new row, in a heap that holds all of the others
  have hnew : ∀ (g : Heap) (l : List Int) (cap m : Nat), l = B d → g.length = h.length → l.length + 1 ≤ cap → cap = l.length + 1 + m → (∀ i, i < h.length → idOf x ≠ some i → g[i]? = h[i]?) → (∀ i, idOf x = some i → ¬ F i) →
      K (.osl h.length 1 0 (l.length + 1) cap true) (g ++ [.arr 1 (List.map intE (l ++ [w] ++ List.replicate m 0)) true]) := fun g l cap m hl hg hc hm hgk hxF => by
    refine hq _ _ ⟨_, _, _, _, rfl⟩ (by simp [hg]) (fun i hi => ?_) (p.turn hd hx (by simp [hg]) (fun i hi hni => ?_) (.inr ⟨h.length, l.length + 1, cap, true, l ++ [w] ++ List.replicate m 0, true, rfl, fun e => absurd (p.fix _ e) (Nat.lt_irrefl _), ?_, hc, ?_, ?_, ?_⟩) (fun i hi => .inr (by cases hi; exact Nat.le_refl _)))
    · have hf := p.fix i hi
      rw [List.getElem?_append_left (by omega)]
      exact hgk i hf (fun e => hxF i e hi)
    · rw [List.getElem?_append_left (by omega)]
      exact hgk i hi hni
    · rw [List.getElem?_append_right (by omega), hg]
      simp
    · simp; omega
    · exact ⟨by rw [hl]; omega, rfl⟩
    · rw [List.take_left' (by simp), hl]
  rcases h2 with ⟨rfl, h2⟩ | ⟨id, len, cap, ex, es, ex', rfl, q1, q2, q3, q4, q5, q6⟩
  · refine ⟨by simp, ⟨fun e => absurd e (by simp), fun _ => ?_⟩⟩
    show growK 1 8 _ _ _ _ K
    unfold growK
    rw [if_pos rfl]
    intro c hc
    have := hnew h [] c (c - 1) h2.symm rfl (by simpa using hc) (by simp at hc ⊢; omega) (fun _ _ _ => rfl) (fun i e => by cases e)
    simpa [intE] using this
  · have hlt : id < h.length := (List.getElem?_eq_some_iff.1 q2).1
    have hBl : (B d).length = len := by rw [← q6]; simp; omega
    have hq6 : (es.take len).length = len := by simp; omega
    refine ⟨rfl, by simp; omega, List.map intE es, ex', q2, by simp; omega, fun hin => ⟨by simp at hin ⊢; omega, ?_⟩, fun hout => ?_⟩
    · simp only [List.length_singleton] at hin
      refine hq _ _ ⟨_, _, _, _, rfl⟩ (by simp) (fun i hi => List.getElem?_set_ne (fun e => q1 (by rw [e]; exact hi))) (p.turn hd hx (by simp) (fun i _ hi => List.getElem?_set_ne (fun e => hi (by rw [← e]; rfl))) (.inr ⟨id, len + 1, cap, ex, es.take len ++ [w] ++ es.drop (len + 1), ex', rfl, q1, ?_, hin, ?_, ⟨by omega, q5.2⟩, ?_⟩) (fun i hi => .inl hi))
      · rw [List.getElem?_set_self hlt]
        simp [List.map_take, List.map_drop, intE]
      · simp only [List.length_append, hq6, List.length_drop, List.length_singleton]; omega
      · rw [List.take_left' (by simp [hq6]), q6]
    · simp only [List.length_singleton] at hout
      obtain rfl : ex = true := q5.2
      show growK 1 8 _ _ _ _ K
      unfold growK
      rw [if_pos rfl]
      intro c hc
      have hlr : (List.take len (List.drop 0 (List.map intE es)) ++ [[AV.int .i64 w]]).length = len + 1 := by simp; omega
      rw [hlr] at hc ⊢
      have := hnew h (es.take len) c (c - (len + 1)) q6 rfl (by rw [hq6]; exact hc) (by rw [hq6]; omega) (fun _ _ _ => rfl) (fun i e => by cases e; exact q1)
      rw [hq6] at this
      simpa [intE, List.map_take] using this
end Go.Proofs.YtgdlkhgfehclpaaGreat
end

section
/- Functions on lists of numbers, second part: Inverse, both. No condition. -/
namespace Go.Proofs.YtgdlkhgfehclpaaGreat
open Go Go.AL
set_option linter.unusedVariables false
set_option linter.unusedSimpArgs false
/-- Each number's place, the first k written. -/
def invK (xs : List Int) : Nat → List Int
  | 0 => List.replicate xs.length 0
  | k + 1 => (invK xs k).set (xs.getD k default).toNat k
theorem invK_length (xs : List Int) : ∀ k, (invK xs k).length = xs.length
  | 0 => by simp [invK]
  | k + 1 => by simp [invK, invK_length xs k]
theorem checkR_zero {n : Int} {xs : List Int} (h : checkR n xs = 0) : 0 ≤ n ∧ n ≤ 128 ∧ (xs.length : Int) = n ∧ ordOK n xs := by
  unfold checkR at h
  by_cases h1 : n < 0 ∨ 128 < n
  · rw [if_pos h1] at h; omega
  · rw [if_neg h1] at h
    by_cases h2 : (xs.length : Int) ≠ n
    · rw [if_pos h2] at h; omega
    · rw [if_neg h2] at h
      by_cases h3 : ordOK n xs
      · exact ⟨by omega, by omega, by omega, h3⟩
      · rw [if_neg h3] at h; omega
/-- What Inverse answers. -/
noncomputable def invR (xs : List Int) : List Int := if checkR xs.length xs = 0 then invK xs xs.length else []
noncomputable def invE (xs : List Int) : Int := if checkR xs.length xs = 0 then 0 else 182
theorem invR_ok {xs : List Int} (h : checkR xs.length xs = 0) : invR xs = invK xs xs.length ∧ invE xs = 0 := ⟨if_pos h, if_pos h⟩
theorem invR_bad {xs : List Int} (h : checkR xs.length xs ≠ 0) : invR xs = [] ∧ invE xs = 182 := ⟨if_neg h, if_neg h⟩
set_option maxRecDepth 100000 in
theorem inverse_c (xs : List Int) (hb : xs.length < 1000000000) : ACalls Tryz.prog 10 [ints xs] [] fun v h => OFz h v (.tup [ints (invR xs), .int .i64 (invE xs)]) := by
  refine (wp10 rfl rfl ?_)
  simp (maxSteps := 4000000) +contextual only [↓packA, ↓reduceIte, packB, pureOp, quietOp, loadOp, quietB, fr0, cellsK, implies_true, ite_true, ite_false, eq_self, ne_eq, reduceCtorEq, Nat.reduceLT, Nat.reduceLeDiff, Nat.reduceAdd, Nat.reduceMul, Nat.reduceBEq, Nat.reduceEqDiff, Int.reduceToNat, Int.reduceLT, Int.reduceLE, Nat.reduceSub, pl10, ft3, ft22, ft50, ints]
  refine acalls_pure (check_c _ _) rfl ?_
  simp (maxSteps := 4000000) +contextual only [↓packA, ↓reduceIte, packB, pureOp, quietOp, loadOp, quietB, fr0, cellsK, implies_true, ite_true, ite_false, eq_self, ne_eq, reduceCtorEq, Nat.reduceLT, Nat.reduceLeDiff, Nat.reduceAdd, Nat.reduceMul, Nat.reduceBEq, Nat.reduceEqDiff, Int.reduceToNat, Int.reduceLT, Int.reduceLE, Nat.reduceSub, pl10, ft3, ft22, ft50, ints]
  refine ⟨fun h => ?_, fun h => ?_⟩
  · rw [(invR_bad h).1, (invR_bad h).2]
    exact .two (.nils 1) (.flat _ rfl)
  · refine ⟨by omega, ?_⟩
    obtain ⟨_, _, _, hok⟩ := checkR_zero h
    refine LoopK.intro (fun m a h => ∃ k : Nat, m = xs.length - k ∧ k ≤ xs.length ∧ a 4 = .osl 0 1 0 xs.length xs.length true ∧ a 15 = ints xs ∧ a 16 = .int .i64 xs.length ∧ a 17 = .int .i64 k ∧ h = [Ob.arr 1 (List.map intE (invK xs k)) true]) xs.length ⟨0, rfl, Nat.zero_le _, ?_⟩ ?_
    · simp (maxSteps := 4000000) only [↓packA, ↓reduceIte, packB, pureOp, quietOp, loadOp, quietB, fr0, cellsK, implies_true, ite_true, ite_false, eq_self, ne_eq, reduceCtorEq, Nat.reduceLT, Nat.reduceLeDiff, Nat.reduceAdd, Nat.reduceMul, Nat.reduceBEq, Nat.reduceEqDiff, Int.reduceToNat, Int.reduceLT, Int.reduceLE, Nat.reduceSub, pl10, ft3, ft22, ft50, ints, Int.natCast_zero, invK]
    · rintro m a h1 ⟨k, rfl, hk, a4, a15, a16, a17, rfl⟩
      have hxk := hok k
      unfold okAt at hxk
      simp (maxSteps := 4000000) +contextual only [↓packA, ↓reduceIte, packB, pureOp, quietOp, loadOp, quietB, fr0, cellsK, implies_true, ite_true, ite_false, eq_self, ne_eq, reduceCtorEq, Nat.reduceLT, Nat.reduceLeDiff, Nat.reduceAdd, Nat.reduceMul, Nat.reduceBEq, Nat.reduceEqDiff, Int.reduceToNat, Int.reduceLT, Int.reduceLE, Nat.reduceSub, pl10, ft3, ft22, ft50, ints, a4, a15, a16, a17, invK_length]
      refine ⟨fun e => ⟨by omega, by omega, by omega, by omega, by omega, .inl ⟨xs.length - (k + 1), by omega, k + 1, rfl, by omega, by omega, rfl⟩⟩, fun e => ?_⟩
      have : k = xs.length := by omega
      subst this
      rw [(invR_ok h).1, (invR_ok h).2]
      exact .two (ofz_ints rfl (invK_length _ _).symm) (.flat _ rfl)
set_option maxRecDepth 100000 in
theorem inverser_c (xs : List Int) (hb : xs.length < 1000000000) : ACalls Tryz.prog 75 [ints xs] [] fun v h => OFz h v (.tup [ints (invR xs), .int .i64 (invE xs)]) := by
  refine (wp75 rfl rfl ?_)
  simp (maxSteps := 4000000) +contextual only [↓packA, ↓reduceIte, packB, pureOp, quietOp, loadOp, quietB, fr0, cellsK, implies_true, ite_true, ite_false, eq_self, ne_eq, reduceCtorEq, Nat.reduceLT, Nat.reduceLeDiff, Nat.reduceAdd, Nat.reduceMul, Nat.reduceBEq, Nat.reduceEqDiff, Int.reduceToNat, Int.reduceLT, Int.reduceLE, Nat.reduceSub, pl75, ft3, ft22, ints]
  refine ⟨fun h => ?_, fun h => acalls_pure (checkr_c _ _) rfl ?_⟩
  · have h' : checkR xs.length xs ≠ 0 := fun e => by have := checkR_zero e; omega
    rw [← ints, (invR_bad h').1, (invR_bad h').2]
    exact .two (.nils 1) (.flat _ rfl)
  simp (maxSteps := 4000000) +contextual only [↓packA, ↓reduceIte, packB, pureOp, quietOp, loadOp, quietB, fr0, cellsK, implies_true, ite_true, ite_false, eq_self, ne_eq, reduceCtorEq, Nat.reduceLT, Nat.reduceLeDiff, Nat.reduceAdd, Nat.reduceMul, Nat.reduceBEq, Nat.reduceEqDiff, Int.reduceToNat, Int.reduceLT, Int.reduceLE, Nat.reduceSub, pl75, ft3, ft22, ints, h]
  refine ⟨fun h => ?_, fun h => ⟨by omega, ?_⟩⟩
  · rw [← ints, (invR_bad h).1, (invR_bad h).2]
    exact .two (.nils 1) (.flat _ rfl)
  obtain ⟨_, _, _, hok⟩ := checkR_zero h
  refine LoopK.intro (fun m a h => ∃ k : Nat, m = xs.length - k ∧ k ≤ xs.length ∧ a 0 = ints xs ∧ a 4 = .osl 0 1 0 xs.length xs.length true ∧ a 5 = .int .i64 k ∧ h = [Ob.arr 1 (List.map intE (invK xs k)) true]) xs.length ⟨0, rfl, Nat.zero_le _, ?_⟩ ?_
  · simp (maxSteps := 4000000) only [↓packA, ↓reduceIte, packB, pureOp, quietOp, loadOp, quietB, fr0, cellsK, implies_true, ite_true, ite_false, eq_self, ne_eq, reduceCtorEq, Nat.reduceLT, Nat.reduceLeDiff, Nat.reduceAdd, Nat.reduceMul, Nat.reduceBEq, Nat.reduceEqDiff, Int.reduceToNat, Int.reduceLT, Int.reduceLE, Nat.reduceSub, pl75, ft3, ft22, ints, Int.natCast_zero, invK]
  · rintro m a h1 ⟨k, rfl, hk, a0, a4, a5, rfl⟩
    have hxk := hok k
    unfold okAt at hxk
    simp (maxSteps := 4000000) +contextual only [↓packA, ↓reduceIte, packB, pureOp, quietOp, loadOp, quietB, fr0, cellsK, implies_true, ite_true, ite_false, eq_self, ne_eq, reduceCtorEq, Nat.reduceLT, Nat.reduceLeDiff, Nat.reduceAdd, Nat.reduceMul, Nat.reduceBEq, Nat.reduceEqDiff, Int.reduceToNat, Int.reduceLT, Int.reduceLE, Nat.reduceSub, pl75, ft3, ft22, ints, a0, a4, a5, invK_length]
    refine ⟨fun e => ⟨by omega, by omega, by omega, by omega, by omega, .inl ⟨xs.length - (k + 1), by omega, k + 1, rfl, by omega, by omega, rfl⟩⟩, fun e => ?_⟩
    have : k = xs.length := by omega
    subst this
    rw [(invR_ok h).1, (invR_ok h).2]
    exact .two (ofz_ints rfl (invK_length _ _).symm) (.flat _ rfl)
end Go.Proofs.YtgdlkhgfehclpaaGreat
end

section
/- Plain laws of orders: an order's inverse is one, and its inverse is the order. No condition. -/
namespace Go.Proofs.YtgdlkhgfehclpaaGreat
open Go Go.AL
theorem pigeon : ∀ (n : Nat) (l : List Nat), l.Nodup → (∀ x, x ∈ l → x < n) → l.length ≤ n
  | 0, l, _, h => by
    cases l with
    | nil => exact Nat.le_refl _
    | cons a l => exact absurd (h a (by simp)) (Nat.not_lt_zero _)
  | n + 1, l, hn, h => by
    have h1 := pigeon n (l.erase n) (hn.erase n) (fun x hx => by
      have h2 := (List.Nodup.mem_erase_iff hn).1 hx
      have h3 := h x h2.2
      have h4 := h2.1
      omega)
    rw [List.length_erase] at h1
    split at h1 <;> omega
theorem gd {xs : List Int} {i : Nat} (h : i < xs.length) : xs.getD i default = xs[i] := by simp [List.getD_eq_getElem?_getD, List.getElem?_eq_getElem h]
theorem ord_onto {xs : List Int} (h : ordOK xs.length xs) {v : Nat} (hv : v < xs.length) : ∃ j, j < xs.length ∧ xs.getD j default = v := by
  rcases Classical.em (∃ j, j < xs.length ∧ xs.getD j default = v) with hc | hc
  · exact hc
  have hp : (v :: xs.map Int.toNat).length ≤ xs.length := by
    refine pigeon _ _ ?_ ?_
    · refine List.nodup_cons.2 ⟨fun hm => ?_, ?_⟩
      · obtain ⟨x, hx, e⟩ := List.mem_map.1 hm
        obtain ⟨i, hi, e2⟩ := List.getElem_of_mem hx
        have h1 := (h i hi).1
        rw [gd hi, e2] at h1
        exact hc ⟨i, hi, by rw [gd hi, e2]; omega⟩
      · refine List.pairwise_iff_getElem.2 fun i j hi hj hij => ?_
        simp only [List.length_map] at hi hj
        simp only [List.getElem_map]
        have h1 := (h j hj).2.2 i hij
        have h2 := (h j hj).1
        have h3 := (h i hi).1
        rw [gd hi, gd hj] at h1
        rw [gd hj] at h2
        rw [gd hi] at h3
        omega
    · intro x hx
      rcases List.mem_cons.1 hx with e | hx
      · omega
      · obtain ⟨y, hy, e⟩ := List.mem_map.1 hx
        obtain ⟨i, hi, e2⟩ := List.getElem_of_mem hy
        have h1 := (h i hi).1
        have h2 := (h i hi).2.1
        rw [gd hi, e2] at h1 h2
        omega
  simp only [List.length_cons, List.length_map] at hp
  omega
theorem invK_get {xs : List Int} (h : ordOK xs.length xs) : ∀ k, k ≤ xs.length → ∀ j, j < k → (invK xs k).getD (xs.getD j default).toNat default = j
  | 0, _, j, hj => absurd hj (Nat.not_lt_zero _)
  | k + 1, hk, j, hj => by
    have h1 := h k (by omega)
    simp only [invK]
    rw [List.getD_eq_getElem?_getD, List.getElem?_set]
    by_cases e : (xs.getD k default).toNat = (xs.getD j default).toNat
    · have e1 : j = k := by
        rcases Nat.lt_or_ge j k with hlt | hge
        · exfalso
          have h2 := h j (by omega)
          have h3 := h1.2.2 j hlt
          have h4 := h1.1
          have h5 := h2.1
          omega
        · omega
      subst e1
      have h6 := h1.1
      have h7 := h1.2.1
      rw [if_pos rfl, if_pos (by rw [invK_length]; omega)]
      rfl
    · rw [if_neg e, ← List.getD_eq_getElem?_getD]
      refine invK_get h k (by omega) j ?_
      rcases Nat.lt_or_ge j k with hlt | hge
      · exact hlt
      · exact absurd (by rw [show j = k by omega]) e
theorem checkR_ok {xs : List Int} (h0 : xs.length ≤ 128) (h : ordOK xs.length xs) : checkR xs.length xs = 0 := by
  unfold checkR
  rw [if_neg (by omega), if_neg (by simp), if_pos h]
theorem inv_ord {xs : List Int} (h : ordOK xs.length xs) : ordOK (invK xs xs.length).length (invK xs xs.length) := by
  intro v hv
  rw [invK_length] at hv
  obtain ⟨j, hj, e⟩ := ord_onto h hv
  have h1 := invK_get h xs.length (Nat.le_refl _) j hj
  rw [e, show ((v : Int)).toNat = v from Int.toNat_natCast v] at h1
  refine ⟨by rw [h1]; omega, by rw [h1, invK_length]; omega, fun w hw hc => ?_⟩
  obtain ⟨i, hi, e2⟩ := ord_onto h (v := w) (by omega)
  have h2 := invK_get h xs.length (Nat.le_refl _) i hi
  rw [e2, show ((w : Int)).toNat = w from Int.toNat_natCast w] at h2
  rw [h1, h2] at hc
  have : i = j := by omega
  subst this
  omega
theorem inv_inv {xs : List Int} (h : ordOK xs.length xs) : invK (invK xs xs.length) (invK xs xs.length).length = xs := by
  refine list_ext_getD (by rw [invK_length, invK_length]) fun i hi => ?_
  rw [invK_length, invK_length] at hi
  have h1 := invK_get h xs.length (Nat.le_refl _) i hi
  have h2 := h i hi
  have h3 := h2.1
  have h4 := h2.2.1
  have h5 := invK_get (inv_ord h) _ (Nat.le_refl _) (xs.getD i default).toNat (by rw [invK_length]; omega)
  rw [h1, show ((i : Int)).toNat = i from Int.toNat_natCast i] at h5
  rw [h5]
  omega
theorem invR_two {xs : List Int} (h : invE xs = 0) : invE (invR xs) = 0 ∧ invR (invR xs) = xs := by
  have hc : checkR xs.length xs = 0 := by
    rcases Classical.em (checkR xs.length xs = 0) with hc | hc
    · exact hc
    · rw [(invR_bad hc).2] at h; omega
  obtain ⟨_, h2, _, h4⟩ := checkR_zero hc
  rw [(invR_ok hc).1]
  have h5 := checkR_ok (by rw [invK_length]; omega) (inv_ord h4)
  exact ⟨(invR_ok h5).2, by rw [(invR_ok h5).1]; exact inv_inv h4⟩
end Go.Proofs.YtgdlkhgfehclpaaGreat
end
