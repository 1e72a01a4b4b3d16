/- Patterns that may be: what May, Has and the search answer. No condition. -/
import Derived.Test.YtgdlkhgfehclpaaPOg
namespace Go.Proofs.Ytgdlkhgfehclpaa
open Go Go.AL
set_option linter.unusedVariables false
set_option linter.unusedSimpArgs false
def rowOf (st cs : List Int) (r : Nat) : List Int := (cs.drop (st.getD r default).toNat).take ((st.getD (r + 1) default).toNat - (st.getD r default).toNat)
def prv (l : List Int) (j : Nat) : Int := if j = 0 then -1 else l.getD (j - 1) default
def rowOK (w : Int) (l : List Int) : Prop := ∀ j, j < l.length → prv l j < l.getD j default ∧ l.getD j default < w
instance (w : Int) (l : List Int) : Decidable (rowOK w l) := by unfold rowOK; infer_instance
def mayP (rows width : Int) (st cs : List Int) : Prop := (0 ≤ rows ∧ rows ≤ 128) ∧ (0 ≤ width ∧ width ≤ 128) ∧ (st.length : Int) = rows + 1 ∧ st.getD 0 default = 0 ∧ st.getD rows.toNat default = cs.length ∧ srt st ∧ ∀ r, r < rows.toNat → rowOK width (rowOf st cs r)
instance (rows width : Int) (st cs : List Int) : Decidable (mayP rows width st cs) := by unfold mayP; infer_instance
theorem srt_le {st : List Int} (hs : srt st) : ∀ (d i : Nat), i + d < st.length → st.getD i default ≤ st.getD (i + d) default
  | 0, i, _ => Int.le_refl _
  | d + 1, i, h => by
    have h1 := srt_le hs d i (by omega)
    have h2 := hs (i + d) (by omega)
    rw [show i + (d + 1) = i + d + 1 by omega]
    omega
/-- Where a row begins and ends. -/
theorem row_bounds {rows : Int} {st : List Int} {n : Nat} (hr : 0 ≤ rows) (hl : (st.length : Int) = rows + 1) (h0 : st.getD 0 default = 0) (he : st.getD rows.toNat default = n) (hs : srt st) {r : Nat} (h : r < rows.toNat) :
    0 ≤ st.getD r default ∧ st.getD r default ≤ st.getD (r + 1) default ∧ st.getD (r + 1) default ≤ n := by
  have h1 := srt_le hs r 0 (by omega)
  have h2 := srt_le hs 1 r (by omega)
  have h3 := srt_le hs (rows.toNat - (r + 1)) (r + 1) (by omega)
  rw [show 0 + r = r by omega, h0] at h1
  rw [show r + 1 + (rows.toNat - (r + 1)) = rows.toNat by omega, he] at h3
  exact ⟨h1, h2, h3⟩
theorem rowOf_length {st cs : List Int} {r : Nat} (h0 : 0 ≤ st.getD r default) (h1 : st.getD r default ≤ st.getD (r + 1) default) (h2 : st.getD (r + 1) default ≤ cs.length) : (rowOf st cs r).length = (st.getD (r + 1) default).toNat - (st.getD r default).toNat := by
  simp only [rowOf, List.length_take, List.length_drop]
  omega
set_option maxRecDepth 100000 in
theorem may_c (rows width : Int) (st cs : List Int) (hb : st.length < 1000000000) (hb2 : cs.length < 1000000000) : APure Try.prog 73 [pat rows width st cs] (.bool (decide (mayP rows width st cs))) := by
  have no : ∀ {h : Heap}, ¬ mayP rows width st cs → Frz h (.bool false) (.bool (decide (mayP rows width st cs))) := fun hc => by rw [decide_eq_false hc]; exact .pure _ rfl
  refine apure_of (wp73 rfl rfl ?_)
  simp (maxSteps := 4000000) +contextual only [↓packA0, ↓packA1, ↓packA2, ↓reduceIte, packB0, packB1, packB2, packB3, packB4, pureOp, quietOp, loadOp, quietB, fr0, cellsK, Option.getD_some, Option.getD_none, implies_true, ite_true, ite_false, eq_self, ne_eq, reduceCtorEq, Nat.reduceLT, Nat.reduceLeDiff, Nat.reduceAdd, Nat.reduceMul, Nat.reduceBEq, Nat.reduceEqDiff, Int.reduceToNat, Int.reduceLT, Int.reduceLE, Nat.reduceSub, pl73, tfun_1, telem_1, tsize_2, tbytes_2, tagg_2, zcells_2, telem_2, tint_2, tnotIface_2, tsize_3, tbytes_3, tagg_3, zcells_3, telem_3, tint_3, tnotIface_3, tsize_4, tbytes_4, tagg_4, zcells_4, telem_4, tbool_4, tnotIface_4, tsize_23, tbytes_23, tagg_23, zcells_23, telem_23, tnotIface_23, tsize_45, tbytes_45, tagg_45, zcells_45, telem_45, tnotIface_45, foff_45_0, foff_45_1, foff_45_2, foff_45_3, fplaces_45, ints]
  refine acalls_pure (side_c _) rfl ?_
  simp (maxSteps := 4000000) +contextual only [↓packA0, ↓packA1, ↓packA2, ↓reduceIte, packB0, packB1, packB2, packB3, packB4, pureOp, quietOp, loadOp, quietB, fr0, cellsK, Option.getD_some, Option.getD_none, implies_true, ite_true, ite_false, eq_self, ne_eq, reduceCtorEq, Nat.reduceLT, Nat.reduceLeDiff, Nat.reduceAdd, Nat.reduceMul, Nat.reduceBEq, Nat.reduceEqDiff, Int.reduceToNat, Int.reduceLT, Int.reduceLE, Nat.reduceSub, pl73, tfun_1, telem_1, tsize_2, tbytes_2, tagg_2, zcells_2, telem_2, tint_2, tnotIface_2, tsize_3, tbytes_3, tagg_3, zcells_3, telem_3, tint_3, tnotIface_3, tsize_4, tbytes_4, tagg_4, zcells_4, telem_4, tbool_4, tnotIface_4, tsize_23, tbytes_23, tagg_23, zcells_23, telem_23, tnotIface_23, tsize_45, tbytes_45, tagg_45, zcells_45, telem_45, tnotIface_45, foff_45_0, foff_45_1, foff_45_2, foff_45_3, fplaces_45, ints]
  refine ⟨fun h0 => acalls_pure (side_c _) rfl ?_, fun h0 => no fun hc => h0 hc.1⟩
  simp (maxSteps := 4000000) +contextual only [↓packA0, ↓packA1, ↓packA2, ↓reduceIte, packB0, packB1, packB2, packB3, packB4, pureOp, quietOp, loadOp, quietB, fr0, cellsK, Option.getD_some, Option.getD_none, implies_true, ite_true, ite_false, eq_self, ne_eq, reduceCtorEq, Nat.reduceLT, Nat.reduceLeDiff, Nat.reduceAdd, Nat.reduceMul, Nat.reduceBEq, Nat.reduceEqDiff, Int.reduceToNat, Int.reduceLT, Int.reduceLE, Nat.reduceSub, pl73, tfun_1, telem_1, tsize_2, tbytes_2, tagg_2, zcells_2, telem_2, tint_2, tnotIface_2, tsize_3, tbytes_3, tagg_3, zcells_3, telem_3, tint_3, tnotIface_3, tsize_4, tbytes_4, tagg_4, zcells_4, telem_4, tbool_4, tnotIface_4, tsize_23, tbytes_23, tagg_23, zcells_23, telem_23, tnotIface_23, tsize_45, tbytes_45, tagg_45, zcells_45, telem_45, tnotIface_45, foff_45_0, foff_45_1, foff_45_2, foff_45_3, fplaces_45, ints, h0]
  refine ⟨fun h1 => ⟨by omega, fun h2 => no fun hc => h2 hc.2.2.1, fun h2 => ⟨by omega, fun h3 => no fun hc => h3 hc.2.2.2.1, fun h3 => ⟨by omega, fun h4 => no fun hc => h4 hc.2.2.2.2.1, fun h4 => acalls_pure (sorted_c st hb) rfl ?_⟩⟩⟩, fun h1 => no fun hc => h1 hc.2.1⟩
  simp (maxSteps := 4000000) +contextual only [↓packA0, ↓packA1, ↓packA2, ↓reduceIte, packB0, packB1, packB2, packB3, packB4, pureOp, quietOp, loadOp, quietB, fr0, cellsK, Option.getD_some, Option.getD_none, implies_true, ite_true, ite_false, eq_self, ne_eq, reduceCtorEq, Nat.reduceLT, Nat.reduceLeDiff, Nat.reduceAdd, Nat.reduceMul, Nat.reduceBEq, Nat.reduceEqDiff, Int.reduceToNat, Int.reduceLT, Int.reduceLE, Nat.reduceSub, pl73, tfun_1, telem_1, tsize_2, tbytes_2, tagg_2, zcells_2, telem_2, tint_2, tnotIface_2, tsize_3, tbytes_3, tagg_3, zcells_3, telem_3, tint_3, tnotIface_3, tsize_4, tbytes_4, tagg_4, zcells_4, telem_4, tbool_4, tnotIface_4, tsize_23, tbytes_23, tagg_23, zcells_23, telem_23, tnotIface_23, tsize_45, tbytes_45, tagg_45, zcells_45, telem_45, tnotIface_45, foff_45_0, foff_45_1, foff_45_2, foff_45_3, fplaces_45, ints, h0, h1, h2, h3, h4]
  refine ⟨fun h5 => ?_, fun h5 => no fun hc => h5 hc.2.2.2.2.2.1⟩
  refine LoopK.intro (fun m a h => ∃ r : Nat, m = rows.toNat - r ∧ r ≤ rows.toNat ∧ (∀ i, i < r → rowOK width (rowOf st cs i)) ∧ a 1 = .op 0 4 0 0 ∧ a 52 = .int .i64 rows ∧ a 53 = .int .i64 r ∧ h = [Ob.arr 4 [[.int .i64 rows, .int .i64 width, ints st, ints cs]] true]) rows.toNat ⟨0, rfl, Nat.zero_le _, fun i h => absurd h (Nat.not_lt_zero _), ?_⟩ ?_
  · simp (maxSteps := 4000000) +contextual only [↓packA0, ↓packA1, ↓packA2, ↓reduceIte, packB0, packB1, packB2, packB3, packB4, pureOp, quietOp, loadOp, quietB, fr0, cellsK, Option.getD_some, Option.getD_none, implies_true, ite_true, ite_false, eq_self, ne_eq, reduceCtorEq, Nat.reduceLT, Nat.reduceLeDiff, Nat.reduceAdd, Nat.reduceMul, Nat.reduceBEq, Nat.reduceEqDiff, Int.reduceToNat, Int.reduceLT, Int.reduceLE, Nat.reduceSub, pl73, tfun_1, telem_1, tsize_2, tbytes_2, tagg_2, zcells_2, telem_2, tint_2, tnotIface_2, tsize_3, tbytes_3, tagg_3, zcells_3, telem_3, tint_3, tnotIface_3, tsize_4, tbytes_4, tagg_4, zcells_4, telem_4, tbool_4, tnotIface_4, tsize_23, tbytes_23, tagg_23, zcells_23, telem_23, tnotIface_23, tsize_45, tbytes_45, tagg_45, zcells_45, telem_45, tnotIface_45, foff_45_0, foff_45_1, foff_45_2, foff_45_3, fplaces_45, ints, Int.natCast_zero]
  rintro m a h ⟨r, rfl, hr, hok, a1, a52, a53, rfl⟩
  simp (maxSteps := 4000000) +contextual only [↓packA0, ↓packA1, ↓packA2, ↓reduceIte, packB0, packB1, packB2, packB3, packB4, pureOp, quietOp, loadOp, quietB, fr0, cellsK, Option.getD_some, Option.getD_none, implies_true, ite_true, ite_false, eq_self, ne_eq, reduceCtorEq, Nat.reduceLT, Nat.reduceLeDiff, Nat.reduceAdd, Nat.reduceMul, Nat.reduceBEq, Nat.reduceEqDiff, Int.reduceToNat, Int.reduceLT, Int.reduceLE, Nat.reduceSub, pl73, tfun_1, telem_1, tsize_2, tbytes_2, tagg_2, zcells_2, telem_2, tint_2, tnotIface_2, tsize_3, tbytes_3, tagg_3, zcells_3, telem_3, tint_3, tnotIface_3, tsize_4, tbytes_4, tagg_4, zcells_4, telem_4, tbool_4, tnotIface_4, tsize_23, tbytes_23, tagg_23, zcells_23, telem_23, tnotIface_23, tsize_45, tbytes_45, tagg_45, zcells_45, telem_45, tnotIface_45, foff_45_0, foff_45_1, foff_45_2, foff_45_3, fplaces_45, ints, a1, a52, a53]
  refine ⟨fun h6 => ?_, fun h6 => ?_⟩
  · have hrb := row_bounds h0.1 h2 h3 h4 h5 (r := r) (by omega)
    refine ⟨by omega, by omega, by omega, by omega, by omega, by omega, by omega, ⟨by omega, by omega⟩, ?_⟩
    have hrl : (rowOf st cs r).length = (st.getD (r + 1) default).toNat - (st.getD r default).toNat := rowOf_length hrb.1 hrb.2.1 hrb.2.2
    have hrw : AV.isl 1 (((List.map intE cs).drop (st.getD r default).toNat).take ((st.getD (r + 1) default).toNat - (st.getD r default).toNat)) = ints (rowOf st cs r) := by simp [ints, rowOf, List.map_take, List.map_drop]
    refine LoopK.intro (fun m a h => ∃ j : Nat, m = (rowOf st cs r).length - j ∧ j ≤ (rowOf st cs r).length ∧ (∀ i, i < j → prv (rowOf st cs r) i < (rowOf st cs r).getD i default ∧ (rowOf st cs r).getD i default < width) ∧ a 1 = .op 0 4 0 0 ∧ a 4 = .int .i64 (prv (rowOf st cs r) j) ∧ a 52 = .int .i64 rows ∧ a 53 = .int .i64 r ∧ a 69 = ints (rowOf st cs r) ∧ a 70 = .int .i64 (rowOf st cs r).length ∧ a 71 = .int .i64 j ∧ h = [Ob.arr 4 [[.int .i64 rows, .int .i64 width, ints st, ints cs]] true]) (rowOf st cs r).length ⟨0, rfl, Nat.zero_le _, fun i h => absurd h (Nat.not_lt_zero _), ?_⟩ ?_
    · simp (maxSteps := 4000000) +contextual only [↓packA0, ↓packA1, ↓packA2, ↓reduceIte, packB0, packB1, packB2, packB3, packB4, pureOp, quietOp, loadOp, quietB, fr0, cellsK, Option.getD_some, Option.getD_none, implies_true, ite_true, ite_false, eq_self, ne_eq, reduceCtorEq, Nat.reduceLT, Nat.reduceLeDiff, Nat.reduceAdd, Nat.reduceMul, Nat.reduceBEq, Nat.reduceEqDiff, Int.reduceToNat, Int.reduceLT, Int.reduceLE, Nat.reduceSub, pl73, tfun_1, telem_1, tsize_2, tbytes_2, tagg_2, zcells_2, telem_2, tint_2, tnotIface_2, tsize_3, tbytes_3, tagg_3, zcells_3, telem_3, tint_3, tnotIface_3, tsize_4, tbytes_4, tagg_4, zcells_4, telem_4, tbool_4, tnotIface_4, tsize_23, tbytes_23, tagg_23, zcells_23, telem_23, tnotIface_23, tsize_45, tbytes_45, tagg_45, zcells_45, telem_45, tnotIface_45, foff_45_0, foff_45_1, foff_45_2, foff_45_3, fplaces_45, ints, Int.natCast_zero, hrw, a1, a52, a53, hrl, prv]
      simp only [List.length_take, List.length_drop, List.length_map]
      omega
    rintro m a h ⟨j, rfl, hj, hjok, a1, a4, a52, a53, a69, a70, a71, rfl⟩
    simp (maxSteps := 4000000) +contextual only [↓packA0, ↓packA1, ↓packA2, ↓reduceIte, packB0, packB1, packB2, packB3, packB4, pureOp, quietOp, loadOp, quietB, fr0, cellsK, Option.getD_some, Option.getD_none, implies_true, ite_true, ite_false, eq_self, ne_eq, reduceCtorEq, Nat.reduceLT, Nat.reduceLeDiff, Nat.reduceAdd, Nat.reduceMul, Nat.reduceBEq, Nat.reduceEqDiff, Int.reduceToNat, Int.reduceLT, Int.reduceLE, Nat.reduceSub, pl73, tfun_1, telem_1, tsize_2, tbytes_2, tagg_2, zcells_2, telem_2, tint_2, tnotIface_2, tsize_3, tbytes_3, tagg_3, zcells_3, telem_3, tint_3, tnotIface_3, tsize_4, tbytes_4, tagg_4, zcells_4, telem_4, tbool_4, tnotIface_4, tsize_23, tbytes_23, tagg_23, zcells_23, telem_23, tnotIface_23, tsize_45, tbytes_45, tagg_45, zcells_45, telem_45, tnotIface_45, foff_45_0, foff_45_1, foff_45_2, foff_45_3, fplaces_45, ints, a1, a4, a52, a53, a69, a70, a71]
    refine ⟨fun h7 => ⟨by omega, by omega, ?_⟩, fun h7 => ?_⟩
    · refine ⟨fun h8 => no fun hc => ?_, fun h8 => ⟨fun h9 => no fun hc => ?_, fun h9 => ⟨by omega, .inl ⟨(rowOf st cs r).length - (j + 1), by omega, j + 1, rfl, by omega, fun i hi => ?_, by simp [prv], by omega⟩⟩⟩⟩
      · have := (hc.2.2.2.2.2.2 r (by omega) j (by omega)).1
        omega
      · have := (hc.2.2.2.2.2.2 r (by omega) j (by omega)).2
        omega
      · rcases Nat.lt_or_ge i j with h10 | h10
        · exact hjok i h10
        · rw [show i = j by omega]
          exact ⟨by omega, by omega⟩
    · refine ⟨by omega, .inl ⟨rows.toNat - (r + 1), by omega, r + 1, rfl, by omega, fun i hi => ?_, by omega⟩⟩
      rcases Nat.lt_or_ge i r with h10 | h10
      · exact hok i h10
      · rw [show i = r by omega]
        exact fun k hk => hjok k (by omega)
  · have : mayP rows width st cs := ⟨h0, h1, h2, h3, h4, h5, fun i hi => hok i (by omega)⟩
    rw [decide_eq_true this]; exact .pure _ rfl
end Go.Proofs.Ytgdlkhgfehclpaa
