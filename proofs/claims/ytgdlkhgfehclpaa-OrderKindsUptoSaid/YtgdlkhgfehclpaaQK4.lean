/- Texts of one claim bound together: ALt, POa, POg, PZb, POh, POi, POj, POk, POl, POm, POn, POo, POr, POs, POP, POQ, POR. -/
import Derived.Test.YtgdlkhgfehclpaaQK3

section
/- The step rules of the small logic, bound together. No condition. -/
namespace Go.AL
theorem packA0 : type_of% (And.intro @asx_skip (And.intro @asx_text (And.intro @asx_draw (And.intro @asx_seq (And.intro @asx_cond (And.intro @asx_block (And.intro @asx_loop (And.intro @asx_exit (And.intro @asx_ret (And.intro @asx_label (And.intro @then_normal (And.intro @then_ret (And.intro @then_exit (And.intro @block_normal (And.intro @block_ret (And.intro @block_exit (And.intro @aops_nil (And.intro @aops_one (And.intro @aops_if (And.intro @guK_zero (And.intro @guK_succ (And.intro @guK_some (And.intro @atK_zero (And.intro @atK_succ (And.intro @adrD_nil (And.intro @adrD_none (And.intro @adrD_one (And.intro @adrD_more (And.intro @adrD_two (And.intro @adrX_nil (And.intro @adrX_cons (And.intro @adrXG_one (And.intro @adrXG_if (And.intro @keep0_true (And.intro @keep0_false (And.intro @adr_nil (And.intro @adr_cons (And.intro @adrG_one (And.intro @adrG_if (@adrK_eq)))))))))))))))))))))))))))))))))))))))) := And.intro @asx_skip (And.intro @asx_text (And.intro @asx_draw (And.intro @asx_seq (And.intro @asx_cond (And.intro @asx_block (And.intro @asx_loop (And.intro @asx_exit (And.intro @asx_ret (And.intro @asx_label (And.intro @then_normal (And.intro @then_ret (And.intro @then_exit (And.intro @block_normal (And.intro @block_ret (And.intro @block_exit (And.intro @aops_nil (And.intro @aops_one (And.intro @aops_if (And.intro @guK_zero (And.intro @guK_succ (And.intro @guK_some (And.intro @atK_zero (And.intro @atK_succ (And.intro @adrD_nil (And.intro @adrD_none (And.intro @adrD_one (And.intro @adrD_more (And.intro @adrD_two (And.intro @adrX_nil (And.intro @adrX_cons (And.intro @adrXG_one (And.intro @adrXG_if (And.intro @keep0_true (And.intro @keep0_false (And.intro @adr_nil (And.intro @adr_cons (And.intro @adrG_one (And.intro @adrG_if (@adrK_eq)))))))))))))))))))))))))))))))))))))))
theorem packA1 : type_of% (And.intro @reK_nil (And.intro @reK_cons (And.intro @atT_zero (And.intro @atT_succ (And.intro @doneK_hit (And.intro @keepL_true (And.intro @keepL_false (And.intro @evK_tmp (And.intro @evK_int (And.intro @evK_bool (And.intro @evK_str (And.intro @evK_flt (And.intro @evK_nilp (And.intro @evK_nils (And.intro @evK_nilf (And.intro @evK_nili (And.intro @evK_nilm (And.intro @evK_undef (And.intro @evK_func (And.intro @evsK_nil (And.intro @evsK_cons (And.intro @evpK_nil (And.intro @evpK_cons (And.intro @evoK_none (And.intro @evoK_some (And.intro @aop_move (And.intro @aop_assign (And.intro @aop_pick (And.intro @aop_alloc (And.intro @aop_box (And.intro @aop_build (And.intro @aop_buildSlice (And.intro @aop_load (And.intro @aop_store (And.intro @aop_nilCheck (And.intro @aop_bin (And.intro @aop_un (And.intro @aop_convert (And.intro @aop_makeFunc (@aop_makeInterface)))))))))))))))))))))))))))))))))))))))) := And.intro @reK_nil (And.intro @reK_cons (And.intro @atT_zero (And.intro @atT_succ (And.intro @doneK_hit (And.intro @keepL_true (And.intro @keepL_false (And.intro @evK_tmp (And.intro @evK_int (And.intro @evK_bool (And.intro @evK_str (And.intro @evK_flt (And.intro @evK_nilp (And.intro @evK_nils (And.intro @evK_nilf (And.intro @evK_nili (And.intro @evK_nilm (And.intro @evK_undef (And.intro @evK_func (And.intro @evsK_nil (And.intro @evsK_cons (And.intro @evpK_nil (And.intro @evpK_cons (And.intro @evoK_none (And.intro @evoK_some (And.intro @aop_move (And.intro @aop_assign (And.intro @aop_pick (And.intro @aop_alloc (And.intro @aop_box (And.intro @aop_build (And.intro @aop_buildSlice (And.intro @aop_load (And.intro @aop_store (And.intro @aop_nilCheck (And.intro @aop_bin (And.intro @aop_un (And.intro @aop_convert (And.intro @aop_makeFunc (@aop_makeInterface)))))))))))))))))))))))))))))))))))))))
theorem packA2 : type_of% (And.intro @aop_makeSlice (And.intro @aop_slice (And.intro @aop_fieldAddr (And.intro @aop_field (And.intro @aop_indexAddr (And.intro @aop_index (And.intro @aop_extract (And.intro @aop_call (And.intro @aop_len (And.intro @aop_cap (And.intro @aop_min (And.intro @aop_max (And.intro @aop_append (And.intro @aop_clear (And.intro @resK_nil (And.intro @resK_tmp (And.intro @resK_cell (And.intro @bodyQ_normal (And.intro @bodyQ_ret (@putK_none)))))))))))))))))))) := And.intro @aop_makeSlice (And.intro @aop_slice (And.intro @aop_fieldAddr (And.intro @aop_field (And.intro @aop_indexAddr (And.intro @aop_index (And.intro @aop_extract (And.intro @aop_call (And.intro @aop_len (And.intro @aop_cap (And.intro @aop_min (And.intro @aop_max (And.intro @aop_append (And.intro @aop_clear (And.intro @resK_nil (And.intro @resK_tmp (And.intro @resK_cell (And.intro @bodyQ_normal (And.intro @bodyQ_ret (@putK_none)))))))))))))))))))
theorem packB0 : type_of% (And.intro @mk_eq (And.intro @gdK_true (And.intro @gdK_false (And.intro @gdK_undef (And.intro @optK_some (And.intro @condK_true (And.intro @condK_false (And.intro @condK_dec (And.intro @condK_not (And.intro @condK_beq (And.intro @condK_bne (And.intro @condK_getD (And.intro @decide_eq_true_eq (And.intro @decide_eq_false_iff_not (And.intro @beq_iff_eq.{0} (And.intro @beq_eq_false_iff_ne.{0} (And.intro @bne_iff_ne.{0} (And.intro @bne_eq_false_iff_eq.{0} (And.intro @Bool.not_eq_true' (And.intro @Bool.not_eq_false' (And.intro @Bool.not_not (And.intro @Nat.mul_one (And.intro @Nat.one_mul (And.intro @block_exit' (And.intro @putK_some (And.intro @exK_and (And.intro @exK_eq (And.intro @doneK_miss (And.intro @quK_true (And.intro @quK_false (And.intro @upd_same (And.intro @upd_ne (And.intro @letH_eq (And.intro @fitK_i64 (And.intro @fitK_u64 (And.intro @fitK_u32 (And.intro @fitK_u8 (And.intro @fitK_i32 (And.intro @ldX_cell (@ldX_agg)))))))))))))))))))))))))))))))))))))))) := And.intro @mk_eq (And.intro @gdK_true (And.intro @gdK_false (And.intro @gdK_undef (And.intro @optK_some (And.intro @condK_true (And.intro @condK_false (And.intro @condK_dec (And.intro @condK_not (And.intro @condK_beq (And.intro @condK_bne (And.intro @condK_getD (And.intro @decide_eq_true_eq (And.intro @decide_eq_false_iff_not (And.intro @beq_iff_eq.{0} (And.intro @beq_eq_false_iff_ne.{0} (And.intro @bne_iff_ne.{0} (And.intro @bne_eq_false_iff_eq.{0} (And.intro @Bool.not_eq_true' (And.intro @Bool.not_eq_false' (And.intro @Bool.not_not (And.intro @Nat.mul_one (And.intro @Nat.one_mul (And.intro @block_exit' (And.intro @putK_some (And.intro @exK_and (And.intro @exK_eq (And.intro @doneK_miss (And.intro @quK_true (And.intro @quK_false (And.intro @upd_same (And.intro @upd_ne (And.intro @letH_eq (And.intro @fitK_i64 (And.intro @fitK_u64 (And.intro @fitK_u32 (And.intro @fitK_u8 (And.intro @fitK_i32 (And.intro @ldX_cell (@ldX_agg)))))))))))))))))))))))))))))))))))))))
theorem packB1 : type_of% (And.intro @objK_some (And.intro @loadK_ip (And.intro @loadK_op (And.intro @faK_ip (And.intro @faK_op (And.intro @fieldAddrK_eq (And.intro @fdK_agg (And.intro @fieldK_eq (And.intro @optK_map (And.intro @elK_eq (And.intro @indexAddrK_isl (And.intro @indexAddrK_osl (And.intro @arK_eq (And.intro @indexAddrK_ip (And.intro @indexAddrK_op (And.intro @indexK_str (And.intro @indexK_agg (And.intro @clearK_nils (And.intro @clearK_osl (And.intro @bin_add (And.intro @bin_sub (And.intro @bin_mul (And.intro @bin_quo (And.intro @bin_rem (And.intro @bin_eql (And.intro @bin_neq (And.intro @bin_lss (And.intro @bin_leq (And.intro @bin_gtr (And.intro @bin_geq (And.intro @bin_shl (And.intro @bin_shr (And.intro @bin_beql (And.intro @bin_bneq (And.intro @bin_nils (And.intro @eqK_eql (And.intro @eqK_neq (And.intro @unK_not (And.intro @unK_neg (@convK_int)))))))))))))))))))))))))))))))))))))))) := And.intro @objK_some (And.intro @loadK_ip (And.intro @loadK_op (And.intro @faK_ip (And.intro @faK_op (And.intro @fieldAddrK_eq (And.intro @fdK_agg (And.intro @fieldK_eq (And.intro @optK_map (And.intro @elK_eq (And.intro @indexAddrK_isl (And.intro @indexAddrK_osl (And.intro @arK_eq (And.intro @indexAddrK_ip (And.intro @indexAddrK_op (And.intro @indexK_str (And.intro @indexK_agg (And.intro @clearK_nils (And.intro @clearK_osl (And.intro @bin_add (And.intro @bin_sub (And.intro @bin_mul (And.intro @bin_quo (And.intro @bin_rem (And.intro @bin_eql (And.intro @bin_neq (And.intro @bin_lss (And.intro @bin_leq (And.intro @bin_gtr (And.intro @bin_geq (And.intro @bin_shl (And.intro @bin_shr (And.intro @bin_beql (And.intro @bin_bneq (And.intro @bin_nils (And.intro @eqK_eql (And.intro @eqK_neq (And.intro @unK_not (And.intro @unK_neg (@convK_int)))))))))))))))))))))))))))))))))))))))
theorem packB2 : type_of% (And.intro @convK_str (And.intro @extK_tup (And.intro @lenK_isl (And.intro @lenK_osl (And.intro @lenK_nils (And.intro @lenK_str (And.intro @nilCheckK_ip (And.intro @nilCheckK_op (And.intro @pickK_eq (And.intro @bdK_none (And.intro @bdK_some (And.intro @slK_eq (And.intro @sliceAll_isl (And.intro @sliceAll_osl (And.intro @sliceAll_nils (And.intro @storeK_op (And.intro @obxK_some (And.intro @makeSliceK_int (And.intro @fillK_nil (And.intro @fillK_cons (And.intro @fillRK_nil (And.intro @fillRK_cons (And.intro @callK_fn (And.intro @elemsK_nils (And.intro @elemsK_isl (And.intro @elemsK_osl (And.intro @appendK_eq (And.intro @apK_nils (And.intro @apK_osl (And.intro @oneK_one (And.intro @oneK_none (And.intro @oneK_two (And.intro @ren_osl (And.intro @ren_op (And.intro @ren_int (And.intro @ren_bool (And.intro @ren_nils (And.intro @ren_tup (And.intro @ren_agg (@ren_isl)))))))))))))))))))))))))))))))))))))))) := And.intro @convK_str (And.intro @extK_tup (And.intro @lenK_isl (And.intro @lenK_osl (And.intro @lenK_nils (And.intro @lenK_str (And.intro @nilCheckK_ip (And.intro @nilCheckK_op (And.intro @pickK_eq (And.intro @bdK_none (And.intro @bdK_some (And.intro @slK_eq (And.intro @sliceAll_isl (And.intro @sliceAll_osl (And.intro @sliceAll_nils (And.intro @storeK_op (And.intro @obxK_some (And.intro @makeSliceK_int (And.intro @fillK_nil (And.intro @fillK_cons (And.intro @fillRK_nil (And.intro @fillRK_cons (And.intro @callK_fn (And.intro @elemsK_nils (And.intro @elemsK_isl (And.intro @elemsK_osl (And.intro @appendK_eq (And.intro @apK_nils (And.intro @apK_osl (And.intro @oneK_one (And.intro @oneK_none (And.intro @oneK_two (And.intro @ren_osl (And.intro @ren_op (And.intro @ren_int (And.intro @ren_bool (And.intro @ren_nils (And.intro @ren_tup (And.intro @ren_agg (@ren_isl)))))))))))))))))))))))))))))))))))))))
theorem packB3 : type_of% (And.intro @rens_nil (And.intro @rens_cons (And.intro @ren_intEs (And.intro @ren_boolEs (And.intro @behind_eq (And.intro @map_one (And.intro @patch_one (And.intro @patch_two (And.intro @repl_zero (And.intro @repl_succ (And.intro @intE_eq (And.intro @boolE_eq (And.intro @rep_intE (And.intro @rep_boolE (And.intro @set_intE (And.intro @set_boolE (And.intro @set_bools (And.intro @app_intE (And.intro @app_intE3 (And.intro @take_app (And.intro @drop_app3 (And.intro @take_map_all (And.intro @AV.int.injEq (And.intro @AV.bool.injEq (And.intro @List.getElem?_cons_zero.{0} (And.intro @List.getElem?_cons_succ.{0} (And.intro @List.getElem?_nil.{0} (And.intro @List.length_cons.{0} (And.intro @List.length_nil.{0} (And.intro @List.length_map.{0, 0} (And.intro @List.length_replicate.{0} (And.intro @List.length_append.{0} (And.intro @List.length_set.{0} (And.intro @List.drop_succ_cons.{0} (And.intro @List.drop_zero.{0} (And.intro @List.take_succ_cons.{0} (And.intro @List.take_zero.{0} (And.intro @List.set_cons_zero.{0} (And.intro @List.set_cons_succ.{0} (@List.nil_append.{0})))))))))))))))))))))))))))))))))))))))) := And.intro @rens_nil (And.intro @rens_cons (And.intro @ren_intEs (And.intro @ren_boolEs (And.intro @behind_eq (And.intro @map_one (And.intro @patch_one (And.intro @patch_two (And.intro @repl_zero (And.intro @repl_succ (And.intro @intE_eq (And.intro @boolE_eq (And.intro @rep_intE (And.intro @rep_boolE (And.intro @set_intE (And.intro @set_boolE (And.intro @set_bools (And.intro @app_intE (And.intro @app_intE3 (And.intro @take_app (And.intro @drop_app3 (And.intro @take_map_all (And.intro @AV.int.injEq (And.intro @AV.bool.injEq (And.intro @List.getElem?_cons_zero.{0} (And.intro @List.getElem?_cons_succ.{0} (And.intro @List.getElem?_nil.{0} (And.intro @List.length_cons.{0} (And.intro @List.length_nil.{0} (And.intro @List.length_map.{0, 0} (And.intro @List.length_replicate.{0} (And.intro @List.length_append.{0} (And.intro @List.length_set.{0} (And.intro @List.drop_succ_cons.{0} (And.intro @List.drop_zero.{0} (And.intro @List.take_succ_cons.{0} (And.intro @List.take_zero.{0} (And.intro @List.set_cons_zero.{0} (And.intro @List.set_cons_succ.{0} (@List.nil_append.{0})))))))))))))))))))))))))))))))))))))))
theorem packB4 : type_of% (And.intro @List.append_nil.{0} (And.intro @List.cons_append.{0} (And.intro @Nat.not_succ_le_self (And.intro @Option.some.injEq.{0} (And.intro @Option.isSome_some.{0} (And.intro @and_true (And.intro @true_and (And.intro @and_self (And.intro @true_or (And.intro @or_true (And.intro @or_self (And.intro @true_implies (And.intro @false_implies (And.intro @not_true_eq_false (And.intro @not_false_eq_true (And.intro @Bool.not_true (And.intro @Bool.not_false (And.intro @Bool.true_or (And.intro @Bool.or_true (And.intro @Bool.false_or (And.intro @Bool.or_false (And.intro @beq_self_eq_true.{0} (And.intro @decide_true (And.intro @decide_false (And.intro @Nat.add_zero (And.intro @Nat.zero_add (And.intro @Nat.lt_add_one (And.intro @Int.toNat_zero (And.intro @Int.toNat_natCast (And.intro @tn1 (And.intro @tn3 (And.intro @tn2 (And.intro @Nat.zero_le (And.intro @Nat.le_refl (And.intro @Nat.one_ne_zero (And.intro @Nat.sub_zero (And.intro @Nat.zero_lt_one (@Nat.zero_lt_succ)))))))))))))))))))))))))))))))))))))) := And.intro @List.append_nil.{0} (And.intro @List.cons_append.{0} (And.intro @Nat.not_succ_le_self (And.intro @Option.some.injEq.{0} (And.intro @Option.isSome_some.{0} (And.intro @and_true (And.intro @true_and (And.intro @and_self (And.intro @true_or (And.intro @or_true (And.intro @or_self (And.intro @true_implies (And.intro @false_implies (And.intro @not_true_eq_false (And.intro @not_false_eq_true (And.intro @Bool.not_true (And.intro @Bool.not_false (And.intro @Bool.true_or (And.intro @Bool.or_true (And.intro @Bool.false_or (And.intro @Bool.or_false (And.intro @beq_self_eq_true.{0} (And.intro @decide_true (And.intro @decide_false (And.intro @Nat.add_zero (And.intro @Nat.zero_add (And.intro @Nat.lt_add_one (And.intro @Int.toNat_zero (And.intro @Int.toNat_natCast (And.intro @tn1 (And.intro @tn3 (And.intro @tn2 (And.intro @Nat.zero_le (And.intro @Nat.le_refl (And.intro @Nat.one_ne_zero (And.intro @Nat.sub_zero (And.intro @Nat.zero_lt_one (@Nat.zero_lt_succ)))))))))))))))))))))))))))))))))))))
end Go.AL
end

section
namespace Go.Proofs.Ytgdlkhgfehclpaa
open Go Go.AL
set_option linter.unusedVariables false
set_option linter.unusedSimpArgs false
theorem take_set {xs : List Int} {k m m' : Nat} {z : Int} (hk : k < xs.length) (hm : m = m' + 1) : (List.take k xs ++ List.replicate m z).set k (xs.getD k default) = List.take (k + 1) xs ++ List.replicate m' z := by
  subst hm
  apply List.ext_getElem?
  intro i
  rw [List.getElem?_set]
  simp only [List.length_append, List.length_take, List.length_replicate, List.getD_eq_getElem?_getD, List.getElem?_eq_getElem hk, Option.getD_some]
  by_cases h1 : k = i
  · subst h1
    rw [if_pos rfl, if_pos (by omega), List.getElem?_append_left (by simp; omega), List.getElem?_take_of_lt (by omega), List.getElem?_eq_getElem hk]
  · rw [if_neg h1]
    by_cases h2 : i < k
    · rw [List.getElem?_append_left (by simp; omega), List.getElem?_append_left (by simp; omega), List.getElem?_take_of_lt h2, List.getElem?_take_of_lt (by omega)]
    · rw [List.getElem?_append_right (by simp; omega), List.getElem?_append_right (by simp; omega), List.getElem?_replicate, List.getElem?_replicate]
      simp only [List.length_take]
      have e : (i - min k xs.length < m' + 1) ↔ (i - min (k + 1) xs.length < m') := by omega
      by_cases h3 : i - min k xs.length < m' + 1
      · rw [if_pos h3, if_pos (e.1 h3)]
      · rw [if_neg h3, if_neg (fun h => h3 (e.2 h))]
theorem list_ext_getD {xs ys : List Int} (hl : xs.length = ys.length) (h : ∀ j, j < xs.length → xs.getD j default = ys.getD j default) : xs = ys := by
  apply List.ext_getElem hl
  intro i h1 h2
  have := h i h1
  simpa [List.getD_eq_getElem?_getD, List.getElem?_eq_getElem h1, List.getElem?_eq_getElem h2] using this
set_option maxRecDepth 100000 in
theorem same_pure (xs ys : List Int) (hb : xs.length < 1000000000) : APure Try.prog 31 [ints xs, ints ys] (.bool (decide (xs = ys))) := by
  refine apure_of (wp31 rfl rfl ?_)
  simp (maxSteps := 4000000) only [↓packA0, ↓packA1, ↓packA2, ↓reduceIte, packB0, packB1, packB2, packB3, packB4, pureOp, quietOp, loadOp, quietB, fr0, cellsK, Option.getD_some, Option.getD_none, implies_true, ite_true, ite_false, eq_self, ne_eq, reduceCtorEq, Nat.reduceLT, Nat.reduceLeDiff, Nat.reduceAdd, Nat.reduceMul, Nat.reduceBEq, Nat.reduceEqDiff, Int.reduceToNat, Int.reduceLT, Int.reduceLE, Nat.reduceSub, pl31, tsize_3, tbytes_3, tagg_3, zcells_3, telem_3, tint_3, tnotIface_3, tsize_23, tbytes_23, tagg_23, zcells_23, telem_23, tnotIface_23, ints]
  refine ⟨fun h => ?_, fun h => LoopK.intro (fun m a h => ∃ k : Nat, m = xs.length - k ∧ k ≤ xs.length ∧ (∀ j, j < k → xs.getD j default = ys.getD j default) ∧ a 5 = .int .i64 k ∧ a 0 = ints xs ∧ a 1 = ints ys ∧ h = []) xs.length ⟨0, rfl, Nat.zero_le _, fun j hj => absurd hj (Nat.not_lt_zero j), ?_⟩ ?_⟩
  · have : decide (xs = ys) = false := by simp; intro e; subst e; exact h rfl
    rw [this]; exact .pure _ rfl
  · simp (maxSteps := 4000000) only [↓packA0, ↓packA1, ↓packA2, ↓reduceIte, packB0, packB1, packB2, packB3, packB4, pureOp, quietOp, loadOp, quietB, fr0, cellsK, Option.getD_some, Option.getD_none, implies_true, ite_true, ite_false, eq_self, ne_eq, reduceCtorEq, Nat.reduceLT, Nat.reduceLeDiff, Nat.reduceAdd, Nat.reduceMul, Nat.reduceBEq, Nat.reduceEqDiff, Int.reduceToNat, Int.reduceLT, Int.reduceLE, Nat.reduceSub, pl31, tsize_3, tbytes_3, tagg_3, zcells_3, telem_3, tint_3, tnotIface_3, tsize_23, tbytes_23, tagg_23, zcells_23, telem_23, tnotIface_23, ints, Int.natCast_zero]
  · rintro m a h1 ⟨k, rfl, hk, hj, a5, a0, a1, rfl⟩
    simp (maxSteps := 4000000) only [↓packA0, ↓packA1, ↓packA2, ↓reduceIte, packB0, packB1, packB2, packB3, packB4, pureOp, quietOp, loadOp, quietB, fr0, cellsK, Option.getD_some, Option.getD_none, implies_true, ite_true, ite_false, eq_self, ne_eq, reduceCtorEq, Nat.reduceLT, Nat.reduceLeDiff, Nat.reduceAdd, Nat.reduceMul, Nat.reduceBEq, Nat.reduceEqDiff, Int.reduceToNat, Int.reduceLT, Int.reduceLE, Nat.reduceSub, pl31, tsize_3, tbytes_3, tagg_3, zcells_3, telem_3, tint_3, tnotIface_3, tsize_23, tbytes_23, tagg_23, zcells_23, telem_23, tnotIface_23, ints, a0, a1, a5]
    have hl : xs.length = ys.length := by omega
    refine ⟨fun h2 => ⟨by omega, by omega, by omega, by omega, fun h3 => ?_, fun h3 => ⟨by omega, .inl ⟨xs.length - (k + 1), by omega, k + 1, rfl, by omega, fun j hj2 => ?_, by omega⟩⟩⟩, fun h2 => ?_⟩
    · have : decide (xs = ys) = false := by simp; intro e; subst e; exact h3 rfl
      rw [this]; exact .pure _ rfl
    · by_cases e : j = k
      · subst e; exact h3
      · exact hj j (by omega)
    · have : decide (xs = ys) = true := by simp; exact list_ext_getD hl fun j h3 => hj j (by omega)
      rw [this]; exact .pure _ rfl
set_option maxRecDepth 100000 in
theorem copy_c (xs : List Int) (hb : xs.length < 1000000000) : ACalls Try.prog 47 [ints xs] [] fun v h => v = .osl 0 1 0 xs.length (xs.length + 3) true ∧ h = [Ob.arr 1 (List.map intE (xs ++ [0, 0, 0])) true] := by
  refine (wp47 rfl rfl ?_)
  simp (maxSteps := 4000000) only [↓packA0, ↓packA1, ↓packA2, ↓reduceIte, packB0, packB1, packB2, packB3, packB4, pureOp, quietOp, loadOp, quietB, fr0, cellsK, Option.getD_some, Option.getD_none, implies_true, ite_true, ite_false, eq_self, ne_eq, reduceCtorEq, Nat.reduceLT, Nat.reduceLeDiff, Nat.reduceAdd, Nat.reduceMul, Nat.reduceBEq, Nat.reduceEqDiff, Int.reduceToNat, Int.reduceLT, Int.reduceLE, Nat.reduceSub, pl47, tsize_3, tbytes_3, tagg_3, zcells_3, telem_3, tint_3, tnotIface_3, tsize_23, tbytes_23, tagg_23, zcells_23, telem_23, tnotIface_23, ints]
  refine ⟨by omega, by omega, LoopK.intro (fun m a h => ∃ k : Nat, m = xs.length - k ∧ k ≤ xs.length ∧ a 0 = ints xs ∧ a 3 = .osl 0 1 0 xs.length (xs.length + 3) true ∧ a 4 = .int .i64 k ∧ h = [Ob.arr 1 (List.map intE (xs.take k ++ List.replicate (xs.length + 3 - k) 0)) true]) xs.length ⟨0, rfl, Nat.zero_le _, ?_⟩ ?_⟩
  · simp (maxSteps := 4000000) only [↓packA0, ↓packA1, ↓packA2, ↓reduceIte, packB0, packB1, packB2, packB3, packB4, pureOp, quietOp, loadOp, quietB, fr0, cellsK, Option.getD_some, Option.getD_none, implies_true, ite_true, ite_false, eq_self, ne_eq, reduceCtorEq, Nat.reduceLT, Nat.reduceLeDiff, Nat.reduceAdd, Nat.reduceMul, Nat.reduceBEq, Nat.reduceEqDiff, Int.reduceToNat, Int.reduceLT, Int.reduceLE, Nat.reduceSub, pl47, tsize_3, tbytes_3, tagg_3, zcells_3, telem_3, tint_3, tnotIface_3, tsize_23, tbytes_23, tagg_23, zcells_23, telem_23, tnotIface_23, ints, Int.natCast_zero]
  · rintro m a h1 ⟨k, rfl, hk, a0, a3, a4, rfl⟩
    simp (maxSteps := 4000000) only [↓packA0, ↓packA1, ↓packA2, ↓reduceIte, packB0, packB1, packB2, packB3, packB4, pureOp, quietOp, loadOp, quietB, fr0, cellsK, Option.getD_some, Option.getD_none, implies_true, ite_true, ite_false, eq_self, ne_eq, reduceCtorEq, Nat.reduceLT, Nat.reduceLeDiff, Nat.reduceAdd, Nat.reduceMul, Nat.reduceBEq, Nat.reduceEqDiff, Int.reduceToNat, Int.reduceLT, Int.reduceLE, Nat.reduceSub, pl47, tsize_3, tbytes_3, tagg_3, zcells_3, telem_3, tint_3, tnotIface_3, tsize_23, tbytes_23, tagg_23, zcells_23, telem_23, tnotIface_23, ints, a0, a3, a4]
    have hset : k < xs.length → (List.take k xs ++ List.replicate (xs.length + 3 - k) 0).set k (xs.getD k default) = List.take (k + 1) xs ++ List.replicate (xs.length + 3 - (k + 1)) 0 := fun hk => take_set hk (by omega)
    refine ⟨fun e => ⟨by omega, by omega, by omega, by rw [List.length_take]; omega, by omega, .inl ⟨xs.length - (k + 1), by omega, k + 1, rfl, by omega, by omega, by rw [hset (by omega)]⟩⟩, fun e => ?_⟩
    have : k = xs.length := by omega
    subst this
    rw [List.take_length, Nat.add_sub_cancel_left]
    rfl
def okAt (n : Int) (xs : List Int) (i : Nat) : Prop := 0 ≤ xs.getD i default ∧ xs.getD i default < n ∧ ∀ j, j < i → xs.getD j default ≠ xs.getD i default
def ordOK (n : Int) (xs : List Int) : Prop := ∀ i, i < xs.length → okAt n xs i
open Classical in
noncomputable def checkR (n : Int) (xs : List Int) : Int := if n < 0 ∨ 128 < n then 220 else if (xs.length : Int) ≠ n then 182 else if ordOK n xs then 0 else 182
def seenOK (xs : List Int) (k : Nat) (bs : List Bool) : Prop := ∀ v : Nat, v < bs.length → (bs.getD v default = true ↔ ∃ j, j < k ∧ xs.getD j default = v)
theorem seen0 (xs : List Int) (n : Nat) : seenOK xs 0 (List.replicate n false) := fun v hv => by
  rw [List.getD_eq_getElem?_getD, List.getElem?_replicate]
  simp only [List.length_replicate] at hv
  rw [if_pos hv]
  simp
theorem seen_set {xs : List Int} {k : Nat} {bs : List Bool} (hs : seenOK xs k bs) (h0 : 0 ≤ xs.getD k default) (h1 : (xs.getD k default).toNat < bs.length) : seenOK xs (k + 1) (bs.set (xs.getD k default).toNat true) := fun v hv => by
  simp only [List.length_set] at hv
  rw [List.getD_eq_getElem?_getD, List.getElem?_set]
  by_cases e : (xs.getD k default).toNat = v
  · rw [if_pos e, if_pos h1]
    simp only [Option.getD_some, true_iff]
    exact ⟨k, by omega, by omega⟩
  · rw [if_neg e, ← List.getD_eq_getElem?_getD, hs v hv]
    constructor
    · rintro ⟨j, hj, hj2⟩; exact ⟨j, by omega, hj2⟩
    · rintro ⟨j, hj, hj2⟩
      by_cases hjk : j < k
      · exact ⟨j, hjk, hj2⟩
      · have : j = k := by omega
        subst this
        omega
set_option maxRecDepth 100000 in
theorem check_c (n : Int) (xs : List Int) : APure Try.prog 54 [.int .i64 n, ints xs] (.int .i64 (checkR n xs)) := by
  refine apure_of (wp54 rfl rfl ?_)
  simp (maxSteps := 4000000) +contextual only [↓packA0, ↓packA1, ↓packA2, ↓reduceIte, packB0, packB1, packB2, packB3, packB4, pureOp, quietOp, loadOp, quietB, fr0, cellsK, Option.getD_some, Option.getD_none, implies_true, ite_true, ite_false, eq_self, ne_eq, reduceCtorEq, Nat.reduceLT, Nat.reduceLeDiff, Nat.reduceAdd, Nat.reduceMul, Nat.reduceBEq, Nat.reduceEqDiff, Int.reduceToNat, Int.reduceLT, Int.reduceLE, Nat.reduceSub, pl54, tsize_3, tbytes_3, tagg_3, zcells_3, telem_3, tint_3, tnotIface_3, tsize_4, tbytes_4, tagg_4, zcells_4, telem_4, tbool_4, tnotIface_4, tsize_23, tbytes_23, tagg_23, zcells_23, telem_23, tnotIface_23, tsize_136, tbytes_136, tagg_136, zcells_136, telem_136, tarr_136, tnotIface_136, ints]
  refine ⟨fun h => ?_, fun h => ⟨fun h1 => ?_, fun h1 => ⟨fun h2 => ?_, fun h2 => ?_⟩⟩⟩
  · rw [show checkR n xs = 220 from if_pos (.inl h)]; exact .pure _ rfl
  · rw [show checkR n xs = 220 from if_pos (.inr h1)]; exact .pure _ rfl
  · rw [show checkR n xs = 182 by unfold checkR; rw [if_neg (by omega), if_pos h2]]; exact .pure _ rfl
  refine LoopK.intro (fun m a h => ∃ (k : Nat) (bs : List Bool), m = xs.length - k ∧ k ≤ xs.length ∧ (∀ i, i < k → okAt n xs i) ∧ bs.length = 128 ∧ seenOK xs k bs ∧ a 0 = .int .i64 n ∧ a 5 = .op 0 128 0 0 ∧ a 18 = ints xs ∧ a 19 = .int .i64 n ∧ a 20 = .int .i64 k ∧
    h = [Ob.arr 128 [List.map AV.bool bs] true]) xs.length ⟨0, List.replicate 128 false, rfl, Nat.zero_le _, fun j hj => absurd hj (Nat.not_lt_zero j), by simp, seen0 xs 128, ?_⟩ ?_
  · simp (maxSteps := 4000000) only [↓packA0, ↓packA1, ↓packA2, ↓reduceIte, packB0, packB1, packB2, packB3, packB4, pureOp, quietOp, loadOp, quietB, fr0, cellsK, Option.getD_some, Option.getD_none, implies_true, ite_true, ite_false, eq_self, ne_eq, reduceCtorEq, Nat.reduceLT, Nat.reduceLeDiff, Nat.reduceAdd, Nat.reduceMul, Nat.reduceBEq, Nat.reduceEqDiff, Int.reduceToNat, Int.reduceLT, Int.reduceLE, Nat.reduceSub, pl54, tsize_3, tbytes_3, tagg_3, zcells_3, telem_3, tint_3, tnotIface_3, tsize_4, tbytes_4, tagg_4, zcells_4, telem_4, tbool_4, tnotIface_4, tsize_23, tbytes_23, tagg_23, zcells_23, telem_23, tnotIface_23, tsize_136, tbytes_136, tagg_136, zcells_136, telem_136, tarr_136, tnotIface_136, ints, Int.natCast_zero]
  · rintro m a h3 ⟨k, bs, rfl, hk, hok, hbl, hs, a0, a5, a18, a19, a20, rfl⟩
    simp (maxSteps := 4000000) +contextual only [↓packA0, ↓packA1, ↓packA2, ↓reduceIte, packB0, packB1, packB2, packB3, packB4, pureOp, quietOp, loadOp, quietB, fr0, cellsK, Option.getD_some, Option.getD_none, implies_true, ite_true, ite_false, eq_self, ne_eq, reduceCtorEq, Nat.reduceLT, Nat.reduceLeDiff, Nat.reduceAdd, Nat.reduceMul, Nat.reduceBEq, Nat.reduceEqDiff, Int.reduceToNat, Int.reduceLT, Int.reduceLE, Nat.reduceSub, pl54, tsize_3, tbytes_3, tagg_3, zcells_3, telem_3, tint_3, tnotIface_3, tsize_4, tbytes_4, tagg_4, zcells_4, telem_4, tbool_4, tnotIface_4, tsize_23, tbytes_23, tagg_23, zcells_23, telem_23, tnotIface_23, tsize_136, tbytes_136, tagg_136, zcells_136, telem_136, tarr_136, tnotIface_136, ints, a0, a5, a18, a19, a20, hbl]
    have hbad : ¬ okAt n xs k → k < xs.length → checkR n xs = 182 := fun hn hk => by
      unfold checkR; rw [if_neg (by omega), if_neg (by omega), if_neg (fun ho => hn (ho k hk))]
    refine ⟨fun e => ⟨by omega, by omega, fun e1 => ?_, fun e1 => ⟨fun e2 => ?_, fun e2 => ⟨by omega, by omega, fun e3 => ?_, fun e3 => ⟨by omega, by omega, by omega, .inl ⟨xs.length - (k + 1), by omega, k + 1, _, rfl, by omega, ?_, by simpa using hbl, ?_, by omega, rfl⟩⟩⟩⟩⟩, fun e => ?_⟩
    · rw [hbad (fun ho => absurd ho.1 (by omega)) (by omega)]; exact .pure _ rfl
    · rw [hbad (fun ho => absurd ho.2.1 (by omega)) (by omega)]; exact .pure _ rfl
    · obtain ⟨j, hj, hj2⟩ := (hs (xs.getD k default).toNat (by omega)).1 e3
      rw [hbad (fun ho => ho.2.2 j hj (by omega)) (by omega)]; exact .pure _ rfl
    · intro i hi
      by_cases hik : i < k
      · exact hok i hik
      · have : i = k := by omega
        subst this
        refine ⟨by omega, by omega, fun j hj hjx => ?_⟩
        have := (hs (xs.getD i default).toNat (by omega)).2 ⟨j, hj, by omega⟩
        rw [this] at e3; cases e3
    · exact seen_set hs (by omega) (by omega)
    · rw [show checkR n xs = 0 by unfold checkR; rw [if_neg (by omega), if_neg (by omega), if_pos (show ordOK n xs from fun i hi => hok i (by omega))]]; exact .pure _ rfl
set_option maxRecDepth 100000 in
theorem checkr_c (n : Int) (xs : List Int) : APure Try.prog 25 [.int .i64 n, ints xs] (.int .i64 (checkR n xs)) := by
  refine apure_of (wp25 rfl rfl ?_)
  simp (maxSteps := 4000000) +contextual only [↓packA0, ↓packA1, ↓packA2, ↓reduceIte, packB0, packB1, packB2, packB3, packB4, pureOp, quietOp, loadOp, quietB, fr0, cellsK, Option.getD_some, Option.getD_none, implies_true, ite_true, ite_false, eq_self, ne_eq, reduceCtorEq, Nat.reduceLT, Nat.reduceLeDiff, Nat.reduceAdd, Nat.reduceMul, Nat.reduceBEq, Nat.reduceEqDiff, Int.reduceToNat, Int.reduceLT, Int.reduceLE, Nat.reduceSub, pl25, tsize_3, tbytes_3, tagg_3, zcells_3, telem_3, tint_3, tnotIface_3, tsize_4, tbytes_4, tagg_4, zcells_4, telem_4, tbool_4, tnotIface_4, tsize_23, tbytes_23, tagg_23, zcells_23, telem_23, tnotIface_23, tsize_52, tbytes_52, tagg_52, zcells_52, telem_52, tnotIface_52, ints]
  refine ⟨fun h => ?_, fun h => ⟨fun h1 => ?_, fun h1 => ⟨fun h2 => ?_, fun h2 => ⟨by omega, ?_⟩⟩⟩⟩
  · rw [show checkR n xs = 220 from if_pos (.inl h)]; exact .pure _ rfl
  · rw [show checkR n xs = 220 from if_pos (.inr h1)]; exact .pure _ rfl
  · rw [show checkR n xs = 182 by unfold checkR; rw [if_neg (by omega), if_pos h2]]; exact .pure _ rfl
  refine LoopK.intro (fun m a h => ∃ (k : Nat) (bs : List Bool), m = xs.length - k ∧ k ≤ xs.length ∧ (∀ i, i < k → okAt n xs i) ∧ bs.length = n.toNat ∧ seenOK xs k bs ∧ a 0 = .int .i64 n ∧ a 1 = ints xs ∧ a 5 = .osl 0 1 0 n.toNat n.toNat true ∧ a 6 = .int .i64 k ∧
    h = [Ob.arr 1 (List.map boolE bs) true]) xs.length ⟨0, List.replicate n.toNat false, rfl, Nat.zero_le _, fun j hj => absurd hj (Nat.not_lt_zero j), by simp, seen0 xs n.toNat, ?_⟩ ?_
  · simp (maxSteps := 4000000) only [↓packA0, ↓packA1, ↓packA2, ↓reduceIte, packB0, packB1, packB2, packB3, packB4, pureOp, quietOp, loadOp, quietB, fr0, cellsK, Option.getD_some, Option.getD_none, implies_true, ite_true, ite_false, eq_self, ne_eq, reduceCtorEq, Nat.reduceLT, Nat.reduceLeDiff, Nat.reduceAdd, Nat.reduceMul, Nat.reduceBEq, Nat.reduceEqDiff, Int.reduceToNat, Int.reduceLT, Int.reduceLE, Nat.reduceSub, pl25, tsize_3, tbytes_3, tagg_3, zcells_3, telem_3, tint_3, tnotIface_3, tsize_4, tbytes_4, tagg_4, zcells_4, telem_4, tbool_4, tnotIface_4, tsize_23, tbytes_23, tagg_23, zcells_23, telem_23, tnotIface_23, tsize_52, tbytes_52, tagg_52, zcells_52, telem_52, tnotIface_52, ints, Int.natCast_zero]
  · rintro m a h3 ⟨k, bs, rfl, hk, hok, hbl, hs, a0, a1, a5, a6, rfl⟩
    simp (maxSteps := 4000000) +contextual only [↓packA0, ↓packA1, ↓packA2, ↓reduceIte, packB0, packB1, packB2, packB3, packB4, pureOp, quietOp, loadOp, quietB, fr0, cellsK, Option.getD_some, Option.getD_none, implies_true, ite_true, ite_false, eq_self, ne_eq, reduceCtorEq, Nat.reduceLT, Nat.reduceLeDiff, Nat.reduceAdd, Nat.reduceMul, Nat.reduceBEq, Nat.reduceEqDiff, Int.reduceToNat, Int.reduceLT, Int.reduceLE, Nat.reduceSub, pl25, tsize_3, tbytes_3, tagg_3, zcells_3, telem_3, tint_3, tnotIface_3, tsize_4, tbytes_4, tagg_4, zcells_4, telem_4, tbool_4, tnotIface_4, tsize_23, tbytes_23, tagg_23, zcells_23, telem_23, tnotIface_23, tsize_52, tbytes_52, tagg_52, zcells_52, telem_52, tnotIface_52, ints, a0, a1, a5, a6, hbl]
    have hbad : ¬ okAt n xs k → k < xs.length → checkR n xs = 182 := fun hn hk => by
      unfold checkR; rw [if_neg (by omega), if_neg (by omega), if_neg (fun ho => hn (ho k hk))]
    refine ⟨fun e => ⟨by omega, by omega, fun e1 => ?_, fun e1 => ⟨by omega, by omega, fun e2 => ?_, fun e2 => ⟨by omega, by omega, by omega, by omega, fun e3 => ?_, fun e3 => ⟨by omega, by omega, by omega, by omega, by omega, .inl ⟨xs.length - (k + 1), by omega, k + 1, _, rfl, by omega, ?_, by simpa using hbl, ?_, by omega, rfl⟩⟩⟩⟩⟩, fun e => ?_⟩
    · rw [hbad (fun ho => absurd ho.1 (by omega)) (by omega)]; exact .pure _ rfl
    · rw [hbad (fun ho => absurd ho.2.1 (by omega)) (by omega)]; exact .pure _ rfl
    · obtain ⟨j, hj, hj2⟩ := (hs (xs.getD k default).toNat (by omega)).1 e3
      rw [hbad (fun ho => ho.2.2 j hj (by omega)) (by omega)]; exact .pure _ rfl
    · intro i hi
      by_cases hik : i < k
      · exact hok i hik
      · have : i = k := by omega
        subst this
        refine ⟨by omega, by omega, fun j hj hjx => ?_⟩
        have := (hs (xs.getD i default).toNat (by omega)).2 ⟨j, hj, by omega⟩
        rw [this] at e3; cases e3
    · exact seen_set hs (by omega) (by omega)
    · rw [show checkR n xs = 0 by unfold checkR; rw [if_neg (by omega), if_neg (by omega), if_pos (show ordOK n xs from fun i hi => hok i (by omega))]]; exact .pure _ rfl
end Go.Proofs.Ytgdlkhgfehclpaa
end

section
/- Patterns that may be: what May, Has and the search answer. No condition. -/
namespace Go.Proofs.Ytgdlkhgfehclpaa
open Go Go.AL
set_option linter.unusedVariables false
set_option linter.unusedSimpArgs false
abbrev pat (rows width : Int) (st cs : List Int) : AV := .agg [.int .i64 rows, .int .i64 width, ints st, ints cs]
theorem side_c (n : Int) : APure Try.prog 95 [.int .i64 n] (.bool (decide (0 ≤ n ∧ n ≤ 128))) := by
  refine apure_of (wp95 rfl rfl ?_)
  simp (maxSteps := 4000000) +contextual only [↓packA0, ↓packA1, ↓packA2, ↓reduceIte, packB0, packB1, packB2, packB3, packB4, pureOp, quietOp, loadOp, quietB, fr0, cellsK, Option.getD_some, Option.getD_none, implies_true, ite_true, ite_false, eq_self, ne_eq, reduceCtorEq, Nat.reduceLT, Nat.reduceLeDiff, Nat.reduceAdd, Nat.reduceMul, Nat.reduceBEq, Nat.reduceEqDiff, Int.reduceToNat, Int.reduceLT, Int.reduceLE, Nat.reduceSub, pl95, tsize_3, tbytes_3, tagg_3, zcells_3, telem_3, tint_3, tnotIface_3, ints]
  refine ⟨fun h => .pure _ rfl, fun h => ?_⟩
  simp only [false_and, decide_false]
  exact .pure _ rfl
theorem nan_c (n : Int) : APure Try.prog 117 [.int .i64 n] (.bool false) := by
  refine apure_of (wp117 rfl rfl ?_)
  simp (maxSteps := 4000000) +contextual only [↓packA0, ↓packA1, ↓packA2, ↓reduceIte, packB0, packB1, packB2, packB3, packB4, pureOp, quietOp, loadOp, quietB, fr0, cellsK, Option.getD_some, Option.getD_none, implies_true, ite_true, ite_false, eq_self, ne_eq, reduceCtorEq, Nat.reduceLT, Nat.reduceLeDiff, Nat.reduceAdd, Nat.reduceMul, Nat.reduceBEq, Nat.reduceEqDiff, Int.reduceToNat, Int.reduceLT, Int.reduceLE, Nat.reduceSub, pl117, tsize_3, tbytes_3, tagg_3, zcells_3, telem_3, tint_3, tnotIface_3, ints]
  rw [bne_self_eq_false]
  exact .pure _ rfl
theorem nan2_c (n : Int) : APure Try.prog 124 [.int .i64 n] (.bool false) := by
  refine apure_of (wp124 rfl rfl ?_)
  simp (maxSteps := 4000000) +contextual only [↓packA0, ↓packA1, ↓packA2, ↓reduceIte, packB0, packB1, packB2, packB3, packB4, pureOp, quietOp, loadOp, quietB, fr0, cellsK, Option.getD_some, Option.getD_none, implies_true, ite_true, ite_false, eq_self, ne_eq, reduceCtorEq, Nat.reduceLT, Nat.reduceLeDiff, Nat.reduceAdd, Nat.reduceMul, Nat.reduceBEq, Nat.reduceEqDiff, Int.reduceToNat, Int.reduceLT, Int.reduceLE, Nat.reduceSub, pl124, tsize_3, tbytes_3, tagg_3, zcells_3, telem_3, tint_3, tnotIface_3, ints]
  rw [bne_self_eq_false]
  exact .pure _ rfl
theorem less_c (a b : Int) : APure Try.prog 114 [.int .i64 a, .int .i64 b] (.bool (decide (a < b))) := by
  refine apure_of (wp114 rfl rfl ?_)
  simp (maxSteps := 4000000) +contextual only [↓packA0, ↓packA1, ↓packA2, ↓reduceIte, packB0, packB1, packB2, packB3, packB4, pureOp, quietOp, loadOp, quietB, fr0, cellsK, Option.getD_some, Option.getD_none, implies_true, ite_true, ite_false, eq_self, ne_eq, reduceCtorEq, Nat.reduceLT, Nat.reduceLeDiff, Nat.reduceAdd, Nat.reduceMul, Nat.reduceBEq, Nat.reduceEqDiff, Int.reduceToNat, Int.reduceLT, Int.reduceLE, Nat.reduceSub, pl114, tsize_3, tbytes_3, tagg_3, zcells_3, telem_3, tint_3, tnotIface_3, tsize_4, tbytes_4, tagg_4, zcells_4, telem_4, tbool_4, tnotIface_4, ints]
  refine acalls_pure (nan_c _) rfl ?_
  simp (maxSteps := 4000000) +contextual only [↓packA0, ↓packA1, ↓packA2, ↓reduceIte, packB0, packB1, packB2, packB3, packB4, pureOp, quietOp, loadOp, quietB, fr0, cellsK, Option.getD_some, Option.getD_none, implies_true, ite_true, ite_false, eq_self, ne_eq, reduceCtorEq, Nat.reduceLT, Nat.reduceLeDiff, Nat.reduceAdd, Nat.reduceMul, Nat.reduceBEq, Nat.reduceEqDiff, Int.reduceToNat, Int.reduceLT, Int.reduceLE, Nat.reduceSub, pl114, tsize_3, tbytes_3, tagg_3, zcells_3, telem_3, tint_3, tnotIface_3, tsize_4, tbytes_4, tagg_4, zcells_4, telem_4, tbool_4, tnotIface_4, ints]
  exact .pure _ rfl
/-- A list that never falls. -/
def srt (st : List Int) : Prop := ∀ i, i < st.length - 1 → st.getD i default ≤ st.getD (i + 1) default
instance (st : List Int) : Decidable (srt st) := by unfold srt; infer_instance
set_option maxRecDepth 100000 in
theorem sorted_c (st : List Int) (hb : st.length < 1000000000) : APure Try.prog 96 [ints st] (.bool (decide (srt st))) := by
  refine apure_of (wp96 rfl rfl ?_)
  simp (maxSteps := 4000000) +contextual only [↓packA0, ↓packA1, ↓packA2, ↓reduceIte, packB0, packB1, packB2, packB3, packB4, pureOp, quietOp, loadOp, quietB, fr0, cellsK, Option.getD_some, Option.getD_none, implies_true, ite_true, ite_false, eq_self, ne_eq, reduceCtorEq, Nat.reduceLT, Nat.reduceLeDiff, Nat.reduceAdd, Nat.reduceMul, Nat.reduceBEq, Nat.reduceEqDiff, Int.reduceToNat, Int.reduceLT, Int.reduceLE, Nat.reduceSub, pl96, tsize_3, tbytes_3, tagg_3, zcells_3, telem_3, tint_3, tnotIface_3, tsize_23, tbytes_23, tagg_23, zcells_23, telem_23, tnotIface_23, ints]
  refine ⟨by omega, LoopK.intro (fun m a h => ∃ k : Int, (m : Int) = k + 1 ∧ -1 ≤ k ∧ k < st.length ∧ (∀ i : Nat, k ≤ i → i < st.length - 1 → st.getD i default ≤ st.getD (i + 1) default) ∧ a 0 = ints st ∧ a 3 = .int .i64 k ∧ h = []) st.length ⟨st.length - 1, by omega, by omega, by omega, fun i h1 h2 => by omega, ?_⟩ ?_⟩
  · simp (maxSteps := 4000000) +contextual only [↓packA0, ↓packA1, ↓packA2, ↓reduceIte, packB0, packB1, packB2, packB3, packB4, pureOp, quietOp, loadOp, quietB, fr0, cellsK, Option.getD_some, Option.getD_none, implies_true, ite_true, ite_false, eq_self, ne_eq, reduceCtorEq, Nat.reduceLT, Nat.reduceLeDiff, Nat.reduceAdd, Nat.reduceMul, Nat.reduceBEq, Nat.reduceEqDiff, Int.reduceToNat, Int.reduceLT, Int.reduceLE, Nat.reduceSub, pl96, tsize_3, tbytes_3, tagg_3, zcells_3, telem_3, tint_3, tnotIface_3, tsize_23, tbytes_23, tagg_23, zcells_23, telem_23, tnotIface_23, ints]
  rintro m a h1 ⟨k, hm, hk0, hk1, hs, a0, a3, rfl⟩
  simp (maxSteps := 4000000) +contextual only [↓packA0, ↓packA1, ↓packA2, ↓reduceIte, packB0, packB1, packB2, packB3, packB4, pureOp, quietOp, loadOp, quietB, fr0, cellsK, Option.getD_some, Option.getD_none, implies_true, ite_true, ite_false, eq_self, ne_eq, reduceCtorEq, Nat.reduceLT, Nat.reduceLeDiff, Nat.reduceAdd, Nat.reduceMul, Nat.reduceBEq, Nat.reduceEqDiff, Int.reduceToNat, Int.reduceLT, Int.reduceLE, Nat.reduceSub, pl96, tsize_3, tbytes_3, tagg_3, zcells_3, telem_3, tint_3, tnotIface_3, tsize_23, tbytes_23, tagg_23, zcells_23, telem_23, tnotIface_23, ints, a0, a3]
  refine ⟨fun h2 => ⟨by omega, by omega, by omega, by omega, by omega, acalls_pure (less_c _ _) rfl ?_⟩, fun h2 => ?_⟩
  · simp (maxSteps := 4000000) +contextual only [↓packA0, ↓packA1, ↓packA2, ↓reduceIte, packB0, packB1, packB2, packB3, packB4, pureOp, quietOp, loadOp, quietB, fr0, cellsK, Option.getD_some, Option.getD_none, implies_true, ite_true, ite_false, eq_self, ne_eq, reduceCtorEq, Nat.reduceLT, Nat.reduceLeDiff, Nat.reduceAdd, Nat.reduceMul, Nat.reduceBEq, Nat.reduceEqDiff, Int.reduceToNat, Int.reduceLT, Int.reduceLE, Nat.reduceSub, pl96, tsize_3, tbytes_3, tagg_3, zcells_3, telem_3, tint_3, tnotIface_3, tsize_23, tbytes_23, tagg_23, zcells_23, telem_23, tnotIface_23, ints, a0, a3]
    refine ⟨fun h3 => ?_, fun h3 => ⟨by omega, .inl ⟨k.toNat, by omega, k - 1, by omega, by omega, by omega, fun i h4 h5 => ?_, rfl⟩⟩⟩
    · have : decide (srt st) = false := by
        refine decide_eq_false fun hc => ?_
        have := hc (k - 1).toNat (by omega)
        rw [show (k - 1).toNat + 1 = k.toNat by omega] at this
        omega
      rw [this]; exact .pure _ rfl
    · rcases Int.lt_or_le (i : Int) k with h6 | h6
      · rw [show i = (k - 1).toNat by omega, show (k - 1).toNat + 1 = k.toNat by omega]; omega
      · exact hs i h6 h5
  · have : decide (srt st) = true := decide_eq_true fun i hi => hs i (by omega) hi
    rw [this]; exact .pure _ rfl
end Go.Proofs.Ytgdlkhgfehclpaa
end

section
/- Arguments that are patterns. No condition. -/
namespace Go.Proofs.Ytgdlkhgfehclpaa
open Go Go.AL Go.ChangeShapes Go.WideShapes Go.ChangeAt Go.RowKit
set_option linter.unusedVariables false
set_option linter.unusedSimpArgs false
theorem open_cell {H : Type} {enc : TypeId × Value → H} {W : World} {t e : TypeId} {fuel : Nat} {v : Value} {d : DataW H} {p : List MemPlace} (ht : Try.prog.underlying t = some (.slice e)) (he : Try.prog.underlying e = some (.int .i64)) (hc : Try.prog.cellsOf e = 1)
    (h : DataW.trod enc Try.prog W 0 (fun _ => true) true fuel t [v] = some (d, p)) : ∃ xs : List Int, IRel (allOf W) W (ints xs) v ∧ v.oneCell' = true ∧ xs.length ≤ Rows.uptoBulk d := by
  rcases open_ints ht he hc h with ⟨hcs, hx⟩ | ⟨a, len, cap, zs, hcs, _, hl, hm, hz, hx, hcell, _⟩
  · simp only [List.cons.injEq, and_true] at hcs
    subst hcs
    exact ⟨[], .isl0 1 _ _, rfl, by simp⟩
  · simp only [List.cons.injEq, and_true] at hcs
    subst hcs
    simp only [Prod.mk.injEq] at hx
    obtain ⟨rfl, _⟩ := hx
    simp only [if_true] at hz
    refine ⟨zs.take len, irel_ints (by omega) hl hcell, rfl, ?_⟩
    refine Nat.le_trans ?_ (bulk_slice _ _)
    simp [lits]
set_option maxRecDepth 100000 in
theorem open_pat {H : Type} {enc : TypeId × Value → H} {W : World} {fuel : Nat} {v : Value} {d : DataW H} {p : List MemPlace} (hv : ∃ cs, v = .agg cs ∧ cs.size = Try.prog.cellsOf 45) (h : DataW.trod enc Try.prog W 0 (fun _ => true) true fuel 45 v.cells.toList = some (d, p)) :
    ∃ (rows width : Int) (st cs : List Int), IRel (allOf W) W (pat rows width st cs) v ∧ st.length ≤ Rows.uptoBulk d ∧ cs.length ≤ Rows.uptoBulk d := by
  obtain ⟨cells, rfl, hsz⟩ := hv
  rw [show Try.prog.cellsOf 45 = 4 by kernel_rfl] at hsz
  obtain ⟨xs, n, rfl, hx, hl, hlen, hf⟩ := DataW.trod_struct Try.underlying45 h
  simp only [Prod.mk.injEq] at hx
  obtain ⟨hd, _⟩ := hx
  have hlen4 : xs.length = 4 := hlen
  obtain ⟨c0, c1, c2, c3, hcells⟩ : ∃ c0 c1 c2 c3, cells.toList = [c0, c1, c2, c3] := by
    have h4 : cells.toList.length = 4 := by simpa using hsz
    match hm : cells.toList, h4 with
    | [c0, c1, c2, c3], _ => exact ⟨c0, c1, c2, c3, rfl⟩
  have hcl : (Value.agg cells).cells.toList = [c0, c1, c2, c3] := hcells
  rw [hcl] at hf
  obtain ⟨x0, x1, x2, x3, hxs⟩ : ∃ x0 x1 x2 x3, xs = [x0, x1, x2, x3] := by
    match hm : xs, hlen4 with
    | [x0, x1, x2, x3], _ => exact ⟨x0, x1, x2, x3, rfl⟩
  subst hxs
  have h0 : DataW.trod enc Try.prog W 0 (fun _ => true) true n 3 (([c0, c1, c2, c3].drop 0).take (Try.prog.cellsOf 3)) = [x0, x1, x2, x3][0]? := hf 0 _ rfl
  have h1 : DataW.trod enc Try.prog W 0 (fun _ => true) true n 3 (([c0, c1, c2, c3].drop 1).take (Try.prog.cellsOf 3)) = [x0, x1, x2, x3][1]? := hf 1 _ rfl
  have h2 : DataW.trod enc Try.prog W 0 (fun _ => true) true n 23 (([c0, c1, c2, c3].drop 2).take (Try.prog.cellsOf 23)) = [x0, x1, x2, x3][2]? := hf 2 _ rfl
  have h3 : DataW.trod enc Try.prog W 0 (fun _ => true) true n 23 (([c0, c1, c2, c3].drop 3).take (Try.prog.cellsOf 23)) = [x0, x1, x2, x3][3]? := hf 3 _ rfl
  rw [show Try.prog.cellsOf 3 = 1 by kernel_rfl] at h0 h1
  rw [show Try.prog.cellsOf 23 = 1 by kernel_rfl] at h2 h3
  simp only [List.drop_zero, List.drop_succ_cons, List.take_succ_cons, List.take_zero, List.getElem?_cons_zero, List.getElem?_cons_succ] at h0 h1 h2 h3
  obtain ⟨r, e0, _, _⟩ := DataW.trod_int Try.underlying3 h0
  obtain ⟨w, e1, _, _⟩ := DataW.trod_int Try.underlying3 h1
  simp only [List.cons.injEq, and_true] at e0 e1
  obtain ⟨st, i2, o2, b2⟩ := open_cell (p := x2.2) (d := x2.1) Try.underlying23 Try.underlying3 (by kernel_rfl) h2
  obtain ⟨cs, i3, o3, b3⟩ := open_cell (p := x3.2) (d := x3.1) Try.underlying23 Try.underlying3 (by kernel_rfl) h3
  have hca : cells = #[c0, c1, c2, c3] := by
    apply Array.ext'
    simpa using hcells
  subst e0 e1 hca
  refine ⟨r, w, st, cs, .agg _ _ rfl (fun j v hj => ?_) (fun j u v hu hj => ?_), ?_, ?_⟩
  · match j with
    | 0 => simp at hj; subst hj; rfl
    | 1 => simp at hj; subst hj; rfl
    | 2 => simp at hj; subst hj; exact o2
    | 3 => simp at hj; subst hj; exact o3
    | j + 4 => simp at hj
  · match j with
    | 0 => simp at hu hj; subst hu; subst hj; exact .int _ _
    | 1 => simp at hu hj; subst hu; subst hj; exact .int _ _
    | 2 => simp at hu hj; subst hu; subst hj; exact i2
    | 3 => simp at hu hj; subst hu; subst hj; exact i3
    | j + 4 => simp at hj
  · subst hd
    refine Nat.le_trans b2 (Nat.le_trans (bulk_part ?_) (bulk_agg _))
    simp
  · subst hd
    refine Nat.le_trans b3 (Nat.le_trans (bulk_part ?_) (bulk_agg _))
    simp
end Go.Proofs.Ytgdlkhgfehclpaa
end

section
/- Patterns that may be: what May, Has and the search answer. No condition. -/
namespace Go.Proofs.Ytgdlkhgfehclpaa
open Go Go.AL
set_option linter.unusedVariables false
set_option linter.unusedSimpArgs false
def rowOf (st cs : List Int) (r : Nat) : List Int := (cs.drop (st.getD r default).toNat).take ((st.getD (r + 1) default).toNat - (st.getD r default).toNat)
def prv (l : List Int) (j : Nat) : Int := if j = 0 then -1 else l.getD (j - 1) default
def rowOK (w : Int) (l : List Int) : Prop := ∀ j, j < l.length → prv l j < l.getD j default ∧ l.getD j default < w
instance (w : Int) (l : List Int) : Decidable (rowOK w l) := by unfold rowOK; infer_instance
def mayP (rows width : Int) (st cs : List Int) : Prop := (0 ≤ rows ∧ rows ≤ 128) ∧ (0 ≤ width ∧ width ≤ 128) ∧ (st.length : Int) = rows + 1 ∧ st.getD 0 default = 0 ∧ st.getD rows.toNat default = cs.length ∧ srt st ∧ ∀ r, r < rows.toNat → rowOK width (rowOf st cs r)
instance (rows width : Int) (st cs : List Int) : Decidable (mayP rows width st cs) := by unfold mayP; infer_instance
theorem srt_le {st : List Int} (hs : srt st) : ∀ (d i : Nat), i + d < st.length → st.getD i default ≤ st.getD (i + d) default
  | 0, i, _ => Int.le_refl _
  | d + 1, i, h => by
    have h1 := srt_le hs d i (by omega)
    have h2 := hs (i + d) (by omega)
    rw [show i + (d + 1) = i + d + 1 by omega]
    omega
/-- Where a row begins and ends. -/
theorem row_bounds {rows : Int} {st : List Int} {n : Nat} (hr : 0 ≤ rows) (hl : (st.length : Int) = rows + 1) (h0 : st.getD 0 default = 0) (he : st.getD rows.toNat default = n) (hs : srt st) {r : Nat} (h : r < rows.toNat) :
    0 ≤ st.getD r default ∧ st.getD r default ≤ st.getD (r + 1) default ∧ st.getD (r + 1) default ≤ n := by
  have h1 := srt_le hs r 0 (by omega)
  have h2 := srt_le hs 1 r (by omega)
  have h3 := srt_le hs (rows.toNat - (r + 1)) (r + 1) (by omega)
  rw [show 0 + r = r by omega, h0] at h1
  rw [show r + 1 + (rows.toNat - (r + 1)) = rows.toNat by omega, he] at h3
  exact ⟨h1, h2, h3⟩
theorem rowOf_length {st cs : List Int} {r : Nat} (h0 : 0 ≤ st.getD r default) (h1 : st.getD r default ≤ st.getD (r + 1) default) (h2 : st.getD (r + 1) default ≤ cs.length) : (rowOf st cs r).length = (st.getD (r + 1) default).toNat - (st.getD r default).toNat := by
  simp only [rowOf, List.length_take, List.length_drop]
  omega
set_option maxRecDepth 100000 in
theorem may_c (rows width : Int) (st cs : List Int) (hb : st.length < 1000000000) (hb2 : cs.length < 1000000000) : APure Try.prog 73 [pat rows width st cs] (.bool (decide (mayP rows width st cs))) := by
  have no : ∀ {h : Heap}, ¬ mayP rows width st cs → Frz h (.bool false) (.bool (decide (mayP rows width st cs))) := fun hc => by rw [decide_eq_false hc]; exact .pure _ rfl
  refine apure_of (wp73 rfl rfl ?_)
  simp (maxSteps := 4000000) +contextual only [↓packA0, ↓packA1, ↓packA2, ↓reduceIte, packB0, packB1, packB2, packB3, packB4, pureOp, quietOp, loadOp, quietB, fr0, cellsK, Option.getD_some, Option.getD_none, implies_true, ite_true, ite_false, eq_self, ne_eq, reduceCtorEq, Nat.reduceLT, Nat.reduceLeDiff, Nat.reduceAdd, Nat.reduceMul, Nat.reduceBEq, Nat.reduceEqDiff, Int.reduceToNat, Int.reduceLT, Int.reduceLE, Nat.reduceSub, pl73, tfun_1, telem_1, tsize_2, tbytes_2, tagg_2, zcells_2, telem_2, tint_2, tnotIface_2, tsize_3, tbytes_3, tagg_3, zcells_3, telem_3, tint_3, tnotIface_3, tsize_4, tbytes_4, tagg_4, zcells_4, telem_4, tbool_4, tnotIface_4, tsize_23, tbytes_23, tagg_23, zcells_23, telem_23, tnotIface_23, tsize_45, tbytes_45, tagg_45, zcells_45, telem_45, tnotIface_45, foff_45_0, foff_45_1, foff_45_2, foff_45_3, fplaces_45, ints]
  refine acalls_pure (side_c _) rfl ?_
  simp (maxSteps := 4000000) +contextual only [↓packA0, ↓packA1, ↓packA2, ↓reduceIte, packB0, packB1, packB2, packB3, packB4, pureOp, quietOp, loadOp, quietB, fr0, cellsK, Option.getD_some, Option.getD_none, implies_true, ite_true, ite_false, eq_self, ne_eq, reduceCtorEq, Nat.reduceLT, Nat.reduceLeDiff, Nat.reduceAdd, Nat.reduceMul, Nat.reduceBEq, Nat.reduceEqDiff, Int.reduceToNat, Int.reduceLT, Int.reduceLE, Nat.reduceSub, pl73, tfun_1, telem_1, tsize_2, tbytes_2, tagg_2, zcells_2, telem_2, tint_2, tnotIface_2, tsize_3, tbytes_3, tagg_3, zcells_3, telem_3, tint_3, tnotIface_3, tsize_4, tbytes_4, tagg_4, zcells_4, telem_4, tbool_4, tnotIface_4, tsize_23, tbytes_23, tagg_23, zcells_23, telem_23, tnotIface_23, tsize_45, tbytes_45, tagg_45, zcells_45, telem_45, tnotIface_45, foff_45_0, foff_45_1, foff_45_2, foff_45_3, fplaces_45, ints]
  refine ⟨fun h0 => acalls_pure (side_c _) rfl ?_, fun h0 => no fun hc => h0 hc.1⟩
  simp (maxSteps := 4000000) +contextual only [↓packA0, ↓packA1, ↓packA2, ↓reduceIte, packB0, packB1, packB2, packB3, packB4, pureOp, quietOp, loadOp, quietB, fr0, cellsK, Option.getD_some, Option.getD_none, implies_true, ite_true, ite_false, eq_self, ne_eq, reduceCtorEq, Nat.reduceLT, Nat.reduceLeDiff, Nat.reduceAdd, Nat.reduceMul, Nat.reduceBEq, Nat.reduceEqDiff, Int.reduceToNat, Int.reduceLT, Int.reduceLE, Nat.reduceSub, pl73, tfun_1, telem_1, tsize_2, tbytes_2, tagg_2, zcells_2, telem_2, tint_2, tnotIface_2, tsize_3, tbytes_3, tagg_3, zcells_3, telem_3, tint_3, tnotIface_3, tsize_4, tbytes_4, tagg_4, zcells_4, telem_4, tbool_4, tnotIface_4, tsize_23, tbytes_23, tagg_23, zcells_23, telem_23, tnotIface_23, tsize_45, tbytes_45, tagg_45, zcells_45, telem_45, tnotIface_45, foff_45_0, foff_45_1, foff_45_2, foff_45_3, fplaces_45, ints, h0]
  refine ⟨fun h1 => ⟨by omega, fun h2 => no fun hc => h2 hc.2.2.1, fun h2 => ⟨by omega, fun h3 => no fun hc => h3 hc.2.2.2.1, fun h3 => ⟨by omega, fun h4 => no fun hc => h4 hc.2.2.2.2.1, fun h4 => acalls_pure (sorted_c st hb) rfl ?_⟩⟩⟩, fun h1 => no fun hc => h1 hc.2.1⟩
  simp (maxSteps := 4000000) +contextual only [↓packA0, ↓packA1, ↓packA2, ↓reduceIte, packB0, packB1, packB2, packB3, packB4, pureOp, quietOp, loadOp, quietB, fr0, cellsK, Option.getD_some, Option.getD_none, implies_true, ite_true, ite_false, eq_self, ne_eq, reduceCtorEq, Nat.reduceLT, Nat.reduceLeDiff, Nat.reduceAdd, Nat.reduceMul, Nat.reduceBEq, Nat.reduceEqDiff, Int.reduceToNat, Int.reduceLT, Int.reduceLE, Nat.reduceSub, pl73, tfun_1, telem_1, tsize_2, tbytes_2, tagg_2, zcells_2, telem_2, tint_2, tnotIface_2, tsize_3, tbytes_3, tagg_3, zcells_3, telem_3, tint_3, tnotIface_3, tsize_4, tbytes_4, tagg_4, zcells_4, telem_4, tbool_4, tnotIface_4, tsize_23, tbytes_23, tagg_23, zcells_23, telem_23, tnotIface_23, tsize_45, tbytes_45, tagg_45, zcells_45, telem_45, tnotIface_45, foff_45_0, foff_45_1, foff_45_2, foff_45_3, fplaces_45, ints, h0, h1, h2, h3, h4]
  refine ⟨fun h5 => ?_, fun h5 => no fun hc => h5 hc.2.2.2.2.2.1⟩
  refine LoopK.intro (fun m a h => ∃ r : Nat, m = rows.toNat - r ∧ r ≤ rows.toNat ∧ (∀ i, i < r → rowOK width (rowOf st cs i)) ∧ a 1 = .op 0 4 0 0 ∧ a 52 = .int .i64 rows ∧ a 53 = .int .i64 r ∧ h = [Ob.arr 4 [[.int .i64 rows, .int .i64 width, ints st, ints cs]] true]) rows.toNat ⟨0, rfl, Nat.zero_le _, fun i h => absurd h (Nat.not_lt_zero _), ?_⟩ ?_
  · simp (maxSteps := 4000000) +contextual only [↓packA0, ↓packA1, ↓packA2, ↓reduceIte, packB0, packB1, packB2, packB3, packB4, pureOp, quietOp, loadOp, quietB, fr0, cellsK, Option.getD_some, Option.getD_none, implies_true, ite_true, ite_false, eq_self, ne_eq, reduceCtorEq, Nat.reduceLT, Nat.reduceLeDiff, Nat.reduceAdd, Nat.reduceMul, Nat.reduceBEq, Nat.reduceEqDiff, Int.reduceToNat, Int.reduceLT, Int.reduceLE, Nat.reduceSub, pl73, tfun_1, telem_1, tsize_2, tbytes_2, tagg_2, zcells_2, telem_2, tint_2, tnotIface_2, tsize_3, tbytes_3, tagg_3, zcells_3, telem_3, tint_3, tnotIface_3, tsize_4, tbytes_4, tagg_4, zcells_4, telem_4, tbool_4, tnotIface_4, tsize_23, tbytes_23, tagg_23, zcells_23, telem_23, tnotIface_23, tsize_45, tbytes_45, tagg_45, zcells_45, telem_45, tnotIface_45, foff_45_0, foff_45_1, foff_45_2, foff_45_3, fplaces_45, ints, Int.natCast_zero]
  rintro m a h ⟨r, rfl, hr, hok, a1, a52, a53, rfl⟩
  simp (maxSteps := 4000000) +contextual only [↓packA0, ↓packA1, ↓packA2, ↓reduceIte, packB0, packB1, packB2, packB3, packB4, pureOp, quietOp, loadOp, quietB, fr0, cellsK, Option.getD_some, Option.getD_none, implies_true, ite_true, ite_false, eq_self, ne_eq, reduceCtorEq, Nat.reduceLT, Nat.reduceLeDiff, Nat.reduceAdd, Nat.reduceMul, Nat.reduceBEq, Nat.reduceEqDiff, Int.reduceToNat, Int.reduceLT, Int.reduceLE, Nat.reduceSub, pl73, tfun_1, telem_1, tsize_2, tbytes_2, tagg_2, zcells_2, telem_2, tint_2, tnotIface_2, tsize_3, tbytes_3, tagg_3, zcells_3, telem_3, tint_3, tnotIface_3, tsize_4, tbytes_4, tagg_4, zcells_4, telem_4, tbool_4, tnotIface_4, tsize_23, tbytes_23, tagg_23, zcells_23, telem_23, tnotIface_23, tsize_45, tbytes_45, tagg_45, zcells_45, telem_45, tnotIface_45, foff_45_0, foff_45_1, foff_45_2, foff_45_3, fplaces_45, ints, a1, a52, a53]
  refine ⟨fun h6 => ?_, fun h6 => ?_⟩
  · have hrb := row_bounds h0.1 h2 h3 h4 h5 (r := r) (by omega)
    refine ⟨by omega, by omega, by omega, by omega, by omega, by omega, by omega, ⟨by omega, by omega⟩, ?_⟩
    have hrl : (rowOf st cs r).length = (st.getD (r + 1) default).toNat - (st.getD r default).toNat := rowOf_length hrb.1 hrb.2.1 hrb.2.2
    have hrw : AV.isl 1 (((List.map intE cs).drop (st.getD r default).toNat).take ((st.getD (r + 1) default).toNat - (st.getD r default).toNat)) = ints (rowOf st cs r) := by simp [ints, rowOf, List.map_take, List.map_drop]
    refine LoopK.intro (fun m a h => ∃ j : Nat, m = (rowOf st cs r).length - j ∧ j ≤ (rowOf st cs r).length ∧ (∀ i, i < j → prv (rowOf st cs r) i < (rowOf st cs r).getD i default ∧ (rowOf st cs r).getD i default < width) ∧ a 1 = .op 0 4 0 0 ∧ a 4 = .int .i64 (prv (rowOf st cs r) j) ∧ a 52 = .int .i64 rows ∧ a 53 = .int .i64 r ∧ a 69 = ints (rowOf st cs r) ∧ a 70 = .int .i64 (rowOf st cs r).length ∧ a 71 = .int .i64 j ∧ h = [Ob.arr 4 [[.int .i64 rows, .int .i64 width, ints st, ints cs]] true]) (rowOf st cs r).length ⟨0, rfl, Nat.zero_le _, fun i h => absurd h (Nat.not_lt_zero _), ?_⟩ ?_
    · simp (maxSteps := 4000000) +contextual only [↓packA0, ↓packA1, ↓packA2, ↓reduceIte, packB0, packB1, packB2, packB3, packB4, pureOp, quietOp, loadOp, quietB, fr0, cellsK, Option.getD_some, Option.getD_none, implies_true, ite_true, ite_false, eq_self, ne_eq, reduceCtorEq, Nat.reduceLT, Nat.reduceLeDiff, Nat.reduceAdd, Nat.reduceMul, Nat.reduceBEq, Nat.reduceEqDiff, Int.reduceToNat, Int.reduceLT, Int.reduceLE, Nat.reduceSub, pl73, tfun_1, telem_1, tsize_2, tbytes_2, tagg_2, zcells_2, telem_2, tint_2, tnotIface_2, tsize_3, tbytes_3, tagg_3, zcells_3, telem_3, tint_3, tnotIface_3, tsize_4, tbytes_4, tagg_4, zcells_4, telem_4, tbool_4, tnotIface_4, tsize_23, tbytes_23, tagg_23, zcells_23, telem_23, tnotIface_23, tsize_45, tbytes_45, tagg_45, zcells_45, telem_45, tnotIface_45, foff_45_0, foff_45_1, foff_45_2, foff_45_3, fplaces_45, ints, Int.natCast_zero, hrw, a1, a52, a53, hrl, prv]
      simp only [List.length_take, List.length_drop, List.length_map]
      omega
    rintro m a h ⟨j, rfl, hj, hjok, a1, a4, a52, a53, a69, a70, a71, rfl⟩
    simp (maxSteps := 4000000) +contextual only [↓packA0, ↓packA1, ↓packA2, ↓reduceIte, packB0, packB1, packB2, packB3, packB4, pureOp, quietOp, loadOp, quietB, fr0, cellsK, Option.getD_some, Option.getD_none, implies_true, ite_true, ite_false, eq_self, ne_eq, reduceCtorEq, Nat.reduceLT, Nat.reduceLeDiff, Nat.reduceAdd, Nat.reduceMul, Nat.reduceBEq, Nat.reduceEqDiff, Int.reduceToNat, Int.reduceLT, Int.reduceLE, Nat.reduceSub, pl73, tfun_1, telem_1, tsize_2, tbytes_2, tagg_2, zcells_2, telem_2, tint_2, tnotIface_2, tsize_3, tbytes_3, tagg_3, zcells_3, telem_3, tint_3, tnotIface_3, tsize_4, tbytes_4, tagg_4, zcells_4, telem_4, tbool_4, tnotIface_4, tsize_23, tbytes_23, tagg_23, zcells_23, telem_23, tnotIface_23, tsize_45, tbytes_45, tagg_45, zcells_45, telem_45, tnotIface_45, foff_45_0, foff_45_1, foff_45_2, foff_45_3, fplaces_45, ints, a1, a4, a52, a53, a69, a70, a71]
    refine ⟨fun h7 => ⟨by omega, by omega, ?_⟩, fun h7 => ?_⟩
    · refine ⟨fun h8 => no fun hc => ?_, fun h8 => ⟨fun h9 => no fun hc => ?_, fun h9 => ⟨by omega, .inl ⟨(rowOf st cs r).length - (j + 1), by omega, j + 1, rfl, by omega, fun i hi => ?_, by simp [prv], by omega⟩⟩⟩⟩
      · have := (hc.2.2.2.2.2.2 r (by omega) j (by omega)).1
        omega
      · have := (hc.2.2.2.2.2.2 r (by omega) j (by omega)).2
        omega
      · rcases Nat.lt_or_ge i j with h10 | h10
        · exact hjok i h10
        · rw [show i = j by omega]
          exact ⟨by omega, by omega⟩
    · refine ⟨by omega, .inl ⟨rows.toNat - (r + 1), by omega, r + 1, rfl, by omega, fun i hi => ?_, by omega⟩⟩
      rcases Nat.lt_or_ge i r with h10 | h10
      · exact hok i h10
      · rw [show i = r by omega]
        exact fun k hk => hjok k (by omega)
  · have : mayP rows width st cs := ⟨h0, h1, h2, h3, h4, h5, fun i hi => hok i (by omega)⟩
    rw [decide_eq_true this]; exact .pure _ rfl
end Go.Proofs.Ytgdlkhgfehclpaa
end

section
/- Search in a row, find, Has. No condition. -/
namespace Go.Proofs.Ytgdlkhgfehclpaa
open Go Go.AL
set_option linter.unusedVariables false
set_option linter.unusedSimpArgs false
def bp (c : Int) : List Int → Nat
  | [] => 0
  | x :: l => if x < c then bp c l + 1 else 0
theorem bp_eq {c : Int} : ∀ (l : List Int) (i : Nat), (∀ k, k < i → l.getD k default < c) → i ≤ l.length → (i < l.length → c ≤ l.getD i default) → bp c l = i
  | [], i, _, h, _ => by simp at h; simp [bp, h]
  | x :: l, 0, h0, h1, h2 => by
    have := h2 (by simp)
    simp at this
    simp only [bp]
    rw [if_neg (by omega)]
  | x :: l, i + 1, h0, h1, h2 => by
    have h3 := h0 0 (by omega)
    simp at h3
    simp only [bp]
    rw [if_pos h3, bp_eq l i (fun k hk => by have := h0 (k + 1) (by omega); simpa using this) (by simpa using h1) (fun hi => by have := h2 (by simpa using hi); simpa using this)]
theorem row_mono {w : Int} {l : List Int} (h : rowOK w l) : ∀ (d i : Nat), i + d < l.length → l.getD i default ≤ l.getD (i + d) default
  | 0, i, _ => Int.le_refl _
  | d + 1, i, hi => by
    have h1 := row_mono h d i (by omega)
    have h2 := (h (i + d + 1) (by omega)).1
    simp only [prv] at h2
    rw [if_neg (by omega), show i + d + 1 - 1 = i + d by omega] at h2
    rw [show i + (d + 1) = i + d + 1 by omega]
    omega
theorem row_lt {w : Int} {l : List Int} (h : rowOK w l) {i j : Nat} (hij : i < j) (hj : j < l.length) : l.getD i default < l.getD j default := by
  have h1 := row_mono h (j - 1 - i) i (by omega)
  rw [show i + (j - 1 - i) = j - 1 by omega] at h1
  have h2 := (h j hj).1
  simp only [prv] at h2
  rw [if_neg (by omega)] at h2
  omega
theorem row_nonneg {w : Int} {l : List Int} (h : rowOK w l) {i : Nat} (hi : i < l.length) : 0 ≤ l.getD i default := by
  have h1 := row_mono h i 0 (by omega)
  have h2 := (h 0 (by omega)).1
  simp only [prv, if_pos] at h2
  rw [show 0 + i = i by omega] at h1
  omega
theorem mem_getD {l : List Int} {c : Int} : c ∈ l ↔ ∃ i, i < l.length ∧ l.getD i default = c := by
  constructor
  · intro h
    obtain ⟨i, hi, e⟩ := List.getElem_of_mem h
    exact ⟨i, hi, by simp [List.getD_eq_getElem?_getD, List.getElem?_eq_getElem hi, e]⟩
  · rintro ⟨i, hi, e⟩
    simp [List.getD_eq_getElem?_getD, List.getElem?_eq_getElem hi] at e
    rw [← e]
    exact List.getElem_mem hi
set_option maxRecDepth 100000 in
theorem search_c (w : Int) (l : List Int) (c : Int) (hb : l.length < 1000000000) (h : rowOK w l) : APure Try.prog 115 [ints l, .int .i64 c] (.tup [.int .i64 (bp c l), .bool (decide (c ∈ l))]) := by
  refine apure_of (wp115 rfl rfl ?_)
  simp (maxSteps := 4000000) +contextual only [↓packA0, ↓packA1, ↓packA2, ↓reduceIte, packB0, packB1, packB2, packB3, packB4, pureOp, quietOp, loadOp, quietB, fr0, cellsK, Option.getD_some, Option.getD_none, implies_true, ite_true, ite_false, eq_self, ne_eq, reduceCtorEq, Nat.reduceLT, Nat.reduceLeDiff, Nat.reduceAdd, Nat.reduceMul, Nat.reduceBEq, Nat.reduceEqDiff, Int.reduceToNat, Int.reduceLT, Int.reduceLE, Nat.reduceSub, pl115, tsize_3, tbytes_3, tagg_3, zcells_3, telem_3, tint_3, tnotIface_3, tsize_23, tbytes_23, tagg_23, zcells_23, telem_23, tnotIface_23, tsize_173, tbytes_173, tagg_173, zcells_173, telem_173, tint_173, tnotIface_173, ints]
  refine LoopK.intro (fun m a h => ∃ i j : Nat, m = j - i ∧ i ≤ j ∧ j ≤ l.length ∧ (∀ k, k < i → l.getD k default < c) ∧ (∀ k, j ≤ k → k < l.length → c ≤ l.getD k default) ∧ a 0 = ints l ∧ a 1 = .int .i64 c ∧ a 6 = .int .i64 l.length ∧ a 7 = .int .i64 i ∧ a 8 = .int .i64 j ∧ h = []) l.length ⟨0, l.length, rfl, by omega, by omega, fun k hk => by omega, fun k h1 h2 => by omega, ?_⟩ ?_
  · simp (maxSteps := 4000000) +contextual only [↓packA0, ↓packA1, ↓packA2, ↓reduceIte, packB0, packB1, packB2, packB3, packB4, pureOp, quietOp, loadOp, quietB, fr0, cellsK, Option.getD_some, Option.getD_none, implies_true, ite_true, ite_false, eq_self, ne_eq, reduceCtorEq, Nat.reduceLT, Nat.reduceLeDiff, Nat.reduceAdd, Nat.reduceMul, Nat.reduceBEq, Nat.reduceEqDiff, Int.reduceToNat, Int.reduceLT, Int.reduceLE, Nat.reduceSub, pl115, tsize_3, tbytes_3, tagg_3, zcells_3, telem_3, tint_3, tnotIface_3, tsize_23, tbytes_23, tagg_23, zcells_23, telem_23, tnotIface_23, tsize_173, tbytes_173, tagg_173, zcells_173, telem_173, tint_173, tnotIface_173, ints, Int.natCast_zero]
  rintro m a h1 ⟨i, j, rfl, hij, hj, hlo, hhi, a0, a1, a6, a7, a8, rfl⟩
  have hm : (IntKind.u64.wrap ((i : Int) + (j : Int))).fdiv (2 ^ min 1 IntKind.u64.bits) = (((i + j) / 2 : Nat) : Int) := by
    have e : IntKind.u64.wrap ((i : Int) + (j : Int)) = (i : Int) + j := by
      simp [IntKind.wrap, IntKind.bits, IntKind.signed]
      omega
    rw [e, show (2 : Int) ^ min 1 IntKind.u64.bits = 2 from rfl, Int.fdiv_eq_ediv_of_nonneg _ (by omega)]
    omega
  simp (maxSteps := 4000000) +contextual only [↓packA0, ↓packA1, ↓packA2, ↓reduceIte, packB0, packB1, packB2, packB3, packB4, pureOp, quietOp, loadOp, quietB, fr0, cellsK, Option.getD_some, Option.getD_none, implies_true, ite_true, ite_false, eq_self, ne_eq, reduceCtorEq, Nat.reduceLT, Nat.reduceLeDiff, Nat.reduceAdd, Nat.reduceMul, Nat.reduceBEq, Nat.reduceEqDiff, Int.reduceToNat, Int.reduceLT, Int.reduceLE, Nat.reduceSub, pl115, tsize_3, tbytes_3, tagg_3, zcells_3, telem_3, tint_3, tnotIface_3, tsize_23, tbytes_23, tagg_23, zcells_23, telem_23, tnotIface_23, tsize_173, tbytes_173, tagg_173, zcells_173, telem_173, tint_173, tnotIface_173, ints, a0, a1, a6, a7, a8, hm]
  refine ⟨fun h2 => ⟨by omega, by omega, by omega, by omega, acalls_pure (less_c _ _) rfl ?_⟩, fun h2 => ?_⟩
  · simp (maxSteps := 4000000) +contextual only [↓packA0, ↓packA1, ↓packA2, ↓reduceIte, packB0, packB1, packB2, packB3, packB4, pureOp, quietOp, loadOp, quietB, fr0, cellsK, Option.getD_some, Option.getD_none, implies_true, ite_true, ite_false, eq_self, ne_eq, reduceCtorEq, Nat.reduceLT, Nat.reduceLeDiff, Nat.reduceAdd, Nat.reduceMul, Nat.reduceBEq, Nat.reduceEqDiff, Int.reduceToNat, Int.reduceLT, Int.reduceLE, Nat.reduceSub, pl115, tsize_3, tbytes_3, tagg_3, zcells_3, telem_3, tint_3, tnotIface_3, tsize_23, tbytes_23, tagg_23, zcells_23, telem_23, tnotIface_23, tsize_173, tbytes_173, tagg_173, zcells_173, telem_173, tint_173, tnotIface_173, ints, a0, a1, a6, a7, a8, hm]
    refine ⟨fun h3 => ⟨by omega, .inl ⟨j - ((i + j) / 2 + 1), by omega, (i + j) / 2 + 1, j, by omega, by omega, hj, fun k hk => ?_, hhi, by omega, rfl⟩⟩, fun h3 => .inl ⟨(i + j) / 2 - i, by omega, i, (i + j) / 2, by omega, by omega, by omega, hlo, fun k hk1 hk2 => ?_, by omega, rfl⟩⟩
    · rcases Nat.lt_or_ge k ((i + j) / 2) with h4 | h4
      · have := row_lt h h4 (by omega)
        omega
      · rw [show k = (i + j) / 2 by omega]; exact h3
    · have := row_mono h (k - (i + j) / 2) ((i + j) / 2) (by omega)
      rw [show (i + j) / 2 + (k - (i + j) / 2) = k by omega] at this
      omega
  · obtain rfl : i = j := by omega
    have hbp : bp c l = i := bp_eq l i hlo hj (fun hi => hhi i (Nat.le_refl _) hi)
    have hmem : c ∈ l ↔ i < l.length ∧ l.getD i default = c := by
      rw [mem_getD]
      constructor
      · rintro ⟨k, hk, e⟩
        rcases Nat.lt_trichotomy k i with h4 | h4 | h4
        · have := hlo k h4
          omega
        · subst h4; exact ⟨hk, e⟩
        · have h5 := hhi i (Nat.le_refl _) (by omega)
          have h6 := row_lt h h4 hk
          omega
      · rintro ⟨h1, h2⟩; exact ⟨i, h1, h2⟩
    rw [hbp]
    refine ⟨fun h3 => ⟨by omega, by omega, fun h4 => ?_, fun h4 => ⟨by omega, by omega, acalls_pure (nan2_c _) rfl ?_⟩⟩, fun h3 => ?_⟩
    · rw [decide_eq_true (hmem.2 ⟨by omega, h4⟩)]; exact .pure _ rfl
    · simp (maxSteps := 4000000) +contextual only [↓packA0, ↓packA1, ↓packA2, ↓reduceIte, packB0, packB1, packB2, packB3, packB4, pureOp, quietOp, loadOp, quietB, fr0, cellsK, Option.getD_some, Option.getD_none, implies_true, ite_true, ite_false, eq_self, ne_eq, reduceCtorEq, Nat.reduceLT, Nat.reduceLeDiff, Nat.reduceAdd, Nat.reduceMul, Nat.reduceBEq, Nat.reduceEqDiff, Int.reduceToNat, Int.reduceLT, Int.reduceLE, Nat.reduceSub, pl115, tsize_3, tbytes_3, tagg_3, zcells_3, telem_3, tint_3, tnotIface_3, tsize_23, tbytes_23, tagg_23, zcells_23, telem_23, tnotIface_23, tsize_173, tbytes_173, tagg_173, zcells_173, telem_173, tint_173, tnotIface_173, ints, a0, a1, a6, a7, a8, h3, h4]
      rw [decide_eq_false (fun hc => h4 (hmem.1 hc).2)]; exact .pure _ rfl
    · rw [decide_eq_false (fun hc => h3 (by have := (hmem.1 hc).1; omega))]; exact .pure _ rfl
/-- What find answers. -/
theorem may_row {rows width : Int} {st cs : List Int} (h : mayP rows width st cs) {r : Nat} (hr : r < rows.toNat) : 0 ≤ st.getD r default ∧ st.getD r default ≤ st.getD (r + 1) default ∧ st.getD (r + 1) default ≤ cs.length ∧ rowOK width (rowOf st cs r) ∧ (rowOf st cs r).length = (st.getD (r + 1) default).toNat - (st.getD r default).toNat ∧ r + 1 < st.length ∧ rows ≤ 128 := by
  have h1 := row_bounds h.1.1 h.2.2.1 h.2.2.2.1 h.2.2.2.2.1 h.2.2.2.2.2.1 hr
  have h2 := h.2.2.1
  have h3 := h.1.2
  exact ⟨h1.1, h1.2.1, h1.2.2, h.2.2.2.2.2.2 r hr, rowOf_length h1.1 h1.2.1 h1.2.2, by omega, h3⟩
theorem row_isl {st cs : List Int} {r : Nat} : AV.isl 1 (((List.map intE cs).drop (st.getD r default).toNat).take ((st.getD (r + 1) default).toNat - (st.getD r default).toNat)) = ints (rowOf st cs r) := by simp [ints, rowOf, List.map_take, List.map_drop]
set_option maxRecDepth 100000 in
theorem find_c (rows width : Int) (st cs : List Int) (hb : st.length < 1000000000) (hb2 : cs.length < 1000000000) (h : mayP rows width st cs) (r : Nat) (hr : r < rows.toNat) (c : Int) :
    APure Try.prog 99 [pat rows width st cs, .int .i64 r, .int .i64 c] (.tup [.int .i64 (st.getD r default + bp c (rowOf st cs r)), .bool (decide (c ∈ rowOf st cs r))]) := by
  obtain ⟨h1, h2, h3, h4, h5, h6, h7⟩ := may_row h hr
  have hbl : bp c (rowOf st cs r) ≤ (rowOf st cs r).length := by
    have : ∀ l : List Int, bp c l ≤ l.length := by
      intro l
      induction l with
      | nil => simp [bp]
      | cons x l ih => simp only [bp, List.length_cons]; split <;> omega
    exact this _
  refine apure_of (wp99 rfl rfl ?_)
  simp (maxSteps := 4000000) +contextual only [↓packA0, ↓packA1, ↓packA2, ↓reduceIte, packB0, packB1, packB2, packB3, packB4, pureOp, quietOp, loadOp, quietB, fr0, cellsK, Option.getD_some, Option.getD_none, implies_true, ite_true, ite_false, eq_self, ne_eq, reduceCtorEq, Nat.reduceLT, Nat.reduceLeDiff, Nat.reduceAdd, Nat.reduceMul, Nat.reduceBEq, Nat.reduceEqDiff, Int.reduceToNat, Int.reduceLT, Int.reduceLE, Nat.reduceSub, pl99, tsize_2, tbytes_2, tagg_2, zcells_2, telem_2, tint_2, tnotIface_2, tsize_3, tbytes_3, tagg_3, zcells_3, telem_3, tint_3, tnotIface_3, tsize_23, tbytes_23, tagg_23, zcells_23, telem_23, tnotIface_23, tsize_45, tbytes_45, tagg_45, zcells_45, telem_45, tnotIface_45, foff_45_0, foff_45_1, foff_45_2, foff_45_3, fplaces_45, ints]
  refine ⟨fun h8 => ?_, fun h8 => ?_⟩
  · omega
  · refine ⟨fun h9 => absurd h9 (by omega), fun h9 => ⟨by omega, by omega, by omega, by omega, by omega, by omega, by omega, ⟨by omega, by omega⟩, ?_⟩⟩
    rw [row_isl]
    refine acalls_pure (search_c width _ c (by omega) h4) rfl ?_
    simp (maxSteps := 4000000) +contextual only [↓packA0, ↓packA1, ↓packA2, ↓reduceIte, packB0, packB1, packB2, packB3, packB4, pureOp, quietOp, loadOp, quietB, fr0, cellsK, Option.getD_some, Option.getD_none, implies_true, ite_true, ite_false, eq_self, ne_eq, reduceCtorEq, Nat.reduceLT, Nat.reduceLeDiff, Nat.reduceAdd, Nat.reduceMul, Nat.reduceBEq, Nat.reduceEqDiff, Int.reduceToNat, Int.reduceLT, Int.reduceLE, Nat.reduceSub, pl99, tsize_2, tbytes_2, tagg_2, zcells_2, telem_2, tint_2, tnotIface_2, tsize_3, tbytes_3, tagg_3, zcells_3, telem_3, tint_3, tnotIface_3, tsize_23, tbytes_23, tagg_23, zcells_23, telem_23, tnotIface_23, tsize_45, tbytes_45, tagg_45, zcells_45, telem_45, tnotIface_45, foff_45_0, foff_45_1, foff_45_2, foff_45_3, fplaces_45, ints, row_isl]
    refine ⟨by omega, by omega, by omega, ?_⟩
    exact .pure _ rfl
set_option maxRecDepth 100000 in
theorem has_c (rows width : Int) (st cs : List Int) (hb : st.length < 1000000000) (hb2 : cs.length < 1000000000) (h : mayP rows width st cs) (r : Nat) (hr : r < rows.toNat) (c : Int) :
    APure Try.prog 75 [pat rows width st cs, .int .i64 r, .int .i64 c] (.bool (decide (c ∈ rowOf st cs r))) := by
  refine apure_of (wp75 rfl rfl ?_)
  simp (maxSteps := 4000000) +contextual only [↓packA0, ↓packA1, ↓packA2, ↓reduceIte, packB0, packB1, packB2, packB3, packB4, pureOp, quietOp, loadOp, quietB, fr0, cellsK, Option.getD_some, Option.getD_none, implies_true, ite_true, ite_false, eq_self, ne_eq, reduceCtorEq, Nat.reduceLT, Nat.reduceLeDiff, Nat.reduceAdd, Nat.reduceMul, Nat.reduceBEq, Nat.reduceEqDiff, Int.reduceToNat, Int.reduceLT, Int.reduceLE, Nat.reduceSub, pl75, tsize_3, tbytes_3, tagg_3, zcells_3, telem_3, tint_3, tnotIface_3, tsize_4, tbytes_4, tagg_4, zcells_4, telem_4, tbool_4, tnotIface_4, tsize_23, tbytes_23, tagg_23, zcells_23, telem_23, tnotIface_23, tsize_45, tbytes_45, tagg_45, zcells_45, telem_45, tnotIface_45, foff_45_0, foff_45_1, foff_45_2, foff_45_3, fplaces_45, ints]
  refine acalls_pure (may_c rows width st cs hb hb2) rfl ?_
  simp (maxSteps := 4000000) +contextual only [↓packA0, ↓packA1, ↓packA2, ↓reduceIte, packB0, packB1, packB2, packB3, packB4, pureOp, quietOp, loadOp, quietB, fr0, cellsK, Option.getD_some, Option.getD_none, implies_true, ite_true, ite_false, eq_self, ne_eq, reduceCtorEq, Nat.reduceLT, Nat.reduceLeDiff, Nat.reduceAdd, Nat.reduceMul, Nat.reduceBEq, Nat.reduceEqDiff, Int.reduceToNat, Int.reduceLT, Int.reduceLE, Nat.reduceSub, pl75, tsize_3, tbytes_3, tagg_3, zcells_3, telem_3, tint_3, tnotIface_3, tsize_4, tbytes_4, tagg_4, zcells_4, telem_4, tbool_4, tnotIface_4, tsize_23, tbytes_23, tagg_23, zcells_23, telem_23, tnotIface_23, tsize_45, tbytes_45, tagg_45, zcells_45, telem_45, tnotIface_45, foff_45_0, foff_45_1, foff_45_2, foff_45_3, fplaces_45, ints, h]
  refine acalls_pure (find_c rows width st cs hb hb2 h r hr c) rfl ?_
  simp (maxSteps := 4000000) +contextual only [↓packA0, ↓packA1, ↓packA2, ↓reduceIte, packB0, packB1, packB2, packB3, packB4, pureOp, quietOp, loadOp, quietB, fr0, cellsK, Option.getD_some, Option.getD_none, implies_true, ite_true, ite_false, eq_self, ne_eq, reduceCtorEq, Nat.reduceLT, Nat.reduceLeDiff, Nat.reduceAdd, Nat.reduceMul, Nat.reduceBEq, Nat.reduceEqDiff, Int.reduceToNat, Int.reduceLT, Int.reduceLE, Nat.reduceSub, pl75, tsize_3, tbytes_3, tagg_3, zcells_3, telem_3, tint_3, tnotIface_3, tsize_4, tbytes_4, tagg_4, zcells_4, telem_4, tbool_4, tnotIface_4, tsize_23, tbytes_23, tagg_23, zcells_23, telem_23, tnotIface_23, tsize_45, tbytes_45, tagg_45, zcells_45, telem_45, tnotIface_45, foff_45_0, foff_45_1, foff_45_2, foff_45_3, fplaces_45, ints, h]
  exact .pure _ rfl
theorem find_i (rows width : Int) (st cs : List Int) (hb : st.length < 1000000000) (hb2 : cs.length < 1000000000) (h : mayP rows width st cs) (r : Int) (h0 : 0 ≤ r) (hr : r < rows) (c : Int) :
    APure Try.prog 99 [pat rows width st cs, .int .i64 r, .int .i64 c] (.tup [.int .i64 (st.getD r.toNat default + bp c (rowOf st cs r.toNat)), .bool (decide (c ∈ rowOf st cs r.toNat))]) := by
  have := find_c rows width st cs hb hb2 h r.toNat (by omega) c
  rw [show ((r.toNat : Nat) : Int) = r by omega] at this
  exact this
theorem row_getD {rows width : Int} {st cs : List Int} (h : mayP rows width st cs) {r : Nat} (hr : r < rows.toNat) {j : Nat} (hj : j < (rowOf st cs r).length) : (rowOf st cs r).getD j default = cs.getD ((st.getD r default).toNat + j) default := by
  obtain ⟨h1, h2, h3, h4, h5, h6, h7⟩ := may_row h hr
  rw [h5] at hj
  simp only [List.getD_eq_getElem?_getD] at hj
  simp only [rowOf, List.getD_eq_getElem?_getD, List.getElem?_take, List.getElem?_drop]
  rw [if_pos hj]
end Go.Proofs.Ytgdlkhgfehclpaa
end

section
/- Symmetric and graph. No condition. -/
namespace Go.Proofs.Ytgdlkhgfehclpaa
open Go Go.AL
set_option linter.unusedVariables false
set_option linter.unusedSimpArgs false
def symRow (st cs : List Int) (r : Nat) : Prop := ∀ j, j < (rowOf st cs r).length → (r : Int) ∈ rowOf st cs ((rowOf st cs r).getD j default).toNat
instance (st cs : List Int) (r : Nat) : Decidable (symRow st cs r) := by unfold symRow; infer_instance
def symP (rows width : Int) (st cs : List Int) : Prop := mayP rows width st cs ∧ rows = width ∧ ∀ r, r < rows.toNat → symRow st cs r
instance (rows width : Int) (st cs : List Int) : Decidable (symP rows width st cs) := by unfold symP; infer_instance
abbrev patO (rows width : Int) (st cs : List Int) : Ob := Ob.arr 4 [[.int .i64 rows, .int .i64 width, ints st, ints cs]] true
set_option maxRecDepth 100000 in
theorem sym_c (rows width : Int) (st cs : List Int) (hb : st.length < 1000000000) (hb2 : cs.length < 1000000000) : APure Try.prog 74 [pat rows width st cs] (.bool (decide (symP rows width st cs))) := by
  have no : ∀ {h : Heap}, ¬ symP rows width st cs → Frz h (.bool false) (.bool (decide (symP rows width st cs))) := fun hc => by rw [decide_eq_false hc]; exact .pure _ rfl
  refine apure_of (wp74 rfl rfl ?_)
  simp (maxSteps := 4000000) +contextual only [↓packA0, ↓packA1, ↓packA2, ↓reduceIte, packB0, packB1, packB2, packB3, packB4, pureOp, quietOp, loadOp, quietB, fr0, cellsK, Option.getD_some, Option.getD_none, implies_true, ite_true, ite_false, eq_self, ne_eq, reduceCtorEq, Nat.reduceLT, Nat.reduceLeDiff, Nat.reduceAdd, Nat.reduceMul, Nat.reduceBEq, Nat.reduceEqDiff, Int.reduceToNat, Int.reduceLT, Int.reduceLE, Nat.reduceSub, pl74, tfun_1, telem_1, tsize_3, tbytes_3, tagg_3, zcells_3, telem_3, tint_3, tnotIface_3, tsize_4, tbytes_4, tagg_4, zcells_4, telem_4, tbool_4, tnotIface_4, tsize_23, tbytes_23, tagg_23, zcells_23, telem_23, tnotIface_23, tsize_45, tbytes_45, tagg_45, zcells_45, telem_45, tnotIface_45, foff_45_0, foff_45_1, foff_45_2, foff_45_3, fplaces_45, tfun_157, telem_157, ints]
  refine acalls_pure (may_c rows width st cs hb hb2) rfl ?_
  simp (maxSteps := 4000000) +contextual only [↓packA0, ↓packA1, ↓packA2, ↓reduceIte, packB0, packB1, packB2, packB3, packB4, pureOp, quietOp, loadOp, quietB, fr0, cellsK, Option.getD_some, Option.getD_none, implies_true, ite_true, ite_false, eq_self, ne_eq, reduceCtorEq, Nat.reduceLT, Nat.reduceLeDiff, Nat.reduceAdd, Nat.reduceMul, Nat.reduceBEq, Nat.reduceEqDiff, Int.reduceToNat, Int.reduceLT, Int.reduceLE, Nat.reduceSub, pl74, tfun_1, telem_1, tsize_3, tbytes_3, tagg_3, zcells_3, telem_3, tint_3, tnotIface_3, tsize_4, tbytes_4, tagg_4, zcells_4, telem_4, tbool_4, tnotIface_4, tsize_23, tbytes_23, tagg_23, zcells_23, telem_23, tnotIface_23, tsize_45, tbytes_45, tagg_45, zcells_45, telem_45, tnotIface_45, foff_45_0, foff_45_1, foff_45_2, foff_45_3, fplaces_45, tfun_157, telem_157, ints]
  refine ⟨fun h0 => ⟨fun h1 => no fun hc => h1 hc.2.1, fun h1 => ?_⟩, fun h0 => no fun hc => h0 hc.1⟩
  subst h1
  refine wp97 rfl rfl ?_
  simp (maxSteps := 4000000) +contextual only [↓packA0, ↓packA1, ↓packA2, ↓reduceIte, packB0, packB1, packB2, packB3, packB4, pureOp, quietOp, loadOp, quietB, fr0, cellsK, Option.getD_some, Option.getD_none, implies_true, ite_true, ite_false, eq_self, ne_eq, reduceCtorEq, Nat.reduceLT, Nat.reduceLeDiff, Nat.reduceAdd, Nat.reduceMul, Nat.reduceBEq, Nat.reduceEqDiff, Int.reduceToNat, Int.reduceLT, Int.reduceLE, Nat.reduceSub, pl97, tsize_2, tbytes_2, tagg_2, zcells_2, telem_2, tint_2, tnotIface_2, tsize_3, tbytes_3, tagg_3, zcells_3, telem_3, tint_3, tnotIface_3, tsize_23, tbytes_23, tagg_23, zcells_23, telem_23, tnotIface_23, tsize_45, tbytes_45, tagg_45, zcells_45, telem_45, tnotIface_45, foff_45_0, foff_45_1, foff_45_2, foff_45_3, fplaces_45, pl74, tfun_1, telem_1, tsize_4, tbytes_4, tagg_4, zcells_4, telem_4, tbool_4, tnotIface_4, tfun_157, telem_157, patO, ints]
  refine LoopK.intro (fun m a h => ∃ (r : Nat) (b : Bool), m = rows.toNat - r ∧ r ≤ rows.toNat ∧ (b = true ↔ ∀ i, i < r → symRow st cs i) ∧ a 1 = .fn (.func 98) [] [.op 0 4 0 0, .op 1 1 0 0] ∧ a 2 = .op 2 4 0 0 ∧ a 7 = .int .i64 rows ∧ a 8 = .int .i64 r ∧ h = [patO rows rows st cs, Ob.arr 1 [[.bool b]] true, patO rows rows st cs]) rows.toNat ⟨0, true, rfl, Nat.zero_le _, by simp, ?_⟩ ?_
  · simp (maxSteps := 4000000) +contextual only [↓packA0, ↓packA1, ↓packA2, ↓reduceIte, packB0, packB1, packB2, packB3, packB4, pureOp, quietOp, loadOp, quietB, fr0, cellsK, Option.getD_some, Option.getD_none, implies_true, ite_true, ite_false, eq_self, ne_eq, reduceCtorEq, Nat.reduceLT, Nat.reduceLeDiff, Nat.reduceAdd, Nat.reduceMul, Nat.reduceBEq, Nat.reduceEqDiff, Int.reduceToNat, Int.reduceLT, Int.reduceLE, Nat.reduceSub, pl97, tsize_2, tbytes_2, tagg_2, zcells_2, telem_2, tint_2, tnotIface_2, tsize_3, tbytes_3, tagg_3, zcells_3, telem_3, tint_3, tnotIface_3, tsize_23, tbytes_23, tagg_23, zcells_23, telem_23, tnotIface_23, tsize_45, tbytes_45, tagg_45, zcells_45, telem_45, tnotIface_45, foff_45_0, foff_45_1, foff_45_2, foff_45_3, fplaces_45, pl74, tfun_1, telem_1, tsize_4, tbytes_4, tagg_4, zcells_4, telem_4, tbool_4, tnotIface_4, tfun_157, telem_157, patO, ints, Int.natCast_zero]
  rintro m a h ⟨r, b, rfl, hr, hbr, a1, a2, a7, a8, rfl⟩
  simp (maxSteps := 4000000) +contextual only [↓packA0, ↓packA1, ↓packA2, ↓reduceIte, packB0, packB1, packB2, packB3, packB4, pureOp, quietOp, loadOp, quietB, fr0, cellsK, Option.getD_some, Option.getD_none, implies_true, ite_true, ite_false, eq_self, ne_eq, reduceCtorEq, Nat.reduceLT, Nat.reduceLeDiff, Nat.reduceAdd, Nat.reduceMul, Nat.reduceBEq, Nat.reduceEqDiff, Int.reduceToNat, Int.reduceLT, Int.reduceLE, Nat.reduceSub, pl97, tsize_2, tbytes_2, tagg_2, zcells_2, telem_2, tint_2, tnotIface_2, tsize_3, tbytes_3, tagg_3, zcells_3, telem_3, tint_3, tnotIface_3, tsize_23, tbytes_23, tagg_23, zcells_23, telem_23, tnotIface_23, tsize_45, tbytes_45, tagg_45, zcells_45, telem_45, tnotIface_45, foff_45_0, foff_45_1, foff_45_2, foff_45_3, fplaces_45, pl74, tfun_1, telem_1, tsize_4, tbytes_4, tagg_4, zcells_4, telem_4, tbool_4, tnotIface_4, tfun_157, telem_157, patO, ints, a1, a2, a7, a8]
  refine ⟨fun h2 => ?_, fun h2 => ?_⟩
  · obtain ⟨q1, q2, q3, q4, q5, q6, q7⟩ := may_row h0 (show r < rows.toNat by omega)
    refine ⟨by omega, by omega, ?_⟩
    refine LoopK.intro (fun m a h => ∃ (j : Nat) (b : Bool), m = (rowOf st cs r).length - j ∧ j ≤ (rowOf st cs r).length ∧ (b = true ↔ (∀ i, i < r → symRow st cs i) ∧ ∀ i, i < j → (r : Int) ∈ rowOf st cs ((rowOf st cs r).getD i default).toNat) ∧ a 1 = .fn (.func 98) [] [.op 0 4 0 0, .op 1 1 0 0] ∧ a 2 = .op 2 4 0 0 ∧ a 4 = .int .i64 r ∧ a 5 = .int .i64 (((st.getD r default).toNat + j : Nat) : Int) ∧ a 7 = .int .i64 rows ∧ a 8 = .int .i64 r ∧ h = [patO rows rows st cs, Ob.arr 1 [[.bool b]] true, patO rows rows st cs]) (rowOf st cs r).length ⟨0, b, rfl, Nat.zero_le _, by simp [hbr], ?_⟩ ?_
    · simp (maxSteps := 4000000) +contextual only [↓packA0, ↓packA1, ↓packA2, ↓reduceIte, packB0, packB1, packB2, packB3, packB4, pureOp, quietOp, loadOp, quietB, fr0, cellsK, Option.getD_some, Option.getD_none, implies_true, ite_true, ite_false, eq_self, ne_eq, reduceCtorEq, Nat.reduceLT, Nat.reduceLeDiff, Nat.reduceAdd, Nat.reduceMul, Nat.reduceBEq, Nat.reduceEqDiff, Int.reduceToNat, Int.reduceLT, Int.reduceLE, Nat.reduceSub, pl97, tsize_2, tbytes_2, tagg_2, zcells_2, telem_2, tint_2, tnotIface_2, tsize_3, tbytes_3, tagg_3, zcells_3, telem_3, tint_3, tnotIface_3, tsize_23, tbytes_23, tagg_23, zcells_23, telem_23, tnotIface_23, tsize_45, tbytes_45, tagg_45, zcells_45, telem_45, tnotIface_45, foff_45_0, foff_45_1, foff_45_2, foff_45_3, fplaces_45, pl74, tfun_1, telem_1, tsize_4, tbytes_4, tagg_4, zcells_4, telem_4, tbool_4, tnotIface_4, tfun_157, telem_157, patO, ints, a1, a2, a7, a8]
      omega
    rintro m a h ⟨j, b, rfl, hj, hbj, a1, a2, a4, a5, a7, a8, rfl⟩
    simp (maxSteps := 4000000) +contextual only [↓packA0, ↓packA1, ↓packA2, ↓reduceIte, packB0, packB1, packB2, packB3, packB4, pureOp, quietOp, loadOp, quietB, fr0, cellsK, Option.getD_some, Option.getD_none, implies_true, ite_true, ite_false, eq_self, ne_eq, reduceCtorEq, Nat.reduceLT, Nat.reduceLeDiff, Nat.reduceAdd, Nat.reduceMul, Nat.reduceBEq, Nat.reduceEqDiff, Int.reduceToNat, Int.reduceLT, Int.reduceLE, Nat.reduceSub, pl97, tsize_2, tbytes_2, tagg_2, zcells_2, telem_2, tint_2, tnotIface_2, tsize_3, tbytes_3, tagg_3, zcells_3, telem_3, tint_3, tnotIface_3, tsize_23, tbytes_23, tagg_23, zcells_23, telem_23, tnotIface_23, tsize_45, tbytes_45, tagg_45, zcells_45, telem_45, tnotIface_45, foff_45_0, foff_45_1, foff_45_2, foff_45_3, fplaces_45, pl74, tfun_1, telem_1, tsize_4, tbytes_4, tagg_4, zcells_4, telem_4, tbool_4, tnotIface_4, tfun_157, telem_157, patO, ints, a1, a2, a4, a5, a7, a8]
    have hg : j < (rowOf st cs r).length → cs.getD ((st.getD r default).toNat + j) default = (rowOf st cs r).getD j default := fun hj => (row_getD h0 (by omega) hj).symm
    refine ⟨by omega, by omega, by omega, fun h3 => ⟨by omega, by omega, ?_⟩, fun h3 => ?_⟩
    · have hj2 : j < (rowOf st cs r).length := by omega
      have hn0 := row_nonneg q4 hj2
      have hn1 := (q4 j hj2).2
      rw [hg hj2]
      refine wp98 rfl rfl ?_
      simp (maxSteps := 4000000) +contextual only [↓packA0, ↓packA1, ↓packA2, ↓reduceIte, packB0, packB1, packB2, packB3, packB4, pureOp, quietOp, loadOp, quietB, fr0, cellsK, Option.getD_some, Option.getD_none, implies_true, ite_true, ite_false, eq_self, ne_eq, reduceCtorEq, Nat.reduceLT, Nat.reduceLeDiff, Nat.reduceAdd, Nat.reduceMul, Nat.reduceBEq, Nat.reduceEqDiff, Int.reduceToNat, Int.reduceLT, Int.reduceLE, Nat.reduceSub, pl98, tsize_3, tbytes_3, tagg_3, zcells_3, telem_3, tint_3, tnotIface_3, tsize_4, tbytes_4, tagg_4, zcells_4, telem_4, tbool_4, tnotIface_4, tsize_23, tbytes_23, tagg_23, zcells_23, telem_23, tnotIface_23, tsize_45, tbytes_45, tagg_45, zcells_45, telem_45, tnotIface_45, foff_45_0, foff_45_1, foff_45_2, foff_45_3, fplaces_45, pl97, tsize_2, tbytes_2, tagg_2, zcells_2, telem_2, tint_2, tnotIface_2, pl74, tfun_1, telem_1, tfun_157, telem_157, patO, ints]
      refine acalls_pure (find_i rows rows st cs hb hb2 h0 _ hn0 hn1 r) rfl ?_
      simp (maxSteps := 4000000) +contextual only [↓packA0, ↓packA1, ↓packA2, ↓reduceIte, packB0, packB1, packB2, packB3, packB4, pureOp, quietOp, loadOp, quietB, fr0, cellsK, Option.getD_some, Option.getD_none, implies_true, ite_true, ite_false, eq_self, ne_eq, reduceCtorEq, Nat.reduceLT, Nat.reduceLeDiff, Nat.reduceAdd, Nat.reduceMul, Nat.reduceBEq, Nat.reduceEqDiff, Int.reduceToNat, Int.reduceLT, Int.reduceLE, Nat.reduceSub, pl98, tsize_3, tbytes_3, tagg_3, zcells_3, telem_3, tint_3, tnotIface_3, tsize_4, tbytes_4, tagg_4, zcells_4, telem_4, tbool_4, tnotIface_4, tsize_23, tbytes_23, tagg_23, zcells_23, telem_23, tnotIface_23, tsize_45, tbytes_45, tagg_45, zcells_45, telem_45, tnotIface_45, foff_45_0, foff_45_1, foff_45_2, foff_45_3, fplaces_45, pl97, tsize_2, tbytes_2, tagg_2, zcells_2, telem_2, tint_2, tnotIface_2, pl74, tfun_1, telem_1, tfun_157, telem_157, patO, ints, a1, a2, a4, a5, a7, a8]
      cases b
      · simp (maxSteps := 4000000) +contextual only [↓packA0, ↓packA1, ↓packA2, ↓reduceIte, packB0, packB1, packB2, packB3, packB4, pureOp, quietOp, loadOp, quietB, fr0, cellsK, Option.getD_some, Option.getD_none, implies_true, ite_true, ite_false, eq_self, ne_eq, reduceCtorEq, Nat.reduceLT, Nat.reduceLeDiff, Nat.reduceAdd, Nat.reduceMul, Nat.reduceBEq, Nat.reduceEqDiff, Int.reduceToNat, Int.reduceLT, Int.reduceLE, Nat.reduceSub, pl98, tsize_3, tbytes_3, tagg_3, zcells_3, telem_3, tint_3, tnotIface_3, tsize_4, tbytes_4, tagg_4, zcells_4, telem_4, tbool_4, tnotIface_4, tsize_23, tbytes_23, tagg_23, zcells_23, telem_23, tnotIface_23, tsize_45, tbytes_45, tagg_45, zcells_45, telem_45, tnotIface_45, foff_45_0, foff_45_1, foff_45_2, foff_45_3, fplaces_45, pl97, tsize_2, tbytes_2, tagg_2, zcells_2, telem_2, tint_2, tnotIface_2, pl74, tfun_1, telem_1, tfun_157, telem_157, patO, ints, a1, a2, a4, a5, a7, a8]
        refine ⟨by omega, .inl ⟨(rowOf st cs r).length - (j + 1), by omega, j + 1, false, rfl, by omega, ?_, by omega, rfl⟩⟩
        constructor
        · intro hc; cases hc
        · intro hc; exact hbj.2 ⟨hc.1, fun i hi => hc.2 i (by omega)⟩
      · simp (maxSteps := 4000000) +contextual only [↓packA0, ↓packA1, ↓packA2, ↓reduceIte, packB0, packB1, packB2, packB3, packB4, pureOp, quietOp, loadOp, quietB, fr0, cellsK, Option.getD_some, Option.getD_none, implies_true, ite_true, ite_false, eq_self, ne_eq, reduceCtorEq, Nat.reduceLT, Nat.reduceLeDiff, Nat.reduceAdd, Nat.reduceMul, Nat.reduceBEq, Nat.reduceEqDiff, Int.reduceToNat, Int.reduceLT, Int.reduceLE, Nat.reduceSub, pl98, tsize_3, tbytes_3, tagg_3, zcells_3, telem_3, tint_3, tnotIface_3, tsize_4, tbytes_4, tagg_4, zcells_4, telem_4, tbool_4, tnotIface_4, tsize_23, tbytes_23, tagg_23, zcells_23, telem_23, tnotIface_23, tsize_45, tbytes_45, tagg_45, zcells_45, telem_45, tnotIface_45, foff_45_0, foff_45_1, foff_45_2, foff_45_3, fplaces_45, pl97, tsize_2, tbytes_2, tagg_2, zcells_2, telem_2, tint_2, tnotIface_2, pl74, tfun_1, telem_1, tfun_157, telem_157, patO, ints, a1, a2, a4, a5, a7, a8]
        refine ⟨by omega, .inl ⟨(rowOf st cs r).length - (j + 1), by omega, j + 1, _, rfl, by omega, ?_, by omega, rfl⟩⟩
        rw [decide_eq_true_iff]
        constructor
        · intro hc
          refine ⟨(hbj.1 rfl).1, fun i hi => ?_⟩
          rcases Nat.lt_or_ge i j with h4 | h4
          · exact (hbj.1 rfl).2 i h4
          · rw [show i = j by omega]; exact hc
        · intro hc; exact hc.2 j (by omega)
    · have hjl : j = (rowOf st cs r).length := by omega
      subst hjl
      refine ⟨by omega, .inl ⟨rows.toNat - (r + 1), by omega, r + 1, b, rfl, by omega, ?_, by omega, rfl⟩⟩
      rw [hbj]
      constructor
      · rintro ⟨h4, h5⟩ i hi
        rcases Nat.lt_or_ge i r with h6 | h6
        · exact h4 i h6
        · rw [show i = r by omega]; exact h5
      · intro h4; exact ⟨fun i hi => h4 i (by omega), h4 r (by omega)⟩
  · have hrr : r = rows.toNat := by omega
    subst hrr
    have : decide (symP rows rows st cs) = b := by
      cases b
      · refine decide_eq_false fun hc => ?_
        have := hbr.2 hc.2.2
        cases this
      · exact decide_eq_true ⟨h0, rfl, hbr.1 rfl⟩
    rw [this]
    exact .pure _ rfl
end Go.Proofs.Ytgdlkhgfehclpaa
end

section
/- What a graph is, both. No condition. -/
namespace Go.Proofs.Ytgdlkhgfehclpaa
open Go Go.AL
set_option linter.unusedVariables false
set_option linter.unusedSimpArgs false
def graphP (rows width : Int) (st cs : List Int) : Prop := symP rows width st cs ∧ ∀ v, v < rows.toNat → ¬ (v : Int) ∈ rowOf st cs v
instance (rows width : Int) (st cs : List Int) : Decidable (graphP rows width st cs) := by unfold graphP; infer_instance
set_option maxRecDepth 100000 in
theorem graph_c (rows width : Int) (st cs : List Int) (hb : st.length < 1000000000) (hb2 : cs.length < 1000000000) : APure Try.prog 49 [pat rows width st cs] (.bool (decide (graphP rows width st cs))) := by
  have no : ∀ {h : Heap}, ¬ graphP rows width st cs → Frz h (.bool false) (.bool (decide (graphP rows width st cs))) := fun hc => by rw [decide_eq_false hc]; exact .pure _ rfl
  refine apure_of (wp49 rfl rfl ?_)
  simp (maxSteps := 4000000) +contextual only [↓packA0, ↓packA1, ↓packA2, ↓reduceIte, packB0, packB1, packB2, packB3, packB4, pureOp, quietOp, loadOp, quietB, fr0, cellsK, Option.getD_some, Option.getD_none, implies_true, ite_true, ite_false, eq_self, ne_eq, reduceCtorEq, Nat.reduceLT, Nat.reduceLeDiff, Nat.reduceAdd, Nat.reduceMul, Nat.reduceBEq, Nat.reduceEqDiff, Int.reduceToNat, Int.reduceLT, Int.reduceLE, Nat.reduceSub, pl49, tsize_3, tbytes_3, tagg_3, zcells_3, telem_3, tint_3, tnotIface_3, tsize_4, tbytes_4, tagg_4, zcells_4, telem_4, tbool_4, tnotIface_4, tsize_23, tbytes_23, tagg_23, zcells_23, telem_23, tnotIface_23, tsize_45, tbytes_45, tagg_45, zcells_45, telem_45, tnotIface_45, foff_45_0, foff_45_1, foff_45_2, foff_45_3, fplaces_45, ints]
  refine acalls_pure (may_c rows width st cs hb hb2) rfl ?_
  simp (maxSteps := 4000000) +contextual only [↓packA0, ↓packA1, ↓packA2, ↓reduceIte, packB0, packB1, packB2, packB3, packB4, pureOp, quietOp, loadOp, quietB, fr0, cellsK, Option.getD_some, Option.getD_none, implies_true, ite_true, ite_false, eq_self, ne_eq, reduceCtorEq, Nat.reduceLT, Nat.reduceLeDiff, Nat.reduceAdd, Nat.reduceMul, Nat.reduceBEq, Nat.reduceEqDiff, Int.reduceToNat, Int.reduceLT, Int.reduceLE, Nat.reduceSub, pl49, tsize_3, tbytes_3, tagg_3, zcells_3, telem_3, tint_3, tnotIface_3, tsize_4, tbytes_4, tagg_4, zcells_4, telem_4, tbool_4, tnotIface_4, tsize_23, tbytes_23, tagg_23, zcells_23, telem_23, tnotIface_23, tsize_45, tbytes_45, tagg_45, zcells_45, telem_45, tnotIface_45, foff_45_0, foff_45_1, foff_45_2, foff_45_3, fplaces_45, ints]
  refine ⟨fun h0 => ?_, fun h0 => no fun hc => h0 hc.1.1⟩
  refine acalls_pure (sym_c rows width st cs hb hb2) rfl ?_
  simp (maxSteps := 4000000) +contextual only [↓packA0, ↓packA1, ↓packA2, ↓reduceIte, packB0, packB1, packB2, packB3, packB4, pureOp, quietOp, loadOp, quietB, fr0, cellsK, Option.getD_some, Option.getD_none, implies_true, ite_true, ite_false, eq_self, ne_eq, reduceCtorEq, Nat.reduceLT, Nat.reduceLeDiff, Nat.reduceAdd, Nat.reduceMul, Nat.reduceBEq, Nat.reduceEqDiff, Int.reduceToNat, Int.reduceLT, Int.reduceLE, Nat.reduceSub, pl49, tsize_3, tbytes_3, tagg_3, zcells_3, telem_3, tint_3, tnotIface_3, tsize_4, tbytes_4, tagg_4, zcells_4, telem_4, tbool_4, tnotIface_4, tsize_23, tbytes_23, tagg_23, zcells_23, telem_23, tnotIface_23, tsize_45, tbytes_45, tagg_45, zcells_45, telem_45, tnotIface_45, foff_45_0, foff_45_1, foff_45_2, foff_45_3, fplaces_45, ints, h0]
  refine ⟨fun h1 => ?_, fun h1 => no fun hc => h1 hc.1⟩
  refine LoopK.intro (fun m a h => ∃ (r : Nat), m = rows.toNat - r ∧ r ≤ rows.toNat ∧ (∀ i, i < r → ¬ (i : Int) ∈ rowOf st cs i) ∧ a 1 = .op 0 4 0 0 ∧ a 13 = .int .i64 rows ∧ a 14 = .int .i64 r ∧ h = [patO rows width st cs]) rows.toNat ⟨0, rfl, Nat.zero_le _, fun i hi => absurd hi (Nat.not_lt_zero _), ?_⟩ ?_
  · have := h1.2.1
    simp (maxSteps := 4000000) +contextual only [↓packA0, ↓packA1, ↓packA2, ↓reduceIte, packB0, packB1, packB2, packB3, packB4, pureOp, quietOp, loadOp, quietB, fr0, cellsK, Option.getD_some, Option.getD_none, implies_true, ite_true, ite_false, eq_self, ne_eq, reduceCtorEq, Nat.reduceLT, Nat.reduceLeDiff, Nat.reduceAdd, Nat.reduceMul, Nat.reduceBEq, Nat.reduceEqDiff, Int.reduceToNat, Int.reduceLT, Int.reduceLE, Nat.reduceSub, pl49, tsize_3, tbytes_3, tagg_3, zcells_3, telem_3, tint_3, tnotIface_3, tsize_4, tbytes_4, tagg_4, zcells_4, telem_4, tbool_4, tnotIface_4, tsize_23, tbytes_23, tagg_23, zcells_23, telem_23, tnotIface_23, tsize_45, tbytes_45, tagg_45, zcells_45, telem_45, tnotIface_45, foff_45_0, foff_45_1, foff_45_2, foff_45_3, fplaces_45, patO, ints, Int.natCast_zero]
  rintro m a h ⟨r, rfl, hr, hbr, a1, a13, a14, rfl⟩
  have hro := h0.1
  simp (maxSteps := 4000000) +contextual only [↓packA0, ↓packA1, ↓packA2, ↓reduceIte, packB0, packB1, packB2, packB3, packB4, pureOp, quietOp, loadOp, quietB, fr0, cellsK, Option.getD_some, Option.getD_none, implies_true, ite_true, ite_false, eq_self, ne_eq, reduceCtorEq, Nat.reduceLT, Nat.reduceLeDiff, Nat.reduceAdd, Nat.reduceMul, Nat.reduceBEq, Nat.reduceEqDiff, Int.reduceToNat, Int.reduceLT, Int.reduceLE, Nat.reduceSub, pl49, tsize_3, tbytes_3, tagg_3, zcells_3, telem_3, tint_3, tnotIface_3, tsize_4, tbytes_4, tagg_4, zcells_4, telem_4, tbool_4, tnotIface_4, tsize_23, tbytes_23, tagg_23, zcells_23, telem_23, tnotIface_23, tsize_45, tbytes_45, tagg_45, zcells_45, telem_45, tnotIface_45, foff_45_0, foff_45_1, foff_45_2, foff_45_3, fplaces_45, patO, ints, a1, a13, a14]
  refine ⟨fun h2 => ?_, fun h2 => ?_⟩
  · refine acalls_pure (has_c rows width st cs hb hb2 h0 r (by omega) r) rfl ?_
    simp (maxSteps := 4000000) +contextual only [↓packA0, ↓packA1, ↓packA2, ↓reduceIte, packB0, packB1, packB2, packB3, packB4, pureOp, quietOp, loadOp, quietB, fr0, cellsK, Option.getD_some, Option.getD_none, implies_true, ite_true, ite_false, eq_self, ne_eq, reduceCtorEq, Nat.reduceLT, Nat.reduceLeDiff, Nat.reduceAdd, Nat.reduceMul, Nat.reduceBEq, Nat.reduceEqDiff, Int.reduceToNat, Int.reduceLT, Int.reduceLE, Nat.reduceSub, pl49, tsize_3, tbytes_3, tagg_3, zcells_3, telem_3, tint_3, tnotIface_3, tsize_4, tbytes_4, tagg_4, zcells_4, telem_4, tbool_4, tnotIface_4, tsize_23, tbytes_23, tagg_23, zcells_23, telem_23, tnotIface_23, tsize_45, tbytes_45, tagg_45, zcells_45, telem_45, tnotIface_45, foff_45_0, foff_45_1, foff_45_2, foff_45_3, fplaces_45, patO, ints, a1, a13, a14]
    refine ⟨fun h3 => no fun hc => hc.2 r (by omega) h3, fun h3 => ⟨by omega, .inl ⟨rows.toNat - (r + 1), by omega, r + 1, rfl, by omega, fun i hi => ?_, by omega⟩⟩⟩
    rcases Nat.lt_or_ge i r with h6 | h6
    · exact hbr i h6
    · rw [show i = r by omega]; exact h3
  · rw [decide_eq_true (show graphP rows width st cs from ⟨h1, fun v hv => hbr v (by omega)⟩)]
    exact .pure _ rfl
set_option maxRecDepth 100000 in
theorem rhas_c (rows width : Int) (st cs : List Int) (hb : st.length < 1000000000) (hb2 : cs.length < 1000000000) (h : mayP rows width st cs) (r : Int) (h0 : 0 ≤ r) (h1 : r < rows) (c : Int) : APure Try.prog 57 [pat rows width st cs, .int .i64 r, .int .i64 c] (.bool (decide (c ∈ rowOf st cs r.toNat))) := by
  obtain ⟨q1, q2, q3, q4, q5, q6, q7⟩ := may_row h (show r.toNat < rows.toNat by omega)
  have hr1 : (r + 1).toNat = r.toNat + 1 := by omega
  refine apure_of (wp57 rfl rfl ?_)
  simp (maxSteps := 4000000) +contextual only [↓packA0, ↓packA1, ↓packA2, ↓reduceIte, packB0, packB1, packB2, packB3, packB4, pureOp, quietOp, loadOp, quietB, fr0, cellsK, Option.getD_some, Option.getD_none, implies_true, ite_true, ite_false, eq_self, ne_eq, reduceCtorEq, Nat.reduceLT, Nat.reduceLeDiff, Nat.reduceAdd, Nat.reduceMul, Nat.reduceBEq, Nat.reduceEqDiff, Int.reduceToNat, Int.reduceLT, Int.reduceLE, Nat.reduceSub, pl57, tsize_2, tbytes_2, tagg_2, zcells_2, telem_2, tint_2, tnotIface_2, tsize_3, tbytes_3, tagg_3, zcells_3, telem_3, tint_3, tnotIface_3, tsize_23, tbytes_23, tagg_23, zcells_23, telem_23, tnotIface_23, tsize_45, tbytes_45, tagg_45, zcells_45, telem_45, tnotIface_45, foff_45_0, foff_45_1, foff_45_2, foff_45_3, fplaces_45, ints]
  refine ⟨by omega, by omega, LoopK.intro (fun m a hh => ∃ (j : Nat), m = (rowOf st cs r.toNat).length - j ∧ j ≤ (rowOf st cs r.toNat).length ∧ (∀ i, i < j → (rowOf st cs r.toNat).getD i default ≠ c) ∧ a 1 = .int .i64 r ∧ a 2 = .int .i64 c ∧ a 3 = .op 0 4 0 0 ∧ a 7 = .int .i64 (((st.getD r.toNat default).toNat + j : Nat) : Int) ∧ hh = [patO rows width st cs]) (rowOf st cs r.toNat).length ⟨0, rfl, Nat.zero_le _, fun i hi => absurd hi (Nat.not_lt_zero _), ?_⟩ ?_⟩
  · simp (maxSteps := 4000000) +contextual only [↓packA0, ↓packA1, ↓packA2, ↓reduceIte, packB0, packB1, packB2, packB3, packB4, pureOp, quietOp, loadOp, quietB, fr0, cellsK, Option.getD_some, Option.getD_none, implies_true, ite_true, ite_false, eq_self, ne_eq, reduceCtorEq, Nat.reduceLT, Nat.reduceLeDiff, Nat.reduceAdd, Nat.reduceMul, Nat.reduceBEq, Nat.reduceEqDiff, Int.reduceToNat, Int.reduceLT, Int.reduceLE, Nat.reduceSub, pl57, tsize_2, tbytes_2, tagg_2, zcells_2, telem_2, tint_2, tnotIface_2, tsize_3, tbytes_3, tagg_3, zcells_3, telem_3, tint_3, tnotIface_3, tsize_23, tbytes_23, tagg_23, zcells_23, telem_23, tnotIface_23, tsize_45, tbytes_45, tagg_45, zcells_45, telem_45, tnotIface_45, foff_45_0, foff_45_1, foff_45_2, foff_45_3, fplaces_45, patO, ints, Int.natCast_zero]
    omega
  rintro m a hh ⟨j, rfl, hj, hok, a1, a2, a3, a7, rfl⟩
  simp (maxSteps := 4000000) +contextual only [↓packA0, ↓packA1, ↓packA2, ↓reduceIte, packB0, packB1, packB2, packB3, packB4, pureOp, quietOp, loadOp, quietB, fr0, cellsK, Option.getD_some, Option.getD_none, implies_true, ite_true, ite_false, eq_self, ne_eq, reduceCtorEq, Nat.reduceLT, Nat.reduceLeDiff, Nat.reduceAdd, Nat.reduceMul, Nat.reduceBEq, Nat.reduceEqDiff, Int.reduceToNat, Int.reduceLT, Int.reduceLE, Nat.reduceSub, pl57, tsize_2, tbytes_2, tagg_2, zcells_2, telem_2, tint_2, tnotIface_2, tsize_3, tbytes_3, tagg_3, zcells_3, telem_3, tint_3, tnotIface_3, tsize_23, tbytes_23, tagg_23, zcells_23, telem_23, tnotIface_23, tsize_45, tbytes_45, tagg_45, zcells_45, telem_45, tnotIface_45, foff_45_0, foff_45_1, foff_45_2, foff_45_3, fplaces_45, patO, ints, a1, a2, a3, a7, hr1]
  refine ⟨by omega, by omega, by omega, fun h2 => ⟨by omega, by omega, fun h3 => ?_, fun h3 => ⟨by omega, .inl ⟨(rowOf st cs r.toNat).length - (j + 1), by omega, j + 1, rfl, by omega, fun i hi => ?_, by omega⟩⟩⟩, fun h2 => ?_⟩
  · have hj2 : j < (rowOf st cs r.toNat).length := by omega
    rw [decide_eq_true (mem_getD.2 ⟨j, hj2, by rw [row_getD h (by omega) hj2]; exact h3⟩)]
    exact .pure _ rfl
  · rcases Nat.lt_or_ge i j with h6 | h6
    · exact hok i h6
    · rw [show i = j by omega, row_getD h (by omega) (by omega)]; exact h3
  · rw [decide_eq_false (fun hc => by
      obtain ⟨i, hi, e⟩ := mem_getD.1 hc
      exact hok i (by omega) e)]
    exact .pure _ rfl
end Go.Proofs.Ytgdlkhgfehclpaa
end

section
/- What a pattern and a graph are, the document's. No condition. -/
namespace Go.Proofs.Ytgdlkhgfehclpaa
open Go Go.AL
set_option linter.unusedVariables false
set_option linter.unusedSimpArgs false
theorem row_get' {st cs : List Int} {r j : Nat} (hj : j < (st.getD (r + 1) default).toNat - (st.getD r default).toNat) : (rowOf st cs r).getD j default = cs.getD ((st.getD r default).toNat + j) default := by
  simp only [List.getD_eq_getElem?_getD] at hj
  simp only [rowOf, List.getD_eq_getElem?_getD, List.getElem?_take, List.getElem?_drop]
  rw [if_pos hj]
set_option maxHeartbeats 4000000 in
set_option maxRecDepth 100000 in
theorem rmay_c (rows width : Int) (st cs : List Int) (hb : st.length < 1000000000) (hb2 : cs.length < 1000000000) : APure Try.prog 81 [pat rows width st cs] (.bool (decide (mayP rows width st cs))) := by
  have no : ∀ {h : Heap}, ¬ mayP rows width st cs → Frz h (.bool false) (.bool (decide (mayP rows width st cs))) := fun hc => by rw [decide_eq_false hc]; exact .pure _ rfl
  refine apure_of (wp81 rfl rfl ?_)
  simp (maxSteps := 4000000) +contextual only [↓packA0, ↓packA1, ↓packA2, ↓reduceIte, packB0, packB1, packB2, packB3, packB4, pureOp, quietOp, loadOp, quietB, fr0, cellsK, Option.getD_some, Option.getD_none, implies_true, ite_true, ite_false, eq_self, ne_eq, reduceCtorEq, Nat.reduceLT, Nat.reduceLeDiff, Nat.reduceAdd, Nat.reduceMul, Nat.reduceBEq, Nat.reduceEqDiff, Int.reduceToNat, Int.reduceLT, Int.reduceLE, Nat.reduceSub, pl81, tfun_1, telem_1, tsize_2, tbytes_2, tagg_2, zcells_2, telem_2, tint_2, tnotIface_2, tsize_3, tbytes_3, tagg_3, zcells_3, telem_3, tint_3, tnotIface_3, tsize_23, tbytes_23, tagg_23, zcells_23, telem_23, tnotIface_23, tsize_45, tbytes_45, tagg_45, zcells_45, telem_45, tnotIface_45, foff_45_0, foff_45_1, foff_45_2, foff_45_3, fplaces_45, ints]
  refine ⟨fun g0 => no fun hc => by have := hc.1; omega, fun g0 => ⟨fun g1 => no fun hc => by have := hc.1; omega, fun g1 => ⟨fun g2 => no fun hc => by have := hc.2.1; omega, fun g2 => ⟨fun g3 => no fun hc => by have := hc.2.1; omega, fun g3 => ⟨by omega, fun h2 => no fun hc => h2 hc.2.2.1, fun h2 => ⟨by omega, fun h3 => no fun hc => h3 hc.2.2.2.1, fun h3 => ⟨by omega, by omega, fun h4 => no fun hc => h4 hc.2.2.2.2.1, fun h4 => ?_⟩⟩⟩⟩⟩⟩⟩
  refine LoopK.intro (fun m a h => ∃ r : Nat, m = rows.toNat - r ∧ r ≤ rows.toNat ∧ 0 ≤ st.getD r default ∧ (∀ i, i < r → st.getD i default ≤ st.getD (i + 1) default ∧ rowOK width (rowOf st cs i)) ∧ a 1 = .op 0 4 0 0 ∧ a 3 = .int .i64 r ∧ h = [patO rows width st cs]) rows.toNat ⟨0, rfl, Nat.zero_le _, by omega, fun i h => absurd h (Nat.not_lt_zero _), ?_⟩ ?_
  · simp (maxSteps := 4000000) +contextual only [↓packA0, ↓packA1, ↓packA2, ↓reduceIte, packB0, packB1, packB2, packB3, packB4, pureOp, quietOp, loadOp, quietB, fr0, cellsK, Option.getD_some, Option.getD_none, implies_true, ite_true, ite_false, eq_self, ne_eq, reduceCtorEq, Nat.reduceLT, Nat.reduceLeDiff, Nat.reduceAdd, Nat.reduceMul, Nat.reduceBEq, Nat.reduceEqDiff, Int.reduceToNat, Int.reduceLT, Int.reduceLE, Nat.reduceSub, pl81, tfun_1, telem_1, tsize_2, tbytes_2, tagg_2, zcells_2, telem_2, tint_2, tnotIface_2, tsize_3, tbytes_3, tagg_3, zcells_3, telem_3, tint_3, tnotIface_3, tsize_23, tbytes_23, tagg_23, zcells_23, telem_23, tnotIface_23, tsize_45, tbytes_45, tagg_45, zcells_45, telem_45, tnotIface_45, foff_45_0, foff_45_1, foff_45_2, foff_45_3, fplaces_45, patO, ints, Int.natCast_zero]
  rintro m a h ⟨r, rfl, hr, hst, hok, a1, a3, rfl⟩
  have hr1 : ((r : Int) + 1).toNat = r + 1 := by omega
  simp (maxSteps := 4000000) +contextual only [↓packA0, ↓packA1, ↓packA2, ↓reduceIte, packB0, packB1, packB2, packB3, packB4, pureOp, quietOp, loadOp, quietB, fr0, cellsK, Option.getD_some, Option.getD_none, implies_true, ite_true, ite_false, eq_self, ne_eq, reduceCtorEq, Nat.reduceLT, Nat.reduceLeDiff, Nat.reduceAdd, Nat.reduceMul, Nat.reduceBEq, Nat.reduceEqDiff, Int.reduceToNat, Int.reduceLT, Int.reduceLE, Nat.reduceSub, pl81, tfun_1, telem_1, tsize_2, tbytes_2, tagg_2, zcells_2, telem_2, tint_2, tnotIface_2, tsize_3, tbytes_3, tagg_3, zcells_3, telem_3, tint_3, tnotIface_3, tsize_23, tbytes_23, tagg_23, zcells_23, telem_23, tnotIface_23, tsize_45, tbytes_45, tagg_45, zcells_45, telem_45, tnotIface_45, foff_45_0, foff_45_1, foff_45_2, foff_45_3, fplaces_45, patO, ints, a1, a3, hr1]
  refine ⟨fun h6 => ⟨by omega, by omega, by omega, by omega, by omega, fun h7 => no fun hc => ?_, fun h7 => ⟨by omega, by omega, by omega, fun h8 => no fun hc => ?_, fun h8 => ⟨by omega, by omega, ?_⟩⟩⟩, fun h6 => ?_⟩
  · have := hc.2.2.2.2.2.1 r (by omega)
    omega
  · have := (may_row hc (show r < rows.toNat by omega)).2.2.1
    omega
  · have hrl := rowOf_length (cs := cs) hst (by omega) (by omega)
    have hg : ∀ j, j < (rowOf st cs r).length → cs.getD ((st.getD r default).toNat + j) default = (rowOf st cs r).getD j default := fun j hj => (row_get' (by omega)).symm
    refine LoopK.intro (fun m a h => ∃ j : Nat, m = (rowOf st cs r).length - j ∧ j ≤ (rowOf st cs r).length ∧ (∀ i, i < j → prv (rowOf st cs r) i < (rowOf st cs r).getD i default ∧ (rowOf st cs r).getD i default < width) ∧ a 1 = .op 0 4 0 0 ∧ a 3 = .int .i64 r ∧ a 4 = .int .i64 (((st.getD r default).toNat + j : Nat) : Int) ∧ h = [patO rows width st cs]) (rowOf st cs r).length ⟨0, rfl, Nat.zero_le _, fun i h => absurd h (Nat.not_lt_zero _), ?_⟩ ?_
    · simp (maxSteps := 4000000) +contextual only [↓packA0, ↓packA1, ↓packA2, ↓reduceIte, packB0, packB1, packB2, packB3, packB4, pureOp, quietOp, loadOp, quietB, fr0, cellsK, Option.getD_some, Option.getD_none, implies_true, ite_true, ite_false, eq_self, ne_eq, reduceCtorEq, Nat.reduceLT, Nat.reduceLeDiff, Nat.reduceAdd, Nat.reduceMul, Nat.reduceBEq, Nat.reduceEqDiff, Int.reduceToNat, Int.reduceLT, Int.reduceLE, Nat.reduceSub, pl81, tfun_1, telem_1, tsize_2, tbytes_2, tagg_2, zcells_2, telem_2, tint_2, tnotIface_2, tsize_3, tbytes_3, tagg_3, zcells_3, telem_3, tint_3, tnotIface_3, tsize_23, tbytes_23, tagg_23, zcells_23, telem_23, tnotIface_23, tsize_45, tbytes_45, tagg_45, zcells_45, telem_45, tnotIface_45, foff_45_0, foff_45_1, foff_45_2, foff_45_3, fplaces_45, patO, ints, Int.natCast_zero, a1, a3]
      omega
    rintro m a h ⟨j, rfl, hj, hjok, a1, a3, a4, rfl⟩
    simp (maxSteps := 4000000) +contextual only [↓packA0, ↓packA1, ↓packA2, ↓reduceIte, packB0, packB1, packB2, packB3, packB4, pureOp, quietOp, loadOp, quietB, fr0, cellsK, Option.getD_some, Option.getD_none, implies_true, ite_true, ite_false, eq_self, ne_eq, reduceCtorEq, Nat.reduceLT, Nat.reduceLeDiff, Nat.reduceAdd, Nat.reduceMul, Nat.reduceBEq, Nat.reduceEqDiff, Int.reduceToNat, Int.reduceLT, Int.reduceLE, Nat.reduceSub, pl81, tfun_1, telem_1, tsize_2, tbytes_2, tagg_2, zcells_2, telem_2, tint_2, tnotIface_2, tsize_3, tbytes_3, tagg_3, zcells_3, telem_3, tint_3, tnotIface_3, tsize_23, tbytes_23, tagg_23, zcells_23, telem_23, tnotIface_23, tsize_45, tbytes_45, tagg_45, zcells_45, telem_45, tnotIface_45, foff_45_0, foff_45_1, foff_45_2, foff_45_3, fplaces_45, patO, ints, a1, a3, a4, hr1]
    have fin : prv (rowOf st cs r) j < (rowOf st cs r).getD j default → (rowOf st cs r).getD j default < width → ∀ i, i < j + 1 → prv (rowOf st cs r) i < (rowOf st cs r).getD i default ∧ (rowOf st cs r).getD i default < width := fun h9 h10 i hi => by
      rcases Nat.lt_or_ge i j with h11 | h11
      · exact hjok i h11
      · rw [show i = j by omega]; exact ⟨h9, h10⟩
    refine ⟨by omega, by omega, by omega, fun h9 => ?_, fun h9 => ?_⟩
    · have hj2 : j < (rowOf st cs r).length := by omega
      rw [hg j hj2]
      refine ⟨by omega, by omega, fun h10 => no fun hc => ?_, fun h10 => ⟨by omega, by omega, fun h11 => no fun hc => ?_, fun h11 => ⟨by omega, by omega, fun h12 => ?_, fun h12 => ?_⟩⟩⟩
      · have := row_nonneg (may_row hc (show r < rows.toNat by omega)).2.2.2.1 hj2
        omega
      · have := ((may_row hc (show r < rows.toNat by omega)).2.2.2.1 j hj2).2
        omega
      · have hp : cs.getD ((((st.getD r default).toNat + j : Nat) : Int) - 1).toNat default = prv (rowOf st cs r) j := by
          rw [show ((((st.getD r default).toNat + j : Nat) : Int) - 1).toNat = (st.getD r default).toNat + (j - 1) by omega, hg (j - 1) (by omega)]
          simp only [prv]
          rw [if_neg (by omega)]
        rw [hp]
        refine ⟨by omega, by omega, by omega, by omega, by omega, fun h13 => no fun hc => ?_, fun h13 => ⟨by omega, .inl ⟨(rowOf st cs r).length - (j + 1), by omega, j + 1, rfl, by omega, fin (by omega) (by omega), by omega⟩⟩⟩
        have := ((may_row hc (show r < rows.toNat by omega)).2.2.2.1 j hj2).1
        omega
      · obtain rfl : j = 0 := by omega
        refine ⟨by omega, .inl ⟨(rowOf st cs r).length - 1, by omega, 1, rfl, by omega, fin ?_ (by omega), by omega⟩⟩
        simp only [prv, if_pos]
        omega
    · have hjl : j = (rowOf st cs r).length := by omega
      subst hjl
      refine ⟨by omega, .inl ⟨rows.toNat - (r + 1), by omega, r + 1, rfl, by omega, by omega, fun i hi => ?_, by omega⟩⟩
      rcases Nat.lt_or_ge i r with h11 | h11
      · exact hok i h11
      · rw [show i = r by omega]; exact ⟨by omega, hjok⟩
  · have hs : srt st := fun i hi => (hok i (by omega)).1
    rw [decide_eq_true (show mayP rows width st cs from ⟨by omega, by omega, h2, h3, h4, hs, fun i hi => (hok i (by omega)).2⟩)]
    exact .pure _ rfl
end Go.Proofs.Ytgdlkhgfehclpaa
end

section
/- What a graph is, the document's. No condition. -/
namespace Go.Proofs.Ytgdlkhgfehclpaa
open Go Go.AL
set_option linter.unusedVariables false
set_option linter.unusedSimpArgs false
set_option maxHeartbeats 4000000 in
set_option maxRecDepth 100000 in
theorem rgraph_c (rows width : Int) (st cs : List Int) (hb : st.length < 1000000000) (hb2 : cs.length < 1000000000) : APure Try.prog 51 [pat rows width st cs] (.bool (decide (graphP rows width st cs))) := by
  have no : ∀ {h : Heap}, ¬ graphP rows width st cs → Frz h (.bool false) (.bool (decide (graphP rows width st cs))) := fun hc => by rw [decide_eq_false hc]; exact .pure _ rfl
  refine apure_of (wp51 rfl rfl ?_)
  simp (maxSteps := 4000000) +contextual only [↓packA0, ↓packA1, ↓packA2, ↓reduceIte, packB0, packB1, packB2, packB3, packB4, pureOp, quietOp, loadOp, quietB, fr0, cellsK, Option.getD_some, Option.getD_none, implies_true, ite_true, ite_false, eq_self, ne_eq, reduceCtorEq, Nat.reduceLT, Nat.reduceLeDiff, Nat.reduceAdd, Nat.reduceMul, Nat.reduceBEq, Nat.reduceEqDiff, Int.reduceToNat, Int.reduceLT, Int.reduceLE, Nat.reduceSub, pl51, tfun_1, telem_1, tsize_2, tbytes_2, tagg_2, zcells_2, telem_2, tint_2, tnotIface_2, tsize_3, tbytes_3, tagg_3, zcells_3, telem_3, tint_3, tnotIface_3, tsize_4, tbytes_4, tagg_4, zcells_4, telem_4, tbool_4, tnotIface_4, tsize_23, tbytes_23, tagg_23, zcells_23, telem_23, tnotIface_23, tsize_45, tbytes_45, tagg_45, zcells_45, telem_45, tnotIface_45, foff_45_0, foff_45_1, foff_45_2, foff_45_3, fplaces_45, ints]
  refine acalls_pure (rmay_c rows width st cs hb hb2) rfl ?_
  simp (maxSteps := 4000000) +contextual only [↓packA0, ↓packA1, ↓packA2, ↓reduceIte, packB0, packB1, packB2, packB3, packB4, pureOp, quietOp, loadOp, quietB, fr0, cellsK, Option.getD_some, Option.getD_none, implies_true, ite_true, ite_false, eq_self, ne_eq, reduceCtorEq, Nat.reduceLT, Nat.reduceLeDiff, Nat.reduceAdd, Nat.reduceMul, Nat.reduceBEq, Nat.reduceEqDiff, Int.reduceToNat, Int.reduceLT, Int.reduceLE, Nat.reduceSub, pl51, tfun_1, telem_1, tsize_2, tbytes_2, tagg_2, zcells_2, telem_2, tint_2, tnotIface_2, tsize_3, tbytes_3, tagg_3, zcells_3, telem_3, tint_3, tnotIface_3, tsize_4, tbytes_4, tagg_4, zcells_4, telem_4, tbool_4, tnotIface_4, tsize_23, tbytes_23, tagg_23, zcells_23, telem_23, tnotIface_23, tsize_45, tbytes_45, tagg_45, zcells_45, telem_45, tnotIface_45, foff_45_0, foff_45_1, foff_45_2, foff_45_3, fplaces_45, ints]
  refine ⟨fun h0 => ⟨fun h1 => no fun hc => h1 hc.1.2.1, fun h1 => ?_⟩, fun h0 => no fun hc => h0 hc.1.1⟩
  subst h1
  refine LoopK.intro (fun m a h => ∃ r : Nat, m = rows.toNat - r ∧ r ≤ rows.toNat ∧ (∀ i, i < r → symRow st cs i ∧ ¬ (i : Int) ∈ rowOf st cs i) ∧ a 1 = .op 0 4 0 0 ∧ a 3 = .int .i64 r ∧ h = [patO rows rows st cs]) rows.toNat ⟨0, rfl, Nat.zero_le _, fun i h => absurd h (Nat.not_lt_zero _), ?_⟩ ?_
  · simp (maxSteps := 4000000) +contextual only [↓packA0, ↓packA1, ↓packA2, ↓reduceIte, packB0, packB1, packB2, packB3, packB4, pureOp, quietOp, loadOp, quietB, fr0, cellsK, Option.getD_some, Option.getD_none, implies_true, ite_true, ite_false, eq_self, ne_eq, reduceCtorEq, Nat.reduceLT, Nat.reduceLeDiff, Nat.reduceAdd, Nat.reduceMul, Nat.reduceBEq, Nat.reduceEqDiff, Int.reduceToNat, Int.reduceLT, Int.reduceLE, Nat.reduceSub, pl51, tfun_1, telem_1, tsize_2, tbytes_2, tagg_2, zcells_2, telem_2, tint_2, tnotIface_2, tsize_3, tbytes_3, tagg_3, zcells_3, telem_3, tint_3, tnotIface_3, tsize_4, tbytes_4, tagg_4, zcells_4, telem_4, tbool_4, tnotIface_4, tsize_23, tbytes_23, tagg_23, zcells_23, telem_23, tnotIface_23, tsize_45, tbytes_45, tagg_45, zcells_45, telem_45, tnotIface_45, foff_45_0, foff_45_1, foff_45_2, foff_45_3, fplaces_45, patO, ints, Int.natCast_zero]
  rintro m a h ⟨r, rfl, hr, hok, a1, a3, rfl⟩
  have hr1 : ((r : Int) + 1).toNat = r + 1 := by omega
  simp (maxSteps := 4000000) +contextual only [↓packA0, ↓packA1, ↓packA2, ↓reduceIte, packB0, packB1, packB2, packB3, packB4, pureOp, quietOp, loadOp, quietB, fr0, cellsK, Option.getD_some, Option.getD_none, implies_true, ite_true, ite_false, eq_self, ne_eq, reduceCtorEq, Nat.reduceLT, Nat.reduceLeDiff, Nat.reduceAdd, Nat.reduceMul, Nat.reduceBEq, Nat.reduceEqDiff, Int.reduceToNat, Int.reduceLT, Int.reduceLE, Nat.reduceSub, pl51, tfun_1, telem_1, tsize_2, tbytes_2, tagg_2, zcells_2, telem_2, tint_2, tnotIface_2, tsize_3, tbytes_3, tagg_3, zcells_3, telem_3, tint_3, tnotIface_3, tsize_4, tbytes_4, tagg_4, zcells_4, telem_4, tbool_4, tnotIface_4, tsize_23, tbytes_23, tagg_23, zcells_23, telem_23, tnotIface_23, tsize_45, tbytes_45, tagg_45, zcells_45, telem_45, tnotIface_45, foff_45_0, foff_45_1, foff_45_2, foff_45_3, fplaces_45, patO, ints, a1, a3, hr1]
  refine ⟨fun h6 => ?_, fun h6 => ?_⟩
  · obtain ⟨q1, q2, q3, q4, q5, q6, q7⟩ := may_row h0 (show r < rows.toNat by omega)
    have hg : ∀ j, j < (rowOf st cs r).length → cs.getD ((st.getD r default).toNat + j) default = (rowOf st cs r).getD j default := fun j hj => (row_get' (by omega)).symm
    refine ⟨by omega, by omega, ?_⟩
    refine LoopK.intro (fun m a h => ∃ j : Nat, m = (rowOf st cs r).length - j ∧ j ≤ (rowOf st cs r).length ∧ (∀ i, i < j → (rowOf st cs r).getD i default ≠ r ∧ (r : Int) ∈ rowOf st cs ((rowOf st cs r).getD i default).toNat) ∧ a 1 = .op 0 4 0 0 ∧ a 3 = .int .i64 r ∧ a 4 = .int .i64 (((st.getD r default).toNat + j : Nat) : Int) ∧ h = [patO rows rows st cs]) (rowOf st cs r).length ⟨0, rfl, Nat.zero_le _, fun i h => absurd h (Nat.not_lt_zero _), ?_⟩ ?_
    · simp (maxSteps := 4000000) +contextual only [↓packA0, ↓packA1, ↓packA2, ↓reduceIte, packB0, packB1, packB2, packB3, packB4, pureOp, quietOp, loadOp, quietB, fr0, cellsK, Option.getD_some, Option.getD_none, implies_true, ite_true, ite_false, eq_self, ne_eq, reduceCtorEq, Nat.reduceLT, Nat.reduceLeDiff, Nat.reduceAdd, Nat.reduceMul, Nat.reduceBEq, Nat.reduceEqDiff, Int.reduceToNat, Int.reduceLT, Int.reduceLE, Nat.reduceSub, pl51, tfun_1, telem_1, tsize_2, tbytes_2, tagg_2, zcells_2, telem_2, tint_2, tnotIface_2, tsize_3, tbytes_3, tagg_3, zcells_3, telem_3, tint_3, tnotIface_3, tsize_4, tbytes_4, tagg_4, zcells_4, telem_4, tbool_4, tnotIface_4, tsize_23, tbytes_23, tagg_23, zcells_23, telem_23, tnotIface_23, tsize_45, tbytes_45, tagg_45, zcells_45, telem_45, tnotIface_45, foff_45_0, foff_45_1, foff_45_2, foff_45_3, fplaces_45, patO, ints, Int.natCast_zero, a1, a3]
      omega
    rintro m a h ⟨j, rfl, hj, hjok, a1, a3, a4, rfl⟩
    simp (maxSteps := 4000000) +contextual only [↓packA0, ↓packA1, ↓packA2, ↓reduceIte, packB0, packB1, packB2, packB3, packB4, pureOp, quietOp, loadOp, quietB, fr0, cellsK, Option.getD_some, Option.getD_none, implies_true, ite_true, ite_false, eq_self, ne_eq, reduceCtorEq, Nat.reduceLT, Nat.reduceLeDiff, Nat.reduceAdd, Nat.reduceMul, Nat.reduceBEq, Nat.reduceEqDiff, Int.reduceToNat, Int.reduceLT, Int.reduceLE, Nat.reduceSub, pl51, tfun_1, telem_1, tsize_2, tbytes_2, tagg_2, zcells_2, telem_2, tint_2, tnotIface_2, tsize_3, tbytes_3, tagg_3, zcells_3, telem_3, tint_3, tnotIface_3, tsize_4, tbytes_4, tagg_4, zcells_4, telem_4, tbool_4, tnotIface_4, tsize_23, tbytes_23, tagg_23, zcells_23, telem_23, tnotIface_23, tsize_45, tbytes_45, tagg_45, zcells_45, telem_45, tnotIface_45, foff_45_0, foff_45_1, foff_45_2, foff_45_3, fplaces_45, patO, ints, a1, a3, a4, hr1]
    refine ⟨by omega, by omega, by omega, fun h9 => ?_, fun h9 => ?_⟩
    · have hj2 : j < (rowOf st cs r).length := by omega
      rw [hg j hj2]
      refine ⟨by omega, by omega, fun h10 => no fun hc => hc.2 r (by omega) (mem_getD.2 ⟨j, hj2, h10⟩), fun h10 => ⟨by omega, by omega, ?_⟩⟩
      have hn0 := row_nonneg q4 hj2
      have hn1 := (q4 j hj2).2
      refine acalls_pure (rhas_c rows rows st cs hb hb2 h0 _ hn0 hn1 r) rfl ?_
      simp (maxSteps := 4000000) +contextual only [↓packA0, ↓packA1, ↓packA2, ↓reduceIte, packB0, packB1, packB2, packB3, packB4, pureOp, quietOp, loadOp, quietB, fr0, cellsK, Option.getD_some, Option.getD_none, implies_true, ite_true, ite_false, eq_self, ne_eq, reduceCtorEq, Nat.reduceLT, Nat.reduceLeDiff, Nat.reduceAdd, Nat.reduceMul, Nat.reduceBEq, Nat.reduceEqDiff, Int.reduceToNat, Int.reduceLT, Int.reduceLE, Nat.reduceSub, pl51, tfun_1, telem_1, tsize_2, tbytes_2, tagg_2, zcells_2, telem_2, tint_2, tnotIface_2, tsize_3, tbytes_3, tagg_3, zcells_3, telem_3, tint_3, tnotIface_3, tsize_4, tbytes_4, tagg_4, zcells_4, telem_4, tbool_4, tnotIface_4, tsize_23, tbytes_23, tagg_23, zcells_23, telem_23, tnotIface_23, tsize_45, tbytes_45, tagg_45, zcells_45, telem_45, tnotIface_45, foff_45_0, foff_45_1, foff_45_2, foff_45_3, fplaces_45, patO, ints, a1, a3, a4, hr1]
      refine ⟨fun h11 => absurd h11 h10, fun _ => ⟨fun h11 => ⟨by omega, .inl ⟨(rowOf st cs r).length - (j + 1), by omega, j + 1, rfl, by omega, fun i hi => ?_, by omega⟩⟩, fun h11 => no fun hc => h11 (hc.1.2.2 r (by omega) j hj2)⟩⟩
      rcases Nat.lt_or_ge i j with h12 | h12
      · exact hjok i h12
      · rw [show i = j by omega]; exact ⟨h10, h11⟩
    · have hjl : j = (rowOf st cs r).length := by omega
      subst hjl
      refine ⟨by omega, .inl ⟨rows.toNat - (r + 1), by omega, r + 1, rfl, by omega, fun i hi => ?_, by omega⟩⟩
      rcases Nat.lt_or_ge i r with h11 | h11
      · exact hok i h11
      · rw [show i = r by omega]
        refine ⟨fun j hj => (hjok j hj).2, fun hc => ?_⟩
        obtain ⟨i, hi, e⟩ := mem_getD.1 hc
        exact (hjok i hi).1 e
  · rw [decide_eq_true (show graphP rows rows st cs from ⟨⟨h0, rfl, fun i hi => (hok i (by omega)).1⟩, fun i hi => (hok i (by omega)).2⟩)]
    exact .pure _ rfl
end Go.Proofs.Ytgdlkhgfehclpaa
end

section
/- Neighbours, degree, comparison. No condition. -/
namespace Go.Proofs.Ytgdlkhgfehclpaa
open Go Go.AL
set_option linter.unusedVariables false
set_option linter.unusedSimpArgs false
theorem rowO_isl {st cs : List Int} {r : Nat} : AV.isl 1 (((List.map intE cs).drop (st.getD r default).toNat).take ((st.getD (r + 1) default).toNat - (st.getD r default).toNat)) = .isl 1 (List.map intE (rowOf st cs r)) := row_isl
theorem neigh_c (rows width : Int) (st cs : List Int) (hb : st.length < 1000000000) (hb2 : cs.length < 1000000000) (h : mayP rows width st cs) (r : Int) (h0 : 0 ≤ r) (hr : r < rows) :
    APure Try.prog 56 [pat rows width st cs, .int .i64 r] (ints (rowOf st cs r.toNat)) := by
  obtain ⟨q1, q2, q3, q4, q5, q6, q7⟩ := may_row h (show r.toNat < rows.toNat by omega)
  have hr1 : (r + 1).toNat = r.toNat + 1 := by omega
  refine apure_of (wp56 rfl rfl ?_)
  simp (maxSteps := 4000000) +contextual only [↓packA0, ↓packA1, ↓packA2, ↓reduceIte, packB0, packB1, packB2, packB3, packB4, pureOp, quietOp, loadOp, quietB, fr0, cellsK, Option.getD_some, Option.getD_none, implies_true, ite_true, ite_false, eq_self, ne_eq, reduceCtorEq, Nat.reduceLT, Nat.reduceLeDiff, Nat.reduceAdd, Nat.reduceMul, Nat.reduceBEq, Nat.reduceEqDiff, Int.reduceToNat, Int.reduceLT, Int.reduceLE, Nat.reduceSub, pl56, tsize_2, tbytes_2, tagg_2, zcells_2, telem_2, tint_2, tnotIface_2, tsize_3, tbytes_3, tagg_3, zcells_3, telem_3, tint_3, tnotIface_3, tsize_23, tbytes_23, tagg_23, zcells_23, telem_23, tnotIface_23, tsize_45, tbytes_45, tagg_45, zcells_45, telem_45, tnotIface_45, foff_45_0, foff_45_1, foff_45_2, foff_45_3, fplaces_45, ints, hr1, rowO_isl]
  refine ⟨by omega, by omega, by omega, by omega, by omega, by omega, by omega, ⟨by omega, by omega⟩, ?_⟩
  exact .pure _ (by simp [AV.pure, intE])
theorem rneigh_c (rows width : Int) (st cs : List Int) (hb : st.length < 1000000000) (hb2 : cs.length < 1000000000) (h : mayP rows width st cs) (r : Int) (h0 : 0 ≤ r) (hr : r < rows) :
    APure Try.prog 26 [pat rows width st cs, .int .i64 r] (ints (rowOf st cs r.toNat)) := by
  obtain ⟨q1, q2, q3, q4, q5, q6, q7⟩ := may_row h (show r.toNat < rows.toNat by omega)
  have hr1 : (r + 1).toNat = r.toNat + 1 := by omega
  refine apure_of (wp26 rfl rfl ?_)
  simp (maxSteps := 4000000) +contextual only [↓packA0, ↓packA1, ↓packA2, ↓reduceIte, packB0, packB1, packB2, packB3, packB4, pureOp, quietOp, loadOp, quietB, fr0, cellsK, Option.getD_some, Option.getD_none, implies_true, ite_true, ite_false, eq_self, ne_eq, reduceCtorEq, Nat.reduceLT, Nat.reduceLeDiff, Nat.reduceAdd, Nat.reduceMul, Nat.reduceBEq, Nat.reduceEqDiff, Int.reduceToNat, Int.reduceLT, Int.reduceLE, Nat.reduceSub, pl26, tsize_2, tbytes_2, tagg_2, zcells_2, telem_2, tint_2, tnotIface_2, tsize_3, tbytes_3, tagg_3, zcells_3, telem_3, tint_3, tnotIface_3, tsize_23, tbytes_23, tagg_23, zcells_23, telem_23, tnotIface_23, tsize_45, tbytes_45, tagg_45, zcells_45, telem_45, tnotIface_45, foff_45_0, foff_45_1, foff_45_2, foff_45_3, fplaces_45, ints, hr1, rowO_isl]
  refine ⟨by omega, by omega, by omega, by omega, by omega, by omega, by omega, ⟨by omega, by omega⟩, ?_⟩
  exact .pure _ (by simp [AV.pure, intE])
theorem degree_c (rows width : Int) (st cs : List Int) (hb : st.length < 1000000000) (hb2 : cs.length < 1000000000) (h : mayP rows width st cs) (r : Int) (h0 : 0 ≤ r) (hr : r < rows) :
    APure Try.prog 76 [pat rows width st cs, .int .i64 r] (.int .i64 (rowOf st cs r.toNat).length) := by
  refine apure_of (wp76 rfl rfl ?_)
  simp (maxSteps := 4000000) +contextual only [↓packA0, ↓packA1, ↓packA2, ↓reduceIte, packB0, packB1, packB2, packB3, packB4, pureOp, quietOp, loadOp, quietB, fr0, cellsK, Option.getD_some, Option.getD_none, implies_true, ite_true, ite_false, eq_self, ne_eq, reduceCtorEq, Nat.reduceLT, Nat.reduceLeDiff, Nat.reduceAdd, Nat.reduceMul, Nat.reduceBEq, Nat.reduceEqDiff, Int.reduceToNat, Int.reduceLT, Int.reduceLE, Nat.reduceSub, pl76, tsize_3, tbytes_3, tagg_3, zcells_3, telem_3, tint_3, tnotIface_3, tsize_23, tbytes_23, tagg_23, zcells_23, telem_23, tnotIface_23, tsize_45, tbytes_45, tagg_45, zcells_45, telem_45, tnotIface_45, foff_45_0, foff_45_1, foff_45_2, foff_45_3, fplaces_45, ints]
  refine acalls_pure (neigh_c rows width st cs hb hb2 h r h0 hr) rfl ?_
  simp (maxSteps := 4000000) +contextual only [↓packA0, ↓packA1, ↓packA2, ↓reduceIte, packB0, packB1, packB2, packB3, packB4, pureOp, quietOp, loadOp, quietB, fr0, cellsK, Option.getD_some, Option.getD_none, implies_true, ite_true, ite_false, eq_self, ne_eq, reduceCtorEq, Nat.reduceLT, Nat.reduceLeDiff, Nat.reduceAdd, Nat.reduceMul, Nat.reduceBEq, Nat.reduceEqDiff, Int.reduceToNat, Int.reduceLT, Int.reduceLE, Nat.reduceSub, pl76, tsize_3, tbytes_3, tagg_3, zcells_3, telem_3, tint_3, tnotIface_3, tsize_23, tbytes_23, tagg_23, zcells_23, telem_23, tnotIface_23, tsize_45, tbytes_45, tagg_45, zcells_45, telem_45, tnotIface_45, foff_45_0, foff_45_1, foff_45_2, foff_45_3, fplaces_45, ints]
  exact .pure _ rfl
def cmpI (a b : Int) : Int := if a < b then -1 else if b < a then 1 else 0
theorem cmp_c (a b : Int) : APure Try.prog 103 [.int .i64 a, .int .i64 b] (.int .i64 (cmpI a b)) := by
  refine apure_of (wp103 rfl rfl ?_)
  simp (maxSteps := 4000000) +contextual only [↓packA0, ↓packA1, ↓packA2, ↓reduceIte, packB0, packB1, packB2, packB3, packB4, pureOp, quietOp, loadOp, quietB, fr0, cellsK, Option.getD_some, Option.getD_none, implies_true, ite_true, ite_false, eq_self, ne_eq, reduceCtorEq, Nat.reduceLT, Nat.reduceLeDiff, Nat.reduceAdd, Nat.reduceMul, Nat.reduceBEq, Nat.reduceEqDiff, Int.reduceToNat, Int.reduceLT, Int.reduceLE, Nat.reduceSub, pl103, tsize_3, tbytes_3, tagg_3, zcells_3, telem_3, tint_3, tnotIface_3, ints]
  refine acalls_pure (nan_c _) rfl ?_
  simp (maxSteps := 4000000) +contextual only [↓packA0, ↓packA1, ↓packA2, ↓reduceIte, packB0, packB1, packB2, packB3, packB4, pureOp, quietOp, loadOp, quietB, fr0, cellsK, Option.getD_some, Option.getD_none, implies_true, ite_true, ite_false, eq_self, ne_eq, reduceCtorEq, Nat.reduceLT, Nat.reduceLeDiff, Nat.reduceAdd, Nat.reduceMul, Nat.reduceBEq, Nat.reduceEqDiff, Int.reduceToNat, Int.reduceLT, Int.reduceLE, Nat.reduceSub, pl103, tsize_3, tbytes_3, tagg_3, zcells_3, telem_3, tint_3, tnotIface_3, ints]
  refine acalls_pure (nan_c _) rfl ?_
  simp (maxSteps := 4000000) +contextual only [↓packA0, ↓packA1, ↓packA2, ↓reduceIte, packB0, packB1, packB2, packB3, packB4, pureOp, quietOp, loadOp, quietB, fr0, cellsK, Option.getD_some, Option.getD_none, implies_true, ite_true, ite_false, eq_self, ne_eq, reduceCtorEq, Nat.reduceLT, Nat.reduceLeDiff, Nat.reduceAdd, Nat.reduceMul, Nat.reduceBEq, Nat.reduceEqDiff, Int.reduceToNat, Int.reduceLT, Int.reduceLE, Nat.reduceSub, pl103, tsize_3, tbytes_3, tagg_3, zcells_3, telem_3, tint_3, tnotIface_3, ints]
  refine ⟨fun h => ?_, fun h => ⟨fun h1 => ?_, fun h1 => ?_⟩⟩
  · simp only [cmpI, if_pos h]; exact .pure _ rfl
  · simp only [cmpI, if_neg h, if_pos h1]; exact .pure _ rfl
  · simp only [cmpI, if_neg h, if_neg h1]; exact .pure _ rfl
end Go.Proofs.Ytgdlkhgfehclpaa
end

section
/- The law's own graph of three vertices. No condition. -/
namespace Go.Proofs.Ytgdlkhgfehclpaa
open Go Go.AL
set_option linter.unusedVariables false
set_option linter.unusedSimpArgs false
set_option maxRecDepth 100000 in
theorem lcmp_c (rows width : Int) (st cs : List Int) (hb : st.length < 1000000000) (hb2 : cs.length < 1000000000) (hm : mayP rows width st cs) {a b : Int} (ha : 0 ≤ a ∧ a < rows) (hbb : 0 ≤ b ∧ b < rows) {id : Nat} {h : Heap} {ex : Bool} (hh : h[id]? = some (.arr 4 [[.int .i64 rows, .int .i64 width, ints st, ints cs]] ex)) {Q : AV → Heap → Prop}
    (hq : Q (.int .i64 (cmpI (rowOf st cs b.toNat).length (rowOf st cs a.toNat).length)) h) : ACalls Try.prog 102 [.int .i64 a, .int .i64 b, .op id 4 0 0] h Q := by
  unfold ints at hh
  refine wp102 rfl rfl ?_
  simp (maxSteps := 4000000) +contextual only [↓packA0, ↓packA1, ↓packA2, ↓reduceIte, packB0, packB1, packB2, packB3, packB4, pureOp, quietOp, loadOp, quietB, fr0, cellsK, Option.getD_some, Option.getD_none, implies_true, ite_true, ite_false, eq_self, ne_eq, reduceCtorEq, Nat.reduceLT, Nat.reduceLeDiff, Nat.reduceAdd, Nat.reduceMul, Nat.reduceBEq, Nat.reduceEqDiff, Int.reduceToNat, Int.reduceLT, Int.reduceLE, Nat.reduceSub, pl102, tsize_3, tbytes_3, tagg_3, zcells_3, telem_3, tint_3, tnotIface_3, tsize_23, tbytes_23, tagg_23, zcells_23, telem_23, tnotIface_23, tsize_45, tbytes_45, tagg_45, zcells_45, telem_45, tnotIface_45, foff_45_0, foff_45_1, foff_45_2, foff_45_3, fplaces_45, hh]
  refine acalls_pure (degree_c rows width st cs hb hb2 hm b hbb.1 hbb.2) rfl ?_
  simp (maxSteps := 4000000) +contextual only [↓packA0, ↓packA1, ↓packA2, ↓reduceIte, packB0, packB1, packB2, packB3, packB4, pureOp, quietOp, loadOp, quietB, fr0, cellsK, Option.getD_some, Option.getD_none, implies_true, ite_true, ite_false, eq_self, ne_eq, reduceCtorEq, Nat.reduceLT, Nat.reduceLeDiff, Nat.reduceAdd, Nat.reduceMul, Nat.reduceBEq, Nat.reduceEqDiff, Int.reduceToNat, Int.reduceLT, Int.reduceLE, Nat.reduceSub, pl102, tsize_3, tbytes_3, tagg_3, zcells_3, telem_3, tint_3, tnotIface_3, tsize_23, tbytes_23, tagg_23, zcells_23, telem_23, tnotIface_23, tsize_45, tbytes_45, tagg_45, zcells_45, telem_45, tnotIface_45, foff_45_0, foff_45_1, foff_45_2, foff_45_3, fplaces_45, hh]
  refine acalls_pure (degree_c rows width st cs hb hb2 hm a ha.1 ha.2) rfl ?_
  simp (maxSteps := 4000000) +contextual only [↓packA0, ↓packA1, ↓packA2, ↓reduceIte, packB0, packB1, packB2, packB3, packB4, pureOp, quietOp, loadOp, quietB, fr0, cellsK, Option.getD_some, Option.getD_none, implies_true, ite_true, ite_false, eq_self, ne_eq, reduceCtorEq, Nat.reduceLT, Nat.reduceLeDiff, Nat.reduceAdd, Nat.reduceMul, Nat.reduceBEq, Nat.reduceEqDiff, Int.reduceToNat, Int.reduceLT, Int.reduceLE, Nat.reduceSub, pl102, tsize_3, tbytes_3, tagg_3, zcells_3, telem_3, tint_3, tnotIface_3, tsize_23, tbytes_23, tagg_23, zcells_23, telem_23, tnotIface_23, tsize_45, tbytes_45, tagg_45, zcells_45, telem_45, tnotIface_45, foff_45_0, foff_45_1, foff_45_2, foff_45_3, fplaces_45, hh]
  refine acalls_pure (cmp_c _ _) rfl ?_
  simp (maxSteps := 4000000) +contextual only [↓packA0, ↓packA1, ↓packA2, ↓reduceIte, packB0, packB1, packB2, packB3, packB4, pureOp, quietOp, loadOp, quietB, fr0, cellsK, Option.getD_some, Option.getD_none, implies_true, ite_true, ite_false, eq_self, ne_eq, reduceCtorEq, Nat.reduceLT, Nat.reduceLeDiff, Nat.reduceAdd, Nat.reduceMul, Nat.reduceBEq, Nat.reduceEqDiff, Int.reduceToNat, Int.reduceLT, Int.reduceLE, Nat.reduceSub, pl102, tsize_3, tbytes_3, tagg_3, zcells_3, telem_3, tint_3, tnotIface_3, tsize_23, tbytes_23, tagg_23, zcells_23, telem_23, tnotIface_23, tsize_45, tbytes_45, tagg_45, zcells_45, telem_45, tnotIface_45, foff_45_0, foff_45_1, foff_45_2, foff_45_3, fplaces_45, hh]
  exact hq
theorem may_a : mayP 3 3 [0, 1, 3, 4] [1, 0, 2, 1] := by decide
theorem graph_a : graphP 3 3 [0, 1, 3, 4] [1, 0, 2, 1] := by decide
theorem fpl102 : fplaces Try.prog 102 = some [(0, 1), (1, 1), (2, 1), (3, 1), (4, 1), (5, 1)] := by kernel_rfl
theorem tagg99 : tagg Try.prog 99 = some false := by kernel_rfl
theorem tsize99 : tsize Try.prog 99 = some 1 := by kernel_rfl
set_option maxHeartbeats 4000000 in
set_option maxRecDepth 100000 in
theorem order_a : ACalls Try.prog 24 [.int .i64 2, pat 3 3 [0, 1, 3, 4] [1, 0, 2, 1], .nils] [] fun v h => OFz h v (.tup [ints [1, 0, 2], .int .i64 0]) := by
  refine (wp24 rfl rfl ?_)
  simp (maxSteps := 4000000) +contextual only [↓packA0, ↓packA1, ↓packA2, ↓reduceIte, packB0, packB1, packB2, packB3, packB4, pureOp, quietOp, loadOp, quietB, fr0, cellsK, Option.getD_some, Option.getD_none, implies_true, ite_true, ite_false, eq_self, ne_eq, reduceCtorEq, Nat.reduceLT, Nat.reduceLeDiff, Nat.reduceAdd, Nat.reduceMul, Nat.reduceBEq, Nat.reduceEqDiff, Int.reduceToNat, Int.reduceLT, Int.reduceLE, Nat.reduceSub, pl24, tsize_3, tbytes_3, tagg_3, zcells_3, telem_3, tint_3, tnotIface_3, tsize_4, tbytes_4, tagg_4, zcells_4, telem_4, tbool_4, tnotIface_4, tsize_23, tbytes_23, tagg_23, zcells_23, telem_23, tnotIface_23, tsize_43, tbytes_43, tagg_43, zcells_43, telem_43, tint_43, tnotIface_43, tsize_45, tbytes_45, tagg_45, zcells_45, telem_45, tnotIface_45, foff_45_0, foff_45_1, foff_45_2, foff_45_3, fplaces_45, tfun_99, telem_99, tsize_101, tbytes_101, tagg_101, zcells_101, telem_101, tnotIface_101, foff_101_0, fplaces_101, tsize_102, tbytes_102, tagg_102, zcells_102, telem_102, tarr_102, tnotIface_102, ints]
  refine acalls_pure (graph_c 3 3 [0, 1, 3, 4] [1, 0, 2, 1] (by simp) (by simp)) rfl ?_
  simp (maxSteps := 4000000) +contextual only [↓packA0, ↓packA1, ↓packA2, ↓reduceIte, packB0, packB1, packB2, packB3, packB4, pureOp, quietOp, loadOp, quietB, fr0, cellsK, Option.getD_some, Option.getD_none, implies_true, ite_true, ite_false, eq_self, ne_eq, reduceCtorEq, Nat.reduceLT, Nat.reduceLeDiff, Nat.reduceAdd, Nat.reduceMul, Nat.reduceBEq, Nat.reduceEqDiff, Int.reduceToNat, Int.reduceLT, Int.reduceLE, Nat.reduceSub, pl24, tsize_3, tbytes_3, tagg_3, zcells_3, telem_3, tint_3, tnotIface_3, tsize_4, tbytes_4, tagg_4, zcells_4, telem_4, tbool_4, tnotIface_4, tsize_23, tbytes_23, tagg_23, zcells_23, telem_23, tnotIface_23, tsize_43, tbytes_43, tagg_43, zcells_43, telem_43, tint_43, tnotIface_43, tsize_45, tbytes_45, tagg_45, zcells_45, telem_45, tnotIface_45, foff_45_0, foff_45_1, foff_45_2, foff_45_3, fplaces_45, tfun_99, telem_99, tsize_101, tbytes_101, tagg_101, zcells_101, telem_101, tnotIface_101, foff_101_0, fplaces_101, tsize_102, tbytes_102, tagg_102, zcells_102, telem_102, tarr_102, tnotIface_102, ints, graph_a]
  refine wp52 rfl rfl ?_
  simp (maxSteps := 4000000) +contextual only [↓packA0, ↓packA1, ↓packA2, ↓reduceIte, packB0, packB1, packB2, packB3, packB4, pureOp, quietOp, loadOp, quietB, fr0, cellsK, Option.getD_some, Option.getD_none, implies_true, ite_true, ite_false, eq_self, ne_eq, reduceCtorEq, Nat.reduceLT, Nat.reduceLeDiff, Nat.reduceAdd, Nat.reduceMul, Nat.reduceBEq, Nat.reduceEqDiff, Int.reduceToNat, Int.reduceLT, Int.reduceLE, Nat.reduceSub, pl52, tfun_99, telem_99, tsize_101, tbytes_101, tagg_101, zcells_101, telem_101, tnotIface_101, foff_101_0, fplaces_101, tsize_102, tbytes_102, tagg_102, zcells_102, telem_102, tarr_102, tnotIface_102, pl24, tsize_3, tbytes_3, tagg_3, zcells_3, telem_3, tint_3, tnotIface_3, tsize_4, tbytes_4, tagg_4, zcells_4, telem_4, tbool_4, tnotIface_4, tsize_23, tbytes_23, tagg_23, zcells_23, telem_23, tnotIface_23, tsize_43, tbytes_43, tagg_43, zcells_43, telem_43, tint_43, tnotIface_43, tsize_45, tbytes_45, tagg_45, zcells_45, telem_45, tnotIface_45, foff_45_0, foff_45_1, foff_45_2, foff_45_3, fplaces_45, fpl102, patch, tagg99, tsize99]
  refine ⟨by omega, ?_⟩
  refine wp83 rfl rfl ?_
  simp (maxSteps := 4000000) +contextual only [↓packA0, ↓packA1, ↓packA2, ↓reduceIte, packB0, packB1, packB2, packB3, packB4, pureOp, quietOp, loadOp, quietB, fr0, cellsK, Option.getD_some, Option.getD_none, implies_true, ite_true, ite_false, eq_self, ne_eq, reduceCtorEq, Nat.reduceLT, Nat.reduceLeDiff, Nat.reduceAdd, Nat.reduceMul, Nat.reduceBEq, Nat.reduceEqDiff, Int.reduceToNat, Int.reduceLT, Int.reduceLE, Nat.reduceSub, pl83, tsize_3, tbytes_3, tagg_3, zcells_3, telem_3, tint_3, tnotIface_3, tsize_23, tbytes_23, tagg_23, zcells_23, telem_23, tnotIface_23, tsize_45, tbytes_45, tagg_45, zcells_45, telem_45, tnotIface_45, foff_45_0, foff_45_1, foff_45_2, foff_45_3, fplaces_45, tfun_160, telem_160, pl24, tsize_4, tbytes_4, tagg_4, zcells_4, telem_4, tbool_4, tnotIface_4, tsize_43, tbytes_43, tagg_43, zcells_43, telem_43, tint_43, tnotIface_43, tfun_99, telem_99, tsize_101, tbytes_101, tagg_101, zcells_101, telem_101, tnotIface_101, foff_101_0, fplaces_101, tsize_102, tbytes_102, tagg_102, zcells_102, telem_102, tarr_102, tnotIface_102]
  refine wp82 rfl rfl ?_
  simp (maxSteps := 4000000) +contextual only [↓packA0, ↓packA1, ↓packA2, ↓reduceIte, packB0, packB1, packB2, packB3, packB4, pureOp, quietOp, loadOp, quietB, fr0, cellsK, Option.getD_some, Option.getD_none, implies_true, ite_true, ite_false, eq_self, ne_eq, reduceCtorEq, Nat.reduceLT, Nat.reduceLeDiff, Nat.reduceAdd, Nat.reduceMul, Nat.reduceBEq, Nat.reduceEqDiff, Int.reduceToNat, Int.reduceLT, Int.reduceLE, Nat.reduceSub, pl82, tfun_1, telem_1, tsize_3, tbytes_3, tagg_3, zcells_3, telem_3, tint_3, tnotIface_3, tsize_23, tbytes_23, tagg_23, zcells_23, telem_23, tnotIface_23, tsize_45, tbytes_45, tagg_45, zcells_45, telem_45, tnotIface_45, foff_45_0, foff_45_1, foff_45_2, foff_45_3, fplaces_45, pl83, tfun_160, telem_160, pl24, tsize_4, tbytes_4, tagg_4, zcells_4, telem_4, tbool_4, tnotIface_4, tsize_43, tbytes_43, tagg_43, zcells_43, telem_43, tint_43, tnotIface_43, tfun_99, telem_99, tsize_101, tbytes_101, tagg_101, zcells_101, telem_101, tnotIface_101, foff_101_0, fplaces_101, tsize_102, tbytes_102, tagg_102, zcells_102, telem_102, tarr_102, tnotIface_102]
  refine LoopN.loop 4 ?_
  simp (maxSteps := 4000000) +contextual only [↓packA0, ↓packA1, ↓packA2, ↓reduceIte, packB0, packB1, packB2, packB3, packB4, pureOp, quietOp, loadOp, quietB, fr0, cellsK, Option.getD_some, Option.getD_none, implies_true, ite_true, ite_false, eq_self, ne_eq, reduceCtorEq, Nat.reduceLT, Nat.reduceLeDiff, Nat.reduceAdd, Nat.reduceMul, Nat.reduceBEq, Nat.reduceEqDiff, Int.reduceToNat, Int.reduceLT, Int.reduceLE, Nat.reduceSub, pl82, tfun_1, telem_1, tsize_3, tbytes_3, tagg_3, zcells_3, telem_3, tint_3, tnotIface_3, tsize_23, tbytes_23, tagg_23, zcells_23, telem_23, tnotIface_23, tsize_45, tbytes_45, tagg_45, zcells_45, telem_45, tnotIface_45, foff_45_0, foff_45_1, foff_45_2, foff_45_3, fplaces_45, pl83, tfun_160, telem_160, pl24, tsize_4, tbytes_4, tagg_4, zcells_4, telem_4, tbool_4, tnotIface_4, tsize_43, tbytes_43, tagg_43, zcells_43, telem_43, tint_43, tnotIface_43, tfun_99, telem_99, tsize_101, tbytes_101, tagg_101, zcells_101, telem_101, tnotIface_101, foff_101_0, fplaces_101, tsize_102, tbytes_102, tagg_102, zcells_102, telem_102, tarr_102, tnotIface_102, ↓LoopN_succ, Int.cast_ofNat_Int, Int.natCast_zero, Int.natCast_one, Int.reduceAdd, Int.reduceSub, Int.reduceNeg, Int.reduceMul, Int.reduceToNat, Int.reduceLT, Int.reduceLE, Int.reduceEq, Int.reduceBEq, Int.reduceBNe, Nat.reduceSub, Nat.reduceLT, List.getD_cons_zero, List.getD_cons_succ, List.length_singleton, Bool.and_true, Bool.and_false]
  refine wp101 rfl rfl ?_
  simp (maxSteps := 4000000) +contextual only [↓packA0, ↓packA1, ↓packA2, ↓reduceIte, packB0, packB1, packB2, packB3, packB4, pureOp, quietOp, loadOp, quietB, fr0, cellsK, Option.getD_some, Option.getD_none, implies_true, ite_true, ite_false, eq_self, ne_eq, reduceCtorEq, Nat.reduceLT, Nat.reduceLeDiff, Nat.reduceAdd, Nat.reduceMul, Nat.reduceBEq, Nat.reduceEqDiff, Int.reduceToNat, Int.reduceLT, Int.reduceLE, Nat.reduceSub, pl101, tsize_3, tbytes_3, tagg_3, zcells_3, telem_3, tint_3, tnotIface_3, tsize_23, tbytes_23, tagg_23, zcells_23, telem_23, tnotIface_23, tfun_160, telem_160, pl83, tsize_45, tbytes_45, tagg_45, zcells_45, telem_45, tnotIface_45, foff_45_0, foff_45_1, foff_45_2, foff_45_3, fplaces_45, pl24, tsize_4, tbytes_4, tagg_4, zcells_4, telem_4, tbool_4, tnotIface_4, tsize_43, tbytes_43, tagg_43, zcells_43, telem_43, tint_43, tnotIface_43, tfun_99, telem_99, tsize_101, tbytes_101, tagg_101, zcells_101, telem_101, tnotIface_101, foff_101_0, fplaces_101, tsize_102, tbytes_102, tagg_102, zcells_102, telem_102, tarr_102, tnotIface_102, Int.cast_ofNat_Int, Int.natCast_zero, Int.natCast_one, Int.reduceAdd, Int.reduceSub, Int.reduceNeg, Int.reduceMul, Int.reduceToNat, Int.reduceLT, Int.reduceLE, Int.reduceEq, Int.reduceBEq, Int.reduceBNe, Nat.reduceSub, Nat.reduceLT, List.getD_cons_zero, List.getD_cons_succ, List.length_singleton, Bool.and_true, Bool.and_false]
  refine wp116 rfl rfl ?_
  simp (maxSteps := 4000000) +contextual only [↓packA0, ↓packA1, ↓packA2, ↓reduceIte, packB0, packB1, packB2, packB3, packB4, pureOp, quietOp, loadOp, quietB, fr0, cellsK, Option.getD_some, Option.getD_none, implies_true, ite_true, ite_false, eq_self, ne_eq, reduceCtorEq, Nat.reduceLT, Nat.reduceLeDiff, Nat.reduceAdd, Nat.reduceMul, Nat.reduceBEq, Nat.reduceEqDiff, Int.reduceToNat, Int.reduceLT, Int.reduceLE, Nat.reduceSub, pl116, tsize_3, tbytes_3, tagg_3, zcells_3, telem_3, tint_3, tnotIface_3, tsize_23, tbytes_23, tagg_23, zcells_23, telem_23, tnotIface_23, tfun_160, telem_160, pl101, pl83, tsize_45, tbytes_45, tagg_45, zcells_45, telem_45, tnotIface_45, foff_45_0, foff_45_1, foff_45_2, foff_45_3, fplaces_45, pl24, tsize_4, tbytes_4, tagg_4, zcells_4, telem_4, tbool_4, tnotIface_4, tsize_43, tbytes_43, tagg_43, zcells_43, telem_43, tint_43, tnotIface_43, tfun_99, telem_99, tsize_101, tbytes_101, tagg_101, zcells_101, telem_101, tnotIface_101, foff_101_0, fplaces_101, tsize_102, tbytes_102, tagg_102, zcells_102, telem_102, tarr_102, tnotIface_102, Int.cast_ofNat_Int, Int.natCast_zero, Int.natCast_one, Int.reduceAdd, Int.reduceSub, Int.reduceNeg, Int.reduceMul, Int.reduceToNat, Int.reduceLT, Int.reduceLE, Int.reduceEq, Int.reduceBEq, Int.reduceBNe, Nat.reduceSub, Nat.reduceLT, List.getD_cons_zero, List.getD_cons_succ, List.length_singleton, Bool.and_true, Bool.and_false]
  refine LoopN.loop 1 ?_
  simp (maxSteps := 4000000) +contextual only [↓packA0, ↓packA1, ↓packA2, ↓reduceIte, packB0, packB1, packB2, packB3, packB4, pureOp, quietOp, loadOp, quietB, fr0, cellsK, Option.getD_some, Option.getD_none, implies_true, ite_true, ite_false, eq_self, ne_eq, reduceCtorEq, Nat.reduceLT, Nat.reduceLeDiff, Nat.reduceAdd, Nat.reduceMul, Nat.reduceBEq, Nat.reduceEqDiff, Int.reduceToNat, Int.reduceLT, Int.reduceLE, Nat.reduceSub, pl116, tsize_3, tbytes_3, tagg_3, zcells_3, telem_3, tint_3, tnotIface_3, tsize_23, tbytes_23, tagg_23, zcells_23, telem_23, tnotIface_23, tfun_160, telem_160, pl101, pl83, tsize_45, tbytes_45, tagg_45, zcells_45, telem_45, tnotIface_45, foff_45_0, foff_45_1, foff_45_2, foff_45_3, fplaces_45, pl24, tsize_4, tbytes_4, tagg_4, zcells_4, telem_4, tbool_4, tnotIface_4, tsize_43, tbytes_43, tagg_43, zcells_43, telem_43, tint_43, tnotIface_43, tfun_99, telem_99, tsize_101, tbytes_101, tagg_101, zcells_101, telem_101, tnotIface_101, foff_101_0, fplaces_101, tsize_102, tbytes_102, tagg_102, zcells_102, telem_102, tarr_102, tnotIface_102, ↓LoopN_succ, Int.cast_ofNat_Int, Int.natCast_zero, Int.natCast_one, Int.reduceAdd, Int.reduceSub, Int.reduceNeg, Int.reduceMul, Int.reduceToNat, Int.reduceLT, Int.reduceLE, Int.reduceEq, Int.reduceBEq, Int.reduceBNe, Nat.reduceSub, Nat.reduceLT, List.getD_cons_zero, List.getD_cons_succ, List.length_singleton, Bool.and_true, Bool.and_false]
  refine wp125 rfl rfl ?_
  simp (maxSteps := 4000000) +contextual only [↓packA0, ↓packA1, ↓packA2, ↓reduceIte, packB0, packB1, packB2, packB3, packB4, pureOp, quietOp, loadOp, quietB, fr0, cellsK, Option.getD_some, Option.getD_none, implies_true, ite_true, ite_false, eq_self, ne_eq, reduceCtorEq, Nat.reduceLT, Nat.reduceLeDiff, Nat.reduceAdd, Nat.reduceMul, Nat.reduceBEq, Nat.reduceEqDiff, Int.reduceToNat, Int.reduceLT, Int.reduceLE, Nat.reduceSub, pl125, tsize_3, tbytes_3, tagg_3, zcells_3, telem_3, tint_3, tnotIface_3, tsize_23, tbytes_23, tagg_23, zcells_23, telem_23, tnotIface_23, pl116, tfun_160, telem_160, pl101, pl83, tsize_45, tbytes_45, tagg_45, zcells_45, telem_45, tnotIface_45, foff_45_0, foff_45_1, foff_45_2, foff_45_3, fplaces_45, pl24, tsize_4, tbytes_4, tagg_4, zcells_4, telem_4, tbool_4, tnotIface_4, tsize_43, tbytes_43, tagg_43, zcells_43, telem_43, tint_43, tnotIface_43, tfun_99, telem_99, tsize_101, tbytes_101, tagg_101, zcells_101, telem_101, tnotIface_101, foff_101_0, fplaces_101, tsize_102, tbytes_102, tagg_102, zcells_102, telem_102, tarr_102, tnotIface_102, Int.cast_ofNat_Int, Int.natCast_zero, Int.natCast_one, Int.reduceAdd, Int.reduceSub, Int.reduceNeg, Int.reduceMul, Int.reduceToNat, Int.reduceLT, Int.reduceLE, Int.reduceEq, Int.reduceBEq, Int.reduceBNe, Nat.reduceSub, Nat.reduceLT, List.getD_cons_zero, List.getD_cons_succ, List.length_singleton, Bool.and_true, Bool.and_false]
  refine LoopN.loop 3 ?_
  simp (maxSteps := 4000000) +contextual only [↓packA0, ↓packA1, ↓packA2, ↓reduceIte, packB0, packB1, packB2, packB3, packB4, pureOp, quietOp, loadOp, quietB, fr0, cellsK, Option.getD_some, Option.getD_none, implies_true, ite_true, ite_false, eq_self, ne_eq, reduceCtorEq, Nat.reduceLT, Nat.reduceLeDiff, Nat.reduceAdd, Nat.reduceMul, Nat.reduceBEq, Nat.reduceEqDiff, Int.reduceToNat, Int.reduceLT, Int.reduceLE, Nat.reduceSub, pl125, tsize_3, tbytes_3, tagg_3, zcells_3, telem_3, tint_3, tnotIface_3, tsize_23, tbytes_23, tagg_23, zcells_23, telem_23, tnotIface_23, pl116, tfun_160, telem_160, pl101, pl83, tsize_45, tbytes_45, tagg_45, zcells_45, telem_45, tnotIface_45, foff_45_0, foff_45_1, foff_45_2, foff_45_3, fplaces_45, pl24, tsize_4, tbytes_4, tagg_4, zcells_4, telem_4, tbool_4, tnotIface_4, tsize_43, tbytes_43, tagg_43, zcells_43, telem_43, tint_43, tnotIface_43, tfun_99, telem_99, tsize_101, tbytes_101, tagg_101, zcells_101, telem_101, tnotIface_101, foff_101_0, fplaces_101, tsize_102, tbytes_102, tagg_102, zcells_102, telem_102, tarr_102, tnotIface_102, ↓LoopN_succ, Int.cast_ofNat_Int, Int.natCast_zero, Int.natCast_one, Int.reduceAdd, Int.reduceSub, Int.reduceNeg, Int.reduceMul, Int.reduceToNat, Int.reduceLT, Int.reduceLE, Int.reduceEq, Int.reduceBEq, Int.reduceBNe, Nat.reduceSub, Nat.reduceLT, List.getD_cons_zero, List.getD_cons_succ, List.length_singleton, Bool.and_true, Bool.and_false]
  refine LoopN.loop 3 ?_
  simp (maxSteps := 4000000) +contextual only [↓packA0, ↓packA1, ↓packA2, ↓reduceIte, packB0, packB1, packB2, packB3, packB4, pureOp, quietOp, loadOp, quietB, fr0, cellsK, Option.getD_some, Option.getD_none, implies_true, ite_true, ite_false, eq_self, ne_eq, reduceCtorEq, Nat.reduceLT, Nat.reduceLeDiff, Nat.reduceAdd, Nat.reduceMul, Nat.reduceBEq, Nat.reduceEqDiff, Int.reduceToNat, Int.reduceLT, Int.reduceLE, Nat.reduceSub, pl125, tsize_3, tbytes_3, tagg_3, zcells_3, telem_3, tint_3, tnotIface_3, tsize_23, tbytes_23, tagg_23, zcells_23, telem_23, tnotIface_23, pl116, tfun_160, telem_160, pl101, pl83, tsize_45, tbytes_45, tagg_45, zcells_45, telem_45, tnotIface_45, foff_45_0, foff_45_1, foff_45_2, foff_45_3, fplaces_45, pl24, tsize_4, tbytes_4, tagg_4, zcells_4, telem_4, tbool_4, tnotIface_4, tsize_43, tbytes_43, tagg_43, zcells_43, telem_43, tint_43, tnotIface_43, tfun_99, telem_99, tsize_101, tbytes_101, tagg_101, zcells_101, telem_101, tnotIface_101, foff_101_0, fplaces_101, tsize_102, tbytes_102, tagg_102, zcells_102, telem_102, tarr_102, tnotIface_102, ↓LoopN_succ, Int.cast_ofNat_Int, Int.natCast_zero, Int.natCast_one, Int.reduceAdd, Int.reduceSub, Int.reduceNeg, Int.reduceMul, Int.reduceToNat, Int.reduceLT, Int.reduceLE, Int.reduceEq, Int.reduceBEq, Int.reduceBNe, Nat.reduceSub, Nat.reduceLT, List.getD_cons_zero, List.getD_cons_succ, List.length_singleton, Bool.and_true, Bool.and_false]
  refine lcmp_c 3 3 [0, 1, 3, 4] [1, 0, 2, 1] (by simp) (by simp) may_a (by omega) (by omega) rfl ?_
  rw [show cmpI (rowOf [0, 1, 3, 4] [1, 0, 2, 1] (0 : Int).toNat).length (rowOf [0, 1, 3, 4] [1, 0, 2, 1] (1 : Int).toNat).length = -1 by decide]
  simp (maxSteps := 4000000) +contextual only [↓packA0, ↓packA1, ↓packA2, ↓reduceIte, packB0, packB1, packB2, packB3, packB4, pureOp, quietOp, loadOp, quietB, fr0, cellsK, Option.getD_some, Option.getD_none, implies_true, ite_true, ite_false, eq_self, ne_eq, reduceCtorEq, Nat.reduceLT, Nat.reduceLeDiff, Nat.reduceAdd, Nat.reduceMul, Nat.reduceBEq, Nat.reduceEqDiff, Int.reduceToNat, Int.reduceLT, Int.reduceLE, Nat.reduceSub, pl125, tsize_3, tbytes_3, tagg_3, zcells_3, telem_3, tint_3, tnotIface_3, tsize_23, tbytes_23, tagg_23, zcells_23, telem_23, tnotIface_23, pl116, tfun_160, telem_160, pl101, pl83, tsize_45, tbytes_45, tagg_45, zcells_45, telem_45, tnotIface_45, foff_45_0, foff_45_1, foff_45_2, foff_45_3, fplaces_45, pl24, tsize_4, tbytes_4, tagg_4, zcells_4, telem_4, tbool_4, tnotIface_4, tsize_43, tbytes_43, tagg_43, zcells_43, telem_43, tint_43, tnotIface_43, tfun_99, telem_99, tsize_101, tbytes_101, tagg_101, zcells_101, telem_101, tnotIface_101, foff_101_0, fplaces_101, tsize_102, tbytes_102, tagg_102, zcells_102, telem_102, tarr_102, tnotIface_102, ↓LoopN_succ, Int.cast_ofNat_Int, Int.natCast_zero, Int.natCast_one, Int.reduceAdd, Int.reduceSub, Int.reduceNeg, Int.reduceMul, Int.reduceToNat, Int.reduceLT, Int.reduceLE, Int.reduceEq, Int.reduceBEq, Int.reduceBNe, Nat.reduceSub, Nat.reduceLT, List.getD_cons_zero, List.getD_cons_succ, List.length_singleton, Bool.and_true, Bool.and_false]
  refine LoopN.loop 3 ?_
  simp (maxSteps := 4000000) +contextual only [↓packA0, ↓packA1, ↓packA2, ↓reduceIte, packB0, packB1, packB2, packB3, packB4, pureOp, quietOp, loadOp, quietB, fr0, cellsK, Option.getD_some, Option.getD_none, implies_true, ite_true, ite_false, eq_self, ne_eq, reduceCtorEq, Nat.reduceLT, Nat.reduceLeDiff, Nat.reduceAdd, Nat.reduceMul, Nat.reduceBEq, Nat.reduceEqDiff, Int.reduceToNat, Int.reduceLT, Int.reduceLE, Nat.reduceSub, pl125, tsize_3, tbytes_3, tagg_3, zcells_3, telem_3, tint_3, tnotIface_3, tsize_23, tbytes_23, tagg_23, zcells_23, telem_23, tnotIface_23, pl116, tfun_160, telem_160, pl101, pl83, tsize_45, tbytes_45, tagg_45, zcells_45, telem_45, tnotIface_45, foff_45_0, foff_45_1, foff_45_2, foff_45_3, fplaces_45, pl24, tsize_4, tbytes_4, tagg_4, zcells_4, telem_4, tbool_4, tnotIface_4, tsize_43, tbytes_43, tagg_43, zcells_43, telem_43, tint_43, tnotIface_43, tfun_99, telem_99, tsize_101, tbytes_101, tagg_101, zcells_101, telem_101, tnotIface_101, foff_101_0, fplaces_101, tsize_102, tbytes_102, tagg_102, zcells_102, telem_102, tarr_102, tnotIface_102, ↓LoopN_succ, Int.cast_ofNat_Int, Int.natCast_zero, Int.natCast_one, Int.reduceAdd, Int.reduceSub, Int.reduceNeg, Int.reduceMul, Int.reduceToNat, Int.reduceLT, Int.reduceLE, Int.reduceEq, Int.reduceBEq, Int.reduceBNe, Nat.reduceSub, Nat.reduceLT, List.getD_cons_zero, List.getD_cons_succ, List.length_singleton, Bool.and_true, Bool.and_false]
  refine lcmp_c 3 3 [0, 1, 3, 4] [1, 0, 2, 1] (by simp) (by simp) may_a (by omega) (by omega) rfl ?_
  rw [show cmpI (rowOf [0, 1, 3, 4] [1, 0, 2, 1] (0 : Int).toNat).length (rowOf [0, 1, 3, 4] [1, 0, 2, 1] (2 : Int).toNat).length = 0 by decide]
  simp (maxSteps := 4000000) +contextual only [↓packA0, ↓packA1, ↓packA2, ↓reduceIte, packB0, packB1, packB2, packB3, packB4, pureOp, quietOp, loadOp, quietB, fr0, cellsK, Option.getD_some, Option.getD_none, implies_true, ite_true, ite_false, eq_self, ne_eq, reduceCtorEq, Nat.reduceLT, Nat.reduceLeDiff, Nat.reduceAdd, Nat.reduceMul, Nat.reduceBEq, Nat.reduceEqDiff, Int.reduceToNat, Int.reduceLT, Int.reduceLE, Nat.reduceSub, pl125, tsize_3, tbytes_3, tagg_3, zcells_3, telem_3, tint_3, tnotIface_3, tsize_23, tbytes_23, tagg_23, zcells_23, telem_23, tnotIface_23, pl116, tfun_160, telem_160, pl101, pl83, tsize_45, tbytes_45, tagg_45, zcells_45, telem_45, tnotIface_45, foff_45_0, foff_45_1, foff_45_2, foff_45_3, fplaces_45, pl24, tsize_4, tbytes_4, tagg_4, zcells_4, telem_4, tbool_4, tnotIface_4, tsize_43, tbytes_43, tagg_43, zcells_43, telem_43, tint_43, tnotIface_43, tfun_99, telem_99, tsize_101, tbytes_101, tagg_101, zcells_101, telem_101, tnotIface_101, foff_101_0, fplaces_101, tsize_102, tbytes_102, tagg_102, zcells_102, telem_102, tarr_102, tnotIface_102, ↓LoopN_succ, Int.cast_ofNat_Int, Int.natCast_zero, Int.natCast_one, Int.reduceAdd, Int.reduceSub, Int.reduceNeg, Int.reduceMul, Int.reduceToNat, Int.reduceLT, Int.reduceLE, Int.reduceEq, Int.reduceBEq, Int.reduceBNe, Nat.reduceSub, Nat.reduceLT, List.getD_cons_zero, List.getD_cons_succ, List.length_singleton, Bool.and_true, Bool.and_false]
  refine LoopN.loop 1 ?_
  simp (maxSteps := 4000000) +contextual only [↓packA0, ↓packA1, ↓packA2, ↓reduceIte, packB0, packB1, packB2, packB3, packB4, pureOp, quietOp, loadOp, quietB, fr0, cellsK, Option.getD_some, Option.getD_none, implies_true, ite_true, ite_false, eq_self, ne_eq, reduceCtorEq, Nat.reduceLT, Nat.reduceLeDiff, Nat.reduceAdd, Nat.reduceMul, Nat.reduceBEq, Nat.reduceEqDiff, Int.reduceToNat, Int.reduceLT, Int.reduceLE, Nat.reduceSub, pl125, tsize_3, tbytes_3, tagg_3, zcells_3, telem_3, tint_3, tnotIface_3, tsize_23, tbytes_23, tagg_23, zcells_23, telem_23, tnotIface_23, pl116, tfun_160, telem_160, pl101, pl83, tsize_45, tbytes_45, tagg_45, zcells_45, telem_45, tnotIface_45, foff_45_0, foff_45_1, foff_45_2, foff_45_3, fplaces_45, pl24, tsize_4, tbytes_4, tagg_4, zcells_4, telem_4, tbool_4, tnotIface_4, tsize_43, tbytes_43, tagg_43, zcells_43, telem_43, tint_43, tnotIface_43, tfun_99, telem_99, tsize_101, tbytes_101, tagg_101, zcells_101, telem_101, tnotIface_101, foff_101_0, fplaces_101, tsize_102, tbytes_102, tagg_102, zcells_102, telem_102, tarr_102, tnotIface_102, ↓LoopN_succ, Int.cast_ofNat_Int, Int.natCast_zero, Int.natCast_one, Int.reduceAdd, Int.reduceSub, Int.reduceNeg, Int.reduceMul, Int.reduceToNat, Int.reduceLT, Int.reduceLE, Int.reduceEq, Int.reduceBEq, Int.reduceBNe, Nat.reduceSub, Nat.reduceLT, List.getD_cons_zero, List.getD_cons_succ, List.length_singleton, Bool.and_true, Bool.and_false]
  exact .two (ofz_ints (l := [1, 0, 2]) rfl rfl) (.flat _ rfl)
end Go.Proofs.Ytgdlkhgfehclpaa
end

section
/- The greatest of a list, the first that fits, what is left. No condition. -/
namespace Go.Proofs.Ytgdlkhgfehclpaa
open Go Go.AL
set_option linter.unusedVariables false
set_option linter.unusedSimpArgs false
theorem minK_2 {g : Int → Int → Int} {x y : Int} {K : AV → Prop} : minK g [.int .i64 x, .int .i64 y] K = K (.int .i64 (g x y)) := by
  simp [minK, mins]
@[congr] theorem minK_cg {g g' : Int → Int → Int} {us us' : List AV} {K : AV → Prop} (e1 : mk us = us') (e2 : mk g = g') : minK g us K = minK g' us' K := by rw [← e1, ← e2]; rfl
theorem imax_eq {x y : Int} : imax x y = max x y := by unfold imax; omega
/-- The greatest of the first k (k > 0). -/
def maxK (l : List Int) : Nat → Int
  | 0 => l.getD 0 default
  | k + 1 => max (maxK l k) (l.getD (k + 1) default)
set_option maxRecDepth 100000 in
theorem max_c (l : List Int) (hb : l.length < 1000000000) (h0 : 0 < l.length) : APure Try.prog 77 [ints l] (.int .i64 (maxK l (l.length - 1))) := by
  refine apure_of (wp77 rfl rfl ?_)
  simp (maxSteps := 4000000) +contextual only [↓packA0, ↓packA1, ↓packA2, ↓reduceIte, packB0, packB1, packB2, packB3, packB4, pureOp, quietOp, loadOp, quietB, fr0, cellsK, Option.getD_some, Option.getD_none, implies_true, ite_true, ite_false, eq_self, ne_eq, reduceCtorEq, Nat.reduceLT, Nat.reduceLeDiff, Nat.reduceAdd, Nat.reduceMul, Nat.reduceBEq, Nat.reduceEqDiff, Int.reduceToNat, Int.reduceLT, Int.reduceLE, Nat.reduceSub, pl77, tsize_3, tbytes_3, tagg_3, zcells_3, telem_3, tint_3, tnotIface_3, tsize_9, tbytes_9, tagg_9, zcells_9, telem_9, tstring_9, tnotIface_9, tsize_23, tbytes_23, tagg_23, zcells_23, telem_23, tnotIface_23, ints, minK_2, imax_eq]
  refine ⟨fun h => by omega, fun h => ⟨by omega, ?_⟩⟩
  refine LoopK.intro (fun m a h => ∃ k : Nat, m = l.length - k ∧ k < l.length ∧ a 0 = ints l ∧ a 3 = .int .i64 (maxK l k) ∧ a 4 = .int .i64 (k + 1 : Nat) ∧ h = []) (l.length - 0) ⟨0, rfl, h0, ?_⟩ ?_
  · simp (maxSteps := 4000000) only [↓packA0, ↓packA1, ↓packA2, ↓reduceIte, packB0, packB1, packB2, packB3, packB4, pureOp, quietOp, loadOp, quietB, fr0, cellsK, Option.getD_some, Option.getD_none, implies_true, ite_true, ite_false, eq_self, ne_eq, reduceCtorEq, Nat.reduceLT, Nat.reduceLeDiff, Nat.reduceAdd, Nat.reduceMul, Nat.reduceBEq, Nat.reduceEqDiff, Int.reduceToNat, Int.reduceLT, Int.reduceLE, Nat.reduceSub, pl77, tsize_3, tbytes_3, tagg_3, zcells_3, telem_3, tint_3, tnotIface_3, tsize_9, tbytes_9, tagg_9, zcells_9, telem_9, tstring_9, tnotIface_9, tsize_23, tbytes_23, tagg_23, zcells_23, telem_23, tnotIface_23, ints, maxK]
    rfl
  rintro m a h ⟨k, rfl, hk, a0, a3, a4, rfl⟩
  simp (maxSteps := 4000000) +contextual only [↓packA0, ↓packA1, ↓packA2, ↓reduceIte, packB0, packB1, packB2, packB3, packB4, pureOp, quietOp, loadOp, quietB, fr0, cellsK, Option.getD_some, Option.getD_none, implies_true, ite_true, ite_false, eq_self, ne_eq, reduceCtorEq, Nat.reduceLT, Nat.reduceLeDiff, Nat.reduceAdd, Nat.reduceMul, Nat.reduceBEq, Nat.reduceEqDiff, Int.reduceToNat, Int.reduceLT, Int.reduceLE, Nat.reduceSub, pl77, tsize_3, tbytes_3, tagg_3, zcells_3, telem_3, tint_3, tnotIface_3, tsize_9, tbytes_9, tagg_9, zcells_9, telem_9, tstring_9, tnotIface_9, tsize_23, tbytes_23, tagg_23, zcells_23, telem_23, tnotIface_23, ints, a0, a3, a4, minK_2, imax_eq]
  refine ⟨fun h2 => ⟨by omega, by omega, by omega, .inl ⟨l.length - (k + 1), by omega, k + 1, rfl, by omega, rfl, by omega⟩⟩, fun h2 => ?_⟩
  rw [show l.length - 1 = k by omega]
  exact .pure _ rfl
theorem maxK_le {l : List Int} : ∀ k j, j ≤ k → l.getD j default ≤ maxK l k
  | 0, j, h => by rw [show j = 0 by omega]; exact Int.le_refl _
  | k + 1, j, h => by
    simp only [maxK]
    rcases Nat.lt_or_ge j (k + 1) with h1 | h1
    · have := maxK_le (l := l) k j (by omega)
      omega
    · rw [show j = k + 1 by omega]; omega
theorem maxK_mem {l : List Int} : ∀ k, ∃ j, j ≤ k ∧ maxK l k = l.getD j default
  | 0 => ⟨0, Nat.le_refl _, rfl⟩
  | k + 1 => by
    obtain ⟨j, h1, h2⟩ := maxK_mem (l := l) k
    simp only [maxK]
    rcases Int.lt_or_le (maxK l k) (l.getD (k + 1) default) with h3 | h3
    · exact ⟨k + 1, Nat.le_refl _, by omega⟩
    · exact ⟨j, by omega, by omega⟩
def Clo (c : FuncId) : Prop := ∀ {w v : Int} {h : Heap} {vid : Nat} {exv : Bool} {Q : AV → Heap → Prop}, h[vid]? = some (.arr 1 [[.int .i64 v]] exv) → Q (.bool (decide (w = v))) h → ACalls Try.prog c [.int .i64 w, .op vid 1 0 0] h Q
theorem clo79 : Clo 79 := by
  intro w v h vid exv Q hv hq
  refine wp79 rfl rfl ?_
  simp (maxSteps := 4000000) +contextual only [↓packA0, ↓packA1, ↓packA2, ↓reduceIte, packB0, packB1, packB2, packB3, packB4, pureOp, quietOp, loadOp, quietB, fr0, cellsK, Option.getD_some, Option.getD_none, implies_true, ite_true, ite_false, eq_self, ne_eq, reduceCtorEq, Nat.reduceLT, Nat.reduceLeDiff, Nat.reduceAdd, Nat.reduceMul, Nat.reduceBEq, Nat.reduceEqDiff, Int.reduceToNat, Int.reduceLT, Int.reduceLE, Nat.reduceSub, pl79, tsize_3, tbytes_3, tagg_3, zcells_3, telem_3, tint_3, tnotIface_3, hv]
  rw [show (w == v) = decide (w = v) from rfl]
  exact hq
theorem clo80 : Clo 80 := by
  intro w v h vid exv Q hv hq
  refine wp80 rfl rfl ?_
  simp (maxSteps := 4000000) +contextual only [↓packA0, ↓packA1, ↓packA2, ↓reduceIte, packB0, packB1, packB2, packB3, packB4, pureOp, quietOp, loadOp, quietB, fr0, cellsK, Option.getD_some, Option.getD_none, implies_true, ite_true, ite_false, eq_self, ne_eq, reduceCtorEq, Nat.reduceLT, Nat.reduceLeDiff, Nat.reduceAdd, Nat.reduceMul, Nat.reduceBEq, Nat.reduceEqDiff, Int.reduceToNat, Int.reduceLT, Int.reduceLE, Nat.reduceSub, pl80, tsize_3, tbytes_3, tagg_3, zcells_3, telem_3, tint_3, tnotIface_3, hv]
  rw [show (w == v) = decide (w = v) from rfl]
  exact hq
set_option maxRecDepth 100000 in
theorem index_c {c : FuncId} (hclo : Clo c) {h : Heap} {id vid len cap : Nat} {ex ex' exv : Bool} {es : List Int} {v : Int} {Q : AV → Heap → Prop} (hb : es.length < 1000000000) (hid : h[id]? = some (.arr 1 (List.map intE es) ex')) (hvid : h[vid]? = some (.arr 1 [[.int .i64 v]] exv)) (hl : len ≤ es.length)
    (hq : ∀ k : Int, (k = -1 ∧ ∀ j, j < len → es.getD j default ≠ v) ∨ (∃ i : Nat, k = i ∧ i < len ∧ es.getD i default = v ∧ ∀ j, j < i → es.getD j default ≠ v) → Q (.int .i64 k) h) :
    ACalls Try.prog 100 [.osl id 1 0 len cap ex, .fn (.func c) [] [.op vid 1 0 0]] h Q := by
  refine wp100 rfl rfl ?_
  simp (maxSteps := 4000000) +contextual only [↓packA0, ↓packA1, ↓packA2, ↓reduceIte, packB0, packB1, packB2, packB3, packB4, pureOp, quietOp, loadOp, quietB, fr0, cellsK, Option.getD_some, Option.getD_none, implies_true, ite_true, ite_false, eq_self, ne_eq, reduceCtorEq, Nat.reduceLT, Nat.reduceLeDiff, Nat.reduceAdd, Nat.reduceMul, Nat.reduceBEq, Nat.reduceEqDiff, Int.reduceToNat, Int.reduceLT, Int.reduceLE, Nat.reduceSub, pl100, tsize_3, tbytes_3, tagg_3, zcells_3, telem_3, tint_3, tnotIface_3, tsize_23, tbytes_23, tagg_23, zcells_23, telem_23, tnotIface_23]
  refine LoopK.intro (fun m a h1 => ∃ k : Nat, m = len - k ∧ k ≤ len ∧ (∀ j, j < k → es.getD j default ≠ v) ∧ a 0 = .osl id 1 0 len cap ex ∧ a 1 = .fn (.func c) [] [.op vid 1 0 0] ∧ a 7 = .int .i64 len ∧ a 8 = .int .i64 k ∧ h1 = h) len ⟨0, rfl, Nat.zero_le _, fun j hj => absurd hj (Nat.not_lt_zero _), ?_⟩ ?_
  · simp (maxSteps := 4000000) +contextual only [↓packA0, ↓packA1, ↓packA2, ↓reduceIte, packB0, packB1, packB2, packB3, packB4, pureOp, quietOp, loadOp, quietB, fr0, cellsK, Option.getD_some, Option.getD_none, implies_true, ite_true, ite_false, eq_self, ne_eq, reduceCtorEq, Nat.reduceLT, Nat.reduceLeDiff, Nat.reduceAdd, Nat.reduceMul, Nat.reduceBEq, Nat.reduceEqDiff, Int.reduceToNat, Int.reduceLT, Int.reduceLE, Nat.reduceSub, pl100, tsize_3, tbytes_3, tagg_3, zcells_3, telem_3, tint_3, tnotIface_3, tsize_23, tbytes_23, tagg_23, zcells_23, telem_23, tnotIface_23, Int.natCast_zero]
  rintro m a h1 ⟨k, rfl, hk, hj, a0, a1, a7, a8, rfl⟩
  simp (maxSteps := 4000000) +contextual only [↓packA0, ↓packA1, ↓packA2, ↓reduceIte, packB0, packB1, packB2, packB3, packB4, pureOp, quietOp, loadOp, quietB, fr0, cellsK, Option.getD_some, Option.getD_none, implies_true, ite_true, ite_false, eq_self, ne_eq, reduceCtorEq, Nat.reduceLT, Nat.reduceLeDiff, Nat.reduceAdd, Nat.reduceMul, Nat.reduceBEq, Nat.reduceEqDiff, Int.reduceToNat, Int.reduceLT, Int.reduceLE, Nat.reduceSub, pl100, tsize_3, tbytes_3, tagg_3, zcells_3, telem_3, tint_3, tnotIface_3, tsize_23, tbytes_23, tagg_23, zcells_23, telem_23, tnotIface_23, a0, a1, a7, a8, hid]
  refine ⟨fun h2 => ⟨by omega, by omega, hclo hvid ?_⟩, fun h2 => hq _ (.inl ⟨rfl, fun j h3 => hj j (by omega)⟩)⟩
  simp (maxSteps := 4000000) +contextual only [↓packA0, ↓packA1, ↓packA2, ↓reduceIte, packB0, packB1, packB2, packB3, packB4, pureOp, quietOp, loadOp, quietB, fr0, cellsK, Option.getD_some, Option.getD_none, implies_true, ite_true, ite_false, eq_self, ne_eq, reduceCtorEq, Nat.reduceLT, Nat.reduceLeDiff, Nat.reduceAdd, Nat.reduceMul, Nat.reduceBEq, Nat.reduceEqDiff, Int.reduceToNat, Int.reduceLT, Int.reduceLE, Nat.reduceSub, pl100, tsize_3, tbytes_3, tagg_3, zcells_3, telem_3, tint_3, tnotIface_3, tsize_23, tbytes_23, tagg_23, zcells_23, telem_23, tnotIface_23, a0, a1, a7, a8, hid]
  refine ⟨fun h3 => hq _ (.inr ⟨k, rfl, by omega, h3, hj⟩), fun h3 => ⟨by omega, .inl ⟨len - (k + 1), by omega, k + 1, rfl, by omega, fun j h4 => ?_, by omega⟩⟩⟩
  rcases Nat.lt_or_ge j k with h5 | h5
  · exact hj j h5
  · rw [show j = k by omega]; exact h3
end Go.Proofs.Ytgdlkhgfehclpaa
end

section
/- DeleteFunc of one number. No condition. -/
namespace Go.Proofs.Ytgdlkhgfehclpaa
open Go Go.AL
set_option linter.unusedVariables false
set_option linter.unusedSimpArgs false
def rid (v : Int) (l : List Int) : List Int := l.filter (fun x => decide (x ≠ v))
theorem gd0 {xs : List Int} {i : Nat} (h : i < xs.length) : xs.getD i default = xs[i] := by simp [List.getD_eq_getElem?_getD, List.getElem?_eq_getElem h]
theorem rid_none {v : Int} {l : List Int} (h : ∀ j, j < l.length → l.getD j default ≠ v) : rid v l = l := by
  refine List.filter_eq_self.2 fun x hx => ?_
  obtain ⟨i, hi, e⟩ := List.getElem_of_mem hx
  have := h i hi
  rw [gd0 hi, e] at this
  simpa using this
theorem rid_take {v : Int} {l : List Int} {k : Nat} (hk : k < l.length) : rid v (l.take (k + 1)) = if l.getD k default = v then rid v (l.take k) else rid v (l.take k) ++ [l.getD k default] := by
  rw [show l.take (k + 1) = l.take k ++ [l.getD k default] by rw [List.take_add_one, List.getElem?_eq_getElem hk, List.getD_eq_getElem?_getD, List.getElem?_eq_getElem hk]; rfl]
  simp only [rid, List.filter_append]
  by_cases e : l.getD k default = v
  · rw [if_pos e, e]; simp
  · rw [if_neg e]; simp only [List.filter_cons, List.filter_nil, ne_eq, e, not_false_eq_true, decide_true, if_true]
theorem take_set_one {l : List Int} {i : Nat} {y : Int} (h : i < l.length) : (l.set i y).take (i + 1) = l.take i ++ [y] := by
  rw [List.take_add_one, List.getElem?_set_self h, List.take_set, List.set_eq_of_length_le (by simp; omega)]
  rfl
theorem getD_set_ne {l : List Int} {i j : Nat} {y : Int} (h : i ≠ j) : (l.set i y).getD j default = l.getD j default := by
  simp only [List.getD_eq_getElem?_getD, List.getElem?_set_ne h]
set_option maxRecDepth 100000 in
theorem del_c {c : FuncId} (hclo : Clo c) {h : Heap} {id vid len cap : Nat} {ex ex' exv : Bool} {es : List Int} {v : Int} {Q : AV → Heap → Prop} (hb : es.length < 1000000000) (hid : h[id]? = some (.arr 1 (List.map intE es) ex')) (hvid : h[vid]? = some (.arr 1 [[.int .i64 v]] exv)) (hne : id ≠ vid) (hl : len ≤ es.length) (hc : len ≤ cap)
    (hq : ∀ es' : List Int, es'.length = es.length → es'.take (rid v (es.take len)).length = rid v (es.take len) → Q (.osl id 1 0 (rid v (es.take len)).length cap ex) (h.set id (.arr 1 (List.map intE es') ex'))) :
    ACalls Try.prog 78 [.osl id 1 0 len cap ex, .fn (.func c) [] [.op vid 1 0 0]] h Q := by
  have hlt : id < h.length := (List.getElem?_eq_some_iff.1 hid).1
  have hself : h.set id (.arr 1 (List.map intE es) ex') = h := by
    apply List.ext_getElem?
    intro i
    rw [List.getElem?_set]
    by_cases e : id = i
    · subst e; rw [if_pos rfl, if_pos hlt, hid]
    · rw [if_neg e]
  refine wp78 rfl rfl ?_
  simp (maxSteps := 4000000) +contextual only [↓packA0, ↓packA1, ↓packA2, ↓reduceIte, packB0, packB1, packB2, packB3, packB4, pureOp, quietOp, loadOp, quietB, fr0, cellsK, Option.getD_some, Option.getD_none, implies_true, ite_true, ite_false, eq_self, ne_eq, reduceCtorEq, Nat.reduceLT, Nat.reduceLeDiff, Nat.reduceAdd, Nat.reduceMul, Nat.reduceBEq, Nat.reduceEqDiff, Int.reduceToNat, Int.reduceLT, Int.reduceLE, Nat.reduceSub, pl78, tsize_3, tbytes_3, tagg_3, zcells_3, telem_3, tint_3, tnotIface_3, tsize_4, tbytes_4, tagg_4, zcells_4, telem_4, tbool_4, tnotIface_4, tsize_23, tbytes_23, tagg_23, zcells_23, telem_23, tnotIface_23, tfun_135, telem_135]
  refine index_c hclo hb hid hvid hl fun k hk => ?_
  rcases hk with ⟨rfl, hno⟩ | ⟨i, rfl, hi, hv, hno⟩
  · simp (maxSteps := 4000000) +contextual only [↓packA0, ↓packA1, ↓packA2, ↓reduceIte, packB0, packB1, packB2, packB3, packB4, pureOp, quietOp, loadOp, quietB, fr0, cellsK, Option.getD_some, Option.getD_none, implies_true, ite_true, ite_false, eq_self, ne_eq, reduceCtorEq, Nat.reduceLT, Nat.reduceLeDiff, Nat.reduceAdd, Nat.reduceMul, Nat.reduceBEq, Nat.reduceEqDiff, Int.reduceToNat, Int.reduceLT, Int.reduceLE, Nat.reduceSub, pl78, tsize_3, tbytes_3, tagg_3, zcells_3, telem_3, tint_3, tnotIface_3, tsize_4, tbytes_4, tagg_4, zcells_4, telem_4, tbool_4, tnotIface_4, tsize_23, tbytes_23, tagg_23, zcells_23, telem_23, tnotIface_23, tfun_135, telem_135, Int.cast_ofNat_Int, Int.natCast_zero, Int.natCast_one, Int.reduceAdd, Int.reduceSub, Int.reduceNeg, Int.reduceMul, Int.reduceToNat, Int.reduceLT, Int.reduceLE, Int.reduceEq, Int.reduceBEq, Int.reduceBNe, Nat.reduceSub, Nat.reduceLT, List.getD_cons_zero, List.getD_cons_succ, List.length_singleton, Bool.and_true, Bool.and_false]
    have hr : rid v (es.take len) = es.take len := rid_none fun j hj => by
      simp only [List.length_take] at hj
      have := hno j (by omega)
      rw [List.getD_eq_getElem?_getD, List.getElem?_take, if_pos (by omega), ← List.getD_eq_getElem?_getD]
      exact this
    have := hq es rfl (by rw [hr]; simp)
    rw [hr, hself] at this
    simp only [List.length_take, Nat.min_eq_left hl] at this
    exact this
  · simp (maxSteps := 4000000) +contextual only [↓packA0, ↓packA1, ↓packA2, ↓reduceIte, packB0, packB1, packB2, packB3, packB4, pureOp, quietOp, loadOp, quietB, fr0, cellsK, Option.getD_some, Option.getD_none, implies_true, ite_true, ite_false, eq_self, ne_eq, reduceCtorEq, Nat.reduceLT, Nat.reduceLeDiff, Nat.reduceAdd, Nat.reduceMul, Nat.reduceBEq, Nat.reduceEqDiff, Int.reduceToNat, Int.reduceLT, Int.reduceLE, Nat.reduceSub, pl78, tsize_3, tbytes_3, tagg_3, zcells_3, telem_3, tint_3, tnotIface_3, tsize_4, tbytes_4, tagg_4, zcells_4, telem_4, tbool_4, tnotIface_4, tsize_23, tbytes_23, tagg_23, zcells_23, telem_23, tnotIface_23, tfun_135, telem_135]
    have hse : ∀ o : Ob, (h.set id o)[id]? = some o := fun o => List.getElem?_set_self hlt
    have hsv : ∀ o : Ob, (h.set id o)[vid]? = some (.arr 1 [[.int .i64 v]] exv) := fun o => by rw [List.getElem?_set_ne hne]; exact hvid
    have hr0 : rid v (es.take i) = es.take i := rid_none fun j hj => by
      simp only [List.length_take] at hj
      have := hno j (by omega)
      rw [List.getD_eq_getElem?_getD, List.getElem?_take, if_pos (by omega), ← List.getD_eq_getElem?_getD]
      exact this
    have hr1 : rid v (es.take (i + 1)) = es.take i := by rw [rid_take (by omega), if_pos hv, hr0]
    refine ⟨by omega, ?_⟩
    refine LoopK.intro (fun m a h1 => ∃ (j : Nat) (es1 : List Int), m = len - j ∧ j ≤ len ∧ (rid v (es.take j)).length < j ∧ es1.length = es.length ∧ es1.take (rid v (es.take j)).length = rid v (es.take j) ∧ (∀ t, j ≤ t → es1.getD t default = es.getD t default) ∧ a 0 = .osl id 1 0 len cap ex ∧ a 1 = .fn (.func c) [] [.op vid 1 0 0] ∧ a 5 = .int .i64 (rid v (es.take j)).length ∧ a 6 = .int .i64 j ∧ h1 = h.set id (.arr 1 (List.map intE es1) ex')) (len - (i + 1)) ⟨i + 1, es, ?_⟩ ?_
    · simp (maxSteps := 4000000) only [↓packA0, ↓packA1, ↓packA2, ↓reduceIte, packB0, packB1, packB2, packB3, packB4, pureOp, quietOp, loadOp, quietB, fr0, cellsK, Option.getD_some, Option.getD_none, implies_true, ite_true, ite_false, eq_self, ne_eq, reduceCtorEq, Nat.reduceLT, Nat.reduceLeDiff, Nat.reduceAdd, Nat.reduceMul, Nat.reduceBEq, Nat.reduceEqDiff, Int.reduceToNat, Int.reduceLT, Int.reduceLE, Nat.reduceSub, pl78, tsize_3, tbytes_3, tagg_3, zcells_3, telem_3, tint_3, tnotIface_3, tsize_4, tbytes_4, tagg_4, zcells_4, telem_4, tbool_4, tnotIface_4, tsize_23, tbytes_23, tagg_23, zcells_23, telem_23, tnotIface_23, tfun_135, telem_135, hr1, hself]
      have hti : (List.take i es).length = i := by simp; omega
      rw [hti]
      exact ⟨by omega, by omega, rfl, rfl, by omega⟩
    rintro m a h1 ⟨j, es1, rfl, hj, hij, hes, htk, hdr, a0, a1, a5, a6, rfl⟩
    simp (maxSteps := 4000000) +contextual only [↓packA0, ↓packA1, ↓packA2, ↓reduceIte, packB0, packB1, packB2, packB3, packB4, pureOp, quietOp, loadOp, quietB, fr0, cellsK, Option.getD_some, Option.getD_none, implies_true, ite_true, ite_false, eq_self, ne_eq, reduceCtorEq, Nat.reduceLT, Nat.reduceLeDiff, Nat.reduceAdd, Nat.reduceMul, Nat.reduceBEq, Nat.reduceEqDiff, Int.reduceToNat, Int.reduceLT, Int.reduceLE, Nat.reduceSub, pl78, tsize_3, tbytes_3, tagg_3, zcells_3, telem_3, tint_3, tnotIface_3, tsize_4, tbytes_4, tagg_4, zcells_4, telem_4, tbool_4, tnotIface_4, tsize_23, tbytes_23, tagg_23, zcells_23, telem_23, tnotIface_23, tfun_135, telem_135, a0, a1, a5, a6, hse]
    refine ⟨fun h2 => ⟨by omega, by omega, hclo (hsv _) ?_⟩, fun h2 => ?_⟩
    · have hrt := rid_take (v := v) (l := es) (k := j) (by omega)
      simp (maxSteps := 4000000) +contextual only [↓packA0, ↓packA1, ↓packA2, ↓reduceIte, packB0, packB1, packB2, packB3, packB4, pureOp, quietOp, loadOp, quietB, fr0, cellsK, Option.getD_some, Option.getD_none, implies_true, ite_true, ite_false, eq_self, ne_eq, reduceCtorEq, Nat.reduceLT, Nat.reduceLeDiff, Nat.reduceAdd, Nat.reduceMul, Nat.reduceBEq, Nat.reduceEqDiff, Int.reduceToNat, Int.reduceLT, Int.reduceLE, Nat.reduceSub, pl78, tsize_3, tbytes_3, tagg_3, zcells_3, telem_3, tint_3, tnotIface_3, tsize_4, tbytes_4, tagg_4, zcells_4, telem_4, tbool_4, tnotIface_4, tsize_23, tbytes_23, tagg_23, zcells_23, telem_23, tnotIface_23, tfun_135, telem_135, a0, a1, a5, a6, hse, List.set_set]
      have hd := hdr j (Nat.le_refl _)
      rw [hd]
      refine ⟨fun h3 => ?_, fun h3 => ?_⟩
      · rw [if_pos h3] at hrt
        exact ⟨by omega, .inl ⟨len - (j + 1), by omega, j + 1, es1, rfl, by omega, by rw [hrt]; omega, hes, by rw [hrt]; exact htk, fun t ht => hdr t (by omega), by rw [hrt], by omega, rfl⟩⟩
      · rw [if_neg h3] at hrt
        refine ⟨by omega, by omega, by omega, by omega, .inl ⟨len - (j + 1), by omega, j + 1, es1.set (rid v (List.take j es)).length (es.getD j default), rfl, by omega, by rw [hrt]; simp; omega, by simp [hes], ?_, fun t ht => ?_, by rw [hrt]; simp, by omega, rfl⟩⟩
        · rw [hrt]
          simp only [List.length_append, List.length_singleton]
          rw [take_set_one (by omega), htk]
        · rw [getD_set_ne (by omega)]
          exact hdr t (by omega)
    · obtain rfl : j = len := by omega
      have hs2 : (rid v (List.take j es)).length < cap ∨ (rid v (List.take j es)).length = 0 := by omega
      rw [if_pos hs2]
      refine ⟨by omega, by omega, by omega, by omega, by omega, ?_⟩
      rw [List.set_set, ← List.map_take, ← List.map_drop, ← List.map_append, ← List.map_append]
      have hi1 : (List.take (rid v (List.take j es)).length es1).length = (rid v (List.take j es)).length := by simp only [List.length_take]; omega
      refine hq _ ?_ ?_
      · simp only [List.length_append, List.length_replicate, List.length_drop, hi1]
        omega
      · rw [List.append_assoc, List.take_left' hi1, htk]
end Go.Proofs.Ytgdlkhgfehclpaa
end

section
/- Windows of a list that are put in another order: the plain part of a stable sort. No condition. -/
namespace Go.Proofs.Ytgdlkhgfehclpaa
open Go Go.AL
set_option linter.unusedVariables false
set_option linter.unusedSimpArgs false
/-- The number at a place. -/
def gv (l : List Int) (i : Nat) : Int := l.getD i default
/-- The order that is asked for: the degree falls; among equal ones the number rises. -/
def ltD (d : Int → Int) (x y : Int) : Prop := d y < d x ∨ (d x = d y ∧ x < y)
theorem ltD_trans {d : Int → Int} {x y z : Int} (h1 : ltD d x y) (h2 : ltD d y z) : ltD d x z := by unfold ltD at *; omega
theorem ltD_irrefl {d : Int → Int} {x : Int} : ¬ ltD d x x := by unfold ltD; omega
/-- A window's numbers in another order, the rest as it was. -/
structure Sm (es gs : List Int) (a b : Nat) : Prop where
  len : gs.length = es.length
  to : ∀ i, a ≤ i → i < b → ∃ j, a ≤ j ∧ j < b ∧ gv gs i = gv es j
  fro : ∀ i, a ≤ i → i < b → ∃ j, a ≤ j ∧ j < b ∧ gv es i = gv gs j
  out : ∀ i, i < a ∨ b ≤ i → gv gs i = gv es i
theorem Sm.rfl' {es : List Int} {a b : Nat} : Sm es es a b := ⟨rfl, fun i h1 h2 => ⟨i, h1, h2, rfl⟩, fun i h1 h2 => ⟨i, h1, h2, rfl⟩, fun i _ => rfl⟩
theorem Sm.trans {es gs hs : List Int} {a b : Nat} (h : Sm es gs a b) (k : Sm gs hs a b) : Sm es hs a b := by
  refine ⟨k.len.trans h.len, fun i h1 h2 => ?_, fun i h1 h2 => ?_, fun i h1 => (k.out i h1).trans (h.out i h1)⟩
  · obtain ⟨j, j1, j2, e⟩ := k.to i h1 h2
    obtain ⟨t, t1, t2, e2⟩ := h.to j j1 j2
    exact ⟨t, t1, t2, e.trans e2⟩
  · obtain ⟨j, j1, j2, e⟩ := h.fro i h1 h2
    obtain ⟨t, t1, t2, e2⟩ := k.fro j j1 j2
    exact ⟨t, t1, t2, e.trans e2⟩
theorem Sm.wide {es gs : List Int} {a b c e : Nat} (h : Sm es gs a b) (h1 : c ≤ a) (h2 : b ≤ e) : Sm es gs c e := by
  refine ⟨h.len, fun i i1 i2 => ?_, fun i i1 i2 => ?_, fun i i1 => h.out i (by omega)⟩
  · by_cases hw : a ≤ i ∧ i < b
    · obtain ⟨j, j1, j2, e⟩ := h.to i hw.1 hw.2
      exact ⟨j, by omega, by omega, e⟩
    · exact ⟨i, i1, i2, h.out i (by omega)⟩
  · by_cases hw : a ≤ i ∧ i < b
    · obtain ⟨j, j1, j2, e⟩ := h.fro i hw.1 hw.2
      exact ⟨j, by omega, by omega, e⟩
    · exact ⟨i, i1, i2, (h.out i (by omega)).symm⟩
/-- What holds of all numbers of a window goes on holding, for each window about the one that was put in another order. -/
theorem Sm.all {es gs : List Int} {a b c e : Nat} (h : Sm es gs a b) {p : Int → Prop} (h1 : c ≤ a) (h2 : b ≤ e) (hp : ∀ i, c ≤ i → i < e → p (gv es i)) : ∀ i, c ≤ i → i < e → p (gv gs i) := by
  intro i i1 i2
  obtain ⟨j, j1, j2, e⟩ := (h.wide h1 h2).to i i1 i2
  rw [e]; exact hp j j1 j2
/-- And for each window apart from it. -/
theorem Sm.off {es gs : List Int} {a b c e : Nat} (h : Sm es gs a b) {p : Int → Prop} (h1 : e ≤ a ∨ b ≤ c) (hp : ∀ i, c ≤ i → i < e → p (gv es i)) : ∀ i, c ≤ i → i < e → p (gv gs i) := by
  intro i i1 i2
  rw [h.out i (by omega)]; exact hp i i1 i2
def sw (l : List Int) (i j : Nat) : List Int := (l.set i (gv l j)).set j (gv l i)
theorem gv_set {l : List Int} {i k : Nat} {x : Int} (h : i < l.length) : gv (l.set i x) k = if k = i then x else gv l k := by
  unfold gv
  by_cases e : k = i
  · subst e; rw [if_pos rfl, List.getD_eq_getElem?_getD, List.getElem?_set_self h]; rfl
  · rw [if_neg e]; exact getD_set_ne (fun h => e h.symm)
theorem gv_sw {l : List Int} {i j k : Nat} (hi : i < l.length) (hj : j < l.length) : gv (sw l i j) k = if k = j then gv l i else if k = i then gv l j else gv l k := by
  unfold sw
  rw [gv_set (by simpa using hj), gv_set hi]
theorem sw_len {l : List Int} {i j : Nat} : (sw l i j).length = l.length := by simp [sw]
theorem Sm.sw {l : List Int} {i j a b : Nat} (hi : i < l.length) (hj : j < l.length) (h : a ≤ i ∧ i < b ∧ a ≤ j ∧ j < b) : Sm l (sw l i j) a b := by
  refine ⟨sw_len, fun k k1 k2 => ?_, fun k k1 k2 => ?_, fun k k1 => ?_⟩
  · rw [gv_sw hi hj]
    by_cases e : k = j
    · exact ⟨i, by omega, by omega, by rw [if_pos e]⟩
    · rw [if_neg e]
      by_cases e2 : k = i
      · exact ⟨j, by omega, by omega, by rw [if_pos e2]⟩
      · exact ⟨k, by omega, by omega, by rw [if_neg e2]⟩
  · by_cases e : k = j
    · refine ⟨i, by omega, by omega, ?_⟩
      rw [gv_sw hi hj]
      by_cases e2 : i = j
      · rw [if_pos e2, e, e2]
      · rw [if_neg e2, if_pos rfl, e]
    · by_cases e2 : k = i
      · exact ⟨j, by omega, by omega, by rw [gv_sw hi hj, if_pos rfl, e2]⟩
      · exact ⟨k, by omega, by omega, by rw [gv_sw hi hj, if_neg e, if_neg e2]⟩
  · rw [gv_sw hi hj, if_neg (by omega), if_neg (by omega)]
/-- A window is sorted. -/
def Sd (d : Int → Int) (l : List Int) (a b : Nat) : Prop := ∀ i j, a ≤ i → i < j → j < b → ltD d (gv l i) (gv l j)
/-- All of a window lies ahead of all of another one. -/
def Xd (d : Int → Int) (l : List Int) (a b c e : Nat) : Prop := ∀ i j, a ≤ i → i < b → c ≤ j → j < e → ltD d (gv l i) (gv l j)
/-- Likewise by the number alone. -/
def Xn (l : List Int) (a b c e : Nat) : Prop := ∀ i j, a ≤ i → i < b → c ≤ j → j < e → gv l i < gv l j
theorem Sd.off {d : Int → Int} {es gs : List Int} {a b c e : Nat} (h : Sd d es c e) (k : Sm es gs a b) (h1 : e ≤ a ∨ b ≤ c) : Sd d gs c e := by
  intro i j h2 h3 h4
  rw [k.out i (by omega), k.out j (by omega)]; exact h i j h2 h3 h4
theorem Sd.sub {d : Int → Int} {es : List Int} {a b c e : Nat} (h : Sd d es a b) (h1 : a ≤ c) (h2 : e ≤ b) : Sd d es c e := fun i j i1 i2 i3 => h i j (by omega) i2 (by omega)
theorem Sd.join {d : Int → Int} {es : List Int} {a m b : Nat} (h : Sd d es a m) (k : Sd d es m b) (x : Xd d es a m m b) : Sd d es a b := by
  intro i j h1 h2 h3
  by_cases e : j < m
  · exact h i j h1 h2 e
  · by_cases e2 : m ≤ i
    · exact k i j e2 h2 h3
    · exact x i j h1 (by omega) (by omega) h3
theorem Xd.perm {d : Int → Int} {es gs : List Int} {a b c e p q : Nat} (h : Xd d es a b c e) (k : Sm es gs p q) (h1 : (a ≤ p ∧ q ≤ b) ∨ q ≤ a ∨ b ≤ p) (h2 : (c ≤ p ∧ q ≤ e) ∨ q ≤ c ∨ e ≤ p) : Xd d gs a b c e := by
  intro i j i1 i2 j1 j2
  have hi : ∃ i', a ≤ i' ∧ i' < b ∧ gv gs i = gv es i' := by
    rcases h1 with h1 | h1
    · exact (k.wide h1.1 h1.2).to i i1 i2
    · exact ⟨i, i1, i2, k.out i (by omega)⟩
  have hj : ∃ j', c ≤ j' ∧ j' < e ∧ gv gs j = gv es j' := by
    rcases h2 with h2 | h2
    · exact (k.wide h2.1 h2.2).to j j1 j2
    · exact ⟨j, j1, j2, k.out j (by omega)⟩
  obtain ⟨i', a1, a2, a3⟩ := hi
  obtain ⟨j', b1, b2, b3⟩ := hj
  rw [a3, b3]; exact h i' j' a1 a2 b1 b2
theorem Xn.perm {es gs : List Int} {a b c e p q : Nat} (h : Xn es a b c e) (k : Sm es gs p q) (h1 : (a ≤ p ∧ q ≤ b) ∨ q ≤ a ∨ b ≤ p) (h2 : (c ≤ p ∧ q ≤ e) ∨ q ≤ c ∨ e ≤ p) : Xn gs a b c e := by
  intro i j i1 i2 j1 j2
  have hi : ∃ i', a ≤ i' ∧ i' < b ∧ gv gs i = gv es i' := by
    rcases h1 with h1 | h1
    · exact (k.wide h1.1 h1.2).to i i1 i2
    · exact ⟨i, i1, i2, k.out i (by omega)⟩
  have hj : ∃ j', c ≤ j' ∧ j' < e ∧ gv gs j = gv es j' := by
    rcases h2 with h2 | h2
    · exact (k.wide h2.1 h2.2).to j j1 j2
    · exact ⟨j, j1, j2, k.out j (by omega)⟩
  obtain ⟨i', a1, a2, a3⟩ := hi
  obtain ⟨j', b1, b2, b3⟩ := hj
  rw [a3, b3]; exact h i' j' a1 a2 b1 b2
theorem Xn.sub {es : List Int} {a b c e a' b' c' e' : Nat} (h : Xn es a b c e) (h1 : a ≤ a') (h2 : b' ≤ b) (h3 : c ≤ c') (h4 : e' ≤ e) : Xn es a' b' c' e' := fun i j i1 i2 j1 j2 => h i j (by omega) (by omega) (by omega) (by omega)
/-- The numbers rise within a window. -/
def Up (l : List Int) (a b : Nat) : Prop := ∀ i j, a ≤ i → i < j → j < b → gv l i < gv l j
/-- Insertion: within [a, i] all but place j is sorted, and what stands at j belongs ahead of what is behind it, and has the greatest number. -/
structure Ins (d : Int → Int) (es cs : List Int) (a i j : Nat) : Prop where
  sm : Sm es cs a (i + 1)
  so : ∀ p q, a ≤ p → p < q → q ≤ i → p ≠ j → q ≠ j → ltD d (gv cs p) (gv cs q)
  be : ∀ q, j < q → q ≤ i → ltD d (gv cs j) (gv cs q)
  nu : ∀ p, a ≤ p → p ≤ i → p ≠ j → gv cs p < gv cs j
theorem Ins.start {d : Int → Int} {es cs : List Int} {a b i : Nat} (hu : Up es a b) (hi : i < b) (hai : a ≤ i) (hs : Sm es cs a i) (hd : Sd d cs a i) : Ins d es cs a i i := by
  refine ⟨hs.wide (Nat.le_refl _) (by omega), fun p q h1 h2 h3 h4 h5 => hd p q h1 h2 (by omega), fun q h1 h2 => by omega, fun p h1 h2 h3 => ?_⟩
  obtain ⟨j, j1, j2, e⟩ := hs.to p h1 (by omega)
  rw [e, hs.out i (.inr (Nat.le_refl _))]
  exact hu j i j1 j2 hi
theorem Ins.step {d : Int → Int} {es cs : List Int} {a i j : Nat} (h : Ins d es cs a i j) (hj : a < j) (hji : j ≤ i) (hl : i < cs.length) (hc : d (gv cs (j - 1)) < d (gv cs j)) : Ins d es (sw cs j (j - 1)) a i (j - 1) := by
  have g : ∀ k, gv (sw cs j (j - 1)) k = if k = j - 1 then gv cs j else if k = j then gv cs (j - 1) else gv cs k := fun k => gv_sw (by omega) (by omega)
  refine ⟨h.sm.trans (Sm.sw (by omega) (by omega) (by omega)), fun p q h1 h2 h3 h4 h5 => ?_, fun q h1 h2 => ?_, fun p h1 h2 h3 => ?_⟩
  · rw [g p, g q, if_neg h4, if_neg h5]
    by_cases e : p = j
    · rw [if_pos e, if_neg (by omega)]
      exact h.so (j - 1) q (by omega) (by omega) h3 (by omega) (by omega)
    · rw [if_neg e]
      by_cases e2 : q = j
      · rw [if_pos e2]
        exact h.so p (j - 1) h1 (by omega) (by omega) (by omega) (by omega)
      · rw [if_neg e2]
        exact h.so p q h1 h2 h3 e e2
  · rw [g (j - 1), g q, if_pos rfl, if_neg (by omega)]
    by_cases e : q = j
    · rw [if_pos e]; exact .inl hc
    · rw [if_neg e]; exact h.be q (by omega) h2
  · rw [g (j - 1), g p, if_pos rfl, if_neg h3]
    by_cases e : p = j
    · rw [if_pos e]; exact h.nu (j - 1) (by omega) (by omega) (by omega)
    · rw [if_neg e]; exact h.nu p h1 h2 e
theorem Ins.stop {d : Int → Int} {es cs : List Int} {a i j : Nat} (h : Ins d es cs a i j) (haj : a ≤ j) (hji : j ≤ i) (hc : j = a ∨ ¬ d (gv cs (j - 1)) < d (gv cs j)) : Sd d cs a (i + 1) := by
  intro p q h1 h2 h3
  by_cases e : p = j
  · subst e; exact h.be q h2 (by omega)
  by_cases e2 : q = j
  · subst e2
    have hl : ltD d (gv cs (q - 1)) (gv cs q) := by
      have h4 := h.nu (q - 1) (by omega) (by omega) (by omega)
      unfold ltD; omega
    by_cases e3 : p = q - 1
    · rw [e3]; exact hl
    · exact ltD_trans (h.so p (q - 1) h1 (by omega) (by omega) e (by omega)) hl
  exact h.so p q h1 h2 (by omega) e e2
/-- A left half of one number, put where it belongs. -/
theorem ins_left {d : Int → Int} {es gs : List Int} {a b i : Nat} (hs : Sd d es (a + 1) b) (h1 : a + 1 ≤ i) (h2 : i ≤ b) (hl : i = a + 1 ∨ ltD d (gv es (i - 1)) (gv es a)) (hr : i = b ∨ ltD d (gv es a) (gv es i))
    (g1 : ∀ q, a ≤ q → q < i - 1 → gv gs q = gv es (q + 1)) (g2 : gv gs (i - 1) = gv es a) (g3 : ∀ q, i ≤ q → gv gs q = gv es q) : Sd d gs a b := by
  intro p q p1 p2 p3
  by_cases e : q < i - 1
  · rw [g1 p p1 (by omega), g1 q (by omega) e]; exact hs _ _ (by omega) (by omega) (by omega)
  by_cases e2 : q = i - 1
  · subst e2
    rw [g2, g1 p p1 p2]
    have hl : ltD d (gv es (i - 1)) (gv es a) := hl.resolve_left (by omega)
    by_cases e3 : p + 1 = i - 1
    · rw [e3]; exact hl
    · exact ltD_trans (hs _ _ (by omega) (by omega) (by omega)) hl
  have hr : ltD d (gv es a) (gv es i) := hr.resolve_left (by omega)
  rw [g3 q (by omega)]
  by_cases e3 : p < i - 1
  · rw [g1 p p1 e3]; exact hs _ _ (by omega) (by omega) p3
  by_cases e4 : p = i - 1
  · rw [e4, g2]
    by_cases e5 : q = i
    · rw [e5]; exact hr
    · exact ltD_trans hr (hs _ _ (by omega) (by omega) p3)
  · rw [g3 p (by omega)]; exact hs _ _ (by omega) p2 p3
/-- A right half of one number. -/
theorem ins_right {d : Int → Int} {es gs : List Int} {a m i : Nat} (hs : Sd d es a m) (h1 : a ≤ i) (h2 : i ≤ m) (hl : i = a ∨ ltD d (gv es (i - 1)) (gv es m)) (hr : i = m ∨ ltD d (gv es m) (gv es i))
    (g1 : ∀ q, q < i → gv gs q = gv es q) (g2 : gv gs i = gv es m) (g3 : ∀ q, i < q → q ≤ m → gv gs q = gv es (q - 1)) : Sd d gs a (m + 1) := by
  intro p q p1 p2 p3
  by_cases e : q < i
  · rw [g1 p (by omega), g1 q e]; exact hs _ _ p1 p2 (by omega)
  by_cases e2 : q = i
  · subst e2
    rw [g2, g1 p p2]
    have hl : ltD d (gv es (q - 1)) (gv es m) := hl.resolve_left (by omega)
    by_cases e3 : p = q - 1
    · rw [e3]; exact hl
    · exact ltD_trans (hs _ _ (by omega) (by omega) (by omega)) hl
  have hr : ltD d (gv es m) (gv es i) := hr.resolve_left (by omega)
  rw [g3 q (by omega) (by omega)]
  by_cases e3 : p < i
  · rw [g1 p e3]; exact hs _ _ p1 (by omega) (by omega)
  by_cases e4 : p = i
  · rw [e4, g2]
    by_cases e5 : q - 1 = i
    · rw [e5]; exact hr
    · exact ltD_trans hr (hs _ _ (by omega) (by omega) (by omega))
  · rw [g3 p (by omega) (by omega)]; exact hs _ _ (by omega) (by omega) (by omega)
/-- Two neighbouring windows change places. -/
structure Rt (es gs : List Int) (a m b : Nat) : Prop where
  sm : Sm es gs a b
  le : ∀ k, a ≤ k → k < a + (b - m) → gv gs k = gv es (k + (m - a))
  ri : ∀ k, a + (b - m) ≤ k → k < b → gv gs k = gv es (k - (b - m))
/-- What the symmetric merge has found: start and its mirror image about m. -/
structure Cut (d : Int → Int) (es : List Int) (a m b s mid : Nat) : Prop where
  s0 : a ≤ s
  s1 : s ≤ m
  s2 : s ≤ mid
  s3 : m + mid ≤ b + s
  lo : s = a ∨ m + mid = b + s ∨ ltD d (gv es (s - 1)) (gv es (m + mid - s))
  hi : s = m ∨ s = mid ∨ ltD d (gv es (m + mid - s - 1)) (gv es s)
theorem Cut.cross {d : Int → Int} {es gs : List Int} {a m b s mid : Nat} (hc : Cut d es a m b s mid) (hl : Sd d es a m) (hr : Sd d es m b) (hm : a ≤ mid ∧ mid ≤ b)
    (hle : ∀ k, s ≤ k → k < mid → gv gs k = gv es (k + (m - s))) (hri : ∀ k, mid ≤ k → k < m + mid - s → gv gs k = gv es (k - (mid - s))) (ho : ∀ k, k < s ∨ m + mid - s ≤ k → gv gs k = gv es k) : Xd d gs a mid mid b := by
  obtain ⟨s0, s1, s2, s3, lo, hi⟩ := hc
  have hLR : ∀ i j, a ≤ i → i < s → m + mid - s ≤ j → j < b → ltD d (gv es i) (gv es j) := by
    intro i j h1 h2 h3 h4
    have lo := (lo.resolve_left (by omega)).resolve_left (by omega)
    have l1 : i = s - 1 ∨ ltD d (gv es i) (gv es (s - 1)) := by
      by_cases e : i = s - 1
      · exact .inl e
      · exact .inr (hl _ _ h1 (by omega) (by omega))
    have l2 : m + mid - s = j ∨ ltD d (gv es (m + mid - s)) (gv es j) := by
      by_cases e : m + mid - s = j
      · exact .inl e
      · exact .inr (hr _ _ (by omega) (by omega) h4)
    have l3 : ltD d (gv es i) (gv es (m + mid - s)) := by
      rcases l1 with rfl | l1
      · exact lo
      · exact ltD_trans l1 lo
    rcases l2 with l2 | l2
    · rw [← l2]; exact l3
    · exact ltD_trans l3 l2
  have hRL : ∀ i j, m ≤ i → i < m + mid - s → s ≤ j → j < m → ltD d (gv es i) (gv es j) := by
    intro i j h1 h2 h3 h4
    have hi := (hi.resolve_left (by omega)).resolve_left (by omega)
    have l1 : i = m + mid - s - 1 ∨ ltD d (gv es i) (gv es (m + mid - s - 1)) := by
      by_cases e : i = m + mid - s - 1
      · exact .inl e
      · exact .inr (hr _ _ h1 (by omega) (by omega))
    have l2 : s = j ∨ ltD d (gv es s) (gv es j) := by
      by_cases e : s = j
      · exact .inl e
      · exact .inr (hl _ _ (by omega) (by omega) h4)
    have l3 : ltD d (gv es i) (gv es s) := by
      rcases l1 with rfl | l1
      · exact hi
      · exact ltD_trans l1 hi
    rcases l2 with l2 | l2
    · rw [← l2]; exact l3
    · exact ltD_trans l3 l2
  intro i j i1 i2 j1 j2
  by_cases c1 : i < s
  · rw [ho i (.inl c1)]
    by_cases c2 : j < m + mid - s
    · rw [hri j j1 c2]; exact hl _ _ i1 (by omega) (by omega)
    · rw [ho j (by omega)]; exact hLR i j i1 c1 (by omega) j2
  · rw [hle i (by omega) i2]
    by_cases c2 : j < m + mid - s
    · rw [hri j j1 c2]; exact hRL _ _ (by omega) (by omega) (by omega) (by omega)
    · rw [ho j (by omega)]; exact hr _ _ (by omega) (by omega) j2
end Go.Proofs.Ytgdlkhgfehclpaa
end

section
/- Ranges change places, blocks change places. No condition. -/
namespace Go.Proofs.Ytgdlkhgfehclpaa
open Go Go.AL
set_option linter.unusedVariables false
set_option linter.unusedSimpArgs false
theorem set_same {h : Heap} {id : Nat} {o : Ob} (hid : h[id]? = some o) : h.set id o = h := by
  have hlt : id < h.length := (List.getElem?_eq_some_iff.1 hid).1
  apply List.ext_getElem?
  intro i
  rw [List.getElem?_set]
  by_cases e : id = i
  · subst e; rw [if_pos rfl, if_pos hlt, hid]
  · rw [if_neg e]
/-- What stands at a place when two ranges of k numbers have changed places. -/
def swR (es : List Int) (a b k q : Nat) : Int := if a ≤ q ∧ q < a + k then gv es (q + (b - a)) else if b ≤ q ∧ q < b + k then gv es (q - (b - a)) else gv es q
/-- What stands at a place when [a, m) and [m, b) have changed places. -/
def rtR (es : List Int) (a m b q : Nat) : Int := if a ≤ q ∧ q < a + (b - m) then gv es (q + (m - a)) else if a + (b - m) ≤ q ∧ q < b then gv es (q - (b - m)) else gv es q
theorem swR_step {es cs : List Int} {a b k n : Nat} (hab : a + n ≤ b) (hk : k < n) (hl : b + n ≤ cs.length) (h : ∀ q, gv cs q = swR es a b k q) : ∀ q, gv (sw cs (a + k) (b + k)) q = swR es a b (k + 1) q := by
  intro q
  rw [gv_sw (by omega) (by omega), h (a + k), h (b + k), h q]
  unfold swR
  repeat' split
  all_goals first | rfl | (congr 1; omega) | (exfalso; omega)
theorem rtR_left {cs gs : List Int} {m : Nat} {i j : Nat} (hi : j < i) (hj : 0 < j) (hia : i ≤ m) (hg : ∀ q, gv gs q = swR cs (m - i) m j q) : ∀ q, rtR cs (m - i) m (m + j) q = rtR gs (m - (i - j)) m (m + j) q := by
  intro q
  unfold rtR
  rw [hg q, hg (q + (m - (m - (i - j)))), hg (q - (m + j - m))]
  unfold swR
  repeat' split
  all_goals first | rfl | (congr 1; omega) | (exfalso; omega)
theorem rtR_right {cs gs : List Int} {m : Nat} {i j : Nat} (hi : i < j) (hj : 0 < i) (hia : i ≤ m) (hg : ∀ q, gv gs q = swR cs (m - i) (m + j - i) i q) : ∀ q, rtR cs (m - i) m (m + j) q = rtR gs (m - i) m (m + (j - i)) q := by
  intro q
  unfold rtR
  rw [hg q, hg (q + (m - (m - i))), hg (q - (m + (j - i) - m))]
  unfold swR
  repeat' split
  all_goals first | rfl | (congr 1; omega) | (exfalso; omega)
theorem rtR_even {cs gs : List Int} {m : Nat} {i : Nat} (hia : i ≤ m) (hg : ∀ q, gv gs q = swR cs (m - i) m i q) : ∀ q, rtR cs (m - i) m (m + i) q = gv gs q := by
  intro q
  rw [hg q]
  unfold rtR swR
  repeat' split
  all_goals first | rfl | (congr 1; omega) | (exfalso; omega)
set_option maxRecDepth 100000 in
theorem swapR_c {h : Heap} {id len cap : Nat} {ex ex' : Bool} {es : List Int} {a b n : Nat} {fv : AV} {Q : AV → Heap → Prop} (hb : es.length < 1000000000) (hid : h[id]? = some (.arr 1 (List.map intE es) ex')) (hl : len ≤ es.length) (hab : a + n ≤ b) (hbl : b + n ≤ len)
    (hq : ∀ gs : List Int, Sm es gs a (b + n) → (∀ q, gv gs q = swR es a b n q) → Q (.tup []) (h.set id (.arr 1 (List.map intE gs) ex'))) :
    ACalls Try.prog 153 [.osl id 1 0 len cap ex, .int .i64 a, .int .i64 b, .int .i64 n, fv] h Q := by
  have hlt : id < h.length := (List.getElem?_eq_some_iff.1 hid).1
  have hse : ∀ o : Ob, (h.set id o)[id]? = some o := fun o => List.getElem?_set_self hlt
  refine wp153 rfl rfl ?_
  simp (maxSteps := 4000000) +contextual only [↓packA0, ↓packA1, ↓packA2, ↓reduceIte, packB0, packB1, packB2, packB3, packB4, pureOp, quietOp, loadOp, quietB, fr0, cellsK, Option.getD_some, Option.getD_none, implies_true, ite_true, ite_false, eq_self, ne_eq, reduceCtorEq, Nat.reduceLT, Nat.reduceLeDiff, Nat.reduceAdd, Nat.reduceMul, Nat.reduceBEq, Nat.reduceEqDiff, Int.reduceToNat, Int.reduceLT, Int.reduceLE, Nat.reduceSub, pl153, tsize_3, tbytes_3, tagg_3, zcells_3, telem_3, tint_3, tnotIface_3, tsize_23, tbytes_23, tagg_23, zcells_23, telem_23, tnotIface_23]
  refine LoopK.intro (fun m u h1 => ∃ (k : Nat) (cs : List Int), m = n - k ∧ k ≤ n ∧ Sm es cs a (b + n) ∧ (∀ q, gv cs q = swR es a b k q) ∧ u 0 = .osl id 1 0 len cap ex ∧ u 1 = .int .i64 a ∧ u 2 = .int .i64 b ∧ u 3 = .int .i64 n ∧ u 10 = .int .i64 k ∧ h1 = h.set id (.arr 1 (List.map intE cs) ex')) n ⟨0, es, rfl, Nat.zero_le _, Sm.rfl', fun q => ?_, ?_⟩ ?_
  · unfold swR; rw [if_neg (by omega), if_neg (by omega)]
  · simp (maxSteps := 4000000) only [↓packA0, ↓packA1, ↓packA2, ↓reduceIte, packB0, packB1, packB2, packB3, packB4, pureOp, quietOp, loadOp, quietB, fr0, cellsK, Option.getD_some, Option.getD_none, implies_true, ite_true, ite_false, eq_self, ne_eq, reduceCtorEq, Nat.reduceLT, Nat.reduceLeDiff, Nat.reduceAdd, Nat.reduceMul, Nat.reduceBEq, Nat.reduceEqDiff, Int.reduceToNat, Int.reduceLT, Int.reduceLE, Nat.reduceSub, pl153, tsize_3, tbytes_3, tagg_3, zcells_3, telem_3, tint_3, tnotIface_3, tsize_23, tbytes_23, tagg_23, zcells_23, telem_23, tnotIface_23, set_same hid, Int.natCast_zero]
  rintro m u h1 ⟨k, cs, rfl, hk, hs, hg, u0, u1, u2, u3, u10, rfl⟩
  have hcl := hs.len
  have hak : ((a : Int) + (k : Int)).toNat = a + k := by omega
  have hbk : ((b : Int) + (k : Int)).toNat = b + k := by omega
  simp (maxSteps := 4000000) +contextual only [↓packA0, ↓packA1, ↓packA2, ↓reduceIte, packB0, packB1, packB2, packB3, packB4, pureOp, quietOp, loadOp, quietB, fr0, cellsK, Option.getD_some, Option.getD_none, implies_true, ite_true, ite_false, eq_self, ne_eq, reduceCtorEq, Nat.reduceLT, Nat.reduceLeDiff, Nat.reduceAdd, Nat.reduceMul, Nat.reduceBEq, Nat.reduceEqDiff, Int.reduceToNat, Int.reduceLT, Int.reduceLE, Nat.reduceSub, pl153, tsize_3, tbytes_3, tagg_3, zcells_3, telem_3, tint_3, tnotIface_3, tsize_23, tbytes_23, tagg_23, zcells_23, telem_23, tnotIface_23, u0, u1, u2, u3, u10, hse, List.set_set, hak, hbk]
  refine ⟨fun h2 => ⟨by omega, by omega, by omega, by omega, by omega, by omega, by omega, by omega, by omega, by omega, by omega, by omega, by omega, .inl ⟨n - (k + 1), by omega, k + 1, sw cs (a + k) (b + k), rfl, by omega, hs.trans (Sm.sw (by omega) (by omega) (by omega)), swR_step hab (by omega) (by omega) hg, by omega, rfl⟩⟩, fun h2 => ?_⟩
  obtain rfl : k = n := by omega
  exact hq cs hs hg
end Go.Proofs.Ytgdlkhgfehclpaa
end

section
/- Blocks change places; insertion sort. No condition. -/
namespace Go.Proofs.Ytgdlkhgfehclpaa
open Go Go.AL
set_option linter.unusedVariables false
set_option linter.unusedSimpArgs false
set_option maxRecDepth 100000 in
theorem rotate_c {h : Heap} {id len cap : Nat} {ex ex' : Bool} {es : List Int} {a m b : Nat} {fv : AV} {Q : AV → Heap → Prop} (hb : es.length < 1000000000) (hid : h[id]? = some (.arr 1 (List.map intE es) ex')) (hl : len ≤ es.length) (ham : a < m) (hmb : m < b) (hbl : b ≤ len)
    (hq : ∀ gs : List Int, Sm es gs a b → (∀ q, gv gs q = rtR es a m b q) → Q (.tup []) (h.set id (.arr 1 (List.map intE gs) ex'))) :
    ACalls Try.prog 141 [.osl id 1 0 len cap ex, .int .i64 a, .int .i64 m, .int .i64 b, fv] h Q := by
  have hlt : id < h.length := (List.getElem?_eq_some_iff.1 hid).1
  have hse : ∀ o : Ob, (h.set id o)[id]? = some o := fun o => List.getElem?_set_self hlt
  refine wp141 rfl rfl ?_
  simp (maxSteps := 4000000) +contextual only [↓packA0, ↓packA1, ↓packA2, ↓reduceIte, packB0, packB1, packB2, packB3, packB4, pureOp, quietOp, loadOp, quietB, fr0, cellsK, Option.getD_some, Option.getD_none, implies_true, ite_true, ite_false, eq_self, ne_eq, reduceCtorEq, Nat.reduceLT, Nat.reduceLeDiff, Nat.reduceAdd, Nat.reduceMul, Nat.reduceBEq, Nat.reduceEqDiff, Int.reduceToNat, Int.reduceLT, Int.reduceLE, Nat.reduceSub, pl141, tsize_3, tbytes_3, tagg_3, zcells_3, telem_3, tint_3, tnotIface_3, tsize_23, tbytes_23, tagg_23, zcells_23, telem_23, tnotIface_23, tfun_160, telem_160]
  refine ⟨by omega, by omega, ?_⟩
  refine LoopK.intro (fun w u h1 => ∃ (i j : Nat) (cs : List Int), w = i + j ∧ 0 < i ∧ 0 < j ∧ a + i ≤ m ∧ m + j ≤ b ∧ Sm es cs a b ∧ (∀ q, rtR es a m b q = rtR cs (m - i) m (m + j) q) ∧ u 0 = .osl id 1 0 len cap ex ∧ u 2 = .int .i64 m ∧ u 4 = fv ∧ u 10 = .int .i64 i ∧ u 11 = .int .i64 j ∧ h1 = h.set id (.arr 1 (List.map intE cs) ex')) (m - a + (b - m)) ⟨m - a, b - m, es, rfl, by omega, by omega, by omega, by omega, Sm.rfl', fun q => ?_, ?_⟩ ?_
  · rw [show m - (m - a) = a by omega, show m + (b - m) = b by omega]
  · simp (maxSteps := 4000000) only [↓packA0, ↓packA1, ↓packA2, ↓reduceIte, packB0, packB1, packB2, packB3, packB4, pureOp, quietOp, loadOp, quietB, fr0, cellsK, Option.getD_some, Option.getD_none, implies_true, ite_true, ite_false, eq_self, ne_eq, reduceCtorEq, Nat.reduceLT, Nat.reduceLeDiff, Nat.reduceAdd, Nat.reduceMul, Nat.reduceBEq, Nat.reduceEqDiff, Int.reduceToNat, Int.reduceLT, Int.reduceLE, Nat.reduceSub, pl141, tsize_3, tbytes_3, tagg_3, zcells_3, telem_3, tint_3, tnotIface_3, tsize_23, tbytes_23, tagg_23, zcells_23, telem_23, tnotIface_23, tfun_160, telem_160, set_same hid]
    omega
  rintro w u h1 ⟨i, j, cs, rfl, hi, hj, hia, hjb, hs, hg, u0, u2, u4, u10, u11, rfl⟩
  have hcl := hs.len
  have e1 : (m : Int) - (i : Int) = ((m - i : Nat) : Int) := by omega
  have e2 : j < i → (i : Int) - (j : Int) = ((i - j : Nat) : Int) := by omega
  have e3 : i < j → (m : Int) + (j : Int) - (i : Int) = ((m + j - i : Nat) : Int) := by omega
  have e4 : i < j → (j : Int) - (i : Int) = ((j - i : Nat) : Int) := by omega
  simp (maxSteps := 4000000) +contextual only [↓packA0, ↓packA1, ↓packA2, ↓reduceIte, packB0, packB1, packB2, packB3, packB4, pureOp, quietOp, loadOp, quietB, fr0, cellsK, Option.getD_some, Option.getD_none, implies_true, ite_true, ite_false, eq_self, ne_eq, reduceCtorEq, Nat.reduceLT, Nat.reduceLeDiff, Nat.reduceAdd, Nat.reduceMul, Nat.reduceBEq, Nat.reduceEqDiff, Int.reduceToNat, Int.reduceLT, Int.reduceLE, Nat.reduceSub, pl141, tsize_3, tbytes_3, tagg_3, zcells_3, telem_3, tint_3, tnotIface_3, tsize_23, tbytes_23, tagg_23, zcells_23, telem_23, tnotIface_23, tfun_160, telem_160, u0, u2, u4, u10, u11, hse, List.set_set, e1]
  refine ⟨fun h2 => ⟨fun h3 => ⟨by omega, swapR_c (es := cs) (by omega) (hse _) (by omega) (by omega) (by omega) fun gs hs2 hg2 => ?_⟩, fun h3 => ⟨by omega, by omega, by omega, ?_⟩⟩, fun h2 => ⟨by omega, ?_⟩⟩
  · simp (maxSteps := 4000000) +contextual only [↓packA0, ↓packA1, ↓packA2, ↓reduceIte, packB0, packB1, packB2, packB3, packB4, pureOp, quietOp, loadOp, quietB, fr0, cellsK, Option.getD_some, Option.getD_none, implies_true, ite_true, ite_false, eq_self, ne_eq, reduceCtorEq, Nat.reduceLT, Nat.reduceLeDiff, Nat.reduceAdd, Nat.reduceMul, Nat.reduceBEq, Nat.reduceEqDiff, Int.reduceToNat, Int.reduceLT, Int.reduceLE, Nat.reduceSub, pl141, tsize_3, tbytes_3, tagg_3, zcells_3, telem_3, tint_3, tnotIface_3, tsize_23, tbytes_23, tagg_23, zcells_23, telem_23, tnotIface_23, tfun_160, telem_160, u0, u2, u4, u10, u11, hse, List.set_set, e2 (by omega)]
    exact ⟨by omega, .inl ⟨i - j + j, by omega, i - j, j, gs, rfl, by omega, by omega, by omega, by omega, hs.trans (hs2.wide (by omega) (by omega)), fun q => (hg q).trans (rtR_left (by omega) hj (by omega) hg2 q), rfl, rfl, rfl⟩⟩
  · rw [e3 (by omega)]
    refine swapR_c (es := cs) (by omega) (hse _) (by omega) (by omega) (by omega) fun gs hs2 hg2 => ?_
    simp (maxSteps := 4000000) +contextual only [↓packA0, ↓packA1, ↓packA2, ↓reduceIte, packB0, packB1, packB2, packB3, packB4, pureOp, quietOp, loadOp, quietB, fr0, cellsK, Option.getD_some, Option.getD_none, implies_true, ite_true, ite_false, eq_self, ne_eq, reduceCtorEq, Nat.reduceLT, Nat.reduceLeDiff, Nat.reduceAdd, Nat.reduceMul, Nat.reduceBEq, Nat.reduceEqDiff, Int.reduceToNat, Int.reduceLT, Int.reduceLE, Nat.reduceSub, pl141, tsize_3, tbytes_3, tagg_3, zcells_3, telem_3, tint_3, tnotIface_3, tsize_23, tbytes_23, tagg_23, zcells_23, telem_23, tnotIface_23, tfun_160, telem_160, u0, u2, u4, u10, u11, hse, List.set_set, e4 (by omega)]
    exact ⟨by omega, .inl ⟨i + (j - i), by omega, i, j - i, gs, rfl, by omega, by omega, by omega, by omega, hs.trans (hs2.wide (by omega) (by omega)), fun q => (hg q).trans (rtR_right (by omega) hi (by omega) hg2 q), rfl, rfl, rfl⟩⟩
  · obtain rfl : i = j := by omega
    rw [e1]
    refine swapR_c (es := cs) (by omega) (hse _) (by omega) (by omega) (by omega) fun gs hs2 hg2 => ?_
    simp (maxSteps := 4000000) +contextual only [↓packA0, ↓packA1, ↓packA2, ↓reduceIte, packB0, packB1, packB2, packB3, packB4, pureOp, quietOp, loadOp, quietB, fr0, cellsK, Option.getD_some, Option.getD_none, implies_true, ite_true, ite_false, eq_self, ne_eq, reduceCtorEq, Nat.reduceLT, Nat.reduceLeDiff, Nat.reduceAdd, Nat.reduceMul, Nat.reduceBEq, Nat.reduceEqDiff, Int.reduceToNat, Int.reduceLT, Int.reduceLE, Nat.reduceSub, pl141, tsize_3, tbytes_3, tagg_3, zcells_3, telem_3, tint_3, tnotIface_3, tsize_23, tbytes_23, tagg_23, zcells_23, telem_23, tnotIface_23, tfun_160, telem_160, u0, u2, u4, u10, u11, hse, List.set_set]
    exact hq gs (hs.trans (hs2.wide (by omega) (by omega))) fun q => ((hg q).trans (rtR_even (by omega) hg2 q)).symm
end Go.Proofs.Ytgdlkhgfehclpaa
end
