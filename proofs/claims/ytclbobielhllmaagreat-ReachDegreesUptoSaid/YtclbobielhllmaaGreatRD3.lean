import Derived.Test.YtclbobielhllmaaGreatRD2
section
namespace Go.AL
theorem packA0 : type_of% (And.intro @asx_skip (And.intro @asx_text (And.intro @asx_draw (And.intro @asx_seq (And.intro @asx_cond (And.intro @asx_block (And.intro @asx_loop (And.intro @asx_exit (And.intro @asx_ret (And.intro @asx_label (And.intro @then_normal (And.intro @then_ret (And.intro @then_exit (And.intro @block_normal (And.intro @block_ret (And.intro @block_exit (And.intro @aops_nil (And.intro @aops_one (And.intro @aops_if (And.intro @guK_zero (And.intro @guK_succ (And.intro @guK_some (And.intro @atK_zero (And.intro @atK_succ (And.intro @adrD_nil (And.intro @adrD_none (And.intro @adrD_one (And.intro @adrD_more (And.intro @adrD_two (And.intro @adrX_nil (And.intro @adrX_cons (And.intro @adrXG_one (And.intro @adrXG_if (And.intro @keep0_true (And.intro @keep0_false (And.intro @adr_nil (And.intro @adr_cons (And.intro @adrG_one (And.intro @adrG_if (@adrK_eq)))))))))))))))))))))))))))))))))))))))) := And.intro @asx_skip (And.intro @asx_text (And.intro @asx_draw (And.intro @asx_seq (And.intro @asx_cond (And.intro @asx_block (And.intro @asx_loop (And.intro @asx_exit (And.intro @asx_ret (And.intro @asx_label (And.intro @then_normal (And.intro @then_ret (And.intro @then_exit (And.intro @block_normal (And.intro @block_ret (And.intro @block_exit (And.intro @aops_nil (And.intro @aops_one (And.intro @aops_if (And.intro @guK_zero (And.intro @guK_succ (And.intro @guK_some (And.intro @atK_zero (And.intro @atK_succ (And.intro @adrD_nil (And.intro @adrD_none (And.intro @adrD_one (And.intro @adrD_more (And.intro @adrD_two (And.intro @adrX_nil (And.intro @adrX_cons (And.intro @adrXG_one (And.intro @adrXG_if (And.intro @keep0_true (And.intro @keep0_false (And.intro @adr_nil (And.intro @adr_cons (And.intro @adrG_one (And.intro @adrG_if (@adrK_eq)))))))))))))))))))))))))))))))))))))))
theorem packA1 : type_of% (And.intro @reK_nil (And.intro @reK_cons (And.intro @atT_zero (And.intro @atT_succ (And.intro @doneK_hit (And.intro @keepL_true (And.intro @keepL_false (And.intro @evK_tmp (And.intro @evK_int (And.intro @evK_bool (And.intro @evK_str (And.intro @evK_flt (And.intro @evK_nilp (And.intro @evK_nils (And.intro @evK_nilf (And.intro @evK_nili (And.intro @evK_nilm (And.intro @evK_undef (And.intro @evK_func (And.intro @evsK_nil (And.intro @evsK_cons (And.intro @evpK_nil (And.intro @evpK_cons (And.intro @evoK_none (And.intro @evoK_some (And.intro @aop_move (And.intro @aop_assign (And.intro @aop_pick (And.intro @aop_alloc (And.intro @aop_box (And.intro @aop_build (And.intro @aop_buildSlice (And.intro @aop_load (And.intro @aop_store (And.intro @aop_nilCheck (And.intro @aop_bin (And.intro @aop_un (And.intro @aop_convert (And.intro @aop_makeFunc (@aop_makeInterface)))))))))))))))))))))))))))))))))))))))) := And.intro @reK_nil (And.intro @reK_cons (And.intro @atT_zero (And.intro @atT_succ (And.intro @doneK_hit (And.intro @keepL_true (And.intro @keepL_false (And.intro @evK_tmp (And.intro @evK_int (And.intro @evK_bool (And.intro @evK_str (And.intro @evK_flt (And.intro @evK_nilp (And.intro @evK_nils (And.intro @evK_nilf (And.intro @evK_nili (And.intro @evK_nilm (And.intro @evK_undef (And.intro @evK_func (And.intro @evsK_nil (And.intro @evsK_cons (And.intro @evpK_nil (And.intro @evpK_cons (And.intro @evoK_none (And.intro @evoK_some (And.intro @aop_move (And.intro @aop_assign (And.intro @aop_pick (And.intro @aop_alloc (And.intro @aop_box (And.intro @aop_build (And.intro @aop_buildSlice (And.intro @aop_load (And.intro @aop_store (And.intro @aop_nilCheck (And.intro @aop_bin (And.intro @aop_un (And.intro @aop_convert (And.intro @aop_makeFunc (@aop_makeInterface)))))))))))))))))))))))))))))))))))))))
theorem packA2 : type_of% (And.intro @aop_makeSlice (And.intro @aop_slice (And.intro @aop_fieldAddr (And.intro @aop_field (And.intro @aop_indexAddr (And.intro @aop_index (And.intro @aop_extract (And.intro @aop_call (And.intro @aop_len (And.intro @aop_cap (And.intro @aop_min (And.intro @aop_max (And.intro @aop_append (And.intro @aop_clear (And.intro @resK_nil (And.intro @resK_tmp (And.intro @resK_cell (And.intro @bodyQ_normal (And.intro @bodyQ_ret (@putK_none)))))))))))))))))))) := And.intro @aop_makeSlice (And.intro @aop_slice (And.intro @aop_fieldAddr (And.intro @aop_field (And.intro @aop_indexAddr (And.intro @aop_index (And.intro @aop_extract (And.intro @aop_call (And.intro @aop_len (And.intro @aop_cap (And.intro @aop_min (And.intro @aop_max (And.intro @aop_append (And.intro @aop_clear (And.intro @resK_nil (And.intro @resK_tmp (And.intro @resK_cell (And.intro @bodyQ_normal (And.intro @bodyQ_ret (@putK_none)))))))))))))))))))
theorem packB0 : type_of% (And.intro @mk_eq (And.intro @gdK_true (And.intro @gdK_false (And.intro @gdK_undef (And.intro @optK_some (And.intro @condK_true (And.intro @condK_false (And.intro @condK_dec (And.intro @condK_not (And.intro @condK_beq (And.intro @condK_bne (And.intro @condK_getD (And.intro @decide_eq_true_eq (And.intro @decide_eq_false_iff_not (And.intro @beq_iff_eq.{0} (And.intro @beq_eq_false_iff_ne.{0} (And.intro @bne_iff_ne.{0} (And.intro @bne_eq_false_iff_eq.{0} (And.intro @Bool.not_eq_true' (And.intro @Bool.not_eq_false' (And.intro @Bool.not_not (And.intro @Nat.mul_one (And.intro @Nat.one_mul (And.intro @block_exit' (And.intro @putK_some (And.intro @exK_and (And.intro @exK_eq (And.intro @doneK_miss (And.intro @quK_true (And.intro @quK_false (And.intro @upd_same (And.intro @upd_ne (And.intro @letH_eq (And.intro @fitK_i64 (And.intro @fitK_u64 (And.intro @fitK_u32 (And.intro @fitK_u8 (And.intro @fitK_i32 (And.intro @ldX_cell (@ldX_agg)))))))))))))))))))))))))))))))))))))))) := And.intro @mk_eq (And.intro @gdK_true (And.intro @gdK_false (And.intro @gdK_undef (And.intro @optK_some (And.intro @condK_true (And.intro @condK_false (And.intro @condK_dec (And.intro @condK_not (And.intro @condK_beq (And.intro @condK_bne (And.intro @condK_getD (And.intro @decide_eq_true_eq (And.intro @decide_eq_false_iff_not (And.intro @beq_iff_eq.{0} (And.intro @beq_eq_false_iff_ne.{0} (And.intro @bne_iff_ne.{0} (And.intro @bne_eq_false_iff_eq.{0} (And.intro @Bool.not_eq_true' (And.intro @Bool.not_eq_false' (And.intro @Bool.not_not (And.intro @Nat.mul_one (And.intro @Nat.one_mul (And.intro @block_exit' (And.intro @putK_some (And.intro @exK_and (And.intro @exK_eq (And.intro @doneK_miss (And.intro @quK_true (And.intro @quK_false (And.intro @upd_same (And.intro @upd_ne (And.intro @letH_eq (And.intro @fitK_i64 (And.intro @fitK_u64 (And.intro @fitK_u32 (And.intro @fitK_u8 (And.intro @fitK_i32 (And.intro @ldX_cell (@ldX_agg)))))))))))))))))))))))))))))))))))))))
theorem packB1 : type_of% (And.intro @objK_some (And.intro @loadK_ip (And.intro @loadK_op (And.intro @faK_ip (And.intro @faK_op (And.intro @fieldAddrK_eq (And.intro @fdK_agg (And.intro @fieldK_eq (And.intro @optK_map (And.intro @elK_eq (And.intro @indexAddrK_isl (And.intro @indexAddrK_osl (And.intro @arK_eq (And.intro @indexAddrK_ip (And.intro @indexAddrK_op (And.intro @indexK_str (And.intro @indexK_agg (And.intro @clearK_nils (And.intro @clearK_osl (And.intro @bin_add (And.intro @bin_sub (And.intro @bin_mul (And.intro @bin_quo (And.intro @bin_rem (And.intro @bin_eql (And.intro @bin_neq (And.intro @bin_lss (And.intro @bin_leq (And.intro @bin_gtr (And.intro @bin_geq (And.intro @bin_shl (And.intro @bin_shr (And.intro @bin_beql (And.intro @bin_bneq (And.intro @bin_nils (And.intro @eqK_eql (And.intro @eqK_neq (And.intro @unK_not (And.intro @unK_neg (@convK_int)))))))))))))))))))))))))))))))))))))))) := And.intro @objK_some (And.intro @loadK_ip (And.intro @loadK_op (And.intro @faK_ip (And.intro @faK_op (And.intro @fieldAddrK_eq (And.intro @fdK_agg (And.intro @fieldK_eq (And.intro @optK_map (And.intro @elK_eq (And.intro @indexAddrK_isl (And.intro @indexAddrK_osl (And.intro @arK_eq (And.intro @indexAddrK_ip (And.intro @indexAddrK_op (And.intro @indexK_str (And.intro @indexK_agg (And.intro @clearK_nils (And.intro @clearK_osl (And.intro @bin_add (And.intro @bin_sub (And.intro @bin_mul (And.intro @bin_quo (And.intro @bin_rem (And.intro @bin_eql (And.intro @bin_neq (And.intro @bin_lss (And.intro @bin_leq (And.intro @bin_gtr (And.intro @bin_geq (And.intro @bin_shl (And.intro @bin_shr (And.intro @bin_beql (And.intro @bin_bneq (And.intro @bin_nils (And.intro @eqK_eql (And.intro @eqK_neq (And.intro @unK_not (And.intro @unK_neg (@convK_int)))))))))))))))))))))))))))))))))))))))
theorem packB2 : type_of% (And.intro @convK_str (And.intro @extK_tup (And.intro @lenK_isl (And.intro @lenK_osl (And.intro @lenK_nils (And.intro @lenK_str (And.intro @nilCheckK_ip (And.intro @nilCheckK_op (And.intro @pickK_eq (And.intro @bdK_none (And.intro @bdK_some (And.intro @slK_eq (And.intro @sliceAll_isl (And.intro @sliceAll_osl (And.intro @sliceAll_nils (And.intro @storeK_op (And.intro @obxK_some (And.intro @makeSliceK_int (And.intro @fillK_nil (And.intro @fillK_cons (And.intro @fillRK_nil (And.intro @fillRK_cons (And.intro @callK_fn (And.intro @elemsK_nils (And.intro @elemsK_isl (And.intro @elemsK_osl (And.intro @appendK_eq (And.intro @apK_nils (And.intro @apK_osl (And.intro @oneK_one (And.intro @oneK_none (And.intro @oneK_two (And.intro @ren_osl (And.intro @ren_op (And.intro @ren_int (And.intro @ren_bool (And.intro @ren_nils (And.intro @ren_tup (And.intro @ren_agg (@ren_isl)))))))))))))))))))))))))))))))))))))))) := And.intro @convK_str (And.intro @extK_tup (And.intro @lenK_isl (And.intro @lenK_osl (And.intro @lenK_nils (And.intro @lenK_str (And.intro @nilCheckK_ip (And.intro @nilCheckK_op (And.intro @pickK_eq (And.intro @bdK_none (And.intro @bdK_some (And.intro @slK_eq (And.intro @sliceAll_isl (And.intro @sliceAll_osl (And.intro @sliceAll_nils (And.intro @storeK_op (And.intro @obxK_some (And.intro @makeSliceK_int (And.intro @fillK_nil (And.intro @fillK_cons (And.intro @fillRK_nil (And.intro @fillRK_cons (And.intro @callK_fn (And.intro @elemsK_nils (And.intro @elemsK_isl (And.intro @elemsK_osl (And.intro @appendK_eq (And.intro @apK_nils (And.intro @apK_osl (And.intro @oneK_one (And.intro @oneK_none (And.intro @oneK_two (And.intro @ren_osl (And.intro @ren_op (And.intro @ren_int (And.intro @ren_bool (And.intro @ren_nils (And.intro @ren_tup (And.intro @ren_agg (@ren_isl)))))))))))))))))))))))))))))))))))))))
theorem packB3 : type_of% (And.intro @rens_nil (And.intro @rens_cons (And.intro @ren_intEs (And.intro @ren_boolEs (And.intro @behind_eq (And.intro @map_one (And.intro @patch_one (And.intro @patch_two (And.intro @repl_zero (And.intro @repl_succ (And.intro @intE_eq (And.intro @boolE_eq (And.intro @rep_intE (And.intro @rep_boolE (And.intro @set_intE (And.intro @set_boolE (And.intro @set_bools (And.intro @app_intE (And.intro @app_intE3 (And.intro @take_app (And.intro @drop_app3 (And.intro @take_map_all (And.intro @AV.int.injEq (And.intro @AV.bool.injEq (And.intro @List.getElem?_cons_zero.{0} (And.intro @List.getElem?_cons_succ.{0} (And.intro @List.getElem?_nil.{0} (And.intro @List.length_cons.{0} (And.intro @List.length_nil.{0} (And.intro @List.length_map.{0, 0} (And.intro @List.length_replicate.{0} (And.intro @List.length_append.{0} (And.intro @List.length_set.{0} (And.intro @List.drop_succ_cons.{0} (And.intro @List.drop_zero.{0} (And.intro @List.take_succ_cons.{0} (And.intro @List.take_zero.{0} (And.intro @List.set_cons_zero.{0} (And.intro @List.set_cons_succ.{0} (@List.nil_append.{0})))))))))))))))))))))))))))))))))))))))) := And.intro @rens_nil (And.intro @rens_cons (And.intro @ren_intEs (And.intro @ren_boolEs (And.intro @behind_eq (And.intro @map_one (And.intro @patch_one (And.intro @patch_two (And.intro @repl_zero (And.intro @repl_succ (And.intro @intE_eq (And.intro @boolE_eq (And.intro @rep_intE (And.intro @rep_boolE (And.intro @set_intE (And.intro @set_boolE (And.intro @set_bools (And.intro @app_intE (And.intro @app_intE3 (And.intro @take_app (And.intro @drop_app3 (And.intro @take_map_all (And.intro @AV.int.injEq (And.intro @AV.bool.injEq (And.intro @List.getElem?_cons_zero.{0} (And.intro @List.getElem?_cons_succ.{0} (And.intro @List.getElem?_nil.{0} (And.intro @List.length_cons.{0} (And.intro @List.length_nil.{0} (And.intro @List.length_map.{0, 0} (And.intro @List.length_replicate.{0} (And.intro @List.length_append.{0} (And.intro @List.length_set.{0} (And.intro @List.drop_succ_cons.{0} (And.intro @List.drop_zero.{0} (And.intro @List.take_succ_cons.{0} (And.intro @List.take_zero.{0} (And.intro @List.set_cons_zero.{0} (And.intro @List.set_cons_succ.{0} (@List.nil_append.{0})))))))))))))))))))))))))))))))))))))))
theorem packB4 : type_of% (And.intro @List.append_nil.{0} (And.intro @List.cons_append.{0} (And.intro @Nat.not_succ_le_self (And.intro @Option.some.injEq.{0} (And.intro @Option.isSome_some.{0} (And.intro @and_true (And.intro @true_and (And.intro @and_self (And.intro @true_or (And.intro @or_true (And.intro @or_self (And.intro @true_implies (And.intro @false_implies (And.intro @not_true_eq_false (And.intro @not_false_eq_true (And.intro @Bool.not_true (And.intro @Bool.not_false (And.intro @Bool.true_or (And.intro @Bool.or_true (And.intro @Bool.false_or (And.intro @Bool.or_false (And.intro @beq_self_eq_true.{0} (And.intro @decide_true (And.intro @decide_false (And.intro @Nat.add_zero (And.intro @Nat.zero_add (And.intro @Nat.lt_add_one (And.intro @Int.toNat_zero (And.intro @Int.toNat_natCast (And.intro @tn1 (And.intro @tn3 (And.intro @tn2 (And.intro @Nat.zero_le (And.intro @Nat.le_refl (And.intro @Nat.one_ne_zero (And.intro @Nat.sub_zero (And.intro @Nat.zero_lt_one (@Nat.zero_lt_succ)))))))))))))))))))))))))))))))))))))) := And.intro @List.append_nil.{0} (And.intro @List.cons_append.{0} (And.intro @Nat.not_succ_le_self (And.intro @Option.some.injEq.{0} (And.intro @Option.isSome_some.{0} (And.intro @and_true (And.intro @true_and (And.intro @and_self (And.intro @true_or (And.intro @or_true (And.intro @or_self (And.intro @true_implies (And.intro @false_implies (And.intro @not_true_eq_false (And.intro @not_false_eq_true (And.intro @Bool.not_true (And.intro @Bool.not_false (And.intro @Bool.true_or (And.intro @Bool.or_true (And.intro @Bool.false_or (And.intro @Bool.or_false (And.intro @beq_self_eq_true.{0} (And.intro @decide_true (And.intro @decide_false (And.intro @Nat.add_zero (And.intro @Nat.zero_add (And.intro @Nat.lt_add_one (And.intro @Int.toNat_zero (And.intro @Int.toNat_natCast (And.intro @tn1 (And.intro @tn3 (And.intro @tn2 (And.intro @Nat.zero_le (And.intro @Nat.le_refl (And.intro @Nat.one_ne_zero (And.intro @Nat.sub_zero (And.intro @Nat.zero_lt_one (@Nat.zero_lt_succ)))))))))))))))))))))))))))))))))))))
theorem packA : type_of% (And.intro packA0 (And.intro packA1 packA2)) := And.intro packA0 (And.intro packA1 packA2)
theorem packB : type_of% (And.intro packB0 (And.intro packB1 (And.intro packB2 (And.intro packB3 (And.intro packB4 (And.intro @growK_eq (And.intro @Option.getD_some.{0} @Option.getD_none.{0}))))))) :=
  And.intro packB0 (And.intro packB1 (And.intro packB2 (And.intro packB3 (And.intro packB4 (And.intro @growK_eq (And.intro @Option.getD_some.{0} @Option.getD_none.{0}))))))
theorem concA : type_of% (And.intro @Int.cast_ofNat_Int (And.intro @Int.natCast_zero (And.intro @Int.natCast_one (And.intro @List.getD_cons_zero.{0} (And.intro @List.getD_cons_succ.{0} (And.intro @List.length_singleton.{0} (And.intro @Bool.and_true @Bool.and_false))))))) := And.intro @Int.cast_ofNat_Int (And.intro @Int.natCast_zero (And.intro @Int.natCast_one (And.intro @List.getD_cons_zero.{0} (And.intro @List.getD_cons_succ.{0} (And.intro @List.length_singleton.{0} (And.intro @Bool.and_true @Bool.and_false))))))
end Go.AL
end
section
namespace Go.Proofs.YtclbobielhllmaaGreat
open Go Go.AL
set_option linter.unusedVariables false
set_option linter.unusedSimpArgs false
def u32E (x : Int) : List AV := [AV.int .u32 x]
def lims (l : List Int) : AV := .isl 1 (List.map u32E l)
theorem u32E_eq {x : Int} : u32E x = [AV.int .u32 x] := (rfl)
theorem rep_u32E {m : Nat} : List.replicate m [AV.int .u32 0] = List.map u32E (List.replicate m 0) := by simp [u32E]
theorem set_u32E {xs : List Int} {i : Nat} {y : Int} : (List.map u32E xs).set i [AV.int .u32 y] = List.map u32E (xs.set i y) := by rw [List.map_set]; rfl
theorem app_u32E {xs : List Int} {y : Int} : List.map u32E xs ++ [[AV.int .u32 y]] = List.map u32E (xs ++ [y]) := by rw [List.map_append]; rfl
theorem two_u32E {x y : Int} : [[AV.int .u32 x], [AV.int .u32 y]] = List.map u32E [x, y] := rfl
theorem bin_and {P : Program} {K : AV → Prop} {t : TypeId} {k : IntKind} {x y : Int} : binAll P .and t (.int k x) (.int k y) K = K (.int k (k.wrap ((BitVec.ofInt k.bits x &&& BitVec.ofInt k.bits y).toNat))) := by simp [binAll, iK]
theorem bin_or {P : Program} {K : AV → Prop} {t : TypeId} {k : IntKind} {x y : Int} : binAll P .or t (.int k x) (.int k y) K = K (.int k (k.wrap ((BitVec.ofInt k.bits x ||| BitVec.ofInt k.bits y).toNat))) := by simp [binAll, iK]
theorem limR : type_of% (And.intro @u32E_eq (And.intro @rep_u32E (And.intro @set_u32E (And.intro @app_u32E (And.intro @bin_and @bin_or))))) := And.intro @u32E_eq (And.intro @rep_u32E (And.intro @set_u32E (And.intro @app_u32E (And.intro @bin_and @bin_or))))
def LI (l : List Int) : Prop := ∀ x, x ∈ l → 0 ≤ x ∧ x < 4294967296
theorem LI.get {l : List Int} (h : LI l) {i : Nat} : 0 ≤ l.getD i default ∧ l.getD i default < 4294967296 := by
  rw [List.getD_eq_getElem?_getD]
  cases hx : l[i]? with
  | none => simp
  | some x => exact h x (List.mem_of_getElem? hx)
theorem LI.take {l : List Int} (h : LI l) (n : Nat) : LI (l.take n) := fun x hx => h x (List.mem_of_mem_take hx)
theorem LI.drop {l : List Int} (h : LI l) (n : Nat) : LI (l.drop n) := fun x hx => h x (List.mem_of_mem_drop hx)
theorem LI.app {l r : List Int} (h : LI l) (h' : LI r) : LI (l ++ r) := fun x hx => (List.mem_append.1 hx).elim (h x) (h' x)
theorem LI.set {l : List Int} (h : LI l) {i : Nat} {y : Int} (hy : 0 ≤ y ∧ y < 4294967296) : LI (l.set i y) := fun x hx => by
  rcases List.mem_or_eq_of_mem_set hx with h1 | h1
  · exact h x h1
  · rw [h1]; exact hy
theorem LI.rep {n : Nat} : LI (List.replicate n 0) := fun x hx => by rw [List.eq_of_mem_replicate hx]; omega
theorem LI.nil : LI [] := fun x hx => by cases hx
theorem LI.cons {x : Int} {l : List Int} (hx : 0 ≤ x ∧ x < 4294967296) (h : LI l) : LI (x :: l) := fun y hy => by
  rcases List.mem_cons.1 hy with rfl | h1
  · exact hx
  · exact h y h1
def val : List Int → Int
  | [] => 0
  | x :: r => x + 4294967296 * val r
theorem val_app : ∀ {l r : List Int}, val (l ++ r) = val l + 4294967296 ^ l.length * val r
  | [], r => by simp [val]
  | x :: l, r => by
    rw [List.cons_append, val, val, val_app (l := l), List.length_cons, Int.pow_succ, Int.mul_add, ← Int.mul_assoc, ← Int.add_assoc, Int.mul_comm 4294967296 (4294967296 ^ l.length)]
theorem val_one {x : Int} : val [x] = x := by simp [val]
theorem val_snoc {l : List Int} {x : Int} : val (l ++ [x]) = val l + 4294967296 ^ l.length * x := by rw [val_app, val_one]
theorem val_rep {n : Nat} : val (List.replicate n 0) = 0 := by
  induction n with
  | zero => rfl
  | succ n ih => rw [List.replicate_succ, val, ih]; rfl
theorem bpos {n : Nat} : (0 : Int) < 4294967296 ^ n := Int.pow_pos (by decide)
theorem bmono {m n : Nat} (h : m ≤ n) : (4294967296 : Int) ^ m ≤ 4294967296 ^ n := by
  obtain ⟨d, rfl⟩ := Nat.exists_eq_add_of_le h
  rw [Int.pow_add]
  have h1 : (0 : Int) < 4294967296 ^ d := bpos
  have h2 : (4294967296 : Int) ^ m * 1 ≤ 4294967296 ^ m * 4294967296 ^ d := Int.mul_le_mul_of_nonneg_left (by omega) (Int.le_of_lt bpos)
  rwa [Int.mul_one] at h2
theorem val_bound {l : List Int} (h : LI l) : 0 ≤ val l ∧ val l < 4294967296 ^ l.length := by
  induction l with
  | nil => simp [val]
  | cons x r ih =>
    have h1 := h x (by simp)
    have h2 := ih (fun y hy => h y (List.mem_cons_of_mem _ hy))
    rw [val, List.length_cons, Int.pow_succ]
    constructor
    · omega
    · omega
theorem val_take_succ {l : List Int} {k : Nat} (hk : k < l.length) : val (l.take (k + 1)) = val (l.take k) + 4294967296 ^ k * l.getD k default := by
  rw [List.take_add_one, List.getElem?_eq_getElem hk, Option.toList_some, val_snoc, List.length_take, Nat.min_eq_left (by omega), List.getD_eq_getElem?_getD, List.getElem?_eq_getElem hk]
  rfl
theorem val_split {l : List Int} (k : Nat) (hk : k ≤ l.length) : val l = val (l.take k) + 4294967296 ^ k * val (l.drop k) := by
  have := val_app (l := l.take k) (r := l.drop k)
  rw [List.take_append_drop, List.length_take, Nat.min_eq_left hk] at this
  exact this
def trmN (l : List Int) : Nat → Nat
  | 0 => 0
  | n + 1 => if l.getD n default = 0 then trmN l n else n + 1
theorem trmN_le {l : List Int} : ∀ n, trmN l n ≤ n
  | 0 => Nat.le_refl _
  | n + 1 => by
    have := trmN_le (l := l) n
    rw [trmN]; split <;> omega
theorem trmN_val {l : List Int} : ∀ n, n ≤ l.length → val (l.take (trmN l n)) = val (l.take n)
  | 0, _ => rfl
  | n + 1, h => by
    rw [trmN]
    split
    · rename_i c
      rw [trmN_val n (by omega), val_take_succ (by omega), c, Int.mul_zero, Int.add_zero]
    · rfl
theorem trmN_top {l : List Int} : ∀ n, 0 < trmN l n → l.getD (trmN l n - 1) default ≠ 0
  | 0, h => by simp [trmN] at h
  | n + 1, h => by
    rw [trmN] at h ⊢
    split
    · rename_i c
      rw [if_pos c] at h
      exact trmN_top n h
    · rename_i c
      exact c
structure Norm (l : List Int) : Prop where
  li : LI l
  top : 0 < l.length → l.getD (l.length - 1) default ≠ 0
theorem Norm.nil : Norm [] := ⟨LI.nil, fun h => absurd h (by simp)⟩
theorem norm_take {l : List Int} (h : LI l) {n : Nat} (hn : n ≤ l.length) : Norm (l.take (trmN l n)) := by
  have hl := trmN_le (l := l) n
  have e : (l.take (trmN l n)).length = trmN l n := by rw [List.length_take]; omega
  refine ⟨h.take _, fun h0 => ?_⟩
  rw [e] at h0 ⊢
  have := trmN_top n h0
  rw [List.getD_eq_getElem?_getD, List.getElem?_take_of_lt (by omega), ← List.getD_eq_getElem?_getD]
  exact this
theorem Norm.lower {l : List Int} (h : Norm l) (h0 : 0 < l.length) : 4294967296 ^ (l.length - 1) ≤ val l := by
  have h1 := val_take_succ (l := l) (k := l.length - 1) (by omega)
  rw [show l.length - 1 + 1 = l.length by omega, List.take_length] at h1
  have h2 := (val_bound (h.li.take (l.length - 1))).1
  have h3 := h.li.get (i := l.length - 1)
  have h4 := h.top h0
  have h5 : (4294967296 : Int) ^ (l.length - 1) * 1 ≤ 4294967296 ^ (l.length - 1) * l.getD (l.length - 1) default := Int.mul_le_mul_of_nonneg_left (by omega) (Int.le_of_lt bpos)
  omega
theorem Norm.pos {l : List Int} (h : Norm l) (h0 : 0 < l.length) : 0 < val l := Int.lt_of_lt_of_le bpos (h.lower h0)
theorem Norm.len_le {a b : List Int} (ha : Norm a) (hb : LI b) (h : val a ≤ val b) : a.length ≤ b.length := by
  rcases Nat.lt_or_ge b.length a.length with c | c
  · have h1 := ha.lower (by omega)
    have h2 := (val_bound hb).2
    have h3 : (4294967296 : Int) ^ b.length ≤ 4294967296 ^ (a.length - 1) := bmono (by omega)
    omega
  · exact c
theorem val_inj {a b : List Int} (ha : LI a) (hb : LI b) (hl : a.length = b.length) (h : val a = val b) : a = b := by
  induction a generalizing b with
  | nil => exact (List.length_eq_zero_iff.1 (by simpa using hl.symm)).symm
  | cons x r ih =>
    match b, hl with
    | y :: s, hl =>
      rw [val, val] at h
      have h1 := ha x (by simp)
      have h2 := hb y (by simp)
      have hr := ih (b := s) (fun z hz => ha z (List.mem_cons_of_mem _ hz)) (fun z hz => hb z (List.mem_cons_of_mem _ hz)) (by simpa using hl) (by omega)
      rw [hr] at h ⊢
      congr 1
      omega
theorem Norm.inj {a b : List Int} (ha : Norm a) (hb : Norm b) (h : val a = val b) : a = b :=
  val_inj ha.li hb.li (Nat.le_antisymm (ha.len_le hb.li (by omega)) (hb.len_le ha.li (by omega))) h
theorem val_lt {a b : List Int} (ha : LI a) (hb : LI b) (hl : a.length = b.length) {i : Nat} (hi : i < a.length) (hx : a.getD i default < b.getD i default) (ht : a.drop (i + 1) = b.drop (i + 1)) : val a < val b := by
  rw [val_split (l := a) (i + 1) (by omega), val_split (l := b) (i + 1) (by omega), ht, val_take_succ hi, val_take_succ (by omega)]
  have h1 := (val_bound (ha.take i)).2
  have h2 := (val_bound (hb.take i)).1
  rw [List.length_take, Nat.min_eq_left (by omega)] at h1
  have h3 : (4294967296 : Int) ^ i * (a.getD i default + 1) ≤ 4294967296 ^ i * b.getD i default := Int.mul_le_mul_of_nonneg_left (by omega) (Int.le_of_lt bpos)
  rw [Int.mul_add, Int.mul_one] at h3
  omega
end Go.Proofs.YtclbobielhllmaaGreat
end
section
namespace Go.Proofs.YtclbobielhllmaaGreat
open Go Go.AL
set_option linter.unusedVariables false
set_option linter.unusedSimpArgs false
set_option maxRecDepth 100000 in
theorem trim_o {h : Heap} {id len cap : Nat} {ex ex' : Bool} {es : List Int} {Q : AV → Heap → Prop} (hid : h[id]? = some (.arr 1 (List.map u32E es) ex')) (hl : len ≤ es.length) (hc : len ≤ cap) (hb : len < 1000000000) (hq : Q (.osl id 1 0 (trmN es len) cap ex) h) : ACalls Tryz.prog 105 [.osl id 1 0 len cap ex] h Q := by
  refine wp105 rfl rfl ?_
  simp (maxSteps := 4000000) only [↓packA, ↓reduceIte, packB, pureOp, quietOp, loadOp, quietB, fr0, cellsK, implies_true, ite_true, ite_false, eq_self, ne_eq, reduceCtorEq, Nat.reduceLT, Nat.reduceLeDiff, Nat.reduceAdd, Nat.reduceMul, Nat.reduceBEq, Nat.reduceEqDiff, Int.reduceToNat, Int.reduceLT, Int.reduceLE, Nat.reduceSub, pl105, ft3, ft109, ft149]
  refine LoopK.intro (fun m a g => ∃ k : Nat, m = k + 1 ∧ k ≤ len ∧ trmN es k = trmN es len ∧ a 0 = .osl id 1 0 len cap ex ∧ a 3 = .int .i64 k ∧ g = h) (len + 1) ⟨len, rfl, Nat.le_refl _, rfl, ?_⟩ ?_
  · simp (maxSteps := 4000000) only [↓packA, ↓reduceIte, packB, pureOp, quietOp, loadOp, quietB, fr0, cellsK, implies_true, ite_true, ite_false, eq_self, ne_eq, reduceCtorEq, Nat.reduceLT, Nat.reduceLeDiff, Nat.reduceAdd, Nat.reduceMul, Nat.reduceBEq, Nat.reduceEqDiff, Int.reduceToNat, Int.reduceLT, Int.reduceLE, Nat.reduceSub, pl105, ft3, ft109, ft149]
  rintro m a g ⟨k, rfl, hk, ht, a0, a3, rfl⟩
  by_cases r : 0 < k
  · obtain ⟨k, rfl⟩ : ∃ j, k = j + 1 := ⟨k - 1, by omega⟩
    have r1 : ((k + 1 : Nat) : Int) > 0 := by omega
    have e1 : (((k + 1 : Nat) : Int) - 1).toNat = k := by omega
    by_cases c : es.getD k default = 0
    · simp (maxSteps := 4000000) only [↓packA, ↓reduceIte, packB, pureOp, quietOp, loadOp, quietB, fr0, cellsK, implies_true, ite_true, ite_false, eq_self, ne_eq, reduceCtorEq, Nat.reduceLT, Nat.reduceLeDiff, Nat.reduceAdd, Nat.reduceMul, Nat.reduceBEq, Nat.reduceEqDiff, Int.reduceToNat, Int.reduceLT, Int.reduceLE, Nat.reduceSub, pl105, ft3, ft109, ft149, a0, a3, r1, e1, hid, limR, c]
      have e2 : trmN es (k + 1) = trmN es k := if_pos c
      exact ⟨by omega, by omega, by omega, by omega, .inl ⟨k + 1, by omega, k, rfl, by omega, by rw [← ht, e2], by omega⟩⟩
    · simp (maxSteps := 4000000) only [↓packA, ↓reduceIte, packB, pureOp, quietOp, loadOp, quietB, fr0, cellsK, implies_true, ite_true, ite_false, eq_self, ne_eq, reduceCtorEq, Nat.reduceLT, Nat.reduceLeDiff, Nat.reduceAdd, Nat.reduceMul, Nat.reduceBEq, Nat.reduceEqDiff, Int.reduceToNat, Int.reduceLT, Int.reduceLE, Nat.reduceSub, pl105, ft3, ft109, ft149, a0, a3, r1, e1, hid, limR, c]
      have e2 : trmN es (k + 1) = k + 1 := if_neg c
      rw [← ht, e2] at hq
      exact ⟨by omega, by omega, by omega, by omega, by omega, hq⟩
  · have r1 : ¬ ((k : Nat) : Int) > 0 := by omega
    simp (maxSteps := 4000000) only [↓packA, ↓reduceIte, packB, pureOp, quietOp, loadOp, quietB, fr0, cellsK, implies_true, ite_true, ite_false, eq_self, ne_eq, reduceCtorEq, Nat.reduceLT, Nat.reduceLeDiff, Nat.reduceAdd, Nat.reduceMul, Nat.reduceBEq, Nat.reduceEqDiff, Int.reduceToNat, Int.reduceLT, Int.reduceLE, Nat.reduceSub, pl105, ft3, ft109, ft149, a0, a3, r1, hid, limR]
    obtain rfl : k = 0 := by omega
    have e2 : trmN es 0 = 0 := rfl
    rw [← ht, e2] at hq
    exact ⟨by omega, by omega, hq⟩
set_option maxRecDepth 100000 in
theorem one_t : APure Tryz.prog 79 [lims [1]] (.bool true) := by
  refine apure_of (wp79 rfl rfl ?_)
  simp (maxSteps := 4000000) only [↓packA, ↓reduceIte, packB, pureOp, quietOp, loadOp, quietB, fr0, cellsK, implies_true, ite_true, ite_false, eq_self, ne_eq, reduceCtorEq, Nat.reduceLT, Nat.reduceLeDiff, Nat.reduceAdd, Nat.reduceMul, Nat.reduceBEq, Nat.reduceEqDiff, Int.reduceToNat, Int.reduceLT, Int.reduceLE, Nat.reduceSub, pl79, ft3, ft109, ft149, lims, u32E_eq, List.map_cons, List.map_nil, concA, Int.reduceAdd, Int.reduceSub, Int.reduceNeg, Int.reduceMul, Int.reduceEq, Int.reduceBEq, Int.reduceBNe]
  exact .pure _ rfl
set_option maxRecDepth 100000 in
theorem one_f (l : List Int) (hl : l ≠ [1]) : APure Tryz.prog 79 [lims l] (.bool false) := by
  refine apure_of (wp79 rfl rfl ?_)
  by_cases c : l.length = 1
  · match l, c with
    | [x], _ =>
      have c2 : ¬ x = 1 := fun h => hl (by rw [h])
      have c3 : (x == 1) = false := beq_false_of_ne c2
      simp (maxSteps := 4000000) only [↓packA, ↓reduceIte, packB, pureOp, quietOp, loadOp, quietB, fr0, cellsK, implies_true, ite_true, ite_false, eq_self, ne_eq, reduceCtorEq, Nat.reduceLT, Nat.reduceLeDiff, Nat.reduceAdd, Nat.reduceMul, Nat.reduceBEq, Nat.reduceEqDiff, Int.reduceToNat, Int.reduceLT, Int.reduceLE, Nat.reduceSub, pl79, ft3, ft109, ft149, lims, u32E_eq, List.map_cons, List.map_nil, c2, c3, concA, Int.reduceAdd, Int.reduceSub, Int.reduceNeg, Int.reduceMul, Int.reduceEq, Int.reduceBEq, Int.reduceBNe]
      exact .pure _ rfl
  · have r1 : ¬ ((l.length : Nat) : Int) = 1 := by omega
    simp (maxSteps := 4000000) only [↓packA, ↓reduceIte, packB, pureOp, quietOp, loadOp, quietB, fr0, cellsK, implies_true, ite_true, ite_false, eq_self, ne_eq, reduceCtorEq, Nat.reduceLT, Nat.reduceLeDiff, Nat.reduceAdd, Nat.reduceMul, Nat.reduceBEq, Nat.reduceEqDiff, Int.reduceToNat, Int.reduceLT, Int.reduceLE, Nat.reduceSub, pl79, ft3, ft109, ft149, lims, r1]
    exact .pure _ rfl
theorem one_c (l : List Int) : APure Tryz.prog 79 [lims l] (.bool (decide (l = [1]))) := by
  by_cases c : l = [1]
  · rw [decide_eq_true c, c]; exact one_t
  · rw [decide_eq_false c]; exact one_f l c
def cmpV (a b : Int) : Int := if a < b then -1 else if b < a then 1 else 0
set_option maxRecDepth 100000 in
theorem wcmp_c (a b : List Int) (ha : Norm a) (hb : Norm b) (hla : a.length < 1000000000) (hlb : b.length < 1000000000) : APure Tryz.prog 90 [lims a, lims b] (.int .i64 (cmpV (val a) (val b))) := by
  refine apure_of (wp90 rfl rfl ?_)
  by_cases c1 : a.length < b.length
  · have r1 : (a.length : Int) < (b.length : Int) := by omega
    have e : cmpV (val a) (val b) = -1 := if_pos (by
      apply Classical.byContradiction
      intro h
      have := hb.len_le ha.li (by omega)
      omega)
    rw [e]
    simp (maxSteps := 4000000) only [↓packA, ↓reduceIte, packB, pureOp, quietOp, loadOp, quietB, fr0, cellsK, implies_true, ite_true, ite_false, eq_self, ne_eq, reduceCtorEq, Nat.reduceLT, Nat.reduceLeDiff, Nat.reduceAdd, Nat.reduceMul, Nat.reduceBEq, Nat.reduceEqDiff, Int.reduceToNat, Int.reduceLT, Int.reduceLE, Nat.reduceSub, pl90, ft3, ft109, ft149, lims, r1]
    exact .pure _ rfl
  have r1 : ¬ (a.length : Int) < (b.length : Int) := by omega
  by_cases c2 : b.length < a.length
  · have r2 : (a.length : Int) > (b.length : Int) := by omega
    have e : cmpV (val a) (val b) = 1 := by
      have : val b < val a := by
        apply Classical.byContradiction
        intro h
        have := ha.len_le hb.li (by omega)
        omega
      unfold cmpV
      rw [if_neg (by omega), if_pos this]
    rw [e]
    simp (maxSteps := 4000000) only [↓packA, ↓reduceIte, packB, pureOp, quietOp, loadOp, quietB, fr0, cellsK, implies_true, ite_true, ite_false, eq_self, ne_eq, reduceCtorEq, Nat.reduceLT, Nat.reduceLeDiff, Nat.reduceAdd, Nat.reduceMul, Nat.reduceBEq, Nat.reduceEqDiff, Int.reduceToNat, Int.reduceLT, Int.reduceLE, Nat.reduceSub, pl90, ft3, ft109, ft149, lims, r1, r2]
    exact .pure _ rfl
  have r2 : ¬ (a.length : Int) > (b.length : Int) := by omega
  have hl : a.length = b.length := by omega
  simp (maxSteps := 4000000) only [↓packA, ↓reduceIte, packB, pureOp, quietOp, loadOp, quietB, fr0, cellsK, implies_true, ite_true, ite_false, eq_self, ne_eq, reduceCtorEq, Nat.reduceLT, Nat.reduceLeDiff, Nat.reduceAdd, Nat.reduceMul, Nat.reduceBEq, Nat.reduceEqDiff, Int.reduceToNat, Int.reduceLT, Int.reduceLE, Nat.reduceSub, pl90, ft3, ft109, ft149, lims, r1, r2]
  refine ⟨by omega, ?_⟩
  refine LoopK.intro (fun m w g => ∃ k : Nat, m = k + 1 ∧ k ≤ a.length ∧ a.drop k = b.drop k ∧ w 0 = lims a ∧ w 1 = lims b ∧ w 5 = .int .i64 ((k : Int) - 1) ∧ g = []) (a.length + 1) ⟨a.length, rfl, Nat.le_refl _, ?_, ?_⟩ ?_
  · rw [List.drop_length, hl, List.drop_length]
  · simp (maxSteps := 4000000) only [↓packA, ↓reduceIte, packB, pureOp, quietOp, loadOp, quietB, fr0, cellsK, implies_true, ite_true, ite_false, eq_self, ne_eq, reduceCtorEq, Nat.reduceLT, Nat.reduceLeDiff, Nat.reduceAdd, Nat.reduceMul, Nat.reduceBEq, Nat.reduceEqDiff, Int.reduceToNat, Int.reduceLT, Int.reduceLE, Nat.reduceSub, pl90, ft3, ft109, ft149, lims]
  rintro m w g ⟨k, rfl, hk, hd, a0, a1, a5, rfl⟩
  by_cases r : 0 < k
  · obtain ⟨k, rfl⟩ : ∃ j, k = j + 1 := ⟨k - 1, by omega⟩
    have r3 : ((k + 1 : Nat) : Int) - 1 ≥ 0 := by omega
    have e1 : (((k + 1 : Nat) : Int) - 1).toNat = k := by omega
    by_cases c3 : a.getD k default < b.getD k default
    · have e : cmpV (val a) (val b) = -1 := if_pos (val_lt ha.li hb.li hl (by omega) c3 hd)
      rw [e]
      simp (maxSteps := 4000000) only [↓packA, ↓reduceIte, packB, pureOp, quietOp, loadOp, quietB, fr0, cellsK, implies_true, ite_true, ite_false, eq_self, ne_eq, reduceCtorEq, Nat.reduceLT, Nat.reduceLeDiff, Nat.reduceAdd, Nat.reduceMul, Nat.reduceBEq, Nat.reduceEqDiff, Int.reduceToNat, Int.reduceLT, Int.reduceLE, Nat.reduceSub, pl90, ft3, ft109, ft149, lims, a0, a1, a5, r3, e1, limR, c3]
      exact ⟨by omega, by omega, .pure _ rfl⟩
    by_cases c4 : b.getD k default < a.getD k default
    · have hlt := val_lt hb.li ha.li hl.symm (by omega) c4 hd.symm
      have e : cmpV (val a) (val b) = 1 := by
        unfold cmpV
        rw [if_neg (by omega), if_pos hlt]
      rw [e]
      have c5 : a.getD k default > b.getD k default := c4
      simp (maxSteps := 4000000) only [↓packA, ↓reduceIte, packB, pureOp, quietOp, loadOp, quietB, fr0, cellsK, implies_true, ite_true, ite_false, eq_self, ne_eq, reduceCtorEq, Nat.reduceLT, Nat.reduceLeDiff, Nat.reduceAdd, Nat.reduceMul, Nat.reduceBEq, Nat.reduceEqDiff, Int.reduceToNat, Int.reduceLT, Int.reduceLE, Nat.reduceSub, pl90, ft3, ft109, ft149, lims, a0, a1, a5, r3, e1, limR, c3, c5]
      exact ⟨by omega, by omega, by omega, by omega, .pure _ rfl⟩
    have c5 : ¬ a.getD k default > b.getD k default := c4
    simp (maxSteps := 4000000) only [↓packA, ↓reduceIte, packB, pureOp, quietOp, loadOp, quietB, fr0, cellsK, implies_true, ite_true, ite_false, eq_self, ne_eq, reduceCtorEq, Nat.reduceLT, Nat.reduceLeDiff, Nat.reduceAdd, Nat.reduceMul, Nat.reduceBEq, Nat.reduceEqDiff, Int.reduceToNat, Int.reduceLT, Int.reduceLE, Nat.reduceSub, pl90, ft3, ft109, ft149, lims, a0, a1, a5, r3, e1, limR, c3, c5]
    have e2 : a.drop k = b.drop k := by
      rw [List.drop_eq_getElem_cons (show k < a.length by omega), List.drop_eq_getElem_cons (show k < b.length by omega), hd]
      congr 1
      have g1 : a.getD k default = a[k] := by rw [List.getD_eq_getElem?_getD, List.getElem?_eq_getElem (show k < a.length by omega)]; rfl
      have g2 : b.getD k default = b[k] := by rw [List.getD_eq_getElem?_getD, List.getElem?_eq_getElem (show k < b.length by omega)]; rfl
      omega
    exact ⟨by omega, by omega, by omega, by omega, by omega, .inl ⟨k + 1, by omega, k, rfl, by omega, e2, by omega⟩⟩
  · have r3 : ¬ ((k : Nat) : Int) - 1 ≥ 0 := by omega
    obtain rfl : k = 0 := by omega
    have : a = b := hd
    subst this
    have e : cmpV (val a) (val a) = 0 := by unfold cmpV; rw [if_neg (by omega), if_neg (by omega)]
    rw [e]
    simp (maxSteps := 4000000) only [↓packA, ↓reduceIte, packB, pureOp, quietOp, loadOp, quietB, fr0, cellsK, implies_true, ite_true, ite_false, eq_self, ne_eq, reduceCtorEq, Nat.reduceLT, Nat.reduceLeDiff, Nat.reduceAdd, Nat.reduceMul, Nat.reduceBEq, Nat.reduceEqDiff, Int.reduceToNat, Int.reduceLT, Int.reduceLE, Nat.reduceSub, pl90, ft3, ft109, ft149, lims, a0, a1, a5, r3, concA, Int.reduceAdd, Int.reduceSub, Int.reduceNeg, Int.reduceMul, Int.reduceEq, Int.reduceBEq, Int.reduceBNe]
    exact .pure _ rfl
end Go.Proofs.YtclbobielhllmaaGreat
end
section
namespace Go.Proofs.YtclbobielhllmaaGreat
open Go Go.AL
set_option linter.unusedVariables false
set_option linter.unusedSimpArgs false
theorem or_low {x y : Int} (hx : 0 ≤ x) (hx2 : x * 4294967296 + y < 18446744073709551616) (hy : 0 ≤ y ∧ y < 4294967296) : IntKind.u64.wrap ((BitVec.ofInt IntKind.u64.bits (x * 4294967296) ||| BitVec.ofInt IntKind.u64.bits y).toNat) = x * 4294967296 + y := by
  obtain ⟨a, rfl⟩ := Int.eq_ofNat_of_zero_le hx
  obtain ⟨b, rfl⟩ := Int.eq_ofNat_of_zero_le hy.1
  have hb : b < 2 ^ 32 := by omega
  have e : ((BitVec.ofInt IntKind.u64.bits ((a : Int) * 4294967296) ||| BitVec.ofInt IntKind.u64.bits (b : Int)).toNat) = a * 2 ^ 32 + b := by
    rw [show IntKind.u64.bits = 64 from rfl, show ((a : Int) * 4294967296) = ((a * 2 ^ 32 : Nat) : Int) by omega, BitVec.ofInt_natCast, BitVec.ofInt_natCast, BitVec.toNat_or, BitVec.toNat_ofNat, BitVec.toNat_ofNat, Nat.mod_eq_of_lt (by omega), Nat.mod_eq_of_lt (by omega)]
    rw [← Nat.shiftLeft_eq, Nat.shiftLeft_add_eq_or_of_lt hb]
  rw [e, IntKind.wrap_u64]
  omega
theorem shl32 {x : Int} (hx : 0 ≤ x ∧ x < 4294967296) : IntKind.u64.wrap (x * 2 ^ (min 32 IntKind.u64.bits)) = x * 4294967296 := by
  rw [show min 32 IntKind.u64.bits = 32 from rfl, IntKind.wrap_u64]
  omega
theorem cu64 {x : Int} (hx : 0 ≤ x ∧ x < 4294967296) : IntKind.u64.wrap x = x := by
  rw [IntKind.wrap_u64]
  omega
theorem val_drop {l : List Int} {k : Nat} (hk : k < l.length) : val (l.drop k) = val (l.drop (k + 1)) * 4294967296 + l.getD k default := by
  rw [List.drop_eq_getElem_cons hk, val, List.getD_eq_getElem?_getD, List.getElem?_eq_getElem hk, Option.getD_some]
  omega
set_option maxRecDepth 100000 in
theorem low_c (l : List Int) (hl : LI l) (h2 : l.length ≤ 2) : APure Tryz.prog 94 [lims l] (.int .u64 (val l)) := by
  refine apure_of (wp94 rfl rfl ?_)
  simp (maxSteps := 4000000) only [↓packA, ↓reduceIte, packB, pureOp, quietOp, loadOp, quietB, fr0, cellsK, implies_true, ite_true, ite_false, eq_self, ne_eq, reduceCtorEq, Nat.reduceLT, Nat.reduceLeDiff, Nat.reduceAdd, Nat.reduceMul, Nat.reduceBEq, Nat.reduceEqDiff, Int.reduceToNat, Int.reduceLT, Int.reduceLE, Nat.reduceSub, pl94, ft3, ft109, ft110, ft147, ft149, lims]
  refine ⟨by omega, ?_⟩
  refine LoopK.intro (fun m w g => ∃ k : Nat, m = k + 1 ∧ k ≤ l.length ∧ w 0 = lims l ∧ w 3 = .int .u64 (val (l.drop k)) ∧ w 4 = .int .i64 ((k : Int) - 1) ∧ g = []) (l.length + 1) ⟨l.length, rfl, Nat.le_refl _, ?_⟩ ?_
  · simp (maxSteps := 4000000) only [↓packA, ↓reduceIte, packB, pureOp, quietOp, loadOp, quietB, fr0, cellsK, implies_true, ite_true, ite_false, eq_self, ne_eq, reduceCtorEq, Nat.reduceLT, Nat.reduceLeDiff, Nat.reduceAdd, Nat.reduceMul, Nat.reduceBEq, Nat.reduceEqDiff, Int.reduceToNat, Int.reduceLT, Int.reduceLE, Nat.reduceSub, pl94, ft3, ft109, ft110, ft147, ft149, lims, List.drop_length, val]
  rintro m w g ⟨k, rfl, hk, a0, a3, a4, rfl⟩
  by_cases r : 0 < k
  · obtain ⟨k, rfl⟩ : ∃ j, k = j + 1 := ⟨k - 1, by omega⟩
    have r3 : ((k + 1 : Nat) : Int) - 1 ≥ 0 := by omega
    have e1 : (((k + 1 : Nat) : Int) - 1).toNat = k := by omega
    have hx := hl.get (i := k)
    have hd := val_bound (hl.drop (k + 1))
    rw [List.length_drop] at hd
    have hd2 : (4294967296 : Int) ^ (l.length - (k + 1)) ≤ 4294967296 ^ 1 := bmono (by omega)
    have hv : 0 ≤ val (l.drop (k + 1)) ∧ val (l.drop (k + 1)) < 4294967296 := by omega
    have e := or_low (x := val (l.drop (k + 1))) (y := l.getD k default) hv.1 (by omega) hx
    have es := shl32 hv
    have ec := cu64 hx
    have ev := val_drop (l := l) (k := k) (by omega)
    simp (maxSteps := 4000000) only [↓packA, ↓reduceIte, packB, pureOp, quietOp, loadOp, quietB, fr0, cellsK, implies_true, ite_true, ite_false, eq_self, ne_eq, reduceCtorEq, Nat.reduceLT, Nat.reduceLeDiff, Nat.reduceAdd, Nat.reduceMul, Nat.reduceBEq, Nat.reduceEqDiff, Int.reduceToNat, Int.reduceLT, Int.reduceLE, Nat.reduceSub, pl94, ft3, ft109, ft110, ft147, ft149, lims, a0, a3, a4, r3, e1, limR, concA, Int.reduceAdd, Int.reduceSub, Int.reduceNeg, Int.reduceMul, Int.reduceEq, Int.reduceBEq, Int.reduceBNe, es, ec, e]
    exact ⟨by omega, by omega, .inl ⟨k + 1, by omega, k, rfl, by omega, ev.symm, by omega⟩⟩
  · have r3 : ¬ ((k : Nat) : Int) - 1 ≥ 0 := by omega
    obtain rfl : k = 0 := by omega
    simp (maxSteps := 4000000) only [↓packA, ↓reduceIte, packB, pureOp, quietOp, loadOp, quietB, fr0, cellsK, implies_true, ite_true, ite_false, eq_self, ne_eq, reduceCtorEq, Nat.reduceLT, Nat.reduceLeDiff, Nat.reduceAdd, Nat.reduceMul, Nat.reduceBEq, Nat.reduceEqDiff, Int.reduceToNat, Int.reduceLT, Int.reduceLE, Nat.reduceSub, pl94, ft3, ft109, ft110, ft147, ft149, lims, a0, a3, a4, r3, concA, Int.reduceAdd, Int.reduceSub, Int.reduceNeg, Int.reduceMul, Int.reduceEq, Int.reduceBEq, Int.reduceBNe]
    exact .pure _ rfl
set_option maxRecDepth 100000 in
theorem of_c (x : Int) (hx : 0 ≤ x ∧ x < 18446744073709551616) {h : Heap} {Q : AV → Heap → Prop} (hq : ∀ es, es.length = 2 → LI es → val es = x → Q (.osl h.length 1 0 (trmN es 2) 2 true) (h ++ [.arr 1 (List.map u32E es) true]) ) : ACalls Tryz.prog 95 [.int .u64 x] h Q := by
  refine wp95 rfl rfl ?_
  obtain ⟨M, hM⟩ : ∃ M, h.length = M := ⟨_, rfl⟩
  have rM : ∀ o, (h ++ [o])[M]? = some o := fun o => by rw [List.getElem?_append_right (by omega)]; simp [hM]
  have e1 : IntKind.u32.wrap x = x % 4294967296 := by rw [IntKind.wrap_u32]
  have e2 : IntKind.u32.wrap (x.fdiv (2 ^ (min 32 IntKind.u64.bits))) = x / 4294967296 := by
    rw [show min 32 IntKind.u64.bits = 32 from rfl, Int.fdiv_eq_ediv_of_nonneg _ (by decide), IntKind.wrap_u32]
    omega
  simp (maxSteps := 4000000) only [↓packA, ↓reduceIte, packB, pureOp, quietOp, loadOp, quietB, fr0, cellsK, implies_true, ite_true, ite_false, eq_self, ne_eq, reduceCtorEq, Nat.reduceLT, Nat.reduceLeDiff, Nat.reduceAdd, Nat.reduceMul, Nat.reduceBEq, Nat.reduceEqDiff, Int.reduceToNat, Int.reduceLT, Int.reduceLE, Nat.reduceSub, pl95, ft2, ft109, ft110, ft147, ft149, limR, hM, rM]
  rw [e1, e2, two_u32E]
  refine trim_o (es := [x % 4294967296, x / 4294967296]) (rM _) (by simp) (by omega) (by omega) ?_
  have hq2 := hq [x % 4294967296, x / 4294967296] rfl (LI.cons (by omega) (LI.cons (by omega) LI.nil)) (by simp only [val]; omega)
  rw [hM] at hq2
  simp (maxSteps := 4000000) only [↓packA, ↓reduceIte, packB, pureOp, quietOp, loadOp, quietB, fr0, cellsK, implies_true, ite_true, ite_false, eq_self, ne_eq, reduceCtorEq, Nat.reduceLT, Nat.reduceLeDiff, Nat.reduceAdd, Nat.reduceMul, Nat.reduceBEq, Nat.reduceEqDiff, Int.reduceToNat, Int.reduceLT, Int.reduceLE, Nat.reduceSub, pl95, ft2, ft109, ft110, ft147, ft149]
  exact hq2
set_option maxRecDepth 100000 in
theorem maynat_c (l : List Int) (hl : l.length < 1000000000) : APure Tryz.prog 78 [lims l] (.bool (decide (l.length ≤ 2048 ∧ (l.length = 0 ∨ l.getD (l.length - 1) default ≠ 0)))) := by
  refine apure_of (wp78 rfl rfl ?_)
  by_cases c1 : l.length ≤ 2048
  · have r1 : (l.length : Int) ≤ 2048 := by omega
    by_cases c2 : l.length = 0
    · rw [decide_eq_true ⟨c1, .inl c2⟩]
      have r2 : (l.length : Int) = 0 := by omega
      simp (maxSteps := 4000000) only [↓packA, ↓reduceIte, packB, pureOp, quietOp, loadOp, quietB, fr0, cellsK, implies_true, ite_true, ite_false, eq_self, ne_eq, reduceCtorEq, Nat.reduceLT, Nat.reduceLeDiff, Nat.reduceAdd, Nat.reduceMul, Nat.reduceBEq, Nat.reduceEqDiff, Int.reduceToNat, Int.reduceLT, Int.reduceLE, Nat.reduceSub, pl78, ft3, ft59, ft109, lims, limR, r1, r2, concA, Int.reduceAdd, Int.reduceSub, Int.reduceNeg, Int.reduceMul, Int.reduceEq, Int.reduceBEq, Int.reduceBNe]
      exact .pure _ rfl
    · have r2 : ¬ (l.length : Int) = 0 := by omega
      have e1 : ((l.length : Int) - 1).toNat = l.length - 1 := by omega
      have r3 : ((l.length : Int) == 0) = false := beq_false_of_ne r2
      by_cases c3 : l.getD (l.length - 1) default = 0
      · rw [decide_eq_false (fun h => h.2.elim c2 (fun h => h c3))]
        simp (maxSteps := 4000000) only [↓packA, ↓reduceIte, packB, pureOp, quietOp, loadOp, quietB, fr0, cellsK, implies_true, ite_true, ite_false, eq_self, ne_eq, reduceCtorEq, Nat.reduceLT, Nat.reduceLeDiff, Nat.reduceAdd, Nat.reduceMul, Nat.reduceBEq, Nat.reduceEqDiff, Int.reduceToNat, Int.reduceLT, Int.reduceLE, Nat.reduceSub, pl78, ft3, ft59, ft109, lims, limR, r1, r2, r3, e1, c3, concA, Int.reduceAdd, Int.reduceSub, Int.reduceNeg, Int.reduceMul, Int.reduceEq, Int.reduceBEq, Int.reduceBNe]
        exact ⟨by omega, by omega, by omega, .pure _ rfl⟩
      · rw [decide_eq_true ⟨c1, .inr c3⟩]
        have r4 : (l.getD (l.length - 1) default != 0) = true := by simpa using c3
        simp (maxSteps := 4000000) only [↓packA, ↓reduceIte, packB, pureOp, quietOp, loadOp, quietB, fr0, cellsK, implies_true, ite_true, ite_false, eq_self, ne_eq, reduceCtorEq, Nat.reduceLT, Nat.reduceLeDiff, Nat.reduceAdd, Nat.reduceMul, Nat.reduceBEq, Nat.reduceEqDiff, Int.reduceToNat, Int.reduceLT, Int.reduceLE, Nat.reduceSub, pl78, ft3, ft59, ft109, lims, limR, r1, r2, r3, e1, c3, r4, concA, Int.reduceAdd, Int.reduceSub, Int.reduceNeg, Int.reduceMul, Int.reduceEq, Int.reduceBEq, Int.reduceBNe]
        exact ⟨by omega, by omega, by omega, .pure _ rfl⟩
  · have r1 : ¬ (l.length : Int) ≤ 2048 := by omega
    rw [decide_eq_false (fun h => c1 h.1)]
    simp (maxSteps := 4000000) only [↓packA, ↓reduceIte, packB, pureOp, quietOp, loadOp, quietB, fr0, cellsK, implies_true, ite_true, ite_false, eq_self, ne_eq, reduceCtorEq, Nat.reduceLT, Nat.reduceLeDiff, Nat.reduceAdd, Nat.reduceMul, Nat.reduceBEq, Nat.reduceEqDiff, Int.reduceToNat, Int.reduceLT, Int.reduceLE, Nat.reduceSub, pl78, ft3, ft59, ft109, lims, limR, r1, concA, Int.reduceAdd, Int.reduceSub, Int.reduceNeg, Int.reduceMul, Int.reduceEq, Int.reduceBEq, Int.reduceBNe]
    exact .pure _ rfl
set_option maxRecDepth 100000 in
theorem rmaynat_c (l : List Int) (hl : l.length < 1000000000) : APure Tryz.prog 75 [lims l] (.bool (decide (l.length ≤ 2048 ∧ (l.length = 0 ∨ l.getD (l.length - 1) default ≠ 0)))) := by
  refine apure_of (wp75 rfl rfl ?_)
  by_cases c1 : l.length ≤ 2048
  · have r1 : (l.length : Int) ≤ 2048 := by omega
    by_cases c2 : l.length = 0
    · rw [decide_eq_true ⟨c1, .inl c2⟩]
      have r2 : (l.length : Int) = 0 := by omega
      simp (maxSteps := 4000000) only [↓packA, ↓reduceIte, packB, pureOp, quietOp, loadOp, quietB, fr0, cellsK, implies_true, ite_true, ite_false, eq_self, ne_eq, reduceCtorEq, Nat.reduceLT, Nat.reduceLeDiff, Nat.reduceAdd, Nat.reduceMul, Nat.reduceBEq, Nat.reduceEqDiff, Int.reduceToNat, Int.reduceLT, Int.reduceLE, Nat.reduceSub, pl75, ft3, ft59, ft109, lims, limR, r1, r2, concA, Int.reduceAdd, Int.reduceSub, Int.reduceNeg, Int.reduceMul, Int.reduceEq, Int.reduceBEq, Int.reduceBNe]
      exact .pure _ rfl
    · have r2 : ¬ (l.length : Int) = 0 := by omega
      have e1 : ((l.length : Int) - 1).toNat = l.length - 1 := by omega
      have r3 : ((l.length : Int) == 0) = false := beq_false_of_ne r2
      by_cases c3 : l.getD (l.length - 1) default = 0
      · rw [decide_eq_false (fun h => h.2.elim c2 (fun h => h c3))]
        simp (maxSteps := 4000000) only [↓packA, ↓reduceIte, packB, pureOp, quietOp, loadOp, quietB, fr0, cellsK, implies_true, ite_true, ite_false, eq_self, ne_eq, reduceCtorEq, Nat.reduceLT, Nat.reduceLeDiff, Nat.reduceAdd, Nat.reduceMul, Nat.reduceBEq, Nat.reduceEqDiff, Int.reduceToNat, Int.reduceLT, Int.reduceLE, Nat.reduceSub, pl75, ft3, ft59, ft109, lims, limR, r1, r2, r3, e1, c3, concA, Int.reduceAdd, Int.reduceSub, Int.reduceNeg, Int.reduceMul, Int.reduceEq, Int.reduceBEq, Int.reduceBNe]
        exact ⟨by omega, by omega, by omega, .pure _ rfl⟩
      · rw [decide_eq_true ⟨c1, .inr c3⟩]
        have r4 : (l.getD (l.length - 1) default != 0) = true := by simpa using c3
        simp (maxSteps := 4000000) only [↓packA, ↓reduceIte, packB, pureOp, quietOp, loadOp, quietB, fr0, cellsK, implies_true, ite_true, ite_false, eq_self, ne_eq, reduceCtorEq, Nat.reduceLT, Nat.reduceLeDiff, Nat.reduceAdd, Nat.reduceMul, Nat.reduceBEq, Nat.reduceEqDiff, Int.reduceToNat, Int.reduceLT, Int.reduceLE, Nat.reduceSub, pl75, ft3, ft59, ft109, lims, limR, r1, r2, r3, e1, c3, r4, concA, Int.reduceAdd, Int.reduceSub, Int.reduceNeg, Int.reduceMul, Int.reduceEq, Int.reduceBEq, Int.reduceBNe]
        exact ⟨by omega, by omega, by omega, .pure _ rfl⟩
  · have r1 : ¬ (l.length : Int) ≤ 2048 := by omega
    rw [decide_eq_false (fun h => c1 h.1)]
    simp (maxSteps := 4000000) only [↓packA, ↓reduceIte, packB, pureOp, quietOp, loadOp, quietB, fr0, cellsK, implies_true, ite_true, ite_false, eq_self, ne_eq, reduceCtorEq, Nat.reduceLT, Nat.reduceLeDiff, Nat.reduceAdd, Nat.reduceMul, Nat.reduceBEq, Nat.reduceEqDiff, Int.reduceToNat, Int.reduceLT, Int.reduceLE, Nat.reduceSub, pl75, ft3, ft59, ft109, lims, limR, r1, concA, Int.reduceAdd, Int.reduceSub, Int.reduceNeg, Int.reduceMul, Int.reduceEq, Int.reduceBEq, Int.reduceBNe]
    exact .pure _ rfl
end Go.Proofs.YtclbobielhllmaaGreat
end
section
namespace Go.Proofs.YtclbobielhllmaaGreat
open Go Go.AL
set_option linter.unusedVariables false
set_option linter.unusedSimpArgs false
theorem mulb {p x P X : Int} (h0 : 0 ≤ p) (h1 : p ≤ P) (h2 : 0 ≤ x) (h3 : x ≤ X) : 0 ≤ p * x ∧ p * x ≤ P * X :=
  ⟨Int.mul_nonneg h0 h2, Int.mul_le_mul h1 h3 h2 (by omega)⟩
def Sg (p q : Int) : Prop := (0 ≤ p ∧ p ≤ 2147483647 ∧ -2147483647 ≤ q ∧ q ≤ 0) ∨ (-2147483647 ≤ p ∧ p ≤ 0 ∧ 0 ≤ q ∧ q ≤ 2147483647)
theorem sg_bound {p q x y : Int} (h : Sg p q) (hx : 0 ≤ x ∧ x < 4294967296) (hy : 0 ≤ y ∧ y < 4294967296) : (-9223372030412324865 ≤ p * x ∧ p * x ≤ 9223372030412324865) ∧ (-9223372030412324865 ≤ q * y ∧ q * y ≤ 9223372030412324865) ∧ -9223372030412324865 ≤ p * x + q * y ∧ p * x + q * y ≤ 9223372030412324865 := by
  rcases h with ⟨h1, h2, h3, h4⟩ | ⟨h1, h2, h3, h4⟩
  · have a := mulb h1 h2 hx.1 (show x ≤ 4294967295 by omega)
    have b := mulb (show 0 ≤ -q by omega) (show -q ≤ 2147483647 by omega) hy.1 (show y ≤ 4294967295 by omega)
    rw [Int.neg_mul] at b
    omega
  · have a := mulb (show 0 ≤ -p by omega) (show -p ≤ 2147483647 by omega) hx.1 (show x ≤ 4294967295 by omega)
    have b := mulb h3 h4 hy.1 (show y ≤ 4294967295 by omega)
    rw [Int.neg_mul] at a
    omega
theorem val_take_next {l : List Int} {k : Nat} : val (l.take (k + 1)) = val (l.take k) + 4294967296 ^ k * l.getD k default := by
  rcases Nat.lt_or_ge k l.length with h | h
  · exact val_take_succ h
  · rw [List.take_of_length_le (by omega), List.take_of_length_le h, List.getD_eq_getElem?_getD, List.getElem?_eq_none h]
    simp
theorem fdiv32 {x : Int} : x.fdiv (2 ^ (min 32 IntKind.i64.bits)) = x / 4294967296 := by
  rw [show min 32 IntKind.i64.bits = 32 from rfl, Int.fdiv_eq_ediv_of_nonneg _ (by decide)]
  rfl
theorem set_take {l : List Int} {k : Nat} {v : Int} : (l.set k v).take k = l.take k := by rw [List.take_set, List.set_eq_of_length_le (by rw [List.length_take]; omega)]
theorem ofz_lims {h : Heap} {id len cap n : Nat} {ex ex' : Bool} {es : List Int} (hid : h[id]? = some (.arr 1 (List.map u32E es) ex')) (hl : len ≤ n) (hn : n ≤ es.length) : OFz h (.osl id 1 0 len cap ex) (lims (es.take len)) := by
  have := OFz.osl (h := h) id 1 0 len cap ex ex' (List.map u32E es) hid (by simp; omega) (fun e he => by
    obtain ⟨x, _, rfl⟩ := List.mem_map.1 he; rfl)
  rw [List.drop_zero, ← List.map_take] at this
  exact this
set_option maxHeartbeats 4000000 in
set_option maxRecDepth 100000 in
theorem mixed_c (a b : List Int) (ha : LI a) (hb : LI b) (hla : a.length < 100000000) (hlb : b.length ≤ a.length) (p q : Int) (hs : Sg p q) (h0 : 0 ≤ p * val a + q * val b) (h1 : p * val a + q * val b < 4294967296 ^ (a.length + 1)) : ACalls Tryz.prog 93 [lims a, lims b, .int .i64 p, .int .i64 q] [] fun v h => ∃ r, Norm r ∧ val r = p * val a + q * val b ∧ OFz h v (lims r) := by
  refine wp93 rfl rfl ?_
  have en : ((a.length : Int) + 1) = ((a.length + 1 : Nat) : Int) := by omega
  simp (maxSteps := 4000000) only [↓packA, ↓reduceIte, packB, pureOp, quietOp, loadOp, quietB, fr0, cellsK, implies_true, ite_true, ite_false, eq_self, ne_eq, reduceCtorEq, Nat.reduceLT, Nat.reduceLeDiff, Nat.reduceAdd, Nat.reduceMul, Nat.reduceBEq, Nat.reduceEqDiff, Int.reduceToNat, Int.reduceLT, Int.reduceLE, Nat.reduceSub, pl93, ft2, ft3, ft109, ft147, ft149, lims, limR, en]
  refine ⟨by omega, by omega, ?_⟩
  refine LoopK.intro (fun m w g => ∃ (k : Nat) (es : List Int) (c : Int), m = a.length + 1 - k ∧ k ≤ a.length + 1 ∧ es.length = a.length + 1 ∧ LI es ∧ (-2147483647 ≤ c ∧ c ≤ 2147483647) ∧ val (es.take k) + 4294967296 ^ k * c = p * val (a.take k) + q * val (b.take k) ∧ w 0 = lims a ∧ w 1 = lims b ∧ w 2 = .int .i64 p ∧ w 3 = .int .i64 q ∧ w 9 = .osl 0 1 0 (a.length + 1) (a.length + 1) true ∧ w 10 = .int .i64 c ∧ w 19 = .int .i64 (a.length + 1 : Nat) ∧ w 20 = .int .i64 k ∧ g = [.arr 1 (List.map u32E es) true]) (a.length + 1) ⟨0, List.replicate (a.length + 1) 0, 0, rfl, Nat.zero_le _, by simp, LI.rep, by omega, by simp [val], ?_⟩ ?_
  · simp (maxSteps := 4000000) only [↓packA, ↓reduceIte, packB, pureOp, quietOp, loadOp, quietB, fr0, cellsK, implies_true, ite_true, ite_false, eq_self, ne_eq, reduceCtorEq, Nat.reduceLT, Nat.reduceLeDiff, Nat.reduceAdd, Nat.reduceMul, Nat.reduceBEq, Nat.reduceEqDiff, Int.reduceToNat, Int.reduceLT, Int.reduceLE, Nat.reduceSub, pl93, ft2, ft3, ft109, ft147, ft149, lims, Int.natCast_zero]
  rintro m w g ⟨k, es, c, rfl, hk, hes, hL, hc, hv, a0, a1, a2, a3, a9, a10, a19, a20, rfl⟩
  by_cases r : k < a.length + 1
  · have r1 : (k : Int) < ((a.length + 1 : Nat) : Int) := by omega
    have hx := ha.get (i := k)
    have hy := hb.get (i := k)
    have hbd := sg_bound hs hx hy
    have eA := val_take_next (l := a) (k := k)
    have eB := val_take_next (l := b) (k := k)
    generalize hX : a.getD k default = x at *
    generalize hY : b.getD k default = y at *
    have key : ∀ s, s = c + (p * x + q * y) → ∃ (c' : Int) (es' : List Int), c' = s / 4294967296 ∧ es' = es.set k (IntKind.u32.wrap s) ∧ es'.length = a.length + 1 ∧ LI es' ∧ (-2147483647 ≤ c' ∧ c' ≤ 2147483647) ∧ val (es'.take (k + 1)) + 4294967296 ^ (k + 1) * c' = p * val (a.take (k + 1)) + q * val (b.take (k + 1)) := fun s hs => by
      have ew : IntKind.u32.wrap s = s % 4294967296 := IntKind.wrap_u32 _
      refine ⟨_, _, rfl, rfl, by rw [List.length_set]; exact hes, hL.set (by rw [ew]; omega), by omega, ?_⟩
      rw [val_take_succ (by rw [List.length_set]; omega), set_take, List.getD_eq_getElem?_getD, List.getElem?_set_self (by omega), Option.getD_some, ew, eA, eB, Int.pow_succ, Int.mul_add, Int.mul_add]
      have e1 : p * (4294967296 ^ k * x) = 4294967296 ^ k * (p * x) := by rw [Int.mul_left_comm]
      have e2 : q * (4294967296 ^ k * y) = 4294967296 ^ k * (q * y) := by rw [Int.mul_left_comm]
      have e3 : (4294967296 : Int) ^ k * (s % 4294967296) + 4294967296 ^ k * 4294967296 * (s / 4294967296) = 4294967296 ^ k * s := by
        rw [Int.mul_assoc, ← Int.mul_add, Int.emod_add_mul_ediv]
      have e4 : (4294967296 : Int) ^ k * s = 4294967296 ^ k * c + (4294967296 ^ k * (p * x) + 4294967296 ^ k * (q * y)) := by rw [hs, Int.mul_add, Int.mul_add]
      rw [e1, e2]
      omega
    obtain ⟨_, _, rfl, rfl, k1, k2, k3, k4⟩ := key _ rfl
    by_cases c1 : k < a.length
    · have r2 : (k : Int) < (a.length : Int) := by omega
      have ex : IntKind.i64.wrap x = x := IntWalk.i64_in x (by omega)
      by_cases c2 : k < b.length
      · have r3 : (k : Int) < (b.length : Int) := by omega
        simp (maxSteps := 4000000) only [↓packA, ↓reduceIte, packB, pureOp, quietOp, loadOp, quietB, fr0, cellsK, implies_true, ite_true, ite_false, eq_self, ne_eq, reduceCtorEq, Nat.reduceLT, Nat.reduceLeDiff, Nat.reduceAdd, Nat.reduceMul, Nat.reduceBEq, Nat.reduceEqDiff, Int.reduceToNat, Int.reduceLT, Int.reduceLE, Nat.reduceSub, pl93, ft2, ft3, ft109, ft147, ft149, lims, limR, a0, a1, a2, a3, a9, a10, a19, a20, r1, r2, r3, hX, hY, fdiv32]
        exact ⟨by omega, by omega, by omega, by omega, by omega, by omega, by omega, by omega, by omega, by omega, by omega, by omega, by omega, .inl ⟨a.length + 1 - (k + 1), by omega, k + 1, _, _, rfl, by omega, k1, k2, k3, k4, rfl, by omega, rfl⟩⟩
      · have r3 : ¬ (k : Int) < (b.length : Int) := by omega
        have hy0 : y = 0 := by rw [← hY, List.getD_eq_getElem?_getD, List.getElem?_eq_none (by omega)]; rfl
        subst hy0
        simp (maxSteps := 4000000) only [↓packA, ↓reduceIte, packB, pureOp, quietOp, loadOp, quietB, fr0, cellsK, implies_true, ite_true, ite_false, eq_self, ne_eq, reduceCtorEq, Nat.reduceLT, Nat.reduceLeDiff, Nat.reduceAdd, Nat.reduceMul, Nat.reduceBEq, Nat.reduceEqDiff, Int.reduceToNat, Int.reduceLT, Int.reduceLE, Nat.reduceSub, pl93, ft2, ft3, ft109, ft147, ft149, lims, limR, a0, a1, a2, a3, a9, a10, a19, a20, r1, r2, r3, hX, hY, fdiv32]
        exact ⟨by omega, by omega, by omega, by omega, by omega, by omega, by omega, by omega, by omega, by omega, .inl ⟨a.length + 1 - (k + 1), by omega, k + 1, _, _, rfl, by omega, k1, k2, k3, k4, rfl, by omega, rfl⟩⟩
    · have r2 : ¬ (k : Int) < (a.length : Int) := by omega
      have r3 : ¬ (k : Int) < (b.length : Int) := by omega
      have hx0 : x = 0 := by rw [← hX, List.getD_eq_getElem?_getD, List.getElem?_eq_none (by omega)]; rfl
      have hy0 : y = 0 := by rw [← hY, List.getD_eq_getElem?_getD, List.getElem?_eq_none (by omega)]; rfl
      subst hx0 hy0
      simp (maxSteps := 4000000) only [↓packA, ↓reduceIte, packB, pureOp, quietOp, loadOp, quietB, fr0, cellsK, implies_true, ite_true, ite_false, eq_self, ne_eq, reduceCtorEq, Nat.reduceLT, Nat.reduceLeDiff, Nat.reduceAdd, Nat.reduceMul, Nat.reduceBEq, Nat.reduceEqDiff, Int.reduceToNat, Int.reduceLT, Int.reduceLE, Nat.reduceSub, pl93, ft2, ft3, ft109, ft147, ft149, lims, limR, a0, a1, a2, a3, a9, a10, a19, a20, r1, r2, r3, hX, hY, fdiv32]
      exact ⟨by omega, by omega, by omega, by omega, by omega, by omega, by omega, .inl ⟨a.length + 1 - (k + 1), by omega, k + 1, _, _, rfl, by omega, k1, k2, k3, k4, rfl, by omega, rfl⟩⟩
  · have r1 : ¬ (k : Int) < ((a.length + 1 : Nat) : Int) := by omega
    obtain rfl : k = a.length + 1 := by omega
    simp (maxSteps := 4000000) only [↓packA, ↓reduceIte, packB, pureOp, quietOp, loadOp, quietB, fr0, cellsK, implies_true, ite_true, ite_false, eq_self, ne_eq, reduceCtorEq, Nat.reduceLT, Nat.reduceLeDiff, Nat.reduceAdd, Nat.reduceMul, Nat.reduceBEq, Nat.reduceEqDiff, Int.reduceToNat, Int.reduceLT, Int.reduceLE, Nat.reduceSub, pl93, ft2, ft3, ft109, ft147, ft149, lims, limR, a0, a1, a2, a3, a9, a10, a19, a20, r1]
    rw [List.take_of_length_le (show es.length ≤ a.length + 1 by omega), List.take_of_length_le (show a.length ≤ a.length + 1 by omega), List.take_of_length_le (show b.length ≤ a.length + 1 by omega)] at hv
    have hvb := val_bound hL
    rw [hes] at hvb
    have hc0 : c = 0 := by
      have hp : (0 : Int) < 4294967296 ^ (a.length + 1) := bpos
      generalize (4294967296 : Int) ^ (a.length + 1) = W at *
      rcases Int.lt_trichotomy c 0 with h | h | h
      · have : W * c ≤ W * (-1) := Int.mul_le_mul_of_nonneg_left (by omega) (Int.le_of_lt hp)
        omega
      · exact h
      · have : W * 1 ≤ W * c := Int.mul_le_mul_of_nonneg_left (by omega) (Int.le_of_lt hp)
        omega
    rw [hc0, Int.mul_zero, Int.add_zero] at hv
    refine trim_o (es := es) rfl (by omega) (Nat.le_refl _) (by omega) ?_
    simp (maxSteps := 4000000) only [↓packA, ↓reduceIte, packB, pureOp, quietOp, loadOp, quietB, fr0, cellsK, implies_true, ite_true, ite_false, eq_self, ne_eq, reduceCtorEq, Nat.reduceLT, Nat.reduceLeDiff, Nat.reduceAdd, Nat.reduceMul, Nat.reduceBEq, Nat.reduceEqDiff, Int.reduceToNat, Int.reduceLT, Int.reduceLE, Nat.reduceSub, pl93, ft2, ft3, ft109, ft147, ft149, lims, limR, a0, a1, a2, a3, a9, a10, a19, a20, r1]
    refine ⟨es.take (trmN es (a.length + 1)), norm_take hL (by omega), ?_, ?_⟩
    · rw [trmN_val _ (by omega), List.take_of_length_le (by omega)]; exact hv
    · exact ofz_lims rfl (trmN_le _) (by omega)
end Go.Proofs.YtclbobielhllmaaGreat
end
section
namespace Go.Proofs.YtclbobielhllmaaGreat
open Go Go.AL
set_option linter.unusedVariables false
set_option linter.unusedSimpArgs false
theorem ofInt64 {x : Nat} (h : x < 2 ^ 64) : (BitVec.ofInt IntKind.u64.bits ((x : Nat) : Int)).toNat = x := by
  rw [show IntKind.u64.bits = 64 from rfl, BitVec.ofInt_natCast, BitVec.toNat_ofNat, Nat.mod_eq_of_lt h]
theorem or64 {q t lo : Nat} (hlo : lo < 2 ^ t) (h : q * 2 ^ t + lo < 2 ^ 64) : IntKind.u64.wrap ((BitVec.ofInt IntKind.u64.bits ((q * 2 ^ t : Nat) : Int) ||| BitVec.ofInt IntKind.u64.bits ((lo : Nat) : Int)).toNat) = ((q * 2 ^ t + lo : Nat) : Int) := by
  rw [BitVec.toNat_or, ofInt64 (by omega), ofInt64 (by omega), ← Nat.shiftLeft_eq, ← Nat.shiftLeft_add_eq_or_of_lt hlo, Nat.shiftLeft_eq, IntKind.wrap_u64]
  omega
theorem shl64 {l s : Nat} (h : l * 2 ^ s < 2 ^ 64) (hs : s ≤ 64) : IntKind.u64.wrap ((l : Int) * 2 ^ (min s IntKind.u64.bits)) = ((l * 2 ^ s : Nat) : Int) := by
  rw [show min s IntKind.u64.bits = s from Nat.min_eq_left hs, IntKind.wrap_u64]
  have : (l : Int) * 2 ^ s = ((l * 2 ^ s : Nat) : Int) := by simp
  rw [this]
  omega
theorem shr64 {l s : Nat} (hs : s ≤ 64) : (l : Int).fdiv (2 ^ (min s IntKind.u64.bits)) = ((l / 2 ^ s : Nat) : Int) := by
  rw [show min s IntKind.u64.bits = s from Nat.min_eq_left hs, Int.fdiv_eq_ediv_of_nonneg _ (Int.le_of_lt (Int.pow_pos (by decide)))]
  simp
theorem and62 {x : Nat} (h : x < 2 ^ 62) : IntKind.u64.wrap ((BitVec.ofInt IntKind.u64.bits ((x : Nat) : Int) &&& BitVec.ofInt IntKind.u64.bits 4611686018427387903).toNat) = x := by
  rw [BitVec.toNat_and, ofInt64 (by omega), show (BitVec.ofInt IntKind.u64.bits 4611686018427387903).toNat = 2 ^ 62 - 1 from by decide, Nat.and_two_pow_sub_one_eq_mod, Nat.mod_eq_of_lt h, IntKind.wrap_u64]
  omega
theorem pow_split {s t : Nat} (h : s ≤ t) : (2 : Nat) ^ t = 2 ^ (t - s) * 2 ^ s := by rw [← Nat.pow_add]; congr 1; omega
def hX (a : List Int) (m r k : Nat) : Nat := ((val (a.drop (m + k))).toNat * 2 ^ (32 * k)) / 2 ^ r
theorem hX_big {d k r : Nat} (h : r ≤ 32 * k) : (d * 2 ^ (32 * k)) / 2 ^ r = d * 2 ^ (32 * k - r) := by
  rw [pow_split h, ← Nat.mul_assoc, Nat.mul_div_cancel _ (Nat.two_pow_pos r)]
theorem hX_step {l d i r : Nat} (h : r ≤ 32 * i) : ((l + 4294967296 * d) * 2 ^ (32 * i)) / 2 ^ r = d * 2 ^ (32 * (i + 1) - r) + l * 2 ^ (32 * i - r) := by
  rw [hX_big h, Nat.add_mul, Nat.add_comm, Nat.mul_comm 4294967296 d, Nat.mul_assoc, show (4294967296 : Nat) = 2 ^ 32 from rfl, ← Nat.pow_add]
  congr 3
  omega
theorem hX_low {l d r : Nat} (h : r < 32) : ((l + 4294967296 * d) * 2 ^ (32 * 0)) / 2 ^ r = d * 2 ^ (32 - r) + l / 2 ^ r := by
  rw [Nat.mul_zero, Nat.pow_zero, Nat.mul_one, show (4294967296 : Nat) = 2 ^ 32 from rfl, pow_split (show r ≤ 32 by omega), Nat.mul_right_comm, Nat.add_mul_div_right _ _ (Nat.two_pow_pos r), Nat.add_comm, Nat.mul_comm]
set_option maxHeartbeats 4000000 in
set_option maxRecDepth 100000 in
theorem head_c (a : List Int) (ha : LI a) (hla : a.length < 100000000) (n : Nat) (hn : n < 4000000000) (hv : (val a).toNat < 2 ^ (n + 62)) : APure Tryz.prog 100 [lims a, .int .i64 n] (.int .i64 (((val a).toNat / 2 ^ n : Nat) : Int)) := by
  obtain ⟨m, hm⟩ : ∃ m, m = n / 32 := ⟨_, rfl⟩
  obtain ⟨r, hr⟩ : ∃ r, r = n % 32 := ⟨_, rfl⟩
  have hnr : n = 32 * m + r := by omega
  have hr32 : r < 32 := by omega
  have hq : IntKind.i64.wrap ((n : Int).tdiv 32) = (m : Int) := by
    rw [show (n : Int).tdiv 32 = ((n / 32 : Nat) : Int) from (Int.ofNat_tdiv n 32).symm, IntKind.wrap_i64]
    omega
  have hm' : (n : Int).tmod 32 = (r : Int) := by
    rw [show (n : Int).tmod 32 = ((n % 32 : Nat) : Int) from (Int.ofNat_tmod n 32).symm]
    omega
  -- the value
  have hpos := (val_bound ha).1
  have hdrop : ∀ k, (val (a.drop (m + k))).toNat = (val a).toNat / 2 ^ (32 * (m + k)) := fun k => by
    rcases Nat.lt_or_ge (m + k) a.length with h | h
    · have h1 := val_split (l := a) (m + k) (by omega)
      have h2 := val_bound (ha.take (m + k))
      have h3 := (val_bound (ha.drop (m + k))).1
      rw [List.length_take, Nat.min_eq_left (by omega)] at h2
      obtain ⟨x, hx⟩ := Int.eq_ofNat_of_zero_le h2.1
      obtain ⟨y, hy⟩ := Int.eq_ofNat_of_zero_le h3
      have e : (4294967296 : Int) ^ (m + k) = ((2 ^ (32 * (m + k)) : Nat) : Int) := by rw [Nat.pow_mul]; simp
      rw [hx, hy, e] at h1
      rw [hx, e] at h2
      have h4 : (val a).toNat = x + 2 ^ (32 * (m + k)) * y := by
        rw [h1]
        have : (x : Int) + ((2 ^ (32 * (m + k)) : Nat) : Int) * (y : Int) = ((x + 2 ^ (32 * (m + k)) * y : Nat) : Int) := by simp
        rw [this]; exact Int.toNat_natCast _
      rw [h4, hy, Nat.add_mul_div_left _ _ (Nat.two_pow_pos _), Nat.div_eq_of_lt (by have := h2.2; exact_mod_cast this), Nat.zero_add]
      exact Int.toNat_natCast _
    · rw [List.drop_of_length_le h]
      have h1 := (val_bound ha).2
      have h2 := bmono (m := a.length) (n := m + k) h
      have e : (4294967296 : Int) ^ (m + k) = ((2 ^ (32 * (m + k)) : Nat) : Int) := by rw [Nat.pow_mul]; simp
      rw [e] at h2
      rw [Nat.div_eq_of_lt (by omega)]
      rfl
  have hX0 : hX a m r 0 = (val a).toNat / 2 ^ n := by
    unfold hX
    rw [hdrop 0, Nat.mul_zero, Nat.pow_zero, Nat.mul_one, Nat.add_zero, Nat.div_div_eq_div_mul, ← Nat.pow_add]
    congr 2
    omega
  have hX3 : hX a m r 3 = 0 := by
    unfold hX
    rw [hdrop 3, Nat.div_eq_of_lt (Nat.lt_of_lt_of_le hv (Nat.pow_le_pow_right (by decide) (by omega)))]
    simp
  have hlt : hX a m r 0 < 2 ^ 62 := by
    rw [hX0]
    refine Nat.div_lt_of_lt_mul ?_
    rw [← Nat.pow_add]
    exact hv
  have hD : ∀ j, (val (a.drop j)).toNat = (a.getD j default).toNat + 4294967296 * (val (a.drop (j + 1))).toNat := fun j => by
    rcases Nat.lt_or_ge j a.length with h | h
    · have h1 := val_drop (l := a) h
      have h2 := (val_bound (ha.drop (j + 1))).1
      have h3 := ha.get (i := j)
      omega
    · rw [List.drop_of_length_le h, List.drop_of_length_le (by omega), List.getD_eq_getElem?_getD, List.getElem?_eq_none h]
      rfl
  have hmono : ∀ k, hX a m r (k + 1) ≤ hX a m r k := fun k => by
    unfold hX
    refine Nat.div_le_div_right ?_
    rw [hD (m + k), show m + (k + 1) = m + k + 1 by omega, show 32 * (k + 1) = 32 + 32 * k by omega, Nat.pow_add, ← Nat.mul_assoc]
    refine Nat.mul_le_mul_right _ ?_
    omega
  have hle : ∀ k, k ≤ 3 → hX a m r k < 2 ^ 62 := fun k hk => by
    have h1 : hX a m r 1 ≤ hX a m r 0 := hmono 0
    have h2 : hX a m r 2 ≤ hX a m r 1 := hmono 1
    have h3 : hX a m r 3 ≤ hX a m r 2 := hmono 2
    match k, hk with
    | 0, _ => omega
    | 1, _ => omega
    | 2, _ => omega
    | 3, _ => omega
    | k + 4, h => omega
  refine apure_of (wp100 rfl rfl ?_)
  simp (maxSteps := 4000000) only [↓packA, ↓reduceIte, packB, pureOp, quietOp, loadOp, quietB, fr0, cellsK, implies_true, ite_true, ite_false, eq_self, ne_eq, reduceCtorEq, Nat.reduceLT, Nat.reduceLeDiff, Nat.reduceAdd, Nat.reduceMul, Nat.reduceBEq, Nat.reduceEqDiff, Int.reduceToNat, Int.reduceLT, Int.reduceLE, Nat.reduceSub, pl100, ft2, ft3, ft109, ft110, ft149, lims, concA, Int.reduceAdd, Int.reduceSub, Int.reduceNeg, Int.reduceMul, Int.reduceEq, Int.reduceBEq, Int.reduceBNe]
  refine LoopK.intro (fun w f g => ∃ k : Nat, w = k + 1 ∧ k ≤ 3 ∧ f 0 = lims a ∧ f 1 = .int .i64 n ∧ f 5 = .int .u64 (hX a m r k : Nat) ∧ f 6 = .int .i64 ((k : Int) - 1) ∧ g = []) 4 ⟨3, rfl, by omega, ?_⟩ ?_
  · simp (maxSteps := 4000000) only [↓packA, ↓reduceIte, packB, pureOp, quietOp, loadOp, quietB, fr0, cellsK, implies_true, ite_true, ite_false, eq_self, ne_eq, reduceCtorEq, Nat.reduceLT, Nat.reduceLeDiff, Nat.reduceAdd, Nat.reduceMul, Nat.reduceBEq, Nat.reduceEqDiff, Int.reduceToNat, Int.reduceLT, Int.reduceLE, Nat.reduceSub, pl100, ft2, ft3, ft109, ft110, ft149, lims, hX3, concA, Int.reduceAdd, Int.reduceSub, Int.reduceNeg, Int.reduceMul, Int.reduceEq, Int.reduceBEq, Int.reduceBNe]
  rintro w f g ⟨k, rfl, hk, a0, a1, a5, a6, rfl⟩
  by_cases c : 0 < k
  · obtain ⟨i, rfl⟩ : ∃ i, k = i + 1 := ⟨k - 1, by omega⟩
    have r1 : (i : Int) ≥ 0 := by omega
    have ei : ((i + 1 : Nat) : Int) - 1 = i := by omega
    have emi : ((m : Int) + (i : Int)) = ((m + i : Nat) : Int) := by omega
    have hli := hle i (by omega)
    have hli1 := hle (i + 1) (by omega)
    by_cases c2 : m + i < a.length
    · have r2 : ((m + i : Nat) : Int) < (a.length : Int) := by omega
      have hl := ha.get (i := m + i)
      have hDi := hD (m + i)
      obtain ⟨l, hl2⟩ := Int.eq_ofNat_of_zero_le hl.1
      have hl3 : l < 2 ^ 32 := by omega
      rw [hl2, show ((l : Nat) : Int).toNat = l from Int.toNat_natCast l] at hDi
      have ecu : IntKind.u64.wrap (l : Int) = (l : Int) := by rw [IntKind.wrap_u64]; omega
      by_cases c3 : r ≤ 32 * i
      · obtain ⟨s, hs⟩ : ∃ s, s = 32 * i - r := ⟨_, rfl⟩
        have e8 : 32 * (i : Int) - (r : Int) = (s : Int) := by omega
        have r3 : (s : Int) ≥ 0 := by omega
        have hs64 : s ≤ 64 := by omega
        have hst : hX a m r i = (val (a.drop (m + (i + 1)))).toNat * 2 ^ (s + 32) + l * 2 ^ s := by
          unfold hX
          rw [hDi, hX_step c3, show 32 * (i + 1) - r = s + 32 by omega, hs]
          rfl
        have hst1 : hX a m r (i + 1) = (val (a.drop (m + (i + 1)))).toNat * 2 ^ (s + 32) := by
          unfold hX
          rw [hX_big (by omega), show 32 * (i + 1) - r = s + 32 by omega]
        have hlo : l * 2 ^ s < 2 ^ (s + 32) := by
          rw [Nat.pow_add, Nat.mul_comm (2 ^ s)]
          exact Nat.mul_lt_mul_of_pos_right hl3 (Nat.two_pow_pos s)
        have eo := or64 (q := (val (a.drop (m + (i + 1)))).toNat) hlo (by rw [← hst]; omega)
        rw [← hst, ← hst1] at eo
        have es := shl64 (l := l) (s := s) (by rw [hst] at hli; omega) hs64
        simp (maxSteps := 4000000) only [↓packA, ↓reduceIte, packB, pureOp, quietOp, loadOp, quietB, fr0, cellsK, implies_true, ite_true, ite_false, eq_self, ne_eq, reduceCtorEq, Nat.reduceLT, Nat.reduceLeDiff, Nat.reduceAdd, Nat.reduceMul, Nat.reduceBEq, Nat.reduceEqDiff, Int.reduceToNat, Int.reduceLT, Int.reduceLE, Nat.reduceSub, pl100, ft2, ft3, ft109, ft110, ft149, lims, limR, a0, a1, a5, a6, r1, ei, hq, hm', emi, r2, e8, r3, hl2, ecu, es, eo, concA, Int.reduceAdd, Int.reduceSub, Int.reduceNeg, Int.reduceMul, Int.reduceEq, Int.reduceBEq, Int.reduceBNe]
        exact ⟨by omega, by omega, by omega, by omega, by omega, by omega, .inl ⟨i + 1, by omega, i, rfl, by omega, rfl, by omega⟩⟩
      · obtain rfl : i = 0 := by omega
        have r3 : ¬ (0 : Int) - (r : Int) ≥ 0 := by omega
        have e9 : (0 : Int) - (0 - (r : Int)) = (r : Int) := by omega
        have hst : hX a m r 0 = (val (a.drop (m + 1))).toNat * 2 ^ (32 - r) + l / 2 ^ r := by
          unfold hX
          rw [hDi, hX_low hr32]
        have hst1 : hX a m r 1 = (val (a.drop (m + 1))).toNat * 2 ^ (32 - r) := by
          unfold hX
          rw [hX_big (by omega)]
        have hlo : l / 2 ^ r < 2 ^ (32 - r) := by
          refine Nat.div_lt_of_lt_mul ?_
          rw [← Nat.pow_add, show r + (32 - r) = 32 by omega]
          exact hl3
        have eo := or64 (q := (val (a.drop (m + 1))).toNat) hlo (by rw [← hst]; omega)
        rw [← hst, ← hst1] at eo
        have es := shr64 (l := l) (s := r) (by omega)
        have em0 : ((m + 0 : Nat) : Int) = (m : Int) := by omega
        have r2' : (m : Int) < (a.length : Int) := by omega
        have hl2' : a.getD m default = (l : Int) := hl2
        simp (maxSteps := 4000000) only [↓packA, ↓reduceIte, packB, pureOp, quietOp, loadOp, quietB, fr0, cellsK, implies_true, ite_true, ite_false, eq_self, ne_eq, reduceCtorEq, Nat.reduceLT, Nat.reduceLeDiff, Nat.reduceAdd, Nat.reduceMul, Nat.reduceBEq, Nat.reduceEqDiff, Int.reduceToNat, Int.reduceLT, Int.reduceLE, Nat.reduceSub, pl100, ft2, ft3, ft109, ft110, ft149, lims, limR, a0, a1, a5, a6, hq, hm', r2', r3, e9, hl2', ecu, es, eo, Int.add_zero, concA, Int.reduceAdd, Int.reduceSub, Int.reduceNeg, Int.reduceMul, Int.reduceEq, Int.reduceBEq, Int.reduceBNe]
        exact ⟨by omega, by omega, by omega, by omega, by omega, by omega, .inl ⟨1, by omega, 0, rfl, by omega, rfl, by omega⟩⟩
    · have r2 : ¬ ((m + i : Nat) : Int) < (a.length : Int) := by omega
      have e0 : hX a m r i = hX a m r (i + 1) := by
        unfold hX
        rw [List.drop_of_length_le (by omega), List.drop_of_length_le (by omega)]
        simp [val]
      rw [← e0] at a5
      simp (maxSteps := 4000000) only [↓packA, ↓reduceIte, packB, pureOp, quietOp, loadOp, quietB, fr0, cellsK, implies_true, ite_true, ite_false, eq_self, ne_eq, reduceCtorEq, Nat.reduceLT, Nat.reduceLeDiff, Nat.reduceAdd, Nat.reduceMul, Nat.reduceBEq, Nat.reduceEqDiff, Int.reduceToNat, Int.reduceLT, Int.reduceLE, Nat.reduceSub, pl100, ft2, ft3, ft109, ft110, ft149, lims, limR, a0, a1, a5, a6, r1, ei, hq, hm', emi, r2, concA, Int.reduceAdd, Int.reduceSub, Int.reduceNeg, Int.reduceMul, Int.reduceEq, Int.reduceBEq, Int.reduceBNe]
      exact ⟨by omega, by omega, .inl ⟨i + 1, by omega, i, rfl, by omega, rfl, by omega⟩⟩
  · have r1 : ¬ ((k : Nat) : Int) - 1 ≥ 0 := by omega
    obtain rfl : k = 0 := by omega
    have ea := and62 hlt
    have ec : IntKind.i64.wrap ((hX a m r 0 : Nat) : Int) = ((hX a m r 0 : Nat) : Int) := IntWalk.i64_in _ (by omega)
    simp (maxSteps := 4000000) only [↓packA, ↓reduceIte, packB, pureOp, quietOp, loadOp, quietB, fr0, cellsK, implies_true, ite_true, ite_false, eq_self, ne_eq, reduceCtorEq, Nat.reduceLT, Nat.reduceLeDiff, Nat.reduceAdd, Nat.reduceMul, Nat.reduceBEq, Nat.reduceEqDiff, Int.reduceToNat, Int.reduceLT, Int.reduceLE, Nat.reduceSub, pl100, ft2, ft3, ft109, ft110, ft149, lims, limR, a0, a1, a5, a6, r1, ea, concA, Int.reduceAdd, Int.reduceSub, Int.reduceNeg, Int.reduceMul, Int.reduceEq, Int.reduceBEq, Int.reduceBNe]
    rw [hX0]
    exact ⟨by omega, .pure _ rfl⟩
end Go.Proofs.YtclbobielhllmaaGreat
end
section
namespace Go.Proofs.YtclbobielhllmaaGreat
open Go Go.AL
set_option linter.unusedVariables false
set_option linter.unusedSimpArgs false
theorem conv8 {x : Int} (h : 0 ≤ x ∧ x < 256) : IntKind.u8.wrap x = x := IntWalk.u8_in x (by omega)
theorem shr32 {l s : Nat} (hs : s ≤ 32) : (l : Int).fdiv (2 ^ (min s IntKind.u32.bits)) = ((l / 2 ^ s : Nat) : Int) := by
  rw [show min s IntKind.u32.bits = s from Nat.min_eq_left hs, Int.fdiv_eq_ediv_of_nonneg _ (Int.le_of_lt (Int.pow_pos (by decide)))]
  simp
def BL (x : Nat) : Nat := if x = 0 then 0 else Nat.log2 x + 1
theorem BL_lt {x : Nat} : x < 2 ^ BL x := by
  unfold BL
  split
  · rename_i h; rw [h]; decide
  · exact Nat.lt_log2_self
theorem BL_le {x : Nat} (h : 0 < x) : 0 < BL x ∧ 2 ^ (BL x - 1) ≤ x := by
  unfold BL
  rw [if_neg (by omega)]
  exact ⟨by omega, Nat.log2_self_le (by omega)⟩
theorem BL_uniq {x k : Nat} (h0 : 0 < k) (h1 : 2 ^ (k - 1) ≤ x) (h2 : x < 2 ^ k) : BL x = k := by
  have hx : 0 < x := Nat.lt_of_lt_of_le (Nat.two_pow_pos _) h1
  have h3 := BL_le hx
  have h4 := @BL_lt x
  rcases Nat.lt_trichotomy (BL x) k with h | h | h
  · have : 2 ^ BL x ≤ 2 ^ (k - 1) := Nat.pow_le_pow_right (by decide) (by omega)
    omega
  · exact h
  · have : 2 ^ k ≤ 2 ^ (BL x - 1) := Nat.pow_le_pow_right (by decide) (by omega)
    omega
theorem BL_shift {x s : Nat} (h : 2 ^ s ≤ x) : BL x = BL (x / 2 ^ s) + s := by
  have hy : 0 < x / 2 ^ s := Nat.div_pos h (Nat.two_pow_pos s)
  have h1 := BL_le hy
  have h2 := @BL_lt (x / 2 ^ s)
  refine BL_uniq (by omega) ?_ ?_
  · rw [show BL (x / 2 ^ s) + s - 1 = (BL (x / 2 ^ s) - 1) + s by omega, Nat.pow_add]
    exact Nat.le_trans (Nat.mul_le_mul_right _ h1.2) (Nat.div_mul_le_self x _)
  · rw [Nat.pow_add]
    exact (Nat.div_lt_iff_lt_mul (Nat.two_pow_pos s)).1 h2
theorem BL_max {x k : Nat} (h : x < 2 ^ k) : BL x ≤ k := by
  rcases Nat.eq_zero_or_pos x with h0 | h0
  · rw [h0]; simp [BL]
  · have h1 := BL_le h0
    apply Classical.byContradiction
    intro hc
    have : 2 ^ k ≤ 2 ^ (BL x - 1) := Nat.pow_le_pow_right (by decide) (by omega)
    omega
set_option maxRecDepth 100000 in
theorem len32_c (x : Nat) (hx : x < 4294967296) : APure Tryz.prog 107 [.int .u32 x] (.int .i64 (BL x)) := by
  refine apure_of (wp107 rfl rfl ?_)
  by_cases c1 : x < 65536
  · have r1 : ¬ (x : Int) ≥ 65536 := by omega
    by_cases c2 : x < 256
    · have r2 : ¬ (x : Int) ≥ 256 := by omega
      have e := conv8 (x := (x : Int)) (by omega)
      have hb := BL_max (x := x) (k := 8) (by omega)
      simp (maxSteps := 4000000) only [↓packA, ↓reduceIte, packB, pureOp, quietOp, loadOp, quietB, fr0, cellsK, implies_true, ite_true, ite_false, eq_self, ne_eq, reduceCtorEq, Nat.reduceLT, Nat.reduceLeDiff, Nat.reduceAdd, Nat.reduceMul, Nat.reduceBEq, Nat.reduceEqDiff, Int.reduceToNat, Int.reduceLT, Int.reduceLE, Nat.reduceSub, pl107, ft3, ft5, ft9, ft109, ft147, r1, r2, e, concA, Int.reduceAdd, Int.reduceSub, Int.reduceNeg, Int.reduceMul, Int.reduceEq, Int.reduceBEq, Int.reduceBNe]
      generalize hT : ByteArray.mk _ = T
      have hT1 : T.size = 256 := by rw [← hT]; rfl
      have hT2 : ∀ y, y < 256 → bt T y = (BL y : Nat) := by rw [← hT]; decide +kernel
      rw [hT1, hT2 _ (by omega)]
      rw [Int.zero_add]
      exact ⟨by omega, by omega, by omega, by omega, .pure _ rfl⟩
    · have r2 : (x : Int) ≥ 256 := by omega
      have es := shr32 (l := x) (s := 8) (by omega)
      have e := conv8 (x := ((x / 2 ^ 8 : Nat) : Int)) (by omega)
      have hb := BL_max (x := x / 2 ^ 8) (k := 8) (by omega)
      have hs := BL_shift (x := x) (s := 8) (by omega)
      simp (maxSteps := 4000000) only [↓packA, ↓reduceIte, packB, pureOp, quietOp, loadOp, quietB, fr0, cellsK, implies_true, ite_true, ite_false, eq_self, ne_eq, reduceCtorEq, Nat.reduceLT, Nat.reduceLeDiff, Nat.reduceAdd, Nat.reduceMul, Nat.reduceBEq, Nat.reduceEqDiff, Int.reduceToNat, Int.reduceLT, Int.reduceLE, Nat.reduceSub, pl107, ft3, ft5, ft9, ft109, ft147, r1, r2, es, e, concA, Int.reduceAdd, Int.reduceSub, Int.reduceNeg, Int.reduceMul, Int.reduceEq, Int.reduceBEq, Int.reduceBNe]
      generalize hT : ByteArray.mk _ = T
      have hT1 : T.size = 256 := by rw [← hT]; rfl
      have hT2 : ∀ y, y < 256 → bt T y = (BL y : Nat) := by rw [← hT]; decide +kernel
      rw [hT1, hT2 _ (by omega)]
      rw [show (8 : Int) + ((BL (x / 2 ^ 8) : Nat) : Int) = ((BL x : Nat) : Int) by omega]
      exact ⟨by omega, by omega, by omega, by omega, .pure _ rfl⟩
  · have r1 : (x : Int) ≥ 65536 := by omega
    have es0 := shr32 (l := x) (s := 16) (by omega)
    have hs0 := BL_shift (x := x) (s := 16) (by omega)
    have hy : x / 2 ^ 16 < 65536 := by omega
    generalize x / 2 ^ 16 = y at *
    by_cases c2 : y < 256
    · have r2 : ¬ (y : Int) ≥ 256 := by omega
      have e := conv8 (x := (y : Int)) (by omega)
      have hb := BL_max (x := y) (k := 8) (by omega)
      simp (maxSteps := 4000000) only [↓packA, ↓reduceIte, packB, pureOp, quietOp, loadOp, quietB, fr0, cellsK, implies_true, ite_true, ite_false, eq_self, ne_eq, reduceCtorEq, Nat.reduceLT, Nat.reduceLeDiff, Nat.reduceAdd, Nat.reduceMul, Nat.reduceBEq, Nat.reduceEqDiff, Int.reduceToNat, Int.reduceLT, Int.reduceLE, Nat.reduceSub, pl107, ft3, ft5, ft9, ft109, ft147, r1, es0, r2, e, concA, Int.reduceAdd, Int.reduceSub, Int.reduceNeg, Int.reduceMul, Int.reduceEq, Int.reduceBEq, Int.reduceBNe]
      generalize hT : ByteArray.mk _ = T
      have hT1 : T.size = 256 := by rw [← hT]; rfl
      have hT2 : ∀ y, y < 256 → bt T y = (BL y : Nat) := by rw [← hT]; decide +kernel
      rw [hT1, hT2 _ (by omega)]
      rw [show (16 : Int) + ((BL y : Nat) : Int) = ((BL x : Nat) : Int) by omega]
      exact ⟨by omega, by omega, by omega, by omega, .pure _ rfl⟩
    · have r2 : (y : Int) ≥ 256 := by omega
      have es := shr32 (l := y) (s := 8) (by omega)
      have e := conv8 (x := ((y / 2 ^ 8 : Nat) : Int)) (by omega)
      have hb := BL_max (x := y / 2 ^ 8) (k := 8) (by omega)
      have hs := BL_shift (x := y) (s := 8) (by omega)
      simp (maxSteps := 4000000) only [↓packA, ↓reduceIte, packB, pureOp, quietOp, loadOp, quietB, fr0, cellsK, implies_true, ite_true, ite_false, eq_self, ne_eq, reduceCtorEq, Nat.reduceLT, Nat.reduceLeDiff, Nat.reduceAdd, Nat.reduceMul, Nat.reduceBEq, Nat.reduceEqDiff, Int.reduceToNat, Int.reduceLT, Int.reduceLE, Nat.reduceSub, pl107, ft3, ft5, ft9, ft109, ft147, r1, es0, r2, es, e, concA, Int.reduceAdd, Int.reduceSub, Int.reduceNeg, Int.reduceMul, Int.reduceEq, Int.reduceBEq, Int.reduceBNe]
      generalize hT : ByteArray.mk _ = T
      have hT1 : T.size = 256 := by rw [← hT]; rfl
      have hT2 : ∀ y, y < 256 → bt T y = (BL y : Nat) := by rw [← hT]; decide +kernel
      rw [hT1, hT2 _ (by omega)]
      rw [show (24 : Int) + ((BL (y / 2 ^ 8) : Nat) : Int) = ((BL x : Nat) : Int) by omega]
      exact ⟨by omega, by omega, by omega, by omega, .pure _ rfl⟩
set_option maxRecDepth 100000 in
theorem bits_c (l : List Int) (hn : Norm l) (hl : l.length < 100000000) : ∃ k : Nat, k ≤ 32 * l.length ∧ (val l).toNat < 2 ^ k ∧ APure Tryz.prog 99 [lims l] (.int .i64 k) := by
  by_cases c : l.length = 0
  · refine ⟨0, by omega, ?_, ?_⟩
    · rw [List.length_eq_zero_iff.1 c]; simp [val]
    · refine apure_of (wp99 rfl rfl ?_)
      have r1 : (l.length : Int) = 0 := by omega
      simp (maxSteps := 4000000) only [↓packA, ↓reduceIte, packB, pureOp, quietOp, loadOp, quietB, fr0, cellsK, implies_true, ite_true, ite_false, eq_self, ne_eq, reduceCtorEq, Nat.reduceLT, Nat.reduceLeDiff, Nat.reduceAdd, Nat.reduceMul, Nat.reduceBEq, Nat.reduceEqDiff, Int.reduceToNat, Int.reduceLT, Int.reduceLE, Nat.reduceSub, pl99, ft3, ft109, ft149, lims, r1, concA, Int.reduceAdd, Int.reduceSub, Int.reduceNeg, Int.reduceMul, Int.reduceEq, Int.reduceBEq, Int.reduceBNe]
      exact .pure _ rfl
  · obtain ⟨x, hx⟩ : ∃ x : Nat, l.getD (l.length - 1) default = x := ⟨(l.getD (l.length - 1) default).toNat, by have := (hn.li.get (i := l.length - 1)).1; omega⟩
    have hx2 : x < 4294967296 := by have := (hn.li.get (i := l.length - 1)).2; omega
    have hb := BL_max (x := x) (k := 32) (by omega)
    have hbl := @BL_lt x
    refine ⟨32 * (l.length - 1) + BL x, by omega, ?_, ?_⟩
    · have h1 := val_take_succ (l := l) (k := l.length - 1) (by omega)
      rw [show l.length - 1 + 1 = l.length by omega, List.take_length, hx] at h1
      have h2 := val_bound (hn.li.take (l.length - 1))
      rw [List.length_take, Nat.min_eq_left (by omega)] at h2
      obtain ⟨y, hy⟩ := Int.eq_ofNat_of_zero_le h2.1
      have e : (4294967296 : Int) ^ (l.length - 1) = ((2 ^ (32 * (l.length - 1)) : Nat) : Int) := by rw [Nat.pow_mul]; simp
      rw [hy, e] at h1 h2
      have h3 : (val l).toNat = y + 2 ^ (32 * (l.length - 1)) * x := by
        rw [h1]
        have : ((y : Nat) : Int) + ((2 ^ (32 * (l.length - 1)) : Nat) : Int) * (x : Int) = ((y + 2 ^ (32 * (l.length - 1)) * x : Nat) : Int) := by simp
        rw [this]; exact Int.toNat_natCast _
      rw [h3, Nat.pow_add]
      have h4 : y < 2 ^ (32 * (l.length - 1)) := by have := h2.2; exact_mod_cast this
      have h5 : 2 ^ (32 * (l.length - 1)) * (x + 1) ≤ 2 ^ (32 * (l.length - 1)) * 2 ^ BL x := Nat.mul_le_mul_left _ hbl
      rw [Nat.mul_add] at h5
      omega
    · refine apure_of (wp99 rfl rfl ?_)
      have r1 : ¬ (l.length : Int) = 0 := by omega
      have e1 : ((l.length : Int) - 1).toNat = l.length - 1 := by omega
      simp (maxSteps := 4000000) only [↓packA, ↓reduceIte, packB, pureOp, quietOp, loadOp, quietB, fr0, cellsK, implies_true, ite_true, ite_false, eq_self, ne_eq, reduceCtorEq, Nat.reduceLT, Nat.reduceLeDiff, Nat.reduceAdd, Nat.reduceMul, Nat.reduceBEq, Nat.reduceEqDiff, Int.reduceToNat, Int.reduceLT, Int.reduceLE, Nat.reduceSub, pl99, ft3, ft109, ft149, lims, limR, r1, e1, hx]
      refine ⟨by omega, by omega, by omega, by omega, by omega, acalls_pure (len32_c x hx2) rfl ?_⟩
      simp (maxSteps := 4000000) only [↓packA, ↓reduceIte, packB, pureOp, quietOp, loadOp, quietB, fr0, cellsK, implies_true, ite_true, ite_false, eq_self, ne_eq, reduceCtorEq, Nat.reduceLT, Nat.reduceLeDiff, Nat.reduceAdd, Nat.reduceMul, Nat.reduceBEq, Nat.reduceEqDiff, Int.reduceToNat, Int.reduceLT, Int.reduceLE, Nat.reduceSub, pl99, ft3, ft109, ft149]
      rw [show 32 * ((l.length : Int) - 1) + ((BL x : Nat) : Int) = ((32 * (l.length - 1) + BL x : Nat) : Int) by omega]
      exact ⟨by omega, .pure _ rfl⟩
end Go.Proofs.YtclbobielhllmaaGreat
end
section
namespace Go.Proofs.YtclbobielhllmaaGreat
open Go Go.AL
set_option linter.unusedVariables false
set_option linter.unusedSimpArgs false
structure Leh (W x0 y0 al be x y p q r s : Int) : Prop where
  ex : x = p * x0 + q * y0
  ey : y = r * x0 + s * y0
  sg : (0 ≤ p ∧ q ≤ 0 ∧ r ≤ 0 ∧ 0 ≤ s) ∨ (p ≤ 0 ∧ 0 ≤ q ∧ 0 ≤ r ∧ s ≤ 0)
  bp : (-2147483647 ≤ p ∧ p ≤ 2147483647) ∧ (-2147483647 ≤ q ∧ q ≤ 2147483647)
  br : (-2147483647 ≤ r ∧ r ≤ 2147483647) ∧ (-2147483647 ≤ s ∧ s ≤ 2147483647)
  xp : 0 ≤ x + p
  xq : 0 ≤ x + q
  yr : 0 ≤ y + r
  ys : 0 ≤ y + s
  xb : x < 4611686018427387904
  yb : y < 4611686018427387904
theorem Leh.pos {W x0 y0 al be x y p q r s : Int} (h : Leh W x0 y0 al be x y p q r s) : 0 ≤ x ∧ 0 ≤ y := by
  have := h.sg; have := h.xp; have := h.xq; have := h.yr; have := h.ys
  omega
def LA (W x0 y0 al be p q : Int) : Int := p * (W * x0 + al) + q * (W * y0 + be)
theorem LA_eq {W x0 y0 al be x p q : Int} (hx : x = p * x0 + q * y0) : LA W x0 y0 al be p q = W * x + (p * al + q * be) := by
  unfold LA
  rw [hx, Int.mul_add, Int.mul_add, Int.mul_add, Int.mul_left_comm p, Int.mul_left_comm q]
  omega
theorem lin_nonneg {W y u v al be : Int} (hW : 0 ≤ W) (ha : 0 ≤ al ∧ al ≤ W) (hb : 0 ≤ be ∧ be ≤ W) (hs : (0 ≤ u ∧ v ≤ 0) ∨ (u ≤ 0 ∧ 0 ≤ v)) (h1 : 0 ≤ y + u) (h2 : 0 ≤ y + v) : 0 ≤ W * y + (u * al + v * be) := by
  rcases hs with ⟨hu, hv⟩ | ⟨hu, hv⟩
  · have a := Int.mul_nonneg hu ha.1
    have b : v * W ≤ v * be := Int.mul_le_mul_of_nonpos_left hv hb.2
    have c := Int.mul_nonneg hW h2
    rw [Int.mul_add, Int.mul_comm W v] at c
    omega
  · have a := Int.mul_nonneg hv hb.1
    have b : u * W ≤ u * al := Int.mul_le_mul_of_nonpos_left hu ha.2
    have c := Int.mul_nonneg hW h1
    rw [Int.mul_add, Int.mul_comm W u] at c
    omega
theorem Leh.step {W x0 y0 al be x y p q r s t : Int} (h : Leh W x0 y0 al be x y p q r s) (hW : 0 < W) (hal : 0 ≤ al ∧ al < W) (hbe : 0 ≤ be ∧ be < W) (h1 : 0 < y + r) (h2 : 0 < y + s)
    (t1 : t = (x + p) / (y + r)) (t2 : t = (x + q) / (y + s)) : 0 ≤ t ∧ (0 ≤ t * y ∧ t * y ≤ x + 2147483647) ∧ (-(x + 2147483647) ≤ t * r ∧ t * r ≤ x + 2147483647) ∧ (-(x + 2147483647) ≤ t * s ∧ t * s ≤ x + 2147483647) ∧
    0 ≤ LA W x0 y0 al be (p - t * r) (q - t * s) ∧ LA W x0 y0 al be (p - t * r) (q - t * s) < LA W x0 y0 al be r s ∧
    (((-2147483647 ≤ p - t * r ∧ p - t * r ≤ 2147483647) ∧ (-2147483647 ≤ q - t * s ∧ q - t * s ≤ 2147483647)) → Leh W x0 y0 al be y (x - t * y) r s (p - t * r) (q - t * s)) := by
  have hp := h.pos
  have ht : 0 ≤ t := by rw [t1]; exact Int.ediv_nonneg h.xp (by omega)
  have a1 : t * (y + r) ≤ x + p := by rw [t1]; exact Int.ediv_mul_le _ (by omega)
  have a2 : x + p < (t + 1) * (y + r) := by rw [t1]; exact Int.lt_ediv_add_one_mul_self _ h1
  have b1 : t * (y + s) ≤ x + q := by rw [t2]; exact Int.ediv_mul_le _ (by omega)
  have b2 : x + q < (t + 1) * (y + s) := by rw [t2]; exact Int.lt_ediv_add_one_mul_self _ h2
  have hty := Int.mul_nonneg ht hp.2
  rw [Int.mul_add] at a1 b1
  rw [Int.add_mul, Int.mul_add, Int.one_mul] at a2 b2
  have sg := h.sg
  have bp := h.bp
  have br := h.br
  -- the products' signs
  have hr : (r ≤ 0 → t * r ≤ 0) ∧ (0 ≤ r → 0 ≤ t * r) := ⟨fun h => by have := Int.mul_le_mul_of_nonneg_left h ht; omega, fun h => Int.mul_nonneg ht h⟩
  have hs : (s ≤ 0 → t * s ≤ 0) ∧ (0 ≤ s → 0 ≤ t * s) := ⟨fun h => by have := Int.mul_le_mul_of_nonneg_left h ht; omega, fun h => Int.mul_nonneg ht h⟩
  -- each is below t*y in size
  have gr : -(t * y) ≤ t * r := by
    have := Int.mul_le_mul_of_nonneg_left (show -y ≤ r by omega) ht
    rw [Int.mul_neg] at this
    omega
  have gs : -(t * y) ≤ t * s := by
    have := Int.mul_le_mul_of_nonneg_left (show -y ≤ s by omega) ht
    rw [Int.mul_neg] at this
    omega
  have sgn : (0 ≤ p - t * r ∧ q - t * s ≤ 0) ∨ (p - t * r ≤ 0 ∧ 0 ≤ q - t * s) := by omega
  refine ⟨ht, by omega, by omega, by omega, ?_, ?_, fun hb => ?_⟩
  · rw [LA_eq (x := x - t * y) (by rw [h.ex, h.ey]; rw [Int.sub_mul, Int.sub_mul, Int.mul_add, Int.mul_assoc, Int.mul_assoc]; omega)]
    exact lin_nonneg (by omega) (by omega) (by omega) sgn (by omega) (by omega)
  · rw [LA_eq (x := x - t * y) (by rw [h.ex, h.ey]; rw [Int.sub_mul, Int.sub_mul, Int.mul_add, Int.mul_assoc, Int.mul_assoc]; omega), LA_eq h.ey]
    have := lin_nonneg (W := W) (y := y - (x - t * y) - 1) (u := r - (p - t * r)) (v := s - (q - t * s)) (al := al) (be := be) (by omega) (by omega) (by omega) (by omega) (by omega) (by omega)
    rw [Int.sub_mul r, Int.sub_mul s, Int.mul_sub, Int.mul_sub, Int.mul_one] at this
    omega
  · exact ⟨h.ey, by rw [h.ex, h.ey]; rw [Int.sub_mul, Int.sub_mul, Int.mul_add, Int.mul_assoc, Int.mul_assoc]; omega, by omega, h.br, hb, h.yr, h.ys, by omega, by omega, h.yb, by have := h.xb; omega⟩
end Go.Proofs.YtclbobielhllmaaGreat
end
section
namespace Go.Proofs.YtclbobielhllmaaGreat
open Go Go.AL
set_option linter.unusedVariables false
set_option linter.unusedSimpArgs false
theorem minK_2 {g : Int → Int → Int} {x y : Int} {K : AV → Prop} : minK g [.int .i64 x, .int .i64 y] K = K (.int .i64 (g x y)) := by
  simp [minK, mins]
theorem minK_4 {g : Int → Int → Int} {x y z w : Int} {K : AV → Prop} : minK g [.int .i64 x, .int .i64 y, .int .i64 z, .int .i64 w] K = K (.int .i64 (g (g (g x y) z) w)) := by
  simp [minK, mins]
@[congr] theorem minK_cg {g g' : Int → Int → Int} {us us' : List AV} {K : AV → Prop} (e1 : mk us = us') (e2 : mk g = g') : minK g us K = minK g' us' K := by rw [← e1, ← e2]; rfl
theorem imax_eq {x y : Int} : imax x y = max x y := by unfold imax; omega
def Stp (A B p q r s : Int) : Prop := q = 0 ∨ (Sg p q ∧ Sg r s ∧ 0 ≤ r * A + s * B ∧ r * A + s * B < p * A + q * B ∧ p * A + q * B ≤ B ∧ Int.gcd (p * A + q * B) (r * A + s * B) = Int.gcd A B)
set_option maxHeartbeats 4000000 in
set_option maxRecDepth 100000 in
theorem steps_c (a b : List Int) (ha : Norm a) (hb : Norm b) (hla : a.length < 100000000) (hlb : b.length < 100000000) (hab : val b ≤ val a) (h0 : 0 < val b) : ACalls Tryz.prog 91 [lims a, lims b] [] fun v h => h = [] ∧ ∃ p q r s : Int, v = .tup [.int .i64 p, .int .i64 q, .int .i64 r, .int .i64 s] ∧ Stp (val a) (val b) p q r s := by
  obtain ⟨kb, hk1, hk2, hkb⟩ := bits_c a ha hla
  obtain ⟨n, hn⟩ : ∃ n : Nat, n = kb - 62 := ⟨_, rfl⟩
  have hpa := (val_bound ha.li).1
  obtain ⟨A, hA⟩ := Int.eq_ofNat_of_zero_le hpa
  obtain ⟨B, hB⟩ := Int.eq_ofNat_of_zero_le (show 0 ≤ val b by omega)
  have hAn : (val a).toNat = A := by rw [hA]; exact Int.toNat_natCast A
  have hBn : (val b).toNat = B := by rw [hB]; exact Int.toNat_natCast B
  rw [hAn] at hk2
  have hAB : B ≤ A := by omega
  have hAk : A < 2 ^ (n + 62) := Nat.lt_of_lt_of_le hk2 (Nat.pow_le_pow_right (by decide) (by omega))
  have hha := head_c a ha.li hla n (by omega) (by rw [hAn]; exact hAk)
  have hhb := head_c b hb.li hlb n (by omega) (by rw [hBn]; omega)
  rw [hAn] at hha
  rw [hBn] at hhb
  have emx : max (0 : Int) ((kb : Int) - 62) = (n : Int) := by omega
  obtain ⟨W, hW⟩ : ∃ W : Nat, W = 2 ^ n := ⟨_, rfl⟩
  have hW0 : 0 < W := by rw [hW]; exact Nat.two_pow_pos n
  rw [← hW] at hha hhb
  have hx62 : A / W < 2 ^ 62 := Nat.div_lt_of_lt_mul (by rw [hW, ← Nat.pow_add]; exact hAk)
  have hy62 : B / W ≤ A / W := Nat.div_le_div_right hAB
  have ea : (A : Int) = (W : Int) * ((A / W : Nat) : Int) + ((A % W : Nat) : Int) := by
    have := Nat.div_add_mod A W
    exact_mod_cast this.symm
  have eb : (B : Int) = (W : Int) * ((B / W : Nat) : Int) + ((B % W : Nat) : Int) := by
    have := Nat.div_add_mod B W
    exact_mod_cast this.symm
  have ma := Nat.mod_lt A hW0
  have mb := Nat.mod_lt B hW0
  rw [hA, hB]
  have hLA : ∀ p q, LA W (A / W : Nat) (B / W : Nat) (A % W : Nat) (B % W : Nat) p q = p * A + q * B := fun p q => by unfold LA; rw [← ea, ← eb]
  have fx : (0 : Int) ≤ ((A / W : Nat) : Int) ∧ ((A / W : Nat) : Int) < 4611686018427387904 := ⟨Int.natCast_nonneg _, Int.lt_of_lt_of_le (Int.ofNat_lt.2 hx62) (by decide)⟩
  have fy : (0 : Int) ≤ ((B / W : Nat) : Int) ∧ ((B / W : Nat) : Int) < 4611686018427387904 := ⟨Int.natCast_nonneg _, Int.lt_of_lt_of_le (Int.ofNat_lt.2 (Nat.lt_of_le_of_lt hy62 hx62)) (by decide)⟩
  have fa : (0 : Int) ≤ ((A % W : Nat) : Int) ∧ ((A % W : Nat) : Int) < (W : Int) := by omega
  have fb : (0 : Int) ≤ ((B % W : Nat) : Int) ∧ ((B % W : Nat) : Int) < (W : Int) := by omega
  generalize hX0 : ((A / W : Nat) : Int) = x0 at *
  generalize hY0 : ((B / W : Nat) : Int) = y0 at *
  generalize hal : ((A % W : Nat) : Int) = al at *
  generalize hbe : ((B % W : Nat) : Int) = be at *
  have hl0 : Leh W x0 y0 al be x0 y0 1 0 0 1 := ⟨by omega, by omega, .inl (by omega), by omega, by omega, by omega, by omega, by omega, by omega, by omega, by omega⟩
  refine wp91 rfl rfl ?_
  simp (maxSteps := 4000000) only [↓packA, ↓reduceIte, packB, pureOp, quietOp, loadOp, quietB, fr0, cellsK, implies_true, ite_true, ite_false, eq_self, ne_eq, reduceCtorEq, Nat.reduceLT, Nat.reduceLeDiff, Nat.reduceAdd, Nat.reduceMul, Nat.reduceBEq, Nat.reduceEqDiff, Int.reduceToNat, Int.reduceLT, Int.reduceLE, Nat.reduceSub, pl91, ft2, ft3, ft109, ft149, lims]
  refine acalls_pure hkb rfl ?_
  simp (maxSteps := 4000000) only [↓packA, ↓reduceIte, packB, pureOp, quietOp, loadOp, quietB, fr0, cellsK, implies_true, ite_true, ite_false, eq_self, ne_eq, reduceCtorEq, Nat.reduceLT, Nat.reduceLeDiff, Nat.reduceAdd, Nat.reduceMul, Nat.reduceBEq, Nat.reduceEqDiff, Int.reduceToNat, Int.reduceLT, Int.reduceLE, Nat.reduceSub, pl91, ft2, ft3, ft109, ft149, lims, minK_2, imax_eq, emx]
  refine ⟨by omega, acalls_pure hha rfl ?_⟩
  simp (maxSteps := 4000000) only [↓packA, ↓reduceIte, packB, pureOp, quietOp, loadOp, quietB, fr0, cellsK, implies_true, ite_true, ite_false, eq_self, ne_eq, reduceCtorEq, Nat.reduceLT, Nat.reduceLeDiff, Nat.reduceAdd, Nat.reduceMul, Nat.reduceBEq, Nat.reduceEqDiff, Int.reduceToNat, Int.reduceLT, Int.reduceLE, Nat.reduceSub, pl91, ft2, ft3, ft109, ft149, lims, minK_2, imax_eq, emx]
  refine acalls_pure hhb rfl ?_
  simp (maxSteps := 4000000) only [↓packA, ↓reduceIte, packB, pureOp, quietOp, loadOp, quietB, fr0, cellsK, implies_true, ite_true, ite_false, eq_self, ne_eq, reduceCtorEq, Nat.reduceLT, Nat.reduceLeDiff, Nat.reduceAdd, Nat.reduceMul, Nat.reduceBEq, Nat.reduceEqDiff, Int.reduceToNat, Int.reduceLT, Int.reduceLE, Nat.reduceSub, pl91, ft2, ft3, ft109, ft149, lims, minK_2, imax_eq, emx]
  refine LoopK.intro (fun m w g => ∃ x y p q r s : Int, m = (r * A + s * B).toNat + 1 ∧ Leh W x0 y0 al be x y p q r s ∧ 0 ≤ r * A + s * B ∧ ((p = 1 ∧ q = 0 ∧ r = 0 ∧ s = 1) ∨ (r * A + s * B < p * A + q * B ∧ p * A + q * B ≤ B)) ∧ Int.gcd (p * A + q * B) (r * A + s * B) = Int.gcd A B ∧ w 9 = .int .i64 x ∧ w 10 = .int .i64 y ∧ w 11 = .int .i64 p ∧ w 12 = .int .i64 q ∧ w 13 = .int .i64 r ∧ w 14 = .int .i64 s ∧ g = []) (((0 : Int) * A + 1 * B).toNat + 1) ⟨x0, y0, 1, 0, 0, 1, rfl, hl0, by omega, .inl ⟨rfl, rfl, rfl, rfl⟩, by simp, ?_⟩ ?_
  · simp (maxSteps := 4000000) only [↓packA, ↓reduceIte, packB, pureOp, quietOp, loadOp, quietB, fr0, cellsK, implies_true, ite_true, ite_false, eq_self, ne_eq, reduceCtorEq, Nat.reduceLT, Nat.reduceLeDiff, Nat.reduceAdd, Nat.reduceMul, Nat.reduceBEq, Nat.reduceEqDiff, Int.reduceToNat, Int.reduceLT, Int.reduceLE, Nat.reduceSub, pl91, ft2, ft3, ft109, ft149, lims]
  rintro m w g ⟨x, y, p, q, r, s, rfl, hl, hb0, hor, hg, a9, a10, a11, a12, a13, a14, rfl⟩
  have hps := hl.pos
  have yr := hl.yr
  have ys := hl.ys
  have xp := hl.xp
  have xq := hl.xq
  have xb := hl.xb
  have bp := hl.bp
  have br := hl.br
  have yb := hl.yb
  have done : Stp A B p q r s := by
    rcases hor with ⟨_, rfl, _, _⟩ | ⟨o1, o2⟩
    · exact .inl rfl
    · have h1 := hl.sg
      have h2 := hl.bp
      have h3 := hl.br
      exact .inr ⟨by unfold Sg; omega, by unfold Sg; omega, hb0, o1, o2, hg⟩
  by_cases c1 : y + r = 0
  · simp (maxSteps := 4000000) only [↓packA, ↓reduceIte, packB, pureOp, quietOp, loadOp, quietB, fr0, cellsK, implies_true, ite_true, ite_false, eq_self, ne_eq, reduceCtorEq, Nat.reduceLT, Nat.reduceLeDiff, Nat.reduceAdd, Nat.reduceMul, Nat.reduceBEq, Nat.reduceEqDiff, Int.reduceToNat, Int.reduceLT, Int.reduceLE, Nat.reduceSub, pl91, ft2, ft3, ft109, ft149, lims, a9, a10, a11, a12, a13, a14, c1, concA, Int.reduceAdd, Int.reduceSub, Int.reduceNeg, Int.reduceMul, Int.reduceEq, Int.reduceBEq, Int.reduceBNe]
    exact ⟨p, q, r, s, rfl, done⟩
  by_cases c2 : y + s = 0
  · simp (maxSteps := 4000000) only [↓packA, ↓reduceIte, packB, pureOp, quietOp, loadOp, quietB, fr0, cellsK, implies_true, ite_true, ite_false, eq_self, ne_eq, reduceCtorEq, Nat.reduceLT, Nat.reduceLeDiff, Nat.reduceAdd, Nat.reduceMul, Nat.reduceBEq, Nat.reduceEqDiff, Int.reduceToNat, Int.reduceLT, Int.reduceLE, Nat.reduceSub, pl91, ft2, ft3, ft109, ft149, lims, a9, a10, a11, a12, a13, a14, c1, c2, concA, Int.reduceAdd, Int.reduceSub, Int.reduceNeg, Int.reduceMul, Int.reduceEq, Int.reduceBEq, Int.reduceBNe]
    exact ⟨by omega, p, q, r, s, rfl, done⟩
  have d1 : (x + p).tdiv (y + r) = (x + p) / (y + r) := Int.tdiv_eq_ediv_of_nonneg xp
  have d2 : (x + q).tdiv (y + s) = (x + q) / (y + s) := Int.tdiv_eq_ediv_of_nonneg xq
  have q1 : 0 ≤ (x + p) / (y + r) ∧ (x + p) / (y + r) ≤ x + p := ⟨Int.ediv_nonneg xp yr, Int.ediv_le_self _ xp⟩
  have q2 : 0 ≤ (x + q) / (y + s) ∧ (x + q) / (y + s) ≤ x + q := ⟨Int.ediv_nonneg xq ys, Int.ediv_le_self _ xq⟩
  have w1 : IntKind.i64.wrap ((x + p) / (y + r)) = (x + p) / (y + r) := IntWalk.i64_in _ (by omega)
  have w2 : IntKind.i64.wrap ((x + q) / (y + s)) = (x + q) / (y + s) := IntWalk.i64_in _ (by omega)
  by_cases c3 : (x + p) / (y + r) = (x + q) / (y + s)
  · obtain ⟨k1, k2, k3, k4, k5, k6, k7⟩ := hl.step (by omega) fa fb (by omega) (by omega) rfl c3
    rw [c3] at w1
    generalize ht : (x + p) / (y + r) = t at *
    rw [← c3] at w1
    rw [hLA, hLA] at k6
    rw [hLA] at k5
    by_cases c4 : (-2147483647 ≤ p - t * r ∧ p - t * r ≤ 2147483647) ∧ (-2147483647 ≤ q - t * s ∧ q - t * s ≤ 2147483647)
    · have r4 : ¬ max (max (max (p - t * r) (0 - (p - t * r))) (q - t * s)) (0 - (q - t * s)) ≥ 2147483648 := by omega
      simp (maxSteps := 4000000) only [↓packA, ↓reduceIte, packB, pureOp, quietOp, loadOp, quietB, fr0, cellsK, implies_true, ite_true, ite_false, eq_self, ne_eq, reduceCtorEq, Nat.reduceLT, Nat.reduceLeDiff, Nat.reduceAdd, Nat.reduceMul, Nat.reduceBEq, Nat.reduceEqDiff, Int.reduceToNat, Int.reduceLT, Int.reduceLE, Nat.reduceSub, pl91, ft2, ft3, ft109, ft149, lims, a9, a10, a11, a12, a13, a14, c1, c2, d1, d2, w1, w2, ht, ← c3, minK_4, imax_eq, r4, concA, Int.reduceAdd, Int.reduceSub, Int.reduceNeg, Int.reduceMul, Int.reduceEq, Int.reduceBEq, Int.reduceBNe]
      have eg : (p - t * r) * (A : Int) + (q - t * s) * B = (p * A + q * B) - t * (r * A + s * B) := by
        rw [Int.sub_mul, Int.sub_mul, Int.mul_add, Int.mul_assoc, Int.mul_assoc]
        omega
      refine ⟨by omega, by omega, by omega, by omega, by omega, by omega, by omega, by omega, by omega, by omega, by omega, by omega, by omega, by omega, .inl ⟨((p - t * r) * (A : Int) + (q - t * s) * B).toNat + 1, by omega, y, x - t * y, r, s, p - t * r, q - t * s, rfl, k7 c4, k5, .inr ⟨k6, ?_⟩, ?_, rfl, rfl, rfl, rfl, rfl, rfl⟩⟩
      · rcases hor with ⟨_, _, rfl, rfl⟩ | ⟨o1, o2⟩
        · omega
        · omega
      · rw [eg, Int.gcd_sub_mul_right_right, Int.gcd_comm, hg]
    · have r4 : max (max (max (p - t * r) (0 - (p - t * r))) (q - t * s)) (0 - (q - t * s)) ≥ 2147483648 := by omega
      simp (maxSteps := 4000000) only [↓packA, ↓reduceIte, packB, pureOp, quietOp, loadOp, quietB, fr0, cellsK, implies_true, ite_true, ite_false, eq_self, ne_eq, reduceCtorEq, Nat.reduceLT, Nat.reduceLeDiff, Nat.reduceAdd, Nat.reduceMul, Nat.reduceBEq, Nat.reduceEqDiff, Int.reduceToNat, Int.reduceLT, Int.reduceLE, Nat.reduceSub, pl91, ft2, ft3, ft109, ft149, lims, a9, a10, a11, a12, a13, a14, c1, c2, d1, d2, w1, w2, ht, ← c3, minK_4, imax_eq, r4, concA, Int.reduceAdd, Int.reduceSub, Int.reduceNeg, Int.reduceMul, Int.reduceEq, Int.reduceBEq, Int.reduceBNe]
      exact ⟨by omega, by omega, by omega, by omega, by omega, by omega, by omega, by omega, by omega, by omega, by omega, by omega, p, q, r, s, rfl, done⟩
  · simp (maxSteps := 4000000) only [↓packA, ↓reduceIte, packB, pureOp, quietOp, loadOp, quietB, fr0, cellsK, implies_true, ite_true, ite_false, eq_self, ne_eq, reduceCtorEq, Nat.reduceLT, Nat.reduceLeDiff, Nat.reduceAdd, Nat.reduceMul, Nat.reduceBEq, Nat.reduceEqDiff, Int.reduceToNat, Int.reduceLT, Int.reduceLE, Nat.reduceSub, pl91, ft2, ft3, ft109, ft149, lims, a9, a10, a11, a12, a13, a14, c1, c2, d1, d2, w1, w2, c3, concA, Int.reduceAdd, Int.reduceSub, Int.reduceNeg, Int.reduceMul, Int.reduceEq, Int.reduceBEq, Int.reduceBNe]
    exact ⟨by omega, by omega, by omega, by omega, by omega, by omega, p, q, r, s, rfl, done⟩
end Go.Proofs.YtclbobielhllmaaGreat
end
section
namespace Go.Proofs.YtclbobielhllmaaGreat
open Go Go.AL
set_option linter.unusedVariables false
set_option linter.unusedSimpArgs false
theorem unK_xor32 {z : Int} {K : AV → Prop} : unK .xor (.int .u32 z) K = K (.int .u32 (IntKind.u32.wrap ((BitVec.ofInt IntKind.u32.bits 4294967295 ^^^ BitVec.ofInt IntKind.u32.bits z).toNat))) := (rfl)
theorem bin_xor {P : Program} {K : AV → Prop} {t : TypeId} {k : IntKind} {x y : Int} : binAll P .xor t (.int k x) (.int k y) K = K (.int k (k.wrap ((BitVec.ofInt k.bits x ^^^ BitVec.ofInt k.bits y).toNat))) := by simp [binAll, iK]
theorem ofInt32 {x : Nat} (h : x < 4294967296) : (BitVec.ofInt IntKind.u32.bits ((x : Nat) : Int)).toNat = x := by
  rw [show IntKind.u32.bits = 32 from rfl, BitVec.ofInt_natCast, BitVec.toNat_ofNat, Nat.mod_eq_of_lt (by omega)]
theorem wrap32 {x : Nat} (h : x < 4294967296) : IntKind.u32.wrap (x : Int) = x := by rw [IntKind.wrap_u32]; omega
theorem and32 {a b : Nat} (ha : a < 4294967296) (hb : b < 4294967296) : IntKind.u32.wrap ((BitVec.ofInt IntKind.u32.bits (a : Int) &&& BitVec.ofInt IntKind.u32.bits (b : Int)).toNat) = ((a &&& b : Nat) : Int) ∧ a &&& b < 4294967296 := by
  have h : a &&& b < 4294967296 := Nat.lt_of_le_of_lt Nat.and_le_left ha
  exact ⟨by rw [BitVec.toNat_and, ofInt32 ha, ofInt32 hb, wrap32 h], h⟩
theorem or32 {a b : Nat} (ha : a < 4294967296) (hb : b < 4294967296) : IntKind.u32.wrap ((BitVec.ofInt IntKind.u32.bits (a : Int) ||| BitVec.ofInt IntKind.u32.bits (b : Int)).toNat) = ((a ||| b : Nat) : Int) ∧ a ||| b < 4294967296 := by
  have h : a ||| b < 2 ^ 32 := Nat.or_lt_two_pow (by omega) (by omega)
  exact ⟨by rw [BitVec.toNat_or, ofInt32 ha, ofInt32 hb, wrap32 (by omega)], by omega⟩
theorem xor32 {a b : Nat} (ha : a < 4294967296) (hb : b < 4294967296) : IntKind.u32.wrap ((BitVec.ofInt IntKind.u32.bits (a : Int) ^^^ BitVec.ofInt IntKind.u32.bits (b : Int)).toNat) = ((a ^^^ b : Nat) : Int) ∧ a ^^^ b < 4294967296 := by
  have h : a ^^^ b < 2 ^ 32 := Nat.xor_lt_two_pow (by omega) (by omega)
  exact ⟨by rw [BitVec.toNat_xor, ofInt32 ha, ofInt32 hb, wrap32 (by omega)], by omega⟩
theorem not32 {b : Nat} (hb : b < 4294967296) : IntKind.u32.wrap ((BitVec.ofInt IntKind.u32.bits 4294967295 ^^^ BitVec.ofInt IntKind.u32.bits (b : Int)).toNat) = ((4294967295 ^^^ b : Nat) : Int) ∧ 4294967295 ^^^ b < 4294967296 := by
  have := xor32 (a := 4294967295) (by decide) hb
  exact this
theorem top32 {x : Nat} (h : x < 4294967296) : x.testBit 31 = decide (2147483648 ≤ x) := by
  rw [Nat.testBit_eq_decide_div_mod_eq]
  exact decide_eq_decide.2 (by omega)
set_option maxRecDepth 100000 in
theorem sub32_c (x y b : Nat) (hx : x < 4294967296) (hy : y < 4294967296) (hb : b ≤ 1) : ∃ d c : Nat, d < 4294967296 ∧ c ≤ 1 ∧ (x : Int) - y - b = d - 4294967296 * c ∧ APure Tryz.prog 109 [.int .u32 x, .int .u32 y, .int .u32 b] (.tup [.int .u32 d, .int .u32 c]) := by
  obtain ⟨d, hd⟩ : ∃ d : Nat, IntKind.u32.wrap (IntKind.u32.wrap ((x : Int) - y) - b) = (d : Int) := ⟨(IntKind.u32.wrap (IntKind.u32.wrap ((x : Int) - y) - b)).toNat, by rw [IntKind.wrap_u32]; omega⟩
  have hd2 : d < 4294967296 := by rw [IntKind.wrap_u32] at hd; omega
  obtain ⟨h1, l1⟩ := not32 hx
  obtain ⟨h2, l2⟩ := and32 l1 hy
  obtain ⟨h3, l3⟩ := xor32 hx hy
  obtain ⟨h4, l4⟩ := not32 l3
  obtain ⟨h5, l5⟩ := and32 l4 hd2
  obtain ⟨h6, l6⟩ := or32 l2 l5
  have h7 := shr32 (l := (((4294967295 ^^^ x) &&& y) ||| ((4294967295 ^^^ (x ^^^ y)) &&& d))) (s := 31) (by omega)
  have ht : ((((4294967295 ^^^ x) &&& y) ||| ((4294967295 ^^^ (x ^^^ y)) &&& d))).testBit 31 = ((!decide (2147483648 ≤ x) && decide (2147483648 ≤ y)) || (!(decide (2147483648 ≤ x) ^^ decide (2147483648 ≤ y)) && decide (2147483648 ≤ d))) := by
    rw [Nat.testBit_or, Nat.testBit_and, Nat.testBit_and, Nat.testBit_xor, Nat.testBit_xor, Nat.testBit_xor, top32 hx, top32 hy, top32 hd2, show Nat.testBit 4294967295 31 = true from by decide]
    simp
  rw [top32 l6] at ht
  generalize (((4294967295 ^^^ x) &&& y) ||| ((4294967295 ^^^ (x ^^^ y)) &&& d)) = z at *
  rw [IntKind.wrap_u32, IntKind.wrap_u32] at hd
  have hd' : IntKind.u32.wrap (IntKind.u32.wrap ((x : Int) - y) - b) = (d : Int) := by rw [IntKind.wrap_u32, IntKind.wrap_u32]; exact hd
  refine ⟨d, z / 2 ^ 31, hd2, by omega, ?_, ?_⟩
  · by_cases a1 : 2147483648 ≤ x <;> by_cases a2 : 2147483648 ≤ y <;> by_cases a3 : 2147483648 ≤ d <;> by_cases a4 : 2147483648 ≤ z <;> simp [a1, a2, a3, a4] at ht <;> omega
  · refine apure_of (wp109 rfl rfl ?_)
    simp (maxSteps := 4000000) only [↓packA, ↓reduceIte, packB, pureOp, quietOp, loadOp, quietB, fr0, cellsK, implies_true, ite_true, ite_false, eq_self, ne_eq, reduceCtorEq, Nat.reduceLT, Nat.reduceLeDiff, Nat.reduceAdd, Nat.reduceMul, Nat.reduceBEq, Nat.reduceEqDiff, Int.reduceToNat, Int.reduceLT, Int.reduceLE, Nat.reduceSub, pl109, ft109, ft147, limR, unK_xor32, bin_xor, hd', h1, h2, h3, h4, h5, h6, h7]
    exact .pure _ rfl
set_option maxRecDepth 100000 in
theorem add32_c (x y b : Nat) (hx : x < 4294967296) (hy : y < 4294967296) (hb : b ≤ 1) : ∃ d c : Nat, d < 4294967296 ∧ c ≤ 1 ∧ (x : Int) + y + b = d + 4294967296 * c ∧ APure Tryz.prog 110 [.int .u32 x, .int .u32 y, .int .u32 b] (.tup [.int .u32 d, .int .u32 c]) := by
  have e1 : IntKind.u64.wrap (x : Int) = x := cu64 (by omega)
  have e2 : IntKind.u64.wrap (y : Int) = y := cu64 (by omega)
  have e3 : IntKind.u64.wrap (b : Int) = b := cu64 (by omega)
  have e4 : IntKind.u64.wrap ((x : Int) + y) = ((x + y : Nat) : Int) := by rw [IntKind.wrap_u64]; omega
  have e5 : IntKind.u64.wrap (((x + y : Nat) : Int) + b) = ((x + y + b : Nat) : Int) := by rw [IntKind.wrap_u64]; omega
  have e6 : IntKind.u32.wrap ((x + y + b : Nat) : Int) = (((x + y + b) % 4294967296 : Nat) : Int) := by rw [IntKind.wrap_u32]; omega
  have e7 := shr64 (l := x + y + b) (s := 32) (by omega)
  have e8 : IntKind.u32.wrap (((x + y + b) / 2 ^ 32 : Nat) : Int) = (((x + y + b) / 2 ^ 32 : Nat) : Int) := wrap32 (by omega)
  refine ⟨(x + y + b) % 4294967296, (x + y + b) / 2 ^ 32, by omega, by omega, by omega, ?_⟩
  refine apure_of (wp110 rfl rfl ?_)
  simp (maxSteps := 4000000) only [↓packA, ↓reduceIte, packB, pureOp, quietOp, loadOp, quietB, fr0, cellsK, implies_true, ite_true, ite_false, eq_self, ne_eq, reduceCtorEq, Nat.reduceLT, Nat.reduceLeDiff, Nat.reduceAdd, Nat.reduceMul, Nat.reduceBEq, Nat.reduceEqDiff, Int.reduceToNat, Int.reduceLT, Int.reduceLE, Nat.reduceSub, pl110, ft109, ft110, ft147, limR, e1, e2, e3, e4, e5, e6, e7, e8]
  exact .pure _ rfl
set_option maxRecDepth 100000 in
theorem div32_c (hi lo y : Nat) (hhi : hi < y) (hlo : lo < 4294967296) (hy : y < 4294967296) : ∃ q r : Nat, q < 4294967296 ∧ r < y ∧ hi * 4294967296 + lo = q * y + r ∧ APure Tryz.prog 108 [.int .u32 hi, .int .u32 lo, .int .u32 y] (.tup [.int .u32 q, .int .u32 r]) := by
  obtain ⟨N, hN⟩ : ∃ N, N = hi * 4294967296 + lo := ⟨_, rfl⟩
  have hNy : N < y * 4294967296 := by
    have : (hi + 1) * 4294967296 ≤ y * 4294967296 := Nat.mul_le_mul_right _ hhi
    omega
  have hq : N / y < 4294967296 := Nat.div_lt_of_lt_mul hNy
  have hr : N % y < y := Nat.mod_lt _ (by omega)
  have hdm := Nat.div_add_mod N y
  have e1 : IntKind.u64.wrap (hi : Int) = hi := cu64 (by omega)
  have e2 : IntKind.u64.wrap (lo : Int) = lo := cu64 (by omega)
  have e3 : IntKind.u64.wrap (y : Int) = y := cu64 (by omega)
  have e4 := shl32 (x := (hi : Int)) (by omega)
  have e5 := or_low (x := (hi : Int)) (y := (lo : Int)) (by omega) (by omega) (by omega)
  have e6 : (hi : Int) * 4294967296 + lo = (N : Int) := by omega
  rw [e6] at e5
  have e7 : IntKind.u64.wrap ((N : Int).tdiv (y : Int)) = ((N / y : Nat) : Int) := by
    rw [show (N : Int).tdiv (y : Int) = ((N / y : Nat) : Int) from (Int.ofNat_tdiv N y).symm, IntKind.wrap_u64]
    exact Int.emod_eq_of_lt (Int.natCast_nonneg _) (Int.lt_of_lt_of_le (Int.ofNat_lt.2 hq) (by decide))
  have e8 : (N : Int).tmod (y : Int) = ((N % y : Nat) : Int) := (Int.ofNat_tmod N y).symm
  have e9 : IntKind.u32.wrap ((N / y : Nat) : Int) = ((N / y : Nat) : Int) := wrap32 hq
  have e10 : IntKind.u32.wrap ((N % y : Nat) : Int) = ((N % y : Nat) : Int) := wrap32 (by omega)
  refine ⟨N / y, N % y, hq, hr, by rw [Nat.mul_comm y] at hdm; omega, ?_⟩
  refine apure_of (wp108 rfl rfl ?_)
  have r1 : ¬ (y : Int) = 0 := by omega
  have r1' : ((y : Int) != 0) = true := by simpa using r1
  have r2 : ¬ (y : Int) ≤ (hi : Int) := by omega
  simp (maxSteps := 4000000) only [↓packA, ↓reduceIte, packB, pureOp, quietOp, loadOp, quietB, fr0, cellsK, implies_true, ite_true, ite_false, eq_self, ne_eq, reduceCtorEq, Nat.reduceLT, Nat.reduceLeDiff, Nat.reduceAdd, Nat.reduceMul, Nat.reduceBEq, Nat.reduceEqDiff, Int.reduceToNat, Int.reduceLT, Int.reduceLE, Nat.reduceSub, pl108, ft109, ft110, ft147, ft179, limR, r1, r1', r2, e1, e2, e3, e4, e5, e7, e8, e9, e10]
  exact .pure _ rfl
set_option maxRecDepth 100000 in
theorem lz_c (x : Nat) (hx : x < 4294967296) : APure Tryz.prog 102 [.int .u32 x] (.int .i64 ((32 - BL x : Nat) : Int)) := by
  have := BL_max (x := x) (k := 32) (by omega)
  refine apure_of (wp102 rfl rfl ?_)
  simp (maxSteps := 4000000) only [↓packA, ↓reduceIte, packB, pureOp, quietOp, loadOp, quietB, fr0, cellsK, implies_true, ite_true, ite_false, eq_self, ne_eq, reduceCtorEq, Nat.reduceLT, Nat.reduceLeDiff, Nat.reduceAdd, Nat.reduceMul, Nat.reduceBEq, Nat.reduceEqDiff, Int.reduceToNat, Int.reduceLT, Int.reduceLE, Nat.reduceSub, pl102, ft3, ft109]
  refine acalls_pure (len32_c x hx) rfl ?_
  simp (maxSteps := 4000000) only [↓packA, ↓reduceIte, packB, pureOp, quietOp, loadOp, quietB, fr0, cellsK, implies_true, ite_true, ite_false, eq_self, ne_eq, reduceCtorEq, Nat.reduceLT, Nat.reduceLeDiff, Nat.reduceAdd, Nat.reduceMul, Nat.reduceBEq, Nat.reduceEqDiff, Int.reduceToNat, Int.reduceLT, Int.reduceLE, Nat.reduceSub, pl102, ft3, ft109]
  rw [show (32 : Int) - ((BL x : Nat) : Int) = ((32 - BL x : Nat) : Int) by omega]
  exact ⟨by omega, .pure _ rfl⟩
end Go.Proofs.YtclbobielhllmaaGreat
end
section
namespace Go.Proofs.YtclbobielhllmaaGreat
open Go Go.AL
set_option linter.unusedVariables false
set_option linter.unusedSimpArgs false
theorem drop_set {l : List Int} {k j : Nat} {v : Int} (h : k < j) : (l.set k v).drop j = l.drop j := by
  apply List.ext_getElem?
  intro i
  rw [List.getElem?_drop, List.getElem?_drop, List.getElem?_set_ne (by omega)]
theorem getD_setI {l : List Int} {k : Nat} {v : Int} (h : k < l.length) : (l.set k v).getD k default = v := by
  rw [List.getD_eq_getElem?_getD, List.getElem?_set_self h]; rfl
set_option maxHeartbeats 4000000 in
set_option maxRecDepth 100000 in
theorem small_c (a : List Int) (ha : LI a) (hla : a.length < 100000000) (d : Nat) (hd0 : 0 < d) (hd : d < 4294967296) : ACalls Tryz.prog 101 [lims a, .int .u32 d] [] fun v h => ∃ (qs : List Int) (r : Nat) (x : AV), Norm qs ∧ r < d ∧ val a = val qs * d + r ∧ v = .tup [x, .int .u32 r] ∧ OFz h x (lims qs) := by
  refine wp101 rfl rfl ?_
  simp (maxSteps := 4000000) only [↓packA, ↓reduceIte, packB, pureOp, quietOp, loadOp, quietB, fr0, cellsK, implies_true, ite_true, ite_false, eq_self, ne_eq, reduceCtorEq, Nat.reduceLT, Nat.reduceLeDiff, Nat.reduceAdd, Nat.reduceMul, Nat.reduceBEq, Nat.reduceEqDiff, Int.reduceToNat, Int.reduceLT, Int.reduceLE, Nat.reduceSub, pl101, ft3, ft109, ft149, lims, limR]
  refine ⟨by omega, by omega, ?_⟩
  refine LoopK.intro (fun m w g => ∃ (k : Nat) (es : List Int) (r : Nat), m = k + 1 ∧ k ≤ a.length ∧ es.length = a.length ∧ LI es ∧ r < d ∧ val (a.drop k) = val (es.drop k) * d + r ∧ w 0 = lims a ∧ w 1 = .int .u32 d ∧ w 6 = .osl 0 1 0 a.length a.length true ∧ w 7 = .int .u32 r ∧ w 8 = .int .i64 ((k : Int) - 1) ∧ g = [.arr 1 (List.map u32E es) true]) (a.length + 1) ⟨a.length, List.replicate a.length 0, 0, rfl, Nat.le_refl _, by simp, LI.rep, hd0, ?_, ?_⟩ ?_
  · rw [List.drop_length, List.drop_of_length_le (by simp)]; simp [val]
  · simp (maxSteps := 4000000) only [↓packA, ↓reduceIte, packB, pureOp, quietOp, loadOp, quietB, fr0, cellsK, implies_true, ite_true, ite_false, eq_self, ne_eq, reduceCtorEq, Nat.reduceLT, Nat.reduceLeDiff, Nat.reduceAdd, Nat.reduceMul, Nat.reduceBEq, Nat.reduceEqDiff, Int.reduceToNat, Int.reduceLT, Int.reduceLE, Nat.reduceSub, pl101, ft3, ft109, ft149, lims, Int.natCast_zero]
  rintro m w g ⟨k, es, r, rfl, hk, hes, hL, hr, hv, a0, a1, a6, a7, a8, rfl⟩
  by_cases c : 0 < k
  · obtain ⟨i, rfl⟩ : ∃ i, k = i + 1 := ⟨k - 1, by omega⟩
    have r1 : (i : Int) ≥ 0 := by omega
    have ei : ((i + 1 : Nat) : Int) - 1 = i := by omega
    have hx := ha.get (i := i)
    obtain ⟨l, hl⟩ := Int.eq_ofNat_of_zero_le hx.1
    obtain ⟨q, r', hq, hr', he, hc⟩ := div32_c r l d hr (by omega) hd
    have ev := val_drop (l := a) (k := i) (by omega)
    simp (maxSteps := 4000000) only [↓packA, ↓reduceIte, packB, pureOp, quietOp, loadOp, quietB, fr0, cellsK, implies_true, ite_true, ite_false, eq_self, ne_eq, reduceCtorEq, Nat.reduceLT, Nat.reduceLeDiff, Nat.reduceAdd, Nat.reduceMul, Nat.reduceBEq, Nat.reduceEqDiff, Int.reduceToNat, Int.reduceLT, Int.reduceLE, Nat.reduceSub, pl101, ft3, ft109, ft149, lims, limR, a0, a1, a6, a7, a8, ei, r1, hl]
    refine ⟨by omega, acalls_pure hc rfl ?_⟩
    simp (maxSteps := 4000000) only [↓packA, ↓reduceIte, packB, pureOp, quietOp, loadOp, quietB, fr0, cellsK, implies_true, ite_true, ite_false, eq_self, ne_eq, reduceCtorEq, Nat.reduceLT, Nat.reduceLeDiff, Nat.reduceAdd, Nat.reduceMul, Nat.reduceBEq, Nat.reduceEqDiff, Int.reduceToNat, Int.reduceLT, Int.reduceLE, Nat.reduceSub, pl101, ft3, ft109, ft149, lims, limR, a0, a1, a6, a7, a8, ei, r1, hl]
    refine ⟨by omega, by omega, by omega, .inl ⟨i + 1, by omega, i, es.set i q, r', rfl, by omega, by rw [List.length_set]; exact hes, hL.set (by omega), hr', ?_, rfl, by omega, rfl⟩⟩
    rw [ev, hv, hl, val_drop (l := es.set i q) (k := i) (by rw [List.length_set]; omega), drop_set (by omega), getD_setI (by omega), Int.add_mul, Int.add_mul, Int.mul_right_comm]
    have : ((r : Int) * 4294967296 + (l : Int)) = (q : Int) * d + r' := by rw [← Int.natCast_mul]; omega
    omega
  · have r1 : ¬ (k : Int) - 1 ≥ 0 := by omega
    obtain rfl : k = 0 := by omega
    simp (maxSteps := 4000000) only [↓packA, ↓reduceIte, packB, pureOp, quietOp, loadOp, quietB, fr0, cellsK, implies_true, ite_true, ite_false, eq_self, ne_eq, reduceCtorEq, Nat.reduceLT, Nat.reduceLeDiff, Nat.reduceAdd, Nat.reduceMul, Nat.reduceBEq, Nat.reduceEqDiff, Int.reduceToNat, Int.reduceLT, Int.reduceLE, Nat.reduceSub, pl101, ft3, ft109, ft149, lims, limR, a0, a1, a6, a7, a8, r1, concA, Int.reduceAdd, Int.reduceSub, Int.reduceNeg, Int.reduceMul, Int.reduceEq, Int.reduceBEq, Int.reduceBNe]
    refine trim_o (es := es) rfl (by omega) (Nat.le_refl _) (by omega) ?_
    simp (maxSteps := 4000000) only [↓packA, ↓reduceIte, packB, pureOp, quietOp, loadOp, quietB, fr0, cellsK, implies_true, ite_true, ite_false, eq_self, ne_eq, reduceCtorEq, Nat.reduceLT, Nat.reduceLeDiff, Nat.reduceAdd, Nat.reduceMul, Nat.reduceBEq, Nat.reduceEqDiff, Int.reduceToNat, Int.reduceLT, Int.reduceLE, Nat.reduceSub, pl101, ft3, ft109, ft149, lims, limR, a0, a1, a6, a7, a8, r1, concA, Int.reduceAdd, Int.reduceSub, Int.reduceNeg, Int.reduceMul, Int.reduceEq, Int.reduceBEq, Int.reduceBNe]
    refine ⟨es.take (trmN es a.length), r, _, norm_take hL (by omega), hr, ?_, rfl, ofz_lims rfl (trmN_le _) (by omega)⟩
    rw [trmN_val _ (by omega), List.take_of_length_le (by omega)]
    exact hv
end Go.Proofs.YtclbobielhllmaaGreat
end
section
namespace Go.Proofs.YtclbobielhllmaaGreat
open Go Go.AL
set_option linter.unusedVariables false
set_option linter.unusedSimpArgs false
theorem guess_high {E T S ul vl g q Wd V : Int} (hE : 0 < E) (hul : 0 ≤ ul ∧ ul < E) (hvl : 0 ≤ vl ∧ vl < E) (hW : Wd = T * E + ul) (hV : V = S * E + vl) (hg : 0 ≤ g) (h : T < g * S) (hq : q * V ≤ Wd) (hV0 : 0 < V) : q < g := by
  apply Classical.byContradiction
  intro hc
  have h1 : g * V ≤ q * V := Int.mul_le_mul_of_nonneg_right (by omega) (by omega)
  have h2 : (T + 1) * E ≤ g * S * E := Int.mul_le_mul_of_nonneg_right (by omega) (by omega)
  have h3 : 0 ≤ g * vl := Int.mul_nonneg hg hvl.1
  have h4 : g * V = g * S * E + g * vl := by rw [hV, Int.mul_add, Int.mul_assoc]
  rw [Int.add_mul, Int.one_mul] at h2
  omega
theorem guess_low {E T S ul vl g q Wd V : Int} (hE : 0 < E) (hul : 0 ≤ ul ∧ ul < E) (hvl : 0 ≤ vl ∧ vl < E) (hW : Wd = T * E + ul) (hV : V = S * E + vl) (hg : 0 ≤ g ∧ g < 4294967296) (h : g * S ≤ T) (hq : Wd < (q + 1) * V) (hB : 4294967296 * E ≤ V) : g ≤ q + 1 := by
  apply Classical.byContradiction
  intro hc
  have hV0 : 0 < V := by omega
  have h1 : (q + 2) * V ≤ g * V := Int.mul_le_mul_of_nonneg_right (by omega) (by omega)
  have h2 : g * S * E ≤ T * E := Int.mul_le_mul_of_nonneg_right h (by omega)
  have h3 : g * vl ≤ 4294967296 * E := Int.mul_le_mul (by omega) (by omega) hvl.1 (by omega)
  have h4 : g * V = g * S * E + g * vl := by rw [hV, Int.mul_add, Int.mul_assoc]
  rw [show q + 2 = (q + 1) + 1 by omega, Int.add_mul, Int.one_mul] at h1
  omega
theorem guess_first {v1 v2 u0 u1 E T S ul vl q Wd V : Int} (hE : 0 < E) (hul : 0 ≤ ul ∧ ul < E * 4294967296) (hvl : 0 ≤ vl) (hW : Wd = (u0 * 4294967296 + u1) * (E * 4294967296) + ul) (hV : V = v1 * (E * 4294967296) + vl) (hv1 : 0 < v1) (hq0 : 0 ≤ q) (hq : q * V ≤ Wd) : q ≤ (u0 * 4294967296 + u1) / v1 := by
  have hF : 0 < E * 4294967296 := by omega
  generalize E * 4294967296 = F at *
  generalize u0 * 4294967296 + u1 = U at *
  apply Classical.byContradiction
  intro hc
  have h1 : U < (U / v1 + 1) * v1 := Int.lt_ediv_add_one_mul_self U hv1
  have h2 : (U / v1 + 1) * v1 ≤ q * v1 := Int.mul_le_mul_of_nonneg_right (by omega) (by omega)
  have h3 : (U + 1) * F ≤ q * v1 * F := Int.mul_le_mul_of_nonneg_right (by omega) (by omega)
  have h4 : q * V = q * v1 * F + q * vl := by rw [hV, Int.mul_add, Int.mul_assoc]
  have h5 : 0 ≤ q * vl := Int.mul_nonneg hq0 hvl
  rw [Int.add_mul, Int.one_mul] at h3
  omega
theorem val_top {l : List Int} {n : Nat} (h : l.length = n + 1) : val l = l.getD n default * 4294967296 ^ n + val (l.take n) := by
  have := val_take_succ (l := l) (k := n) (by omega)
  rw [List.take_of_length_le (by omega)] at this
  rw [this, Int.mul_comm]
  omega
theorem getD_take {l : List Int} {n i : Nat} (h : i < n) : (l.take n).getD i default = l.getD i default := by
  rw [List.getD_eq_getElem?_getD, List.getD_eq_getElem?_getD, List.getElem?_take_of_lt h]
theorem getD_drop {l : List Int} {n i : Nat} : (l.drop n).getD i default = l.getD (n + i) default := by
  rw [List.getD_eq_getElem?_getD, List.getD_eq_getElem?_getD, List.getElem?_drop]
def wv (es : List Int) (j n : Nat) : Int := val ((es.drop j).take n)
theorem wv_succ {es : List Int} {j n : Nat} : wv es j (n + 1) = wv es j n + 4294967296 ^ n * es.getD (j + n) default := by
  unfold wv
  rw [val_take_next, getD_drop]
theorem wv_zero {es : List Int} {j : Nat} : wv es j 0 = 0 := rfl
theorem wv_bound {es : List Int} (h : LI es) {j n : Nat} : 0 ≤ wv es j n ∧ wv es j n < 4294967296 ^ n := by
  have h1 := val_bound ((h.drop j).take n)
  have h2 : (4294967296 : Int) ^ ((es.drop j).take n).length ≤ 4294967296 ^ n := bmono (by rw [List.length_take]; omega)
  unfold wv
  omega
theorem wv_set {es : List Int} {j n k : Nat} {v : Int} (h : j + n ≤ k) : wv (es.set k v) j n = wv es j n := by
  unfold wv
  congr 1
  apply List.ext_getElem?
  intro i
  rw [List.getElem?_take, List.getElem?_take]
  split
  · rw [List.getElem?_drop, List.getElem?_drop, List.getElem?_set_ne (by omega)]
  · rfl
end Go.Proofs.YtclbobielhllmaaGreat
end
section
namespace Go.Proofs.YtclbobielhllmaaGreat
open Go Go.AL
set_option linter.unusedVariables false
set_option linter.unusedSimpArgs false
theorem gshift32 {x : Int} (h0 : 0 ≤ x) (h : x < 18446744073709551616) : x.fdiv (2 ^ (min 32 IntKind.u64.bits)) = x / 4294967296 := by
  rw [show min 32 IntKind.u64.bits = 32 from rfl, Int.fdiv_eq_ediv_of_nonneg _ (by decide)]
  rfl
theorem w64 {x : Int} (h0 : 0 ≤ x) (h : x < 18446744073709551616) : IntKind.u64.wrap x = x := by
  rw [IntKind.wrap_u64]
  exact Int.emod_eq_of_lt h0 h
theorem mulB {x y : Int} (hx : 0 ≤ x ∧ x < 4294967296) (hy : 0 ≤ y ∧ y < 4294967296) : 0 ≤ x * y ∧ x * y ≤ 18446744065119617025 := mulb hx.1 (show x ≤ 4294967295 by omega) hy.1 (show y ≤ 4294967295 by omega)
theorem lin2 {a b E w D : Int} : w + E * b + E * D * a = (a * D + b) * E + w := by
  rw [Int.add_mul, show E * D * a = a * D * E from by ac_rfl, Int.mul_comm E b]
  omega
theorem lin3 {a b c E w D : Int} : w + E * c + E * D * b + E * D * D * a = (a * D * D + b * D + c) * E + w := by
  rw [Int.add_mul, Int.add_mul, show E * D * D * a = a * D * D * E from by ac_rfl, show E * D * b = b * D * E from by ac_rfl, Int.mul_comm E c]
  omega
theorem lin2f {a b E w D : Int} : (a * D + b) * E + w = a * (E * D) + (b * E + w) := by
  rw [Int.add_mul, show a * D * E = a * (E * D) from by ac_rfl]
  omega
theorem lin3f {a b c E w D : Int} : (a * D * D + b * D + c) * E + w = (a * D + b) * (E * D) + (c * E + w) := by
  rw [Int.add_mul _ c, ← Int.add_mul (a * D) b D, show (a * D + b) * D * E = (a * D + b) * (E * D) from by ac_rfl]
  omega
theorem ms_last {X A P u V0 b' c b d g : Int} (h : X + g * V0 = A + P * (c + b)) (h1 : d - 4294967296 * b' = u - c - b) : X + P * d + g * V0 = A + P * u + P * 4294967296 * b' := by
  have e2 : P * (c + b) + P * d = P * u + P * (4294967296 * b') := by
    rw [← Int.mul_add, ← Int.mul_add]
    congr 1
    omega
  rw [Int.mul_assoc P]
  omega
theorem ab_step {X A Y P c c' x y d : Int} (h : X + P * c = A + Y) (h1 : x + y + c = d + 4294967296 * c') : X + P * d + P * 4294967296 * c' = A + P * x + (Y + P * y) := by
  have e2 : P * d + P * (4294967296 * c') = P * c + (P * x + P * y) := by
    rw [← Int.mul_add, ← Int.mul_add, ← Int.mul_add]
    congr 1
    omega
  rw [Int.mul_assoc P]
  omega
theorem getD_setN {l : List Int} {k i : Nat} {v : Int} (h : k ≠ i) : (l.set k v).getD i default = l.getD i default := by
  rw [List.getD_eq_getElem?_getD, List.getD_eq_getElem?_getD, List.getElem?_set_ne h]
theorem set_id {h : Heap} {i : Nat} {o : Ob} (e : h[i]? = some o) : h.set i o = h := by
  obtain ⟨a, b⟩ := List.getElem?_eq_some_iff.1 e
  rw [← b]
  exact List.set_getElem_self a
theorem ms_step {X g Y A P cc b u d lo cc' b' v : Int} (h : X + g * Y = A + P * (cc + b)) (h1 : d - 4294967296 * b' = u - lo - b) (h2 : g * v + cc = 4294967296 * cc' + lo) : X + P * d + g * (Y + P * v) = A + P * u + P * 4294967296 * (cc' + b') := by
  have e1 : g * (Y + P * v) = g * Y + P * (g * v) := by rw [Int.mul_add, Int.mul_left_comm]
  have e2 : P * (cc + b) + (P * d + P * (g * v)) = P * u + P * (4294967296 * (cc' + b')) := by
    rw [← Int.mul_add, ← Int.mul_add, ← Int.mul_add]
    congr 1
    omega
  rw [e1, Int.mul_assoc P]
  omega
set_option maxHeartbeats 16000000 in
set_option maxRecDepth 100000 in
theorem digit_o {h : Heap} {id vid n j cap vcap : Nat} {ex ex' vex vex' : Bool} {es vs : List Int} {Q : AV → Heap → Prop} (hid : h[id]? = some (.arr 1 (List.map u32E es) ex')) (hvid : h[vid]? = some (.arr 1 (List.map u32E vs) vex')) (hne : id ≠ vid) (hLu : LI es) (hLv : LI vs) (hn : 2 ≤ n) (hvl : n ≤ vs.length) (hl : j + n + 1 ≤ es.length) (hn9 : n < 100000000)
    (htop : 2147483648 ≤ vs.getD (n - 1) default) (hlt : wv es j (n + 1) < 4294967296 * wv vs 0 n)
    (hq : ∀ (es' : List Int) (q : Int), es'.length = es.length → LI es' → (∀ i, i < j ∨ j + n < i → es'.getD i default = es.getD i default) → (0 ≤ q ∧ q < 4294967296) → wv es j (n + 1) = q * wv vs 0 n + wv es' j (n + 1) → wv es' j (n + 1) < wv vs 0 n → Q (.int .u32 q) (h.set id (.arr 1 (List.map u32E es') ex'))) :
    ACalls Tryz.prog 104 [.osl id 1 j (n + 1) cap ex, .osl vid 1 0 n vcap vex] h Q := by
  have hlid := (List.getElem?_eq_some_iff.1 hid).1
  -- the limbs on top
  obtain ⟨m, rfl⟩ : ∃ m, n = m + 2 := ⟨n - 2, by omega⟩
  have hU0 := hLu.get (i := j + (m + 2))
  have hU1 := hLu.get (i := j + (m + 1))
  have hU2 := hLu.get (i := j + m)
  have hV1 := hLv.get (i := m + 1)
  have hV2 := hLv.get (i := m)
  have eW : wv es j (m + 2 + 1) = (es.getD (j + (m + 2)) default * 4294967296 * 4294967296 + es.getD (j + (m + 1)) default * 4294967296 + es.getD (j + m) default) * 4294967296 ^ m + wv es j m := by
    rw [wv_succ, wv_succ, wv_succ, Int.pow_succ, Int.pow_succ]
    exact lin3
  have eV : wv vs 0 (m + 2) = (vs.getD (m + 1) default * 4294967296 + vs.getD m default) * 4294967296 ^ m + wv vs 0 m := by
    rw [wv_succ, wv_succ, Int.pow_succ, Nat.zero_add, Nat.zero_add]
    exact lin2
  have bu := wv_bound hLu (j := j) (n := m)
  have bv := wv_bound hLv (j := 0) (n := m)
  have hE : (0 : Int) < 4294967296 ^ m := bpos
  have bV := wv_bound hLv (j := 0) (n := m + 2)
  have bWd := wv_bound hLu (j := j) (n := m + 2 + 1)
  have et : vs.getD (m + 2 - 1) default = vs.getD (m + 1) default := rfl
  rw [et] at htop
  have hV0 : 0 < wv vs 0 (m + 2) := by omega
  have hB : 4294967296 * 4294967296 ^ m ≤ wv vs 0 (m + 2) := by
    have h1 : 4294967296 * (4294967296 : Int) ^ m ≤ (vs.getD (m + 1) default * 4294967296 + vs.getD m default) * 4294967296 ^ m := Int.mul_le_mul_of_nonneg_right (by omega) (by omega)
    omega
  obtain ⟨q, hqd⟩ : ∃ q, q = wv es j (m + 2 + 1) / wv vs 0 (m + 2) := ⟨_, rfl⟩
  have hq0 : 0 ≤ q := by rw [hqd]; exact Int.ediv_nonneg bWd.1 (by omega)
  have hq1 : q * wv vs 0 (m + 2) ≤ wv es j (m + 2 + 1) := by rw [hqd]; exact Int.ediv_mul_le _ (by omega)
  have hq2 : wv es j (m + 2 + 1) < (q + 1) * wv vs 0 (m + 2) := by rw [hqd]; exact Int.lt_ediv_add_one_mul_self _ hV0
  have hqB : q < 4294967296 := by
    apply Classical.byContradiction
    intro hc
    have : 4294967296 * wv vs 0 (m + 2) ≤ q * wv vs 0 (m + 2) := Int.mul_le_mul_of_nonneg_right (by omega) (by omega)
    omega
  have key := fun q (g : Int) => @guess_low (4294967296 ^ m) (es.getD (j + (m + 2)) default * 4294967296 * 4294967296 + es.getD (j + (m + 1)) default * 4294967296 + es.getD (j + m) default) (vs.getD (m + 1) default * 4294967296 + vs.getD m default) (wv es j m) (wv vs 0 m) g q _ _ hE bu bv eW eV
  have keyh := fun q (g : Int) => @guess_high (4294967296 ^ m) (es.getD (j + (m + 2)) default * 4294967296 * 4294967296 + es.getD (j + (m + 1)) default * 4294967296 + es.getD (j + m) default) (vs.getD (m + 1) default * 4294967296 + vs.getD m default) (wv es j m) (wv vs 0 m) g q _ _ hE bu bv eW eV
  have hqf : q ≤ (es.getD (j + (m + 2)) default * 4294967296 + es.getD (j + (m + 1)) default) / vs.getD (m + 1) default := by
    have hm2 : 0 ≤ es.getD (j + m) default * 4294967296 ^ m := Int.mul_nonneg hU2.1 (by omega)
    have hm3 : es.getD (j + m) default * 4294967296 ^ m ≤ 4294967295 * 4294967296 ^ m := Int.mul_le_mul_of_nonneg_right (by omega) (by omega)
    have hm4 : 0 ≤ vs.getD m default * 4294967296 ^ m := Int.mul_nonneg hV2.1 (by omega)
    exact @guess_first _ (vs.getD m default) _ _ (4294967296 ^ m) 0 0 (es.getD (j + m) default * 4294967296 ^ m + wv es j m) (vs.getD m default * 4294967296 ^ m + wv vs 0 m) q _ _ hE ⟨by omega, by omega⟩ (by omega) (by rw [eW]; exact lin3f) (by rw [eV]; exact lin2f) (by omega) hq0 hq1
  have hU0V : es.getD (j + (m + 2)) default ≤ vs.getD (m + 1) default := by
    apply Classical.byContradiction
    intro hc
    have h1 : (vs.getD (m + 1) default * 4294967296 + vs.getD m default + 1) * 4294967296 ^ m * 4294967296 ≤ (es.getD (j + (m + 2)) default * 4294967296 * 4294967296 + es.getD (j + (m + 1)) default * 4294967296 + es.getD (j + m) default) * 4294967296 ^ m := by
      rw [Int.mul_right_comm]
      exact Int.mul_le_mul_of_nonneg_right (by omega) (by omega)
    rw [Int.add_mul _ 1, Int.one_mul] at h1
    omega
  generalize hw0 : es.getD (j + (m + 2)) default = U0 at *
  generalize hw1 : es.getD (j + (m + 1)) default = U1 at *
  generalize hw2 : es.getD (j + m) default = U2 at *
  generalize hy1 : vs.getD (m + 1) default = V1 at *
  generalize hy2 : vs.getD m default = V2 at *
  have em1 : (((m + 2 : Nat) : Int) - 1).toNat = m + 1 := by omega
  have em2 : (((m + 2 : Nat) : Int) - 2).toNat = m := by omega
  have ei0 : j + (m + 2) = j + (m + 2) := rfl
  have cu0 : IntKind.u64.wrap U0 = U0 := cu64 hU0
  have cu1 : IntKind.u64.wrap U1 = U1 := cu64 hU1
  have cu2 : IntKind.u64.wrap U2 = U2 := cu64 hU2
  have cv1 : IntKind.u64.wrap V1 = V1 := cu64 hV1
  have cv2 : IntKind.u64.wrap V2 = V2 := cu64 hV2
  have sh0 := shl32 hU0
  have or0 := or_low (x := U0) (y := U1) hU0.1 (by omega) hU1
  refine wp104 rfl rfl ?_
  simp (maxSteps := 4000000) only [↓packA, ↓reduceIte, packB, pureOp, quietOp, loadOp, quietB, fr0, cellsK, implies_true, ite_true, ite_false, eq_self, ne_eq, reduceCtorEq, Nat.reduceLT, Nat.reduceLeDiff, Nat.reduceAdd, Nat.reduceMul, Nat.reduceBEq, Nat.reduceEqDiff, Int.reduceToNat, Int.reduceLT, Int.reduceLE, Nat.reduceSub, pl104, ft3, ft109, ft110, ft147, ft149, limR, hid, hvid, em1, em2, hw0, hw1, hy1, cu0, cu1, cv1, sh0, or0]
  have hVp : 0 < V1 := by omega
  have d1 : (U0 * 4294967296 + U1).tdiv V1 = (U0 * 4294967296 + U1) / V1 := Int.tdiv_eq_ediv_of_nonneg (by omega)
  have d2 : (U0 * 4294967296 + U1).tmod V1 = (U0 * 4294967296 + U1) % V1 := Int.tmod_eq_emod_of_nonneg (by omega)
  have t0 : 0 ≤ (U0 * 4294967296 + U1) / V1 := Int.ediv_nonneg (by omega) (by omega)
  have t1 : (U0 * 4294967296 + U1) / V1 ≤ U0 * 4294967296 + U1 := Int.ediv_le_self _ (by omega)
  have t2 := Int.emod_add_mul_ediv (U0 * 4294967296 + U1) V1
  have t3 : 0 ≤ (U0 * 4294967296 + U1) % V1 := Int.emod_nonneg _ (by omega)
  have t4 : (U0 * 4294967296 + U1) % V1 < V1 := Int.emod_lt_of_pos _ hVp
  have m1 := mulB (x := 4294967295) (y := V1) (by omega) hV1
  have w1 : IntKind.u64.wrap ((U0 * 4294967296 + U1) / V1) = (U0 * 4294967296 + U1) / V1 := w64 t0 (by omega)
  have w2 : IntKind.u64.wrap (4294967295 * V1) = 4294967295 * V1 := w64 (by omega) (by omega)
  rw [d1, d2, w1, w2]
  refine ⟨by omega, by omega, by omega, by omega, by omega, by omega, by omega, by omega, by omega, by omega, ?_⟩
  refine (fun (hG : ∀ f : Fr, f 0 = .osl id 1 j (m + 2 + 1) cap ex ∧ f 1 = .osl vid 1 0 (m + 2) vcap vex ∧ f 5 = .int .i64 (m + 2 : Nat) ∧ (∃ g rest : Int, f 7 = .int .u64 g ∧ f 8 = .int .u64 rest ∧ (0 ≤ g ∧ g < 4294967296) ∧ (0 ≤ rest ∧ rest < 8589934592) ∧ rest = U0 * 4294967296 + U1 - g * V1 ∧ q ≤ g) → LoopK _ _ f h) => ⟨fun c => ⟨by omega, by omega, by omega, by omega, by omega, by omega, by omega, by omega, hG _ ?_⟩, fun c => ⟨by omega, by omega, by omega, hG _ ?_⟩⟩) ?_
  rotate_left
  · simp (maxSteps := 4000000) only [↓packA, ↓reduceIte, packB, pureOp, quietOp, loadOp, quietB, fr0, cellsK, implies_true, ite_true, ite_false, eq_self, ne_eq, reduceCtorEq, Nat.reduceLT, Nat.reduceLeDiff, Nat.reduceAdd, Nat.reduceMul, Nat.reduceBEq, Nat.reduceEqDiff, Int.reduceToNat, Int.reduceLT, Int.reduceLE, Nat.reduceSub, pl104, ft3, ft109, ft110, ft147, ft149]
    refine ⟨_, _, rfl, rfl, ⟨t0, ?_⟩, ⟨t3, by omega⟩, ?_, hqf⟩
    · have c3 : U0 < V1 := c
      have t5 : V1 * ((U0 * 4294967296 + U1) / V1) < V1 * 4294967296 := by omega
      exact Int.lt_of_mul_lt_mul_left t5 (by omega)
    · rw [Int.mul_comm _ V1]
      omega
  · simp (maxSteps := 4000000) only [↓packA, ↓reduceIte, packB, pureOp, quietOp, loadOp, quietB, fr0, cellsK, implies_true, ite_true, ite_false, eq_self, ne_eq, reduceCtorEq, Nat.reduceLT, Nat.reduceLeDiff, Nat.reduceAdd, Nat.reduceMul, Nat.reduceBEq, Nat.reduceEqDiff, Int.reduceToNat, Int.reduceLT, Int.reduceLE, Nat.reduceSub, pl104, ft3, ft109, ft110, ft147, ft149]
    refine ⟨_, _, rfl, rfl, ⟨by omega, by omega⟩, ?_, ?_, by omega⟩
    · rw [IntKind.wrap_u64]; omega
    · rw [IntKind.wrap_u64]; omega
  rintro f ⟨a0, a1, a5, g, rest, a7, a8, hg, hrest, er, hqg⟩
  clear hqf d1 d2 t0 t1 t2 t3 t4 m1 w1 w2
  refine LoopK.intro (fun k w z => ∃ g rest : Int, k = g.toNat ∧ w 0 = .osl id 1 j (m + 2 + 1) cap ex ∧ w 1 = .osl vid 1 0 (m + 2) vcap vex ∧ w 5 = .int .i64 (m + 2 : Nat) ∧ w 7 = .int .u64 g ∧ w 8 = .int .u64 rest ∧ (0 ≤ g ∧ g < 4294967296) ∧ (0 ≤ rest ∧ rest < 8589934592) ∧ rest = U0 * 4294967296 + U1 - g * V1 ∧ q ≤ g ∧ z = h) _ ⟨g, rest, rfl, a0, a1, a5, a7, a8, hg, hrest, er, hqg, rfl⟩ ?_
  clear g rest er hg hrest hqg a0 a1 a5 a7 a8 f
  rintro k w z ⟨g, rest, rfl, a0, a1, a5, a7, a8, hg, hrest, er, hqg, rfl⟩
  have p1 := mulB hg hV2
  have wp1 : IntKind.u64.wrap (g * V2) = g * V2 := w64 (by omega) (by omega)
  have sr : rest < 4294967296 → IntKind.u64.wrap (rest * 2 ^ min 32 IntKind.u64.bits) = rest * 4294967296 := fun c => shl32 ⟨hrest.1, c⟩
  have orr : rest < 4294967296 → IntKind.u64.wrap ↑(BitVec.ofInt IntKind.u64.bits (rest * 4294967296) ||| BitVec.ofInt IntKind.u64.bits U2).toNat = rest * 4294967296 + U2 := fun c => or_low (x := rest) (y := U2) hrest.1 (by omega) hU2
  simp (maxSteps := 4000000) +contextual only [↓packA, ↓reduceIte, packB, pureOp, quietOp, loadOp, quietB, fr0, cellsK, implies_true, ite_true, ite_false, eq_self, ne_eq, reduceCtorEq, Nat.reduceLT, Nat.reduceLeDiff, Nat.reduceAdd, Nat.reduceMul, Nat.reduceBEq, Nat.reduceEqDiff, Int.reduceToNat, Int.reduceLT, Int.reduceLE, Nat.reduceSub, pl104, ft3, ft109, ft110, ft147, ft149, limR, hid, hvid, a0, a1, a5, a7, a8, em1, em2, hw0, hw1, hw2, hy1, hy2, cu0, cu1, cv1, cv2, cu2, wp1, sr, orr]
  have em : (g - 1) * V1 = g * V1 - V1 := by rw [Int.sub_mul, Int.one_mul]
  have eT : g * (V1 * 4294967296 + V2) = g * V1 * 4294967296 + g * V2 := by rw [Int.mul_add, Int.mul_assoc]
  refine (fun (hG : ∀ f : Fr, f 0 = .osl id 1 j (m + 2 + 1) cap ex ∧ f 1 = .osl vid 1 0 (m + 2) vcap vex ∧ f 5 = .int .i64 (m + 2 : Nat) ∧ f 7 = .int .u64 g ∧ f 9 = .int .u64 0 ∧ f 10 = .int .u32 0 ∧ f 100 = .osl vid 1 0 (m + 2) vcap vex ∧ f 101 = .int .i64 (m + 2 : Nat) ∧ f 102 = .int .i64 0 ∧ g ≤ q + 1 → LoopK _ _ f z) => ⟨fun c => ⟨by omega, by omega, by omega, by omega, by omega, by omega, fun c2 => ⟨by omega, by omega, by omega, .inl ?_⟩, fun c2 => hG _ ?_⟩, fun c => hG _ ?_⟩) ?_
  rotate_left
  · have g1 : 0 < g := by
      apply Classical.byContradiction
      intro hc
      rw [show g = 0 by omega] at c2
      omega
    have hk := keyh q g hg.1 (by omega) hq1 hV0
    have q1 := w64 (x := g - 1) (by omega) (by omega)
    have q2 := w64 (x := rest + V1) (by omega) (by omega)
    exact ⟨(g - 1).toNat, by omega, _, _, rfl, q1, q2, ⟨by omega, by omega⟩, ⟨by omega, by omega⟩, by omega, by omega⟩
  · simp (maxSteps := 4000000) only [↓packA, ↓reduceIte, packB, pureOp, quietOp, loadOp, quietB, fr0, cellsK, implies_true, ite_true, ite_false, eq_self, ne_eq, reduceCtorEq, Nat.reduceLT, Nat.reduceLeDiff, Nat.reduceAdd, Nat.reduceMul, Nat.reduceBEq, Nat.reduceEqDiff, Int.reduceToNat, Int.reduceLT, Int.reduceLE, Nat.reduceSub, pl104, ft3, ft109, ft110, ft147, ft149, a0, a1, a5, a7, a8]
    exact key q g hg (by omega) hq2 hB
  · simp (maxSteps := 4000000) only [↓packA, ↓reduceIte, packB, pureOp, quietOp, loadOp, quietB, fr0, cellsK, implies_true, ite_true, ite_false, eq_self, ne_eq, reduceCtorEq, Nat.reduceLT, Nat.reduceLeDiff, Nat.reduceAdd, Nat.reduceMul, Nat.reduceBEq, Nat.reduceEqDiff, Int.reduceToNat, Int.reduceLT, Int.reduceLE, Nat.reduceSub, pl104, ft3, ft109, ft110, ft147, ft149, a0, a1, a5, a7, a8]
    have p2 : g * V2 ≤ 4294967296 * 4294967296 := by omega
    exact key q g hg (by omega) hq2 hB
  rintro f ⟨b0, b1, b5, b7, b9, b10, b100, b101, b102, hgq⟩
  clear key keyh sr orr wp1 p1 em eT a8 er hrest a0 a1 a5 a7 rest w
  clear cu0 cu1 cu2 cv1 cv2 sh0 or0 hVp hU0V htop hw0 hw1 hw2 hy1 hy2 hU0 hU1 hU2 hV1 hV2 eW eV bu bv hE hB et hlt em1 em2 ei0 hqd
  clear U0 U1 U2 V1 V2
  have hv2 : ∀ X, (z.set id X)[vid]? = some (.arr 1 (List.map u32E vs) vex') := fun X => by rw [List.getElem?_set_ne hne]; exact hvid
  have hi2 : ∀ X, (z.set id X)[id]? = some X := fun X => List.getElem?_set_self hlid
  refine LoopK.intro (fun x w z1 => ∃ (k : Nat) (es1 : List Int) (cc : Int) (b : Nat), x = m + 2 - k ∧ k ≤ m + 2 ∧ es1.length = es.length ∧ LI es1 ∧ (∀ i, i < j ∨ j + k ≤ i → es1.getD i default = es.getD i default) ∧ (0 ≤ cc ∧ cc < 4294967296) ∧ b ≤ 1 ∧ wv es1 j k + g * wv vs 0 k = wv es j k + 4294967296 ^ k * (cc + b) ∧ w 0 = .osl id 1 j (m + 2 + 1) cap ex ∧ w 1 = .osl vid 1 0 (m + 2) vcap vex ∧ w 5 = .int .i64 (m + 2 : Nat) ∧ w 7 = .int .u64 g ∧ w 9 = .int .u64 cc ∧ w 10 = .int .u32 b ∧ w 100 = .osl vid 1 0 (m + 2) vcap vex ∧ w 101 = .int .i64 (m + 2 : Nat) ∧ w 102 = .int .i64 k ∧ z1 = z.set id (.arr 1 (List.map u32E es1) ex')) _ ⟨0, es, 0, 0, rfl, by omega, rfl, hLu, fun i _ => rfl, by omega, by omega, by simp [wv_zero], b0, b1, b5, b7, b9, b10, b100, b101, b102, (set_id hid).symm⟩ ?_
  clear b0 b1 b5 b7 b9 b10 b100 b101 b102 f
  rintro x w z1 ⟨k, es1, cc, b, rfl, hk, hl1, hL1, hsame, hcc, hb, hinv, a0, a1, a5, a7, a9, a10, a100, a101, a102, rfl⟩
  by_cases c : k < m + 2
  · have r1 : (k : Int) < ((m + 2 : Nat) : Int) := by omega
    have hv := hLv.get (i := k)
    have hu := hLu.get (i := j + k)
    have hes := hsame (j + k) (by omega)
    obtain ⟨u, eu⟩ := Int.eq_ofNat_of_zero_le hu.1
    have pv := mulB hg hv
    have wq1 : IntKind.u64.wrap (g * vs.getD k default) = g * vs.getD k default := w64 (by omega) (by omega)
    have wq2 : IntKind.u64.wrap (g * vs.getD k default + cc) = g * vs.getD k default + cc := w64 (by omega) (by omega)
    obtain ⟨lo, elo⟩ := Int.eq_ofNat_of_zero_le (show 0 ≤ IntKind.u32.wrap (g * vs.getD k default + cc) by rw [IntKind.wrap_u32]; omega)
    have elo2 : (g * vs.getD k default + cc) % 4294967296 = lo := by rw [← elo, IntKind.wrap_u32]
    obtain ⟨d, b', hd, hb', hdb, hc⟩ := sub32_c u lo b (by omega) (by omega) hb
    have gs := gshift32 (x := g * vs.getD k default + cc) (by omega) (by omega)
    have cv := cu64 hv
    simp (maxSteps := 4000000) only [↓packA, ↓reduceIte, packB, pureOp, quietOp, loadOp, quietB, fr0, cellsK, implies_true, ite_true, ite_false, eq_self, ne_eq, reduceCtorEq, Nat.reduceLT, Nat.reduceLeDiff, Nat.reduceAdd, Nat.reduceMul, Nat.reduceBEq, Nat.reduceEqDiff, Int.reduceToNat, Int.reduceLT, Int.reduceLE, Nat.reduceSub, pl104, ft3, ft109, ft110, ft147, ft149, limR, hid, hvid, hne, hlid, a0, a1, a5, a7, a9, a10, a100, a101, a102, r1, hv2, hi2, eu, hes, wq1, wq2, elo, gs, cv]
    refine ⟨by omega, by omega, by omega, by omega, acalls_pure hc rfl ?_⟩
    simp (maxSteps := 4000000) only [↓packA, ↓reduceIte, packB, pureOp, quietOp, loadOp, quietB, fr0, cellsK, implies_true, ite_true, ite_false, eq_self, ne_eq, reduceCtorEq, Nat.reduceLT, Nat.reduceLeDiff, Nat.reduceAdd, Nat.reduceMul, Nat.reduceBEq, Nat.reduceEqDiff, Int.reduceToNat, Int.reduceLT, Int.reduceLE, Nat.reduceSub, pl104, ft3, ft109, ft110, ft147, ft149, limR, hid, hvid, hne, hlid, a0, a1, a5, a7, a9, a10, a100, a101, a102, r1, hv2, hi2, eu, hes, wq1, wq2, elo, gs, cv]
    refine ⟨by omega, by omega, by omega, .inl ⟨m + 2 - (k + 1), by omega, k + 1, es1.set (j + k) d, (g * vs.getD k default + cc) / 4294967296, b', rfl, by omega, by rw [List.length_set]; exact hl1, hL1.set (by omega), ?_, ⟨Int.ediv_nonneg (by omega) (by omega), by omega⟩, hb', ?_, ?_, by omega, ?_⟩⟩
    · intro i hi
      rw [getD_setN (by omega)]
      exact hsame i (by omega)
    · rw [wv_succ, wv_succ, wv_succ, wv_set (Nat.le_refl _), getD_setI (by omega), Nat.zero_add, eu, Int.pow_succ]
      exact ms_step hinv hdb.symm (lo := lo) (by omega)
    · rfl
    · exact ⟨by omega, List.set_set ..⟩
  have r1 : ¬ (k : Int) < ((m + 2 : Nat) : Int) := by omega
  obtain rfl : k = m + 2 := by omega
  have hu := hLu.get (i := j + (m + 2))
  have hes := hsame (j + (m + 2)) (by omega)
  obtain ⟨u, eu⟩ := Int.eq_ofNat_of_zero_le hu.1
  obtain ⟨l, rfl⟩ := Int.eq_ofNat_of_zero_le hcc.1
  have wl : IntKind.u32.wrap (l : Int) = l := wrap32 (by omega)
  obtain ⟨d, b', hd, hb', hdb, hc⟩ := sub32_c u l b (by omega) (by omega) hb
  have wg : IntKind.u32.wrap g = g := by rw [IntKind.wrap_u32]; omega
  simp (maxSteps := 4000000) only [↓packA, ↓reduceIte, packB, pureOp, quietOp, loadOp, quietB, fr0, cellsK, implies_true, ite_true, ite_false, eq_self, ne_eq, reduceCtorEq, Nat.reduceLT, Nat.reduceLeDiff, Nat.reduceAdd, Nat.reduceMul, Nat.reduceBEq, Nat.reduceEqDiff, Int.reduceToNat, Int.reduceLT, Int.reduceLE, Nat.reduceSub, pl104, ft3, ft109, ft110, ft147, ft149, limR, hid, hvid, hne, hlid, a0, a1, a5, a7, a9, a10, a100, a101, a102, r1, hv2, hi2, eu, hes, wl]
  refine ⟨by omega, by omega, acalls_pure hc rfl ?_⟩
  simp (maxSteps := 4000000) only [↓packA, ↓reduceIte, packB, pureOp, quietOp, loadOp, quietB, fr0, cellsK, implies_true, ite_true, ite_false, eq_self, ne_eq, reduceCtorEq, Nat.reduceLT, Nat.reduceLeDiff, Nat.reduceAdd, Nat.reduceMul, Nat.reduceBEq, Nat.reduceEqDiff, Int.reduceToNat, Int.reduceLT, Int.reduceLE, Nat.reduceSub, pl104, ft3, ft109, ft110, ft147, ft149, limR, hid, hvid, hne, hlid, a0, a1, a5, a7, a9, a10, a100, a101, a102, r1, hv2, hi2, eu, hes, wl, wg]
  refine ⟨by omega, by omega, ?_⟩
  have hL2 : LI (es1.set (j + (m + 2)) d) := hL1.set (by omega)
  have hl2 : (es1.set (j + (m + 2)) (d : Int)).length = es.length := by rw [List.length_set]; exact hl1
  have hs2 : ∀ i, i < j ∨ j + (m + 2) < i → (es1.set (j + (m + 2)) (d : Int)).getD i default = es.getD i default := fun i hi => by rw [getD_setN (by omega)]; exact hsame i (by omega)
  have h2 : wv (es1.set (j + (m + 2)) (d : Int)) j (m + 2 + 1) + g * wv vs 0 (m + 2) = wv es j (m + 2 + 1) + 4294967296 ^ (m + 2) * 4294967296 * b' := by
    rw [wv_succ (n := m + 2), wv_succ (n := m + 2), wv_set (Nat.le_refl _), getD_setI (by omega), eu]
    exact ms_last hinv hdb.symm
  rw [List.set_set]
  clear hinv hsame a100 a101 a102 r1 hc hdb eu hes hl1 hL1 wl hu hb a9 a10
  generalize es1.set (j + (m + 2)) (d : Int) = es2 at *
  have b2 := wv_bound hL2 (j := j) (n := m + 2 + 1)
  have eq1 : (q + 1) * wv vs 0 (m + 2) = q * wv vs 0 (m + 2) + wv vs 0 (m + 2) := by rw [Int.add_mul, Int.one_mul]
  refine ⟨fun c => ?_, fun c => ?_⟩
  · rw [c] at h2
    have : g = q := by
      apply Classical.byContradiction
      intro hc
      have : g = q + 1 := by omega
      subst this
      omega
    subst this
    exact hq es2 g hl2 hL2 hs2 ⟨hq0, hqB⟩ (by omega) (by omega)
  obtain rfl : b' = 1 := by omega
  rw [Int.pow_succ] at b2
  have hg1 : g = q + 1 := by
    apply Classical.byContradiction
    intro hc
    have : g = q := by omega
    subst this
    omega
  subst hg1
  have h3 : wv es2 j (m + 2 + 1) + wv vs 0 (m + 2) + q * wv vs 0 (m + 2) = wv es j (m + 2 + 1) + 4294967296 ^ (m + 2) * 4294967296 := by omega
  refine LoopK.intro (fun x w z1 => ∃ (k : Nat) (es3 : List Int) (b : Nat), x = m + 2 - k ∧ k ≤ m + 2 ∧ es3.length = es.length ∧ LI es3 ∧ (∀ i, i < j ∨ j + k ≤ i → es3.getD i default = es2.getD i default) ∧ b ≤ 1 ∧ wv es3 j k + 4294967296 ^ k * b = wv es2 j k + wv vs 0 k ∧ w 0 = .osl id 1 j (m + 2 + 1) cap ex ∧ w 1 = .osl vid 1 0 (m + 2) vcap vex ∧ w 5 = .int .i64 (m + 2 : Nat) ∧ w 7 = .int .u64 (q + 1) ∧ w 14 = .int .u32 b ∧ w 148 = .osl vid 1 0 (m + 2) vcap vex ∧ w 149 = .int .i64 (m + 2 : Nat) ∧ w 150 = .int .i64 k ∧ z1 = z.set id (.arr 1 (List.map u32E es3) ex')) (m + 2) ⟨0, es2, 0, rfl, by omega, hl2, hL2, fun i _ => rfl, by omega, by simp [wv_zero], ?_⟩ ?_
  · simp (maxSteps := 4000000) only [↓packA, ↓reduceIte, packB, pureOp, quietOp, loadOp, quietB, fr0, cellsK, implies_true, ite_true, ite_false, eq_self, ne_eq, reduceCtorEq, Nat.reduceLT, Nat.reduceLeDiff, Nat.reduceAdd, Nat.reduceMul, Nat.reduceBEq, Nat.reduceEqDiff, Int.reduceToNat, Int.reduceLT, Int.reduceLE, Nat.reduceSub, pl104, ft3, ft109, ft110, ft147, ft149, a0, a1, a5, a7]
    rfl
  clear a0 a1 a5 a7 w
  rintro x w z1 ⟨k, es3, b, rfl, hk, hl3, hL3, hsame, hb, hinv, a0, a1, a5, a7, a14, a148, a149, a150, rfl⟩
  by_cases c : k < m + 2
  · have r1 : (k : Int) < ((m + 2 : Nat) : Int) := by omega
    have hv := hLv.get (i := k)
    have hu := hL2.get (i := j + k)
    have hes := hsame (j + k) (by omega)
    obtain ⟨u, eu⟩ := Int.eq_ofNat_of_zero_le hu.1
    obtain ⟨v, ev⟩ := Int.eq_ofNat_of_zero_le hv.1
    obtain ⟨d2, b2, hd, hb', hdb, hc⟩ := add32_c u v b (by omega) (by omega) hb
    simp (maxSteps := 4000000) only [↓packA, ↓reduceIte, packB, pureOp, quietOp, loadOp, quietB, fr0, cellsK, implies_true, ite_true, ite_false, eq_self, ne_eq, reduceCtorEq, Nat.reduceLT, Nat.reduceLeDiff, Nat.reduceAdd, Nat.reduceMul, Nat.reduceBEq, Nat.reduceEqDiff, Int.reduceToNat, Int.reduceLT, Int.reduceLE, Nat.reduceSub, pl104, ft3, ft109, ft110, ft147, ft149, limR, hid, hvid, hne, hlid, a0, a1, a5, a7, a14, a148, a149, a150, r1, hv2, hi2, eu, hes, ev]
    refine ⟨by omega, by omega, by omega, by omega, acalls_pure hc rfl ?_⟩
    simp (maxSteps := 4000000) only [↓packA, ↓reduceIte, packB, pureOp, quietOp, loadOp, quietB, fr0, cellsK, implies_true, ite_true, ite_false, eq_self, ne_eq, reduceCtorEq, Nat.reduceLT, Nat.reduceLeDiff, Nat.reduceAdd, Nat.reduceMul, Nat.reduceBEq, Nat.reduceEqDiff, Int.reduceToNat, Int.reduceLT, Int.reduceLE, Nat.reduceSub, pl104, ft3, ft109, ft110, ft147, ft149, limR, hid, hvid, hne, hlid, a0, a1, a5, a7, a14, a148, a149, a150, r1, hv2, hi2, eu, hes, ev]
    refine ⟨by omega, by omega, by omega, .inl ⟨m + 2 - (k + 1), by omega, k + 1, es3.set (j + k) d2, b2, rfl, by omega, by rw [List.length_set]; exact hl3, hL3.set (by omega), ?_, hb', ?_, ?_⟩⟩
    · intro i hi
      rw [getD_setN (by omega)]
      exact hsame i (by omega)
    · rw [wv_succ, wv_succ, wv_succ, wv_set (Nat.le_refl _), getD_setI (by omega), Nat.zero_add, eu, ev, Int.pow_succ]
      exact ab_step hinv (by omega)
    · exact ⟨rfl, by omega, List.set_set ..⟩
  have r1 : ¬ (k : Int) < ((m + 2 : Nat) : Int) := by omega
  obtain rfl : k = m + 2 := by omega
  have hu := hL2.get (i := j + (m + 2))
  have hes := hsame (j + (m + 2)) (by omega)
  simp (maxSteps := 4000000) only [↓packA, ↓reduceIte, packB, pureOp, quietOp, loadOp, quietB, fr0, cellsK, implies_true, ite_true, ite_false, eq_self, ne_eq, reduceCtorEq, Nat.reduceLT, Nat.reduceLeDiff, Nat.reduceAdd, Nat.reduceMul, Nat.reduceBEq, Nat.reduceEqDiff, Int.reduceToNat, Int.reduceLT, Int.reduceLE, Nat.reduceSub, pl104, ft3, ft109, ft110, ft147, ft149, limR, hid, hvid, hne, hlid, a0, a1, a5, a7, a14, a148, a149, a150, r1, hv2, hi2, hes, wg]
  refine ⟨by omega, by omega, by omega, by omega, ?_⟩
  rw [List.set_set, show IntKind.u32.wrap (q + 1 - 1) = q by rw [IntKind.wrap_u32]; omega]
  have hW : wv (es3.set (j + (m + 2)) (IntKind.u32.wrap (es2.getD (j + (m + 2)) default + b))) j (m + 2 + 1) + 4294967296 ^ (m + 2) * 4294967296 * ((es2.getD (j + (m + 2)) default + b) / 4294967296) = wv es2 j (m + 2 + 1) + wv vs 0 (m + 2) := by
    rw [wv_succ (n := m + 2), wv_succ (n := m + 2), wv_set (Nat.le_refl _), getD_setI (by omega), IntKind.wrap_u32]
    have := ab_step (x := es2.getD (j + (m + 2)) default) (y := 0) (d := (es2.getD (j + (m + 2)) default + b) % 4294967296) (c' := (es2.getD (j + (m + 2)) default + b) / 4294967296) hinv (by omega)
    omega
  have hLf : LI (es3.set (j + (m + 2)) (IntKind.u32.wrap (es2.getD (j + (m + 2)) default + b))) := hL3.set (by rw [IntKind.wrap_u32]; omega)
  have b4 := wv_bound hLf (j := j) (n := m + 2 + 1)
  rw [Int.pow_succ] at b4
  have ht : (es2.getD (j + (m + 2)) default + b) / 4294967296 = 0 ∨ (es2.getD (j + (m + 2)) default + b) / 4294967296 = 1 := by omega
  refine hq _ q (by rw [List.length_set]; exact hl3) hLf (fun i hi => by rw [getD_setN (by omega), hsame i (by omega), hs2 i hi]) ⟨hq0, hqB⟩ ?_ ?_
  · rcases ht with e | e <;> rw [e] at hW <;> omega
  · rcases ht with e | e <;> rw [e] at hW <;> omega
end Go.Proofs.YtclbobielhllmaaGreat
end
section
namespace Go.Proofs.YtclbobielhllmaaGreat
open Go Go.AL
set_option linter.unusedVariables false
set_option linter.unusedSimpArgs false
theorem or32s {e q s : Nat} (he : e < 2 ^ s) (h : q * 2 ^ s + e < 4294967296) : IntKind.u32.wrap ((BitVec.ofInt IntKind.u32.bits (e : Int) ||| BitVec.ofInt IntKind.u32.bits ((q * 2 ^ s : Nat) : Int)).toNat) = ((q * 2 ^ s + e : Nat) : Int) := by
  rw [BitVec.toNat_or, ofInt32 (by omega), ofInt32 (by omega), Nat.or_comm, ← Nat.shiftLeft_eq, ← Nat.shiftLeft_add_eq_or_of_lt he, Nat.shiftLeft_eq]
  exact wrap32 h
theorem sh_split {x s : Nat} (hx : x < 4294967296) (hs : s < 32) : x * 2 ^ s < 18446744073709551616 ∧ x * 2 ^ s % 4294967296 = (x % 2 ^ (32 - s)) * 2 ^ s ∧ (x % 2 ^ (32 - s)) * 2 ^ s + 2 ^ s ≤ 4294967296 ∧ x * 2 ^ s / 4294967296 < 2 ^ s := by
  have e : (4294967296 : Nat) = 2 ^ (32 - s) * 2 ^ s := by rw [← Nat.pow_add, show 32 - s + s = 32 by omega]
  have hT : 0 < 2 ^ s := Nat.pow_pos (by decide)
  have hU : 0 < 2 ^ (32 - s) := Nat.pow_pos (by decide)
  have hT2 : 2 ^ s ≤ 2 ^ 31 := Nat.pow_le_pow_right (by decide) (by omega)
  refine ⟨?_, ?_, ?_, ?_⟩
  · have := Nat.mul_le_mul (show x ≤ 4294967295 by omega) hT2
    omega
  · conv => lhs; rw [e]
    exact Nat.mul_mod_mul_right ..
  · have := Nat.mod_lt x hU
    have h2 := Nat.mul_le_mul_right (2 ^ s) (show x % 2 ^ (32 - s) + 1 ≤ 2 ^ (32 - s) by omega)
    rw [Nat.add_mul, Nat.one_mul] at h2
    omega
  · rw [Nat.div_lt_iff_lt_mul (by decide), Nat.mul_comm]
    exact Nat.mul_lt_mul_of_pos_left hx hT
theorem take_set_le {l : List Int} {k j : Nat} {v : Int} (h : k ≤ j) : (l.set j v).take k = l.take k := by
  apply List.ext_getElem?
  intro i
  rw [List.getElem?_take, List.getElem?_take]
  split
  · rw [List.getElem?_set_ne (by omega)]
  · rfl
theorem conv32 {x : Int} : IntKind.u32.wrap x = x % 4294967296 := IntKind.wrap_u32 _
set_option maxHeartbeats 4000000 in
set_option maxRecDepth 100000 in
theorem shl_c (a : List Int) (ha : LI a) (h0 : 0 < a.length) (hla : a.length < 100000000) (s : Nat) (hs : s < 32) {h : Heap} {Q : AV → Heap → Prop} (hq : ∀ es, es.length = a.length + 1 → LI es → val es = val a * 2 ^ s → Q (.osl h.length 1 0 (trmN es (a.length + 1)) (a.length + 1) true) (h ++ [.arr 1 (List.map u32E es) true])) : ACalls Tryz.prog 103 [lims a, .int .i64 s] h Q := by
  refine wp103 rfl rfl ?_
  obtain ⟨M, hM⟩ : ∃ M, h.length = M := ⟨_, rfl⟩
  have rM : ∀ o, (h ++ [o])[M]? = some o := fun o => by rw [List.getElem?_append_right (by omega)]; simp [hM]
  have sM : ∀ o o', (h ++ [o]).set M o' = h ++ [o'] := fun o o' => by rw [List.set_append_right _ _ (by omega)]; simp [hM]
  have q0 : (s : Int).tdiv 32 = 0 := by rw [Int.tdiv_eq_ediv_of_nonneg (by omega)]; omega
  have q1 : (s : Int).tmod 32 = s := by rw [Int.tmod_eq_emod_of_nonneg (by omega)]; omega
  have en : (0 : Int) + a.length + 1 = ((a.length + 1 : Nat) : Int) := by omega
  have ne : ¬ (a.length : Int) = 0 := by omega
  have w0 : IntKind.i64.wrap 0 = 0 := by decide
  simp (maxSteps := 4000000) only [↓packA, ↓reduceIte, packB, pureOp, quietOp, loadOp, quietB, fr0, cellsK, implies_true, ite_true, ite_false, eq_self, ne_eq, reduceCtorEq, Nat.reduceLT, Nat.reduceLeDiff, Nat.reduceAdd, Nat.reduceMul, Nat.reduceBEq, Nat.reduceEqDiff, Int.reduceToNat, Int.reduceLT, Int.reduceLE, Nat.reduceSub, pl103, ft3, ft109, ft110, ft147, ft149, lims, limR, hM, rM, q0, q1, en, ne, w0]
  refine ⟨by decide, by omega, by omega, by omega, ?_⟩
  refine LoopK.intro (fun m w g => ∃ (k : Nat) (es : List Int), m = a.length - k ∧ k ≤ a.length ∧ es.length = a.length + 1 ∧ LI es ∧ es.getD k default < ((2 ^ s : Nat) : Int) ∧ val (es.take (k + 1)) = val (a.take k) * 2 ^ s ∧ w 0 = lims a ∧ w 1 = .int .i64 s ∧ w 5 = .osl M 1 0 (a.length + 1) (a.length + 1) true ∧ w 19 = lims a ∧ w 20 = .int .i64 a.length ∧ w 21 = .int .i64 k ∧ g = h ++ [.arr 1 (List.map u32E es) true]) (a.length) ⟨0, List.replicate (a.length + 1) 0, rfl, Nat.zero_le _, by simp, LI.rep, ?_, ?_, ?_⟩ ?_
  · rw [List.getD_eq_getElem?_getD, List.getElem?_replicate_of_lt (by omega)]
    exact Int.ofNat_lt.2 (Nat.pow_pos (by decide))
  · rw [List.take_replicate, val_rep]
    simp [val]
  · simp (maxSteps := 4000000) only [↓packA, ↓reduceIte, packB, pureOp, quietOp, loadOp, quietB, fr0, cellsK, implies_true, ite_true, ite_false, eq_self, ne_eq, reduceCtorEq, Nat.reduceLT, Nat.reduceLeDiff, Nat.reduceAdd, Nat.reduceMul, Nat.reduceBEq, Nat.reduceEqDiff, Int.reduceToNat, Int.reduceLT, Int.reduceLE, Nat.reduceSub, pl103, ft3, ft109, ft110, ft147, ft149, lims, Int.natCast_zero]
  rintro m w g ⟨k, es, rfl, hk, hes, hL, he, hv, a0, a1, a5, a19, a20, a21, rfl⟩
  by_cases c : k < a.length
  · have r1 : (k : Int) < (a.length : Int) := by omega
    have hx := ha.get (i := k)
    have hy := hL.get (i := k)
    have eA := val_take_next (l := a) (k := k)
    obtain ⟨x, ex⟩ := Int.eq_ofNat_of_zero_le hx.1
    obtain ⟨y, ey⟩ := Int.eq_ofNat_of_zero_le hy.1
    obtain ⟨t1, t2, t3, t4⟩ := sh_split (x := x) (s := s) (by omega) hs
    have cx : IntKind.u64.wrap (x : Int) = x := cu64 (by omega)
    have sx := shl64 (l := x) (s := s) (by omega) (by omega)
    have f1 : IntKind.u32.wrap ((x * 2 ^ s : Nat) : Int) = (((x % 2 ^ (32 - s)) * 2 ^ s : Nat) : Int) := by rw [conv32, ← t2]; omega
    have f2 := or32s (e := y) (q := x % 2 ^ (32 - s)) (s := s) (by omega) (by omega)
    have f3 := shr64 (l := x * 2 ^ s) (s := 32) (by omega)
    have f4 : IntKind.u32.wrap ((x * 2 ^ s / 2 ^ 32 : Nat) : Int) = ((x * 2 ^ s / 2 ^ 32 : Nat) : Int) := wrap32 (by omega)
    have em : ((0 : Int) + k).toNat = k := by omega
    have em2 : ((0 : Int) + k + 1).toNat = k + 1 := by omega
    simp (maxSteps := 4000000) only [↓packA, ↓reduceIte, packB, pureOp, quietOp, loadOp, quietB, fr0, cellsK, implies_true, ite_true, ite_false, eq_self, ne_eq, reduceCtorEq, Nat.reduceLT, Nat.reduceLeDiff, Nat.reduceAdd, Nat.reduceMul, Nat.reduceBEq, Nat.reduceEqDiff, Int.reduceToNat, Int.reduceLT, Int.reduceLE, Nat.reduceSub, pl103, ft3, ft109, ft110, ft147, ft149, lims, limR, hM, rM, sM, q0, q1, w0, a0, a1, a5, a19, a20, a21, r1, ex, ey, cx, sx, f1, f2, f3, f4, em, em2]
    refine ⟨by omega, by omega, by omega, by omega, by omega, by omega, by omega, by omega, by omega, by omega, by omega, by omega, by omega, by omega, by omega, by omega, .inl ⟨a.length - (k + 1), by omega, k + 1, (es.set k ((x % 2 ^ (32 - s)) * 2 ^ s + y : Nat)).set (k + 1) (x * 2 ^ s / 2 ^ 32 : Nat), rfl, by omega, by rw [List.length_set, List.length_set]; exact hes, (hL.set (by omega)).set (by omega), ?_, ?_, by omega, rfl⟩⟩
    · rw [getD_setI (by rw [List.length_set]; omega)]
      omega
    · rw [val_take_next, val_take_next, take_set_le (by omega), take_set_le (by omega), getD_setI (by rw [List.length_set]; omega), getD_setN (by omega), getD_setI (by omega), eA, ex, Int.add_mul, ← hv, val_take_next, ey, Int.pow_succ]
      have e1 : (((x % 2 ^ (32 - s)) * 2 ^ s + y : Nat) : Int) = y + ((x * 2 ^ s : Nat) : Int) - 4294967296 * ((x * 2 ^ s / 2 ^ 32 : Nat) : Int) := by omega
      have e2 : (4294967296 : Int) ^ k * x * 2 ^ s = 4294967296 ^ k * ((x * 2 ^ s : Nat) : Int) := by rw [Int.mul_assoc]; simp
      rw [e1, e2, Int.mul_assoc, Int.mul_sub, Int.mul_add]
      omega
  · have r1 : ¬ (k : Int) < (a.length : Int) := by omega
    obtain rfl : k = a.length := by omega
    simp (maxSteps := 4000000) only [↓packA, ↓reduceIte, packB, pureOp, quietOp, loadOp, quietB, fr0, cellsK, implies_true, ite_true, ite_false, eq_self, ne_eq, reduceCtorEq, Nat.reduceLT, Nat.reduceLeDiff, Nat.reduceAdd, Nat.reduceMul, Nat.reduceBEq, Nat.reduceEqDiff, Int.reduceToNat, Int.reduceLT, Int.reduceLE, Nat.reduceSub, pl103, ft3, ft109, ft110, ft147, ft149, lims, limR, hM, rM, sM, a0, a1, a5, a19, a20, a21, r1]
    refine trim_o (es := es) (rM _) (by omega) (Nat.le_refl _) (by omega) ?_
    simp (maxSteps := 4000000) only [↓packA, ↓reduceIte, packB, pureOp, quietOp, loadOp, quietB, fr0, cellsK, implies_true, ite_true, ite_false, eq_self, ne_eq, reduceCtorEq, Nat.reduceLT, Nat.reduceLeDiff, Nat.reduceAdd, Nat.reduceMul, Nat.reduceBEq, Nat.reduceEqDiff, Int.reduceToNat, Int.reduceLT, Int.reduceLE, Nat.reduceSub, pl103, ft3, ft109, ft110, ft147, ft149]
    rw [← hM]
    refine hq es hes hL ?_
    rw [List.take_of_length_le (by omega), List.take_of_length_le (by omega)] at hv
    exact hv
end Go.Proofs.YtclbobielhllmaaGreat
end
section
namespace Go.Proofs.YtclbobielhllmaaGreat
open Go Go.AL
set_option linter.unusedVariables false
set_option linter.unusedSimpArgs false
theorem or32h {e q t : Nat} (he : e < 2 ^ t) (h : q * 2 ^ t + e < 4294967296) : IntKind.u32.wrap ((BitVec.ofInt IntKind.u32.bits (e : Int) ||| BitVec.ofInt IntKind.u32.bits ((q * 2 ^ t : Nat) : Int)).toNat) = ((q * 2 ^ t + e : Nat) : Int) := or32s he h
theorem shl32s {x s : Nat} (h : x < 4294967296) (hs : s < 32) : IntKind.u32.wrap ((x : Int) * 2 ^ (min (32 - s) IntKind.u32.bits)) = (((x % 2 ^ s) * 2 ^ (32 - s) : Nat) : Int) := by
  have e : (4294967296 : Nat) = 2 ^ s * 2 ^ (32 - s) := by rw [← Nat.pow_add, show s + (32 - s) = 32 by omega]
  rw [show min (32 - s) IntKind.u32.bits = 32 - s from Nat.min_eq_left (by show 32 - s ≤ 32; omega), conv32]
  have h1 : (x : Int) * 2 ^ (32 - s) = ((x * 2 ^ (32 - s) : Nat) : Int) := by simp
  have h2 : x * 2 ^ (32 - s) % 4294967296 = (x % 2 ^ s) * 2 ^ (32 - s) := by
    conv => lhs; rw [e]
    exact Nat.mul_mod_mul_right ..
  rw [h1, ← h2]
  omega
theorem half_bits {x y s : Nat} (hx : x < 4294967296) (hs : s < 32) : x / 2 ^ s < 2 ^ (32 - s) ∧ (y % 2 ^ s) * 2 ^ (32 - s) + 2 ^ (32 - s) ≤ 4294967296 ∧ ((y % 2 ^ s) * 2 ^ (32 - s) + x / 2 ^ s) * 2 ^ s + x % 2 ^ s = x + 4294967296 * (y % 2 ^ s) := by
  have e : (4294967296 : Nat) = 2 ^ s * 2 ^ (32 - s) := by rw [← Nat.pow_add, show s + (32 - s) = 32 by omega]
  have hT : 0 < 2 ^ s := Nat.pow_pos (by decide)
  refine ⟨?_, ?_, ?_⟩
  · rw [Nat.div_lt_iff_lt_mul hT, Nat.mul_comm]
    omega
  · have := Nat.mod_lt y hT
    have h2 := Nat.mul_le_mul_right (2 ^ (32 - s)) (show y % 2 ^ s + 1 ≤ 2 ^ s by omega)
    rw [Nat.add_mul, Nat.one_mul] at h2
    omega
  · have h1 := Nat.div_add_mod x (2 ^ s)
    rw [Nat.add_mul, Nat.mul_assoc, Nat.mul_comm (2 ^ (32 - s)), ← e, Nat.mul_comm (x / 2 ^ s)]
    omega
set_option maxHeartbeats 4000000 in
set_option maxRecDepth 100000 in
theorem half_o {h : Heap} {uid n cap : Nat} {ux ux' : Bool} {us : List Int} {Q : AV → Heap → Prop} (hid : h[uid]? = some (.arr 1 (List.map u32E us) ux')) (hLu : LI us) (hn : n ≤ us.length) (hla : n < 100000000) (s : Nat) (hs : s < 32) (hq : ∀ es, es.length = n → LI es → val es = val (us.take n) / 2 ^ s → Q (.osl h.length 1 0 (trmN es n) n true) (h ++ [.arr 1 (List.map u32E es) true])) : ACalls Tryz.prog 106 [.osl uid 1 0 n cap ux, .int .i64 s] h Q := by
  refine wp106 rfl rfl ?_
  obtain ⟨M, hM⟩ : ∃ M, h.length = M := ⟨_, rfl⟩
  have rM : ∀ o, (h ++ [o])[M]? = some o := fun o => by rw [List.getElem?_append_right (by omega)]; simp [hM]
  have sM : ∀ o o', (h ++ [o]).set M o' = h ++ [o'] := fun o o' => by rw [List.set_append_right _ _ (by omega)]; simp [hM]
  have hlid := (List.getElem?_eq_some_iff.1 hid).1
  have rU : ∀ o, (h ++ [o])[uid]? = some (.arr 1 (List.map u32E us) ux') := fun o => by rw [List.getElem?_append_left hlid]; exact hid
  obtain ⟨a, ea⟩ : ∃ a, a = us.take n := ⟨_, rfl⟩
  have ha : LI a := ea ▸ hLu.take n
  have eg : ∀ k, k < n → us.getD k default = a.getD k default := fun k hk => by rw [ea, getD_take hk]
  have hln : a.length = n := by rw [ea, List.length_take]; omega
  rw [← ea] at hq
  rw [← hln] at hn hla hq eg ⊢
  clear hln ea
  simp (maxSteps := 4000000) only [↓packA, ↓reduceIte, packB, pureOp, quietOp, loadOp, quietB, fr0, cellsK, implies_true, ite_true, ite_false, eq_self, ne_eq, reduceCtorEq, Nat.reduceLT, Nat.reduceLeDiff, Nat.reduceAdd, Nat.reduceMul, Nat.reduceBEq, Nat.reduceEqDiff, Int.reduceToNat, Int.reduceLT, Int.reduceLE, Nat.reduceSub, pl106, ft3, ft109, ft149, limR, hM, rM]
  refine ⟨by omega, ?_⟩
  refine LoopK.intro (fun m w g => ∃ (k : Nat) (es : List Int), m = a.length - k ∧ k ≤ a.length ∧ es.length = a.length ∧ LI es ∧ val (es.take k) * 2 ^ s + a.getD 0 default % 2 ^ s = val (a.take k) + 4294967296 ^ k * (a.getD k default % 2 ^ s) ∧ w 0 = .osl uid 1 0 a.length cap ux ∧ w 1 = .int .i64 s ∧ w 5 = .osl M 1 0 a.length a.length true ∧ w 11 = .osl uid 1 0 a.length cap ux ∧ w 12 = .int .i64 a.length ∧ w 13 = .int .i64 k ∧ g = h ++ [.arr 1 (List.map u32E es) true]) (a.length) ⟨0, List.replicate a.length 0, rfl, Nat.zero_le _, by simp, LI.rep, ?_, ?_⟩ ?_
  · simp [val]
  · simp (maxSteps := 4000000) only [↓packA, ↓reduceIte, packB, pureOp, quietOp, loadOp, quietB, fr0, cellsK, implies_true, ite_true, ite_false, eq_self, ne_eq, reduceCtorEq, Nat.reduceLT, Nat.reduceLeDiff, Nat.reduceAdd, Nat.reduceMul, Nat.reduceBEq, Nat.reduceEqDiff, Int.reduceToNat, Int.reduceLT, Int.reduceLE, Nat.reduceSub, pl106, ft3, ft109, ft149, lims, Int.natCast_zero]
  rintro m w g ⟨k, es, rfl, hk, hes, hL, hv, a0, a1, a5, a11, a12, a13, rfl⟩
  by_cases c : k < a.length
  · have r1 : (k : Int) < (a.length : Int) := by omega
    have gx := eg k c
    have hx := ha.get (i := k)
    have hy := ha.get (i := k + 1)
    have eA := val_take_next (l := a) (k := k)
    obtain ⟨x, ex⟩ := Int.eq_ofNat_of_zero_le hx.1
    obtain ⟨y, ey⟩ := Int.eq_ofNat_of_zero_le hy.1
    obtain ⟨t1, t2, t3⟩ := half_bits (x := x) (y := y) (s := s) (by omega) hs
    have f1 := shr32 (l := x) (s := s) (by omega)
    have f2 := shl32s (x := y) (s := s) (by omega) hs
    have f3 := or32h (e := x / 2 ^ s) (q := y % 2 ^ s) (t := 32 - s) t1 (by omega)
    have f4 := getD_setI (l := es) (k := k) (v := ((x / 2 ^ s : Nat) : Int)) (by omega)
    have em : (32 - (s : Int)).toNat = 32 - s := by omega
    have em2 : ((k : Int) + 1).toNat = k + 1 := by omega
    rw [ex] at gx
    have t5 : ((y % 2 ^ s * 2 ^ (32 - s) + x / 2 ^ s : Nat) : Int) < ((4294967296 : Nat) : Int) := Int.ofNat_lt.2 (by omega)
    have key : ∀ v : Int, v = ((y % 2 ^ s * 2 ^ (32 - s) + x / 2 ^ s : Nat) : Int) → (es.set k v).length = a.length ∧ LI (es.set k v) ∧ val ((es.set k v).take (k + 1)) * 2 ^ s + a.getD 0 default % 2 ^ s = val (a.take (k + 1)) + 4294967296 ^ (k + 1) * (a.getD (k + 1) default % 2 ^ s) := by
      rintro v rfl
      refine ⟨by rw [List.length_set]; exact hes, hL.set ⟨Int.natCast_nonneg _, t5⟩, ?_⟩
      rw [val_take_next, take_set_le (Nat.le_refl _), getD_setI (by omega), eA, ex, ey, Int.pow_succ]
      rw [ex] at hv
      have e1 : ((y % 2 ^ s * 2 ^ (32 - s) + x / 2 ^ s : Nat) : Int) * 2 ^ s + (x : Int) % 2 ^ s = x + 4294967296 * ((y : Int) % 2 ^ s) := by
        rw [show (2 : Int) ^ s = ((2 ^ s : Nat) : Int) by simp, ← Int.natCast_emod, ← Int.natCast_emod, ← Int.natCast_mul]
        omega
      have e2 := congrArg (fun z => (4294967296 : Int) ^ k * z) e1
      simp only [Int.mul_add] at e2
      rw [Int.add_mul, Int.mul_assoc, Int.mul_assoc]
      omega
    by_cases c2 : k + 1 < a.length
    · have r2 : (k : Int) + 1 < (a.length : Int) := by omega
      have gy := eg (k + 1) c2
      rw [ey] at gy
      by_cases c3 : 0 < s
      · have r3 : (s : Int) > 0 := by omega
        simp (maxSteps := 4000000) only [↓packA, ↓reduceIte, packB, pureOp, quietOp, loadOp, quietB, fr0, cellsK, implies_true, ite_true, ite_false, eq_self, ne_eq, reduceCtorEq, Nat.reduceLT, Nat.reduceLeDiff, Nat.reduceAdd, Nat.reduceMul, Nat.reduceBEq, Nat.reduceEqDiff, Int.reduceToNat, Int.reduceLT, Int.reduceLE, Nat.reduceSub, pl106, ft3, ft109, ft149, limR, gx, gy, hM, rM, sM, rU, a0, a1, a5, a11, a12, a13, r1, r2, r3, ex, ey, f1, f2, f3, f4, em, em2]
        obtain ⟨k1, k2, k3⟩ := key _ rfl
        exact ⟨by omega, by omega, by omega, by omega, by omega, by omega, by omega, by omega, by omega, by omega, by omega, by omega, by omega, by omega, by omega, by omega, .inl ⟨a.length - (k + 1), by omega, k + 1, _, rfl, by omega, k1, k2, k3, by omega, by rw [List.set_set]⟩⟩
      · have r3 : ¬ (s : Int) > 0 := by omega
        simp (maxSteps := 4000000) only [↓packA, ↓reduceIte, packB, pureOp, quietOp, loadOp, quietB, fr0, cellsK, implies_true, ite_true, ite_false, eq_self, ne_eq, reduceCtorEq, Nat.reduceLT, Nat.reduceLeDiff, Nat.reduceAdd, Nat.reduceMul, Nat.reduceBEq, Nat.reduceEqDiff, Int.reduceToNat, Int.reduceLT, Int.reduceLE, Nat.reduceSub, pl106, ft3, ft109, ft149, limR, gx, gy, hM, rM, sM, rU, a0, a1, a5, a11, a12, a13, r1, r2, r3, ex, ey, f1, f2, f3, f4, em, em2]
        have y0 : y % 2 ^ s = 0 := by
          obtain rfl : s = 0 := by omega
          exact Nat.mod_one y
        obtain ⟨k1, k2, k3⟩ := key ((x / 2 ^ s : Nat) : Int) (by rw [y0, Nat.zero_mul, Nat.zero_add])
        exact ⟨by omega, by omega, by omega, by omega, by omega, by omega, by omega, .inl ⟨a.length - (k + 1), by omega, k + 1, _, rfl, by omega, k1, k2, k3, by omega, rfl⟩⟩
    · have r2 : ¬ (k : Int) + 1 < (a.length : Int) := by omega
      simp (maxSteps := 4000000) only [↓packA, ↓reduceIte, packB, pureOp, quietOp, loadOp, quietB, fr0, cellsK, implies_true, ite_true, ite_false, eq_self, ne_eq, reduceCtorEq, Nat.reduceLT, Nat.reduceLeDiff, Nat.reduceAdd, Nat.reduceMul, Nat.reduceBEq, Nat.reduceEqDiff, Int.reduceToNat, Int.reduceLT, Int.reduceLE, Nat.reduceSub, pl106, ft3, ft109, ft149, limR, gx, hM, rM, sM, rU, a0, a1, a5, a11, a12, a13, r1, r2, ex, ey, f1, f2, f3, f4, em, em2]
      have y0 : y % 2 ^ s = 0 := by
        have : a.getD (k + 1) default = 0 := by rw [List.getD_eq_getElem?_getD, List.getElem?_eq_none (by omega)]; rfl
        obtain rfl : y = 0 := by omega
        exact Nat.zero_mod _
      obtain ⟨k1, k2, k3⟩ := key ((x / 2 ^ s : Nat) : Int) (by rw [y0, Nat.zero_mul, Nat.zero_add])
      exact ⟨by omega, by omega, by omega, by omega, by omega, by omega, by omega, .inl ⟨a.length - (k + 1), by omega, k + 1, _, rfl, by omega, k1, k2, k3, by omega, rfl⟩⟩
  · have r1 : ¬ (k : Int) < (a.length : Int) := by omega
    obtain rfl : k = a.length := by omega
    simp (maxSteps := 4000000) only [↓packA, ↓reduceIte, packB, pureOp, quietOp, loadOp, quietB, fr0, cellsK, implies_true, ite_true, ite_false, eq_self, ne_eq, reduceCtorEq, Nat.reduceLT, Nat.reduceLeDiff, Nat.reduceAdd, Nat.reduceMul, Nat.reduceBEq, Nat.reduceEqDiff, Int.reduceToNat, Int.reduceLT, Int.reduceLE, Nat.reduceSub, pl106, ft3, ft109, ft149, limR, hM, rM, sM, rU, a0, a1, a5, a11, a12, a13, r1]
    refine trim_o (es := es) (rM _) (by omega) (Nat.le_refl _) (by omega) ?_
    simp (maxSteps := 4000000) only [↓packA, ↓reduceIte, packB, pureOp, quietOp, loadOp, quietB, fr0, cellsK, implies_true, ite_true, ite_false, eq_self, ne_eq, reduceCtorEq, Nat.reduceLT, Nat.reduceLeDiff, Nat.reduceAdd, Nat.reduceMul, Nat.reduceBEq, Nat.reduceEqDiff, Int.reduceToNat, Int.reduceLT, Int.reduceLE, Nat.reduceSub, pl106, ft3, ft109, ft149]
    rw [← hM]
    refine hq es hes hL ?_
    have z0 : a.getD a.length default = 0 := by rw [List.getD_eq_getElem?_getD, List.getElem?_eq_none (by omega)]; rfl
    rw [z0, Int.zero_emod, Int.mul_zero, Int.add_zero, List.take_of_length_le (l := a) (by omega), List.take_of_length_le (l := es) (by omega)] at hv
    have hT : (0 : Int) < 2 ^ s := Int.pow_pos (by decide)
    rw [← hv, Int.add_comm, Int.add_mul_ediv_right _ _ (by omega), Int.ediv_eq_zero_of_lt (Int.emod_nonneg _ (by omega)) (Int.emod_lt_of_pos _ hT), Int.zero_add]
end Go.Proofs.YtclbobielhllmaaGreat
end
section
namespace Go.Proofs.YtclbobielhllmaaGreat
open Go Go.AL
set_option linter.unusedVariables false
set_option linter.unusedSimpArgs false
theorem ofz_ext {h t : Heap} {u r : AV} (hz : OFz h u r) : OFz (h ++ t) u r := by
  induction hz with
  | flat u hp => exact .flat u hp
  | nils k => exact .nils k
  | osl id k i len cap ex ex' es hid hle hp => exact .osl id k i len cap ex ex' es (by rw [List.getElem?_append_left (List.getElem?_eq_some_iff.1 hid).1]; exact hid) hle hp
  | tup cs cs' hl _ ih => exact .tup cs cs' hl ih
  | agg cs cs' hl _ ih => exact .agg cs cs' hl ih
theorem bl_range {t : Nat} (h0 : 0 < t) (ht : t < 4294967296) : 32 - BL t < 32 ∧ 2147483648 ≤ t * 2 ^ (32 - BL t) ∧ (t + 1) * 2 ^ (32 - BL t) ≤ 4294967296 := by
  obtain ⟨h1, h2⟩ := BL_le h0
  have h3 := @BL_lt t
  have h4 : BL t ≤ 32 := BL_max (by omega)
  have e : (4294967296 : Nat) = 2 ^ BL t * 2 ^ (32 - BL t) := by rw [← Nat.pow_add, show BL t + (32 - BL t) = 32 by omega]
  have e2 : (2147483648 : Nat) = 2 ^ (BL t - 1) * 2 ^ (32 - BL t) := by rw [← Nat.pow_add, show BL t - 1 + (32 - BL t) = 31 by omega]
  refine ⟨by omega, ?_, ?_⟩
  · rw [e2]; exact Nat.mul_le_mul_right _ h2
  · rw [e]; exact Nat.mul_le_mul_right _ h3
theorem shift_v {vs b : List Int} {m t : Nat} (hb : Norm b) (em : b.length = m + 1) (et : b.getD m default = t) (ht0 : 0 < t) (ht : t < 4294967296) (hL : LI vs) (hl : vs.length = b.length + 1) (hv : val vs = val b * 2 ^ (32 - BL t)) : trmN vs (b.length + 1) = b.length ∧ 2147483648 ≤ vs.getD m default ∧ val (vs.take b.length) = val b * 2 ^ (32 - BL t) := by
  obtain ⟨b1, b2, b3⟩ := bl_range ht0 ht
  have hT := val_top em
  have hlow := val_bound (hb.1.take m)
  rw [List.length_take, em, Nat.min_eq_left (by omega)] at hlow
  rw [et] at hT
  have hE : (0 : Int) < 4294967296 ^ m := bpos
  have hP : (0 : Int) < ((2 ^ (32 - BL t) : Nat) : Int) := Int.ofNat_lt.2 (Nat.pow_pos (by decide))
  have b2' : (2147483648 : Int) ≤ (t : Int) * ((2 ^ (32 - BL t) : Nat) : Int) := by rw [← Int.natCast_mul]; omega
  have b3' : ((t : Int) + 1) * ((2 ^ (32 - BL t) : Nat) : Int) ≤ 4294967296 := by rw [show (t : Int) + 1 = ((t + 1 : Nat) : Int) from rfl, ← Int.natCast_mul]; omega
  rw [show (2 : Int) ^ (32 - BL t) = ((2 ^ (32 - BL t) : Nat) : Int) by simp] at hv ⊢
  generalize ((2 ^ (32 - BL t) : Nat) : Int) = P at *
  have lo : 2147483648 * 4294967296 ^ m ≤ val vs := by
    have h1 : 2147483648 * (4294967296 : Int) ^ m ≤ (t : Int) * P * 4294967296 ^ m := Int.mul_le_mul_of_nonneg_right b2' (by omega)
    have h2 : 0 ≤ val (b.take m) * P := Int.mul_nonneg hlow.1 (by omega)
    rw [hv, hT, Int.add_mul, Int.mul_right_comm]
    omega
  have hi : val vs < 4294967296 * 4294967296 ^ m := by
    have h1 : ((t : Int) + 1) * P * 4294967296 ^ m ≤ 4294967296 * 4294967296 ^ m := Int.mul_le_mul_of_nonneg_right b3' (by omega)
    have h2 : val b < ((t : Int) + 1) * 4294967296 ^ m := by rw [Int.add_mul, Int.one_mul]; omega
    have h3 : val b * P < ((t : Int) + 1) * 4294967296 ^ m * P := Int.mul_lt_mul_of_pos_right h2 hP
    rw [Int.mul_right_comm] at h3
    omega
  have hn : Norm (vs.take (trmN vs (b.length + 1))) := norm_take hL (by omega)
  have hle := trmN_le (l := vs) (b.length + 1)
  have hve := trmN_val (l := vs) (b.length + 1) (by omega)
  rw [List.take_of_length_le (show vs.length ≤ b.length + 1 by omega)] at hve
  have hlen : (vs.take (trmN vs (b.length + 1))).length = trmN vs (b.length + 1) := by rw [List.length_take]; omega
  have hbd := val_bound hn.1
  rw [hlen, hve] at hbd
  have e : trmN vs (b.length + 1) = m + 1 := by
    apply Nat.le_antisymm
    · apply Classical.byContradiction
      intro hc
      have := hn.lower (by omega)
      rw [hlen, hve] at this
      have h2 : (4294967296 : Int) ^ (m + 1) ≤ 4294967296 ^ (trmN vs (b.length + 1) - 1) := bmono (by omega)
      rw [Int.pow_succ] at h2
      omega
    · apply Classical.byContradiction
      intro hc
      have h2 : (4294967296 : Int) ^ (trmN vs (b.length + 1)) ≤ 4294967296 ^ m := bmono (by omega)
      omega
  rw [e] at hve
  refine ⟨by omega, ?_, by rw [em, hve]; exact hv⟩
  apply Classical.byContradiction
  intro hc
  have h1 := val_take_next (l := vs) (k := m)
  have h2 := val_bound (hL.take m)
  rw [List.length_take, Nat.min_eq_left (by omega)] at h2
  have h3 : (4294967296 : Int) ^ m * vs.getD m default ≤ 4294967296 ^ m * 2147483647 := Int.mul_le_mul_of_nonneg_left (by omega) (by omega)
  omega
theorem shift_u {us a : List Int} {s : Nat} (ha : Norm a) (h0 : 0 < a.length) (hL : LI us) (hl : us.length = a.length + 1) (hv : val us = val a * 2 ^ s) : a.length ≤ trmN us (a.length + 1) ∧ trmN us (a.length + 1) ≤ a.length + 1 ∧ val (us.take (trmN us (a.length + 1))) = val a * 2 ^ s := by
  have hn : Norm (us.take (trmN us (a.length + 1))) := norm_take hL (by omega)
  have hle := trmN_le (l := us) (a.length + 1)
  have hve := trmN_val (l := us) (a.length + 1) (by omega)
  rw [List.take_of_length_le (show us.length ≤ a.length + 1 by omega)] at hve
  refine ⟨?_, hle, by rw [hve]; exact hv⟩
  have hP : (1 : Int) ≤ 2 ^ s := by
    have : (0 : Int) < 2 ^ s := Int.pow_pos (by decide)
    omega
  have h1 : val a * 1 ≤ val a * 2 ^ s := Int.mul_le_mul_of_nonneg_left hP (val_bound ha.1).1
  have := ha.len_le hn.1 (by rw [hve, hv]; omega)
  rw [List.length_take] at this
  omega
theorem wv_head {es : List Int} {j : Nat} : ∀ n, wv es j (n + 1) = es.getD j default + 4294967296 * wv es (j + 1) n
  | 0 => by rw [wv_succ, wv_zero, wv_zero]; simp
  | n + 1 => by
    rw [wv_succ, wv_head n, wv_succ (j := j + 1), Int.pow_succ, show j + (n + 1) = j + 1 + n by omega, Int.mul_add, Int.mul_comm (4294967296 ^ n) 4294967296, Int.mul_assoc]
    omega
theorem val_take_same {l l' : List Int} : ∀ i, (∀ k, k < i → l.getD k default = l'.getD k default) → val (l.take i) = val (l'.take i)
  | 0, _ => rfl
  | i + 1, h => by rw [val_take_next, val_take_next, val_take_same i fun k hk => h k (by omega), h i (by omega)]
theorem val_take_add {l : List Int} {k : Nat} : ∀ n, val (l.take (k + n)) = val (l.take k) + 4294967296 ^ k * wv l k n
  | 0 => by rw [wv_zero]; simp
  | n + 1 => by
    rw [← Nat.add_assoc, val_take_next, val_take_add n, wv_succ, Int.pow_add, Int.mul_add, Int.mul_assoc]
    omega
theorem dm_last {A Bv R q T V rv : Int} (hT : 0 < T) (h : A * T = 0 + 1 * (R + q * V)) (hV : V = Bv * T) (hr : rv = R / T) (hlt : R < V) : A = q * Bv + rv ∧ rv < Bv := by
  have h1 : R = (A - q * Bv) * T := by
    rw [Int.sub_mul, h, hV, Int.mul_assoc]
    omega
  rw [h1, Int.mul_ediv_cancel _ (by omega)] at hr
  subst hr
  refine ⟨by omega, ?_⟩
  rw [h1, hV] at hlt
  exact Int.lt_of_mul_lt_mul_right hlt (by omega)
theorem dm_step {A P T u W R q Q V : Int} (h : A = T + P * u + P * 4294967296 * (W + Q * V)) (h1 : u + 4294967296 * W = q * V + R) : A = T + P * (R + (Q * 4294967296 + q) * V) := by
  rw [Int.mul_assoc, Int.add_assoc, ← Int.mul_add] at h
  rw [h]
  congr 2
  rw [Int.add_mul, Int.mul_add, Int.mul_right_comm, Int.mul_comm (Q * V)]
  omega
theorem snoc0 {us : List Int} {n : Nat} (hL : LI us) (hn : n ≤ us.length) : LI (us.take n ++ [0]) ∧ (us.take n ++ [0]).length = n + 1 ∧ val ((us.take n ++ [0]).take (n + 1)) = val (us.take n) ∧ (us.take n ++ [0]).getD n default = 0 := by
  have hl : (us.take n).length = n := by rw [List.length_take]; omega
  have hl2 : (us.take n ++ [0]).length = n + 1 := by rw [List.length_append, hl]; rfl
  refine ⟨(hL.take n).app (LI.cons (by omega) LI.nil), hl2, ?_, ?_⟩
  · rw [List.take_of_length_le (by omega), val_snoc]
    omega
  · rw [List.getD_eq_getElem?_getD, List.getElem?_append_right (by omega), hl, Nat.sub_self]
    rfl
set_option maxHeartbeats 16000000 in
set_option maxRecDepth 100000 in
theorem divmod_c (a b : List Int) (ha : Norm a) (hb : Norm b) (h0 : 0 < b.length) (hab : val b ≤ val a) (hla : a.length < 50000000) : ACalls Tryz.prog 92 [lims a, lims b] [] fun v h => ∃ q r : List Int, Norm q ∧ Norm r ∧ val a = val q * val b + val r ∧ val r < val b ∧ OFz h v (.tup [lims q, lims r]) := by
  have hlb : b.length ≤ a.length := hb.len_le ha.1 hab
  refine wp92 rfl rfl ?_
  have hcmp := wcmp_c a b ha hb (by omega) (by omega)
  have rc : ¬ cmpV (val a) (val b) < 0 := by unfold cmpV; split <;> (try split) <;> omega
  simp (maxSteps := 4000000) only [↓packA, ↓reduceIte, packB, pureOp, quietOp, loadOp, quietB, fr0, cellsK, implies_true, ite_true, ite_false, eq_self, ne_eq, reduceCtorEq, Nat.reduceLT, Nat.reduceLeDiff, Nat.reduceAdd, Nat.reduceMul, Nat.reduceBEq, Nat.reduceEqDiff, Int.reduceToNat, Int.reduceLT, Int.reduceLE, Nat.reduceSub, pl92, ft1, ft3, ft109, ft110, ft149, lims]
  refine acalls_pure hcmp rfl ?_
  by_cases c1 : b.length = 1
  · have r1 : (b.length : Int) = 1 := by omega
    obtain ⟨d, rfl⟩ : ∃ d, b = [d] := List.length_eq_one_iff.1 c1
    have hd := hb.1 d (by simp)
    have hdp := hb.pos (by simp)
    rw [val_one] at hdp
    obtain ⟨dn, rfl⟩ := Int.eq_ofNat_of_zero_le hd.1
    have hsm := small_c a ha.1 (by omega) dn (by omega) (by omega)
    simp (maxSteps := 4000000) only [↓packA, ↓reduceIte, packB, pureOp, quietOp, loadOp, quietB, fr0, cellsK, implies_true, ite_true, ite_false, eq_self, ne_eq, reduceCtorEq, Nat.reduceLT, Nat.reduceLeDiff, Nat.reduceAdd, Nat.reduceMul, Nat.reduceBEq, Nat.reduceEqDiff, Int.reduceToNat, Int.reduceLT, Int.reduceLE, Nat.reduceSub, pl92, ft1, ft3, ft109, ft110, ft149, lims, limR, rc, r1, Int.natCast_one, concA, Int.reduceAdd, Int.reduceSub, Int.reduceNeg, Int.reduceMul, Int.reduceEq, Int.reduceBEq, Int.reduceBNe]
    refine hsm.mono' ?_
    rintro v h' ⟨qs, r, x, hqs, hr, he, rfl, hz⟩
    have cr : IntKind.u64.wrap (r : Int) = r := cu64 (by omega)
    simp (maxSteps := 4000000) only [↓packA, ↓reduceIte, packB, pureOp, quietOp, loadOp, quietB, fr0, cellsK, implies_true, ite_true, ite_false, eq_self, ne_eq, reduceCtorEq, Nat.reduceLT, Nat.reduceLeDiff, Nat.reduceAdd, Nat.reduceMul, Nat.reduceBEq, Nat.reduceEqDiff, Int.reduceToNat, Int.reduceLT, Int.reduceLE, Nat.reduceSub, pl92, ft1, ft3, ft109, ft110, ft149, lims, limR, rc, cr, Int.natCast_one, concA, Int.reduceAdd, Int.reduceSub, Int.reduceNeg, Int.reduceMul, Int.reduceEq, Int.reduceBEq, Int.reduceBNe]
    refine of_c (r : Int) (by omega) fun es hl hL hv => ?_
    simp (maxSteps := 4000000) only [↓packA, ↓reduceIte, packB, pureOp, quietOp, loadOp, quietB, fr0, cellsK, implies_true, ite_true, ite_false, eq_self, ne_eq, reduceCtorEq, Nat.reduceLT, Nat.reduceLeDiff, Nat.reduceAdd, Nat.reduceMul, Nat.reduceBEq, Nat.reduceEqDiff, Int.reduceToNat, Int.reduceLT, Int.reduceLE, Nat.reduceSub, pl92, ft1, ft3, ft109, ft110, ft149, lims, limR, rc, cr, Int.natCast_one, concA, Int.reduceAdd, Int.reduceSub, Int.reduceNeg, Int.reduceMul, Int.reduceEq, Int.reduceBEq, Int.reduceBNe]
    refine ⟨qs, es.take (trmN es 2), hqs, norm_take hL (by omega), ?_, ?_, OFz.two (ofz_ext hz) (ofz_lims (by rw [List.getElem?_append_right (Nat.le_refl _), Nat.sub_self]; rfl) (trmN_le _) (by omega))⟩
    · rw [trmN_val _ (by omega), List.take_of_length_le (by omega), hv, val_one]
      exact he
    · rw [trmN_val _ (by omega), List.take_of_length_le (by omega), hv, val_one]
      omega
  · have r1 : ¬ (b.length : Int) = 1 := by omega
    obtain ⟨m, em⟩ : ∃ m, b.length = m + 2 := ⟨b.length - 2, by omega⟩
    have ht := hb.1.get (i := m + 1)
    obtain ⟨t, et⟩ := Int.eq_ofNat_of_zero_le ht.1
    have e1 : ((b.length : Int) - 1).toNat = m + 1 := by omega
    have hlz := lz_c t (by omega)
    simp (maxSteps := 4000000) only [↓packA, ↓reduceIte, packB, pureOp, quietOp, loadOp, quietB, fr0, cellsK, implies_true, ite_true, ite_false, eq_self, ne_eq, reduceCtorEq, Nat.reduceLT, Nat.reduceLeDiff, Nat.reduceAdd, Nat.reduceMul, Nat.reduceBEq, Nat.reduceEqDiff, Int.reduceToNat, Int.reduceLT, Int.reduceLE, Nat.reduceSub, pl92, ft1, ft3, ft109, ft110, ft149, lims, limR, rc, r1, e1, et]
    refine ⟨by omega, by omega, by omega, acalls_pure hlz rfl ?_⟩
    simp (maxSteps := 4000000) only [↓packA, ↓reduceIte, packB, pureOp, quietOp, loadOp, quietB, fr0, cellsK, implies_true, ite_true, ite_false, eq_self, ne_eq, reduceCtorEq, Nat.reduceLT, Nat.reduceLeDiff, Nat.reduceAdd, Nat.reduceMul, Nat.reduceBEq, Nat.reduceEqDiff, Int.reduceToNat, Int.reduceLT, Int.reduceLE, Nat.reduceSub, pl92, ft1, ft3, ft109, ft110, ft149, lims, limR, rc, r1, e1, et]
    obtain ⟨s, es⟩ : ∃ s, s = 32 - BL t := ⟨_, rfl⟩
    rw [← es]
    have ht0 : 0 < t := by
      have := hb.2 (by omega)
      rw [em, show m + 2 - 1 = m + 1 from rfl, et] at this
      omega
    obtain ⟨b1, b2, b3⟩ := bl_range ht0 (by omega)
    rw [← es] at b1 b2 b3
    refine shl_c b hb.1 (by omega) (by omega) s b1 fun vs hvl hvL hvv => ?_
    obtain ⟨v1, v2, v3⟩ := shift_v hb em et ht0 (by omega) hvL hvl (by rw [← es]; exact hvv)
    rw [← es] at v3
    rw [v1]
    simp (maxSteps := 4000000) only [↓packA, ↓reduceIte, packB, pureOp, quietOp, loadOp, quietB, fr0, cellsK, implies_true, ite_true, ite_false, eq_self, ne_eq, reduceCtorEq, Nat.reduceLT, Nat.reduceLeDiff, Nat.reduceAdd, Nat.reduceMul, Nat.reduceBEq, Nat.reduceEqDiff, Int.reduceToNat, Int.reduceLT, Int.reduceLE, Nat.reduceSub, pl92, ft1, ft3, ft109, ft110, ft149, lims, limR, rc, r1, e1, et]
    refine shl_c a ha.1 (by omega) (by omega) s b1 fun us hul huL huv => ?_
    obtain ⟨u1, u2, u3⟩ := shift_u ha (by omega) huL hul huv
    generalize trmN us (a.length + 1) = n at *
    have r2 : ¬ ((n + 1 : Nat) : Int) = (a.length : Int) := by omega
    have etn : (((n + 1 : Nat) : Int) - (b.length : Int)).toNat = n + 1 - b.length := by omega
    obtain ⟨w1, w2, w3, w4⟩ := snoc0 huL (n := n) (by omega)
    have rowB : List.take n (List.map u32E us) ++ [[AV.int IntKind.u32 0]] = List.map u32E (us.take n ++ [0]) := by rw [← List.map_take, app_u32E]
    have ltk : (List.take n (List.map u32E us)).length = n := by rw [List.length_take, List.length_map]; omega
    simp (maxSteps := 4000000) only [↓packA, ↓reduceIte, packB, pureOp, quietOp, loadOp, quietB, fr0, cellsK, implies_true, ite_true, ite_false, eq_self, ne_eq, reduceCtorEq, Nat.reduceLT, Nat.reduceLeDiff, Nat.reduceAdd, Nat.reduceMul, Nat.reduceBEq, Nat.reduceEqDiff, Int.reduceToNat, Int.reduceLT, Int.reduceLE, Nat.reduceSub, pl92, ft1, ft3, ft109, ft110, ft149, lims, limR, rc, r1, e1, et, r2, ltk, etn, List.length_append, List.length_nil, List.length_cons, List.nil_append, List.cons_append, concA, Int.reduceAdd, Int.reduceSub, Int.reduceNeg, Int.reduceMul, Int.reduceEq, Int.reduceBEq, Int.reduceBNe]
    refine ⟨by omega, by omega, ?_⟩
    refine (fun (hG : ∀ (f : Fr) (H : Heap), (∃ (uid ucap : Nat) (ux ux' : Bool) (us' : List Int), H[uid]? = some (.arr 1 (List.map u32E us') ux') ∧ H[0]? = some (.arr 1 (List.map u32E vs) true) ∧ H[H.length - 1]? = some (.arr 1 (List.map u32E (List.replicate (n + 1 - b.length) 0)) true) ∧ 0 < uid ∧ uid < H.length - 1 ∧ LI us' ∧ n + 1 ≤ us'.length ∧ n + 1 ≤ ucap ∧ val (us'.take (n + 1)) = val a * 2 ^ s ∧ us'.getD n default = 0 ∧ f 8 = .int .i64 s ∧ f 9 = .osl 0 1 0 b.length (b.length + 1) true ∧ f 10 = .osl uid 1 0 (n + 1) ucap ux ∧ f 11 = .int .i64 b.length ∧ f 12 = .osl (H.length - 1) 1 0 (n + 1 - b.length) (n + 1 - b.length) true ∧ f 13 = .int .i64 ((n + 1 : Nat) - (b.length : Nat) - 1)) → LoopK _ _ f H) => ⟨fun c3 => ⟨by omega, by omega, by omega, by omega, by omega, hG _ _ ?_⟩, fun c3 => ⟨by omega, by omega, by omega, by omega, hG _ _ ?_⟩⟩) ?_
    rotate_left
    · obtain rfl : n = a.length := by omega
      simp (maxSteps := 4000000) only [↓packA, ↓reduceIte, packB, pureOp, quietOp, loadOp, quietB, fr0, cellsK, implies_true, ite_true, ite_false, eq_self, ne_eq, reduceCtorEq, Nat.reduceLT, Nat.reduceLeDiff, Nat.reduceAdd, Nat.reduceMul, Nat.reduceBEq, Nat.reduceEqDiff, Int.reduceToNat, Int.reduceLT, Int.reduceLE, Nat.reduceSub, pl92, ft1, ft3, ft109, ft110, ft149, List.length_append, List.length_cons, List.length_nil]
      refine ⟨1, a.length + 1, true, true, us.take a.length ++ [0], ?_, by omega, by omega, w1, by omega, by omega, by rw [w3, u3], w4, rfl⟩
      rw [rowB, List.drop_eq_nil_of_le (by rw [List.length_map]; omega), List.append_nil]
      rfl
    · obtain rfl : n = a.length + 1 := by omega
      simp (maxSteps := 4000000) only [↓packA, ↓reduceIte, packB, pureOp, quietOp, loadOp, quietB, fr0, cellsK, implies_true, ite_true, ite_false, eq_self, ne_eq, reduceCtorEq, Nat.reduceLT, Nat.reduceLeDiff, Nat.reduceAdd, Nat.reduceMul, Nat.reduceBEq, Nat.reduceEqDiff, Int.reduceToNat, Int.reduceLT, Int.reduceLE, Nat.reduceSub, pl92, ft1, ft3, ft109, ft110, ft149, List.length_append, List.length_cons, List.length_nil]
      refine ⟨3, a.length + 1 + 1, false, false, us.take (a.length + 1) ++ [0], ?_, by omega, by omega, w1, by omega, by omega, by rw [w3, u3], w4, rfl⟩
      rw [rowB]
      rfl
    clear rowB w1 w2 w3 w4 ltk u3 huv hul huL
    clear us
    rintro f H ⟨uid, ucap, ux, ux', us, hU, hV, hQ, hu0, huH, huL, hul, hcap, huv, hutop, f8, f9, f10, f11, f12, f13⟩
    have hHl : H.length - 1 < H.length := (List.getElem?_eq_some_iff.1 hQ).1
    generalize hqid : H.length - 1 = qid at *
    have hB : (0 : Int) ≤ 4294967296 := by decide
    have eV : wv vs 0 b.length = val b * 2 ^ s := by unfold wv; rw [List.drop_zero]; exact v3
    have bV := wv_bound hvL (j := 0) (n := b.length)
    have hV0 : 0 < wv vs 0 b.length := by
      have h1 := val_take_next (l := vs) (k := m + 1)
      have h2 := val_bound (hvL.take (m + 1))
      have h3 : (0 : Int) < 4294967296 ^ (m + 1) * vs.getD (m + 1) default := Int.mul_pos bpos (by omega)
      unfold wv
      rw [List.drop_zero, em, h1]
      omega
    have loV : (4294967296 : Int) ^ (m + 1) ≤ wv vs 0 b.length := by
      have h1 := val_take_next (l := vs) (k := m + 1)
      have h2 := val_bound (hvL.take (m + 1))
      have h3 : (4294967296 : Int) ^ (m + 1) * 1 ≤ 4294967296 ^ (m + 1) * vs.getD (m + 1) default := Int.mul_le_mul_of_nonneg_left (by omega) (Int.le_of_lt bpos)
      unfold wv
      rw [List.drop_zero, em, h1]
      omega
    refine LoopK.intro (fun x w g => ∃ (k : Nat) (us qs : List Int), x = k ∧ k ≤ n + 1 - b.length ∧ g.length = H.length ∧ g[uid]? = some (.arr 1 (List.map u32E us) ux') ∧ g[0]? = some (.arr 1 (List.map u32E vs) true) ∧ g[qid]? = some (.arr 1 (List.map u32E qs) true) ∧ LI us ∧ n + 1 ≤ us.length ∧ LI qs ∧ qs.length = n + 1 - b.length ∧ val a * 2 ^ s = val (us.take k) + 4294967296 ^ k * (wv us k b.length + val (qs.drop k) * wv vs 0 b.length) ∧ wv us k b.length < wv vs 0 b.length ∧ w 8 = .int .i64 s ∧ w 9 = .osl 0 1 0 b.length (b.length + 1) true ∧ w 10 = .osl uid 1 0 (n + 1) ucap ux ∧ w 11 = .int .i64 b.length ∧ w 12 = .osl qid 1 0 (n + 1 - b.length) (n + 1 - b.length) true ∧ w 13 = .int .i64 ((k : Int) - 1)) (n + 1 - b.length) ⟨n + 1 - b.length, us, List.replicate (n + 1 - b.length) 0, rfl, Nat.le_refl _, rfl, hU, hV, hQ, huL, hul, LI.rep, by simp, ?_, ?_, f8, f9, f10, f11, f12, by rw [f13]; congr 1; omega⟩ ?_
    · have h1 := val_take_add (l := us) (k := n + 1 - b.length) b.length
      rw [show n + 1 - b.length + b.length = n + 1 by omega, huv] at h1
      rw [h1, List.drop_of_length_le (by simp)]
      simp [val]
    · have h1 := wv_succ (es := us) (j := n + 1 - b.length) (n := m + 1)
      have h2 := wv_bound huL (j := n + 1 - b.length) (n := m + 1)
      rw [show n + 1 - b.length + (m + 1) = n by omega, hutop, show m + 1 + 1 = b.length by omega] at h1
      omega
    clear f8 f9 f10 f11 f12 f13 f hU hV hQ huL hul huv hutop us
    rintro k w g ⟨_, us, qs, rfl, hk, hgl, hU, hV, hQ, huL, hul, hqL, hql, hval, hlt, f8, f9, f10, f11, f12, f13⟩
    by_cases c : 0 < k
    · obtain ⟨i, rfl⟩ : ∃ i, k = i + 1 := ⟨k - 1, by omega⟩
      have r2 : (i : Int) ≥ 0 := by omega
      have ei : ((i + 1 : Nat) : Int) - 1 = i := by omega
      have ej : (i : Int) + b.length + 1 = ((i + b.length + 1 : Nat) : Int) := by omega
      have r3 : i < ucap := by omega
      have es1 : i + b.length + 1 - i = b.length + 1 := by omega
      simp (maxSteps := 4000000) only [↓packA, ↓reduceIte, packB, pureOp, quietOp, loadOp, quietB, fr0, cellsK, implies_true, ite_true, ite_false, eq_self, ne_eq, reduceCtorEq, Nat.reduceLT, Nat.reduceLeDiff, Nat.reduceAdd, Nat.reduceMul, Nat.reduceBEq, Nat.reduceEqDiff, Int.reduceToNat, Int.reduceLT, Int.reduceLE, Nat.reduceSub, pl92, ft1, ft3, ft109, ft110, ft149, limR, f8, f9, f10, f11, f12, f13, hU, hV, hQ, ei, r2, ej, r3, es1]
      refine ⟨by omega, by omega, by omega, by omega, ?_⟩
      have hui : ∀ X, (g.set uid X)[qid]? = some (.arr 1 (List.map u32E qs) true) := fun X => by rw [List.getElem?_set_ne (by omega)]; exact hQ
      have hgl2 : uid < g.length := by omega
      have hd := wv_head (es := us) (j := i) b.length
      have hx := huL.get (i := i)
      refine digit_o hU hV (by omega) huL hvL (by omega) (by omega) (by omega) (by omega) (by rw [em]; exact v2) (by omega) fun us' q hl' hL' hsame hq hqe hql' => ?_
      simp (maxSteps := 4000000) only [↓packA, ↓reduceIte, packB, pureOp, quietOp, loadOp, quietB, fr0, cellsK, implies_true, ite_true, ite_false, eq_self, ne_eq, reduceCtorEq, Nat.reduceLT, Nat.reduceLeDiff, Nat.reduceAdd, Nat.reduceMul, Nat.reduceBEq, Nat.reduceEqDiff, Int.reduceToNat, Int.reduceLT, Int.reduceLE, Nat.reduceSub, pl92, ft1, ft3, ft109, ft110, ft149, limR, f8, f9, f10, f11, f12, f13, hU, hV, hQ, ei, r2, ej, r3, es1, hui]
      have e2 : wv us' i (b.length + 1) = wv us' i b.length := by
        have h1 := wv_succ (es := us') (j := i) (n := b.length)
        have h2 := hL'.get (i := i + b.length)
        have h3 := wv_bound hL' (j := i) (n := b.length)
        have : us'.getD (i + b.length) default = 0 := by
          apply Classical.byContradiction
          intro hc
          have : (4294967296 : Int) ^ b.length * 1 ≤ 4294967296 ^ b.length * us'.getD (i + b.length) default := Int.mul_le_mul_of_nonneg_left (by omega) (by omega)
          omega
        rw [this] at h1
        omega
      refine ⟨by omega, by omega, by omega, .inl ⟨i, by omega, i, us', qs.set i q, rfl, by omega, by exact hgl, ?_, ?_, ?_, hL', by omega, hqL.set hq, by rw [List.length_set]; exact hql, ?_, ?_⟩⟩
      · rw [List.getElem?_set_ne (by omega), List.getElem?_set_self hgl2]
      · rw [List.getElem?_set_ne (by omega), List.getElem?_set_ne (by omega)]; exact hV
      · rw [List.getElem?_set_self (by rw [List.length_set]; omega)]
      · have e1 : val (us'.take i) = val (us.take i) := val_take_same i fun k hk => hsame k (by omega)
        rw [val_drop (l := qs.set i q) (k := i) (by rw [List.length_set]; omega), drop_set (by omega), getD_setI (by omega), e1]
        rw [Int.pow_succ, val_take_next] at hval
        exact dm_step hval (by omega)
      · exact ⟨by omega, rfl⟩
    · obtain rfl : k = 0 := by omega
      simp (maxSteps := 4000000) only [↓packA, ↓reduceIte, packB, pureOp, quietOp, loadOp, quietB, fr0, cellsK, implies_true, ite_true, ite_false, eq_self, ne_eq, reduceCtorEq, Nat.reduceLT, Nat.reduceLeDiff, Nat.reduceAdd, Nat.reduceMul, Nat.reduceBEq, Nat.reduceEqDiff, Int.reduceToNat, Int.reduceLT, Int.reduceLE, Nat.reduceSub, pl92, ft1, ft3, ft109, ft110, ft149, limR, f8, f9, f10, f11, f12, f13, hU, hV, hQ, concA, Int.reduceAdd, Int.reduceSub, Int.reduceNeg, Int.reduceMul, Int.reduceEq, Int.reduceBEq, Int.reduceBNe]
      refine ⟨by omega, by omega, trim_o hQ (by omega) (Nat.le_refl _) (by omega) ?_⟩
      simp (maxSteps := 4000000) only [↓packA, ↓reduceIte, packB, pureOp, quietOp, loadOp, quietB, fr0, cellsK, implies_true, ite_true, ite_false, eq_self, ne_eq, reduceCtorEq, Nat.reduceLT, Nat.reduceLeDiff, Nat.reduceAdd, Nat.reduceMul, Nat.reduceBEq, Nat.reduceEqDiff, Int.reduceToNat, Int.reduceLT, Int.reduceLE, Nat.reduceSub, pl92, ft1, ft3, ft109, ft110, ft149, limR, f8, f9, f10, f11, f12, f13, hU, hV, hQ, concA, Int.reduceAdd, Int.reduceSub, Int.reduceNeg, Int.reduceMul, Int.reduceEq, Int.reduceBEq, Int.reduceBNe]
      refine trim_o hU (by omega) (by omega) (by omega) ?_
      simp (maxSteps := 4000000) only [↓packA, ↓reduceIte, packB, pureOp, quietOp, loadOp, quietB, fr0, cellsK, implies_true, ite_true, ite_false, eq_self, ne_eq, reduceCtorEq, Nat.reduceLT, Nat.reduceLeDiff, Nat.reduceAdd, Nat.reduceMul, Nat.reduceBEq, Nat.reduceEqDiff, Int.reduceToNat, Int.reduceLT, Int.reduceLE, Nat.reduceSub, pl92, ft1, ft3, ft109, ft110, ft149, limR, f8, f9, f10, f11, f12, f13, hU, hV, hQ, concA, Int.reduceAdd, Int.reduceSub, Int.reduceNeg, Int.reduceMul, Int.reduceEq, Int.reduceBEq, Int.reduceBNe]
      have htl := trmN_le (l := us) b.length
      have htv := trmN_val (l := us) b.length (by omega)
      refine half_o hU huL (by omega) (by omega) s b1 fun rs hrl hrL hrv => ?_
      simp (maxSteps := 4000000) only [↓packA, ↓reduceIte, packB, pureOp, quietOp, loadOp, quietB, fr0, cellsK, implies_true, ite_true, ite_false, eq_self, ne_eq, reduceCtorEq, Nat.reduceLT, Nat.reduceLeDiff, Nat.reduceAdd, Nat.reduceMul, Nat.reduceBEq, Nat.reduceEqDiff, Int.reduceToNat, Int.reduceLT, Int.reduceLE, Nat.reduceSub, pl92, ft1, ft3, ft109, ft110, ft149, limR, f8, f9, f10, f11, f12, f13, hU, hV, hQ, concA, Int.reduceAdd, Int.reduceSub, Int.reduceNeg, Int.reduceMul, Int.reduceEq, Int.reduceBEq, Int.reduceBNe]
      obtain ⟨z1, z2⟩ := dm_last (T := 2 ^ s) (Int.pow_pos (by decide)) hval eV (rv := val rs) (by rw [hrv, htv]; rfl) hlt
      rw [List.drop_zero] at z1
      refine ⟨_, _, norm_take hqL (n := n + 1 - b.length) (by omega), norm_take hrL (n := trmN us b.length) (by omega), ?_, ?_, OFz.two (ofz_ext (ofz_lims hQ (trmN_le _) (by omega))) (ofz_lims (by rw [List.getElem?_append_right (Nat.le_refl _), Nat.sub_self]; rfl) (trmN_le _) (by omega))⟩
      · rw [trmN_val _ (by omega), trmN_val _ (by omega), List.take_of_length_le (by omega), List.take_of_length_le (by omega)]
        exact z1
      · rw [trmN_val _ (by omega), List.take_of_length_le (by omega)]
        exact z2
end Go.Proofs.YtclbobielhllmaaGreat
end
section
namespace Go.Proofs.YtclbobielhllmaaGreat
open Go Go.AL
set_option linter.unusedVariables false
set_option linter.unusedSimpArgs false
theorem gcd_step {A B q r : Int} (h : A = q * B + r) : Int.gcd B r = Int.gcd A B := by
  rw [show r = A - q * B by omega, Int.gcd_sub_mul_right_right, Int.gcd_comm]
theorem gcd_mod {x y : Int} : Int.gcd y (x % y) = Int.gcd x y := gcd_step (q := x / y) (by rw [Int.mul_comm]; exact (Int.mul_ediv_add_emod x y).symm)
theorem len_small {A B : List Int} (hA : Norm A) (hB : Norm B) (h : val A < val B) : A.length ≤ B.length := hA.len_le hB.1 (by omega)
set_option maxHeartbeats 16000000 in
set_option maxRecDepth 100000 in
theorem gcd_c (a b : List Int) (ha : Norm a) (hb : Norm b) (hla : a.length < 50000000) (hlb : b.length < 50000000) : ACalls Tryz.prog 80 [lims a, lims b] [] fun v h => ∃ r : List Int, Norm r ∧ val r = Int.gcd (val a) (val b) ∧ OFz h v (lims r) := by
  refine wp80 rfl rfl ?_
  have hcmp := wcmp_c a b ha hb (by omega) (by omega)
  simp (maxSteps := 4000000) only [↓packA, ↓reduceIte, packB, pureOp, quietOp, loadOp, quietB, fr0, cellsK, implies_true, ite_true, ite_false, eq_self, ne_eq, reduceCtorEq, Nat.reduceLT, Nat.reduceLeDiff, Nat.reduceAdd, Nat.reduceMul, Nat.reduceBEq, Nat.reduceEqDiff, Int.reduceToNat, Int.reduceLT, Int.reduceLE, Nat.reduceSub, pl80, ft2, ft3, ft109, ft110, ft149, lims]
  refine acalls_pure hcmp rfl ?_
  simp (maxSteps := 4000000) only [↓packA, ↓reduceIte, packB, pureOp, quietOp, loadOp, quietB, fr0, cellsK, implies_true, ite_true, ite_false, eq_self, ne_eq, reduceCtorEq, Nat.reduceLT, Nat.reduceLeDiff, Nat.reduceAdd, Nat.reduceMul, Nat.reduceBEq, Nat.reduceEqDiff, Int.reduceToNat, Int.reduceLT, Int.reduceLE, Nat.reduceSub, pl80, ft2, ft3, ft109, ft110, ft149, lims]
  refine (fun (hG : ∀ f : Fr, (∃ A B : List Int, Norm A ∧ Norm B ∧ A.length < 50000000 ∧ B.length < 50000000 ∧ val B ≤ val A ∧ Int.gcd (val A) (val B) = Int.gcd (val a) (val b) ∧ f 0 = lims A ∧ f 1 = lims B) → LoopK _ _ f []) => ⟨fun c => hG _ ?_, fun c => hG _ ?_⟩) ?_
  rotate_left
  · simp (maxSteps := 4000000) only [↓packA, ↓reduceIte, packB, pureOp, quietOp, loadOp, quietB, fr0, cellsK, implies_true, ite_true, ite_false, eq_self, ne_eq, reduceCtorEq, Nat.reduceLT, Nat.reduceLeDiff, Nat.reduceAdd, Nat.reduceMul, Nat.reduceBEq, Nat.reduceEqDiff, Int.reduceToNat, Int.reduceLT, Int.reduceLE, Nat.reduceSub, pl80, ft2, ft3, ft109, ft110, ft149, lims]
    refine ⟨b, a, hb, ha, hlb, hla, ?_, Int.gcd_comm _ _, rfl, rfl⟩
    unfold cmpV at c
    split at c
    · omega
    · split at c <;> omega
  · simp (maxSteps := 4000000) only [↓packA, ↓reduceIte, packB, pureOp, quietOp, loadOp, quietB, fr0, cellsK, implies_true, ite_true, ite_false, eq_self, ne_eq, reduceCtorEq, Nat.reduceLT, Nat.reduceLeDiff, Nat.reduceAdd, Nat.reduceMul, Nat.reduceBEq, Nat.reduceEqDiff, Int.reduceToNat, Int.reduceLT, Int.reduceLE, Nat.reduceSub, pl80, ft2, ft3, ft109, ft110, ft149, lims]
    refine ⟨a, b, ha, hb, hla, hlb, ?_, rfl, rfl, rfl⟩
    unfold cmpV at c
    split at c
    · omega
    · omega
  rintro f ⟨A, B, hA, hB, hlA, hlB, hAB, hg, f0, f1⟩
  refine LoopK.intro (fun x w g => ∃ A B : List Int, x = (val B).toNat ∧ Norm A ∧ Norm B ∧ A.length < 50000000 ∧ B.length < 50000000 ∧ val B ≤ val A ∧ Int.gcd (val A) (val B) = Int.gcd (val a) (val b) ∧ w 0 = lims A ∧ w 1 = lims B ∧ g = []) (val B).toNat ⟨A, B, rfl, hA, hB, hlA, hlB, hAB, hg, f0, f1, rfl⟩ ?_
  clear f0 f1 f hg hAB hlA hlB hA hB A B
  rintro x w g ⟨A, B, rfl, hA, hB, hlA, hlB, hAB, hg, a0, a1, rfl⟩
  have hBn := (val_bound hB.1).1
  by_cases c : 2 < B.length
  · have r1 : (B.length : Int) > 2 := by omega
    have hBp := hB.pos (by omega)
    have hst := steps_c A B hA hB (by omega) (by omega) hAB hBp
    simp (maxSteps := 4000000) only [↓packA, ↓reduceIte, packB, pureOp, quietOp, loadOp, quietB, fr0, cellsK, implies_true, ite_true, ite_false, eq_self, ne_eq, reduceCtorEq, Nat.reduceLT, Nat.reduceLeDiff, Nat.reduceAdd, Nat.reduceMul, Nat.reduceBEq, Nat.reduceEqDiff, Int.reduceToNat, Int.reduceLT, Int.reduceLE, Nat.reduceSub, pl80, ft2, ft3, ft109, ft110, ft149, lims, a0, a1, r1]
    refine hst.mono' ?_
    rintro _ _ ⟨rfl, p, q, r, s, rfl, hS⟩
    by_cases c2 : q = 0
    · subst c2
      have hdm := divmod_c A B hA hB (by omega) hAB hlA
      simp (maxSteps := 4000000) only [↓packA, ↓reduceIte, packB, pureOp, quietOp, loadOp, quietB, fr0, cellsK, implies_true, ite_true, ite_false, eq_self, ne_eq, reduceCtorEq, Nat.reduceLT, Nat.reduceLeDiff, Nat.reduceAdd, Nat.reduceMul, Nat.reduceBEq, Nat.reduceEqDiff, Int.reduceToNat, Int.reduceLT, Int.reduceLE, Nat.reduceSub, pl80, ft2, ft3, ft109, ft110, ft149, lims, a0, a1, r1, concA, Int.reduceAdd, Int.reduceSub, Int.reduceNeg, Int.reduceMul, Int.reduceEq, Int.reduceBEq, Int.reduceBNe]
      refine acalls_fresh hdm ?_ fun u h0 hz => ?_
      · exact .cons (.pure _ rfl) (.cons (.pure _ rfl) .nil)
      obtain ⟨qq, rr, hqq, hrr, he, hr, hz⟩ := hz
      refine ⟨_, hz, ?_⟩
      simp (maxSteps := 4000000) only [↓packA, ↓reduceIte, packB, pureOp, quietOp, loadOp, quietB, fr0, cellsK, implies_true, ite_true, ite_false, eq_self, ne_eq, reduceCtorEq, Nat.reduceLT, Nat.reduceLeDiff, Nat.reduceAdd, Nat.reduceMul, Nat.reduceBEq, Nat.reduceEqDiff, Int.reduceToNat, Int.reduceLT, Int.reduceLE, Nat.reduceSub, pl80, ft2, ft3, ft109, ft110, ft149, lims, a0, a1, r1, concA, Int.reduceAdd, Int.reduceSub, Int.reduceNeg, Int.reduceMul, Int.reduceEq, Int.reduceBEq, Int.reduceBNe]
      exact .inl ⟨(val rr).toNat, by omega, B, rr, rfl, hB, hrr, hlB, by have := len_small hrr hB hr; omega, by omega, by rw [gcd_step he]; exact hg, rfl, rfl⟩
    · rcases hS with hS | ⟨s1, s2, s3, s4, s5, s6⟩
      · exact absurd hS c2
      have hlBA := hB.len_le hA.1 hAB
      have hbA := val_bound hA.1
      have hp : (4294967296 : Int) ^ A.length ≤ 4294967296 ^ (A.length + 1) := bmono (by omega)
      have hm1 := mixed_c A B hA.1 hB.1 (by omega) hlBA p q s1 (by omega) (by omega)
      have hm2 := mixed_c A B hA.1 hB.1 (by omega) hlBA r s s2 (by omega) (by omega)
      simp (maxSteps := 4000000) only [↓packA, ↓reduceIte, packB, pureOp, quietOp, loadOp, quietB, fr0, cellsK, implies_true, ite_true, ite_false, eq_self, ne_eq, reduceCtorEq, Nat.reduceLT, Nat.reduceLeDiff, Nat.reduceAdd, Nat.reduceMul, Nat.reduceBEq, Nat.reduceEqDiff, Int.reduceToNat, Int.reduceLT, Int.reduceLE, Nat.reduceSub, pl80, ft2, ft3, ft109, ft110, ft149, lims, a0, a1, r1, c2]
      refine acalls_fresh hm1 ?_ fun u h0 hz => ?_
      · exact .cons (.pure _ rfl) (.cons (.pure _ rfl) (.cons (.pure _ rfl) (.cons (.pure _ rfl) .nil)))
      obtain ⟨x1, hx1, hv1, hz1⟩ := hz
      refine ⟨_, hz1, ?_⟩
      simp (maxSteps := 4000000) only [↓packA, ↓reduceIte, packB, pureOp, quietOp, loadOp, quietB, fr0, cellsK, implies_true, ite_true, ite_false, eq_self, ne_eq, reduceCtorEq, Nat.reduceLT, Nat.reduceLeDiff, Nat.reduceAdd, Nat.reduceMul, Nat.reduceBEq, Nat.reduceEqDiff, Int.reduceToNat, Int.reduceLT, Int.reduceLE, Nat.reduceSub, pl80, ft2, ft3, ft109, ft110, ft149, lims, a0, a1, r1, c2]
      refine acalls_fresh hm2 ?_ fun u h0 hz => ?_
      · exact .cons (.pure _ rfl) (.cons (.pure _ rfl) (.cons (.pure _ rfl) (.cons (.pure _ rfl) .nil)))
      obtain ⟨x2, hx2, hv2, hz2⟩ := hz
      refine ⟨_, hz2, ?_⟩
      simp (maxSteps := 4000000) only [↓packA, ↓reduceIte, packB, pureOp, quietOp, loadOp, quietB, fr0, cellsK, implies_true, ite_true, ite_false, eq_self, ne_eq, reduceCtorEq, Nat.reduceLT, Nat.reduceLeDiff, Nat.reduceAdd, Nat.reduceMul, Nat.reduceBEq, Nat.reduceEqDiff, Int.reduceToNat, Int.reduceLT, Int.reduceLE, Nat.reduceSub, pl80, ft2, ft3, ft109, ft110, ft149, lims, a0, a1, r1, c2]
      have l1 := hx1.len_le hB.1 (by omega)
      have l2 := hx2.len_le hB.1 (by omega)
      exact .inl ⟨(val x2).toNat, by omega, x1, x2, rfl, hx1, hx2, by omega, by omega, by omega, by rw [hv1, hv2, s6]; exact hg, rfl, rfl⟩
  · have r1 : ¬ (B.length : Int) > 2 := by omega
    by_cases c2 : B.length = 0
    · have r2 : (B.length : Int) = 0 := by omega
      obtain rfl := List.length_eq_zero_iff.1 c2
      simp (maxSteps := 4000000) only [↓packA, ↓reduceIte, packB, pureOp, quietOp, loadOp, quietB, fr0, cellsK, implies_true, ite_true, ite_false, eq_self, ne_eq, reduceCtorEq, Nat.reduceLT, Nat.reduceLeDiff, Nat.reduceAdd, Nat.reduceMul, Nat.reduceBEq, Nat.reduceEqDiff, Int.reduceToNat, Int.reduceLT, Int.reduceLE, Nat.reduceSub, pl80, ft2, ft3, ft109, ft110, ft149, lims, a0, a1, r1, r2, concA, Int.reduceAdd, Int.reduceSub, Int.reduceNeg, Int.reduceMul, Int.reduceEq, Int.reduceBEq, Int.reduceBNe]
      have hgA : val A = Int.gcd (val a) (val b) := by
        rw [← hg, show val ([] : List Int) = 0 from rfl, Int.gcd_zero_right, Int.natAbs_of_nonneg (val_bound hA.1).1]
      cases hAc : A with
      | nil =>
        subst hAc
        rw [List.map_nil]
        unfold apK
        refine ⟨by decide, fun _ => ?_, fun h => absurd rfl h⟩
        simp (maxSteps := 4000000) only [↓packA, ↓reduceIte, packB, pureOp, quietOp, loadOp, quietB, fr0, cellsK, implies_true, ite_true, ite_false, eq_self, ne_eq, reduceCtorEq, Nat.reduceLT, Nat.reduceLeDiff, Nat.reduceAdd, Nat.reduceMul, Nat.reduceBEq, Nat.reduceEqDiff, Int.reduceToNat, Int.reduceLT, Int.reduceLE, Nat.reduceSub, pl80, ft2, ft3, ft109, ft110, ft149, concA, Int.reduceAdd, Int.reduceSub, Int.reduceNeg, Int.reduceMul, Int.reduceEq, Int.reduceBEq, Int.reduceBNe]
        exact ⟨[], hB, hgA, .nils 1⟩
      | cons y ys =>
        have eA : List.map u32E (y :: ys) = List.map u32E A := by rw [hAc]
        have lA : (List.map u32E A).length = A.length := List.length_map ..
        rw [List.map_cons]
        simp (maxSteps := 4000000) only [↓packA, ↓reduceIte, packB, pureOp, quietOp, loadOp, quietB, fr0, cellsK, implies_true, ite_true, ite_false, eq_self, ne_eq, reduceCtorEq, Nat.reduceLT, Nat.reduceLeDiff, Nat.reduceAdd, Nat.reduceMul, Nat.reduceBEq, Nat.reduceEqDiff, Int.reduceToNat, Int.reduceLT, Int.reduceLE, Nat.reduceSub, pl80, ft2, ft3, ft109, ft110, ft149, concA, Int.reduceAdd, Int.reduceSub, Int.reduceNeg, Int.reduceMul, Int.reduceEq, Int.reduceBEq, Int.reduceBNe]
        have lA2 : A.length = ys.length + 1 := by rw [hAc]; rfl
        have hz := ofz_lims (h := [Ob.arr 1 (List.map u32E A) false]) (id := 0) (len := ys.length + 1) (cap := ys.length + 1) (n := A.length) (ex := false) (ex' := false) (es := A) rfl (by omega) (Nat.le_refl _)
        rw [← lA2, List.take_length] at hz
        refine ⟨by omega, A, hA, hgA, ?_⟩
        rw [← lA2, ← List.map_cons, eA]
        exact hz
    · have r2 : ¬ (B.length : Int) = 0 := by omega
      have hdm := divmod_c A B hA hB (by omega) hAB hlA
      simp (maxSteps := 4000000) only [↓packA, ↓reduceIte, packB, pureOp, quietOp, loadOp, quietB, fr0, cellsK, implies_true, ite_true, ite_false, eq_self, ne_eq, reduceCtorEq, Nat.reduceLT, Nat.reduceLeDiff, Nat.reduceAdd, Nat.reduceMul, Nat.reduceBEq, Nat.reduceEqDiff, Int.reduceToNat, Int.reduceLT, Int.reduceLE, Nat.reduceSub, pl80, ft2, ft3, ft109, ft110, ft149, lims, a0, a1, r1, r2]
      refine acalls_fresh hdm ?_ fun u h0 hz => ?_
      · exact .cons (.pure _ rfl) (.cons (.pure _ rfl) .nil)
      obtain ⟨qq, rr, hqq, hrr, he, hr, hz⟩ := hz
      refine ⟨_, hz, ?_⟩
      have l2 := len_small hrr hB hr
      have lo1 := low_c B hB.1 (by omega)
      have lo2 := low_c rr hrr.1 (by omega)
      simp (maxSteps := 4000000) only [↓packA, ↓reduceIte, packB, pureOp, quietOp, loadOp, quietB, fr0, cellsK, implies_true, ite_true, ite_false, eq_self, ne_eq, reduceCtorEq, Nat.reduceLT, Nat.reduceLeDiff, Nat.reduceAdd, Nat.reduceMul, Nat.reduceBEq, Nat.reduceEqDiff, Int.reduceToNat, Int.reduceLT, Int.reduceLE, Nat.reduceSub, pl80, ft2, ft3, ft109, ft110, ft149, lims, a0, a1, r1, r2]
      refine acalls_pure lo1 rfl ?_
      simp (maxSteps := 4000000) only [↓packA, ↓reduceIte, packB, pureOp, quietOp, loadOp, quietB, fr0, cellsK, implies_true, ite_true, ite_false, eq_self, ne_eq, reduceCtorEq, Nat.reduceLT, Nat.reduceLeDiff, Nat.reduceAdd, Nat.reduceMul, Nat.reduceBEq, Nat.reduceEqDiff, Int.reduceToNat, Int.reduceLT, Int.reduceLE, Nat.reduceSub, pl80, ft2, ft3, ft109, ft110, ft149, lims, a0, a1, r1, r2]
      refine acalls_pure lo2 rfl ?_
      simp (maxSteps := 4000000) only [↓packA, ↓reduceIte, packB, pureOp, quietOp, loadOp, quietB, fr0, cellsK, implies_true, ite_true, ite_false, eq_self, ne_eq, reduceCtorEq, Nat.reduceLT, Nat.reduceLeDiff, Nat.reduceAdd, Nat.reduceMul, Nat.reduceBEq, Nat.reduceEqDiff, Int.reduceToNat, Int.reduceLT, Int.reduceLE, Nat.reduceSub, pl80, ft2, ft3, ft109, ft110, ft149, lims, a0, a1, r1, r2]
      have bB := val_bound hB.1
      have bB2 : (4294967296 : Int) ^ B.length ≤ 4294967296 ^ 2 := bmono (by omega)
      have hrn := (val_bound hrr.1).1
      refine LoopK.intro (fun x w g => ∃ m n : Int, x = n.toNat ∧ w 13 = .int .u64 m ∧ w 14 = .int .u64 n ∧ (0 ≤ m ∧ m < 18446744073709551616) ∧ (0 ≤ n ∧ n < 18446744073709551616) ∧ Int.gcd m n = Int.gcd (val a) (val b) ∧ g = []) (val rr).toNat ⟨val B, val rr, rfl, ?_, ?_, by omega, by omega, by rw [gcd_step he]; exact hg, rfl⟩ ?_
      · simp (maxSteps := 4000000) only [↓packA, ↓reduceIte, packB, pureOp, quietOp, loadOp, quietB, fr0, cellsK, implies_true, ite_true, ite_false, eq_self, ne_eq, reduceCtorEq, Nat.reduceLT, Nat.reduceLeDiff, Nat.reduceAdd, Nat.reduceMul, Nat.reduceBEq, Nat.reduceEqDiff, Int.reduceToNat, Int.reduceLT, Int.reduceLE, Nat.reduceSub, pl80, ft2, ft3, ft109, ft110, ft149]
      · simp (maxSteps := 4000000) only [↓packA, ↓reduceIte, packB, pureOp, quietOp, loadOp, quietB, fr0, cellsK, implies_true, ite_true, ite_false, eq_self, ne_eq, reduceCtorEq, Nat.reduceLT, Nat.reduceLeDiff, Nat.reduceAdd, Nat.reduceMul, Nat.reduceBEq, Nat.reduceEqDiff, Int.reduceToNat, Int.reduceLT, Int.reduceLE, Nat.reduceSub, pl80, ft2, ft3, ft109, ft110, ft149]
      clear a0 a1 w
      rintro x w g ⟨m, n, rfl, a13, a14, hm, hn, hgg, rfl⟩
      by_cases c3 : 0 < n
      · have r3 : n > 0 := c3
        have em : m.tmod n = m % n := Int.tmod_eq_emod_of_nonneg hm.1
        have l3 := Int.emod_lt_of_pos m c3
        have l4 := Int.emod_nonneg m (show n ≠ 0 by omega)
        have w3 : IntKind.u64.wrap (m % n) = m % n := w64 l4 (by omega)
        simp (maxSteps := 4000000) only [↓packA, ↓reduceIte, packB, pureOp, quietOp, loadOp, quietB, fr0, cellsK, implies_true, ite_true, ite_false, eq_self, ne_eq, reduceCtorEq, Nat.reduceLT, Nat.reduceLeDiff, Nat.reduceAdd, Nat.reduceMul, Nat.reduceBEq, Nat.reduceEqDiff, Int.reduceToNat, Int.reduceLT, Int.reduceLE, Nat.reduceSub, pl80, ft2, ft3, ft109, ft110, ft149, a13, a14, r3, em, w3]
        exact ⟨by omega, .inl ⟨(m % n).toNat, by omega, n, m % n, rfl, rfl, rfl, by omega, by omega, by rw [gcd_mod]; exact hgg⟩⟩
      · have r3 : ¬ n > 0 := c3
        simp (maxSteps := 4000000) only [↓packA, ↓reduceIte, packB, pureOp, quietOp, loadOp, quietB, fr0, cellsK, implies_true, ite_true, ite_false, eq_self, ne_eq, reduceCtorEq, Nat.reduceLT, Nat.reduceLeDiff, Nat.reduceAdd, Nat.reduceMul, Nat.reduceBEq, Nat.reduceEqDiff, Int.reduceToNat, Int.reduceLT, Int.reduceLE, Nat.reduceSub, pl80, ft2, ft3, ft109, ft110, ft149, a13, a14, r3]
        refine of_c m hm fun es hl hL hv => ?_
        simp (maxSteps := 4000000) only [↓packA, ↓reduceIte, packB, pureOp, quietOp, loadOp, quietB, fr0, cellsK, implies_true, ite_true, ite_false, eq_self, ne_eq, reduceCtorEq, Nat.reduceLT, Nat.reduceLeDiff, Nat.reduceAdd, Nat.reduceMul, Nat.reduceBEq, Nat.reduceEqDiff, Int.reduceToNat, Int.reduceLT, Int.reduceLE, Nat.reduceSub, pl80, ft2, ft3, ft109, ft110, ft149, a13, a14, r3]
        refine ⟨es.take (trmN es 2), norm_take hL (by omega), ?_, ofz_lims rfl (trmN_le _) (by omega)⟩
        rw [trmN_val _ (by omega), List.take_of_length_le (by omega), hv, ← hgg, show n = 0 by omega, Int.gcd_zero_right, Int.natAbs_of_nonneg hm.1]
end Go.Proofs.YtclbobielhllmaaGreat
end
section
namespace Go.Proofs.YtclbobielhllmaaGreat
open Go Go.AL
set_option linter.unusedVariables false
set_option linter.unusedSimpArgs false
def natB (l : List Int) : Bool := decide (l.length ≤ 2048 ∧ (l.length = 0 ∨ l.getD (l.length - 1) default ≠ 0))
theorem natB_norm {l : List Int} (hl : LI l) (h : natB l = true) : Norm l ∧ l.length ≤ 2048 := by
  obtain ⟨h1, h2⟩ := of_decide_eq_true h
  exact ⟨⟨hl, fun h0 => by omega⟩, h1⟩
def ratV (neg : Bool) (num den : List Int) : AV := .agg [.bool neg, lims num, lims den]
def mayB (neg : Bool) (num den : List Int) : Bool := natB num && natB den && decide (0 < den.length) && (if num.length = 0 then decide (den = [1]) && !neg else decide (Int.gcd (val num) (val den) = 1))
set_option maxHeartbeats 4000000 in
set_option maxRecDepth 100000 in
theorem may_c (neg : Bool) (num den : List Int) (hn : LI num) (hd : LI den) (hln : num.length < 100000000) (hld : den.length < 100000000) : APure Tryz.prog 69 [ratV neg num den] (.bool (mayB neg num den)) := by
  refine apure_of (wp69 rfl rfl ?_)
  have p1 := maynat_c num (by omega)
  have p2 := maynat_c den (by omega)
  have p3 := one_c den
  simp (maxSteps := 4000000) only [↓packA, ↓reduceIte, packB, pureOp, quietOp, loadOp, quietB, fr0, cellsK, implies_true, ite_true, ite_false, eq_self, ne_eq, reduceCtorEq, Nat.reduceLT, Nat.reduceLeDiff, Nat.reduceAdd, Nat.reduceMul, Nat.reduceBEq, Nat.reduceEqDiff, Int.reduceToNat, Int.reduceLT, Int.reduceLE, Nat.reduceSub, pl69, ft1, ft2, ft3, ft4, ft59, ft61, ft109, ft149, ratV, lims]
  refine acalls_pure p1 rfl ?_
  rw [show decide (num.length ≤ 2048 ∧ (num.length = 0 ∨ num.getD (num.length - 1) default ≠ 0)) = natB num from rfl]
  cases h1 : natB num
  · simp (maxSteps := 4000000) only [↓packA, ↓reduceIte, packB, pureOp, quietOp, loadOp, quietB, fr0, cellsK, implies_true, ite_true, ite_false, eq_self, ne_eq, reduceCtorEq, Nat.reduceLT, Nat.reduceLeDiff, Nat.reduceAdd, Nat.reduceMul, Nat.reduceBEq, Nat.reduceEqDiff, Int.reduceToNat, Int.reduceLT, Int.reduceLE, Nat.reduceSub, pl69, ft1, ft2, ft3, ft4, ft59, ft61, ft109, ft149, ratV, lims]
    rw [show mayB neg num den = false by simp [mayB, h1]]
    exact .pure _ rfl
  simp (maxSteps := 4000000) only [↓packA, ↓reduceIte, packB, pureOp, quietOp, loadOp, quietB, fr0, cellsK, implies_true, ite_true, ite_false, eq_self, ne_eq, reduceCtorEq, Nat.reduceLT, Nat.reduceLeDiff, Nat.reduceAdd, Nat.reduceMul, Nat.reduceBEq, Nat.reduceEqDiff, Int.reduceToNat, Int.reduceLT, Int.reduceLE, Nat.reduceSub, pl69, ft1, ft2, ft3, ft4, ft59, ft61, ft109, ft149, ratV, lims]
  refine acalls_pure p2 rfl ?_
  rw [show decide (den.length ≤ 2048 ∧ (den.length = 0 ∨ den.getD (den.length - 1) default ≠ 0)) = natB den from rfl]
  cases h2 : natB den
  · simp (maxSteps := 4000000) only [↓packA, ↓reduceIte, packB, pureOp, quietOp, loadOp, quietB, fr0, cellsK, implies_true, ite_true, ite_false, eq_self, ne_eq, reduceCtorEq, Nat.reduceLT, Nat.reduceLeDiff, Nat.reduceAdd, Nat.reduceMul, Nat.reduceBEq, Nat.reduceEqDiff, Int.reduceToNat, Int.reduceLT, Int.reduceLE, Nat.reduceSub, pl69, ft1, ft2, ft3, ft4, ft59, ft61, ft109, ft149, ratV, lims]
    rw [show mayB neg num den = false by simp [mayB, h2]]
    exact .pure _ rfl
  obtain ⟨nn, ln⟩ := natB_norm hn h1
  obtain ⟨nd, ld⟩ := natB_norm hd h2
  by_cases c1 : den.length = 0
  · have r1 : (den.length : Int) = 0 := by omega
    simp (maxSteps := 4000000) only [↓packA, ↓reduceIte, packB, pureOp, quietOp, loadOp, quietB, fr0, cellsK, implies_true, ite_true, ite_false, eq_self, ne_eq, reduceCtorEq, Nat.reduceLT, Nat.reduceLeDiff, Nat.reduceAdd, Nat.reduceMul, Nat.reduceBEq, Nat.reduceEqDiff, Int.reduceToNat, Int.reduceLT, Int.reduceLE, Nat.reduceSub, pl69, ft1, ft2, ft3, ft4, ft59, ft61, ft109, ft149, ratV, lims, r1]
    rw [show mayB neg num den = false by simp [mayB, c1]]
    exact .pure _ rfl
  have r1 : ¬ (den.length : Int) = 0 := by omega
  by_cases c2 : num.length = 0
  · have r2 : (num.length : Int) = 0 := by omega
    simp (maxSteps := 4000000) only [↓packA, ↓reduceIte, packB, pureOp, quietOp, loadOp, quietB, fr0, cellsK, implies_true, ite_true, ite_false, eq_self, ne_eq, reduceCtorEq, Nat.reduceLT, Nat.reduceLeDiff, Nat.reduceAdd, Nat.reduceMul, Nat.reduceBEq, Nat.reduceEqDiff, Int.reduceToNat, Int.reduceLT, Int.reduceLE, Nat.reduceSub, pl69, ft1, ft2, ft3, ft4, ft59, ft61, ft109, ft149, ratV, lims, r1, r2, concA, Int.reduceAdd, Int.reduceSub, Int.reduceNeg, Int.reduceMul, Int.reduceEq, Int.reduceBEq, Int.reduceBNe]
    refine acalls_pure p3 rfl ?_
    cases h3 : decide (den = [1])
    · simp (maxSteps := 4000000) only [↓packA, ↓reduceIte, packB, pureOp, quietOp, loadOp, quietB, fr0, cellsK, implies_true, ite_true, ite_false, eq_self, ne_eq, reduceCtorEq, Nat.reduceLT, Nat.reduceLeDiff, Nat.reduceAdd, Nat.reduceMul, Nat.reduceBEq, Nat.reduceEqDiff, Int.reduceToNat, Int.reduceLT, Int.reduceLE, Nat.reduceSub, pl69, ft1, ft2, ft3, ft4, ft59, ft61, ft109, ft149, ratV, lims, r1, r2, concA, Int.reduceAdd, Int.reduceSub, Int.reduceNeg, Int.reduceMul, Int.reduceEq, Int.reduceBEq, Int.reduceBNe]
      rw [show mayB neg num den = false by simp [mayB, c2, h3]]
      exact .pure _ rfl
    · simp (maxSteps := 4000000) only [↓packA, ↓reduceIte, packB, pureOp, quietOp, loadOp, quietB, fr0, cellsK, implies_true, ite_true, ite_false, eq_self, ne_eq, reduceCtorEq, Nat.reduceLT, Nat.reduceLeDiff, Nat.reduceAdd, Nat.reduceMul, Nat.reduceBEq, Nat.reduceEqDiff, Int.reduceToNat, Int.reduceLT, Int.reduceLE, Nat.reduceSub, pl69, ft1, ft2, ft3, ft4, ft59, ft61, ft109, ft149, ratV, lims, r1, r2, concA, Int.reduceAdd, Int.reduceSub, Int.reduceNeg, Int.reduceMul, Int.reduceEq, Int.reduceBEq, Int.reduceBNe]
      rw [show mayB neg num den = !neg by simp [mayB, c2, h3, h1, h2]; omega]
      exact .pure _ rfl
  have r2 : ¬ (num.length : Int) = 0 := by omega
  have hm : mayB neg num den = decide (Int.gcd (val num) (val den) = 1) := by simp [mayB, c2, h1, h2]; omega
  rw [hm]
  simp (maxSteps := 4000000) only [↓packA, ↓reduceIte, packB, pureOp, quietOp, loadOp, quietB, fr0, cellsK, implies_true, ite_true, ite_false, eq_self, ne_eq, reduceCtorEq, Nat.reduceLT, Nat.reduceLeDiff, Nat.reduceAdd, Nat.reduceMul, Nat.reduceBEq, Nat.reduceEqDiff, Int.reduceToNat, Int.reduceLT, Int.reduceLE, Nat.reduceSub, pl69, ft1, ft2, ft3, ft4, ft59, ft61, ft109, ft149, ratV, lims, r1, r2, concA, Int.reduceAdd, Int.reduceSub, Int.reduceNeg, Int.reduceMul, Int.reduceEq, Int.reduceBEq, Int.reduceBNe]
  refine acalls_pure p3 rfl ?_
  by_cases c3 : den = [1]
  · rw [decide_eq_true c3]
    simp (maxSteps := 4000000) only [↓packA, ↓reduceIte, packB, pureOp, quietOp, loadOp, quietB, fr0, cellsK, implies_true, ite_true, ite_false, eq_self, ne_eq, reduceCtorEq, Nat.reduceLT, Nat.reduceLeDiff, Nat.reduceAdd, Nat.reduceMul, Nat.reduceBEq, Nat.reduceEqDiff, Int.reduceToNat, Int.reduceLT, Int.reduceLE, Nat.reduceSub, pl69, ft1, ft2, ft3, ft4, ft59, ft61, ft109, ft149, ratV, lims, r1, r2, concA, Int.reduceAdd, Int.reduceSub, Int.reduceNeg, Int.reduceMul, Int.reduceEq, Int.reduceBEq, Int.reduceBNe]
    subst c3
    rw [decide_eq_true (by rw [val_one]; exact Int.gcd_one_right _)]
    exact .pure _ rfl
  · rw [decide_eq_false c3]
    simp (maxSteps := 4000000) only [↓packA, ↓reduceIte, packB, pureOp, quietOp, loadOp, quietB, fr0, cellsK, implies_true, ite_true, ite_false, eq_self, ne_eq, reduceCtorEq, Nat.reduceLT, Nat.reduceLeDiff, Nat.reduceAdd, Nat.reduceMul, Nat.reduceBEq, Nat.reduceEqDiff, Int.reduceToNat, Int.reduceLT, Int.reduceLE, Nat.reduceSub, pl69, ft1, ft2, ft3, ft4, ft59, ft61, ft109, ft149, ratV, lims, r1, r2, concA, Int.reduceAdd, Int.reduceSub, Int.reduceNeg, Int.reduceMul, Int.reduceEq, Int.reduceBEq, Int.reduceBNe]
    refine acalls_fresh (gcd_c num den nn nd (by omega) (by omega)) ?_ fun u h0 hz => ?_
    · exact .cons (.pure _ rfl) (.cons (.pure _ rfl) .nil)
    obtain ⟨g, hg, hv, hz⟩ := hz
    refine ⟨_, hz, ?_⟩
    simp (maxSteps := 4000000) only [↓packA, ↓reduceIte, packB, pureOp, quietOp, loadOp, quietB, fr0, cellsK, implies_true, ite_true, ite_false, eq_self, ne_eq, reduceCtorEq, Nat.reduceLT, Nat.reduceLeDiff, Nat.reduceAdd, Nat.reduceMul, Nat.reduceBEq, Nat.reduceEqDiff, Int.reduceToNat, Int.reduceLT, Int.reduceLE, Nat.reduceSub, pl69, ft1, ft2, ft3, ft4, ft59, ft61, ft109, ft149, ratV, lims, r1, r2, concA, Int.reduceAdd, Int.reduceSub, Int.reduceNeg, Int.reduceMul, Int.reduceEq, Int.reduceBEq, Int.reduceBNe]
    refine acalls_pure (one_c g) rfl ?_
    simp (maxSteps := 4000000) only [↓packA, ↓reduceIte, packB, pureOp, quietOp, loadOp, quietB, fr0, cellsK, implies_true, ite_true, ite_false, eq_self, ne_eq, reduceCtorEq, Nat.reduceLT, Nat.reduceLeDiff, Nat.reduceAdd, Nat.reduceMul, Nat.reduceBEq, Nat.reduceEqDiff, Int.reduceToNat, Int.reduceLT, Int.reduceLE, Nat.reduceSub, pl69, ft1, ft2, ft3, ft4, ft59, ft61, ft109, ft149, ratV, lims, r1, r2, concA, Int.reduceAdd, Int.reduceSub, Int.reduceNeg, Int.reduceMul, Int.reduceEq, Int.reduceBEq, Int.reduceBNe]
    rw [show decide (g = [1]) = decide (Int.gcd (val num) (val den) = 1) by
      apply decide_eq_decide.2
      constructor
      · rintro rfl
        rw [val_one] at hv
        omega
      · intro h
        rw [h] at hv
        refine hg.inj ⟨LI.cons (by omega) LI.nil, fun _ => by decide⟩ ?_
        rw [hv, val_one]
        rfl]
    exact .pure _ rfl
end Go.Proofs.YtclbobielhllmaaGreat
end
section
namespace Go.Proofs.YtclbobielhllmaaGreat
open Go Go.AL
set_option linter.unusedVariables false
set_option linter.unusedSimpArgs false
set_option maxRecDepth 100000 in
theorem norm_o {h : Heap} {id len cap : Nat} {ex ex' : Bool} {es : List Int} {Q : AV → Heap → Prop} (hid : h[id]? = some (.arr 1 (List.map u32E es) ex')) (hl : len ≤ es.length) (hc : len ≤ cap) (hb : len < 1000000000) (hq : Q (.osl id 1 0 (trmN es len) cap ex) h) : ACalls Tryz.prog 97 [.osl id 1 0 len cap ex] h Q := by
  refine wp97 rfl rfl ?_
  simp (maxSteps := 4000000) only [↓packA, ↓reduceIte, packB, pureOp, quietOp, loadOp, quietB, fr0, cellsK, implies_true, ite_true, ite_false, eq_self, ne_eq, reduceCtorEq, Nat.reduceLT, Nat.reduceLeDiff, Nat.reduceAdd, Nat.reduceMul, Nat.reduceBEq, Nat.reduceEqDiff, Int.reduceToNat, Int.reduceLT, Int.reduceLE, Nat.reduceSub, pl97, ft3, ft58, ft109]
  refine LoopK.intro (fun m a g => ∃ k : Nat, m = k + 1 ∧ k ≤ len ∧ trmN es k = trmN es len ∧ a 0 = .osl id 1 0 len cap ex ∧ a 3 = .int .i64 k ∧ g = h) (len + 1) ⟨len, rfl, Nat.le_refl _, rfl, ?_⟩ ?_
  · simp (maxSteps := 4000000) only [↓packA, ↓reduceIte, packB, pureOp, quietOp, loadOp, quietB, fr0, cellsK, implies_true, ite_true, ite_false, eq_self, ne_eq, reduceCtorEq, Nat.reduceLT, Nat.reduceLeDiff, Nat.reduceAdd, Nat.reduceMul, Nat.reduceBEq, Nat.reduceEqDiff, Int.reduceToNat, Int.reduceLT, Int.reduceLE, Nat.reduceSub, pl97, ft3, ft58, ft109]
  rintro m a g ⟨k, rfl, hk, ht, a0, a3, rfl⟩
  by_cases r : 0 < k
  · obtain ⟨k, rfl⟩ : ∃ j, k = j + 1 := ⟨k - 1, by omega⟩
    have r1 : ((k + 1 : Nat) : Int) > 0 := by omega
    have e1 : (((k + 1 : Nat) : Int) - 1).toNat = k := by omega
    by_cases c : es.getD k default = 0
    · simp (maxSteps := 4000000) only [↓packA, ↓reduceIte, packB, pureOp, quietOp, loadOp, quietB, fr0, cellsK, implies_true, ite_true, ite_false, eq_self, ne_eq, reduceCtorEq, Nat.reduceLT, Nat.reduceLeDiff, Nat.reduceAdd, Nat.reduceMul, Nat.reduceBEq, Nat.reduceEqDiff, Int.reduceToNat, Int.reduceLT, Int.reduceLE, Nat.reduceSub, pl97, ft3, ft58, ft109, a0, a3, r1, e1, hid, limR, c]
      have e2 : trmN es (k + 1) = trmN es k := if_pos c
      exact ⟨by omega, by omega, by omega, by omega, .inl ⟨k + 1, by omega, k, rfl, by omega, by rw [← ht, e2], by omega⟩⟩
    · simp (maxSteps := 4000000) only [↓packA, ↓reduceIte, packB, pureOp, quietOp, loadOp, quietB, fr0, cellsK, implies_true, ite_true, ite_false, eq_self, ne_eq, reduceCtorEq, Nat.reduceLT, Nat.reduceLeDiff, Nat.reduceAdd, Nat.reduceMul, Nat.reduceBEq, Nat.reduceEqDiff, Int.reduceToNat, Int.reduceLT, Int.reduceLE, Nat.reduceSub, pl97, ft3, ft58, ft109, a0, a3, r1, e1, hid, limR, c]
      have e2 : trmN es (k + 1) = k + 1 := if_neg c
      rw [← ht, e2] at hq
      exact ⟨by omega, by omega, by omega, by omega, by omega, hq⟩
  · have r1 : ¬ ((k : Nat) : Int) > 0 := by omega
    simp (maxSteps := 4000000) only [↓packA, ↓reduceIte, packB, pureOp, quietOp, loadOp, quietB, fr0, cellsK, implies_true, ite_true, ite_false, eq_self, ne_eq, reduceCtorEq, Nat.reduceLT, Nat.reduceLeDiff, Nat.reduceAdd, Nat.reduceMul, Nat.reduceBEq, Nat.reduceEqDiff, Int.reduceToNat, Int.reduceLT, Int.reduceLE, Nat.reduceSub, pl97, ft3, ft58, ft109, a0, a3, r1, hid, limR]
    obtain rfl : k = 0 := by omega
    have e2 : trmN es 0 = 0 := rfl
    rw [← ht, e2] at hq
    exact ⟨by omega, by omega, hq⟩
set_option maxRecDepth 100000 in
theorem rsmall_c (l : List Int) (hl : LI l) (h2 : l.length ≤ 2) : APure Tryz.prog 87 [lims l] (.int .u64 (val l)) := by
  refine apure_of (wp87 rfl rfl ?_)
  simp (maxSteps := 4000000) only [↓packA, ↓reduceIte, packB, pureOp, quietOp, loadOp, quietB, fr0, cellsK, implies_true, ite_true, ite_false, eq_self, ne_eq, reduceCtorEq, Nat.reduceLT, Nat.reduceLeDiff, Nat.reduceAdd, Nat.reduceMul, Nat.reduceBEq, Nat.reduceEqDiff, Int.reduceToNat, Int.reduceLT, Int.reduceLE, Nat.reduceSub, pl87, ft3, ft58, ft109, ft110, ft147, lims]
  refine ⟨by omega, ?_⟩
  refine LoopK.intro (fun m w g => ∃ k : Nat, m = k + 1 ∧ k ≤ l.length ∧ w 0 = lims l ∧ w 3 = .int .u64 (val (l.drop k)) ∧ w 4 = .int .i64 ((k : Int) - 1) ∧ g = []) (l.length + 1) ⟨l.length, rfl, Nat.le_refl _, ?_⟩ ?_
  · simp (maxSteps := 4000000) only [↓packA, ↓reduceIte, packB, pureOp, quietOp, loadOp, quietB, fr0, cellsK, implies_true, ite_true, ite_false, eq_self, ne_eq, reduceCtorEq, Nat.reduceLT, Nat.reduceLeDiff, Nat.reduceAdd, Nat.reduceMul, Nat.reduceBEq, Nat.reduceEqDiff, Int.reduceToNat, Int.reduceLT, Int.reduceLE, Nat.reduceSub, pl87, ft3, ft58, ft109, ft110, ft147, lims, List.drop_length, val]
  rintro m w g ⟨k, rfl, hk, a0, a3, a4, rfl⟩
  by_cases r : 0 < k
  · obtain ⟨k, rfl⟩ : ∃ j, k = j + 1 := ⟨k - 1, by omega⟩
    have r3 : ((k + 1 : Nat) : Int) - 1 ≥ 0 := by omega
    have e1 : (((k + 1 : Nat) : Int) - 1).toNat = k := by omega
    have hx := hl.get (i := k)
    have hd := val_bound (hl.drop (k + 1))
    rw [List.length_drop] at hd
    have hd2 : (4294967296 : Int) ^ (l.length - (k + 1)) ≤ 4294967296 ^ 1 := bmono (by omega)
    have hv : 0 ≤ val (l.drop (k + 1)) ∧ val (l.drop (k + 1)) < 4294967296 := by omega
    have e := or_low (x := val (l.drop (k + 1))) (y := l.getD k default) hv.1 (by omega) hx
    have es := shl32 hv
    have ec := cu64 hx
    have ev := val_drop (l := l) (k := k) (by omega)
    simp (maxSteps := 4000000) only [↓packA, ↓reduceIte, packB, pureOp, quietOp, loadOp, quietB, fr0, cellsK, implies_true, ite_true, ite_false, eq_self, ne_eq, reduceCtorEq, Nat.reduceLT, Nat.reduceLeDiff, Nat.reduceAdd, Nat.reduceMul, Nat.reduceBEq, Nat.reduceEqDiff, Int.reduceToNat, Int.reduceLT, Int.reduceLE, Nat.reduceSub, pl87, ft3, ft58, ft109, ft110, ft147, lims, a0, a3, a4, r3, e1, limR, concA, Int.reduceAdd, Int.reduceSub, Int.reduceNeg, Int.reduceMul, Int.reduceEq, Int.reduceBEq, Int.reduceBNe, es, ec, e]
    exact ⟨by omega, by omega, .inl ⟨k + 1, by omega, k, rfl, by omega, ev.symm, by omega⟩⟩
  · have r3 : ¬ ((k : Nat) : Int) - 1 ≥ 0 := by omega
    obtain rfl : k = 0 := by omega
    simp (maxSteps := 4000000) only [↓packA, ↓reduceIte, packB, pureOp, quietOp, loadOp, quietB, fr0, cellsK, implies_true, ite_true, ite_false, eq_self, ne_eq, reduceCtorEq, Nat.reduceLT, Nat.reduceLeDiff, Nat.reduceAdd, Nat.reduceMul, Nat.reduceBEq, Nat.reduceEqDiff, Int.reduceToNat, Int.reduceLT, Int.reduceLE, Nat.reduceSub, pl87, ft3, ft58, ft109, ft110, ft147, lims, a0, a3, a4, r3, concA, Int.reduceAdd, Int.reduceSub, Int.reduceNeg, Int.reduceMul, Int.reduceEq, Int.reduceBEq, Int.reduceBNe]
    exact .pure _ rfl
set_option maxRecDepth 100000 in
theorem limbs_c (x : Int) (hx : 0 ≤ x ∧ x < 18446744073709551616) {h : Heap} {Q : AV → Heap → Prop} (hq : ∀ es, es.length = 2 → LI es → val es = x → Q (.osl h.length 1 0 (trmN es 2) 2 true) (h ++ [.arr 1 (List.map u32E es) true]) ) : ACalls Tryz.prog 85 [.int .u64 x] h Q := by
  refine wp85 rfl rfl ?_
  obtain ⟨M, hM⟩ : ∃ M, h.length = M := ⟨_, rfl⟩
  have rM : ∀ o, (h ++ [o])[M]? = some o := fun o => by rw [List.getElem?_append_right (by omega)]; simp [hM]
  have e1 : IntKind.u32.wrap x = x % 4294967296 := by rw [IntKind.wrap_u32]
  have e2 : IntKind.u32.wrap (x.fdiv (2 ^ (min 32 IntKind.u64.bits))) = x / 4294967296 := by
    rw [show min 32 IntKind.u64.bits = 32 from rfl, Int.fdiv_eq_ediv_of_nonneg _ (by decide), IntKind.wrap_u32]
    omega
  simp (maxSteps := 4000000) only [↓packA, ↓reduceIte, packB, pureOp, quietOp, loadOp, quietB, fr0, cellsK, implies_true, ite_true, ite_false, eq_self, ne_eq, reduceCtorEq, Nat.reduceLT, Nat.reduceLeDiff, Nat.reduceAdd, Nat.reduceMul, Nat.reduceBEq, Nat.reduceEqDiff, Int.reduceToNat, Int.reduceLT, Int.reduceLE, Nat.reduceSub, pl85, ft2, ft58, ft109, ft110, ft147, limR, hM, rM]
  rw [e1, e2, two_u32E]
  refine norm_o (es := [x % 4294967296, x / 4294967296]) (rM _) (by simp) (by omega) (by omega) ?_
  have hq2 := hq [x % 4294967296, x / 4294967296] rfl (LI.cons (by omega) (LI.cons (by omega) LI.nil)) (by simp only [val]; omega)
  rw [hM] at hq2
  simp (maxSteps := 4000000) only [↓packA, ↓reduceIte, packB, pureOp, quietOp, loadOp, quietB, fr0, cellsK, implies_true, ite_true, ite_false, eq_self, ne_eq, reduceCtorEq, Nat.reduceLT, Nat.reduceLeDiff, Nat.reduceAdd, Nat.reduceMul, Nat.reduceBEq, Nat.reduceEqDiff, Int.reduceToNat, Int.reduceLT, Int.reduceLE, Nat.reduceSub, pl85, ft2, ft58, ft109, ft110, ft147]
  exact hq2
def sgn (x : Int) : Int := if x < 0 then -1 else if 0 < x then 1 else 0
set_option maxRecDepth 100000 in
theorem rsign_c (x : Int) : APure Tryz.prog 98 [.int .i64 x] (.int .i64 (sgn x)) := by
  refine apure_of (wp98 rfl rfl ?_)
  by_cases c1 : x < 0
  · rw [show sgn x = -1 from if_pos c1]
    simp (maxSteps := 4000000) only [↓packA, ↓reduceIte, packB, pureOp, quietOp, loadOp, quietB, fr0, cellsK, implies_true, ite_true, ite_false, eq_self, ne_eq, reduceCtorEq, Nat.reduceLT, Nat.reduceLeDiff, Nat.reduceAdd, Nat.reduceMul, Nat.reduceBEq, Nat.reduceEqDiff, Int.reduceToNat, Int.reduceLT, Int.reduceLE, Nat.reduceSub, pl98, ft3, c1]
    exact .pure _ rfl
  · by_cases c2 : 0 < x
    · rw [show sgn x = 1 by unfold sgn; rw [if_neg c1, if_pos c2]]
      have r2 : x > 0 := c2
      simp (maxSteps := 4000000) only [↓packA, ↓reduceIte, packB, pureOp, quietOp, loadOp, quietB, fr0, cellsK, implies_true, ite_true, ite_false, eq_self, ne_eq, reduceCtorEq, Nat.reduceLT, Nat.reduceLeDiff, Nat.reduceAdd, Nat.reduceMul, Nat.reduceBEq, Nat.reduceEqDiff, Int.reduceToNat, Int.reduceLT, Int.reduceLE, Nat.reduceSub, pl98, ft3, c1, r2]
      exact .pure _ rfl
    · rw [show sgn x = 0 by unfold sgn; rw [if_neg c1, if_neg c2]]
      have r2 : ¬ x > 0 := c2
      simp (maxSteps := 4000000) only [↓packA, ↓reduceIte, packB, pureOp, quietOp, loadOp, quietB, fr0, cellsK, implies_true, ite_true, ite_false, eq_self, ne_eq, reduceCtorEq, Nat.reduceLT, Nat.reduceLeDiff, Nat.reduceAdd, Nat.reduceMul, Nat.reduceBEq, Nat.reduceEqDiff, Int.reduceToNat, Int.reduceLT, Int.reduceLE, Nat.reduceSub, pl98, ft3, c1, r2]
      exact .pure _ rfl
set_option maxRecDepth 100000 in
theorem rcmp_c (a b : List Int) (ha : Norm a) (hb : Norm b) (hla : a.length < 1000000000) (hlb : b.length < 1000000000) : APure Tryz.prog 88 [lims a, lims b] (.int .i64 (cmpV (val a) (val b))) := by
  refine apure_of (wp88 rfl rfl ?_)
  by_cases c1 : a.length < b.length
  · have r1 : ((a.length : Int) != (b.length : Int)) = true := by simp; omega
    have e : cmpV (val a) (val b) = -1 := if_pos (by
      apply Classical.byContradiction
      intro h
      have := hb.len_le ha.li (by omega)
      omega)
    rw [e]
    have hs := rsign_c ((a.length : Int) - b.length)
    rw [show sgn ((a.length : Int) - b.length) = -1 from if_pos (by omega)] at hs
    have r0 : ¬ (a.length : Int) = (b.length : Int) := by omega
    simp (maxSteps := 4000000) only [↓packA, ↓reduceIte, packB, pureOp, quietOp, loadOp, quietB, fr0, cellsK, implies_true, ite_true, ite_false, eq_self, ne_eq, reduceCtorEq, Nat.reduceLT, Nat.reduceLeDiff, Nat.reduceAdd, Nat.reduceMul, Nat.reduceBEq, Nat.reduceEqDiff, Int.reduceToNat, Int.reduceLT, Int.reduceLE, Nat.reduceSub, pl88, ft3, ft58, ft109, lims, r1, r0]
    refine ⟨by omega, acalls_pure hs rfl ?_⟩
    simp (maxSteps := 4000000) only [↓packA, ↓reduceIte, packB, pureOp, quietOp, loadOp, quietB, fr0, cellsK, implies_true, ite_true, ite_false, eq_self, ne_eq, reduceCtorEq, Nat.reduceLT, Nat.reduceLeDiff, Nat.reduceAdd, Nat.reduceMul, Nat.reduceBEq, Nat.reduceEqDiff, Int.reduceToNat, Int.reduceLT, Int.reduceLE, Nat.reduceSub, pl88, ft3, ft58, ft109, lims, r1]
    exact .pure _ rfl
  by_cases c2 : b.length < a.length
  · have r1 : ((a.length : Int) != (b.length : Int)) = true := by simp; omega
    have e : cmpV (val a) (val b) = 1 := by
      have : val b < val a := by
        apply Classical.byContradiction
        intro h
        have := ha.len_le hb.li (by omega)
        omega
      unfold cmpV
      rw [if_neg (by omega), if_pos this]
    rw [e]
    have hs := rsign_c ((a.length : Int) - b.length)
    rw [show sgn ((a.length : Int) - b.length) = 1 by unfold sgn; rw [if_neg (by omega), if_pos (by omega)]] at hs
    have r0 : ¬ (a.length : Int) = (b.length : Int) := by omega
    simp (maxSteps := 4000000) only [↓packA, ↓reduceIte, packB, pureOp, quietOp, loadOp, quietB, fr0, cellsK, implies_true, ite_true, ite_false, eq_self, ne_eq, reduceCtorEq, Nat.reduceLT, Nat.reduceLeDiff, Nat.reduceAdd, Nat.reduceMul, Nat.reduceBEq, Nat.reduceEqDiff, Int.reduceToNat, Int.reduceLT, Int.reduceLE, Nat.reduceSub, pl88, ft3, ft58, ft109, lims, r1, r0]
    refine ⟨by omega, acalls_pure hs rfl ?_⟩
    simp (maxSteps := 4000000) only [↓packA, ↓reduceIte, packB, pureOp, quietOp, loadOp, quietB, fr0, cellsK, implies_true, ite_true, ite_false, eq_self, ne_eq, reduceCtorEq, Nat.reduceLT, Nat.reduceLeDiff, Nat.reduceAdd, Nat.reduceMul, Nat.reduceBEq, Nat.reduceEqDiff, Int.reduceToNat, Int.reduceLT, Int.reduceLE, Nat.reduceSub, pl88, ft3, ft58, ft109, lims, r1]
    exact .pure _ rfl
  have hl : a.length = b.length := by omega
  have r0 : (a.length : Int) = (b.length : Int) := by omega
  simp (maxSteps := 4000000) only [↓packA, ↓reduceIte, packB, pureOp, quietOp, loadOp, quietB, fr0, cellsK, implies_true, ite_true, ite_false, eq_self, ne_eq, reduceCtorEq, Nat.reduceLT, Nat.reduceLeDiff, Nat.reduceAdd, Nat.reduceMul, Nat.reduceBEq, Nat.reduceEqDiff, Int.reduceToNat, Int.reduceLT, Int.reduceLE, Nat.reduceSub, pl88, ft3, ft58, ft109, lims, r0, bne_self_eq_false, ne_eq, not_true_eq_false, concA, Int.reduceAdd, Int.reduceSub, Int.reduceNeg, Int.reduceMul, Int.reduceEq, Int.reduceBEq, Int.reduceBNe]
  refine ⟨by omega, ?_⟩
  refine LoopK.intro (fun m w g => ∃ k : Nat, m = k + 1 ∧ k ≤ a.length ∧ a.drop k = b.drop k ∧ w 0 = lims a ∧ w 1 = lims b ∧ w 5 = .int .i64 ((k : Int) - 1) ∧ g = []) (a.length + 1) ⟨a.length, rfl, Nat.le_refl _, ?_, ?_⟩ ?_
  · rw [List.drop_length, hl, List.drop_length]
  · simp (maxSteps := 4000000) only [↓packA, ↓reduceIte, packB, pureOp, quietOp, loadOp, quietB, fr0, cellsK, implies_true, ite_true, ite_false, eq_self, ne_eq, reduceCtorEq, Nat.reduceLT, Nat.reduceLeDiff, Nat.reduceAdd, Nat.reduceMul, Nat.reduceBEq, Nat.reduceEqDiff, Int.reduceToNat, Int.reduceLT, Int.reduceLE, Nat.reduceSub, pl88, ft3, ft58, ft109, lims]
    omega
  rintro m w g ⟨k, rfl, hk, hd, a0, a1, a5, rfl⟩
  by_cases r : 0 < k
  · obtain ⟨k, rfl⟩ : ∃ j, k = j + 1 := ⟨k - 1, by omega⟩
    have r3 : ((k + 1 : Nat) : Int) - 1 ≥ 0 := by omega
    have e1 : (((k + 1 : Nat) : Int) - 1).toNat = k := by omega
    by_cases c3 : a.getD k default < b.getD k default
    · have e : cmpV (val a) (val b) = -1 := if_pos (val_lt ha.li hb.li hl (by omega) c3 hd)
      rw [e]
      simp (maxSteps := 4000000) only [↓packA, ↓reduceIte, packB, pureOp, quietOp, loadOp, quietB, fr0, cellsK, implies_true, ite_true, ite_false, eq_self, ne_eq, reduceCtorEq, Nat.reduceLT, Nat.reduceLeDiff, Nat.reduceAdd, Nat.reduceMul, Nat.reduceBEq, Nat.reduceEqDiff, Int.reduceToNat, Int.reduceLT, Int.reduceLE, Nat.reduceSub, pl88, ft3, ft58, ft109, lims, a0, a1, a5, r3, e1, limR, c3]
      exact ⟨by omega, by omega, .pure _ rfl⟩
    by_cases c4 : b.getD k default < a.getD k default
    · have hlt := val_lt hb.li ha.li hl.symm (by omega) c4 hd.symm
      have e : cmpV (val a) (val b) = 1 := by
        unfold cmpV
        rw [if_neg (by omega), if_pos hlt]
      rw [e]
      have c5 : a.getD k default > b.getD k default := c4
      simp (maxSteps := 4000000) only [↓packA, ↓reduceIte, packB, pureOp, quietOp, loadOp, quietB, fr0, cellsK, implies_true, ite_true, ite_false, eq_self, ne_eq, reduceCtorEq, Nat.reduceLT, Nat.reduceLeDiff, Nat.reduceAdd, Nat.reduceMul, Nat.reduceBEq, Nat.reduceEqDiff, Int.reduceToNat, Int.reduceLT, Int.reduceLE, Nat.reduceSub, pl88, ft3, ft58, ft109, lims, a0, a1, a5, r3, e1, limR, c3, c5]
      exact ⟨by omega, by omega, by omega, by omega, .pure _ rfl⟩
    have c5 : ¬ a.getD k default > b.getD k default := c4
    simp (maxSteps := 4000000) only [↓packA, ↓reduceIte, packB, pureOp, quietOp, loadOp, quietB, fr0, cellsK, implies_true, ite_true, ite_false, eq_self, ne_eq, reduceCtorEq, Nat.reduceLT, Nat.reduceLeDiff, Nat.reduceAdd, Nat.reduceMul, Nat.reduceBEq, Nat.reduceEqDiff, Int.reduceToNat, Int.reduceLT, Int.reduceLE, Nat.reduceSub, pl88, ft3, ft58, ft109, lims, a0, a1, a5, r3, e1, limR, c3, c5]
    have e2 : a.drop k = b.drop k := by
      rw [List.drop_eq_getElem_cons (show k < a.length by omega), List.drop_eq_getElem_cons (show k < b.length by omega), hd]
      congr 1
      have g1 : a.getD k default = a[k] := by rw [List.getD_eq_getElem?_getD, List.getElem?_eq_getElem (show k < a.length by omega)]; rfl
      have g2 : b.getD k default = b[k] := by rw [List.getD_eq_getElem?_getD, List.getElem?_eq_getElem (show k < b.length by omega)]; rfl
      omega
    exact ⟨by omega, by omega, by omega, by omega, by omega, .inl ⟨k + 1, by omega, k, rfl, by omega, e2, by omega⟩⟩
  · have r3 : ¬ ((k : Nat) : Int) - 1 ≥ 0 := by omega
    obtain rfl : k = 0 := by omega
    have : a = b := hd
    subst this
    have e : cmpV (val a) (val a) = 0 := by unfold cmpV; rw [if_neg (by omega), if_neg (by omega)]
    rw [e]
    simp (maxSteps := 4000000) only [↓packA, ↓reduceIte, packB, pureOp, quietOp, loadOp, quietB, fr0, cellsK, implies_true, ite_true, ite_false, eq_self, ne_eq, reduceCtorEq, Nat.reduceLT, Nat.reduceLeDiff, Nat.reduceAdd, Nat.reduceMul, Nat.reduceBEq, Nat.reduceEqDiff, Int.reduceToNat, Int.reduceLT, Int.reduceLE, Nat.reduceSub, pl88, ft3, ft58, ft109, lims, a0, a1, a5, r3, concA, Int.reduceAdd, Int.reduceSub, Int.reduceNeg, Int.reduceMul, Int.reduceEq, Int.reduceBEq, Int.reduceBNe]
    exact .pure _ rfl
set_option maxRecDepth 100000 in
theorem euclid_c (m n : Int) (hm : 0 ≤ m ∧ m < 18446744073709551616) (hn : 0 ≤ n ∧ n < 18446744073709551616) : APure Tryz.prog 86 [.int .u64 m, .int .u64 n] (.int .u64 (Int.gcd m n)) := by
  refine apure_of (wp86 rfl rfl ?_)
  simp (maxSteps := 4000000) only [↓packA, ↓reduceIte, packB, pureOp, quietOp, loadOp, quietB, fr0, cellsK, implies_true, ite_true, ite_false, eq_self, ne_eq, reduceCtorEq, Nat.reduceLT, Nat.reduceLeDiff, Nat.reduceAdd, Nat.reduceMul, Nat.reduceBEq, Nat.reduceEqDiff, Int.reduceToNat, Int.reduceLT, Int.reduceLE, Nat.reduceSub, pl86, ft110]
  refine LoopK.intro (fun x w g => ∃ p q : Int, x = q.toNat ∧ w 0 = .int .u64 p ∧ w 1 = .int .u64 q ∧ (0 ≤ p ∧ p < 18446744073709551616) ∧ (0 ≤ q ∧ q < 18446744073709551616) ∧ Int.gcd p q = Int.gcd m n ∧ g = []) n.toNat ⟨m, n, rfl, ?_, ?_, hm, hn, rfl, rfl⟩ ?_
  · simp (maxSteps := 4000000) only [↓packA, ↓reduceIte, packB, pureOp, quietOp, loadOp, quietB, fr0, cellsK, implies_true, ite_true, ite_false, eq_self, ne_eq, reduceCtorEq, Nat.reduceLT, Nat.reduceLeDiff, Nat.reduceAdd, Nat.reduceMul, Nat.reduceBEq, Nat.reduceEqDiff, Int.reduceToNat, Int.reduceLT, Int.reduceLE, Nat.reduceSub, pl86, ft110]
  · simp (maxSteps := 4000000) only [↓packA, ↓reduceIte, packB, pureOp, quietOp, loadOp, quietB, fr0, cellsK, implies_true, ite_true, ite_false, eq_self, ne_eq, reduceCtorEq, Nat.reduceLT, Nat.reduceLeDiff, Nat.reduceAdd, Nat.reduceMul, Nat.reduceBEq, Nat.reduceEqDiff, Int.reduceToNat, Int.reduceLT, Int.reduceLE, Nat.reduceSub, pl86, ft110]
  rintro x w g ⟨p, q, rfl, a0, a1, hp, hq, hg, rfl⟩
  by_cases c : 0 < q
  · have r : q > 0 := c
    have em : p.tmod q = p % q := Int.tmod_eq_emod_of_nonneg hp.1
    have l3 := Int.emod_lt_of_pos p c
    have l4 := Int.emod_nonneg p (show q ≠ 0 by omega)
    have w3 : IntKind.u64.wrap (p % q) = p % q := w64 l4 (by omega)
    simp (maxSteps := 4000000) only [↓packA, ↓reduceIte, packB, pureOp, quietOp, loadOp, quietB, fr0, cellsK, implies_true, ite_true, ite_false, eq_self, ne_eq, reduceCtorEq, Nat.reduceLT, Nat.reduceLeDiff, Nat.reduceAdd, Nat.reduceMul, Nat.reduceBEq, Nat.reduceEqDiff, Int.reduceToNat, Int.reduceLT, Int.reduceLE, Nat.reduceSub, pl86, ft110, a0, a1, r, em, w3]
    exact ⟨by omega, .inl ⟨(p % q).toNat, by omega, q, p % q, rfl, rfl, rfl, by omega, by omega, by rw [gcd_mod]; exact hg⟩⟩
  · have r : ¬ q > 0 := c
    simp (maxSteps := 4000000) only [↓packA, ↓reduceIte, packB, pureOp, quietOp, loadOp, quietB, fr0, cellsK, implies_true, ite_true, ite_false, eq_self, ne_eq, reduceCtorEq, Nat.reduceLT, Nat.reduceLeDiff, Nat.reduceAdd, Nat.reduceMul, Nat.reduceBEq, Nat.reduceEqDiff, Int.reduceToNat, Int.reduceLT, Int.reduceLE, Nat.reduceSub, pl86, ft110, a0, a1, r]
    rw [← hg, show q = 0 by omega, Int.gcd_zero_right, Int.natAbs_of_nonneg hp.1]
    exact .pure _ rfl
end Go.Proofs.YtclbobielhllmaaGreat
end
section
namespace Go.Proofs.YtclbobielhllmaaGreat
open Go Go.AL
set_option linter.unusedVariables false
set_option linter.unusedSimpArgs false
theorem and_one32 {x : Nat} (h : x < 4294967296) : IntKind.u32.wrap ((BitVec.ofInt IntKind.u32.bits (x : Int) &&& BitVec.ofInt IntKind.u32.bits 1).toNat) = ((x % 2 : Nat) : Int) := by
  have := (and32 (a := x) (b := 1) h (by decide)).1
  rw [Nat.and_one_is_mod] at this
  exact this
theorem or_low' {x y : Int} (hx : 0 ≤ x) (hx2 : x * 4294967296 + y < 18446744073709551616) (hy : 0 ≤ y ∧ y < 4294967296) : IntKind.u64.wrap ((BitVec.ofInt IntKind.u64.bits y ||| BitVec.ofInt IntKind.u64.bits (x * 4294967296)).toNat) = x * 4294967296 + y := by
  rw [BitVec.or_comm]
  exact or_low hx hx2 hy
theorem odd_bits {x y k : Nat} (hx : x < 4294967296) (hk : k < 32) : (y * 4294967296 + x) / 2 ^ k % 4294967296 = (y % 2 ^ k) * 2 ^ (32 - k) + x / 2 ^ k := by
  have e : (4294967296 : Nat) = 2 ^ k * 2 ^ (32 - k) := by rw [← Nat.pow_add, show k + (32 - k) = 32 by omega]
  have hT : 0 < 2 ^ k := Nat.pow_pos (by decide)
  obtain ⟨t1, t2, t3⟩ := half_bits (x := x) (y := y) (s := k) hx hk
  have e1 : (y * 4294967296 + x) / 2 ^ k = y * 2 ^ (32 - k) + x / 2 ^ k := by
    rw [e, show y * (2 ^ k * 2 ^ (32 - k)) = 2 ^ k * (y * 2 ^ (32 - k)) by ac_rfl, Nat.mul_add_div hT]
  have e2 : y * 2 ^ (32 - k) = 4294967296 * (y / 2 ^ k) + (y % 2 ^ k) * 2 ^ (32 - k) := by
    conv => lhs; rw [← Nat.div_add_mod y (2 ^ k)]
    rw [Nat.add_mul]
    congr 1
    conv => rhs; rw [e]
    ac_rfl
  rw [e1, e2, Nat.add_assoc, Nat.mul_add_mod, Nat.mod_eq_of_lt (by omega)]
theorem tz_step {L k : Nat} (h0 : 0 < L) (hL : L < 4294967296) (h : L % 2 ^ k = 0) (h1 : L / 2 ^ k % 2 = 0) : L % 2 ^ (k + 1) = 0 ∧ k + 1 < 32 := by
  have e : L % 2 ^ (k + 1) = 0 := by rw [Nat.mod_pow_succ, h, h1]; rfl
  refine ⟨e, ?_⟩
  apply Classical.byContradiction
  intro hc
  have h2 : 2 ^ 32 ≤ 2 ^ (k + 1) := Nat.pow_le_pow_right (by decide) (by omega)
  have h3 := Nat.le_of_dvd h0 (Nat.dvd_of_mod_eq_zero e)
  omega
theorem odd_left {L k : Nat} {V X R : Int} (hk : k < 32) (h : L % 2 ^ k = 0) (h1 : L / 2 ^ k % 2 = 1) (hV : V = (L : Int) + 4294967296 * R) (hX : V = 2 ^ k * X) : X % 2 = 1 := by
  have e : (4294967296 : Int) = 2 ^ k * (2 * 2 ^ (31 - k)) := by
    have : (4294967296 : Nat) = 2 ^ k * (2 * 2 ^ (31 - k)) := by
      rw [show 2 * 2 ^ (31 - k) = 2 ^ (31 - k + 1) by rw [Nat.pow_succ]; omega, ← Nat.pow_add, show k + (31 - k + 1) = 32 by omega]
    have h2 := congrArg (fun n : Nat => (n : Int)) this
    simpa using h2
  have hT : (0 : Int) < 2 ^ k := Int.pow_pos (by decide)
  have eL : (L : Int) = 2 ^ k * ((L / 2 ^ k : Nat) : Int) := by
    have h2 := Nat.div_add_mod L (2 ^ k)
    rw [h, Nat.add_zero] at h2
    have h3 := congrArg (fun n : Nat => (n : Int)) h2
    simpa using h3.symm
  have e3 : 2 ^ k * X = 2 ^ k * (((L / 2 ^ k : Nat) : Int) + 2 * (2 ^ (31 - k) * R)) := by
    rw [← hX, hV, Int.mul_add, ← eL, e]
    congr 1
    ac_rfl
  have e4 := Int.eq_of_mul_eq_mul_left (by omega) e3
  omega
theorem val_head {l : List Int} {n : Nat} : val (l.take (n + 1)) = l.getD 0 default + 4294967296 * wv l 1 n := by
  have := wv_head (es := l) (j := 0) n
  unfold wv at this
  rw [List.drop_zero] at this
  exact this
set_option maxHeartbeats 16000000 in
set_option maxRecDepth 100000 in
theorem odd_o {h : Heap} {id n cap : Nat} {ex ex' : Bool} {es : List Int} {Q : AV → Heap → Prop} (hid : h[id]? = some (.arr 1 (List.map u32E es) ex')) (hL : LI es) (hn : n ≤ es.length) (hnc : n ≤ cap) (h0 : 0 < n) (hN : Norm (es.take n)) (hb : n < 100000000)
    (hq : ∀ (es' : List Int) (n' k : Nat) (d : Bool), es'.length = es.length → LI es' → Norm (es'.take n') → n' ≤ n → 0 < n' → k ≤ 32 → val (es.take n) = 2 ^ k * val (es'.take n') → (d = true → val (es'.take n') % 2 = 1) → (d = false → n' < n) → Q (.tup [.osl id 1 0 n' cap ex, .int .i64 k, .bool d]) (h.set id (.arr 1 (List.map u32E es') ex'))) :
    ACalls Tryz.prog 96 [.osl id 1 0 n cap ex] h Q := by
  have hlid := (List.getElem?_eq_some_iff.1 hid).1
  have hi2 : ∀ X, (h.set id X)[id]? = some X := fun X => List.getElem?_set_self hlid
  obtain ⟨m, rfl⟩ : ∃ m, n = m + 1 := ⟨n - 1, by omega⟩
  have hlt : (es.take (m + 1)).length = m + 1 := by rw [List.length_take]; omega
  have htop : es.getD m default ≠ 0 := by
    have := hN.2 (by omega)
    rw [hlt, show m + 1 - 1 = m from rfl, getD_take (by omega)] at this
    exact this
  have hvp := hN.pos (by omega)
  have hx0 := hL.get (i := 0)
  refine wp96 rfl rfl ?_
  by_cases c0 : es.getD 0 default = 0
  · have hm : 0 < m := by
      apply Classical.byContradiction
      intro hc
      obtain rfl : m = 0 := by omega
      exact htop c0
    simp (maxSteps := 4000000) only [↓packA, ↓reduceIte, packB, pureOp, quietOp, loadOp, quietB, fr0, cellsK, implies_true, ite_true, ite_false, eq_self, ne_eq, reduceCtorEq, Nat.reduceLT, Nat.reduceLeDiff, Nat.reduceAdd, Nat.reduceMul, Nat.reduceBEq, Nat.reduceEqDiff, Int.reduceToNat, Int.reduceLT, Int.reduceLE, Nat.reduceSub, pl96, ft3, ft58, ft109, ft110, ft147, limR, hid, c0, concA, Int.reduceAdd, Int.reduceSub, Int.reduceNeg, Int.reduceMul, Int.reduceEq, Int.reduceBEq, Int.reduceBNe]
    refine ⟨by omega, by omega, ?_⟩
    refine LoopK.intro (fun x w g => ∃ (k : Nat) (es1 : List Int), x = m - k ∧ k ≤ m ∧ es1.length = es.length ∧ LI es1 ∧ (∀ i, es1.getD i default = if i < k then es.getD (i + 1) default else es.getD i default) ∧ w 0 = .osl id 1 0 (m + 1) cap ex ∧ w 5 = .int .i64 k ∧ g = h.set id (.arr 1 (List.map u32E es1) ex')) m ⟨0, es, rfl, by omega, rfl, hL, fun i => rfl, ?_, ?_, (set_id hid).symm⟩ ?_
    · simp (maxSteps := 4000000) only [↓packA, ↓reduceIte, packB, pureOp, quietOp, loadOp, quietB, fr0, cellsK, implies_true, ite_true, ite_false, eq_self, ne_eq, reduceCtorEq, Nat.reduceLT, Nat.reduceLeDiff, Nat.reduceAdd, Nat.reduceMul, Nat.reduceBEq, Nat.reduceEqDiff, Int.reduceToNat, Int.reduceLT, Int.reduceLE, Nat.reduceSub, pl96, ft3, ft58, ft109, ft110, ft147]
    · simp (maxSteps := 4000000) only [↓packA, ↓reduceIte, packB, pureOp, quietOp, loadOp, quietB, fr0, cellsK, implies_true, ite_true, ite_false, eq_self, ne_eq, reduceCtorEq, Nat.reduceLT, Nat.reduceLeDiff, Nat.reduceAdd, Nat.reduceMul, Nat.reduceBEq, Nat.reduceEqDiff, Int.reduceToNat, Int.reduceLT, Int.reduceLE, Nat.reduceSub, pl96, ft3, ft58, ft109, ft110, ft147, Int.natCast_zero]
    rintro x w g ⟨k, es1, rfl, hk, hl1, hL1, hs, a0, a5, rfl⟩
    by_cases c : k < m
    · have r1 : (k : Int) + 1 < ((m + 1 : Nat) : Int) := by omega
      have ek : ((k : Int) + 1).toNat = k + 1 := by omega
      have hx := hL.get (i := k + 1)
      have he : es1.getD (k + 1) default = es.getD (k + 1) default := by rw [hs, if_neg (by omega)]
      simp (maxSteps := 4000000) only [↓packA, ↓reduceIte, packB, pureOp, quietOp, loadOp, quietB, fr0, cellsK, implies_true, ite_true, ite_false, eq_self, ne_eq, reduceCtorEq, Nat.reduceLT, Nat.reduceLeDiff, Nat.reduceAdd, Nat.reduceMul, Nat.reduceBEq, Nat.reduceEqDiff, Int.reduceToNat, Int.reduceLT, Int.reduceLE, Nat.reduceSub, pl96, ft3, ft58, ft109, ft110, ft147, limR, hi2, a0, a5, r1, ek, he]
      refine ⟨by omega, by omega, by omega, by omega, by omega, by omega, by omega, .inl ⟨m - (k + 1), by omega, k + 1, es1.set k (es.getD (k + 1) default), rfl, by omega, by rw [List.length_set]; exact hl1, hL1.set hx, fun i => ?_, by omega, List.set_set ..⟩⟩
      by_cases ci : i = k
      · subst ci
        rw [getD_setI (by omega), if_pos (by omega)]
      · rw [getD_setN (by omega), hs]
        by_cases cj : i < k
        · rw [if_pos cj, if_pos (by omega)]
        · rw [if_neg cj, if_neg (by omega)]
    · have r1 : ¬ (k : Int) + 1 < ((m + 1 : Nat) : Int) := by omega
      obtain rfl : k = m := by omega
      have ek : (((k + 1 : Nat) : Int) - 1).toNat = k := by omega
      simp (maxSteps := 4000000) only [↓packA, ↓reduceIte, packB, pureOp, quietOp, loadOp, quietB, fr0, cellsK, implies_true, ite_true, ite_false, eq_self, ne_eq, reduceCtorEq, Nat.reduceLT, Nat.reduceLeDiff, Nat.reduceAdd, Nat.reduceMul, Nat.reduceBEq, Nat.reduceEqDiff, Int.reduceToNat, Int.reduceLT, Int.reduceLE, Nat.reduceSub, pl96, ft3, ft58, ft109, ft110, ft147, limR, hi2, a0, a5, r1, ek]
      have e1 : val (es1.take k) = wv es 1 k := val_take_same k fun i hi => by rw [hs, if_pos hi, getD_drop, Nat.add_comm]
      have e2 := val_head (l := es) (n := k)
      rw [c0, ← e1] at e2
      have hlk : (es1.take k).length = k := by rw [List.length_take]; omega
      refine ⟨by omega, by omega, by omega, by omega, hq es1 k 32 false hl1 hL1 ⟨hL1.take k, fun _ => ?_⟩ (by omega) (by omega) (by omega) (by omega) (fun h => by cases h) (fun _ => by omega)⟩
      rw [hlk, getD_take (by omega), hs, if_pos (by omega), show k - 1 + 1 = k by omega]
      exact htop
  · obtain ⟨L0, e0⟩ := Int.eq_ofNat_of_zero_le hx0.1
    have hL00 : 0 < L0 := by omega
    simp (maxSteps := 4000000) only [↓packA, ↓reduceIte, packB, pureOp, quietOp, loadOp, quietB, fr0, cellsK, implies_true, ite_true, ite_false, eq_self, ne_eq, reduceCtorEq, Nat.reduceLT, Nat.reduceLeDiff, Nat.reduceAdd, Nat.reduceMul, Nat.reduceBEq, Nat.reduceEqDiff, Int.reduceToNat, Int.reduceLT, Int.reduceLE, Nat.reduceSub, pl96, ft3, ft58, ft109, ft110, ft147, limR, hid, c0, concA, Int.reduceAdd, Int.reduceSub, Int.reduceNeg, Int.reduceMul, Int.reduceEq, Int.reduceBEq, Int.reduceBNe]
    refine ⟨by omega, by omega, ?_⟩
    refine LoopK.intro (fun x w g => ∃ k : Nat, x = 32 - k ∧ k < 32 ∧ L0 % 2 ^ k = 0 ∧ w 0 = .osl id 1 0 (m + 1) cap ex ∧ w 6 = .int .i64 k ∧ g = h) 32 ⟨0, rfl, by omega, Nat.mod_one _, ?_, ?_, rfl⟩ ?_
    · simp (maxSteps := 4000000) only [↓packA, ↓reduceIte, packB, pureOp, quietOp, loadOp, quietB, fr0, cellsK, implies_true, ite_true, ite_false, eq_self, ne_eq, reduceCtorEq, Nat.reduceLT, Nat.reduceLeDiff, Nat.reduceAdd, Nat.reduceMul, Nat.reduceBEq, Nat.reduceEqDiff, Int.reduceToNat, Int.reduceLT, Int.reduceLE, Nat.reduceSub, pl96, ft3, ft58, ft109, ft110, ft147]
    · simp (maxSteps := 4000000) only [↓packA, ↓reduceIte, packB, pureOp, quietOp, loadOp, quietB, fr0, cellsK, implies_true, ite_true, ite_false, eq_self, ne_eq, reduceCtorEq, Nat.reduceLT, Nat.reduceLeDiff, Nat.reduceAdd, Nat.reduceMul, Nat.reduceBEq, Nat.reduceEqDiff, Int.reduceToNat, Int.reduceLT, Int.reduceLE, Nat.reduceSub, pl96, ft3, ft58, ft109, ft110, ft147, Int.natCast_zero]
    rintro x w g ⟨k, rfl, hk, hk0, a0, a6, rfl⟩
    have ck : IntKind.u64.wrap (k : Int) = k := cu64 (by omega)
    have f1 := shr32 (l := L0) (s := k) (by omega)
    have hdl : L0 / 2 ^ k < 4294967296 := Nat.lt_of_le_of_lt (Nat.div_le_self _ _) (by omega)
    have f2 := and_one32 hdl
    by_cases c : L0 / 2 ^ k % 2 = 0
    · simp (maxSteps := 4000000) only [↓packA, ↓reduceIte, packB, pureOp, quietOp, loadOp, quietB, fr0, cellsK, implies_true, ite_true, ite_false, eq_self, ne_eq, reduceCtorEq, Nat.reduceLT, Nat.reduceLeDiff, Nat.reduceAdd, Nat.reduceMul, Nat.reduceBEq, Nat.reduceEqDiff, Int.reduceToNat, Int.reduceLT, Int.reduceLE, Nat.reduceSub, pl96, ft3, ft58, ft109, ft110, ft147, limR, hid, a0, a6, ck, f1, f2, e0, c, concA, Int.reduceAdd, Int.reduceSub, Int.reduceNeg, Int.reduceMul, Int.reduceEq, Int.reduceBEq, Int.reduceBNe]
      obtain ⟨z1, z2⟩ := tz_step hL00 (by omega) hk0 c
      exact ⟨by omega, by omega, by omega, by omega, .inl ⟨32 - (k + 1), by omega, k + 1, rfl, z2, z1, by omega⟩⟩
    · have rc : ¬ ((L0 / 2 ^ k % 2 : Nat) : Int) = 0 := by omega
      simp (maxSteps := 4000000) only [↓packA, ↓reduceIte, packB, pureOp, quietOp, loadOp, quietB, fr0, cellsK, implies_true, ite_true, ite_false, eq_self, ne_eq, reduceCtorEq, Nat.reduceLT, Nat.reduceLeDiff, Nat.reduceAdd, Nat.reduceMul, Nat.reduceBEq, Nat.reduceEqDiff, Int.reduceToNat, Int.reduceLT, Int.reduceLE, Nat.reduceSub, pl96, ft3, ft58, ft109, ft110, ft147, limR, hid, a0, a6, ck, f1, f2, e0, c, rc, concA, Int.reduceAdd, Int.reduceSub, Int.reduceNeg, Int.reduceMul, Int.reduceEq, Int.reduceBEq, Int.reduceBNe]
      refine ⟨by omega, by omega, by omega, ?_⟩
      obtain ⟨A, eA⟩ : ∃ A, A = es.take (m + 1) := ⟨_, rfl⟩
      have hgA : ∀ i, i < m + 1 → es.getD i default = A.getD i default := fun i hi => by rw [eA, getD_take hi]
      have hLA : LI A := eA ▸ hL.take _
      have hA0 : A.getD (m + 1) default = 0 := by rw [List.getD_eq_getElem?_getD, List.getElem?_eq_none (by rw [eA]; omega)]; rfl
      refine LoopK.intro (fun x w z => ∃ (j : Nat) (es1 : List Int), x = m + 1 - j ∧ j ≤ m + 1 ∧ (k = 0 → j = 0) ∧ es1.length = es.length ∧ LI es1 ∧ (∀ i, j ≤ i → es1.getD i default = es.getD i default) ∧ val (es1.take j) * 2 ^ k + A.getD 0 default % 2 ^ k = val (A.take j) + 4294967296 ^ j * (A.getD j default % 2 ^ k) ∧ w 0 = .osl id 1 0 (m + 1) cap ex ∧ w 6 = .int .i64 k ∧ w 7 = .int .i64 j ∧ z = g.set id (.arr 1 (List.map u32E es1) ex')) (m + 1) ⟨0, es, rfl, by omega, fun _ => rfl, rfl, hL, fun i _ => rfl, ?_, ?_, ?_, ?_, (set_id hid).symm⟩ ?_
      · simp [val]
      · simp (maxSteps := 4000000) only [↓packA, ↓reduceIte, packB, pureOp, quietOp, loadOp, quietB, fr0, cellsK, implies_true, ite_true, ite_false, eq_self, ne_eq, reduceCtorEq, Nat.reduceLT, Nat.reduceLeDiff, Nat.reduceAdd, Nat.reduceMul, Nat.reduceBEq, Nat.reduceEqDiff, Int.reduceToNat, Int.reduceLT, Int.reduceLE, Nat.reduceSub, pl96, ft3, ft58, ft109, ft110, ft147, a0]
      · simp (maxSteps := 4000000) only [↓packA, ↓reduceIte, packB, pureOp, quietOp, loadOp, quietB, fr0, cellsK, implies_true, ite_true, ite_false, eq_self, ne_eq, reduceCtorEq, Nat.reduceLT, Nat.reduceLeDiff, Nat.reduceAdd, Nat.reduceMul, Nat.reduceBEq, Nat.reduceEqDiff, Int.reduceToNat, Int.reduceLT, Int.reduceLE, Nat.reduceSub, pl96, ft3, ft58, ft109, ft110, ft147, a6]
      · simp (maxSteps := 4000000) only [↓packA, ↓reduceIte, packB, pureOp, quietOp, loadOp, quietB, fr0, cellsK, implies_true, ite_true, ite_false, eq_self, ne_eq, reduceCtorEq, Nat.reduceLT, Nat.reduceLeDiff, Nat.reduceAdd, Nat.reduceMul, Nat.reduceBEq, Nat.reduceEqDiff, Int.reduceToNat, Int.reduceLT, Int.reduceLE, Nat.reduceSub, pl96, ft3, ft58, ft109, ft110, ft147, Int.natCast_zero]
      clear a0 a6 w
      rintro x w z ⟨j, es1, rfl, hj, hkj, hl1, hL1, hs, hv, a0, a6, a7, rfl⟩
      have fin : val (es.take (m + 1)) = 2 ^ k * val (es1.take (m + 1)) → Q (.tup [.osl id 1 0 (trmN es1 (m + 1)) cap ex, .int .i64 k, .bool true]) (g.set id (.arr 1 (List.map u32E es1) ex')) := by
        intro hv2
        have htl := trmN_le (l := es1) (m + 1)
        have htv := trmN_val (l := es1) (m + 1) (by omega)
        have hodd : val (es1.take (m + 1)) % 2 = 1 := odd_left hk hk0 (by omega) (R := wv es 1 m) (by rw [← e0]; exact val_head) hv2
        refine hq es1 _ k true hl1 hL1 (norm_take hL1 (by omega)) htl ?_ (by omega) (by rw [htv]; exact hv2) (fun _ => by rw [htv]; exact hodd) (fun h => by cases h)
        apply Classical.byContradiction
        intro hc
        rw [show trmN es1 (m + 1) = 0 by omega, List.take_zero] at htv
        rw [← htv] at hodd
        simp [val] at hodd
      by_cases c1 : j < m + 1
      · have r1 : (j : Int) < ((m + 1 : Nat) : Int) := by omega
        by_cases c2 : 0 < k
        · have r2 : (k : Int) > 0 := by omega
          have gx : es1.getD j default = A.getD j default := by rw [hs j (Nat.le_refl _), hgA j c1]
          have hx := hLA.get (i := j)
          have hy := hLA.get (i := j + 1)
          have eN := val_take_next (l := A) (k := j)
          obtain ⟨x, ex⟩ := Int.eq_ofNat_of_zero_le hx.1
          obtain ⟨y, ey⟩ := Int.eq_ofNat_of_zero_le hy.1
          rw [ex] at gx
          have ob := odd_bits (x := x) (y := y) (k := k) (by omega) hk
          obtain ⟨t1, t2, t3⟩ := half_bits (x := x) (y := y) (s := k) (by omega) hk
          have cx : IntKind.u64.wrap (x : Int) = x := cu64 (by omega)
          have cy : IntKind.u64.wrap (y : Int) = y := cu64 (by omega)
          have sy := shl32 (x := (y : Int)) (by omega)
          have oy := or_low' (x := (y : Int)) (y := (x : Int)) (by omega) (by omega) (by omega)
          have en : (y : Int) * 4294967296 + x = ((y * 4294967296 + x : Nat) : Int) := by omega
          have f3 := shr64 (l := y * 4294967296 + x) (s := k) (by omega)
          have f4 : IntKind.u32.wrap (((y * 4294967296 + x) / 2 ^ k : Nat) : Int) = (((y % 2 ^ k) * 2 ^ (32 - k) + x / 2 ^ k : Nat) : Int) := by rw [conv32, ← ob]; omega
          have ej : ((j : Int) + 1).toNat = j + 1 := by omega
          have t5 : ((y % 2 ^ k * 2 ^ (32 - k) + x / 2 ^ k : Nat) : Int) < ((4294967296 : Nat) : Int) := Int.ofNat_lt.2 (Nat.lt_of_lt_of_le (Nat.add_lt_add_left t1 _) t2)
          have key : ∀ v : Int, v = ((y % 2 ^ k * 2 ^ (32 - k) + x / 2 ^ k : Nat) : Int) → (es1.set j v).length = es.length ∧ LI (es1.set j v) ∧ (∀ i, j + 1 ≤ i → (es1.set j v).getD i default = es.getD i default) ∧ val ((es1.set j v).take (j + 1)) * 2 ^ k + A.getD 0 default % 2 ^ k = val (A.take (j + 1)) + 4294967296 ^ (j + 1) * (A.getD (j + 1) default % 2 ^ k) := by
            rintro v rfl
            refine ⟨by rw [List.length_set]; exact hl1, hL1.set ⟨Int.natCast_nonneg _, t5⟩, fun i hi => by rw [getD_setN (by omega)]; exact hs i (by omega), ?_⟩
            rw [val_take_next, take_set_le (Nat.le_refl _), getD_setI (by omega), eN, ex, ey, Int.pow_succ]
            rw [ex] at hv
            have e1 : ((y % 2 ^ k * 2 ^ (32 - k) + x / 2 ^ k : Nat) : Int) * 2 ^ k + (x : Int) % 2 ^ k = x + 4294967296 * ((y : Int) % 2 ^ k) := by
              rw [show (2 : Int) ^ k = ((2 ^ k : Nat) : Int) by simp, ← Int.natCast_emod, ← Int.natCast_emod, ← Int.natCast_mul]
              omega
            have e2 := congrArg (fun z => (4294967296 : Int) ^ j * z) e1
            simp only [Int.mul_add] at e2
            rw [Int.add_mul, Int.mul_assoc, Int.mul_assoc]
            omega
          by_cases c3 : j + 1 < m + 1
          · have r3 : (j : Int) + 1 < ((m + 1 : Nat) : Int) := by omega
            have gy : es1.getD (j + 1) default = y := by rw [hs (j + 1) (by omega), hgA _ c3, ey]
            simp (maxSteps := 4000000) only [↓packA, ↓reduceIte, packB, pureOp, quietOp, loadOp, quietB, fr0, cellsK, implies_true, ite_true, ite_false, eq_self, ne_eq, reduceCtorEq, Nat.reduceLT, Nat.reduceLeDiff, Nat.reduceAdd, Nat.reduceMul, Nat.reduceBEq, Nat.reduceEqDiff, Int.reduceToNat, Int.reduceLT, Int.reduceLE, Nat.reduceSub, pl96, ft3, ft58, ft109, ft110, ft147, limR, hi2, a0, a6, a7, r1, r2, r3, ej, gx, gy, cx, cy, sy, oy, en, f3, f4, ck]
            obtain ⟨k1, k2, k3, k4⟩ := key _ rfl
            exact ⟨by omega, by omega, by omega, by omega, by omega, by omega, by omega, by omega, by omega, by omega, .inl ⟨m + 1 - (j + 1), by omega, j + 1, _, rfl, by omega, by omega, k1, k2, k3, k4, by omega, List.set_set ..⟩⟩
          · have r3 : ¬ (j : Int) + 1 < ((m + 1 : Nat) : Int) := by omega
            have y0 : y = 0 := by
              rw [show j + 1 = m + 1 by omega, hA0] at ey
              omega
            have f5 := shr64 (l := x) (s := k) (by omega)
            have f6 : IntKind.u32.wrap ((x / 2 ^ k : Nat) : Int) = (((y % 2 ^ k) * 2 ^ (32 - k) + x / 2 ^ k : Nat) : Int) := by rw [← f4, y0, Nat.zero_mul, Nat.zero_add]
            simp (maxSteps := 4000000) only [↓packA, ↓reduceIte, packB, pureOp, quietOp, loadOp, quietB, fr0, cellsK, implies_true, ite_true, ite_false, eq_self, ne_eq, reduceCtorEq, Nat.reduceLT, Nat.reduceLeDiff, Nat.reduceAdd, Nat.reduceMul, Nat.reduceBEq, Nat.reduceEqDiff, Int.reduceToNat, Int.reduceLT, Int.reduceLE, Nat.reduceSub, pl96, ft3, ft58, ft109, ft110, ft147, limR, hi2, a0, a6, a7, r1, r2, r3, ej, gx, cx, f5, f6, ck]
            obtain ⟨k1, k2, k3, k4⟩ := key _ rfl
            exact ⟨by omega, by omega, by omega, by omega, by omega, by omega, by omega, .inl ⟨m + 1 - (j + 1), by omega, j + 1, _, rfl, by omega, by omega, k1, k2, k3, k4, by omega, List.set_set ..⟩⟩
        · have r2 : ¬ (k : Int) > 0 := by omega
          obtain rfl : j = 0 := hkj (by omega)
          obtain rfl : k = 0 := by omega
          simp (maxSteps := 4000000) only [↓packA, ↓reduceIte, packB, pureOp, quietOp, loadOp, quietB, fr0, cellsK, implies_true, ite_true, ite_false, eq_self, ne_eq, reduceCtorEq, Nat.reduceLT, Nat.reduceLeDiff, Nat.reduceAdd, Nat.reduceMul, Nat.reduceBEq, Nat.reduceEqDiff, Int.reduceToNat, Int.reduceLT, Int.reduceLE, Nat.reduceSub, pl96, ft3, ft58, ft109, ft110, ft147, limR, hi2, a0, a6, a7, r1, r2]
          refine norm_o (hi2 _) (by omega) (by omega) (by omega) ?_
          simp (maxSteps := 4000000) only [↓packA, ↓reduceIte, packB, pureOp, quietOp, loadOp, quietB, fr0, cellsK, implies_true, ite_true, ite_false, eq_self, ne_eq, reduceCtorEq, Nat.reduceLT, Nat.reduceLeDiff, Nat.reduceAdd, Nat.reduceMul, Nat.reduceBEq, Nat.reduceEqDiff, Int.reduceToNat, Int.reduceLT, Int.reduceLE, Nat.reduceSub, pl96, ft3, ft58, ft109, ft110, ft147, limR, hi2, a0, a6, a7, r1, r2]
          have hv2 : val (es.take (m + 1)) = 2 ^ 0 * val (es1.take (m + 1)) := by
            rw [val_take_same (l := es) (l' := es1) (m + 1) fun i _ => (hs i (by omega)).symm]
            omega
          exact fin hv2
      · have r1 : ¬ (j : Int) < ((m + 1 : Nat) : Int) := by omega
        obtain rfl : j = m + 1 := by omega
        simp (maxSteps := 4000000) only [↓packA, ↓reduceIte, packB, pureOp, quietOp, loadOp, quietB, fr0, cellsK, implies_true, ite_true, ite_false, eq_self, ne_eq, reduceCtorEq, Nat.reduceLT, Nat.reduceLeDiff, Nat.reduceAdd, Nat.reduceMul, Nat.reduceBEq, Nat.reduceEqDiff, Int.reduceToNat, Int.reduceLT, Int.reduceLE, Nat.reduceSub, pl96, ft3, ft58, ft109, ft110, ft147, limR, hi2, a0, a6, a7, r1]
        refine norm_o (hi2 _) (by omega) (by omega) (by omega) ?_
        simp (maxSteps := 4000000) only [↓packA, ↓reduceIte, packB, pureOp, quietOp, loadOp, quietB, fr0, cellsK, implies_true, ite_true, ite_false, eq_self, ne_eq, reduceCtorEq, Nat.reduceLT, Nat.reduceLeDiff, Nat.reduceAdd, Nat.reduceMul, Nat.reduceBEq, Nat.reduceEqDiff, Int.reduceToNat, Int.reduceLT, Int.reduceLE, Nat.reduceSub, pl96, ft3, ft58, ft109, ft110, ft147, limR, hi2, a0, a6, a7, r1]
        refine fin ?_
        have a00 : A.getD 0 default % 2 ^ k = 0 := by
          rw [← hgA 0 (by omega), e0, show (2 : Int) ^ k = ((2 ^ k : Nat) : Int) by simp, ← Int.natCast_emod, hk0]
          rfl
        rw [a00, hA0, Int.zero_emod, Int.mul_zero, Int.add_zero, Int.add_zero] at hv
        rw [← eA, Int.mul_comm, hv, List.take_of_length_le (by rw [eA]; omega)]
end Go.Proofs.YtclbobielhllmaaGreat
end
