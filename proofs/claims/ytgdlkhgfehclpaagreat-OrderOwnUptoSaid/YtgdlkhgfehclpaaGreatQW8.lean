/- Texts of one claim bound together: PZ3. -/
import Derived.Test.YtgdlkhgfehclpaaGreatQW4
import Derived.Test.YtgdlkhgfehclpaaGreatQW7

section
/- OrderOwn is true of all arguments of the stated size. No condition. -/
namespace Go.Proofs.YtgdlkhgfehclpaaGreat
open Go Go.AL Go.ChangeShapes Go.WideShapes Go.ChangeAt Go.RowKit
set_option linter.unusedVariables false
set_option linter.unusedSimpArgs false
namespace law3
set_option maxRecDepth 100000 in
theorem contract (H : Type) (enc : TypeId × Value → H) (W : World) (base : Nat) (args : Array Value) (ds gs : List (DataW H)) (before : List MemPlace)
    (hval : ∀ (j : Nat) t v, Tryz.f3.params[j]? = some t → args[j]? = some v → Value.okWide Tryz.prog W .any base t v)
    (hW : DataW.Whole enc Tryz.prog Tryz.f3.params.toList Rows.orderOwnSpec.vars false W args.toList ds gs before) (hk : Rows.uptoSmall H (ds ++ gs) = true) :
    Calls Tryz.prog 3 args W fun e W' => ∃ v, e = .returned v ∧ Rows.orderOwnSpec.post enc Tryz.prog Tryz.f3 false true false false W args v W' := by
  have hW' := hW
  obtain ⟨p, q, hA0, hV, rfl, hfz, hnd⟩ := hW
  have hA : DataW.TrodAll enc Tryz.prog W 0 (fun _ => true) true Tryz.f3.params.toList args.toList ds p := hA0
  rw [Tryz.params3] at hA hval
  obtain ⟨v0, vs0, d0, ds0, p0, q0, hargs, rfl, rfl, h0, r0⟩ := trodAll_cons hA
  obtain ⟨v1, vs1, d1, ds1, p1, q1, rfl, rfl, rfl, h1, r1⟩ := trodAll_cons r0
  obtain ⟨v2, vs2, d2, ds2, p2, q2, rfl, rfl, rfl, h2, r2⟩ := trodAll_cons r1
  obtain ⟨rfl, rfl, rfl⟩ := trodAll_nil r2
  obtain rfl : args = #[v0, v1, v2] := by cases args; simp_all
  obtain ⟨rfl, rfl⟩ := trodVars_none hV
  have hb := bulk_ok hk
  obtain ⟨fuel0, hf0⟩ := h0
  obtain ⟨pr0, pw0, st0, cs0, hxs0, hst0, hcs0⟩ := open_pat (okWide_struct Tryz.underlying24 (hval 0 24 v0 rfl rfl)) hf0
  obtain ⟨fuel1, hf1⟩ := h1
  obtain ⟨pr1, pw1, st1, cs1, hxs1, hst1, hcs1⟩ := open_pat (okWide_struct Tryz.underlying24 (hval 1 24 v1 rfl rfl)) hf1
  obtain ⟨fuel2, hf2⟩ := h2
  obtain ⟨xs2, hxs2, hlen2⟩ := open_list Tryz.underlying22 Tryz.underlying3 (by kernel_rfl) (okWide_slice Tryz.underlying22 (hval 2 22 v2 rfl rfl)) hf2
  have hb0 : st0.length < 10000000 := by
    have := bulk_part (show d0 ∈ [d0, d1, d2] ++ [] by simp)
    omega
  have hb1 : cs0.length < 10000000 := by
    have := bulk_part (show d0 ∈ [d0, d1, d2] ++ [] by simp)
    omega
  have hb2 : st1.length < 10000000 := by
    have := bulk_part (show d1 ∈ [d0, d1, d2] ++ [] by simp)
    omega
  have hb3 : cs1.length < 10000000 := by
    have := bulk_part (show d1 ∈ [d0, d1, d2] ++ [] by simp)
    omega
  have hb4 : xs2.length < 10000000 := by
    have := bulk_part (show d2 ∈ [d0, d1, d2] ++ [] by simp)
    omega
  have hc := calls_true (W := W) (us := [pat pr0 pw0 st0 cs0, pat pr1 pw1 st1 cs1, ints xs2]) (vs := [v0, v1, v2]) (law_own pr0 pw0 st0 cs0 pr1 pw1 st1 cs1 xs2 hb0 hb1 hb2 hb3 hb4) rfl (fun j u v hu hv => by
    match j with
    | 0 => simp at hu hv; subst hu; subst hv; exact hxs0
    | 1 => simp at hu hv; subst hu; subst hv; exact hxs1
    | 2 => simp at hu hv; subst hu; subst hv; exact hxs2
    | j + 3 => simp at hu)
  refine hc.mono fun e W' ⟨he, hbe⟩ => ?_
  subst he
  exact ⟨_, rfl, post_true hW' hA0 (by rw [Tryz.params3]; decide +kernel) (by kernel_rfl) rfl rfl hbe⟩
set_option maxRecDepth 100000 in
theorem lifted (os : Os) (started : os.Started) (H : Type) (enc : TypeId × Value → H) (F : Stop.Interp) :
    ReturnsInHanded {} Tryz.checked os 3 .any ((Rows.OpenSpec.upto Rows.orderOwnSpec).pre6 enc Tryz.prog Tryz.f3 Rows.orderOwnUptoRow.domain false) (((Rows.OpenSpec.upto Rows.orderOwnSpec).at F).post enc Tryz.prog Tryz.f3 false true false false) := by
  refine returnsInHanded_of_cond (C := Tryz.checked) (s := Rows.OpenSpec.upto Rows.orderOwnSpec) (k := Rows.uptoSmall) rfl zOwn started (by kernel_rfl) Tryz.func3
    (OpenSpec.witness (enc := enc) (C := Tryz.checked) (s := Rows.OpenSpec.upto Rows.orderOwnSpec) (k := Rows.uptoSmall) rfl false ⟨#[], #[.agg #[.int .i64 0, .int .i64 0, .slice none 0 0, .slice none 0 0], .agg #[.int .i64 0, .int .i64 0, .slice none 0 0, .slice none 0 0], .slice none 0 0], []⟩ 8 (by kernel_rfl) (by kernel_rfl) (by kernel_rfl)
      (x := ([.agg [.lit (.int .i64 0), .lit (.int .i64 0), .nil, .nil], .agg [.lit (.int .i64 0), .lit (.int .i64 0), .nil, .nil], .nil], [], [])) (by kernel_rfl) rfl (by kernel_rfl)) ?_
  intro W base args ds gs before hval hW _ hk _
  exact contract H enc W base args ds gs before hval hW hk
theorem over : Rows.orderOwnUptoRow.holds Tryz.pinned (Rows.OpenSpec.upto Rows.orderOwnSpec) :=
  OpenClaim.holds_of_cond 3 Tryz.f3 rfl rfl rfl rfl rfl rfl rfl ⟨rfl, rfl, rfl, rfl, rfl⟩ rfl rfl rfl rfl rfl (by kernel_rfl) Tryz.func3 (by kernel_rfl)
    (of_decide_eq_true (by kernel_rfl)) (by unfold Func.isWrapper; first | (rw [if_pos (by decide +kernel)]; kernel_rfl) | (rw [if_neg (by decide +kernel)]; exact ⟨rfl, rfl⟩))
    (fun os started H enc _ F => lifted os started H enc F)
end law3
theorem orderOwnProved : Rows.OrderOwnUptoSaid := law3.over
#print axioms orderOwnProved
end Go.Proofs.YtgdlkhgfehclpaaGreat
end
