/- OrderWorth is true of all arguments of the stated size. No condition. -/
import Derived.Test.YtgdlkhgfehclpaaPZb
import Derived.Test.YtgdlkhgfehclpaaPOJ
namespace Go.Proofs.Ytgdlkhgfehclpaa
open Go Go.AL Go.ChangeShapes Go.WideShapes Go.ChangeAt Go.RowKit
set_option linter.unusedVariables false
set_option linter.unusedSimpArgs false
namespace law10
set_option maxRecDepth 100000 in
theorem contract (H : Type) (enc : TypeId × Value → H) (W : World) (base : Nat) (args : Array Value) (ds gs : List (DataW H)) (before : List MemPlace)
    (hval : ∀ (j : Nat) t v, Try.f10.params[j]? = some t → args[j]? = some v → Value.okWide Try.prog W .any base t v)
    (hW : DataW.Whole enc Try.prog Try.f10.params.toList Rows.orderWorthSpec.vars false W args.toList ds gs before) (hk : Rows.uptoSmall H (ds ++ gs) = true) :
    Calls Try.prog 10 args W fun e W' => ∃ v, e = .returned v ∧ Rows.orderWorthSpec.post enc Try.prog Try.f10 false true false false W args v W' := by
  have hW' := hW
  obtain ⟨p, q, hA0, hV, rfl, hfz, hnd⟩ := hW
  have hA : DataW.TrodAll enc Try.prog W 0 (fun _ => true) true Try.f10.params.toList args.toList ds p := hA0
  rw [Try.params10] at hA hval
  obtain ⟨v0, vs0, d0, ds0, p0, q0, hargs, rfl, rfl, h0, r0⟩ := trodAll_cons hA
  obtain ⟨v1, vs1, d1, ds1, p1, q1, rfl, rfl, rfl, h1, r1⟩ := trodAll_cons r0
  obtain ⟨rfl, rfl, rfl⟩ := trodAll_nil r1
  obtain rfl : args = #[v0, v1] := by cases args; simp_all
  obtain ⟨rfl, rfl⟩ := trodVars_none hV
  have hb := bulk_ok hk
  obtain ⟨fuel0, hf0⟩ := h0
  obtain ⟨pr0, pw0, st0, cs0, hxs0, hst0, hcs0⟩ := open_pat (okWide_struct Try.underlying45 (hval 0 45 v0 rfl rfl)) hf0
  obtain ⟨fuel1, hf1⟩ := h1
  obtain ⟨xs1, hxs1, hlen1⟩ := open_list Try.underlying23 Try.underlying3 (by kernel_rfl) (okWide_slice Try.underlying23 (hval 1 23 v1 rfl rfl)) hf1
  have hb0 : st0.length < 10000000 := by
    have := bulk_part (show d0 ∈ [d0, d1] ++ [] by simp)
    omega
  have hb1 : cs0.length < 10000000 := by
    have := bulk_part (show d0 ∈ [d0, d1] ++ [] by simp)
    omega
  have hb2 : xs1.length < 10000000 := by
    have := bulk_part (show d1 ∈ [d0, d1] ++ [] by simp)
    omega
  have hc := calls_true (W := W) (us := [pat pr0 pw0 st0 cs0, ints xs1]) (vs := [v0, v1]) (law_worth pr0 pw0 st0 cs0 xs1 hb0 hb1 hb2) rfl (fun j u v hu hv => by
    match j with
    | 0 => simp at hu hv; subst hu; subst hv; exact hxs0
    | 1 => simp at hu hv; subst hu; subst hv; exact hxs1
    | j + 2 => simp at hu)
  refine hc.mono fun e W' ⟨he, hbe⟩ => ?_
  subst he
  exact ⟨_, rfl, post_true hW' hA0 (by rw [Try.params10]; decide +kernel) (by kernel_rfl) rfl rfl hbe⟩
set_option maxRecDepth 100000 in
theorem lifted (os : Os) (started : os.Started) (H : Type) (enc : TypeId × Value → H) (F : Stop.Interp) :
    ReturnsInHanded {} Try.checked os 10 .any ((Rows.OpenSpec.upto Rows.orderWorthSpec).pre6 enc Try.prog Try.f10 Rows.orderWorthUptoRow.domain false) (((Rows.OpenSpec.upto Rows.orderWorthSpec).at F).post enc Try.prog Try.f10 false true false false) := by
  refine returnsInHanded_of_cond (C := Try.checked) (s := Rows.OpenSpec.upto Rows.orderWorthSpec) (k := Rows.uptoSmall) rfl zOwn started (by kernel_rfl) Try.func10
    (OpenSpec.witness (enc := enc) (C := Try.checked) (s := Rows.OpenSpec.upto Rows.orderWorthSpec) (k := Rows.uptoSmall) rfl false ⟨#[], #[.agg #[.int .i64 0, .int .i64 0, .slice none 0 0, .slice none 0 0], .slice none 0 0], []⟩ 8 (by kernel_rfl) (by kernel_rfl) (by kernel_rfl)
      (x := ([.agg [.lit (.int .i64 0), .lit (.int .i64 0), .nil, .nil], .nil], [], [])) (by kernel_rfl) rfl (by kernel_rfl)) ?_
  intro W base args ds gs before hval hW _ hk _
  exact contract H enc W base args ds gs before hval hW hk
theorem over : Rows.orderWorthUptoRow.holds Try.pinned (Rows.OpenSpec.upto Rows.orderWorthSpec) :=
  OpenClaim.holds_of_cond 10 Try.f10 rfl rfl rfl rfl rfl rfl rfl ⟨rfl, rfl, rfl, rfl, rfl⟩ rfl rfl rfl rfl rfl (by kernel_rfl) Try.func10 (by kernel_rfl)
    (of_decide_eq_true (by kernel_rfl)) (by unfold Func.isWrapper; first | (rw [if_pos (by decide +kernel)]; kernel_rfl) | (rw [if_neg (by decide +kernel)]; exact ⟨rfl, rfl⟩))
    (fun os started H enc _ F => lifted os started H enc F)
end law10
theorem orderWorthProved : Rows.OrderWorthUptoSaid := law10.over
#print axioms orderWorthProved
end Go.Proofs.Ytgdlkhgfehclpaa
