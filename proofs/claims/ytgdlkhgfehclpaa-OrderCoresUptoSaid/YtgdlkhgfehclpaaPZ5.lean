/- OrderCores is true of all arguments of the stated size. No condition. -/
import Derived.Test.YtgdlkhgfehclpaaPZb
import Derived.Test.YtgdlkhgfehclpaaPOF
namespace Go.Proofs.Ytgdlkhgfehclpaa
open Go Go.AL Go.ChangeShapes Go.WideShapes Go.ChangeAt Go.RowKit
set_option linter.unusedVariables false
set_option linter.unusedSimpArgs false
namespace law5
set_option maxRecDepth 100000 in
theorem contract (H : Type) (enc : TypeId × Value → H) (W : World) (base : Nat) (args : Array Value) (ds gs : List (DataW H)) (before : List MemPlace)
    (hval : ∀ (j : Nat) t v, Try.f5.params[j]? = some t → args[j]? = some v → Value.okWide Try.prog W .any base t v)
    (hW : DataW.Whole enc Try.prog Try.f5.params.toList Rows.orderCoresSpec.vars false W args.toList ds gs before) (hk : Rows.uptoSmall H (ds ++ gs) = true) :
    Calls Try.prog 5 args W fun e W' => ∃ v, e = .returned v ∧ Rows.orderCoresSpec.post enc Try.prog Try.f5 false true false false W args v W' := by
  have hW' := hW
  obtain ⟨p, q, hA0, hV, rfl, hfz, hnd⟩ := hW
  have hA : DataW.TrodAll enc Try.prog W 0 (fun _ => true) true Try.f5.params.toList args.toList ds p := hA0
  rw [Try.params5] at hA hval
  obtain ⟨v0, vs0, d0, ds0, p0, q0, hargs, rfl, rfl, h0, r0⟩ := trodAll_cons hA
  obtain ⟨rfl, rfl, rfl⟩ := trodAll_nil r0
  obtain rfl : args = #[v0] := by cases args; simp_all
  obtain ⟨rfl, rfl⟩ := trodVars_none hV
  have hb := bulk_ok hk
  obtain ⟨fuel0, hf0⟩ := h0
  obtain ⟨r0, w0, st0, cs0, hxs0, hst0, hcs0⟩ := open_pat (okWide_struct Try.underlying45 (hval 0 45 v0 rfl rfl)) hf0
  have hb0 : st0.length < 10000000 := by
    have := bulk_part (show d0 ∈ [d0] ++ [] by simp)
    omega
  have hb1 : cs0.length < 10000000 := by
    have := bulk_part (show d0 ∈ [d0] ++ [] by simp)
    omega
  have hc := calls_true (W := W) (us := [pat r0 w0 st0 cs0]) (vs := [v0]) (law_cores r0 w0 st0 cs0 hb0 hb1) rfl (fun j u v hu hv => by
    match j with
    | 0 => simp at hu hv; subst hu; subst hv; exact hxs0
    | j + 1 => simp at hu)
  refine hc.mono fun e W' ⟨he, hbe⟩ => ?_
  subst he
  exact ⟨_, rfl, post_true hW' hA0 (by rw [Try.params5]; decide +kernel) (by kernel_rfl) rfl rfl hbe⟩
set_option maxRecDepth 100000 in
theorem lifted (os : Os) (started : os.Started) (H : Type) (enc : TypeId × Value → H) (F : Stop.Interp) :
    ReturnsInHanded {} Try.checked os 5 .any ((Rows.OpenSpec.upto Rows.orderCoresSpec).pre6 enc Try.prog Try.f5 Rows.orderCoresUptoRow.domain false) (((Rows.OpenSpec.upto Rows.orderCoresSpec).at F).post enc Try.prog Try.f5 false true false false) := by
  refine returnsInHanded_of_cond (C := Try.checked) (s := Rows.OpenSpec.upto Rows.orderCoresSpec) (k := Rows.uptoSmall) rfl zOwn started (by kernel_rfl) Try.func5
    (OpenSpec.witness (enc := enc) (C := Try.checked) (s := Rows.OpenSpec.upto Rows.orderCoresSpec) (k := Rows.uptoSmall) rfl false ⟨#[], #[.agg #[.int .i64 0, .int .i64 0, .slice none 0 0, .slice none 0 0]], []⟩ 8 (by kernel_rfl) (by kernel_rfl) (by kernel_rfl)
      (x := ([.agg [.lit (.int .i64 0), .lit (.int .i64 0), .nil, .nil]], [], [])) (by kernel_rfl) rfl (by kernel_rfl)) ?_
  intro W base args ds gs before hval hW _ hk _
  exact contract H enc W base args ds gs before hval hW hk
theorem over : Rows.orderCoresUptoRow.holds Try.pinned (Rows.OpenSpec.upto Rows.orderCoresSpec) :=
  OpenClaim.holds_of_cond 5 Try.f5 rfl rfl rfl rfl rfl rfl rfl ⟨rfl, rfl, rfl, rfl, rfl⟩ rfl rfl rfl rfl rfl (by kernel_rfl) Try.func5 (by kernel_rfl)
    (of_decide_eq_true (by kernel_rfl)) (by unfold Func.isWrapper; first | (rw [if_pos (by decide +kernel)]; kernel_rfl) | (rw [if_neg (by decide +kernel)]; exact ⟨rfl, rfl⟩))
    (fun os started H enc _ F => lifted os started H enc F)
end law5
theorem orderCoresProved : Rows.OrderCoresUptoSaid := law5.over
#print axioms orderCoresProved
end Go.Proofs.Ytgdlkhgfehclpaa
