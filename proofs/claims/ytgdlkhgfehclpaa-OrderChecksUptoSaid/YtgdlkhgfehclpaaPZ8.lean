/- OrderChecks is true of every number and every list of the stated size. No condition. -/
import Derived.Test.YtgdlkhgfehclpaaPZa
import Derived.Test.YtgdlkhgfehclpaaPOd
namespace Go.Proofs.Ytgdlkhgfehclpaa
open Go Go.AL Go.ChangeShapes Go.WideShapes Go.ChangeAt Go.RowKit
set_option linter.unusedVariables false
set_option linter.unusedSimpArgs false
namespace checks8
set_option maxRecDepth 100000 in
theorem contract (H : Type) (enc : TypeId × Value → H) (W : World) (base : Nat) (args : Array Value) (ds gs : List (DataW H)) (before : List MemPlace)
    (hval : ∀ (j : Nat) t v, Try.f8.params[j]? = some t → args[j]? = some v → Value.okWide Try.prog W .any base t v)
    (hW : DataW.Whole enc Try.prog Try.f8.params.toList Rows.orderChecksSpec.vars false W args.toList ds gs before) (hk : Rows.uptoSmall H (ds ++ gs) = true) :
    Calls Try.prog 8 args W fun e W' => ∃ v, e = .returned v ∧ Rows.orderChecksSpec.post enc Try.prog Try.f8 false true false false W args v W' := by
  have hW' := hW
  obtain ⟨p, q, hA0, hV, rfl, hfz, hnd⟩ := hW
  have hA : DataW.TrodAll enc Try.prog W 0 (fun _ => true) true Try.f8.params.toList args.toList ds p := hA0
  rw [Try.params8] at hA hval
  obtain ⟨v0, v1, d0, d1, p0, p1, rfl, rfl, rfl, h0, h1⟩ := trodAll_two hA
  obtain ⟨rfl, rfl⟩ := trodVars_none hV
  have hb := bulk_ok hk
  obtain ⟨n, rfl, rfl, rfl, wn⟩ := open_int Try.underlying3 (hval 0 3 v0 rfl rfl) h0
  obtain ⟨fuel, hf⟩ := h1
  obtain ⟨xs, hxs, hlen⟩ := open_list Try.underlying23 Try.underlying3 (by kernel_rfl) (okWide_slice Try.underlying23 (hval 1 23 v1 rfl rfl)) hf
  have hb1 : xs.length < 10000000 := by
    have := bulk_part (show d1 ∈ [DataW.lit (.int .i64 n), d1] ++ [] by simp)
    omega
  have hc := calls_true (W := W) (us := [.int .i64 n, ints xs]) (vs := [.int .i64 n, v1]) (law_checks n xs hb1) rfl (fun j u v hu hv => by
    match j with
    | 0 => simp at hu hv; subst hu; subst hv; exact .int _ _
    | 1 => simp at hu hv; subst hu; subst hv; exact hxs
    | j + 2 => simp at hu)
  refine hc.mono fun e W' ⟨he, hbe⟩ => ?_
  subst he
  exact ⟨_, rfl, post_true hW' hA0 (by rw [Try.params8]; decide +kernel) (by kernel_rfl) rfl rfl hbe⟩
set_option maxRecDepth 100000 in
theorem lifted (os : Os) (started : os.Started) (H : Type) (enc : TypeId × Value → H) (F : Stop.Interp) :
    ReturnsInHanded {} Try.checked os 8 .any ((Rows.OpenSpec.upto Rows.orderChecksSpec).pre6 enc Try.prog Try.f8 Rows.orderChecksUptoRow.domain false) (((Rows.OpenSpec.upto Rows.orderChecksSpec).at F).post enc Try.prog Try.f8 false true false false) := by
  refine returnsInHanded_of_cond (C := Try.checked) (s := Rows.OpenSpec.upto Rows.orderChecksSpec) (k := Rows.uptoSmall) rfl zOwn started (by kernel_rfl) Try.func8
    (OpenSpec.witness (enc := enc) (C := Try.checked) (s := Rows.OpenSpec.upto Rows.orderChecksSpec) (k := Rows.uptoSmall) rfl false ⟨#[], #[.int .i64 0, .slice none 0 0], []⟩ 8 (by kernel_rfl) (by kernel_rfl) (by kernel_rfl)
      (x := ([.lit (.int .i64 0), .nil], [], [])) (by kernel_rfl) rfl (by kernel_rfl)) ?_
  intro W base args ds gs before hval hW _ hk _
  exact contract H enc W base args ds gs before hval hW hk

theorem over : Rows.orderChecksUptoRow.holds Try.pinned (Rows.OpenSpec.upto Rows.orderChecksSpec) :=
  OpenClaim.holds_of_cond 8 Try.f8 rfl rfl rfl rfl rfl rfl rfl ⟨rfl, rfl, rfl, rfl, rfl⟩ rfl rfl rfl rfl rfl (by kernel_rfl) Try.func8 (by kernel_rfl)
    (of_decide_eq_true (by kernel_rfl)) (by unfold Func.isWrapper; first | (rw [if_pos (by decide +kernel)]; kernel_rfl) | (rw [if_neg (by decide +kernel)]; exact ⟨rfl, rfl⟩))
    (fun os started H enc _ F => lifted os started H enc F)
end checks8

theorem orderChecksProved : Rows.OrderChecksUptoSaid := checks8.over
#print axioms orderChecksProved
end Go.Proofs.Ytgdlkhgfehclpaa
