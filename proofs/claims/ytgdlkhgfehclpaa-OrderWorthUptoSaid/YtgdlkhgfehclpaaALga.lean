/- The small logic's clear of a slice. No condition. -/
import Derived.Test.YtgdlkhgfehclpaaALg
namespace Go.AL
set_option linter.unusedVariables false
set_option linter.unusedSimpArgs false
def clearK (P : Program) (t : TypeId) (h : Heap) (x : AV) (K : Heap → Prop) : Prop :=
  match x with
  | .nils => (telem P t).isSome = true ∧ K h
  | .osl id k i len _ _ => ∃ e z, telem P t = some e ∧ zcells P e = some z ∧ k = z.length ∧ ∃ es ex', h[id]? = some (.arr k es ex') ∧ i + len ≤ es.length ∧ K (h.set id (.arr k (es.take i ++ List.replicate len z ++ es.drop (i + len)) ex'))
  | _ => False
section
variable {P : Program} {a : Fr} {h : Heap}
theorem zeroCells_get {z : Array Value} {n q : Nat} (hq : q < n * z.size) : (Builtin.zeroCells z n).toList[q]? = z[q % z.size]? := by
  have hpos : 0 < z.size := by
    rcases Nat.eq_zero_or_pos z.size with h | h
    · rw [h] at hq; simp at hq
    · exact h
  have : q % z.size < z.size := Nat.mod_lt _ hpos
  simp [Builtin.zeroCells, hq, this]
theorem run_clear {t : TypeId} {ty : TypeId} {I : Nat → Prop} {β : Nat → Nat} {w : World} {x : AV} {v : Value} {K : Heap → Prop} (r : Rel I β h w) (hv : VRel I β h.length w x v) (hk : clearK P t h x K) :
    ∃ w' h', (Builtin.clear_ #[t] ty #[v]).run P w = .ok (.tuple #[]) w' ∧ K h' ∧ Ext I β h w I β h' w' ∧ Rel I β h' w' := by
  cases x with
  | nils =>
    obtain ⟨e, he⟩ := Option.isSome_iff_exists.1 hk.1
    rw [hv.nils_inv]
    exact ⟨w, h, by simp [Builtin.clear_, run_underlying (telem_und he)], hk.2, .refl _ _ _ _, r⟩
  | osl id k i len cap ex =>
    obtain ⟨e, z, he, hz, rfl, es, ex', hob, hle, hk⟩ := hk
    obtain ⟨cp, n, rfl, hid, h1, h2, h3, h4, h5⟩ := hv.osl_inv
    obtain ⟨zv, hz0, hzl, hzs, hz1, hzr⟩ := zcells_sound hz
    obtain ⟨q1, q2, cur, tt, hbk, hkk, hsz, hexx, hcell⟩ := r.obj id _ hob (by simp)
    by_cases hl0 : len = 0
    · subst hl0
      refine ⟨w, h, by simp [Builtin.clear_, run_underlying (telem_und he)], ?_, .refl _ _ _ _, r⟩
      have e1 : h.set id (.arr z.length (es.take i ++ List.replicate 0 z ++ es.drop (i + 0)) ex') = h := by
        apply List.ext_getElem?
        intro j
        by_cases e0 : id = j
        · subst e0
          rw [List.getElem?_set_self hid, hob]
          simp
        · rw [List.getElem?_set_ne e0]
      rw [e1] at hk
      exact hk
    · have hlen : (Builtin.zeroCells zv.cells len).toList.length = len * z.length := by simp [Builtin.zeroCells, hzl]
      have hzone : ∀ v ∈ (Builtin.zeroCells zv.cells len).toList, v.oneCell' = true := fun v hv => by
        obtain ⟨q, hq⟩ := List.getElem?_of_mem hv
        have hlt := (List.getElem?_eq_some_iff.1 hq).1
        rw [hlen, ← hzl] at hlt
        rw [zeroCells_get hlt] at hq
        exact hz1 _ v hq
      have hrow : ∀ (i' : Nat) (e' : List AV), (es.take i ++ List.replicate len z ++ es.drop (i + len))[i']? = some e' → (i ≤ i' ∧ i' < i + len ∧ e' = z) ∨ (¬ (i ≤ i' ∧ i' < i + len) ∧ es[i']? = some e') := by
        intro i' e' hi
        by_cases c1 : i' < i
        · rw [List.append_assoc, List.getElem?_append_left (by simp; omega), List.getElem?_take_of_lt c1] at hi
          exact .inr ⟨by omega, hi⟩
        · by_cases c2 : i' < i + len
          · rw [List.append_assoc, List.getElem?_append_right (by simp; omega), List.getElem?_append_left (by simp; omega), List.getElem?_replicate] at hi
            split at hi
            · exact .inl ⟨by omega, by omega, (Option.some.inj hi).symm⟩
            · cases hi
          · rw [List.append_assoc, List.getElem?_append_right (by simp; omega), List.getElem?_append_right (by simp; omega), List.getElem?_drop] at hi
            refine .inr ⟨by omega, ?_⟩
            rw [← hi]
            congr 1
            simp
            omega
      have hik : (i + len) * z.length ≤ cur.size := Nat.le_trans (Nat.mul_le_mul_right _ hle) hsz
      rw [Nat.add_mul] at hik
      obtain ⟨w', hrun, hext, hrel⟩ := row_ok (P := P) (es' := es.take i ++ List.replicate len z ++ es.drop (i + len)) r hob (i * z.length) (Builtin.zeroCells zv.cells len).toList hzone cur.size (by simp [bsize, hbk]) (by rw [hlen]; exact hik)
        (fun i' e' hi => by
          rcases hrow i' e' hi with ⟨_, _, rfl⟩ | ⟨_, hi⟩
          · rfl
          · exact hkk _ _ hi) (by simp; omega) (fun i' e' j u hi hj => by
          rw [hlen]
          rcases hrow i' e' hi with ⟨c1, c2, rfl⟩ | ⟨c, hi⟩
          · have hjk := (List.getElem?_eq_some_iff.1 hj).1
            have m1 : i * e'.length ≤ i' * e'.length := Nat.mul_le_mul_right _ c1
            have m2 : i' * e'.length + e'.length ≤ i * e'.length + len * e'.length := by
              have := Nat.mul_le_mul_right e'.length (show i' + 1 ≤ i + len by omega)
              rw [Nat.add_mul, Nat.add_mul] at this
              omega
            refine .inl ⟨by omega, by omega, fun v hv => ?_⟩
            rw [zeroCells_get (by rw [hzl]; omega)] at hv
            have e3 : (i' * e'.length + j - i * e'.length) % zv.cells.size = j := by
              rw [hzl, show i' * e'.length + j - i * e'.length = j + (i' - i) * e'.length by rw [Nat.sub_mul]; omega, Nat.add_mul_mod_self_right, Nat.mod_eq_of_lt hjk]
            rw [e3] at hv
            exact .imm _ _ (hzr _ _ j u v hj hv)
          · have hjk : j < z.length := by rw [← hkk _ _ hi]; exact (List.getElem?_eq_some_iff.1 hj).1
            refine .inr ⟨?_, e', hi, hj⟩
            rintro ⟨c1, c2⟩
            apply c
            constructor
            · rcases Nat.lt_or_ge i' i with h | h
              · have := mul_lt_of hjk h; omega
              · exact h
            · rcases Nat.lt_or_ge i' (i + len) with h | h
              · exact h
              · have := Nat.mul_le_mul_right z.length h
                rw [Nat.add_mul] at this
                omega)
      refine ⟨w', _, ?_, hk, hext, hrel⟩
      cases len with
      | zero => exact absurd rfl hl0
      | succ len => simp [Builtin.clear_, run_underlying (telem_und he), hz0, hrun]
  | _ => exact hk.elim
theorem op_clear {dst : Option Tmp} {ty t : TypeId} {pos : String} {after : Array Edge} {guard : Option (Nat × Bool)} {K : AV → Heap → Prop} {x : Operand} (hk : evK a x fun x => clearK P t h x fun h' => K .undef h') :
    OpOk P ⟨dst, .call { callee := .builtin .clear, args := #[x], argTypes := #[t] }, ty, pos, after, guard⟩ a h K := by
  refine .value fun I β w n c r g => ?_
  obtain ⟨u, hu, hk⟩ := evK_sound g hk
  obtain ⟨w', h', hrun, hk, he, hr⟩ := run_clear (P := P) (ty := ty) r hu hk
  refine ⟨_, _, I, β, h', w', ?_, hk, he, hr, .imm _ _ (.undef _ _)⟩
  simp [execOp, resolve, invoke, builtin, hrun, undef]
end
end Go.AL
