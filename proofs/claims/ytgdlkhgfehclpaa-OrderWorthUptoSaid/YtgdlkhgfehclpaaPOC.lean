/- Cores: what the numbers that taking away gives mean. No condition. -/
import Derived.Test.YtgdlkhgfehclpaaPOA
namespace Go.Proofs.Ytgdlkhgfehclpaa
open Go Go.AL
set_option linter.unusedVariables false
set_option linter.unusedSimpArgs false
theorem getB_set {S : List Bool} {v u : Nat} (hv : v < S.length) : (S.set v false).getD u false = (if u = v then false else S.getD u false) := by
  by_cases e : u = v
  · subst e; rw [if_pos rfl]; simp [List.getD_eq_getElem?_getD, List.getElem?_set_self hv]
  · rw [if_neg e]; simp only [List.getD_eq_getElem?_getD, List.getElem?_set_ne (Ne.symm e)]
theorem cnt_mono {st cs : List Int} {n : Nat} (hm : mayP n n st cs) {S T : List Bool} {v : Nat} (hv : v < n) (h : ∀ u, u < n → S.getD u false = true → T.getD u false = true) : cnt st cs S v ≤ cnt st cs T v := by
  have q4 := (may_row hm (show v < (n : Int).toNat by omega)).2.2.2.1
  unfold cnt
  have key : ∀ l : List Int, (∀ w ∈ l, S.getD w.toNat false = true → T.getD w.toNat false = true) → (l.filter (fun w => S.getD w.toNat false)).length ≤ (l.filter (fun w => T.getD w.toNat false)).length := by
    intro l
    induction l with
    | nil => intro _; exact Nat.le_refl _
    | cons x l ih =>
      intro hl
      have ih' := ih (fun w hw => hl w (List.mem_cons_of_mem _ hw))
      rw [List.filter_cons, List.filter_cons]
      by_cases hs : S.getD x.toNat false = true
      · rw [if_pos hs, if_pos (hl x List.mem_cons_self hs)]
        simp only [List.length_cons]; omega
      · rw [if_neg hs]
        split
        · simp only [List.length_cons]; omega
        · exact ih'
  refine key _ fun w hw => ?_
  obtain ⟨i, hi, e⟩ := mem_getD.1 hw
  have h1 := row_nonneg q4 hi
  have h2 := (q4 i hi).2
  exact h w.toNat (by omega)
theorem cnt_congr {st cs : List Int} {n : Nat} (hm : mayP n n st cs) {S T : List Bool} {v : Nat} (hv : v < n) (h : ∀ u, u < n → (S.getD u false = true ↔ T.getD u false = true)) : cnt st cs S v = cnt st cs T v :=
  Nat.le_antisymm (cnt_mono hm hv fun u hu => (h u hu).1) (cnt_mono hm hv fun u hu => (h u hu).2)
/-- There is always one to take away. -/
theorem pst_best (st cs : List Int) {n k : Nat} (hk : k < n) : ∃ v, Best st cs (pst st cs n k).S n v := by
  obtain ⟨u, hu, hs⟩ := trues_pos (S := (pst st cs n k).S) (by rw [pst_trues st cs n k (by omega)]; omega)
  rw [(pst_len st cs n k).1] at hu
  cases hb : bestB st cs (pst st cs n k).S n with
  | none =>
    have := best_none hb u hu
    rw [hs] at this; cases this
  | some v => exact ⟨v, best_some hb⟩
theorem pst_end (st cs : List Int) (n : Nat) : ∀ u, u < n → (pst st cs n n).S.getD u false = false := fun u hu => by
  have h := pst_trues st cs n n (Nat.le_refl _)
  cases hs : (pst st cs n n).S.getD u false with
  | false => rfl
  | true =>
    have := trues_set hs
    omega
theorem getI_set {C : List Int} {v u : Nat} {z : Int} (hv : v < C.length) : (C.set v z).getD u default = (if u = v then z else C.getD u default) := by
  by_cases e : u = v
  · subst e; rw [if_pos rfl]; simp [List.getD_eq_getElem?_getD, List.getElem?_set_self hv]
  · rw [if_neg e]; exact getD_set_ne (Ne.symm e)
/-- Whoever is in a set in which each has at least q neighbours has a core of at least q. -/
theorem core_ge {st cs : List Int} {n : Nat} (hm : mayP n n st cs) {T : List Bool} {q : Nat} (hT : ∀ u, u < n → T.getD u false = true → q ≤ cnt st cs T u) : ∀ u, u < n → T.getD u false = true → (q : Int) ≤ (coresOf st cs n).getD u default := by
  have key : ∀ k, k ≤ n → ((∀ u, u < n → T.getD u false = true → (pst st cs n k).S.getD u false = true) ∨ q ≤ (pst st cs n k).c) ∧ ∀ u, u < n → T.getD u false = true → (pst st cs n k).S.getD u false = false → (q : Int) ≤ (pst st cs n k).C.getD u default := by
    intro k
    induction k with
    | zero =>
      intro _
      refine ⟨.inl fun u hu _ => ?_, fun u hu _ h => ?_⟩
      · simp [pst, List.getD_eq_getElem?_getD, List.getElem?_replicate, hu]
      · simp [pst, List.getD_eq_getElem?_getD, List.getElem?_replicate, hu] at h
    | succ k ih =>
      intro hk
      obtain ⟨ih1, ih2⟩ := ih (by omega)
      obtain ⟨v, hb⟩ := pst_best st cs (show k < n by omega)
      have hl := pst_len st cs n k
      have hge : T.getD v false = true → q ≤ max (pst st cs n k).c (cnt st cs (pst st cs n k).S v) := fun hv => by
        rcases ih1 with h1 | h1
        · have h2 := hT v hb.1 hv
          have h3 := cnt_mono hm hb.1 h1
          omega
        · omega
      rw [pst_step hb]
      refine ⟨?_, fun u hu ht hs => ?_⟩
      · by_cases hv : T.getD v false = true
        · exact .inr (hge hv)
        · rcases ih1 with h1 | h1
          · refine .inl fun u hu ht => ?_
            simp only
            rw [getB_set (by rw [hl.1]; exact hb.1), if_neg (show ¬ u = v from fun e => hv (by rw [← e]; exact ht))]
            exact h1 u hu ht
          · right
            simp only
            omega
      · simp only at hs ⊢
        rw [getB_set (by rw [hl.1]; exact hb.1)] at hs
        rw [getI_set (by rw [hl.2.2]; exact hb.1)]
        by_cases e : u = v
        · subst e
          rw [if_pos rfl]
          have := hge ht
          omega
        · rw [if_neg e] at hs ⊢
          exact ih2 u hu ht hs
  intro u hu ht
  exact (key n (Nat.le_refl _)).2 u hu ht (pst_end st cs n u hu)
/-- Those with a core of at least q have each at least q neighbours among them. -/
theorem core_le {st cs : List Int} {n : Nat} (hm : mayP n n st cs) {H : List Bool} {q : Nat} (hH : ∀ u, u < n → (H.getD u false = true ↔ (q : Int) ≤ (coresOf st cs n).getD u default)) : ∀ u, u < n → H.getD u false = true → q ≤ cnt st cs H u := by
  have key : ∀ k, k ≤ n → ((pst st cs n k).c < q ∧ ∀ u, u < n → (pst st cs n k).S.getD u false = false → (pst st cs n k).C.getD u default < q) ∨ (∃ T : List Bool, q ≤ (pst st cs n k).c ∧ (∀ u, u < n → T.getD u false = true → q ≤ cnt st cs T u) ∧ (∀ u, u < n → (pst st cs n k).S.getD u false = true → T.getD u false = true) ∧ ∀ u, u < n → (pst st cs n k).S.getD u false = false → (T.getD u false = true ↔ (q : Int) ≤ (pst st cs n k).C.getD u default)) := by
    intro k
    induction k with
    | zero =>
      intro _
      rcases Nat.eq_zero_or_pos q with h0 | h0
      · subst h0
        refine .inr ⟨List.replicate n true, Nat.zero_le _, fun u _ _ => Nat.zero_le _, fun u hu h => h, fun u hu h => ?_⟩
        simp [pst, List.getD_eq_getElem?_getD, List.getElem?_replicate, hu] at h
      · refine .inl ⟨h0, fun u hu h => ?_⟩
        simp [pst, List.getD_eq_getElem?_getD, List.getElem?_replicate, hu] at h
    | succ k ih =>
      intro hk
      obtain ⟨v, hb⟩ := pst_best st cs (show k < n by omega)
      have hl := pst_len st cs n k
      rw [pst_step hb]
      simp only
      rcases ih (by omega) with ⟨h1, h2⟩ | ⟨T, h1, h2, h3, h4⟩
      · rcases Nat.lt_or_ge (cnt st cs (pst st cs n k).S v) q with h5 | h5
        · refine .inl ⟨by omega, fun u hu hs => ?_⟩
          rw [getB_set (by rw [hl.1]; exact hb.1)] at hs
          rw [getI_set (by rw [hl.2.2]; exact hb.1)]
          by_cases e : u = v
          · rw [if_pos e]; omega
          · rw [if_neg e] at hs ⊢; exact h2 u hu hs
        · refine .inr ⟨(pst st cs n k).S, by omega, fun u hu hs => ?_, fun u hu hs => ?_, fun u hu hs => ?_⟩
          · have := (hb.2.2 u hu hs).1
            omega
          · rw [getB_set (by rw [hl.1]; exact hb.1)] at hs
            by_cases e : u = v
            · rw [if_pos e] at hs; cases hs
            · rw [if_neg e] at hs; exact hs
          · rw [getB_set (by rw [hl.1]; exact hb.1)] at hs
            rw [getI_set (by rw [hl.2.2]; exact hb.1)]
            by_cases e : u = v
            · subst e
              rw [if_pos rfl]
              exact ⟨fun _ => by omega, fun _ => hb.2.1⟩
            · rw [if_neg e] at hs ⊢
              rw [hs]
              have := h2 u hu hs
              exact ⟨fun h => (by cases h), fun h => (by omega)⟩
      · refine .inr ⟨T, by omega, h2, fun u hu hs => ?_, fun u hu hs => ?_⟩
        · rw [getB_set (by rw [hl.1]; exact hb.1)] at hs
          by_cases e : u = v
          · rw [if_pos e] at hs; cases hs
          · rw [if_neg e] at hs; exact h3 u hu hs
        · rw [getB_set (by rw [hl.1]; exact hb.1)] at hs
          rw [getI_set (by rw [hl.2.2]; exact hb.1)]
          by_cases e : u = v
          · subst e
            rw [if_pos rfl]
            exact ⟨fun _ => by omega, fun _ => h3 u hu hb.2.1⟩
          · rw [if_neg e] at hs ⊢; exact h4 u hu hs
  intro u hu hh
  rcases key n (Nat.le_refl _) with ⟨h1, h2⟩ | ⟨T, h1, h2, h3, h4⟩
  · have h5 := h2 u hu (pst_end st cs n u hu)
    have h6 := (hH u hu).1 hh
    unfold coresOf at h6
    omega
  · have hTH : ∀ w, w < n → (T.getD w false = true ↔ H.getD w false = true) := fun w hw => by
      rw [h4 w hw (pst_end st cs n w hw), hH w hw]
      rfl
    rw [← cnt_congr hm hu hTH]
    exact h2 u hu ((hTH u hu).2 hh)
end Go.Proofs.Ytgdlkhgfehclpaa
