/- Plain laws of orders: an order's inverse is one, and its inverse is the order. No condition. -/
import Derived.Test.YtgdlkhgfehclpaaPOb
namespace Go.Proofs.Ytgdlkhgfehclpaa
open Go Go.AL
theorem pigeon : ∀ (n : Nat) (l : List Nat), l.Nodup → (∀ x, x ∈ l → x < n) → l.length ≤ n
  | 0, l, _, h => by
    cases l with
    | nil => exact Nat.le_refl _
    | cons a l => exact absurd (h a (by simp)) (Nat.not_lt_zero _)
  | n + 1, l, hn, h => by
    have h1 := pigeon n (l.erase n) (hn.erase n) (fun x hx => by
      have h2 := (List.Nodup.mem_erase_iff hn).1 hx
      have h3 := h x h2.2
      have h4 := h2.1
      omega)
    rw [List.length_erase] at h1
    split at h1 <;> omega
theorem gd {xs : List Int} {i : Nat} (h : i < xs.length) : xs.getD i default = xs[i] := by simp [List.getD_eq_getElem?_getD, List.getElem?_eq_getElem h]
theorem ord_onto {xs : List Int} (h : ordOK xs.length xs) {v : Nat} (hv : v < xs.length) : ∃ j, j < xs.length ∧ xs.getD j default = v := by
  rcases Classical.em (∃ j, j < xs.length ∧ xs.getD j default = v) with hc | hc
  · exact hc
  have hp : (v :: xs.map Int.toNat).length ≤ xs.length := by
    refine pigeon _ _ ?_ ?_
    · refine List.nodup_cons.2 ⟨fun hm => ?_, ?_⟩
      · obtain ⟨x, hx, e⟩ := List.mem_map.1 hm
        obtain ⟨i, hi, e2⟩ := List.getElem_of_mem hx
        have h1 := (h i hi).1
        rw [gd hi, e2] at h1
        exact hc ⟨i, hi, by rw [gd hi, e2]; omega⟩
      · refine List.pairwise_iff_getElem.2 fun i j hi hj hij => ?_
        simp only [List.length_map] at hi hj
        simp only [List.getElem_map]
        have h1 := (h j hj).2.2 i hij
        have h2 := (h j hj).1
        have h3 := (h i hi).1
        rw [gd hi, gd hj] at h1
        rw [gd hj] at h2
        rw [gd hi] at h3
        omega
    · intro x hx
      rcases List.mem_cons.1 hx with e | hx
      · omega
      · obtain ⟨y, hy, e⟩ := List.mem_map.1 hx
        obtain ⟨i, hi, e2⟩ := List.getElem_of_mem hy
        have h1 := (h i hi).1
        have h2 := (h i hi).2.1
        rw [gd hi, e2] at h1 h2
        omega
  simp only [List.length_cons, List.length_map] at hp
  omega
theorem invK_get {xs : List Int} (h : ordOK xs.length xs) : ∀ k, k ≤ xs.length → ∀ j, j < k → (invK xs k).getD (xs.getD j default).toNat default = j
  | 0, _, j, hj => absurd hj (Nat.not_lt_zero _)
  | k + 1, hk, j, hj => by
    have h1 := h k (by omega)
    simp only [invK]
    rw [List.getD_eq_getElem?_getD, List.getElem?_set]
    by_cases e : (xs.getD k default).toNat = (xs.getD j default).toNat
    · have e1 : j = k := by
        rcases Nat.lt_or_ge j k with hlt | hge
        · exfalso
          have h2 := h j (by omega)
          have h3 := h1.2.2 j hlt
          have h4 := h1.1
          have h5 := h2.1
          omega
        · omega
      subst e1
      have h6 := h1.1
      have h7 := h1.2.1
      rw [if_pos rfl, if_pos (by rw [invK_length]; omega)]
      rfl
    · rw [if_neg e, ← List.getD_eq_getElem?_getD]
      refine invK_get h k (by omega) j ?_
      rcases Nat.lt_or_ge j k with hlt | hge
      · exact hlt
      · exact absurd (by rw [show j = k by omega]) e
theorem checkR_ok {xs : List Int} (h0 : xs.length ≤ 128) (h : ordOK xs.length xs) : checkR xs.length xs = 0 := by
  unfold checkR
  rw [if_neg (by omega), if_neg (by simp), if_pos h]
theorem inv_ord {xs : List Int} (h : ordOK xs.length xs) : ordOK (invK xs xs.length).length (invK xs xs.length) := by
  intro v hv
  rw [invK_length] at hv
  obtain ⟨j, hj, e⟩ := ord_onto h hv
  have h1 := invK_get h xs.length (Nat.le_refl _) j hj
  rw [e, show ((v : Int)).toNat = v from Int.toNat_natCast v] at h1
  refine ⟨by rw [h1]; omega, by rw [h1, invK_length]; omega, fun w hw hc => ?_⟩
  obtain ⟨i, hi, e2⟩ := ord_onto h (v := w) (by omega)
  have h2 := invK_get h xs.length (Nat.le_refl _) i hi
  rw [e2, show ((w : Int)).toNat = w from Int.toNat_natCast w] at h2
  rw [h1, h2] at hc
  have : i = j := by omega
  subst this
  omega
theorem inv_inv {xs : List Int} (h : ordOK xs.length xs) : invK (invK xs xs.length) (invK xs xs.length).length = xs := by
  refine list_ext_getD (by rw [invK_length, invK_length]) fun i hi => ?_
  rw [invK_length, invK_length] at hi
  have h1 := invK_get h xs.length (Nat.le_refl _) i hi
  have h2 := h i hi
  have h3 := h2.1
  have h4 := h2.2.1
  have h5 := invK_get (inv_ord h) _ (Nat.le_refl _) (xs.getD i default).toNat (by rw [invK_length]; omega)
  rw [h1, show ((i : Int)).toNat = i from Int.toNat_natCast i] at h5
  rw [h5]
  omega
theorem invR_two {xs : List Int} (h : invE xs = 0) : invE (invR xs) = 0 ∧ invR (invR xs) = xs := by
  have hc : checkR xs.length xs = 0 := by
    rcases Classical.em (checkR xs.length xs = 0) with hc | hc
    · exact hc
    · rw [(invR_bad hc).2] at h; omega
  obtain ⟨_, h2, _, h4⟩ := checkR_zero hc
  rw [(invR_ok hc).1]
  have h5 := checkR_ok (by rw [invK_length]; omega) (inv_ord h4)
  exact ⟨(invR_ok h5).2, by rw [(invR_ok h5).1]; exact inv_inv h4⟩
end Go.Proofs.Ytgdlkhgfehclpaa
