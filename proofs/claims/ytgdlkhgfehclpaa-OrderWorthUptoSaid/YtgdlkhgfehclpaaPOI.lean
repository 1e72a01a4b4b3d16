/- How many edges there can be. No condition. -/
import Derived.Test.YtgdlkhgfehclpaaPOH
namespace Go.Proofs.Ytgdlkhgfehclpaa
open Go Go.AL
set_option linter.unusedVariables false
set_option linter.unusedSimpArgs false
def rsum (f : Nat → Nat) : Nat → Nat
  | 0 => 0
  | n + 1 => rsum f n + f n
theorem rsum_congr {f g : Nat → Nat} : ∀ {n : Nat}, (∀ u, u < n → f u = g u) → rsum f n = rsum g n
  | 0, _ => rfl
  | n + 1, h => by
    simp only [rsum]
    rw [rsum_congr (fun u hu => h u (by omega)), h n (by omega)]
theorem rsum_add {f g : Nat → Nat} : ∀ {n : Nat}, rsum (fun u => f u + g u) n = rsum f n + rsum g n
  | 0 => rfl
  | n + 1 => by
    simp only [rsum]
    rw [rsum_add]
    omega
theorem rsum_zero : ∀ {n : Nat}, rsum (fun _ => 0) n = 0
  | 0 => rfl
  | n + 1 => by simp only [rsum]; rw [rsum_zero]
theorem rsum_one {v c : Nat} : ∀ {n : Nat}, rsum (fun u => if u = v then c else 0) n = if v < n then c else 0
  | 0 => by simp [rsum]
  | n + 1 => by
    simp only [rsum]
    rw [rsum_one]
    by_cases h1 : n = v
    · rw [if_neg (by omega), if_pos h1, if_pos (by omega)]; omega
    · rw [if_neg h1]
      by_cases h2 : v < n
      · rw [if_pos h2, if_pos (by omega)]; omega
      · rw [if_neg h2, if_neg (by omega)]
theorem rsum_mem {p : Nat → Bool} {n : Nat} : ∀ {l : List Int}, l.Nodup → (∀ w, w ∈ l → 0 ≤ w ∧ w < n) → rsum (fun u => if (u : Int) ∈ l ∧ p u = true then 1 else 0) n = (l.filter (fun w => p w.toNat)).length
  | [], _, _ => by
    simp only [List.not_mem_nil, false_and, if_false, List.filter_nil, List.length_nil]
    exact rsum_zero
  | x :: l, hn, hr => by
    rw [List.nodup_cons] at hn
    obtain ⟨x0, hx⟩ := Int.eq_ofNat_of_zero_le (hr x List.mem_cons_self).1
    have hxn := (hr x List.mem_cons_self).2
    have ih := rsum_mem (p := p) hn.2 (fun w hw => hr w (List.mem_cons_of_mem _ hw))
    have e : rsum (fun u => if (u : Int) ∈ x :: l ∧ p u = true then 1 else 0) n = rsum (fun u => (if u = x0 then (if p x0 = true then 1 else 0) else 0) + (if (u : Int) ∈ l ∧ p u = true then 1 else 0)) n := by
      refine rsum_congr fun u hu => ?_
      by_cases c : u = x0
      · subst c
        have n1 : ¬ ((u : Int) ∈ l ∧ p u = true) := fun h => hn.1 (by rw [hx]; exact h.1)
        have n2 : ((u : Int) ∈ x :: l ∧ p u = true) ↔ p u = true := by
          rw [hx]
          exact ⟨fun h => h.2, fun h => ⟨List.mem_cons_self, h⟩⟩
        simp only [n2, if_neg n1, if_true]
        omega
      · rw [if_neg c]
        have : ((u : Int) ∈ x :: l ∧ p u = true) ↔ ((u : Int) ∈ l ∧ p u = true) := by
          rw [List.mem_cons]
          constructor
          · rintro ⟨h | h, h2⟩
            · omega
            · exact ⟨h, h2⟩
          · rintro ⟨h, h2⟩; exact ⟨.inr h, h2⟩
        simp only [this]
        omega
    rw [e, rsum_add, ih, rsum_one, if_pos (by omega), List.filter_cons, hx, Int.toNat_natCast]
    split
    · simp only [List.length_cons]; omega
    · omega
/-- The degrees of a set, within it. -/
def degs (st cs : List Int) (n : Nat) (S : List Bool) : Nat := rsum (fun u => if S.getD u false = true then cnt st cs S u else 0) n
theorem degs_drop {st cs : List Int} {n : Nat} (hg : graphP n n st cs) {S : List Bool} {v : Nat} (hv : v < n) (hs : S.getD v false = true) (hl : v < S.length) : degs st cs n S = degs st cs n (S.set v false) + 2 * cnt st cs S v := by
  have q4 := (may_row hg.1.1 (show v < (n : Int).toNat by omega)).2.2.2.1
  have hm := rsum_mem (p := fun u => (S.set v false).getD u false) (n := n) (nodup_row q4) (fun w hw => by
    obtain ⟨i, hi, e⟩ := mem_getD.1 hw
    have := row_nonneg q4 hi
    have := (q4 i hi).2
    omega)
  have h1 : cnt st cs (S.set v false) v = cnt st cs S v := cnt_self hg hv hs hl
  have h2 : ((rowOf st cs v).filter (fun w : Int => (S.set v false).getD w.toNat false)).length = cnt st cs (S.set v false) v := rfl
  have h3 : degs st cs n S = rsum (fun u => ((if (S.set v false).getD u false = true then cnt st cs (S.set v false) u else 0) + (if (u : Int) ∈ rowOf st cs v ∧ (S.set v false).getD u false = true then 1 else 0)) + (if u = v then cnt st cs S v else 0)) n := by
    refine rsum_congr fun u hu => ?_
    rw [getB_set hl]
    by_cases c : u = v
    · subst c
      rw [if_pos rfl, if_pos hs, if_neg (by simp), if_neg (by simp), if_pos rfl]
      omega
    · rw [if_neg c, if_neg c]
      have h4 := cnt_drop hg hv hu hs hl
      cases hsu : S.getD u false with
      | false => simp
      | true =>
        rw [if_pos rfl, if_pos rfl, ← h4]
        simp only [and_true]
        omega
  have e1 := rsum_add (n := n) (f := fun u => ((if (S.set v false).getD u false = true then cnt st cs (S.set v false) u else 0) + (if (u : Int) ∈ rowOf st cs v ∧ (S.set v false).getD u false = true then 1 else 0))) (g := fun u => (if u = v then cnt st cs S v else 0))
  have e2 := rsum_add (n := n) (f := fun u => (if (S.set v false).getD u false = true then cnt st cs (S.set v false) u else 0)) (g := fun u => (if (u : Int) ∈ rowOf st cs v ∧ (S.set v false).getD u false = true then 1 else 0))
  have e3 := rsum_one (v := v) (c := cnt st cs S v) (n := n)
  rw [if_pos hv] at e3
  rw [h3, e1, e2, hm, h2, e3, h1]
  unfold degs
  omega
theorem degs_all {st cs : List Int} {n : Nat} (hm : mayP n n st cs) : degs st cs n (List.replicate n true) = cs.length := by
  have hS : ∀ w : Nat, w < n → (List.replicate n true).getD w false = true := fun w hw => by rw [List.getD_eq_getElem?_getD, List.getElem?_replicate, if_pos hw]; rfl
  have h1 : degs st cs n (List.replicate n true) = rsum (fun u => (rowOf st cs u).length) n := by
    refine rsum_congr fun u hu => ?_
    rw [if_pos (hS u hu), cnt, List.filter_eq_self.2]
    intro w hw
    have q4 := (may_row hm (show u < (n : Int).toNat by omega)).2.2.2.1
    obtain ⟨i, hi, e⟩ := mem_getD.1 hw
    have := row_nonneg q4 hi
    have := (q4 i hi).2
    exact hS _ (by omega)
  have h2 : ∀ k, k ≤ n → rsum (fun u => (rowOf st cs u).length) k = (st.getD k default).toNat := by
    intro k
    induction k with
    | zero => intro _; rw [hm.2.2.2.1]; rfl
    | succ k ih =>
      intro hk
      obtain ⟨q1, q2, q3, q4, q5, q6, q7⟩ := may_row hm (show k < (n : Int).toNat by omega)
      simp only [rsum]
      rw [ih (by omega), q5]
      omega
  have h3 := hm.2.2.2.2.1
  rw [Int.toNat_natCast] at h3
  rw [h1, h2 n (Nat.le_refl n), h3]
  exact Int.toNat_natCast _
theorem edges_le {st cs : List Int} {n : Nat} (hg : graphP n n st cs) : (cs.length : Int) ≤ 2 * mxK (coresOf st cs n) n * n := by
  obtain ⟨g0, g1⟩ := mxK_ge (C := coresOf st cs n) n
  obtain ⟨d, hd⟩ := Int.eq_ofNat_of_zero_le g0
  have key : ∀ k, k ≤ n → cs.length ≤ degs st cs n (pst st cs n k).S + 2 * (d * k) := by
    intro k
    induction k with
    | zero =>
      intro _
      rw [show (pst st cs n 0).S = List.replicate n true from rfl, degs_all hg.1.1]
      omega
    | succ k ih =>
      intro hk
      have hb := bv_best (st := st) (cs := cs) (show k < n by omega)
      have h1 := degs_drop hg hb.1 hb.2.1 (by rw [(pst_len st cs n k).1]; exact hb.1)
      have h2 : (pst st cs n (k + 1)).S = (pst st cs n k).S.set (bv st cs n k) false := by rw [pst_next (by omega)]
      have h3 := c_ge (st := st) (cs := cs) (show k < n by omega)
      have h4 := g1 _ hb.1
      rw [show (coresOf st cs n).getD (bv st cs n k) default = (pst st cs n (k + 1)).c from C_get (Nat.le_refl n) k (by omega)] at h4
      have h5 := ih (by omega)
      rw [h2, show d * (k + 1) = d * k + d from Nat.mul_succ d k]
      omega
  have h1 := key n (Nat.le_refl n)
  have h2 : degs st cs n (pst st cs n n).S = 0 := by
    unfold degs
    rw [rsum_congr (g := fun _ => 0) fun u hu => by rw [pst_end st cs n u hu]; rfl]
    exact rsum_zero
  rw [h2] at h1
  rw [hd, show 2 * (d : Int) * n = ((2 * (d * n) : Nat) : Int) by push_cast; rw [Int.mul_assoc]]
  omega
end Go.Proofs.Ytgdlkhgfehclpaa
