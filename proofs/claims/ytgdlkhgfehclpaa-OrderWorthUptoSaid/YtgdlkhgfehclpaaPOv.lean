/- Vertices taken away one by one: the plain part. No condition. -/
import Derived.Test.YtgdlkhgfehclpaaPOt
import Derived.Test.YtgdlkhgfehclpaaPOp
namespace Go.Proofs.Ytgdlkhgfehclpaa
open Go Go.AL
set_option linter.unusedVariables false
set_option linter.unusedSimpArgs false
/-- How many of a vertex's neighbours are in a set. -/
def cnt (st cs : List Int) (S : List Bool) (v : Nat) : Nat := ((rowOf st cs v).filter (fun w => S.getD w.toNat false)).length
/-- The last one below k of those that have the fewest neighbours in the set. -/
def bestB (st cs : List Int) (S : List Bool) : Nat → Option Nat
  | 0 => none
  | k + 1 => match bestB st cs S k with
    | none => if S.getD k false then some k else none
    | some b => if S.getD k false = true ∧ cnt st cs S k ≤ cnt st cs S b then some k else some b
def Best (st cs : List Int) (S : List Bool) (k v : Nat) : Prop := v < k ∧ S.getD v false = true ∧ ∀ u, u < k → S.getD u false = true → cnt st cs S v ≤ cnt st cs S u ∧ (cnt st cs S u = cnt st cs S v → u ≤ v)
theorem best_none {st cs : List Int} {S : List Bool} : ∀ {k : Nat}, bestB st cs S k = none → ∀ u, u < k → S.getD u false = false
  | 0, _, u, h => absurd h (Nat.not_lt_zero _)
  | k + 1, e, u, h => by
    simp only [bestB] at e
    cases hb : bestB st cs S k with
    | none =>
      rw [hb] at e
      simp only at e
      split at e
      · cases e
      · rename_i hk
        rcases Nat.lt_or_ge u k with h1 | h1
        · exact best_none hb u h1
        · rw [show u = k by omega]; simpa using hk
    | some b =>
      rw [hb] at e
      simp only at e
      split at e <;> cases e
theorem best_some {st cs : List Int} {S : List Bool} : ∀ {k v : Nat}, bestB st cs S k = some v → Best st cs S k v
  | 0, v, e => by cases e
  | k + 1, v, e => by
    simp only [bestB] at e
    cases hb : bestB st cs S k with
    | none =>
      rw [hb] at e
      simp only at e
      split at e
      · rename_i hk
        cases e
        refine ⟨by omega, hk, fun u hu hs => ?_⟩
        rcases Nat.lt_or_ge u k with h1 | h1
        · have := best_none hb u h1
          rw [hs] at this; cases this
        · rw [show u = k by omega]; exact ⟨Nat.le_refl _, fun _ => Nat.le_refl _⟩
      · cases e
    | some b =>
      rw [hb] at e
      obtain ⟨b1, b2, b3⟩ := best_some hb
      simp only at e
      split at e
      · rename_i hk
        cases e
        refine ⟨by omega, hk.1, fun u hu hs => ?_⟩
        rcases Nat.lt_or_ge u k with h1 | h1
        · have := b3 u h1 hs
          exact ⟨by omega, fun _ => by omega⟩
        · rw [show u = k by omega]; exact ⟨Nat.le_refl _, fun _ => Nat.le_refl _⟩
      · rename_i hk
        cases e
        refine ⟨by omega, b2, fun u hu hs => ?_⟩
        rcases Nat.lt_or_ge u k with h1 | h1
        · exact b3 u h1 hs
        · obtain rfl : u = k := by omega
          have : ¬ cnt st cs S u ≤ cnt st cs S v := fun h => hk ⟨hs, h⟩
          exact ⟨by omega, fun _ => by omega⟩
theorem best_uniq {st cs : List Int} {S : List Bool} {k v : Nat} (h : Best st cs S k v) : bestB st cs S k = some v := by
  cases hb : bestB st cs S k with
  | none =>
    have := best_none hb v h.1
    rw [h.2.1] at this; cases this
  | some b =>
    obtain ⟨b1, b2, b3⟩ := best_some hb
    have h1 := h.2.2 b b1 b2
    have h2 := b3 v h.1 h.2.1
    have h3 := h1.2 (by omega)
    have h4 := h2.2 (by omega)
    rw [show b = v by omega]
structure PT where
  S : List Bool
  c : Nat
  O : List Int
  C : List Int
/-- What is known when k vertices have been taken away. -/
def pst (st cs : List Int) (n : Nat) : Nat → PT
  | 0 => ⟨List.replicate n true, 0, List.replicate n 0, List.replicate n 0⟩
  | k + 1 => match bestB st cs (pst st cs n k).S n with
    | none => pst st cs n k
    | some v => ⟨(pst st cs n k).S.set v false, max (pst st cs n k).c (cnt st cs (pst st cs n k).S v), (pst st cs n k).O.set (n - 1 - k) v, (pst st cs n k).C.set v (max (pst st cs n k).c (cnt st cs (pst st cs n k).S v) : Nat)⟩
def trues (S : List Bool) : Nat := (S.filter id).length
theorem trues_set {v : Nat} : ∀ {S : List Bool}, S.getD v false = true → trues (S.set v false) + 1 = trues S := by
  induction v with
  | zero =>
    intro S h
    cases S with
    | nil => simp at h
    | cons x S => simp at h; rw [h]; simp [trues]
  | succ v ih =>
    intro S h
    cases S with
    | nil => simp at h
    | cons b S =>
      simp only [List.getD_cons_succ] at h
      have := ih h
      cases b <;> simp [trues] at this ⊢ <;> omega
theorem trues_pos {S : List Bool} (h : 0 < trues S) : ∃ v, v < S.length ∧ S.getD v false = true := by
  unfold trues at h
  obtain ⟨x, hx⟩ := List.exists_mem_of_length_pos h
  rw [List.mem_filter] at hx
  obtain ⟨i, hi, e⟩ := List.getElem_of_mem hx.1
  exact ⟨i, hi, by rw [List.getD_eq_getElem?_getD, List.getElem?_eq_getElem hi, e]; exact hx.2⟩
theorem pst_len (st cs : List Int) (n : Nat) : ∀ k, (pst st cs n k).S.length = n ∧ (pst st cs n k).O.length = n ∧ (pst st cs n k).C.length = n
  | 0 => by simp [pst]
  | k + 1 => by
    have := pst_len st cs n k
    simp only [pst]
    cases bestB st cs (pst st cs n k).S n with
    | none => exact this
    | some v => simpa using this
theorem pst_step {st cs : List Int} {n k v : Nat} (h : Best st cs (pst st cs n k).S n v) : pst st cs n (k + 1) = ⟨(pst st cs n k).S.set v false, max (pst st cs n k).c (cnt st cs (pst st cs n k).S v), (pst st cs n k).O.set (n - 1 - k) v, (pst st cs n k).C.set v (max (pst st cs n k).c (cnt st cs (pst st cs n k).S v) : Nat)⟩ := by
  simp only [pst, best_uniq h]
theorem pst_trues (st cs : List Int) (n : Nat) : ∀ k, k ≤ n → trues (pst st cs n k).S = n - k
  | 0, _ => by simp [pst, trues]
  | k + 1, hk => by
    have h1 := pst_trues st cs n k (by omega)
    obtain ⟨u, hu, hs⟩ := trues_pos (S := (pst st cs n k).S) (by omega)
    rw [(pst_len st cs n k).1] at hu
    cases hb : bestB st cs (pst st cs n k).S n with
    | none =>
      have := best_none hb u hu
      rw [hs] at this; cases this
    | some v =>
      have hv := best_some hb
      rw [pst_step hv]
      have := trues_set hv.2.1
      simp only
      omega
theorem cnt_le {st cs : List Int} {S : List Bool} {v : Nat} : cnt st cs S v ≤ (rowOf st cs v).length := List.length_filter_le _ _
/-- One leaves the set. -/
theorem filter_drop {p p' : Int → Bool} {v : Int} (hv : p' v = false) (ho : ∀ w, w ≠ v → p' w = p w) : ∀ {l : List Int}, l.Nodup → (l.filter p').length + (if v ∈ l ∧ p v = true then 1 else 0) = (l.filter p).length
  | [], _ => by simp
  | x :: l, hn => by
    rw [List.nodup_cons] at hn
    have ih := filter_drop hv ho hn.2
    by_cases e : x = v
    · subst e
      rw [if_neg (fun h => hn.1 h.1)] at ih
      rw [List.filter_cons, if_neg (by simp [hv])]
      cases hp : p x with
      | true => rw [if_pos ⟨List.mem_cons_self, rfl⟩, List.filter_cons, if_pos hp]; simp only [List.length_cons]; omega
      | false => rw [if_neg (by simp), List.filter_cons, if_neg (by simp [hp])]; omega
    · have h1 : (v ∈ x :: l ∧ p v = true) ↔ (v ∈ l ∧ p v = true) := by
        simp only [List.mem_cons]
        constructor
        · rintro ⟨h | h, h2⟩
          · exact absurd h.symm e
          · exact ⟨h, h2⟩
        · rintro ⟨h, h2⟩; exact ⟨.inr h, h2⟩
      simp only [h1]
      rw [List.filter_cons, List.filter_cons, ho x e]
      split
      · simp only [List.length_cons]; omega
      · exact ih
end Go.Proofs.Ytgdlkhgfehclpaa
