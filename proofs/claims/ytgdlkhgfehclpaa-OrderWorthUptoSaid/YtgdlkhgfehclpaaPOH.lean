/- What an order that is made by taking away is worth. No condition. -/
import Derived.Test.YtgdlkhgfehclpaaPOE
namespace Go.Proofs.Ytgdlkhgfehclpaa
open Go Go.AL
set_option linter.unusedVariables false
set_option linter.unusedSimpArgs false
/-- Who is taken away in step i. -/
def bv (st cs : List Int) (n i : Nat) : Nat := (bestB st cs (pst st cs n i).S n).getD 0
theorem bv_best {st cs : List Int} {n i : Nat} (hi : i < n) : Best st cs (pst st cs n i).S n (bv st cs n i) := by
  obtain ⟨v, hb⟩ := pst_best st cs hi
  unfold bv
  rw [best_uniq hb]
  exact hb
theorem pst_next {st cs : List Int} {n i : Nat} (hi : i < n) : pst st cs n (i + 1) = ⟨(pst st cs n i).S.set (bv st cs n i) false, max (pst st cs n i).c (cnt st cs (pst st cs n i).S (bv st cs n i)), (pst st cs n i).O.set (n - 1 - i) (bv st cs n i), (pst st cs n i).C.set (bv st cs n i) (max (pst st cs n i).c (cnt st cs (pst st cs n i).S (bv st cs n i)) : Nat)⟩ := pst_step (bv_best hi)
theorem S_next {st cs : List Int} {n i u : Nat} (hi : i < n) : (pst st cs n (i + 1)).S.getD u false = (if u = bv st cs n i then false else (pst st cs n i).S.getD u false) := by
  rw [pst_next hi]
  exact getB_set (by rw [(pst_len st cs n i).1]; exact (bv_best hi).1)
theorem S_mono {st cs : List Int} {n u : Nat} : ∀ {d i : Nat}, i + d ≤ n → (pst st cs n (i + d)).S.getD u false = true → (pst st cs n i).S.getD u false = true
  | 0, i, _, h => h
  | d + 1, i, hd, h => by
    rw [show i + (d + 1) = (i + d) + 1 by omega, S_next (by omega)] at h
    split at h
    · cases h
    · exact S_mono (by omega) h
theorem S_le {st cs : List Int} {n u i j : Nat} (hij : i ≤ j) (hj : j ≤ n) (h : (pst st cs n j).S.getD u false = true) : (pst st cs n i).S.getD u false = true := by
  have := S_mono (st := st) (cs := cs) (n := n) (u := u) (d := j - i) (i := i) (by omega) (by rw [show i + (j - i) = j by omega]; exact h)
  exact this
theorem bv_gone {st cs : List Int} {n i j : Nat} (hij : i < j) (hj : j ≤ n) : (pst st cs n j).S.getD (bv st cs n i) false = false := by
  cases h : (pst st cs n j).S.getD (bv st cs n i) false with
  | false => rfl
  | true =>
    have h1 := S_le (i := i + 1) (by omega) hj h
    rw [S_next (by omega), if_pos rfl] at h1
    cases h1
theorem bv_ne {st cs : List Int} {n i j : Nat} (hij : i < j) (hj : j < n) : bv st cs n i ≠ bv st cs n j := fun e => by
  have h1 := bv_gone (st := st) (cs := cs) hij (Nat.le_of_lt hj)
  rw [e, (bv_best hj).2.1] at h1
  cases h1
/-- Whoever is left is taken away later. -/
theorem bv_onto {st cs : List Int} {n u : Nat} (hu : u < n) : ∀ {d i : Nat}, i + d = n → (pst st cs n i).S.getD u false = true → ∃ j, i ≤ j ∧ j < n ∧ bv st cs n j = u
  | 0, i, e, h => by
    rw [show i = n by omega, pst_end st cs n u hu] at h
    cases h
  | d + 1, i, e, h => by
    by_cases c : u = bv st cs n i
    · exact ⟨i, Nat.le_refl _, by omega, c.symm⟩
    · obtain ⟨j, h1, h2, h3⟩ := bv_onto hu (d := d) (i := i + 1) (by omega) (by rw [S_next (by omega), if_neg c]; exact h)
      exact ⟨j, by omega, h2, h3⟩
theorem S_iff {st cs : List Int} {n i u : Nat} (hi : i ≤ n) (hu : u < n) : (pst st cs n i).S.getD u false = true ↔ ∃ j, i ≤ j ∧ j < n ∧ bv st cs n j = u := by
  constructor
  · exact bv_onto hu (d := n - i) (by omega)
  · rintro ⟨j, h1, h2, rfl⟩
    exact S_le h1 (by omega) (bv_best h2).2.1
theorem bv_all {st cs : List Int} {n u : Nat} (hu : u < n) : ∃ j, j < n ∧ bv st cs n j = u := by
  obtain ⟨j, _, h2, h3⟩ := (S_iff (st := st) (cs := cs) (Nat.zero_le n) hu).1 (by simp [pst, List.getD_eq_getElem?_getD, List.getElem?_replicate, hu])
  exact ⟨j, h2, h3⟩
theorem O_get {st cs : List Int} {n : Nat} : ∀ {k : Nat}, k ≤ n → ∀ i, i < k → (pst st cs n k).O.getD (n - 1 - i) default = bv st cs n i
  | 0, _, i, h => absurd h (Nat.not_lt_zero _)
  | k + 1, hk, i, h => by
    rw [pst_next (by omega)]
    simp only
    rw [getI_set (by rw [(pst_len st cs n k).2.1]; omega)]
    by_cases e : i = k
    · subst e; rw [if_pos rfl]
    · rw [if_neg (by omega)]; exact O_get (by omega) i (by omega)
theorem C_get {st cs : List Int} {n : Nat} : ∀ {k : Nat}, k ≤ n → ∀ i, i < k → (pst st cs n k).C.getD (bv st cs n i) default = (pst st cs n (i + 1)).c
  | 0, _, i, h => absurd h (Nat.not_lt_zero _)
  | k + 1, hk, i, h => by
    by_cases e : i = k
    · subst e
      rw [pst_next (by omega)]
      simp only
      rw [getI_set (by rw [(pst_len st cs n i).2.2]; exact (bv_best (by omega)).1), if_pos rfl]
    · rw [pst_next (show k < n by omega)]
      simp only
      rw [getI_set (by rw [(pst_len st cs n k).2.2]; exact (bv_best (by omega)).1), if_neg (bv_ne (by omega) (by omega))]
      exact C_get (by omega) i (by omega)
theorem c_at {st cs : List Int} {n : Nat} : ∀ {k : Nat}, k ≤ n → (pst st cs n k).c = 0 ∨ ∃ j, j < k ∧ (pst st cs n k).c = cnt st cs (pst st cs n j).S (bv st cs n j)
  | 0, _ => .inl rfl
  | k + 1, hk => by
    rw [pst_next (by omega)]
    simp only
    rcases Nat.lt_or_ge (pst st cs n k).c (cnt st cs (pst st cs n k).S (bv st cs n k)) with h1 | h1
    · exact .inr ⟨k, by omega, by omega⟩
    · rcases c_at (st := st) (cs := cs) (n := n) (k := k) (by omega) with h2 | ⟨j, h2, h3⟩
      · left; omega
      · exact .inr ⟨j, by omega, by omega⟩
theorem c_ge {st cs : List Int} {n i : Nat} (hi : i < n) : cnt st cs (pst st cs n i).S (bv st cs n i) ≤ (pst st cs n (i + 1)).c := by
  rw [pst_next hi]
  simp only
  omega
/-- The order that taking away gives. -/
def ordOf (st cs : List Int) (n : Nat) : List Int := (pst st cs n n).O
theorem ordOf_len {st cs : List Int} {n : Nat} : (ordOf st cs n).length = n := (pst_len st cs n n).2.1
theorem ordOf_get {st cs : List Int} {n p : Nat} (hp : p < n) : (ordOf st cs n).getD p default = bv st cs n (n - 1 - p) := by
  have := O_get (st := st) (cs := cs) (Nat.le_refl n) (n - 1 - p) (by omega)
  rw [show n - 1 - (n - 1 - p) = p by omega] at this
  exact this
theorem ordOf_ok {st cs : List Int} {n : Nat} : ordOK (ordOf st cs n).length (ordOf st cs n) := fun p hp => by
  rw [ordOf_len] at hp ⊢
  unfold okAt
  rw [ordOf_get hp]
  have h1 := (bv_best (st := st) (cs := cs) (show n - 1 - p < n by omega)).1
  refine ⟨by omega, by omega, fun q hq => ?_⟩
  rw [ordOf_get (by omega)]
  have := bv_ne (st := st) (cs := cs) (n := n) (show n - 1 - p < n - 1 - q by omega) (by omega)
  omega
theorem cnt_self {st cs : List Int} {n : Nat} (hg : graphP n n st cs) {S : List Bool} {v : Nat} (hv : v < n) (hs : S.getD v false = true) (hl : v < S.length) : cnt st cs (S.set v false) v = cnt st cs S v := by
  have := cnt_drop hg hv hv hs hl
  rw [if_neg (hg.2 v (by omega))] at this
  exact this
theorem bk_ord {st cs : List Int} {n i : Nat} (hg : graphP n n st cs) (hi : i < n) : bk st cs (invK (ordOf st cs n) (ordOf st cs n).length) (bv st cs n i) = cnt st cs (pst st cs n i).S (bv st cs n i) := by
  have hb := bv_best (st := st) (cs := cs) hi
  have hS : ∀ u : Nat, u < n → ((pst st cs n (i + 1)).S.getD u false = true ↔ ∃ j, j < n - 1 - i ∧ (ordOf st cs n).getD j default = u) := fun u hu => by
    rw [S_iff (by omega) hu]
    constructor
    · rintro ⟨j, h1, h2, h3⟩
      exact ⟨n - 1 - j, by omega, by rw [ordOf_get (by omega), show n - 1 - (n - 1 - j) = j by omega, h3]⟩
    · rintro ⟨j, h1, h2⟩
      rw [ordOf_get (by omega)] at h2
      exact ⟨n - 1 - j, by omega, by omega, by omega⟩
  have h1 := cnt_bk hg.1.1 ordOf_len ordOf_ok (show n - 1 - i < n by omega) (v := bv st cs n i) (by rw [ordOf_get (by omega), show n - 1 - (n - 1 - i) = i by omega]) hS
  rw [← h1, pst_next hi]
  simp only
  exact cnt_self hg hb.1 hb.2.1 (by rw [(pst_len st cs n i).1]; exact hb.1)
/-- The order that taking away gives is worth the greatest core. -/
theorem worth_eq {st cs : List Int} {n : Nat} (hg : graphP n n st cs) : mxK (bkL st cs (invK (ordOf st cs n) (ordOf st cs n).length) n) n = mxK (coresOf st cs n) n := by
  obtain ⟨g0, g1⟩ := mxK_ge (C := coresOf st cs n) n
  refine mxK_uniq g0 (fun u hu => ?_) ?_
  · obtain ⟨j, h1, h2⟩ := bv_all (st := st) (cs := cs) hu
    subst h2
    rw [bkL_get hu, bk_ord hg h1]
    have h3 := g1 _ hu
    rw [show (coresOf st cs n).getD (bv st cs n j) default = (pst st cs n (j + 1)).c from C_get (Nat.le_refl n) j h1] at h3
    have := c_ge (st := st) (cs := cs) h1
    omega
  · rcases mxK_at (C := coresOf st cs n) n with h1 | ⟨u, h1, h2⟩
    · exact .inl h1
    · obtain ⟨j, h3, h4⟩ := bv_all (st := st) (cs := cs) h1
      subst h4
      rw [show (coresOf st cs n).getD (bv st cs n j) default = (pst st cs n (j + 1)).c from C_get (Nat.le_refl n) j h3] at h2
      rcases c_at (st := st) (cs := cs) (n := n) (k := j + 1) (by omega) with h5 | ⟨i, h5, h6⟩
      · left; omega
      · refine .inr ⟨bv st cs n i, (bv_best (by omega)).1, ?_⟩
        rw [bkL_get (bv_best (by omega)).1, bk_ord hg (by omega)]
        omega
theorem last_of {Q : Nat → Prop} : ∀ n, (∃ i, i < n ∧ Q i) → ∃ p, p < n ∧ Q p ∧ ∀ i, p < i → i < n → ¬ Q i
  | 0, ⟨i, h, _⟩ => absurd h (Nat.not_lt_zero _)
  | n + 1, ⟨i, h, hq⟩ => by
    rcases Classical.em (Q n) with h1 | h1
    · exact ⟨n, by omega, h1, fun j h2 h3 => by omega⟩
    · have hin : i < n := by
        rcases Nat.lt_or_ge i n with h2 | h2
        · exact h2
        · rw [show i = n by omega] at hq; exact absurd hq h1
      obtain ⟨p, h2, h3, h4⟩ := last_of n ⟨i, hin, hq⟩
      refine ⟨p, by omega, h3, fun j h5 h6 => ?_⟩
      rcases Nat.lt_or_ge j n with h7 | h7
      · exact h4 j h5 h7
      · rw [show j = n by omega]; exact h1
/-- No order is worth less. -/
theorem worth_ge {st cs xs : List Int} {n : Nat} (hg : graphP n n st cs) (hxl : xs.length = n) (hord : ordOK xs.length xs) : mxK (coresOf st cs n) n ≤ mxK (bkL st cs (invK xs xs.length) n) n := by
  obtain ⟨b0, b1⟩ := mxK_ge (C := bkL st cs (invK xs xs.length) n) n
  rcases mxK_at (C := coresOf st cs n) n with h1 | ⟨u, h1, h2⟩
  · omega
  have hd0 := (mxK_ge (C := coresOf st cs n) n).1
  obtain ⟨d, hd⟩ := Int.eq_ofNat_of_zero_le hd0
  have hHu : (coreH st cs n d).getD u false = true := (coreH_get h1).2 (by omega)
  obtain ⟨j0, hj0, e0⟩ := ord_onto hord (show u < xs.length by omega)
  obtain ⟨p, hp, hq, hlast⟩ := last_of (Q := fun i => (coreH st cs n d).getD (xs.getD i default).toNat false = true) n ⟨j0, by omega, by rw [e0, Int.toNat_natCast]; exact hHu⟩
  have hx0 := hord p (by omega)
  obtain ⟨v, hv⟩ := Int.eq_ofNat_of_zero_le hx0.1
  have hvn : v < n := by have := hx0.2.1; omega
  rw [hv, Int.toNat_natCast] at hq
  have hPu : ∀ t, t < n → (invK xs xs.length).getD (xs.getD t default).toNat default = t := fun t ht => invK_get hord xs.length (Nat.le_refl _) t (by omega)
  have hS : ∀ w : Nat, w < n → (((List.range n).map fun w => decide ((invK xs xs.length).getD w default < (p : Int))).getD w false = true ↔ ∃ j, j < p ∧ xs.getD j default = w) := fun w hw => by
    simp only [List.getD_eq_getElem?_getD, List.getElem?_map, List.getElem?_range hw, Option.map_some, Option.getD_some, decide_eq_true_iff]
    obtain ⟨t, ht, e⟩ := ord_onto hord (show w < xs.length by omega)
    have h3 := hPu t (by omega)
    rw [e, Int.toNat_natCast, List.getD_eq_getElem?_getD] at h3
    rw [h3]
    constructor
    · intro h4; exact ⟨t, by omega, by rw [← List.getD_eq_getElem?_getD]; exact e⟩
    · rintro ⟨j, h4, h5⟩
      rw [← List.getD_eq_getElem?_getD] at h5
      rcases Nat.lt_trichotomy j t with h6 | h6 | h6
      · have := (hord t ht).2.2 j h6; omega
      · omega
      · have := (hord j (by omega)).2.2 t h6; omega
  have h3 := cnt_bk hg.1.1 hxl hord hp hv hS
  have h4 := core_le hg.1.1 (H := coreH st cs n d) (fun w hw => coreH_get hw) v hvn hq
  have h5 := cnt_self hg hvn hq (by rw [coreH_len]; exact hvn)
  have h6 := cnt_mono hg.1.1 (S := (coreH st cs n d).set v false) (T := (List.range n).map fun w => decide ((invK xs xs.length).getD w default < (p : Int))) hvn (fun w hw hws => by
    rw [getB_set (by rw [coreH_len]; exact hvn)] at hws
    split at hws
    · cases hws
    · rename_i hne
      refine (hS w hw).2 ?_
      obtain ⟨t, ht, e⟩ := ord_onto hord (show w < xs.length by omega)
      refine ⟨t, ?_, e⟩
      rcases Nat.lt_trichotomy t p with h7 | h7 | h7
      · exact h7
      · subst h7; omega
      · exact absurd (by rw [e, Int.toNat_natCast]; exact hws) (hlast t h7 (by omega)))
  have h7 := b1 v hvn
  rw [bkL_get hvn] at h7
  omega
end Go.Proofs.Ytgdlkhgfehclpaa
