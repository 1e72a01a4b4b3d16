/- Texts of one claim bound together: POv, POu, POw, POx, POy, POA, POC, POD, POE, POH, POI, POK, POL, POX. -/
import Derived.Test.YtgdlkhgfehclpaaGreatQW4

section
/- Vertices taken away one by one: the plain part. No condition. -/
namespace Go.Proofs.YtgdlkhgfehclpaaGreat
open Go Go.AL
set_option linter.unusedVariables false
set_option linter.unusedSimpArgs false
/-- How many of a vertex's neighbours are in a set. -/
def cnt (st cs : List Int) (S : List Bool) (v : Nat) : Nat := ((rowOf st cs v).filter (fun w => S.getD w.toNat false)).length
/-- The last one below k of those that have the fewest neighbours in the set. -/
def bestB (st cs : List Int) (S : List Bool) : Nat → Option Nat
  | 0 => none
  | k + 1 => match bestB st cs S k with
    | none => if S.getD k false then some k else none
    | some b => if S.getD k false = true ∧ cnt st cs S k ≤ cnt st cs S b then some k else some b
def Best (st cs : List Int) (S : List Bool) (k v : Nat) : Prop := v < k ∧ S.getD v false = true ∧ ∀ u, u < k → S.getD u false = true → cnt st cs S v ≤ cnt st cs S u ∧ (cnt st cs S u = cnt st cs S v → u ≤ v)
theorem best_none {st cs : List Int} {S : List Bool} : ∀ {k : Nat}, bestB st cs S k = none → ∀ u, u < k → S.getD u false = false
  | 0, _, u, h => absurd h (Nat.not_lt_zero _)
  | k + 1, e, u, h => by
    simp only [bestB] at e
    cases hb : bestB st cs S k with
    | none =>
      rw [hb] at e
      simp only at e
      split at e
      · cases e
      · rename_i hk
        rcases Nat.lt_or_ge u k with h1 | h1
        · exact best_none hb u h1
        · rw [show u = k by omega]; simpa using hk
    | some b =>
      rw [hb] at e
      simp only at e
      split at e <;> cases e
theorem best_some {st cs : List Int} {S : List Bool} : ∀ {k v : Nat}, bestB st cs S k = some v → Best st cs S k v
  | 0, v, e => by cases e
  | k + 1, v, e => by
    simp only [bestB] at e
    cases hb : bestB st cs S k with
    | none =>
      rw [hb] at e
      simp only at e
      split at e
      · rename_i hk
        cases e
        refine ⟨by omega, hk, fun u hu hs => ?_⟩
        rcases Nat.lt_or_ge u k with h1 | h1
        · have := best_none hb u h1
          rw [hs] at this; cases this
        · rw [show u = k by omega]; exact ⟨Nat.le_refl _, fun _ => Nat.le_refl _⟩
      · cases e
    | some b =>
      rw [hb] at e
      obtain ⟨b1, b2, b3⟩ := best_some hb
      simp only at e
      split at e
      · rename_i hk
        cases e
        refine ⟨by omega, hk.1, fun u hu hs => ?_⟩
        rcases Nat.lt_or_ge u k with h1 | h1
        · have := b3 u h1 hs
          exact ⟨by omega, fun _ => by omega⟩
        · rw [show u = k by omega]; exact ⟨Nat.le_refl _, fun _ => Nat.le_refl _⟩
      · rename_i hk
        cases e
        refine ⟨by omega, b2, fun u hu hs => ?_⟩
        rcases Nat.lt_or_ge u k with h1 | h1
        · exact b3 u h1 hs
        · obtain rfl : u = k := by omega
          have : ¬ cnt st cs S u ≤ cnt st cs S v := fun h => hk ⟨hs, h⟩
          exact ⟨by omega, fun _ => by omega⟩
theorem best_uniq {st cs : List Int} {S : List Bool} {k v : Nat} (h : Best st cs S k v) : bestB st cs S k = some v := by
  cases hb : bestB st cs S k with
  | none =>
    have := best_none hb v h.1
    rw [h.2.1] at this; cases this
  | some b =>
    obtain ⟨b1, b2, b3⟩ := best_some hb
    have h1 := h.2.2 b b1 b2
    have h2 := b3 v h.1 h.2.1
    have h3 := h1.2 (by omega)
    have h4 := h2.2 (by omega)
    rw [show b = v by omega]
structure PT where
  S : List Bool
  c : Nat
  O : List Int
  C : List Int
/-- What is known when k vertices have been taken away. -/
def pst (st cs : List Int) (n : Nat) : Nat → PT
  | 0 => ⟨List.replicate n true, 0, List.replicate n 0, List.replicate n 0⟩
  | k + 1 => match bestB st cs (pst st cs n k).S n with
    | none => pst st cs n k
    | some v => ⟨(pst st cs n k).S.set v false, max (pst st cs n k).c (cnt st cs (pst st cs n k).S v), (pst st cs n k).O.set (n - 1 - k) v, (pst st cs n k).C.set v (max (pst st cs n k).c (cnt st cs (pst st cs n k).S v) : Nat)⟩
def trues (S : List Bool) : Nat := (S.filter id).length
theorem trues_set {v : Nat} : ∀ {S : List Bool}, S.getD v false = true → trues (S.set v false) + 1 = trues S := by
  induction v with
  | zero =>
    intro S h
    cases S with
    | nil => simp at h
    | cons x S => simp at h; rw [h]; simp [trues]
  | succ v ih =>
    intro S h
    cases S with
    | nil => simp at h
    | cons b S =>
      simp only [List.getD_cons_succ] at h
      have := ih h
      cases b <;> simp [trues] at this ⊢ <;> omega
theorem trues_pos {S : List Bool} (h : 0 < trues S) : ∃ v, v < S.length ∧ S.getD v false = true := by
  unfold trues at h
  obtain ⟨x, hx⟩ := List.exists_mem_of_length_pos h
  rw [List.mem_filter] at hx
  obtain ⟨i, hi, e⟩ := List.getElem_of_mem hx.1
  exact ⟨i, hi, by rw [List.getD_eq_getElem?_getD, List.getElem?_eq_getElem hi, e]; exact hx.2⟩
theorem pst_len (st cs : List Int) (n : Nat) : ∀ k, (pst st cs n k).S.length = n ∧ (pst st cs n k).O.length = n ∧ (pst st cs n k).C.length = n
  | 0 => by simp [pst]
  | k + 1 => by
    have := pst_len st cs n k
    simp only [pst]
    cases bestB st cs (pst st cs n k).S n with
    | none => exact this
    | some v => simpa using this
theorem pst_step {st cs : List Int} {n k v : Nat} (h : Best st cs (pst st cs n k).S n v) : pst st cs n (k + 1) = ⟨(pst st cs n k).S.set v false, max (pst st cs n k).c (cnt st cs (pst st cs n k).S v), (pst st cs n k).O.set (n - 1 - k) v, (pst st cs n k).C.set v (max (pst st cs n k).c (cnt st cs (pst st cs n k).S v) : Nat)⟩ := by
  simp only [pst, best_uniq h]
theorem pst_trues (st cs : List Int) (n : Nat) : ∀ k, k ≤ n → trues (pst st cs n k).S = n - k
  | 0, _ => by simp [pst, trues]
  | k + 1, hk => by
    have h1 := pst_trues st cs n k (by omega)
    obtain ⟨u, hu, hs⟩ := trues_pos (S := (pst st cs n k).S) (by omega)
    rw [(pst_len st cs n k).1] at hu
    cases hb : bestB st cs (pst st cs n k).S n with
    | none =>
      have := best_none hb u hu
      rw [hs] at this; cases this
    | some v =>
      have hv := best_some hb
      rw [pst_step hv]
      have := trues_set hv.2.1
      simp only
      omega
theorem cnt_le {st cs : List Int} {S : List Bool} {v : Nat} : cnt st cs S v ≤ (rowOf st cs v).length := List.length_filter_le _ _
/-- One leaves the set. -/
theorem filter_drop {p p' : Int → Bool} {v : Int} (hv : p' v = false) (ho : ∀ w, w ≠ v → p' w = p w) : ∀ {l : List Int}, l.Nodup → (l.filter p').length + (if v ∈ l ∧ p v = true then 1 else 0) = (l.filter p).length
  | [], _ => by simp
  | x :: l, hn => by
    rw [List.nodup_cons] at hn
    have ih := filter_drop hv ho hn.2
    by_cases e : x = v
    · subst e
      rw [if_neg (fun h => hn.1 h.1)] at ih
      rw [List.filter_cons, if_neg (by simp [hv])]
      cases hp : p x with
      | true => rw [if_pos ⟨List.mem_cons_self, rfl⟩, List.filter_cons, if_pos hp]; simp only [List.length_cons]; omega
      | false => rw [if_neg (by simp), List.filter_cons, if_neg (by simp [hp])]; omega
    · have h1 : (v ∈ x :: l ∧ p v = true) ↔ (v ∈ l ∧ p v = true) := by
        simp only [List.mem_cons]
        constructor
        · rintro ⟨h | h, h2⟩
          · exact absurd h.symm e
          · exact ⟨h, h2⟩
        · rintro ⟨h, h2⟩; exact ⟨.inr h, h2⟩
      simp only [h1]
      rw [List.filter_cons, List.filter_cons, ho x e]
      split
      · simp only [List.length_cons]; omega
      · exact ih
end Go.Proofs.YtgdlkhgfehclpaaGreat
end

section
/- order.peel: the buckets are filled. No condition. -/
namespace Go.Proofs.YtgdlkhgfehclpaaGreat
open Go Go.AL
set_option linter.unusedVariables false
set_option linter.unusedSimpArgs false
/-- Which numbers below m lie in which bucket. -/
def BR (m : Nat) (L : List Int) (B : Nat → List Int) : Prop := ∀ d : Nat, (B d).Nodup ∧ ∀ w : Int, w ∈ B d ↔ 0 ≤ w ∧ w < m ∧ L.getD w.toNat default = d
theorem BR.len {m : Nat} {L : List Int} {B : Nat → List Int} (h : BR m L B) (d : Nat) : (B d).length ≤ m := by
  have := pigeon m ((B d).map Int.toNat) (by
    refine List.pairwise_map.2 ?_
    refine List.Pairwise.imp_of_mem ?_ (h d).1
    intro a b ha hb hab
    have h1 := ((h d).2 a).1 ha
    have h2 := ((h d).2 b).1 hb
    omega) (fun x hx => by
    obtain ⟨y, hy, e⟩ := List.mem_map.1 hx
    have := ((h d).2 y).1 hy
    omega)
  simpa using this
theorem mem_rid {v w : Int} {l : List Int} : w ∈ rid v l ↔ w ∈ l ∧ w ≠ v := by simp [rid]
theorem nodup_rid {v : Int} {l : List Int} (h : l.Nodup) : (rid v l).Nodup := h.filter _
theorem nodup_row {w : Int} {l : List Int} (h : rowOK w l) : l.Nodup := by
  refine List.pairwise_iff_getElem.2 fun i j hi hj hij => ?_
  have := row_lt h hij hj
  rw [gd hi, gd hj] at this
  omega
theorem row_len {n : Nat} {st cs : List Int} (h : mayP n n st cs) {v : Nat} (hv : v < n) : (rowOf st cs v).length ≤ n := by
  obtain ⟨h1, h2, h3, h4, h5, h6, h7⟩ := may_row h (show v < (n : Int).toNat by omega)
  have := pigeon n ((rowOf st cs v).map Int.toNat) (by
    refine List.pairwise_map.2 ?_
    refine List.Pairwise.imp_of_mem ?_ (nodup_row h4)
    intro a b ha hb hab
    obtain ⟨i, hi, e1⟩ := mem_getD.1 ha
    obtain ⟨j, hj, e2⟩ := mem_getD.1 hb
    have := row_nonneg h4 hi
    have := row_nonneg h4 hj
    omega) (fun x hx => by
    obtain ⟨y, hy, e⟩ := List.mem_map.1 hx
    obtain ⟨i, hi, e1⟩ := mem_getD.1 hy
    have := row_nonneg h4 hi
    have := (h4 i hi).2
    omega)
  simpa using this
theorem BR.push {k : Nat} {L : List Int} {B : Nat → List Int} (h : BR k L B) (hk : k < L.length) (y : Nat) : BR (k + 1) (L.set k (y : Nat)) (updB B y (B y ++ [((k : Nat) : Int)])) := fun d => by
  have key : ∀ w : Int, 0 ≤ w → (L.set k (y : Int)).getD w.toNat default = if w = k then (y : Int) else L.getD w.toNat default := fun w hw => by
    by_cases e : w = k
    · subst e
      rw [if_pos rfl, Int.toNat_natCast]
      simp [List.getD_eq_getElem?_getD, List.getElem?_set_self hk]
    · rw [if_neg e, getD_set_ne (by omega)]
  by_cases hd : d = y
  · subst hd
    rw [updB_same]
    refine ⟨List.nodup_append.2 ⟨(h d).1, by simp, fun a ha b hb => ?_⟩, fun w => ?_⟩
    · have := ((h d).2 a).1 ha
      simp at hb
      omega
    · rw [List.mem_append, (h d).2 w]
      simp only [List.mem_singleton]
      constructor
      · rintro (h1 | rfl)
        · exact ⟨h1.1, by omega, by rw [key w h1.1, if_neg (by omega)]; exact h1.2.2⟩
        · exact ⟨by omega, by omega, by rw [key _ (by omega), if_pos rfl]⟩
      · rintro ⟨h1, h2, h3⟩
        rw [key w h1] at h3
        by_cases e : w = k
        · exact .inr e
        · rw [if_neg e] at h3; exact .inl ⟨h1, by omega, h3⟩
  · rw [updB_ne hd]
    refine ⟨(h d).1, fun w => ?_⟩
    rw [(h d).2 w]
    constructor
    · rintro ⟨h1, h2, h3⟩
      exact ⟨h1, by omega, by rw [key w h1, if_neg (by omega)]; exact h3⟩
    · rintro ⟨h1, h2, h3⟩
      rw [key w h1] at h3
      by_cases e : w = k
      · rw [if_pos e] at h3; omega
      · rw [if_neg e] at h3; exact ⟨h1, by omega, h3⟩
def F3 : Nat → Prop := fun i => i < 3
def Fx (o7 o8 : Nat) : Nat → Prop := fun i => i < 3 ∨ i = o7 ∨ i = o8
/-- How many neighbours are left: of those that are gone -1. -/
def LR (st cs : List Int) (n : Nat) (S : List Bool) (L : List Int) : Prop := ∀ v : Nat, v < n → L.getD v default = if S.getD v false = true then ((cnt st cs S v : Nat) : Int) else -1
def PJ (st cs : List Int) (n m : Nat) (a : Fr) (h : Heap) : Prop := ∃ (k o7 o8 at' : Nat) (L : List Int) (cells : List (List AV)) (B : Nat → List Int), m = n - k ∧ k ≤ n ∧ L.length = n ∧ LR st cs n (pst st cs n k).S L ∧ BR n L B ∧ PS (Fx o7 o8) n h cells B ∧ h[0]? = some (patO n n st cs) ∧ h[1]? = some (.arr 1 (List.map intE L) true) ∧ h[2]? = some (.arr 1 cells true) ∧
  h[o7]? = some (.arr 1 (List.map intE (pst st cs n k).O) true) ∧ h[o8]? = some (.arr 1 (List.map intE (pst st cs n k).C) true) ∧ 3 ≤ o7 ∧ 3 ≤ o8 ∧ o7 ≠ o8 ∧ at' ≤ n ∧ (∀ d, d < at' → B d = []) ∧
  a 1 = .op 0 4 0 0 ∧ a 4 = .osl 1 1 0 n n true ∧ a 5 = .osl 2 1 0 (n + 1) (n + 1) true ∧ a 7 = .osl o7 1 0 n n true ∧ a 8 = .osl o8 1 0 n n true ∧ a 9 = .int .i64 at' ∧ a 10 = .int .i64 (pst st cs n k).c ∧ a 11 = .int .i64 ((n : Int) - 1 - k)
theorem lr_start {st cs : List Int} {n : Nat} (hm : mayP n n st cs) {L : List Int} (hd : ∀ v : Nat, v < n → L.getD v default = (rowOf st cs v).length) : LR st cs n (pst st cs n 0).S L := fun v hv => by
  obtain ⟨h1, h2, h3, h4, h5, h6, h7⟩ := may_row hm (show v < (n : Int).toNat by omega)
  have hS : ∀ w : Nat, w < n → (List.replicate n true).getD w false = true := fun w hw => by rw [List.getD_eq_getElem?_getD, List.getElem?_replicate, if_pos hw]; rfl
  rw [hd v hv]
  change _ = if (List.replicate n true).getD v false = true then ((cnt st cs (List.replicate n true) v : Nat) : Int) else -1
  rw [if_pos (hS v hv), cnt, List.filter_eq_self.2]
  intro w hw
  obtain ⟨i, hi, e⟩ := mem_getD.1 hw
  have := row_nonneg h4 hi
  have := (h4 i hi).2
  exact hS _ (by omega)
theorem bucket_some {st cs : List Int} {n k : Nat} (hm : mayP n n st cs) (hk : k < n) {L : List Int} {B : Nat → List Int} (hL : LR st cs n (pst st cs n k).S L) (hB : BR n L B) : ∃ d, d ≤ n ∧ B d ≠ [] := by
  obtain ⟨v, hv, hs⟩ := trues_pos (S := (pst st cs n k).S) (by rw [pst_trues st cs n k (by omega)]; omega)
  rw [(pst_len st cs n k).1] at hv
  have h1 := hL v hv
  rw [if_pos hs] at h1
  refine ⟨cnt st cs (pst st cs n k).S v, Nat.le_trans cnt_le (row_len hm hv), fun e => ?_⟩
  have h2 := ((hB (cnt st cs (pst st cs n k).S v)).2 (v : Int)).2 ⟨by omega, by omega, by rw [Int.toNat_natCast]; exact h1⟩
  rw [e] at h2
  cases h2
theorem best_of {st cs : List Int} {n q : Nat} {S : List Bool} {L : List Int} {B : Nat → List Int} (hn : L.length = n) (hL : LR st cs n S L) (hB : BR n L B) (hlow : ∀ d, d < q → B d = []) (h0 : 0 < (B q).length) :
    ∃ v : Nat, maxK (B q) ((B q).length - 1) = v ∧ v < n ∧ L.getD v default = q ∧ cnt st cs S v = q ∧ Best st cs S n v := by
  obtain ⟨j, hj, e⟩ := maxK_mem (l := B q) ((B q).length - 1)
  have hm := ((hB q).2 (maxK (B q) ((B q).length - 1))).1 (by rw [e]; exact mem_getD.2 ⟨j, by omega, rfl⟩)
  obtain ⟨v, hv⟩ := Int.eq_ofNat_of_zero_le hm.1
  have hm2 := hm.2.2
  rw [hv] at hm
  rw [hv, Int.toNat_natCast] at hm2
  have hvn : v < n := by omega
  have key : ∀ u, u < n → S.getD u false = true → L.getD u default = cnt st cs S u ∧ (u : Int) ∈ B (cnt st cs S u) := fun u hu hs => by
    have h1 := hL u hu
    rw [if_pos hs] at h1
    exact ⟨h1, ((hB _).2 _).2 ⟨by omega, by omega, by rw [Int.toNat_natCast]; exact h1⟩⟩
  have hs : S.getD v false = true := by
    have h1 := hL v hvn
    cases hsv : S.getD v false with
    | true => rfl
    | false => rw [hsv, if_neg (by simp)] at h1; omega
  have hc : cnt st cs S v = q := by
    have := (key v hvn hs).1
    omega
  refine ⟨v, hv, hvn, hm2, hc, hvn, hs, fun u hu hus => ⟨?_, fun e => ?_⟩⟩
  · have h1 := (key u hu hus).2
    rcases Nat.lt_or_ge (cnt st cs S u) q with h2 | h2
    · rw [hlow _ h2] at h1; cases h1
    · omega
  · have h1 := (key u hu hus).2
    rw [e, hc] at h1
    obtain ⟨i, hi, e2⟩ := mem_getD.1 h1
    have h3 := maxK_le (l := B q) ((B q).length - 1) i (by omega)
    omega
theorem BR.drop {n : Nat} {L : List Int} {B : Nat → List Int} (h : BR n L B) {v q : Nat} (hv : v < L.length) (hq : L.getD v default = q) : BR n (L.set v (-1)) (updB B q (rid v (B q))) := fun d => by
  have key : ∀ w : Int, 0 ≤ w → (L.set v (-1)).getD w.toNat default = if w = v then -1 else L.getD w.toNat default := fun w hw => by
    by_cases e : w = v
    · subst e
      rw [if_pos rfl, Int.toNat_natCast]
      simp [List.getD_eq_getElem?_getD, List.getElem?_set_self hv]
    · rw [if_neg e, getD_set_ne (by omega)]
  by_cases hd : d = q
  · subst hd
    rw [updB_same]
    refine ⟨nodup_rid (h d).1, fun w => ?_⟩
    rw [mem_rid, (h d).2 w]
    constructor
    · rintro ⟨⟨h1, h2, h3⟩, h4⟩
      exact ⟨h1, h2, by rw [key w h1, if_neg h4]; exact h3⟩
    · rintro ⟨h1, h2, h3⟩
      rw [key w h1] at h3
      by_cases e : w = v
      · rw [if_pos e] at h3; omega
      · rw [if_neg e] at h3; exact ⟨⟨h1, h2, h3⟩, e⟩
  · rw [updB_ne hd]
    refine ⟨(h d).1, fun w => ?_⟩
    rw [(h d).2 w]
    constructor
    · rintro ⟨h1, h2, h3⟩
      refine ⟨h1, h2, ?_⟩
      rw [key w h1]
      by_cases e : w = v
      · subst e; rw [Int.toNat_natCast] at h3; omega
      · rw [if_neg e]; exact h3
    · rintro ⟨h1, h2, h3⟩
      rw [key w h1] at h3
      by_cases e : w = v
      · rw [if_pos e] at h3; omega
      · rw [if_neg e] at h3; exact ⟨h1, h2, h3⟩
theorem BR.move {n : Nat} {L : List Int} {B : Nat → List Int} (h : BR n L B) {w e : Nat} (hw : w < L.length) (hwn : w < n) (he : L.getD w default = e) (h1 : 1 ≤ e) : BR n (L.set w ((e : Int) - 1)) (updB (updB B e (rid w (B e))) (e - 1) (updB B e (rid w (B e)) (e - 1) ++ [(w : Int)])) := fun d => by
  have key : ∀ u : Int, 0 ≤ u → (L.set w ((e : Int) - 1)).getD u.toNat default = if u = w then (e : Int) - 1 else L.getD u.toNat default := fun u hu => by
    by_cases c : u = w
    · subst c
      rw [if_pos rfl, Int.toNat_natCast]
      simp [List.getD_eq_getElem?_getD, List.getElem?_set_self hw]
    · rw [if_neg c, getD_set_ne (by omega)]
  by_cases hd : d = e - 1
  · subst hd
    rw [updB_same, updB_ne (by omega)]
    refine ⟨List.nodup_append.2 ⟨(h _).1, by simp, fun a ha b hb => ?_⟩, fun u => ?_⟩
    · have h2 := ((h _).2 a).1 ha
      simp at hb
      subst hb
      intro c
      subst c
      rw [Int.toNat_natCast] at h2
      omega
    · rw [List.mem_append, (h _).2 u]
      simp only [List.mem_singleton]
      constructor
      · rintro (h2 | rfl)
        · refine ⟨h2.1, h2.2.1, ?_⟩
          rw [key u h2.1]
          by_cases c : u = w
          · rw [if_pos c]; omega
          · rw [if_neg c]; exact h2.2.2
        · exact ⟨by omega, by omega, by rw [key _ (by omega), if_pos rfl]; omega⟩
      · rintro ⟨h2, h3, h4⟩
        rw [key u h2] at h4
        by_cases c : u = w
        · exact .inr c
        · rw [if_neg c] at h4; exact .inl ⟨h2, h3, h4⟩
  · rw [updB_ne hd]
    by_cases hde : d = e
    · subst hde
      rw [updB_same]
      refine ⟨nodup_rid (h d).1, fun u => ?_⟩
      rw [mem_rid, (h d).2 u]
      constructor
      · rintro ⟨⟨h2, h3, h4⟩, h5⟩
        exact ⟨h2, h3, by rw [key u h2, if_neg h5]; exact h4⟩
      · rintro ⟨h2, h3, h4⟩
        rw [key u h2] at h4
        by_cases c : u = w
        · rw [if_pos c] at h4; omega
        · rw [if_neg c] at h4; exact ⟨⟨h2, h3, h4⟩, c⟩
    · rw [updB_ne hde]
      refine ⟨(h d).1, fun u => ?_⟩
      rw [(h d).2 u]
      constructor
      · rintro ⟨h2, h3, h4⟩
        refine ⟨h2, h3, ?_⟩
        rw [key u h2]
        by_cases c : u = w
        · subst c; rw [Int.toNat_natCast] at h4; omega
        · rw [if_neg c]; exact h4
      · rintro ⟨h2, h3, h4⟩
        rw [key u h2] at h4
        by_cases c : u = w
        · rw [if_pos c] at h4; omega
        · rw [if_neg c] at h4; exact ⟨h2, h3, h4⟩
theorem sym_row {st cs : List Int} {n : Nat} (hg : graphP n n st cs) {u v : Nat} (hu : u < n) (h : (v : Int) ∈ rowOf st cs u) : (u : Int) ∈ rowOf st cs v := by
  obtain ⟨j, hj, e⟩ := mem_getD.1 h
  have := hg.1.2.2 u (by omega) j hj
  rw [e, Int.toNat_natCast] at this
  exact this
theorem cnt_drop {st cs : List Int} {n : Nat} (hg : graphP n n st cs) {S : List Bool} {u v : Nat} (hv : v < n) (hu : u < n) (hs : S.getD v false = true) (hl : v < S.length) : cnt st cs (S.set v false) u + (if (u : Int) ∈ rowOf st cs v then 1 else 0) = cnt st cs S u := by
  have hm := may_row hg.1.1 (show u < (n : Int).toNat by omega)
  have key := filter_drop (p := fun w : Int => S.getD w.toNat false && decide (0 ≤ w)) (p' := fun w : Int => (S.set v false).getD w.toNat false && decide (0 ≤ w)) (v := (v : Int)) (by simp [List.getD_eq_getElem?_getD, List.getElem?_set_self hl]) (fun w hw => by
    by_cases h0 : 0 ≤ w
    · simp only [h0, decide_true, Bool.and_true]
      simp only [List.getD_eq_getElem?_getD, List.getElem?_set_ne (show v ≠ w.toNat by omega)]
    · simp [h0]) (nodup_row hm.2.2.2.1)
  have e : ∀ T : List Bool, ((rowOf st cs u).filter (fun w : Int => T.getD w.toNat false && decide (0 ≤ w))).length = cnt st cs T u := fun T => by
    unfold cnt
    congr 1
    refine List.filter_congr fun w hw => ?_
    obtain ⟨i, hi, e⟩ := mem_getD.1 hw
    have := row_nonneg hm.2.2.2.1 hi
    rw [show decide (0 ≤ w) = true by simp; omega, Bool.and_true]
  rw [e, e] at key
  have h2 : ((v : Int) ∈ rowOf st cs u ∧ (S.getD ((v : Int)).toNat false && decide (0 ≤ (v : Int))) = true) ↔ (u : Int) ∈ rowOf st cs v := by
    rw [Int.toNat_natCast, hs]
    constructor
    · rintro ⟨h, _⟩; exact sym_row hg hu h
    · intro h; exact ⟨sym_row hg hv h, by simp⟩
  simp only [h2] at key
  exact key
theorem both {G C : Fr → Heap → Prop} {a1 a2 : Fr} {h1 h2 : Heap} (c1 : C a1 h1) (c2 : C a2 h2) (h : ∀ a h, C a h → G a h) : G a1 h1 ∧ G a2 h2 := ⟨h _ _ c1, h _ _ c2⟩
theorem pair3 {A1 B1 C1 A2 B2 C2 L1 L2 : Prop} (a1 : A1) (b1 : B1) (c1 : C1) (a2 : A2) (b2 : B2) (c2 : C2) (l : L1 ∧ L2) : (A1 ∧ B1 ∧ C1 ∧ L1) ∧ (A2 ∧ B2 ∧ C2 ∧ L2) := ⟨⟨a1, b1, c1, l.1⟩, ⟨a2, b2, c2, l.2⟩⟩
set_option maxHeartbeats 40000000 in
set_option maxRecDepth 100000 in
theorem peel_c (n : Nat) (hn : n ≤ 128) (st cs : List Int) (hb : st.length < 1000000000) (hb2 : cs.length < 1000000000) (hg : graphP n n st cs) : ACalls Tryz.prog 23 [pat n n st cs] [] fun v h => ∃ o7 o8, v = .tup [.osl o7 1 0 n n true, .osl o8 1 0 n n true] ∧ h[o7]? = some (.arr 1 (List.map intE (pst st cs n n).O) true) ∧ h[o8]? = some (.arr 1 (List.map intE (pst st cs n n).C) true) := by
  have hm : mayP n n st cs := hg.1.1
  refine (wp23 rfl rfl ?_)
  simp (maxSteps := 4000000) +contextual only [↓packA, ↓reduceIte, packB, pureOp, quietOp, loadOp, quietB, fr0, cellsK, implies_true, ite_true, ite_false, eq_self, ne_eq, reduceCtorEq, Nat.reduceLT, Nat.reduceLeDiff, Nat.reduceAdd, Nat.reduceMul, Nat.reduceBEq, Nat.reduceEqDiff, Int.reduceToNat, Int.reduceLT, Int.reduceLE, Nat.reduceSub, pl23, ft1, ft3, ft22, ft24, ft28, ft92, ints]
  refine ⟨by omega, by omega, by omega, ?_⟩
  refine LoopK.intro (fun m a h => ∃ (k : Nat) (L : List Int) (cells : List (List AV)) (B : Nat → List Int), m = n - k ∧ k ≤ n ∧ L.length = n ∧ (∀ v : Nat, v < k → L.getD v default = (rowOf st cs v).length) ∧ BR k L B ∧ PS F3 n h cells B ∧ h[0]? = some (patO n n st cs) ∧ h[1]? = some (.arr 1 (List.map intE L) true) ∧ h[2]? = some (.arr 1 cells true) ∧
    a 1 = .op 0 4 0 0 ∧ a 4 = .osl 1 1 0 n n true ∧ a 5 = .osl 2 1 0 (n + 1) (n + 1) true ∧ a 23 = .int .i64 n ∧ a 24 = .int .i64 k) n ⟨0, List.replicate n 0, List.replicate (n + 1) [.nils], fun _ => [], ?_⟩ ?_
  · simp (maxSteps := 4000000) only [↓packA, ↓reduceIte, packB, pureOp, quietOp, loadOp, quietB, fr0, cellsK, implies_true, ite_true, ite_false, eq_self, ne_eq, reduceCtorEq, Nat.reduceLT, Nat.reduceLeDiff, Nat.reduceAdd, Nat.reduceMul, Nat.reduceBEq, Nat.reduceEqDiff, Int.reduceToNat, Int.reduceLT, Int.reduceLE, Nat.reduceSub, pl23, ft1, ft3, ft22, ft24, ft28, ft92, ints, patO, Int.natCast_zero]
    refine ⟨fun v hv => by omega, fun d => ⟨by simp, fun w => ⟨fun h => by simp at h, fun h => by omega⟩⟩, ⟨fun i hi => by simp [F3] at hi ⊢; omega, by simp, fun d hd => ⟨.nils, by rw [List.getElem?_replicate, if_pos (by omega)], .inl ⟨rfl, rfl⟩⟩, fun d d' x y i _ hx _ hi => ?_⟩⟩
    have hx2 := List.mem_of_getElem? hx
    rw [List.mem_replicate] at hx2
    have : x = .nils := by simpa using hx2.2
    rw [this] at hi
    cases hi
  rintro m a h ⟨k, L, cells, B, rfl, hk, hL, hdeg, hB, hP, g0, g1, g2, a1, a4, a5, a23, a24⟩
  have hlen1 : 2 < h.length := (List.getElem?_eq_some_iff.1 g2).1
  unfold patO ints at g0
  have q10 : ∀ t, (h ++ t)[0]? = h[0]? := fun t => List.getElem?_append_left (by omega)
  have q20 : ∀ t u, (h ++ t ++ u)[0]? = h[0]? := fun t u => by rw [List.append_assoc]; exact q10 _
  have q21 : ∀ t u, (h ++ t ++ u)[1]? = h[1]? := fun t u => by rw [List.append_assoc]; exact List.getElem?_append_left (by omega)
  have q22 : ∀ t u, (h ++ t ++ u)[2]? = h[2]? := fun t u => by rw [List.append_assoc]; exact List.getElem?_append_left (by omega)
  simp (maxSteps := 4000000) +contextual only [↓packA, ↓reduceIte, packB, pureOp, quietOp, loadOp, quietB, fr0, cellsK, implies_true, ite_true, ite_false, eq_self, ne_eq, reduceCtorEq, Nat.reduceLT, Nat.reduceLeDiff, Nat.reduceAdd, Nat.reduceMul, Nat.reduceBEq, Nat.reduceEqDiff, Int.reduceToNat, Int.reduceLT, Int.reduceLE, Nat.reduceSub, pl23, ft1, ft3, ft22, ft24, ft28, ft92, a1, a4, a5, a23, a24, g0, g1, g2, q10, q20]
  refine ⟨fun h2 => ?_, fun h2 => ?_⟩
  · have hdl : (rowOf st cs k).length ≤ n := row_len hm (by omega)
    obtain ⟨x, hx, hbx⟩ := hP.bc (rowOf st cs k).length hdl
    have s11 : ∀ o, (h.set 1 o)[1]? = some o := fun o => List.getElem?_set_self (by omega)
    have s12 : ∀ o, (h.set 1 o)[2]? = some (.arr 1 cells true) := fun o => by rw [List.getElem?_set_ne (by omega)]; exact g2
    have gsk : ∀ y, (L.set k y).getD k default = y := fun y => by simp [List.getD_eq_getElem?_getD, List.getElem?_set_self (show k < L.length by omega)]
    refine acalls_pure (degree_c n n st cs hb hb2 hm k (by omega) (by omega)) rfl ?_
    have s21 : ∀ o t, (h.set 1 o ++ t)[1]? = some o := fun o t => by rw [List.getElem?_append_left (by simp; omega)]; exact s11 o
    have s22 : ∀ o t, (h.set 1 o ++ t)[2]? = some (.arr 1 cells true) := fun o t => by rw [List.getElem?_append_left (by simp; omega)]; exact s12 o
    have s2l : ∀ o t, (h.set 1 o ++ [t])[h.length]? = some t := fun o t => by rw [List.getElem?_append_right (by simp)]; simp
    simp (maxSteps := 4000000) +contextual only [↓packA, ↓reduceIte, packB, pureOp, quietOp, loadOp, quietB, fr0, cellsK, implies_true, ite_true, ite_false, eq_self, ne_eq, reduceCtorEq, Nat.reduceLT, Nat.reduceLeDiff, Nat.reduceAdd, Nat.reduceMul, Nat.reduceBEq, Nat.reduceEqDiff, Int.reduceToNat, Int.reduceLT, Int.reduceLE, Nat.reduceSub, pl23, ft1, ft3, ft22, ft24, ft28, ft92, a1, a4, a5, a23, a24, g0, g1, g2, s11, s12, s21, s22, s2l, gsk, hx]
    refine ⟨by omega, by omega, by omega, by omega, by omega, by omega, by omega, by omega, ?_⟩
    have hBl := hB.len (rowOf st cs k).length
    refine push_ps ((hP.set (show F3 1 by simp [F3]) _).app _) hdl hx (by omega) fun x' h' hcx hl' hf' hP' => ?_
    obtain ⟨xi, xl, xc, xe, rfl⟩ := hcx
    have f1 := (hf' 1 (by simp [F3])).trans (s21 _ _)
    have f2 := (hf' 2 (by simp [F3])).trans (s22 _ _)
    have f0 := hf' 0 (by simp [F3])
    simp only [List.length_append, List.length_set, List.length_singleton] at hl'
    rw [List.getElem?_append_left (by simp; omega), List.getElem?_set_ne (by omega), g0] at f0
    simp (maxSteps := 4000000) +contextual only [↓packA, ↓reduceIte, packB, pureOp, quietOp, loadOp, quietB, fr0, cellsK, implies_true, ite_true, ite_false, eq_self, ne_eq, reduceCtorEq, Nat.reduceLT, Nat.reduceLeDiff, Nat.reduceAdd, Nat.reduceMul, Nat.reduceBEq, Nat.reduceEqDiff, Int.reduceToNat, Int.reduceLT, Int.reduceLE, Nat.reduceSub, pl23, ft1, ft3, ft22, ft24, ft28, ft92, a1, a4, a5, a23, a24, f0, f1, f2, gsk, hx]
    refine ⟨by omega, by omega, by omega, .inl ⟨n - (k + 1), by omega, k + 1, L.set k (rowOf st cs k).length, _, _, rfl, by omega, by simp [hL], fun v hv => ?_, hB.push (by omega) _, hP'.set (by simp [F3]) _, ?_, ?_, ?_, by omega⟩⟩
    · rcases Nat.lt_or_ge v k with h3 | h3
      · rw [getD_set_ne (by omega)]; exact hdeg v h3
      · rw [show v = k by omega]; exact gsk _
    · rw [List.getElem?_set_ne (by omega)]; exact f0
    · rw [List.getElem?_set_ne (by omega)]; exact f1
    · exact List.getElem?_set_self (by omega)
  · have hkn : n = k := by omega
    subst hkn
    refine pair3 (by omega) (by omega) (by omega) (by omega) (by omega) (by omega) ?_
    refine both (G := fun a h => LoopK _ _ a h) (C := PJ st cs n n) ?_ ?_ fun a h hj => LoopK.intro (PJ st cs n) n hj ?_
    · refine ⟨0, h.length, h.length + 1, 0, L, cells, B, by omega, by omega, hL, lr_start hm hdeg, hB, hP.more (fun i hi => by rw [List.append_assoc]; exact List.getElem?_append_left hi) (by simp) (fun i hi => ?_), (q20 _ _).trans g0, (q21 _ _).trans g1, (q22 _ _).trans g2, ?_, ?_, by omega, by omega, by omega, by omega, fun d hd => by omega, ?_⟩
      · rcases hi with h3 | h3 | h3
        · exact .inl h3
        · right; simp; omega
        · right; simp; omega
      · rw [List.append_assoc, List.getElem?_append_right (Nat.le_refl _)]; simp [pst]
      · rw [List.append_assoc, List.getElem?_append_right (by omega)]; simp [pst]
      · simp (maxSteps := 4000000) only [↓packA, ↓reduceIte, packB, pureOp, quietOp, loadOp, quietB, fr0, cellsK, implies_true, ite_true, ite_false, eq_self, ne_eq, reduceCtorEq, Nat.reduceLT, Nat.reduceLeDiff, Nat.reduceAdd, Nat.reduceMul, Nat.reduceBEq, Nat.reduceEqDiff, Int.reduceToNat, Int.reduceLT, Int.reduceLE, Nat.reduceSub, pl23, ft1, ft3, ft22, ft24, ft28, ft92, a1, a4, a5, pst, Int.natCast_zero, Int.sub_zero]
    · refine ⟨0, h.length + 1, h.length, 0, L, cells, B, by omega, by omega, hL, lr_start hm hdeg, hB, hP.more (fun i hi => by rw [List.append_assoc]; exact List.getElem?_append_left hi) (by simp) (fun i hi => ?_), (q20 _ _).trans g0, (q21 _ _).trans g1, (q22 _ _).trans g2, ?_, ?_, by omega, by omega, by omega, by omega, fun d hd => by omega, ?_⟩
      · rcases hi with h3 | h3 | h3
        · exact .inl h3
        · right; simp; omega
        · right; simp; omega
      · rw [List.append_assoc, List.getElem?_append_right (by omega)]; simp [pst]
      · rw [List.append_assoc, List.getElem?_append_right (Nat.le_refl _)]; simp [pst]
      · simp (maxSteps := 4000000) only [↓packA, ↓reduceIte, packB, pureOp, quietOp, loadOp, quietB, fr0, cellsK, implies_true, ite_true, ite_false, eq_self, ne_eq, reduceCtorEq, Nat.reduceLT, Nat.reduceLeDiff, Nat.reduceAdd, Nat.reduceMul, Nat.reduceBEq, Nat.reduceEqDiff, Int.reduceToNat, Int.reduceLT, Int.reduceLE, Nat.reduceSub, pl23, ft1, ft3, ft22, ft24, ft28, ft92, a1, a4, a5, pst, Int.natCast_zero, Int.sub_zero]
    · clear hP hB hdeg g0 g1 g2 q10 q20 q21 q22 a1 a4 a5 a23 a24 hlen1
      clear hj hL h2
      rintro m a h ⟨k, o7, o8, at', L, cells, B, rfl, hk, hL, hLR, hB, hP, g0, g1, g2, g7, g8, ho7, ho8, ho, hat, hlow, a1, a4, a5, a7, a8, a9, a10, a11⟩
      simp (maxSteps := 4000000) +contextual only [↓packA, ↓reduceIte, packB, pureOp, quietOp, loadOp, quietB, fr0, cellsK, implies_true, ite_true, ite_false, eq_self, ne_eq, reduceCtorEq, Nat.reduceLT, Nat.reduceLeDiff, Nat.reduceAdd, Nat.reduceMul, Nat.reduceBEq, Nat.reduceEqDiff, Int.reduceToNat, Int.reduceLT, Int.reduceLE, Nat.reduceSub, pl23, ft1, ft3, ft22, ft24, ft28, ft92, a1, a4, a5, a7, a8, a9, a10, a11]
      refine ⟨fun h2 => ?_, fun h2 => ?_⟩
      · have hkn : k < n := by omega
        obtain ⟨d0, hd0, hd1⟩ := bucket_some hm hkn hLR hB
        refine LoopK.intro (fun m a h1 => ∃ q : Nat, m = n + 1 - q ∧ q ≤ n ∧ (∀ d, d < q → B d = []) ∧ a 1 = .op 0 4 0 0 ∧ a 4 = .osl 1 1 0 n n true ∧ a 5 = .osl 2 1 0 (n + 1) (n + 1) true ∧ a 7 = .osl o7 1 0 n n true ∧ a 8 = .osl o8 1 0 n n true ∧ a 9 = .int .i64 q ∧ a 10 = .int .i64 (pst st cs n k).c ∧ a 11 = .int .i64 ((n : Int) - 1 - k) ∧ h1 = h) (n + 1 - at') ⟨at', rfl, hat, hlow, ?_⟩ ?_
        · simp (maxSteps := 4000000) only [↓packA, ↓reduceIte, packB, pureOp, quietOp, loadOp, quietB, fr0, cellsK, implies_true, ite_true, ite_false, eq_self, ne_eq, reduceCtorEq, Nat.reduceLT, Nat.reduceLeDiff, Nat.reduceAdd, Nat.reduceMul, Nat.reduceBEq, Nat.reduceEqDiff, Int.reduceToNat, Int.reduceLT, Int.reduceLE, Nat.reduceSub, pl23, ft1, ft3, ft22, ft24, ft28, ft92, a1, a4, a5, a7, a8, a9, a10, a11]
        clear a1 a4 a5 a7 a8 a9 a10 a11
        rintro m a h1 ⟨q, rfl, hq, hlow, a1, a4, a5, a7, a8, a9, a10, a11, rfl⟩
        obtain ⟨x, hx, hbx⟩ := hP.bc q hq
        unfold patO ints at g0
        simp (maxSteps := 4000000) +contextual only [↓packA, ↓reduceIte, packB, pureOp, quietOp, loadOp, quietB, fr0, cellsK, implies_true, ite_true, ite_false, eq_self, ne_eq, reduceCtorEq, Nat.reduceLT, Nat.reduceLeDiff, Nat.reduceAdd, Nat.reduceMul, Nat.reduceBEq, Nat.reduceEqDiff, Int.reduceToNat, Int.reduceLT, Int.reduceLE, Nat.reduceSub, pl23, ft1, ft3, ft22, ft24, ft28, ft92, a1, a4, a5, a7, a8, a9, a10, a11, g0, g1, g2, g7, g8, hx, lenK_bc hbx]
        refine ⟨by omega, fun h3 => ?_, fun h3 => ⟨by omega, max_bc hbx (by omega) ?_⟩⟩
        · have : q < d0 := by
            rcases Nat.lt_or_ge q d0 with h4 | h4
            · exact h4
            · exfalso
              rcases Nat.lt_or_ge d0 q with h5 | h5
              · exact hd1 (hlow d0 h5)
              · rw [show d0 = q by omega] at hd1
                exact hd1 (List.eq_nil_of_length_eq_zero (by omega))
          refine ⟨by omega, .inl ⟨n + 1 - (q + 1), by omega, q + 1, rfl, by omega, fun d hd => ?_, by omega⟩⟩
          rcases Nat.lt_or_ge d q with h4 | h4
          · exact hlow d h4
          · rw [show d = q by omega]; exact List.eq_nil_of_length_eq_zero (by omega)
        obtain ⟨v, hV, hvn, hLv, hcv, hbest⟩ := best_of hL hLR hB hlow (show 0 < (B q).length by omega)
        rw [hV]
        obtain ⟨N, hN⟩ : ∃ N, h1.length = N := ⟨_, rfl⟩
        have l7 : o7 < N := by rw [← hN]; exact (List.getElem?_eq_some_iff.1 g7).1
        have l8 : o8 < N := by rw [← hN]; exact (List.getElem?_eq_some_iff.1 g8).1
        have ra : ∀ t i, i < N → (h1 ++ t)[i]? = h1[i]? := fun t i hi => List.getElem?_append_left (by omega)
        have ra0 : ∀ t, (h1 ++ t)[0]? = h1[0]? := fun t => ra t 0 (by omega)
        have ra1 : ∀ t, (h1 ++ t)[1]? = h1[1]? := fun t => ra t 1 (by omega)
        have ra2 : ∀ t, (h1 ++ t)[2]? = h1[2]? := fun t => ra t 2 (by omega)
        have rN : ∀ o, (h1 ++ [o])[N]? = some o := fun o => by rw [List.getElem?_append_right (by omega)]; simp [hN]
        have sN : ∀ o o', (h1 ++ [o]).set N o' = h1 ++ [o'] := fun o o' => by rw [List.set_append_right _ _ (by omega)]; simp [hN]
        simp (maxSteps := 4000000) +contextual only [↓packA, ↓reduceIte, packB, pureOp, quietOp, loadOp, quietB, fr0, cellsK, implies_true, ite_true, ite_false, eq_self, ne_eq, reduceCtorEq, Nat.reduceLT, Nat.reduceLeDiff, Nat.reduceAdd, Nat.reduceMul, Nat.reduceBEq, Nat.reduceEqDiff, Int.reduceToNat, Int.reduceLT, Int.reduceLE, Nat.reduceSub, pl23, ft1, ft3, ft22, ft24, ft28, ft92, a1, a4, a5, a7, a8, a9, a10, a11, g0, g1, g2, g7, g8, hx, hN, ra0, ra1, ra2, rN, sN]
        have hP1 : PS (fun i => Fx o7 o8 i ∨ i = N) n (h1 ++ [Ob.arr 1 [[AV.int .i64 (v : Int)]] true]) cells B := hP.more (fun i hi => List.getElem?_append_left hi) (by simp) (fun i hi => hi.imp_right fun e => by subst e; simp; omega)
        refine ⟨by omega, del_ps clo79 hP1 hq hx (by omega) (.inr rfl) (rN _) fun x' h' hcx hl' hf' hP' => ?_⟩
        obtain ⟨xi, xl, xc, xe, rfl⟩ := hcx
        have f0 := ((hf' 0 (.inl (.inl (by omega)))).trans (ra0 _)).trans g0
        have f1 := ((hf' 1 (.inl (.inl (by omega)))).trans (ra1 _)).trans g1
        have f2 := ((hf' 2 (.inl (.inl (by omega)))).trans (ra2 _)).trans g2
        have f7 := ((hf' o7 (.inl (.inr (.inl rfl)))).trans (ra _ _ l7)).trans g7
        have f8 := ((hf' o8 (.inl (.inr (.inr rfl)))).trans (ra _ _ l8)).trans g8
        have fN := (hf' N (.inr rfl)).trans (rN _)
        have hlN : h'.length = N + 1 := by rw [hl']; simp [hN]
        clear hl' hf' g0 g1 g2 g7 g8 ra0 ra1 ra2 ra rN sN hN hP1 hP hbx
        have n7 : 2 ≠ o7 := by omega
        have n8 : 2 ≠ o8 := by omega
        have nN : 2 ≠ N := by omega
        have n7N : o7 ≠ N := by omega
        have n8N : o8 ≠ N := by omega
        have n1N : 1 ≠ N := by omega
        have n71 : o7 ≠ 1 := by omega
        have n81 : o8 ≠ 1 := by omega
        have n70 : o7 ≠ 0 := by omega
        have n80 : o8 ≠ 0 := by omega
        simp (maxSteps := 4000000) +contextual only [↓packA, ↓reduceIte, packB, pureOp, quietOp, loadOp, quietB, fr0, cellsK, implies_true, ite_true, ite_false, eq_self, ne_eq, reduceCtorEq, Nat.reduceLT, Nat.reduceLeDiff, Nat.reduceAdd, Nat.reduceMul, Nat.reduceBEq, Nat.reduceEqDiff, Int.reduceToNat, Int.reduceLT, Int.reduceLE, Nat.reduceSub, pl23, ft1, ft3, ft22, ft24, ft28, ft92, a1, a4, a5, a7, a8, a9, a10, a11, hx, f0, f1, f2, f7, f8, fN, minK_2, imax_eq, List.getElem?_set_ne, n7, n8, nN, n7N, n8N, n1N, n71, n81, n70, n80, ho]
        have hps := pst_step hbest
        obtain ⟨H, hH⟩ : ∃ H, H = (((h'.set 2 (Ob.arr 1 (cells.set q [AV.osl xi 1 0 xl xc xe]) true)).set o7 (Ob.arr 1 (List.map intE ((pst st cs n k).O.set ((n : Int) - 1 - k).toNat v)) true)).set o8 (Ob.arr 1 (List.map intE ((pst st cs n k).C.set v (max ((pst st cs n k).c : Int) q))) true)).set 1 (Ob.arr 1 (List.map intE (L.set v (-1))) true) := ⟨_, rfl⟩
        rw [← hH]
        have hPH : PS (fun i => Fx o7 o8 i ∨ i = N) n H (cells.set q [AV.osl xi 1 0 xl xc xe]) (updB B q (rid v (B q))) := by
          rw [hH]
          exact (((hP'.set (.inl (.inl (by omega))) _).set (.inl (.inr (.inl rfl))) _).set (.inl (.inr (.inr rfl))) _).set (.inl (.inl (by omega))) _
        have e0 : H[0]? = some (patO n n st cs) := by
          rw [hH, List.getElem?_set_ne (by omega), List.getElem?_set_ne (by omega), List.getElem?_set_ne (by omega), List.getElem?_set_ne (by omega)]
          exact f0
        have e1 : H[1]? = some (.arr 1 (List.map intE (L.set v (-1))) true) := by
          rw [hH]; exact List.getElem?_set_self (by simp; omega)
        have e2 : H[2]? = some (.arr 1 (cells.set q [AV.osl xi 1 0 xl xc xe]) true) := by
          rw [hH, List.getElem?_set_ne (by omega), List.getElem?_set_ne (by omega), List.getElem?_set_ne (by omega)]
          exact List.getElem?_set_self (by omega)
        have e7 : H[o7]? = some (.arr 1 (List.map intE (pst st cs n (k + 1)).O) true) := by
          rw [hH, List.getElem?_set_ne (by omega), List.getElem?_set_ne (by omega), List.getElem?_set_self (by simp; omega), hps, show ((n : Int) - 1 - k).toNat = n - 1 - k by omega]
        have e8 : H[o8]? = some (.arr 1 (List.map intE (pst st cs n (k + 1)).C) true) := by
          rw [hH, List.getElem?_set_ne (by omega), List.getElem?_set_self (by simp; omega), hps, hcv]
          rw [show ((max (pst st cs n k).c q : Nat) : Int) = max ((pst st cs n k).c : Int) q by omega]
        have eN : H[N]? = some (.arr 1 [[.int .i64 (v : Int)]] true) := by
          rw [hH, List.getElem?_set_ne (by omega), List.getElem?_set_ne (by omega), List.getElem?_set_ne (by omega), List.getElem?_set_ne (by omega)]
          exact fN
        have hB1 : BR n (L.set v (-1)) (updB B q (rid v (B q))) := hB.drop (by omega) hLv
        have hL1 : ∀ u : Nat, u < n → (L.set v (-1)).getD u default = if (pst st cs n (k + 1)).S.getD u false = true then ((cnt st cs (pst st cs n k).S u : Nat) : Int) - (if (u : Int) ∈ (rowOf st cs v).take 0 then 1 else 0) else -1 := fun u hu => by
          rw [hps]
          by_cases e : u = v
          · subst e
            rw [if_neg (by simp [List.getD_eq_getElem?_getD, List.getElem?_set_self (show u < (pst st cs n k).S.length by rw [(pst_len st cs n k).1]; exact hu)])]
            simp [List.getD_eq_getElem?_getD, List.getElem?_set_self (show u < L.length by omega)]
          · rw [getD_set_ne (Ne.symm e), hLR u hu]
            have : ((pst st cs n k).S.set v false).getD u false = (pst st cs n k).S.getD u false := by simp only [List.getD_eq_getElem?_getD, List.getElem?_set_ne (Ne.symm e)]
            simp only [this]
            simp
        have hcx : ((max (pst st cs n k).c q : Nat) : Int) = (pst st cs n (k + 1)).c := by rw [hps, hcv]
        refine ⟨by omega, by omega, by rw [(pst_len st cs n k).2.1]; omega, by omega, by rw [(pst_len st cs n k).2.2]; omega, by omega, by omega, ?_⟩
        refine acalls_pure (neigh_c n n st cs hb hb2 hm v (by omega) (by omega)) rfl ?_
        have hLl : (L.set v (-1)).length = n := by simp [hL]
        clear f0 f1 f2 f7 f8 fN hP' hH hV
        generalize (L.set v (-1)) = L1 at *
        generalize (cells.set q [AV.osl xi 1 0 xl xc xe]) = cells1 at *
        generalize (updB B q (rid v (B q))) = B1 at *
        simp (maxSteps := 4000000) +contextual only [↓packA, ↓reduceIte, packB, pureOp, quietOp, loadOp, quietB, fr0, cellsK, implies_true, ite_true, ite_false, eq_self, ne_eq, reduceCtorEq, Nat.reduceLT, Nat.reduceLeDiff, Nat.reduceAdd, Nat.reduceMul, Nat.reduceBEq, Nat.reduceEqDiff, Int.reduceToNat, Int.reduceLT, Int.reduceLE, Nat.reduceSub, pl23, ft1, ft3, ft22, ft24, ft28, ft92, a1, a4, a5, a7, a8, a9, a10, a11, minK_2, imax_eq, ints]
        have q4 := (may_row hm (show v < (n : Int).toNat by omega)).2.2.2.1
        have hndr := nodup_row q4
        refine LoopK.intro (fun m a h2 => ∃ (j : Nat) (L2 : List Int) (cells2 : List (List AV)) (B2 : Nat → List Int), m = (rowOf st cs v).length - j ∧ j ≤ (rowOf st cs v).length ∧ L2.length = n ∧ (∀ u : Nat, u < n → L2.getD u default = if (pst st cs n (k + 1)).S.getD u false = true then ((cnt st cs (pst st cs n k).S u : Nat) : Int) - (if (u : Int) ∈ (rowOf st cs v).take j then 1 else 0) else -1) ∧ BR n L2 B2 ∧ PS (fun i => Fx o7 o8 i ∨ i = N) n h2 cells2 B2 ∧
          h2[0]? = some (patO n n st cs) ∧ h2[1]? = some (.arr 1 (List.map intE L2) true) ∧ h2[2]? = some (.arr 1 cells2 true) ∧ h2[o7]? = some (.arr 1 (List.map intE (pst st cs n (k + 1)).O) true) ∧ h2[o8]? = some (.arr 1 (List.map intE (pst st cs n (k + 1)).C) true) ∧ h2[N]? = some (.arr 1 [[.int .i64 (v : Int)]] true) ∧
          a 1 = .op 0 4 0 0 ∧ a 4 = .osl 1 1 0 n n true ∧ a 5 = .osl 2 1 0 (n + 1) (n + 1) true ∧ a 7 = .osl o7 1 0 n n true ∧ a 8 = .osl o8 1 0 n n true ∧ a 9 = .int .i64 q ∧ a 10 = .int .i64 (pst st cs n (k + 1)).c ∧ a 11 = .int .i64 ((n : Int) - 1 - k) ∧ a 12 = .op N 1 0 0 ∧ a 101 = ints (rowOf st cs v) ∧ a 102 = .int .i64 (rowOf st cs v).length ∧ a 103 = .int .i64 j)
          (rowOf st cs v).length ⟨0, L1, cells1, B1, ?_⟩ ?_
        · simp (maxSteps := 4000000) only [↓packA, ↓reduceIte, packB, pureOp, quietOp, loadOp, quietB, fr0, cellsK, implies_true, ite_true, ite_false, eq_self, ne_eq, reduceCtorEq, Nat.reduceLT, Nat.reduceLeDiff, Nat.reduceAdd, Nat.reduceMul, Nat.reduceBEq, Nat.reduceEqDiff, Int.reduceToNat, Int.reduceLT, Int.reduceLE, Nat.reduceSub, pl23, ft1, ft3, ft22, ft24, ft28, ft92, a1, a4, a5, a7, a8, a9, a10, a11, Int.natCast_zero, e0, e1, e2, e7, e8, eN, ints]
          exact ⟨hLl, hL1, hB1, hPH, by rw [← hcx]; omega⟩
        clear a1 a4 a5 a7 a8 a9 a10 a11 e0 e1 e2 e7 e8 eN hPH hB1 hL1 hLl
        rintro m a H ⟨j, L2, cells2, B2, rfl, hj, hLl, hLM, hB2, hPH, e0, e1, e2, e7, e8, eN, a1, a4, a5, a7, a8, a9, a10, a11, a12, a101, a102, a103⟩
        obtain ⟨M, hM⟩ : ∃ M, H.length = M := ⟨_, rfl⟩
        have lN : N < M := by rw [← hM]; exact (List.getElem?_eq_some_iff.1 eN).1
        have ra : ∀ t i, i < M → (H ++ t)[i]? = H[i]? := fun t i hi => List.getElem?_append_left (by omega)
        have ra0 : ∀ t, (H ++ t)[0]? = H[0]? := fun t => ra t 0 (by omega)
        have ra1 : ∀ t, (H ++ t)[1]? = H[1]? := fun t => ra t 1 (by omega)
        have ra2 : ∀ t, (H ++ t)[2]? = H[2]? := fun t => ra t 2 (by omega)
        have rM : ∀ o, (H ++ [o])[M]? = some o := fun o => by rw [List.getElem?_append_right (by omega)]; simp [hM]
        have sM : ∀ o o', (H ++ [o]).set M o' = H ++ [o'] := fun o o' => by rw [List.set_append_right _ _ (by omega)]; simp [hM]
        have aw : j < (rowOf st cs v).length → ∃ w : Nat, (rowOf st cs v).getD j default = w ∧ w < n := fun h3 => by
          have h4 := row_nonneg q4 h3
          have h5 := (q4 j h3).2
          exact ⟨((rowOf st cs v).getD j default).toNat, by omega, by omega⟩
        simp (maxSteps := 4000000) +contextual only [↓packA, ↓reduceIte, packB, pureOp, quietOp, loadOp, quietB, fr0, cellsK, implies_true, ite_true, ite_false, eq_self, ne_eq, reduceCtorEq, Nat.reduceLT, Nat.reduceLeDiff, Nat.reduceAdd, Nat.reduceMul, Nat.reduceBEq, Nat.reduceEqDiff, Int.reduceToNat, Int.reduceLT, Int.reduceLE, Nat.reduceSub, pl23, ft1, ft3, ft22, ft24, ft28, ft92, a1, a4, a5, a7, a8, a9, a10, a11, a12, a101, a102, a103, ints, e0, e1, e2, hM, ra0, ra1, ra2, rM, sM, minK_2, imax_eq]
        refine ⟨fun h3 => ?_, fun h3 => ?_⟩
        · obtain ⟨w, hw, hwn⟩ := aw (by omega)
          have hjl : j < (rowOf st cs v).length := by omega
          have htk : ∀ u : Nat, ((u : Int) ∈ (rowOf st cs v).take (j + 1) ↔ (u : Int) ∈ (rowOf st cs v).take j ∨ u = w) := fun u => by
            rw [List.take_add_one, List.getElem?_eq_getElem hjl, ← gd hjl, hw, List.mem_append]
            simp only [Option.toList, List.mem_singleton]
            constructor
            · rintro (h5 | h5)
              · exact .inl h5
              · exact .inr (by omega)
            · rintro (h5 | h5)
              · exact .inl h5
              · exact .inr (by omega)
          have hnt : ¬ ((w : Nat) : Int) ∈ (rowOf st cs v).take j := fun hc => by
            obtain ⟨i, hi, e⟩ := mem_getD.1 hc
            simp only [List.length_take] at hi
            rw [List.getD_eq_getElem?_getD, List.getElem?_take, if_pos (by omega), ← List.getD_eq_getElem?_getD] at e
            have := row_lt q4 (show i < j by omega) hjl
            omega
          have hLw := hLM w hwn
          rw [if_neg hnt] at hLw
          simp only [hw, Int.toNat_natCast, mk_eq]
          have hrl := row_len hm hvn
          have hPM : PS (fun i => Fx o7 o8 i ∨ i = N) n (H ++ [Ob.arr 1 [[AV.int .i64 (w : Int)]] true]) cells2 B2 := hPH.app _
          refine ⟨by omega, by omega, by omega, by omega, fun h4 => ⟨by omega, .inl ⟨(rowOf st cs v).length - (j + 1), by omega, j + 1, L2, cells2, B2, rfl, by omega, hLl, fun u hu => ?_, hB2, hPM, rfl, rfl, (ra _ _ (by omega)).trans e7, (ra _ _ (by omega)).trans e8, (ra _ _ lN).trans eN, by omega⟩⟩, fun h4 => ?_⟩
          · rw [hLM u hu]
            by_cases e : u = w
            · subst e
              cases hsu : (pst st cs n (k + 1)).S.getD u false with
              | true => rw [hsu, if_pos rfl] at hLw; omega
              | false => rfl
            · have : ((u : Int) ∈ (rowOf st cs v).take (j + 1) ↔ (u : Int) ∈ (rowOf st cs v).take j) := by rw [htk]; simp [e]
              simp only [this]
          obtain ⟨e, he, he1, hen, hsw⟩ : ∃ e : Nat, L2.getD w default = e ∧ 1 ≤ e ∧ e ≤ n ∧ (pst st cs n (k + 1)).S.getD w false = true := by
            cases hsw : (pst st cs n (k + 1)).S.getD w false with
            | false => rw [hsw, if_neg (by simp)] at hLw; omega
            | true =>
              rw [hsw, if_pos rfl] at hLw
              refine ⟨cnt st cs (pst st cs n k).S w, by omega, ?_, Nat.le_trans cnt_le (row_len hm hwn), rfl⟩
              refine List.length_pos_of_mem (a := (v : Int)) (List.mem_filter.2 ⟨?_, by rw [Int.toNat_natCast]; exact hbest.2.1⟩)
              have := hg.1.2.2 v (by omega) j hjl
              rw [hw, Int.toNat_natCast] at this
              exact this
          obtain ⟨x2, hx2, hbx2⟩ := hPM.bc e hen
          have hmem : (w : Int) ∈ B2 e := ((hB2 e).2 _).2 ⟨by omega, by omega, by rw [Int.toNat_natCast]; exact he⟩
          rw [he]
          simp (maxSteps := 4000000) +contextual only [↓packA, ↓reduceIte, packB, pureOp, quietOp, loadOp, quietB, fr0, cellsK, implies_true, ite_true, ite_false, eq_self, ne_eq, reduceCtorEq, Nat.reduceLT, Nat.reduceLeDiff, Nat.reduceAdd, Nat.reduceMul, Nat.reduceBEq, Nat.reduceEqDiff, Int.reduceToNat, Int.reduceLT, Int.reduceLE, Nat.reduceSub, pl23, ft1, ft3, ft22, ft24, ft28, ft92, a1, a4, a5, a7, a8, a9, a10, a11, a12, a101, a102, a103, ints, e0, e1, e2, hM, ra0, ra1, ra2, rM, sM, he, hx2, hw]
          have hPM2 : PS (fun i => (Fx o7 o8 i ∨ i = N) ∨ i = M) n (H ++ [Ob.arr 1 [[AV.int .i64 (w : Int)]] true]) cells2 B2 := hPH.more (fun i hi => List.getElem?_append_left hi) (by simp) (fun i hi => hi.imp_right fun e => by subst e; simp; omega)
          refine ⟨by omega, by omega, by omega, by omega, by omega, del_ps clo80 hPM2 hen hx2 (List.length_pos_of_mem hmem) (.inr rfl) (rM _) fun x' H' hcx2 hl' hf' hP' => ?_⟩
          obtain ⟨xi2, xl2, xc2, xe2, rfl⟩ := hcx2
          have f0 := ((hf' 0 (.inl (.inl (.inl (by omega))))).trans (ra0 _)).trans e0
          have f1 := ((hf' 1 (.inl (.inl (.inl (by omega))))).trans (ra1 _)).trans e1
          have f2 := ((hf' 2 (.inl (.inl (.inl (by omega))))).trans (ra2 _)).trans e2
          have f7 := ((hf' o7 (.inl (.inl (.inr (.inl rfl))))).trans (ra _ _ (by omega))).trans e7
          have f8 := ((hf' o8 (.inl (.inl (.inr (.inr rfl))))).trans (ra _ _ (by omega))).trans e8
          have fN := ((hf' N (.inl (.inr rfl))).trans (ra _ _ lN)).trans eN
          have fM := (hf' M (.inr rfl)).trans (rM _)
          have hlM : H'.length = M + 1 := by rw [hl']; simp [hM]
          clear hl' hf' e0 e1 e2 e7 e8 eN ra0 ra1 ra2 ra rM sM hM hPM2 hPM hPH
          have hk22 : ∀ o : Ob, (H'.set 2 o)[2]? = some o := fun o => List.getElem?_set_self (by omega)
          have hk21 : ∀ o : Ob, (H'.set 2 o)[1]? = H'[1]? := fun o => List.getElem?_set_ne (by omega)
          have hk2M : ∀ o : Ob, (H'.set 2 o)[M]? = H'[M]? := fun o => List.getElem?_set_ne (by omega)
          have hk11 : ∀ o p : Ob, ((H'.set 2 o).set 1 p)[1]? = some p := fun o p => List.getElem?_set_self (by simp; omega)
          have hk12 : ∀ o p : Ob, ((H'.set 2 o).set 1 p)[2]? = some o := fun o p => by rw [List.getElem?_set_ne (by omega)]; exact hk22 o
          have hk1M : ∀ o p : Ob, ((H'.set 2 o).set 1 p)[M]? = H'[M]? := fun o p => by rw [List.getElem?_set_ne (by omega)]; exact hk2M o
          have hka : ∀ (o p : Ob) t i, i < M + 1 → ((H'.set 2 o).set 1 p ++ t)[i]? = ((H'.set 2 o).set 1 p)[i]? := fun o p t i hi => List.getElem?_append_left (by simp; omega)
          have hk31 : ∀ (o p : Ob) t, ((H'.set 2 o).set 1 p ++ t)[1]? = some p := fun o p t => (hka o p t 1 (by omega)).trans (hk11 o p)
          have hk32 : ∀ (o p : Ob) t, ((H'.set 2 o).set 1 p ++ t)[2]? = some o := fun o p t => (hka o p t 2 (by omega)).trans (hk12 o p)
          have hk3M : ∀ (o p : Ob) t, ((H'.set 2 o).set 1 p ++ t)[M]? = H'[M]? := fun o p t => (hka o p t M (by omega)).trans (hk1M o p)
          have hk3l : ∀ o p t : Ob, ((H'.set 2 o).set 1 p ++ [t])[M + 1]? = some t := fun o p t => by rw [List.getElem?_append_right (by simp; omega)]; simp [hlM]
          have hle1 : ((e : Int) - 1).toNat = e - 1 := by omega
          obtain ⟨y, hy, hby⟩ := hP'.bc (e - 1) (by omega)
          have hgw : ∀ z, (L2.set w z).getD w default = z := fun z => by simp [List.getD_eq_getElem?_getD, List.getElem?_set_self (show w < L2.length by omega)]
          simp (maxSteps := 4000000) +contextual only [↓packA, ↓reduceIte, packB, pureOp, quietOp, loadOp, quietB, fr0, cellsK, implies_true, ite_true, ite_false, eq_self, ne_eq, reduceCtorEq, Nat.reduceLT, Nat.reduceLeDiff, Nat.reduceAdd, Nat.reduceMul, Nat.reduceBEq, Nat.reduceEqDiff, Int.reduceToNat, Int.reduceLT, Int.reduceLE, Nat.reduceSub, pl23, ft1, ft3, ft22, ft24, ft28, ft92, a1, a4, a5, a7, a8, a9, a10, a11, a12, a101, a102, a103, ints, f0, f1, f2, fM, hlM, he, hx2, hw, hk22, hk21, hk2M, hk11, hk12, hk1M, hk31, hk32, hk3M, hk3l, hle1, hy, hgw]
          have hb3 : (updB B2 e (rid w (B2 e)) (e - 1)).length < 900000 := by
            rw [updB_ne (by omega)]
            have := hB2.len (e - 1)
            omega
          refine ⟨by omega, by omega, by omega, by omega, by omega, by omega, by omega, by omega, by omega, by omega, by omega, by omega, by omega, push_ps (((hP'.set (.inl (.inl (.inl (by omega)))) _).set (.inl (.inl (.inl (by omega)))) _).app _) (by omega) hy hb3 fun x' G hcx3 hl' hf' hP3 => ?_⟩
          obtain ⟨xi3, xl3, xc3, xe3, rfl⟩ := hcx3
          have d1 := (hf' 1 (.inl (.inl (.inl (by omega))))).trans (hk31 _ _ _)
          have d2 := (hf' 2 (.inl (.inl (.inl (by omega))))).trans (hk32 _ _ _)
          have dM := ((hf' M (.inr rfl)).trans (hk3M _ _ _)).trans fM
          have d0 := ((hf' 0 (.inl (.inl (.inl (by omega))))).trans ((hka _ _ _ 0 (by omega)).trans (by rw [List.getElem?_set_ne (by omega), List.getElem?_set_ne (by omega)]))).trans f0
          have d7 := ((hf' o7 (.inl (.inl (.inr (.inl rfl))))).trans ((hka _ _ _ o7 (by omega)).trans (by rw [List.getElem?_set_ne (by omega), List.getElem?_set_ne (by omega)]))).trans f7
          have d8 := ((hf' o8 (.inl (.inl (.inr (.inr rfl))))).trans ((hka _ _ _ o8 (by omega)).trans (by rw [List.getElem?_set_ne (by omega), List.getElem?_set_ne (by omega)]))).trans f8
          have dN := ((hf' N (.inl (.inr rfl))).trans ((hka _ _ _ N (by omega)).trans (by rw [List.getElem?_set_ne (by omega), List.getElem?_set_ne (by omega)]))).trans fN
          have hlG : M + 1 < G.length := by
            simp only [List.length_append, List.length_set, List.length_singleton] at hl'
            omega
          clear hl' hf' hk22 hk21 hk2M hk11 hk12 hk1M hka hk31 hk32 hk3M hk3l f0 f1 f2 f7 f8 fN fM hlM hP'
          have d22 : ∀ o : Ob, (G.set 2 o)[2]? = some o := fun o => List.getElem?_set_self (by omega)
          have d2o : ∀ (o : Ob) i, i ≠ 2 → (G.set 2 o)[i]? = G[i]? := fun o i hi => List.getElem?_set_ne (fun e => hi e.symm)
          have d21 : ∀ o : Ob, (G.set 2 o)[1]? = G[1]? := fun o => d2o o 1 (by omega)
          have d2M : ∀ o : Ob, (G.set 2 o)[M]? = G[M]? := fun o => d2o o M (by omega)
          simp (maxSteps := 4000000) +contextual only [↓packA, ↓reduceIte, packB, pureOp, quietOp, loadOp, quietB, fr0, cellsK, implies_true, ite_true, ite_false, eq_self, ne_eq, reduceCtorEq, Nat.reduceLT, Nat.reduceLeDiff, Nat.reduceAdd, Nat.reduceMul, Nat.reduceBEq, Nat.reduceEqDiff, Int.reduceToNat, Int.reduceLT, Int.reduceLE, Nat.reduceSub, pl23, ft1, ft3, ft22, ft24, ft28, ft92, a1, a4, a5, a7, a8, a9, a10, a11, a12, a101, a102, a103, ints, d1, d2, dM, he, hx2, hw, hle1, hy, hgw, d22, d21, d2M]
          refine ⟨by omega, by omega, by omega, .inl ⟨(rowOf st cs v).length - (j + 1), by omega, j + 1, L2.set w ((e : Int) - 1), _, _, rfl, by omega, by simp [hLl], fun u hu => ?_, hB2.move (by omega) hwn he he1, (hP3.mono (fun i hi => .inl hi)).set (.inl (.inl (by omega))) _, (d2o _ 0 (by omega)).trans d0, rfl, rfl, (d2o _ o7 (by omega)).trans d7, (d2o _ o8 (by omega)).trans d8, (d2o _ N (by omega)).trans dN, by omega⟩⟩
          by_cases c : u = w
          · subst c
            rw [hgw, hsw, if_pos rfl, if_pos ((htk u).2 (.inr rfl))]
            rw [hsw, if_pos rfl] at hLw
            omega
          · have : ((u : Int) ∈ (rowOf st cs v).take (j + 1) ↔ (u : Int) ∈ (rowOf st cs v).take j) := by rw [htk]; simp [c]
            rw [getD_set_ne (Ne.symm c), hLM u hu]
            simp only [this]
        · have hjl : j = (rowOf st cs v).length := by omega
          subst hjl
          rw [List.take_length] at hLM
          have hS1 : ∀ u : Nat, (pst st cs n (k + 1)).S.getD u false = true → (pst st cs n k).S.getD u false = true ∧ u ≠ v := fun u hu => by
            rw [hps] at hu
            by_cases c : u = v
            · subst c
              simp [List.getD_eq_getElem?_getD, List.getElem?_set_self (show u < (pst st cs n k).S.length by rw [(pst_len st cs n k).1]; exact hvn)] at hu
            · simp only [List.getD_eq_getElem?_getD, List.getElem?_set_ne (Ne.symm c)] at hu ⊢
              exact ⟨hu, c⟩
          have hLR1 : LR st cs n (pst st cs n (k + 1)).S L2 := fun u hu => by
            rw [hLM u hu]
            cases hsu : (pst st cs n (k + 1)).S.getD u false with
            | false => rw [if_neg (by simp), if_neg (by simp)]
            | true =>
              rw [if_pos rfl, if_pos rfl]
              have h5 := cnt_drop hg hvn hu hbest.2.1 (by rw [(pst_len st cs n k).1]; exact hvn)
              have hps2 : (pst st cs n (k + 1)).S = (pst st cs n k).S.set v false := by rw [hps]
              rw [hps2]
              by_cases c : (u : Int) ∈ rowOf st cs v
              · rw [if_pos c] at h5 ⊢; omega
              · rw [if_neg c] at h5 ⊢; omega
          refine ⟨by omega, by omega, .inl ⟨n - (k + 1), by omega, k + 1, o7, o8, q - 1, L2, cells2, B2, rfl, by omega, hLl, hLR1, hB2, hPH.mono (fun i hi => .inl hi), e0, e1, e2, e7, e8, ho7, ho8, ho, by omega, fun d hd => ?_, ?_⟩⟩
          · refine List.eq_nil_iff_forall_not_mem.2 fun u hu => ?_
            obtain ⟨h5, h6, h7⟩ := ((hB2 d).2 u).1 hu
            have h8 := hLM u.toNat (by omega)
            cases hsu : (pst st cs n (k + 1)).S.getD u.toNat false with
            | false => rw [hsu, if_neg (by simp)] at h8; omega
            | true =>
              rw [hsu, if_pos rfl] at h8
              have h9 := (hbest.2.2 u.toNat (by omega) (hS1 _ hsu).1).1
              split at h8 <;> omega
          · have hmx : max 0 ((q : Int) - 1) = ((q - 1 : Nat) : Int) := by omega
            have hix : (n : Int) - 1 - k - 1 = (n : Int) - 1 - (k + 1 : Nat) := by omega
            simp (maxSteps := 4000000) only [↓packA, ↓reduceIte, packB, pureOp, quietOp, loadOp, quietB, fr0, cellsK, implies_true, ite_true, ite_false, eq_self, ne_eq, reduceCtorEq, Nat.reduceLT, Nat.reduceLeDiff, Nat.reduceAdd, Nat.reduceMul, Nat.reduceBEq, Nat.reduceEqDiff, Int.reduceToNat, Int.reduceLT, Int.reduceLE, Nat.reduceSub, pl23, ft1, ft3, ft22, ft24, ft28, ft92, a1, a4, a5, a7, a8, a9, a10, a11, hmx, hix]
      · have hkn : n = k := by omega
        subst hkn
        exact ⟨o7, o8, rfl, by assumption, by assumption⟩
theorem peel_at (n : Nat) (hn : n ≤ 128) (st cs : List Int) (hb : st.length < 1000000000) (hb2 : cs.length < 1000000000) (hg : graphP n n st cs) {h : Heap} {Q : AV → Heap → Prop}
    (hq : ∀ (G : Heap) (o7 o8 : Nat), (∀ i, i < h.length → G[i]? = h[i]?) → G[o7]? = some (.arr 1 (List.map intE (pst st cs n n).O) true) → G[o8]? = some (.arr 1 (List.map intE (pst st cs n n).C) true) → Q (.tup [.osl o7 1 0 n n true, .osl o8 1 0 n n true]) G) : ACalls Tryz.prog 23 [pat n n st cs] h Q := by
  refine acalls_shift (peel_c n hn st cs hb hb2 hg) (by simp [pures, AV.pure, ints]) ?_
  rintro u h0 ⟨o7, o8, rfl, h7, h8⟩
  have key : ∀ i o, h0[i]? = some o → (behind h h0)[i + h.length]? = some (o.ren (sh h.length)) := fun i o hi => by
    rw [behind_eq, List.getElem?_append_right (by omega), Nat.add_sub_cancel, List.getElem?_map, hi]
    rfl
  exact hq _ _ _ (fun i hi => by rw [behind_eq]; exact List.getElem?_append_left hi) ((key _ _ h7).trans (by rw [ren_intEs])) ((key _ _ h8).trans (by rw [ren_intEs]))
end Go.Proofs.YtgdlkhgfehclpaaGreat
end

section
/- Degeneracy. No condition. -/
namespace Go.Proofs.YtgdlkhgfehclpaaGreat
open Go Go.AL
set_option linter.unusedVariables false
set_option linter.unusedSimpArgs false
/-- The greatest of the first k, and of 0. -/
def mxK (C : List Int) : Nat → Int
  | 0 => 0
  | k + 1 => max (mxK C k) (C.getD k default)
/-- Each vertex's core. -/
def coresOf (st cs : List Int) (n : Nat) : List Int := (pst st cs n n).C
theorem graph_sides {rows width : Int} {st cs : List Int} (h : graphP rows width st cs) : ∃ n : Nat, rows = n ∧ width = n ∧ n ≤ 128 := by
  have h1 := h.1.1.1
  have h2 := h.1.2.1
  exact ⟨rows.toNat, by omega, by omega, by omega⟩
set_option maxHeartbeats 4000000 in
set_option maxRecDepth 100000 in
theorem degen_c (rows width : Int) (st cs : List Int) (hb : st.length < 1000000000) (hb2 : cs.length < 1000000000) : ACalls Tryz.prog 9 [pat rows width st cs] [] fun v h =>
    (graphP rows width st cs → OFz h v (.tup [.int .i64 (mxK (coresOf st cs rows.toNat) rows.toNat), ints (coresOf st cs rows.toNat), .int .i64 0])) ∧ (¬ graphP rows width st cs → OFz h v (.tup [.int .i64 0, ints [], .int .i64 220])) := by
  refine (wp9 rfl rfl ?_)
  simp (maxSteps := 4000000) +contextual only [↓packA, ↓reduceIte, packB, pureOp, quietOp, loadOp, quietB, fr0, cellsK, implies_true, ite_true, ite_false, eq_self, ne_eq, reduceCtorEq, Nat.reduceLT, Nat.reduceLeDiff, Nat.reduceAdd, Nat.reduceMul, Nat.reduceBEq, Nat.reduceEqDiff, Int.reduceToNat, Int.reduceLT, Int.reduceLE, Nat.reduceSub, pl9, ft3, ft4, ft22, ft24, ints]
  refine acalls_pure (graph_c rows width st cs hb hb2) rfl ?_
  simp (maxSteps := 4000000) +contextual only [↓packA, ↓reduceIte, packB, pureOp, quietOp, loadOp, quietB, fr0, cellsK, implies_true, ite_true, ite_false, eq_self, ne_eq, reduceCtorEq, Nat.reduceLT, Nat.reduceLeDiff, Nat.reduceAdd, Nat.reduceMul, Nat.reduceBEq, Nat.reduceEqDiff, Int.reduceToNat, Int.reduceLT, Int.reduceLE, Nat.reduceSub, pl9, ft3, ft4, ft22, ft24, ints]
  refine ⟨fun hg => ?_, fun hg => .three (.flat _ rfl) (.nils 1) (.flat _ rfl)⟩
  obtain ⟨n, rfl, rfl, hn⟩ := graph_sides hg
  refine peel_at n hn st cs hb hb2 hg fun G o7 o8 hG g7 g8 => ?_
  have hCl := (pst_len st cs n n).2.2
  simp (maxSteps := 4000000) +contextual only [↓packA, ↓reduceIte, packB, pureOp, quietOp, loadOp, quietB, fr0, cellsK, implies_true, ite_true, ite_false, eq_self, ne_eq, reduceCtorEq, Nat.reduceLT, Nat.reduceLeDiff, Nat.reduceAdd, Nat.reduceMul, Nat.reduceBEq, Nat.reduceEqDiff, Int.reduceToNat, Int.reduceLT, Int.reduceLE, Nat.reduceSub, pl9, ft3, ft4, ft22, ft24, ints]
  refine LoopK.intro (fun m a h => ∃ k : Nat, m = n - k ∧ k ≤ n ∧ a 6 = .osl o8 1 0 n n true ∧ a 7 = .int .i64 (mxK (coresOf st cs n) k) ∧ a 18 = .osl o8 1 0 n n true ∧ a 19 = .int .i64 n ∧ a 20 = .int .i64 k ∧ h = G) n ⟨0, rfl, Nat.zero_le _, ?_⟩ ?_
  · simp (maxSteps := 4000000) only [↓packA, ↓reduceIte, packB, pureOp, quietOp, loadOp, quietB, fr0, cellsK, implies_true, ite_true, ite_false, eq_self, ne_eq, reduceCtorEq, Nat.reduceLT, Nat.reduceLeDiff, Nat.reduceAdd, Nat.reduceMul, Nat.reduceBEq, Nat.reduceEqDiff, Int.reduceToNat, Int.reduceLT, Int.reduceLE, Nat.reduceSub, pl9, ft3, ft4, ft22, ft24, Int.natCast_zero, mxK]
  rintro m a h ⟨k, rfl, hk, a6, a7, a18, a19, a20, rfl⟩
  simp (maxSteps := 4000000) +contextual only [↓packA, ↓reduceIte, packB, pureOp, quietOp, loadOp, quietB, fr0, cellsK, implies_true, ite_true, ite_false, eq_self, ne_eq, reduceCtorEq, Nat.reduceLT, Nat.reduceLeDiff, Nat.reduceAdd, Nat.reduceMul, Nat.reduceBEq, Nat.reduceEqDiff, Int.reduceToNat, Int.reduceLT, Int.reduceLE, Nat.reduceSub, pl9, ft3, ft4, ft22, ft24, a6, a7, a18, a19, a20, g8, minK_2, imax_eq]
  refine ⟨fun h2 => ⟨by omega, by omega, by omega, .inl ⟨n - (k + 1), by omega, k + 1, rfl, by omega, rfl, by omega⟩⟩, fun h2 => ?_⟩
  obtain rfl : n = k := by omega
  exact ⟨fun _ => .three (.flat _ rfl) (ofz_ints (l := coresOf st cs n) g8 hCl.symm) (.flat _ rfl), fun h => absurd hg h⟩
/-- The law's own graph. -/
theorem degen_a : ACalls Tryz.prog 9 [pat 3 3 [0, 1, 3, 4] [1, 0, 2, 1]] [] fun v h => OFz h v (.tup [.int .i64 1, ints [1, 1, 1], .int .i64 0]) :=
  (degen_c 3 3 [0, 1, 3, 4] [1, 0, 2, 1] (by simp) (by simp)).mono fun u h' hh => by
    have := hh.1 graph_a
    rw [show coresOf [0, 1, 3, 4] [1, 0, 2, 1] (3 : Int).toNat = [1, 1, 1] by decide, show mxK [1, 1, 1] (3 : Int).toNat = 1 by decide] at this
    exact this
end Go.Proofs.YtgdlkhgfehclpaaGreat
end

section
/- What must come: alive. No condition. -/
namespace Go.Proofs.YtgdlkhgfehclpaaGreat
open Go Go.AL
set_option linter.unusedVariables false
set_option linter.unusedSimpArgs false
theorem frz_pat {h : Heap} {x y x' y' : AV} {r w : Int} (hx : Frz h x x') (hy : Frz h y y') : Frz h (.agg [.int .i64 r, .int .i64 w, x, y]) (.agg [.int .i64 r, .int .i64 w, x', y']) := by
  refine .agg _ _ rfl fun q u u' hu hu' => ?_
  match q with
  | 0 => simp at hu hu'; subst hu hu'; exact .pure _ rfl
  | 1 => simp at hu hu'; subst hu hu'; exact .pure _ rfl
  | 2 => simp at hu hu'; subst hu hu'; exact hx
  | 3 => simp at hu hu'; subst hu hu'; exact hy
  | q + 4 => simp at hu
end Go.Proofs.YtgdlkhgfehclpaaGreat
end

section
/- How many neighbours stand ahead: Back, both. No condition. -/
namespace Go.Proofs.YtgdlkhgfehclpaaGreat
open Go Go.AL
set_option linter.unusedVariables false
set_option linter.unusedSimpArgs false
def bools (S : List Bool) : AV := .isl 1 (List.map boolE S)
theorem frz_bools {h : Heap} {id len cap : Nat} {ex ex' : Bool} {l : List Bool} (hid : h[id]? = some (.arr 1 (List.map boolE l) ex')) (hn : l.length = len) : Frz h (.osl id 1 0 len cap ex) (bools l) := by
  have := Frz.flat (h := h) (id := id) (k := 1) (i := 0) (len := len) (cap := cap) (ex := ex) hid (by simp; omega) (fun e he => by
    obtain ⟨x, _, rfl⟩ := List.mem_map.1 he; rfl)
  rw [List.drop_zero, List.take_of_length_le (by simp; omega)] at this
  exact this
theorem ftake {α : Type} [Inhabited α] {p : α → Bool} {l : List α} {k : Nat} (hk : k < l.length) : ((l.take (k + 1)).filter p).length = ((l.take k).filter p).length + if p (l.getD k default) = true then 1 else 0 := by
  have e : l.getD k default = l[k] := by simp [List.getD_eq_getElem?_getD, List.getElem?_eq_getElem hk]
  rw [List.take_add_one, List.getElem?_eq_getElem hk, List.filter_append, List.length_append, e]
  simp only [Option.toList, List.filter_cons, List.filter_nil]
  split <;> rfl
set_option maxRecDepth 100000 in
theorem among_c (n : Nat) (st cs : List Int) (S : List Bool) (hb : st.length < 1000000000) (hb2 : cs.length < 1000000000) (hm : mayP n n st cs) (hn : n ≤ 128) (v : Nat) (hv : v < n) (hS : S.length = n) : APure Tryz.prog 103 [pat n n st cs, .int .i64 v, bools S] (.int .i64 (cnt st cs S v)) := by
  have q4 := (may_row hm (show v < (n : Int).toNat by omega)).2.2.2.1
  have hrl := row_len hm hv
  refine apure_of (wp103 rfl rfl ?_)
  simp (maxSteps := 4000000) +contextual only [↓packA, ↓reduceIte, packB, pureOp, quietOp, loadOp, quietB, fr0, cellsK, implies_true, ite_true, ite_false, eq_self, ne_eq, reduceCtorEq, Nat.reduceLT, Nat.reduceLeDiff, Nat.reduceAdd, Nat.reduceMul, Nat.reduceBEq, Nat.reduceEqDiff, Int.reduceToNat, Int.reduceLT, Int.reduceLE, Nat.reduceSub, pl103, ft3, ft4, ft22, ft24, ft96, ints, bools]
  refine acalls_pure (rneigh_c n n st cs hb hb2 hm v (by omega) (by omega)) rfl ?_
  simp (maxSteps := 4000000) +contextual only [↓packA, ↓reduceIte, packB, pureOp, quietOp, loadOp, quietB, fr0, cellsK, implies_true, ite_true, ite_false, eq_self, ne_eq, reduceCtorEq, Nat.reduceLT, Nat.reduceLeDiff, Nat.reduceAdd, Nat.reduceMul, Nat.reduceBEq, Nat.reduceEqDiff, Int.reduceToNat, Int.reduceLT, Int.reduceLE, Nat.reduceSub, pl103, ft3, ft4, ft22, ft24, ft96, ints, bools]
  refine LoopK.intro (fun m a h => ∃ j : Nat, m = (rowOf st cs v).length - j ∧ j ≤ (rowOf st cs v).length ∧ a 2 = bools S ∧ a 7 = .int .i64 (((rowOf st cs v).take j).filter (fun w => S.getD w.toNat false)).length ∧ a 8 = ints (rowOf st cs v) ∧ a 9 = .int .i64 j ∧ h = [patO n n st cs]) (rowOf st cs v).length ⟨0, rfl, Nat.zero_le _, ?_⟩ ?_
  · simp (maxSteps := 4000000) only [↓packA, ↓reduceIte, packB, pureOp, quietOp, loadOp, quietB, fr0, cellsK, implies_true, ite_true, ite_false, eq_self, ne_eq, reduceCtorEq, Nat.reduceLT, Nat.reduceLeDiff, Nat.reduceAdd, Nat.reduceMul, Nat.reduceBEq, Nat.reduceEqDiff, Int.reduceToNat, Int.reduceLT, Int.reduceLE, Nat.reduceSub, pl103, ft3, ft4, ft22, ft24, ft96, ints, bools, patO, Int.natCast_zero]
    rfl
  rintro m a h ⟨j, rfl, hj, a2, a7, a8, a9, rfl⟩
  simp (maxSteps := 4000000) +contextual only [↓packA, ↓reduceIte, packB, pureOp, quietOp, loadOp, quietB, fr0, cellsK, implies_true, ite_true, ite_false, eq_self, ne_eq, reduceCtorEq, Nat.reduceLT, Nat.reduceLeDiff, Nat.reduceAdd, Nat.reduceMul, Nat.reduceBEq, Nat.reduceEqDiff, Int.reduceToNat, Int.reduceLT, Int.reduceLE, Nat.reduceSub, pl103, ft3, ft4, ft22, ft24, ft96, ints, bools, patO, a2, a7, a8, a9]
  refine ⟨fun h2 => ?_, fun h2 => ?_⟩
  · have hj2 : j < (rowOf st cs v).length := by omega
    have h3 := row_nonneg q4 hj2
    have h4 := (q4 j hj2).2
    have hft := ftake (p := fun w : Int => S.getD w.toNat false) hj2
    have hfl : (((rowOf st cs v).take j).filter (fun w : Int => S.getD w.toNat false)).length ≤ 128 := Nat.le_trans (List.length_filter_le _ _) (by simp; omega)
    refine ⟨by omega, by omega, by omega, by omega, fun h5 => ?_, fun h5 => ?_⟩
    · rw [if_pos (show S.getD ((rowOf st cs v).getD j default).toNat false = true from h5)] at hft
      exact ⟨by omega, by omega, .inl ⟨(rowOf st cs v).length - (j + 1), by omega, j + 1, rfl, by omega, by omega, by omega⟩⟩
    · rw [if_neg (show ¬ S.getD ((rowOf st cs v).getD j default).toNat false = true from fun hc => by first | exact h5 hc | (rw [show S.getD ((rowOf st cs v).getD j default).toNat default = true from hc] at h5; cases h5))] at hft
      exact ⟨by omega, .inl ⟨(rowOf st cs v).length - (j + 1), by omega, j + 1, rfl, by omega, by omega, by omega⟩⟩
  · obtain rfl : j = (rowOf st cs v).length := by omega
    rw [List.take_length]
    exact .pure _ rfl
/-- How many of a vertex's neighbours have a lesser place. -/
def bk (st cs P : List Int) (v : Nat) : Nat := ((rowOf st cs v).filter (fun w => decide (P.getD w.toNat default < P.getD v default))).length
def bkL (st cs P : List Int) (n : Nat) : List Int := (List.range n).map fun v => ((bk st cs P v : Nat) : Int)
theorem bkL_len {st cs P : List Int} {n : Nat} : (bkL st cs P n).length = n := by simp [bkL]
theorem bkL_get {st cs P : List Int} {n v : Nat} (h : v < n) : (bkL st cs P n).getD v default = bk st cs P v := by
  simp [bkL, List.getD_eq_getElem?_getD, List.getElem?_map, List.getElem?_range h]
noncomputable def backV (rows width : Int) (st cs xs : List Int) : AV := if graphP rows width st cs then (if checkR rows xs = 0 then .tup [.int .i64 (mxK (bkL st cs (invR xs) rows.toNat) rows.toNat), ints (bkL st cs (invR xs) rows.toNat), .int .i64 0] else .tup [.int .i64 0, ints [], .int .i64 182]) else .tup [.int .i64 0, ints [], .int .i64 220]
theorem backV_form (rows width : Int) (st cs xs : List Int) : ∃ a l e, backV rows width st cs xs = .tup [.int .i64 a, ints l, .int .i64 e] ∧ l.length ≤ 128 := by
  unfold backV
  split
  · rename_i hg
    have := hg.1.1.1
    split
    · exact ⟨_, _, _, rfl, by rw [bkL_len]; omega⟩
    · exact ⟨_, _, _, rfl, Nat.zero_le _⟩
  · exact ⟨_, _, _, rfl, Nat.zero_le _⟩
set_option maxHeartbeats 4000000 in
set_option maxRecDepth 100000 in
theorem back_c (rows width : Int) (st cs xs : List Int) (hb : st.length < 1000000000) (hb2 : cs.length < 1000000000) (hbx : xs.length < 1000000000) : ACalls Tryz.prog 8 [pat rows width st cs, ints xs] [] fun v h => OFz h v (backV rows width st cs xs) := by
  refine (wp8 rfl rfl ?_)
  simp (maxSteps := 4000000) +contextual only [↓packA, ↓reduceIte, packB, pureOp, quietOp, loadOp, quietB, fr0, cellsK, implies_true, ite_true, ite_false, eq_self, ne_eq, reduceCtorEq, Nat.reduceLT, Nat.reduceLeDiff, Nat.reduceAdd, Nat.reduceMul, Nat.reduceBEq, Nat.reduceEqDiff, Int.reduceToNat, Int.reduceLT, Int.reduceLE, Nat.reduceSub, pl8, ft3, ft4, ft22, ft24, ft50, ints]
  refine acalls_pure (graph_c rows width st cs hb hb2) rfl ?_
  simp (maxSteps := 4000000) +contextual only [↓packA, ↓reduceIte, packB, pureOp, quietOp, loadOp, quietB, fr0, cellsK, implies_true, ite_true, ite_false, eq_self, ne_eq, reduceCtorEq, Nat.reduceLT, Nat.reduceLeDiff, Nat.reduceAdd, Nat.reduceMul, Nat.reduceBEq, Nat.reduceEqDiff, Int.reduceToNat, Int.reduceLT, Int.reduceLE, Nat.reduceSub, pl8, ft3, ft4, ft22, ft24, ft50, ints]
  refine ⟨fun hg => ?_, fun hg => ?_⟩
  rotate_left
  · rw [show backV rows width st cs xs = .tup [.int .i64 0, ints [], .int .i64 220] from if_neg hg]
    exact .three (.flat _ rfl) (.nils 1) (.flat _ rfl)
  obtain ⟨n, rfl, rfl, hn⟩ := graph_sides hg
  refine acalls_pure (check_c n xs) rfl ?_
  simp (maxSteps := 4000000) +contextual only [↓packA, ↓reduceIte, packB, pureOp, quietOp, loadOp, quietB, fr0, cellsK, implies_true, ite_true, ite_false, eq_self, ne_eq, reduceCtorEq, Nat.reduceLT, Nat.reduceLeDiff, Nat.reduceAdd, Nat.reduceMul, Nat.reduceBEq, Nat.reduceEqDiff, Int.reduceToNat, Int.reduceLT, Int.reduceLE, Nat.reduceSub, pl8, ft3, ft4, ft22, ft24, ft50, ints]
  refine ⟨fun h1 => ?_, fun h1 => ?_⟩
  · rw [show backV n n st cs xs = .tup [.int .i64 0, ints [], .int .i64 182] from (if_pos hg).trans (if_neg h1)]
    exact .three (.flat _ rfl) (.nils 1) (.flat _ rfl)
  have hbv : backV n n st cs xs = .tup [.int .i64 (mxK (bkL st cs (invR xs) n) n), ints (bkL st cs (invR xs) n), .int .i64 0] := (if_pos hg).trans ((if_pos h1).trans (by rw [Int.toNat_natCast]))
  rw [hbv]
  obtain ⟨_, _, hxl, hord⟩ := checkR_zero h1
  have hxn : xs.length = n := by omega
  have hPl : (invR xs).length = n := by rw [(invR_ok (by rw [hxl]; exact h1)).1, invK_length]; exact hxn
  refine acalls_fresh (inverse_c xs (by omega)) ?_ (fun u h0 hz => ⟨_, hz, ?_⟩)
  · exact .cons (.pure _ rfl) .nil
  generalize invR xs = P at *
  simp (maxSteps := 4000000) +contextual only [↓packA, ↓reduceIte, packB, pureOp, quietOp, loadOp, quietB, fr0, cellsK, implies_true, ite_true, ite_false, eq_self, ne_eq, reduceCtorEq, Nat.reduceLT, Nat.reduceLeDiff, Nat.reduceAdd, Nat.reduceMul, Nat.reduceBEq, Nat.reduceEqDiff, Int.reduceToNat, Int.reduceLT, Int.reduceLE, Nat.reduceSub, pl8, ft3, ft4, ft22, ft24, ft50, ints]
  refine ⟨by omega, ?_⟩
  refine LoopK.intro (fun m a h => ∃ (k : Nat) (L : List Int), m = n - k ∧ k ≤ n ∧ L.length = n ∧ (∀ u : Nat, u < k → L.getD u default = bk st cs P u) ∧ (∀ u : Nat, k ≤ u → u < n → L.getD u default = 0) ∧ a 2 = .op 0 4 0 0 ∧ a 7 = ints P ∧ a 9 = .int .i64 (mxK (bkL st cs P n) k) ∧ a 10 = .osl 1 1 0 n n true ∧ a 31 = .int .i64 n ∧ a 32 = .int .i64 k ∧ h = [patO n n st cs, Ob.arr 1 (List.map intE L) true]) n ⟨0, List.replicate n 0, rfl, Nat.zero_le _, by simp, fun u hu => by omega, fun u _ hu => by simp [List.getD_eq_getElem?_getD, List.getElem?_replicate, hu], ?_⟩ ?_
  · simp (maxSteps := 4000000) only [↓packA, ↓reduceIte, packB, pureOp, quietOp, loadOp, quietB, fr0, cellsK, implies_true, ite_true, ite_false, eq_self, ne_eq, reduceCtorEq, Nat.reduceLT, Nat.reduceLeDiff, Nat.reduceAdd, Nat.reduceMul, Nat.reduceBEq, Nat.reduceEqDiff, Int.reduceToNat, Int.reduceLT, Int.reduceLE, Nat.reduceSub, pl8, ft3, ft4, ft22, ft24, ft50, ints, patO, mxK, Int.natCast_zero]
  rintro m a h ⟨k, L, rfl, hk, hL, hlo, hhi, a2, a7, a9, a10, a31, a32, rfl⟩
  simp (maxSteps := 4000000) +contextual only [↓packA, ↓reduceIte, packB, pureOp, quietOp, loadOp, quietB, fr0, cellsK, implies_true, ite_true, ite_false, eq_self, ne_eq, reduceCtorEq, Nat.reduceLT, Nat.reduceLeDiff, Nat.reduceAdd, Nat.reduceMul, Nat.reduceBEq, Nat.reduceEqDiff, Int.reduceToNat, Int.reduceLT, Int.reduceLE, Nat.reduceSub, pl8, ft3, ft4, ft22, ft24, ft50, ints, patO, a2, a7, a9, a10, a31, a32]
  refine ⟨fun h2 => ?_, fun h2 => ?_⟩
  · have q4 := (may_row hg.1.1 (show k < (n : Int).toNat by omega)).2.2.2.1
    have hrl := row_len hg.1.1 (show k < n by omega)
    refine acalls_pure (neigh_c n n st cs hb hb2 hg.1.1 k (by omega) (by omega)) rfl ?_
    simp (maxSteps := 4000000) +contextual only [↓packA, ↓reduceIte, packB, pureOp, quietOp, loadOp, quietB, fr0, cellsK, implies_true, ite_true, ite_false, eq_self, ne_eq, reduceCtorEq, Nat.reduceLT, Nat.reduceLeDiff, Nat.reduceAdd, Nat.reduceMul, Nat.reduceBEq, Nat.reduceEqDiff, Int.reduceToNat, Int.reduceLT, Int.reduceLE, Nat.reduceSub, pl8, ft3, ft4, ft22, ft24, ft50, ints, patO, a2, a7, a9, a10, a31, a32]
    refine LoopK.intro (fun m a h => ∃ (j : Nat) (L : List Int), m = (rowOf st cs k).length - j ∧ j ≤ (rowOf st cs k).length ∧ L.length = n ∧ (∀ u : Nat, u < k → L.getD u default = bk st cs P u) ∧ (∀ u : Nat, k < u → u < n → L.getD u default = 0) ∧ L.getD k default = (((rowOf st cs k).take j).filter (fun w => decide (P.getD w.toNat default < P.getD k default))).length ∧ a 2 = .op 0 4 0 0 ∧ a 7 = ints P ∧ a 9 = .int .i64 (mxK (bkL st cs P n) k) ∧ a 10 = .osl 1 1 0 n n true ∧ a 11 = .int .i64 k ∧ a 31 = .int .i64 n ∧ a 32 = .int .i64 k ∧ a 37 = ints (rowOf st cs k) ∧ a 38 = .int .i64 (rowOf st cs k).length ∧ a 39 = .int .i64 j ∧ h = [patO n n st cs, Ob.arr 1 (List.map intE L) true]) (rowOf st cs k).length ⟨0, L, rfl, Nat.zero_le _, hL, hlo, fun u h3 h4 => hhi u (by omega) h4, by rw [hhi k (Nat.le_refl _) (by omega)]; rfl, ?_⟩ ?_
    · simp (maxSteps := 4000000) only [↓packA, ↓reduceIte, packB, pureOp, quietOp, loadOp, quietB, fr0, cellsK, implies_true, ite_true, ite_false, eq_self, ne_eq, reduceCtorEq, Nat.reduceLT, Nat.reduceLeDiff, Nat.reduceAdd, Nat.reduceMul, Nat.reduceBEq, Nat.reduceEqDiff, Int.reduceToNat, Int.reduceLT, Int.reduceLE, Nat.reduceSub, pl8, ft3, ft4, ft22, ft24, ft50, ints, patO, a2, a7, a9, a10, a31, a32, Int.natCast_zero]
    clear a2 a7 a9 a10 a31 a32
    rintro m a h ⟨j, L, rfl, hj, hL, hlo, hhi, hk3, a2, a7, a9, a10, a11, a31, a32, a37, a38, a39, rfl⟩
    simp (maxSteps := 4000000) +contextual only [↓packA, ↓reduceIte, packB, pureOp, quietOp, loadOp, quietB, fr0, cellsK, implies_true, ite_true, ite_false, eq_self, ne_eq, reduceCtorEq, Nat.reduceLT, Nat.reduceLeDiff, Nat.reduceAdd, Nat.reduceMul, Nat.reduceBEq, Nat.reduceEqDiff, Int.reduceToNat, Int.reduceLT, Int.reduceLE, Nat.reduceSub, pl8, ft3, ft4, ft22, ft24, ft50, ints, patO, a2, a7, a9, a10, a11, a31, a32, a37, a38, a39, minK_2, imax_eq]
    refine ⟨fun h3 => ?_, fun h3 => ?_⟩
    · have hjl : j < (rowOf st cs k).length := by omega
      have h4 := row_nonneg q4 hjl
      have h5 := (q4 j hjl).2
      have hft := ftake (p := fun w : Int => decide (P.getD w.toNat default < P.getD k default)) hjl
      have hfl : (((rowOf st cs k).take j).filter (fun w : Int => decide (P.getD w.toNat default < P.getD k default))).length ≤ 128 := Nat.le_trans (List.length_filter_le _ _) (by simp; omega)
      refine ⟨by omega, by omega, by omega, by omega, by omega, by omega, fun h6 => ?_, fun h6 => ?_⟩
      · rw [if_pos (decide_eq_true h6)] at hft
        refine ⟨by omega, by omega, by omega, by omega, by omega, by omega, .inl ⟨(rowOf st cs k).length - (j + 1), by omega, j + 1, L.set k (L.getD k default + 1), rfl, by omega, by simp [hL], fun u hu => ?_, fun u hu1 hu2 => ?_, ?_, by omega, rfl⟩⟩
        · rw [getD_set_ne (by omega)]; exact hlo u hu
        · rw [getD_set_ne (by omega)]; exact hhi u hu1 hu2
        · rw [show (L.set k (L.getD k default + 1)).getD k default = L.getD k default + 1 by simp [List.getD_eq_getElem?_getD, List.getElem?_set_self (show k < L.length by omega)]]
          omega
      · rw [if_neg (by simpa using h6)] at hft
        exact ⟨by omega, .inl ⟨(rowOf st cs k).length - (j + 1), by omega, j + 1, L, rfl, by omega, hL, hlo, hhi, by omega, by omega, rfl⟩⟩
    · obtain rfl : j = (rowOf st cs k).length := by omega
      rw [List.take_length] at hk3
      have hbk : L.getD k default = bk st cs P k := hk3
      refine ⟨by omega, by omega, by omega, .inl ⟨n - (k + 1), by omega, k + 1, L, rfl, by omega, hL, fun u hu => ?_, fun u hu1 hu2 => hhi u (by omega) hu2, ?_, by omega, rfl⟩⟩
      · rcases Nat.lt_or_ge u k with h6 | h6
        · exact hlo u h6
        · rw [show u = k by omega]; exact hbk
      · simp only [mxK]
        rw [bkL_get (by omega), hbk]
  · obtain rfl : n = k := by omega
    have hLe : L = bkL st cs P n := list_ext_getD (by rw [hL, bkL_len]) fun u hu => by rw [hlo u (by omega), bkL_get (by omega)]
    subst hLe
    exact .three (.flat _ rfl) (ofz_ints (l := bkL st cs P n) rfl bkL_len.symm) (.flat _ rfl)
end Go.Proofs.YtgdlkhgfehclpaaGreat
end

section
/- How many neighbours stand ahead, the document's. No condition. -/
namespace Go.Proofs.YtgdlkhgfehclpaaGreat
open Go Go.AL
set_option linter.unusedVariables false
set_option linter.unusedSimpArgs false
theorem mxK_ge {C : List Int} : ∀ k, 0 ≤ mxK C k ∧ ∀ u, u < k → C.getD u default ≤ mxK C k
  | 0 => ⟨Int.le_refl _, fun u h => absurd h (Nat.not_lt_zero _)⟩
  | k + 1 => by
    obtain ⟨h1, h2⟩ := mxK_ge (C := C) k
    simp only [mxK]
    refine ⟨by omega, fun u hu => ?_⟩
    rcases Nat.lt_or_ge u k with h3 | h3
    · have := h2 u h3; omega
    · rw [show u = k by omega]; omega
theorem mxK_at {C : List Int} : ∀ k, mxK C k = 0 ∨ ∃ u, u < k ∧ mxK C k = C.getD u default
  | 0 => .inl rfl
  | k + 1 => by
    simp only [mxK]
    rcases Int.lt_or_le (mxK C k) (C.getD k default) with h1 | h1
    · exact .inr ⟨k, by omega, by omega⟩
    · rcases mxK_at (C := C) k with h2 | ⟨u, h2, h3⟩
      · left; omega
      · exact .inr ⟨u, by omega, by omega⟩
theorem mxK_uniq {C : List Int} {k : Nat} {M : Int} (h0 : 0 ≤ M) (h1 : ∀ u, u < k → C.getD u default ≤ M) (h2 : M = 0 ∨ ∃ u, u < k ∧ M = C.getD u default) : mxK C k = M := by
  obtain ⟨g0, g1⟩ := mxK_ge (C := C) k
  have ha : M ≤ mxK C k := by
    rcases h2 with h2 | ⟨u, h3, h4⟩
    · omega
    · have := g1 u h3; omega
  have hb : mxK C k ≤ M := by
    rcases mxK_at (C := C) k with h3 | ⟨u, h3, h4⟩
    · omega
    · have := h1 u h3; omega
  omega
theorem cnt_bk {st cs xs : List Int} {n : Nat} (hm : mayP n n st cs) (hxl : xs.length = n) (hord : ordOK xs.length xs) {S : List Bool} {i v : Nat} (hi : i < n) (hv : xs.getD i default = v) (hS : ∀ u : Nat, u < n → (S.getD u false = true ↔ ∃ j, j < i ∧ xs.getD j default = u)) : cnt st cs S v = bk st cs (invK xs xs.length) v := by
  have hvn : v < n := by
    have := (hord i (by omega)).2.1
    omega
  have q4 := (may_row hm (show v < (n : Int).toNat by omega)).2.2.2.1
  have hPv := invK_get hord xs.length (Nat.le_refl _) i (by omega)
  rw [hv, Int.toNat_natCast] at hPv
  unfold cnt bk
  congr 1
  refine List.filter_congr fun w hw => ?_
  obtain ⟨j, hj, e⟩ := mem_getD.1 hw
  have h1 := row_nonneg q4 hj
  have h2 := (q4 j hj).2
  obtain ⟨u, rfl⟩ := Int.eq_ofNat_of_zero_le (show 0 ≤ w by omega)
  rw [Int.toNat_natCast, hPv]
  obtain ⟨t, ht, e2⟩ := ord_onto hord (show u < xs.length by omega)
  have hPu := invK_get hord xs.length (Nat.le_refl _) t ht
  rw [e2, Int.toNat_natCast] at hPu
  rw [hPu]
  have key := hS u (by omega)
  rw [Bool.eq_iff_iff, key, decide_eq_true_iff]
  constructor
  · rintro ⟨j2, h3, h4⟩
    rcases Nat.lt_trichotomy j2 t with h5 | h5 | h5
    · have := (hord t ht).2.2 j2 h5; omega
    · omega
    · have := (hord j2 (by omega)).2.2 t h5; omega
  · intro h3; exact ⟨t, by omega, e2⟩
set_option maxHeartbeats 4000000 in
set_option maxRecDepth 100000 in
theorem backof_c (n : Nat) (st cs xs : List Int) (hb : st.length < 1000000000) (hb2 : cs.length < 1000000000) (hg : graphP n n st cs) (hn : n ≤ 128) (hxl : xs.length = n) (hord : ordOK xs.length xs) :
    ACalls Tryz.prog 95 [pat n n st cs, ints xs] [] fun v h => v = .tup [.int .i64 (mxK (bkL st cs (invK xs xs.length) n) n), .osl 2 1 0 n n true] ∧ h[2]? = some (.arr 1 (List.map intE (bkL st cs (invK xs xs.length) n)) true) := by
  refine (wp95 rfl rfl ?_)
  simp (maxSteps := 4000000) +contextual only [↓packA, ↓reduceIte, packB, pureOp, quietOp, loadOp, quietB, fr0, cellsK, implies_true, ite_true, ite_false, eq_self, ne_eq, reduceCtorEq, Nat.reduceLT, Nat.reduceLeDiff, Nat.reduceAdd, Nat.reduceMul, Nat.reduceBEq, Nat.reduceEqDiff, Int.reduceToNat, Int.reduceLT, Int.reduceLE, Nat.reduceSub, pl95, ft3, ft4, ft22, ft24, ft96, ints]
  refine ⟨by omega, by omega, ?_⟩
  refine LoopK.intro (fun m a h => ∃ (i : Nat) (S : List Bool) (L : List Int) (M : Int), m = n - i ∧ i ≤ n ∧ S.length = n ∧ L.length = n ∧ (∀ u : Nat, u < n → (S.getD u false = true ↔ ∃ j, j < i ∧ xs.getD j default = u)) ∧ (∀ j, j < i → L.getD (xs.getD j default).toNat default = bk st cs (invK xs xs.length) (xs.getD j default).toNat ∧ L.getD (xs.getD j default).toNat default ≤ M) ∧ 0 ≤ M ∧ (M = 0 ∨ ∃ j, j < i ∧ M = bk st cs (invK xs xs.length) (xs.getD j default).toNat) ∧
    a 1 = ints xs ∧ a 2 = .op 0 4 0 0 ∧ a 6 = .osl 1 1 0 n n true ∧ a 7 = .osl 2 1 0 n n true ∧ a 8 = .int .i64 M ∧ a 9 = .int .i64 i ∧ h = [patO n n st cs, Ob.arr 1 (List.map boolE S) true, Ob.arr 1 (List.map intE L) true]) n ⟨0, List.replicate n false, List.replicate n 0, 0, rfl, Nat.zero_le _, by simp, by simp, fun u hu => ?_, fun j hj => by omega, Int.le_refl _, .inl rfl, ?_⟩ ?_
  · rw [List.getD_eq_getElem?_getD, List.getElem?_replicate, if_pos hu]
    simp
  · simp (maxSteps := 4000000) only [↓packA, ↓reduceIte, packB, pureOp, quietOp, loadOp, quietB, fr0, cellsK, implies_true, ite_true, ite_false, eq_self, ne_eq, reduceCtorEq, Nat.reduceLT, Nat.reduceLeDiff, Nat.reduceAdd, Nat.reduceMul, Nat.reduceBEq, Nat.reduceEqDiff, Int.reduceToNat, Int.reduceLT, Int.reduceLE, Nat.reduceSub, pl95, ft3, ft4, ft22, ft24, ft96, ints, patO, Int.natCast_zero]
  rintro m a h ⟨i, S, L, M, rfl, hi, hS, hL, hSs, hLs, hM0, hMs, a1, a2, a6, a7, a8, a9, rfl⟩
  simp (maxSteps := 4000000) +contextual only [↓packA, ↓reduceIte, packB, pureOp, quietOp, loadOp, quietB, fr0, cellsK, implies_true, ite_true, ite_false, eq_self, ne_eq, reduceCtorEq, Nat.reduceLT, Nat.reduceLeDiff, Nat.reduceAdd, Nat.reduceMul, Nat.reduceBEq, Nat.reduceEqDiff, Int.reduceToNat, Int.reduceLT, Int.reduceLE, Nat.reduceSub, pl95, ft3, ft4, ft22, ft24, ft96, ints, patO, a1, a2, a6, a7, a8, a9]
  refine ⟨fun h2 => ?_, fun h2 => ?_⟩
  · have hin : i < n := by omega
    have hx0 := hord i (by omega)
    obtain ⟨v, hv⟩ := Int.eq_ofNat_of_zero_le hx0.1
    have hvn : v < n := by
      have := hx0.2.1
      omega
    have hcb := cnt_bk hg.1.1 hxl hord hin hv hSs
    simp only [hv, mk_eq]
    refine ⟨by omega, by omega, acalls_lend (among_c n st cs S hb hb2 hg.1.1 hn v hvn hS) ?_ rfl ?_⟩
    · exact .cons (.pure _ rfl) (.cons (.pure _ rfl) (.cons (frz_bools (l := S) rfl hS) .nil))
    rw [hcb]
    have hgs : ∀ z, (L.set v z).getD v default = z := fun z => by simp [List.getD_eq_getElem?_getD, List.getElem?_set_self (show v < L.length by omega)]
    simp (maxSteps := 4000000) +contextual only [↓packA, ↓reduceIte, packB, pureOp, quietOp, loadOp, quietB, fr0, cellsK, implies_true, ite_true, ite_false, eq_self, ne_eq, reduceCtorEq, Nat.reduceLT, Nat.reduceLeDiff, Nat.reduceAdd, Nat.reduceMul, Nat.reduceBEq, Nat.reduceEqDiff, Int.reduceToNat, Int.reduceLT, Int.reduceLE, Nat.reduceSub, pl95, ft3, ft4, ft22, ft24, ft96, ints, patO, a1, a2, a6, a7, a8, a9, hv, hgs]
    have hnj : ∀ j, j < i → (xs.getD j default).toNat ≠ v := fun j hj => by
      have h3 := hx0.2.2 j hj
      have h4 := (hord j (by omega)).1
      omega
    have fin1 : ∀ u : Nat, u < n → ((S.set v true).getD u false = true ↔ ∃ j, j < i + 1 ∧ xs.getD j default = u) := fun u hu => by
      by_cases c : v = u
      · subst c
        simp only [List.getD_eq_getElem?_getD, List.getElem?_set_self (show v < S.length by omega)]
        simp only [Option.getD_some, true_iff]
        exact ⟨i, by omega, by rw [← List.getD_eq_getElem?_getD]; exact hv⟩
      · simp only [List.getD_eq_getElem?_getD, List.getElem?_set_ne c]
        rw [← List.getD_eq_getElem?_getD, hSs u hu]
        constructor
        · rintro ⟨j, h3, h4⟩; exact ⟨j, by omega, by rw [← List.getD_eq_getElem?_getD]; exact h4⟩
        · rintro ⟨j, h3, h4⟩
          rw [← List.getD_eq_getElem?_getD] at h4
          refine ⟨j, ?_, h4⟩
          rcases Nat.lt_or_ge j i with h5 | h5
          · exact h5
          · rw [show j = i by omega] at h4; omega
    have fin2 : ∀ M' : Int, M ≤ M' → (bk st cs (invK xs xs.length) v : Int) ≤ M' → ∀ j, j < i + 1 → (L.set v (bk st cs (invK xs xs.length) v : Int)).getD (xs.getD j default).toNat default = bk st cs (invK xs xs.length) (xs.getD j default).toNat ∧ (L.set v (bk st cs (invK xs xs.length) v : Int)).getD (xs.getD j default).toNat default ≤ M' := fun M' h3 h4 j hj => by
      rcases Nat.lt_or_ge j i with h5 | h5
      · rw [getD_set_ne (Ne.symm (hnj j h5))]
        have := hLs j h5
        exact ⟨this.1, by omega⟩
      · rw [show j = i by omega, hv, Int.toNat_natCast, hgs]
        exact ⟨rfl, h4⟩
    refine ⟨by omega, by omega, by omega, by omega, fun h3 => ?_, fun h3 => ?_⟩
    · exact ⟨by omega, by omega, by omega, by omega, by omega, .inl ⟨n - (i + 1), by omega, i + 1, S.set v true, L.set v (bk st cs (invK xs xs.length) v : Int), _, rfl, by omega, by simp [hS], by simp [hL], fin1, fin2 _ (by omega) (Int.le_refl _), by omega, .inr ⟨i, by omega, by rw [hv, Int.toNat_natCast]⟩, rfl, by omega, rfl⟩⟩
    · exact ⟨by omega, by omega, by omega, .inl ⟨n - (i + 1), by omega, i + 1, S.set v true, L.set v (bk st cs (invK xs xs.length) v : Int), M, rfl, by omega, by simp [hS], by simp [hL], fin1, fin2 _ (Int.le_refl _) (by omega), hM0, hMs.imp_right fun ⟨j, h4, h5⟩ => ⟨j, by omega, h5⟩, rfl, by omega, rfl⟩⟩
  · obtain rfl : i = n := by omega
    have hon : ∀ u, u < i → ∃ j, j < i ∧ xs.getD j default = (u : Nat) := fun u hu => by
      obtain ⟨j, h3, h4⟩ := ord_onto hord (show u < xs.length by omega)
      exact ⟨j, by omega, h4⟩
    have hLe : L = bkL st cs (invK xs xs.length) i := list_ext_getD (by rw [hL, bkL_len]) fun u hu => by
      obtain ⟨j, h3, h4⟩ := hon u (by omega)
      have h5 := (hLs j h3).1
      rw [h4, Int.toNat_natCast] at h5
      rw [h5, bkL_get (by omega)]
    have hMe : mxK (bkL st cs (invK xs xs.length) i) i = M := mxK_uniq hM0 (fun u hu => by
      obtain ⟨j, h3, h4⟩ := hon u hu
      have h5 := (hLs j h3).2
      rw [h4, Int.toNat_natCast] at h5
      rw [← hLe]; exact h5) (hMs.imp_right fun ⟨j, h3, h4⟩ => by
      have h5 := hord j (by omega)
      exact ⟨(xs.getD j default).toNat, by have := h5.1; have := h5.2.1; omega, by rw [bkL_get (by have := h5.1; have := h5.2.1; omega)]; exact h4⟩)
    rw [hMe, ← hLe]
    exact ⟨rfl, rfl⟩
set_option maxRecDepth 100000 in
theorem rback_c (rows width : Int) (st cs xs : List Int) (hb : st.length < 1000000000) (hb2 : cs.length < 1000000000) (hbx : xs.length < 1000000000) : ACalls Tryz.prog 73 [pat rows width st cs, ints xs] [] fun v h => OFz h v (backV rows width st cs xs) := by
  refine (wp73 rfl rfl ?_)
  simp (maxSteps := 4000000) +contextual only [↓packA, ↓reduceIte, packB, pureOp, quietOp, loadOp, quietB, fr0, cellsK, implies_true, ite_true, ite_false, eq_self, ne_eq, reduceCtorEq, Nat.reduceLT, Nat.reduceLeDiff, Nat.reduceAdd, Nat.reduceMul, Nat.reduceBEq, Nat.reduceEqDiff, Int.reduceToNat, Int.reduceLT, Int.reduceLE, Nat.reduceSub, pl73, ft3, ft4, ft22, ft24, ints]
  refine acalls_pure (rgraph_c rows width st cs hb hb2) rfl ?_
  simp (maxSteps := 4000000) +contextual only [↓packA, ↓reduceIte, packB, pureOp, quietOp, loadOp, quietB, fr0, cellsK, implies_true, ite_true, ite_false, eq_self, ne_eq, reduceCtorEq, Nat.reduceLT, Nat.reduceLeDiff, Nat.reduceAdd, Nat.reduceMul, Nat.reduceBEq, Nat.reduceEqDiff, Int.reduceToNat, Int.reduceLT, Int.reduceLE, Nat.reduceSub, pl73, ft3, ft4, ft22, ft24, ints]
  refine ⟨fun hg => ?_, fun hg => ?_⟩
  rotate_left
  · rw [show backV rows width st cs xs = .tup [.int .i64 0, ints [], .int .i64 220] from if_neg hg]
    exact .three (.flat _ rfl) (.nils 1) (.flat _ rfl)
  obtain ⟨n, rfl, rfl, hn⟩ := graph_sides hg
  refine acalls_pure (checkr_c n xs) rfl ?_
  simp (maxSteps := 4000000) +contextual only [↓packA, ↓reduceIte, packB, pureOp, quietOp, loadOp, quietB, fr0, cellsK, implies_true, ite_true, ite_false, eq_self, ne_eq, reduceCtorEq, Nat.reduceLT, Nat.reduceLeDiff, Nat.reduceAdd, Nat.reduceMul, Nat.reduceBEq, Nat.reduceEqDiff, Int.reduceToNat, Int.reduceLT, Int.reduceLE, Nat.reduceSub, pl73, ft3, ft4, ft22, ft24, ints]
  refine ⟨fun h1 => ?_, fun h1 => ?_⟩
  · rw [show backV n n st cs xs = .tup [.int .i64 0, ints [], .int .i64 182] from (if_pos hg).trans (if_neg h1)]
    exact .three (.flat _ rfl) (.nils 1) (.flat _ rfl)
  obtain ⟨_, _, hxl, hord⟩ := checkR_zero h1
  rw [← hxl] at hord
  have hinv : invR xs = invK xs xs.length := (invR_ok (by rw [hxl]; exact h1)).1
  have hbv : backV n n st cs xs = .tup [.int .i64 (mxK (bkL st cs (invK xs xs.length) n) n), ints (bkL st cs (invK xs xs.length) n), .int .i64 0] := (if_pos hg).trans ((if_pos h1).trans (by rw [Int.toNat_natCast, hinv]))
  rw [hbv]
  refine acalls_shift (backof_c n st cs xs hb hb2 hg hn (by omega) hord) (by simp [pures, AV.pure, ints]) ?_
  rintro u h0 ⟨rfl, hz⟩
  generalize hh : ([Ob.arr 4 [[.int .i64 (n : Int), .int .i64 (n : Int), .isl 1 (List.map intE st), .isl 1 (List.map intE cs)]] true] : Heap) = hp
  have key : (behind hp h0)[2 + hp.length]? = some (.arr 1 (List.map intE (bkL st cs (invK xs xs.length) n)) true) := by
    rw [behind_eq, List.getElem?_append_right (by omega), Nat.add_sub_cancel, List.getElem?_map, hz]
    simp [ren_intEs]
  generalize behind hp h0 = G at *
  simp (maxSteps := 4000000) +contextual only [↓packA, ↓reduceIte, packB, pureOp, quietOp, loadOp, quietB, fr0, cellsK, implies_true, ite_true, ite_false, eq_self, ne_eq, reduceCtorEq, Nat.reduceLT, Nat.reduceLeDiff, Nat.reduceAdd, Nat.reduceMul, Nat.reduceBEq, Nat.reduceEqDiff, Int.reduceToNat, Int.reduceLT, Int.reduceLE, Nat.reduceSub, pl73, ft3, ft4, ft22, ft24, ints]
  exact .three (.flat _ rfl) (ofz_ints (l := bkL st cs (invK xs xs.length) n) key bkL_len.symm) (.flat _ rfl)
end Go.Proofs.YtgdlkhgfehclpaaGreat
end

section
/- Cores: what the numbers that taking away gives mean. No condition. -/
namespace Go.Proofs.YtgdlkhgfehclpaaGreat
open Go Go.AL
set_option linter.unusedVariables false
set_option linter.unusedSimpArgs false
theorem getB_set {S : List Bool} {v u : Nat} (hv : v < S.length) : (S.set v false).getD u false = (if u = v then false else S.getD u false) := by
  by_cases e : u = v
  · subst e; rw [if_pos rfl]; simp [List.getD_eq_getElem?_getD, List.getElem?_set_self hv]
  · rw [if_neg e]; simp only [List.getD_eq_getElem?_getD, List.getElem?_set_ne (Ne.symm e)]
theorem cnt_mono {st cs : List Int} {n : Nat} (hm : mayP n n st cs) {S T : List Bool} {v : Nat} (hv : v < n) (h : ∀ u, u < n → S.getD u false = true → T.getD u false = true) : cnt st cs S v ≤ cnt st cs T v := by
  have q4 := (may_row hm (show v < (n : Int).toNat by omega)).2.2.2.1
  unfold cnt
  have key : ∀ l : List Int, (∀ w ∈ l, S.getD w.toNat false = true → T.getD w.toNat false = true) → (l.filter (fun w => S.getD w.toNat false)).length ≤ (l.filter (fun w => T.getD w.toNat false)).length := by
    intro l
    induction l with
    | nil => intro _; exact Nat.le_refl _
    | cons x l ih =>
      intro hl
      have ih' := ih (fun w hw => hl w (List.mem_cons_of_mem _ hw))
      rw [List.filter_cons, List.filter_cons]
      by_cases hs : S.getD x.toNat false = true
      · rw [if_pos hs, if_pos (hl x List.mem_cons_self hs)]
        simp only [List.length_cons]; omega
      · rw [if_neg hs]
        split
        · simp only [List.length_cons]; omega
        · exact ih'
  refine key _ fun w hw => ?_
  obtain ⟨i, hi, e⟩ := mem_getD.1 hw
  have h1 := row_nonneg q4 hi
  have h2 := (q4 i hi).2
  exact h w.toNat (by omega)
theorem cnt_congr {st cs : List Int} {n : Nat} (hm : mayP n n st cs) {S T : List Bool} {v : Nat} (hv : v < n) (h : ∀ u, u < n → (S.getD u false = true ↔ T.getD u false = true)) : cnt st cs S v = cnt st cs T v :=
  Nat.le_antisymm (cnt_mono hm hv fun u hu => (h u hu).1) (cnt_mono hm hv fun u hu => (h u hu).2)
/-- There is always one to take away. -/
theorem pst_best (st cs : List Int) {n k : Nat} (hk : k < n) : ∃ v, Best st cs (pst st cs n k).S n v := by
  obtain ⟨u, hu, hs⟩ := trues_pos (S := (pst st cs n k).S) (by rw [pst_trues st cs n k (by omega)]; omega)
  rw [(pst_len st cs n k).1] at hu
  cases hb : bestB st cs (pst st cs n k).S n with
  | none =>
    have := best_none hb u hu
    rw [hs] at this; cases this
  | some v => exact ⟨v, best_some hb⟩
theorem pst_end (st cs : List Int) (n : Nat) : ∀ u, u < n → (pst st cs n n).S.getD u false = false := fun u hu => by
  have h := pst_trues st cs n n (Nat.le_refl _)
  cases hs : (pst st cs n n).S.getD u false with
  | false => rfl
  | true =>
    have := trues_set hs
    omega
theorem getI_set {C : List Int} {v u : Nat} {z : Int} (hv : v < C.length) : (C.set v z).getD u default = (if u = v then z else C.getD u default) := by
  by_cases e : u = v
  · subst e; rw [if_pos rfl]; simp [List.getD_eq_getElem?_getD, List.getElem?_set_self hv]
  · rw [if_neg e]; exact getD_set_ne (Ne.symm e)
/-- Whoever is in a set in which each has at least q neighbours has a core of at least q. -/
theorem core_ge {st cs : List Int} {n : Nat} (hm : mayP n n st cs) {T : List Bool} {q : Nat} (hT : ∀ u, u < n → T.getD u false = true → q ≤ cnt st cs T u) : ∀ u, u < n → T.getD u false = true → (q : Int) ≤ (coresOf st cs n).getD u default := by
  have key : ∀ k, k ≤ n → ((∀ u, u < n → T.getD u false = true → (pst st cs n k).S.getD u false = true) ∨ q ≤ (pst st cs n k).c) ∧ ∀ u, u < n → T.getD u false = true → (pst st cs n k).S.getD u false = false → (q : Int) ≤ (pst st cs n k).C.getD u default := by
    intro k
    induction k with
    | zero =>
      intro _
      refine ⟨.inl fun u hu _ => ?_, fun u hu _ h => ?_⟩
      · simp [pst, List.getD_eq_getElem?_getD, List.getElem?_replicate, hu]
      · simp [pst, List.getD_eq_getElem?_getD, List.getElem?_replicate, hu] at h
    | succ k ih =>
      intro hk
      obtain ⟨ih1, ih2⟩ := ih (by omega)
      obtain ⟨v, hb⟩ := pst_best st cs (show k < n by omega)
      have hl := pst_len st cs n k
      have hge : T.getD v false = true → q ≤ max (pst st cs n k).c (cnt st cs (pst st cs n k).S v) := fun hv => by
        rcases ih1 with h1 | h1
        · have h2 := hT v hb.1 hv
          have h3 := cnt_mono hm hb.1 h1
          omega
        · omega
      rw [pst_step hb]
      refine ⟨?_, fun u hu ht hs => ?_⟩
      · by_cases hv : T.getD v false = true
        · exact .inr (hge hv)
        · rcases ih1 with h1 | h1
          · refine .inl fun u hu ht => ?_
            simp only
            rw [getB_set (by rw [hl.1]; exact hb.1), if_neg (show ¬ u = v from fun e => hv (by rw [← e]; exact ht))]
            exact h1 u hu ht
          · right
            simp only
            omega
      · simp only at hs ⊢
        rw [getB_set (by rw [hl.1]; exact hb.1)] at hs
        rw [getI_set (by rw [hl.2.2]; exact hb.1)]
        by_cases e : u = v
        · subst e
          rw [if_pos rfl]
          have := hge ht
          omega
        · rw [if_neg e] at hs ⊢
          exact ih2 u hu ht hs
  intro u hu ht
  exact (key n (Nat.le_refl _)).2 u hu ht (pst_end st cs n u hu)
/-- Those with a core of at least q have each at least q neighbours among them. -/
theorem core_le {st cs : List Int} {n : Nat} (hm : mayP n n st cs) {H : List Bool} {q : Nat} (hH : ∀ u, u < n → (H.getD u false = true ↔ (q : Int) ≤ (coresOf st cs n).getD u default)) : ∀ u, u < n → H.getD u false = true → q ≤ cnt st cs H u := by
  have key : ∀ k, k ≤ n → ((pst st cs n k).c < q ∧ ∀ u, u < n → (pst st cs n k).S.getD u false = false → (pst st cs n k).C.getD u default < q) ∨ (∃ T : List Bool, q ≤ (pst st cs n k).c ∧ (∀ u, u < n → T.getD u false = true → q ≤ cnt st cs T u) ∧ (∀ u, u < n → (pst st cs n k).S.getD u false = true → T.getD u false = true) ∧ ∀ u, u < n → (pst st cs n k).S.getD u false = false → (T.getD u false = true ↔ (q : Int) ≤ (pst st cs n k).C.getD u default)) := by
    intro k
    induction k with
    | zero =>
      intro _
      rcases Nat.eq_zero_or_pos q with h0 | h0
      · subst h0
        refine .inr ⟨List.replicate n true, Nat.zero_le _, fun u _ _ => Nat.zero_le _, fun u hu h => h, fun u hu h => ?_⟩
        simp [pst, List.getD_eq_getElem?_getD, List.getElem?_replicate, hu] at h
      · refine .inl ⟨h0, fun u hu h => ?_⟩
        simp [pst, List.getD_eq_getElem?_getD, List.getElem?_replicate, hu] at h
    | succ k ih =>
      intro hk
      obtain ⟨v, hb⟩ := pst_best st cs (show k < n by omega)
      have hl := pst_len st cs n k
      rw [pst_step hb]
      simp only
      rcases ih (by omega) with ⟨h1, h2⟩ | ⟨T, h1, h2, h3, h4⟩
      · rcases Nat.lt_or_ge (cnt st cs (pst st cs n k).S v) q with h5 | h5
        · refine .inl ⟨by omega, fun u hu hs => ?_⟩
          rw [getB_set (by rw [hl.1]; exact hb.1)] at hs
          rw [getI_set (by rw [hl.2.2]; exact hb.1)]
          by_cases e : u = v
          · rw [if_pos e]; omega
          · rw [if_neg e] at hs ⊢; exact h2 u hu hs
        · refine .inr ⟨(pst st cs n k).S, by omega, fun u hu hs => ?_, fun u hu hs => ?_, fun u hu hs => ?_⟩
          · have := (hb.2.2 u hu hs).1
            omega
          · rw [getB_set (by rw [hl.1]; exact hb.1)] at hs
            by_cases e : u = v
            · rw [if_pos e] at hs; cases hs
            · rw [if_neg e] at hs; exact hs
          · rw [getB_set (by rw [hl.1]; exact hb.1)] at hs
            rw [getI_set (by rw [hl.2.2]; exact hb.1)]
            by_cases e : u = v
            · subst e
              rw [if_pos rfl]
              exact ⟨fun _ => by omega, fun _ => hb.2.1⟩
            · rw [if_neg e] at hs ⊢
              rw [hs]
              have := h2 u hu hs
              exact ⟨fun h => (by cases h), fun h => (by omega)⟩
      · refine .inr ⟨T, by omega, h2, fun u hu hs => ?_, fun u hu hs => ?_⟩
        · rw [getB_set (by rw [hl.1]; exact hb.1)] at hs
          by_cases e : u = v
          · rw [if_pos e] at hs; cases hs
          · rw [if_neg e] at hs; exact h3 u hu hs
        · rw [getB_set (by rw [hl.1]; exact hb.1)] at hs
          rw [getI_set (by rw [hl.2.2]; exact hb.1)]
          by_cases e : u = v
          · subst e
            rw [if_pos rfl]
            exact ⟨fun _ => by omega, fun _ => h3 u hu hb.2.1⟩
          · rw [if_neg e] at hs ⊢; exact h4 u hu hs
  intro u hu hh
  rcases key n (Nat.le_refl _) with ⟨h1, h2⟩ | ⟨T, h1, h2, h3, h4⟩
  · have h5 := h2 u hu (pst_end st cs n u hu)
    have h6 := (hH u hu).1 hh
    unfold coresOf at h6
    omega
  · have hTH : ∀ w, w < n → (T.getD w false = true ↔ H.getD w false = true) := fun w hw => by
      rw [h4 w hw (pst_end st cs n w hw), hH w hw]
      rfl
    rw [← cnt_congr hm hu hTH]
    exact h2 u hu ((hTH u hu).2 hh)
end Go.Proofs.YtgdlkhgfehclpaaGreat
end

section
/- Cores, the document's. No condition. -/
namespace Go.Proofs.YtgdlkhgfehclpaaGreat
open Go Go.AL
set_option linter.unusedVariables false
set_option linter.unusedSimpArgs false
theorem boolL_ext {xs ys : List Bool} (hl : xs.length = ys.length) (h : ∀ j, j < xs.length → xs.getD j false = ys.getD j false) : xs = ys := by
  apply List.ext_getElem hl
  intro i h1 h2
  have := h i h1
  simpa [List.getD_eq_getElem?_getD, List.getElem?_eq_getElem h1, List.getElem?_eq_getElem h2] using this
theorem getB_setT {S : List Bool} {v u : Nat} (hv : v < S.length) : (S.set v true).getD u false = (if u = v then true else S.getD u false) := by
  by_cases e : u = v
  · subst e; rw [if_pos rfl]; simp [List.getD_eq_getElem?_getD, List.getElem?_set_self hv]
  · rw [if_neg e]; simp only [List.getD_eq_getElem?_getD, List.getElem?_set_ne (Ne.symm e)]
theorem ofz_bools {h : Heap} {id len cap : Nat} {ex ex' : Bool} {l : List Bool} (hid : h[id]? = some (.arr 1 (List.map boolE l) ex')) (hl : len = l.length) : OFz h (.osl id 1 0 len cap ex) (bools l) := by
  have := OFz.osl (h := h) id 1 0 len cap ex ex' (List.map boolE l) hid (by simp; omega) (fun e he => by
    obtain ⟨x, _, rfl⟩ := List.mem_map.1 he; rfl)
  rw [List.drop_zero, List.take_of_length_le (by simp; omega)] at this
  exact this
set_option maxRecDepth 100000 in
theorem full_c (n : Nat) (hn : n ≤ 128) : ACalls Tryz.prog 102 [.int .i64 n] [] fun v h => v = .osl 0 1 0 n n true ∧ h = [Ob.arr 1 (List.map boolE (List.replicate n true)) true] := by
  refine (wp102 rfl rfl ?_)
  simp (maxSteps := 4000000) +contextual only [↓packA, ↓reduceIte, packB, pureOp, quietOp, loadOp, quietB, fr0, cellsK, implies_true, ite_true, ite_false, eq_self, ne_eq, reduceCtorEq, Nat.reduceLT, Nat.reduceLeDiff, Nat.reduceAdd, Nat.reduceMul, Nat.reduceBEq, Nat.reduceEqDiff, Int.reduceToNat, Int.reduceLT, Int.reduceLE, Nat.reduceSub, pl102, ft3, ft4, ft96]
  refine ⟨by omega, ?_⟩
  refine LoopK.intro (fun m a h => ∃ (k : Nat) (S : List Bool), m = n - k ∧ k ≤ n ∧ S.length = n ∧ (∀ u, u < k → S.getD u false = true) ∧ a 0 = .int .i64 n ∧ a 3 = .osl 0 1 0 n n true ∧ a 4 = .int .i64 k ∧ h = [Ob.arr 1 (List.map boolE S) true]) n ⟨0, List.replicate n false, rfl, Nat.zero_le _, by simp, fun u hu => by omega, ?_⟩ ?_
  · simp (maxSteps := 4000000) only [↓packA, ↓reduceIte, packB, pureOp, quietOp, loadOp, quietB, fr0, cellsK, implies_true, ite_true, ite_false, eq_self, ne_eq, reduceCtorEq, Nat.reduceLT, Nat.reduceLeDiff, Nat.reduceAdd, Nat.reduceMul, Nat.reduceBEq, Nat.reduceEqDiff, Int.reduceToNat, Int.reduceLT, Int.reduceLE, Nat.reduceSub, pl102, ft3, ft4, ft96, Int.natCast_zero]
  rintro m a h ⟨k, S, rfl, hk, hS, hlo, a0, a3, a4, rfl⟩
  simp (maxSteps := 4000000) +contextual only [↓packA, ↓reduceIte, packB, pureOp, quietOp, loadOp, quietB, fr0, cellsK, implies_true, ite_true, ite_false, eq_self, ne_eq, reduceCtorEq, Nat.reduceLT, Nat.reduceLeDiff, Nat.reduceAdd, Nat.reduceMul, Nat.reduceBEq, Nat.reduceEqDiff, Int.reduceToNat, Int.reduceLT, Int.reduceLE, Nat.reduceSub, pl102, ft3, ft4, ft96, a0, a3, a4]
  refine ⟨fun h2 => ⟨by omega, by omega, by omega, .inl ⟨n - (k + 1), by omega, k + 1, S.set k true, rfl, by omega, by simp [hS], fun u hu => ?_, by omega, rfl⟩⟩, fun h2 => ?_⟩
  · rw [getB_setT (by omega)]
    split
    · rfl
    · exact hlo u (by omega)
  · obtain rfl : k = n := by omega
    rw [show S = List.replicate k true from boolL_ext (by simp [hS]) fun j hj => by rw [hlo j (by omega)]; simp [List.getD_eq_getElem?_getD, List.getElem?_replicate, show j < k by omega]]
def coreH (st cs : List Int) (n q : Nat) : List Bool := (List.range n).map fun u => decide ((q : Int) ≤ (coresOf st cs n).getD u default)
theorem coreH_len {st cs : List Int} {n q : Nat} : (coreH st cs n q).length = n := by simp [coreH]
theorem coreH_get {st cs : List Int} {n q u : Nat} (h : u < n) : ((coreH st cs n q).getD u false = true ↔ (q : Int) ≤ (coresOf st cs n).getD u default) := by
  simp [coreH, List.getD_eq_getElem?_getD, List.getElem?_map, List.getElem?_range h]
set_option maxHeartbeats 4000000 in
set_option maxRecDepth 100000 in
theorem rcore_c (n : Nat) (st cs : List Int) (q : Nat) (hb : st.length < 1000000000) (hb2 : cs.length < 1000000000) (hm : mayP n n st cs) (hn : n ≤ 128) : ACalls Tryz.prog 96 [pat n n st cs, .int .i64 q] [] fun v h => OFz h v (bools (coreH st cs n q)) := by
  refine (wp96 rfl rfl ?_)
  simp (maxSteps := 4000000) +contextual only [↓packA, ↓reduceIte, packB, pureOp, quietOp, loadOp, quietB, fr0, cellsK, implies_true, ite_true, ite_false, eq_self, ne_eq, reduceCtorEq, Nat.reduceLT, Nat.reduceLeDiff, Nat.reduceAdd, Nat.reduceMul, Nat.reduceBEq, Nat.reduceEqDiff, Int.reduceToNat, Int.reduceLT, Int.reduceLE, Nat.reduceSub, pl96, ft3, ft4, ft22, ft24, ft96, ints]
  refine acalls_shift (full_c n hn) rfl ?_
  rintro u h0 ⟨rfl, rfl⟩
  simp (maxSteps := 4000000) +contextual only [↓packA, ↓reduceIte, packB, pureOp, quietOp, loadOp, quietB, fr0, cellsK, implies_true, ite_true, ite_false, eq_self, ne_eq, reduceCtorEq, Nat.reduceLT, Nat.reduceLeDiff, Nat.reduceAdd, Nat.reduceMul, Nat.reduceBEq, Nat.reduceEqDiff, Int.reduceToNat, Int.reduceLT, Int.reduceLE, Nat.reduceSub, pl96, ft3, ft4, ft22, ft24, ft96, ints]
  refine LoopK.intro (fun m a h => ∃ (S : List Bool) (b : Bool), m = 2 * trues S + (if b = true then 1 else 0) ∧ S.length = n ∧ (∀ u, u < n → (coreH st cs n q).getD u false = true → S.getD u false = true) ∧ (b = false → ∀ u, u < n → S.getD u false = true → q ≤ cnt st cs S u) ∧ a 1 = .int .i64 q ∧ a 2 = .op 0 4 0 0 ∧ a 5 = .osl 1 1 0 n n true ∧ a 6 = .bool b ∧ h = [patO n n st cs, Ob.arr 1 (List.map boolE S) true]) (2 * trues (List.replicate n true) + 1) ⟨List.replicate n true, true, rfl, by simp, fun u hu _ => by simp [List.getD_eq_getElem?_getD, List.getElem?_replicate, hu], fun h => (by cases h), ?_⟩ ?_
  · simp (maxSteps := 4000000) only [↓packA, ↓reduceIte, packB, pureOp, quietOp, loadOp, quietB, fr0, cellsK, implies_true, ite_true, ite_false, eq_self, ne_eq, reduceCtorEq, Nat.reduceLT, Nat.reduceLeDiff, Nat.reduceAdd, Nat.reduceMul, Nat.reduceBEq, Nat.reduceEqDiff, Int.reduceToNat, Int.reduceLT, Int.reduceLE, Nat.reduceSub, pl96, ft3, ft4, ft22, ft24, ft96, ints, patO]
  rintro m a h ⟨S, b, rfl, hS, hH, hcl, a1, a2, a5, a6, rfl⟩
  cases b with
  | false =>
    simp (maxSteps := 4000000) +contextual only [↓packA, ↓reduceIte, packB, pureOp, quietOp, loadOp, quietB, fr0, cellsK, implies_true, ite_true, ite_false, eq_self, ne_eq, reduceCtorEq, Nat.reduceLT, Nat.reduceLeDiff, Nat.reduceAdd, Nat.reduceMul, Nat.reduceBEq, Nat.reduceEqDiff, Int.reduceToNat, Int.reduceLT, Int.reduceLE, Nat.reduceSub, pl96, ft3, ft4, ft22, ft24, ft96, ints, patO, a1, a2, a5, a6]
    have hSe : S = coreH st cs n q := boolL_ext (by rw [hS, coreH_len]) fun j hj => by
      have h1 := hH j (by omega)
      have h2 := core_ge hm (hcl rfl) j (by omega)
      rw [← coreH_get (by omega)] at h2
      cases hs : S.getD j false <;> cases hc : (coreH st cs n q).getD j false
      · rfl
      · rw [h1 hc] at hs; cases hs
      · rw [h2 hs] at hc; cases hc
      · rfl
    rw [← hSe]
    exact ofz_bools rfl hS.symm
  | true =>
    simp (maxSteps := 4000000) +contextual only [↓packA, ↓reduceIte, packB, pureOp, quietOp, loadOp, quietB, fr0, cellsK, implies_true, ite_true, ite_false, eq_self, ne_eq, reduceCtorEq, Nat.reduceLT, Nat.reduceLeDiff, Nat.reduceAdd, Nat.reduceMul, Nat.reduceBEq, Nat.reduceEqDiff, Int.reduceToNat, Int.reduceLT, Int.reduceLE, Nat.reduceSub, pl96, ft3, ft4, ft22, ft24, ft96, ints, patO, a1, a2, a5, a6]
    refine LoopK.intro (fun m a h => ∃ (v : Nat) (S1 : List Bool) (b : Bool), m = n - v ∧ v ≤ n ∧ S1.length = n ∧ (∀ u, u < n → (coreH st cs n q).getD u false = true → S1.getD u false = true) ∧ trues S1 + (if b = true then 1 else 0) ≤ trues S ∧ (b = false → ∀ u, u < v → S1.getD u false = true → q ≤ cnt st cs S1 u) ∧ a 1 = .int .i64 q ∧ a 2 = .op 0 4 0 0 ∧ a 5 = .osl 1 1 0 n n true ∧ a 6 = .bool b ∧ a 7 = .int .i64 v ∧ h = [patO n n st cs, Ob.arr 1 (List.map boolE S1) true]) n ⟨0, S, false, rfl, Nat.zero_le _, hS, hH, by simp, fun _ u hu => by omega, ?_⟩ ?_
    · simp (maxSteps := 4000000) only [↓packA, ↓reduceIte, packB, pureOp, quietOp, loadOp, quietB, fr0, cellsK, implies_true, ite_true, ite_false, eq_self, ne_eq, reduceCtorEq, Nat.reduceLT, Nat.reduceLeDiff, Nat.reduceAdd, Nat.reduceMul, Nat.reduceBEq, Nat.reduceEqDiff, Int.reduceToNat, Int.reduceLT, Int.reduceLE, Nat.reduceSub, pl96, ft3, ft4, ft22, ft24, ft96, ints, patO, a1, a2, a5, a6, Int.natCast_zero]
    clear a1 a2 a5 a6
    rintro m a h ⟨v, S1, b, rfl, hv, hS1, hH1, htr, hcl1, a1, a2, a5, a6, a7, rfl⟩
    simp (maxSteps := 4000000) +contextual only [↓packA, ↓reduceIte, packB, pureOp, quietOp, loadOp, quietB, fr0, cellsK, implies_true, ite_true, ite_false, eq_self, ne_eq, reduceCtorEq, Nat.reduceLT, Nat.reduceLeDiff, Nat.reduceAdd, Nat.reduceMul, Nat.reduceBEq, Nat.reduceEqDiff, Int.reduceToNat, Int.reduceLT, Int.reduceLE, Nat.reduceSub, pl96, ft3, ft4, ft22, ft24, ft96, ints, patO, a1, a2, a5, a6, a7]
    refine ⟨fun h2 => ⟨by omega, by omega, fun hs => acalls_lend (among_c n st cs S1 hb hb2 hm hn v (by omega) hS1) ?_ rfl ?_, fun hs => ?_⟩, fun h2 => ?_⟩
    · exact .cons (.pure _ rfl) (.cons (.pure _ rfl) (.cons (frz_bools (l := S1) rfl hS1) .nil))
    · have hs' : S1.getD v false = true := hs
      have htd := trues_set hs'
      simp (maxSteps := 4000000) +contextual only [↓packA, ↓reduceIte, packB, pureOp, quietOp, loadOp, quietB, fr0, cellsK, implies_true, ite_true, ite_false, eq_self, ne_eq, reduceCtorEq, Nat.reduceLT, Nat.reduceLeDiff, Nat.reduceAdd, Nat.reduceMul, Nat.reduceBEq, Nat.reduceEqDiff, Int.reduceToNat, Int.reduceLT, Int.reduceLE, Nat.reduceSub, pl96, ft3, ft4, ft22, ft24, ft96, ints, patO, a1, a2, a5, a6, a7, hs]
      refine ⟨fun h3 => ?_, fun h3 => ?_⟩
      · refine ⟨by omega, by omega, by omega, .inl ⟨n - (v + 1), by omega, v + 1, S1.set v false, true, rfl, by omega, by simp [hS1], fun u hu hc => ?_, ?_, fun h => (by cases h), rfl, by omega, rfl⟩⟩
        · rw [getB_set (by omega)]
          split
          · rename_i e
            subst e
            have h4 := core_le hm (H := coreH st cs n q) (fun w hw => coreH_get hw) u hu hc
            have h5 := cnt_mono hm hu hH1
            omega
          · exact hH1 u hu hc
        · cases b <;> simp at htr ⊢ <;> omega
      · refine ⟨by omega, .inl ⟨n - (v + 1), by omega, v + 1, S1, b, rfl, by omega, hS1, hH1, htr, fun hbf u hu hc => ?_, rfl, by omega, rfl⟩⟩
        rcases Nat.lt_or_ge u v with h4 | h4
        · exact hcl1 hbf u h4 hc
        · rw [show u = v by omega]; omega
    · have hs' : S1.getD v false = false := by
        cases hq : S1.getD v false with
        | false => rfl
        | true => exact absurd hq (by simpa using hs)
      refine ⟨by omega, .inl ⟨n - (v + 1), by omega, v + 1, S1, b, rfl, by omega, hS1, hH1, htr, fun hbf u hu hc => ?_, rfl, by omega, rfl⟩⟩
      rcases Nat.lt_or_ge u v with h4 | h4
      · exact hcl1 hbf u h4 hc
      · rw [show u = v by omega, hs'] at hc; cases hc
    · refine .inl ⟨2 * trues S1 + (if b = true then 1 else 0), ?_, S1, b, rfl, hS1, hH1, fun hbf u hu hc => hcl1 hbf u (by omega) hc, ?_⟩
      · cases b <;> simp at htr ⊢ <;> omega
      · exact ⟨rfl, rfl⟩
end Go.Proofs.YtgdlkhgfehclpaaGreat
end

section
/- Degeneracy, the document's. No condition. -/
namespace Go.Proofs.YtgdlkhgfehclpaaGreat
open Go Go.AL
set_option linter.unusedVariables false
set_option linter.unusedSimpArgs false
theorem row_len1 {n : Nat} {st cs : List Int} (hg : graphP n n st cs) {v : Nat} (hv : v < n) : (rowOf st cs v).length + 1 ≤ n := by
  obtain ⟨h1, h2, h3, h4, h5, h6, h7⟩ := may_row hg.1.1 (show v < (n : Int).toNat by omega)
  have := pigeon n (v :: (rowOf st cs v).map Int.toNat) (by
    refine List.nodup_cons.2 ⟨fun hc => ?_, ?_⟩
    · obtain ⟨w, hw, e⟩ := List.mem_map.1 hc
      obtain ⟨i, hi, e1⟩ := mem_getD.1 hw
      have := row_nonneg h4 hi
      exact hg.2 v (by omega) (by rw [show ((v : Nat) : Int) = w by omega]; exact hw)
    · refine List.pairwise_map.2 ?_
      refine List.Pairwise.imp_of_mem ?_ (nodup_row h4)
      intro a b ha hb hab
      obtain ⟨i, hi, e1⟩ := mem_getD.1 ha
      obtain ⟨j, hj, e2⟩ := mem_getD.1 hb
      have := row_nonneg h4 hi
      have := row_nonneg h4 hj
      omega) (fun x hx => by
    rcases List.mem_cons.1 hx with e | hx
    · omega
    · obtain ⟨y, hy, e⟩ := List.mem_map.1 hx
      obtain ⟨i, hi, e1⟩ := mem_getD.1 hy
      have := row_nonneg h4 hi
      have := (h4 i hi).2
      omega)
  simpa using this
theorem core_bounds {n : Nat} {st cs : List Int} (hg : graphP n n st cs) : ∀ k, k ≤ n → ((pst st cs n k).c + 1 ≤ n ∨ n = 0) ∧ ∀ u, u < n → 0 ≤ (pst st cs n k).C.getD u default ∧ (pst st cs n k).C.getD u default + 1 ≤ n
  | 0, _ => by
    refine ⟨by simp only [pst]; omega, fun u hu => ?_⟩
    simp [pst, List.getD_eq_getElem?_getD, List.getElem?_replicate, hu]
    omega
  | k + 1, hk => by
    obtain ⟨h1, h2⟩ := core_bounds hg k (by omega)
    obtain ⟨v, hb⟩ := pst_best st cs (show k < n by omega)
    have hl := pst_len st cs n k
    have h3 : cnt st cs (pst st cs n k).S v + 1 ≤ n := Nat.le_trans (Nat.succ_le_succ cnt_le) (row_len1 hg hb.1)
    rw [pst_step hb]
    refine ⟨by simp only; omega, fun u hu => ?_⟩
    simp only
    rw [getI_set (by rw [hl.2.2]; exact hb.1)]
    split
    · omega
    · exact h2 u hu
set_option maxHeartbeats 4000000 in
set_option maxRecDepth 100000 in
theorem rdegen_c (rows width : Int) (st cs : List Int) (hb : st.length < 1000000000) (hb2 : cs.length < 1000000000) : ACalls Tryz.prog 74 [pat rows width st cs] [] fun v h =>
    (graphP rows width st cs → OFz h v (.tup [.int .i64 (mxK (coresOf st cs rows.toNat) rows.toNat), ints (coresOf st cs rows.toNat), .int .i64 0])) ∧ (¬ graphP rows width st cs → OFz h v (.tup [.int .i64 0, ints [], .int .i64 220])) := by
  refine (wp74 rfl rfl ?_)
  simp (maxSteps := 4000000) +contextual only [↓packA, ↓reduceIte, packB, pureOp, quietOp, loadOp, quietB, fr0, cellsK, implies_true, ite_true, ite_false, eq_self, ne_eq, reduceCtorEq, Nat.reduceLT, Nat.reduceLeDiff, Nat.reduceAdd, Nat.reduceMul, Nat.reduceBEq, Nat.reduceEqDiff, Int.reduceToNat, Int.reduceLT, Int.reduceLE, Nat.reduceSub, pl74, ft3, ft4, ft22, ft24, ft96, ints]
  refine acalls_pure (rgraph_c rows width st cs hb hb2) rfl ?_
  simp (maxSteps := 4000000) +contextual only [↓packA, ↓reduceIte, packB, pureOp, quietOp, loadOp, quietB, fr0, cellsK, implies_true, ite_true, ite_false, eq_self, ne_eq, reduceCtorEq, Nat.reduceLT, Nat.reduceLeDiff, Nat.reduceAdd, Nat.reduceMul, Nat.reduceBEq, Nat.reduceEqDiff, Int.reduceToNat, Int.reduceLT, Int.reduceLE, Nat.reduceSub, pl74, ft3, ft4, ft22, ft24, ft96, ints]
  refine ⟨fun hg => ?_, fun hg => .three (.flat _ rfl) (.nils 1) (.flat _ rfl)⟩
  obtain ⟨n, rfl, rfl, hn⟩ := graph_sides hg
  have hCl := (pst_len st cs n n).2.2
  have hCb := (core_bounds hg n (Nat.le_refl _)).2
  refine ⟨by omega, ?_⟩
  refine LoopK.intro (fun m a h => ∃ (k : Nat) (L : List Int) (M : Int), m = n + 1 - k ∧ 1 ≤ k ∧ (k ≤ n ∨ k = 1) ∧ L.length = n ∧ (∀ u, u < n → L.getD u default = min ((coresOf st cs n).getD u default) ((k : Int) - 1)) ∧ M = min (mxK (coresOf st cs n) n) ((k : Int) - 1) ∧ a 1 = .op 0 4 0 0 ∧ a 5 = .osl 1 1 0 n n true ∧ a 6 = .int .i64 M ∧ a 7 = .int .i64 k ∧ h = [patO n n st cs, Ob.arr 1 (List.map intE L) true]) n ⟨1, List.replicate n 0, 0, by omega, by omega, by omega, by simp, fun u hu => ?_, ?_, ?_⟩ ?_
  · have := hCb u hu
    have e : (List.replicate n (0 : Int)).getD u default = 0 := by simp [List.getD_eq_getElem?_getD, List.getElem?_replicate, hu]
    rw [e]
    unfold coresOf
    omega
  · have := (mxK_ge (C := coresOf st cs n) n).1
    omega
  · simp (maxSteps := 4000000) only [↓packA, ↓reduceIte, packB, pureOp, quietOp, loadOp, quietB, fr0, cellsK, implies_true, ite_true, ite_false, eq_self, ne_eq, reduceCtorEq, Nat.reduceLT, Nat.reduceLeDiff, Nat.reduceAdd, Nat.reduceMul, Nat.reduceBEq, Nat.reduceEqDiff, Int.reduceToNat, Int.reduceLT, Int.reduceLE, Nat.reduceSub, pl74, ft3, ft4, ft22, ft24, ft96, ints, patO]
    rfl
  rintro m a h ⟨k, L, M, rfl, hk1, hk2, hL, hLc, hM, a1, a5, a6, a7, rfl⟩
  simp (maxSteps := 4000000) +contextual only [↓packA, ↓reduceIte, packB, pureOp, quietOp, loadOp, quietB, fr0, cellsK, implies_true, ite_true, ite_false, eq_self, ne_eq, reduceCtorEq, Nat.reduceLT, Nat.reduceLeDiff, Nat.reduceAdd, Nat.reduceMul, Nat.reduceBEq, Nat.reduceEqDiff, Int.reduceToNat, Int.reduceLT, Int.reduceLE, Nat.reduceSub, pl74, ft3, ft4, ft22, ft24, ft96, ints, patO, a1, a5, a6, a7]
  refine ⟨fun h2 => ?_, fun h2 => ?_⟩
  · refine acalls_fresh (rcore_c n st cs k hb hb2 hg.1.1 hn) ?_ (fun u h0 hz => ⟨_, hz, ?_⟩)
    · exact .cons (.pure _ rfl) (.cons (.pure _ rfl) .nil)
    simp (maxSteps := 4000000) +contextual only [↓packA, ↓reduceIte, packB, pureOp, quietOp, loadOp, quietB, fr0, cellsK, implies_true, ite_true, ite_false, eq_self, ne_eq, reduceCtorEq, Nat.reduceLT, Nat.reduceLeDiff, Nat.reduceAdd, Nat.reduceMul, Nat.reduceBEq, Nat.reduceEqDiff, Int.reduceToNat, Int.reduceLT, Int.reduceLE, Nat.reduceSub, pl74, ft3, ft4, ft22, ft24, ft96, ints, bools, patO, a1, a5, a6, a7]
    refine LoopK.intro (fun m a h => ∃ (v : Nat) (L2 : List Int) (M2 : Int), m = n - v ∧ v ≤ n ∧ L2.length = n ∧ (∀ u, u < v → L2.getD u default = min ((coresOf st cs n).getD u default) k) ∧ (∀ u, v ≤ u → u < n → L2.getD u default = min ((coresOf st cs n).getD u default) ((k : Int) - 1)) ∧ ((M2 = k ∧ ∃ u, u < v ∧ (k : Int) ≤ (coresOf st cs n).getD u default) ∨ (M2 = min (mxK (coresOf st cs n) n) ((k : Int) - 1) ∧ ∀ u, u < v → (coresOf st cs n).getD u default < k)) ∧ a 1 = .op 0 4 0 0 ∧ a 5 = .osl 1 1 0 n n true ∧ a 6 = .int .i64 M2 ∧ a 7 = .int .i64 k ∧ a 8 = bools (coreH st cs n k) ∧ a 9 = .int .i64 v ∧ h = [patO n n st cs, Ob.arr 1 (List.map intE L2) true]) n ⟨0, L, M, rfl, Nat.zero_le _, hL, fun u hu => by omega, fun u _ hu => hLc u hu, .inr ⟨hM, fun u hu => by omega⟩, ?_⟩ ?_
    · simp (maxSteps := 4000000) only [↓packA, ↓reduceIte, packB, pureOp, quietOp, loadOp, quietB, fr0, cellsK, implies_true, ite_true, ite_false, eq_self, ne_eq, reduceCtorEq, Nat.reduceLT, Nat.reduceLeDiff, Nat.reduceAdd, Nat.reduceMul, Nat.reduceBEq, Nat.reduceEqDiff, Int.reduceToNat, Int.reduceLT, Int.reduceLE, Nat.reduceSub, pl74, ft3, ft4, ft22, ft24, ft96, ints, bools, patO, a1, a5, a6, a7, Int.natCast_zero]
    clear a1 a5 a6 a7
    rintro m a h ⟨v, L2, M2, rfl, hv, hL2, hlo, hhi, hM2, a1, a5, a6, a7, a8, a9, rfl⟩
    have hHl := coreH_len (st := st) (cs := cs) (n := n) (q := k)
    have hHg : v < n → ((coreH st cs n k).getD v default = true ↔ (k : Int) ≤ (coresOf st cs n).getD v default) := fun h => coreH_get h
    generalize coreH st cs n k = Hk at *
    simp (maxSteps := 4000000) +contextual only [↓packA, ↓reduceIte, packB, pureOp, quietOp, loadOp, quietB, fr0, cellsK, implies_true, ite_true, ite_false, eq_self, ne_eq, reduceCtorEq, Nat.reduceLT, Nat.reduceLeDiff, Nat.reduceAdd, Nat.reduceMul, Nat.reduceBEq, Nat.reduceEqDiff, Int.reduceToNat, Int.reduceLT, Int.reduceLE, Nat.reduceSub, pl74, ft3, ft4, ft22, ft24, ft96, ints, bools, patO, a1, a5, a6, a7, a8, a9]
    refine ⟨fun h3 => ⟨by omega, by omega, fun h4 => ?_, fun h4 => ?_⟩, fun h3 => ?_⟩
    · have h5 := (hHg (by omega)).1 h4
      refine ⟨by omega, by omega, by omega, .inl ⟨n - (v + 1), by omega, v + 1, L2.set v k, k, rfl, by omega, by simp [hL2], fun u hu => ?_, fun u hu1 hu2 => ?_, .inl ⟨rfl, v, by omega, h5⟩, rfl, by omega, rfl⟩⟩
      · rw [getI_set (by omega)]
        split
        · rename_i e; subst e; omega
        · exact hlo u (by omega)
      · rw [getI_set (by omega), if_neg (by omega)]
        exact hhi u (by omega) hu2
    · have h5 : ¬ (k : Int) ≤ (coresOf st cs n).getD v default := fun hc => by
        have h6 := (hHg (by omega)).2 hc
        rw [h6] at h4
        first | exact h4 rfl | cases h4
      refine ⟨by omega, .inl ⟨n - (v + 1), by omega, v + 1, L2, M2, rfl, by omega, hL2, fun u hu => ?_, fun u hu1 hu2 => hhi u (by omega) hu2, ?_, rfl, by omega, rfl⟩⟩
      · rcases Nat.lt_or_ge u v with h6 | h6
        · exact hlo u h6
        · obtain rfl : u = v := by omega
          have := hhi u (Nat.le_refl _) (by omega)
          omega
      · rcases hM2 with ⟨h6, u, h7, h8⟩ | ⟨h6, h7⟩
        · exact .inl ⟨h6, u, by omega, h8⟩
        · refine .inr ⟨h6, fun u hu => ?_⟩
          rcases Nat.lt_or_ge u v with h8 | h8
          · exact h7 u h8
          · rw [show u = v by omega]; omega
    · obtain rfl : v = n := by omega
      obtain ⟨g0, g1⟩ := mxK_ge (C := coresOf st cs v) v
      refine ⟨by omega, .inl ⟨v + 1 - (k + 1), by omega, k + 1, L2, M2, rfl, by omega, by omega, hL2, fun u hu => by rw [hlo u hu]; omega, ?_, rfl, by omega, rfl⟩⟩
      rcases hM2 with ⟨h6, u, h7, h8⟩ | ⟨h6, h7⟩
      · have := g1 u h7
        omega
      · rcases mxK_at (C := coresOf st cs v) v with h8 | ⟨u, h8, h9⟩
        · omega
        · have := h7 u h8
          omega
  · have hLe : L = coresOf st cs n := list_ext_getD (by rw [hL]; exact hCl.symm) fun u hu => by
      have h3 := hLc u (by omega)
      have h4 := hCb u (by omega)
      unfold coresOf at h3 ⊢
      omega
    have hMe : M = mxK (coresOf st cs n) n := by
      rcases Nat.eq_zero_or_pos n with h3 | h3
      · subst h3
        simp only [mxK] at hM ⊢
        omega
      · obtain ⟨g0, g1⟩ := mxK_ge (C := coresOf st cs n) n
        rcases mxK_at (C := coresOf st cs n) n with h8 | ⟨u, h8, h9⟩
        · omega
        · have h4 := hCb u h8
          unfold coresOf at h9 hM ⊢
          omega
    rw [hMe, hLe]
    exact ⟨fun _ => .three (.flat _ rfl) (ofz_ints (l := coresOf st cs n) rfl hCl.symm) (.flat _ rfl), fun h => absurd hg h⟩
end Go.Proofs.YtgdlkhgfehclpaaGreat
end

section
/- What an order that is made by taking away is worth. No condition. -/
namespace Go.Proofs.YtgdlkhgfehclpaaGreat
open Go Go.AL
set_option linter.unusedVariables false
set_option linter.unusedSimpArgs false
/-- Who is taken away in step i. -/
def bv (st cs : List Int) (n i : Nat) : Nat := (bestB st cs (pst st cs n i).S n).getD 0
theorem bv_best {st cs : List Int} {n i : Nat} (hi : i < n) : Best st cs (pst st cs n i).S n (bv st cs n i) := by
  obtain ⟨v, hb⟩ := pst_best st cs hi
  unfold bv
  rw [best_uniq hb]
  exact hb
theorem pst_next {st cs : List Int} {n i : Nat} (hi : i < n) : pst st cs n (i + 1) = ⟨(pst st cs n i).S.set (bv st cs n i) false, max (pst st cs n i).c (cnt st cs (pst st cs n i).S (bv st cs n i)), (pst st cs n i).O.set (n - 1 - i) (bv st cs n i), (pst st cs n i).C.set (bv st cs n i) (max (pst st cs n i).c (cnt st cs (pst st cs n i).S (bv st cs n i)) : Nat)⟩ := pst_step (bv_best hi)
theorem S_next {st cs : List Int} {n i u : Nat} (hi : i < n) : (pst st cs n (i + 1)).S.getD u false = (if u = bv st cs n i then false else (pst st cs n i).S.getD u false) := by
  rw [pst_next hi]
  exact getB_set (by rw [(pst_len st cs n i).1]; exact (bv_best hi).1)
theorem S_mono {st cs : List Int} {n u : Nat} : ∀ {d i : Nat}, i + d ≤ n → (pst st cs n (i + d)).S.getD u false = true → (pst st cs n i).S.getD u false = true
  | 0, i, _, h => h
  | d + 1, i, hd, h => by
    rw [show i + (d + 1) = (i + d) + 1 by omega, S_next (by omega)] at h
    split at h
    · cases h
    · exact S_mono (by omega) h
theorem S_le {st cs : List Int} {n u i j : Nat} (hij : i ≤ j) (hj : j ≤ n) (h : (pst st cs n j).S.getD u false = true) : (pst st cs n i).S.getD u false = true := by
  have := S_mono (st := st) (cs := cs) (n := n) (u := u) (d := j - i) (i := i) (by omega) (by rw [show i + (j - i) = j by omega]; exact h)
  exact this
theorem bv_gone {st cs : List Int} {n i j : Nat} (hij : i < j) (hj : j ≤ n) : (pst st cs n j).S.getD (bv st cs n i) false = false := by
  cases h : (pst st cs n j).S.getD (bv st cs n i) false with
  | false => rfl
  | true =>
    have h1 := S_le (i := i + 1) (by omega) hj h
    rw [S_next (by omega), if_pos rfl] at h1
    cases h1
theorem bv_ne {st cs : List Int} {n i j : Nat} (hij : i < j) (hj : j < n) : bv st cs n i ≠ bv st cs n j := fun e => by
  have h1 := bv_gone (st := st) (cs := cs) hij (Nat.le_of_lt hj)
  rw [e, (bv_best hj).2.1] at h1
  cases h1
/-- Whoever is left is taken away later. -/
theorem bv_onto {st cs : List Int} {n u : Nat} (hu : u < n) : ∀ {d i : Nat}, i + d = n → (pst st cs n i).S.getD u false = true → ∃ j, i ≤ j ∧ j < n ∧ bv st cs n j = u
  | 0, i, e, h => by
    rw [show i = n by omega, pst_end st cs n u hu] at h
    cases h
  | d + 1, i, e, h => by
    by_cases c : u = bv st cs n i
    · exact ⟨i, Nat.le_refl _, by omega, c.symm⟩
    · obtain ⟨j, h1, h2, h3⟩ := bv_onto hu (d := d) (i := i + 1) (by omega) (by rw [S_next (by omega), if_neg c]; exact h)
      exact ⟨j, by omega, h2, h3⟩
theorem S_iff {st cs : List Int} {n i u : Nat} (hi : i ≤ n) (hu : u < n) : (pst st cs n i).S.getD u false = true ↔ ∃ j, i ≤ j ∧ j < n ∧ bv st cs n j = u := by
  constructor
  · exact bv_onto hu (d := n - i) (by omega)
  · rintro ⟨j, h1, h2, rfl⟩
    exact S_le h1 (by omega) (bv_best h2).2.1
theorem bv_all {st cs : List Int} {n u : Nat} (hu : u < n) : ∃ j, j < n ∧ bv st cs n j = u := by
  obtain ⟨j, _, h2, h3⟩ := (S_iff (st := st) (cs := cs) (Nat.zero_le n) hu).1 (by simp [pst, List.getD_eq_getElem?_getD, List.getElem?_replicate, hu])
  exact ⟨j, h2, h3⟩
theorem O_get {st cs : List Int} {n : Nat} : ∀ {k : Nat}, k ≤ n → ∀ i, i < k → (pst st cs n k).O.getD (n - 1 - i) default = bv st cs n i
  | 0, _, i, h => absurd h (Nat.not_lt_zero _)
  | k + 1, hk, i, h => by
    rw [pst_next (by omega)]
    simp only
    rw [getI_set (by rw [(pst_len st cs n k).2.1]; omega)]
    by_cases e : i = k
    · subst e; rw [if_pos rfl]
    · rw [if_neg (by omega)]; exact O_get (by omega) i (by omega)
theorem C_get {st cs : List Int} {n : Nat} : ∀ {k : Nat}, k ≤ n → ∀ i, i < k → (pst st cs n k).C.getD (bv st cs n i) default = (pst st cs n (i + 1)).c
  | 0, _, i, h => absurd h (Nat.not_lt_zero _)
  | k + 1, hk, i, h => by
    by_cases e : i = k
    · subst e
      rw [pst_next (by omega)]
      simp only
      rw [getI_set (by rw [(pst_len st cs n i).2.2]; exact (bv_best (by omega)).1), if_pos rfl]
    · rw [pst_next (show k < n by omega)]
      simp only
      rw [getI_set (by rw [(pst_len st cs n k).2.2]; exact (bv_best (by omega)).1), if_neg (bv_ne (by omega) (by omega))]
      exact C_get (by omega) i (by omega)
theorem c_at {st cs : List Int} {n : Nat} : ∀ {k : Nat}, k ≤ n → (pst st cs n k).c = 0 ∨ ∃ j, j < k ∧ (pst st cs n k).c = cnt st cs (pst st cs n j).S (bv st cs n j)
  | 0, _ => .inl rfl
  | k + 1, hk => by
    rw [pst_next (by omega)]
    simp only
    rcases Nat.lt_or_ge (pst st cs n k).c (cnt st cs (pst st cs n k).S (bv st cs n k)) with h1 | h1
    · exact .inr ⟨k, by omega, by omega⟩
    · rcases c_at (st := st) (cs := cs) (n := n) (k := k) (by omega) with h2 | ⟨j, h2, h3⟩
      · left; omega
      · exact .inr ⟨j, by omega, by omega⟩
theorem c_ge {st cs : List Int} {n i : Nat} (hi : i < n) : cnt st cs (pst st cs n i).S (bv st cs n i) ≤ (pst st cs n (i + 1)).c := by
  rw [pst_next hi]
  simp only
  omega
/-- The order that taking away gives. -/
def ordOf (st cs : List Int) (n : Nat) : List Int := (pst st cs n n).O
theorem ordOf_len {st cs : List Int} {n : Nat} : (ordOf st cs n).length = n := (pst_len st cs n n).2.1
theorem ordOf_get {st cs : List Int} {n p : Nat} (hp : p < n) : (ordOf st cs n).getD p default = bv st cs n (n - 1 - p) := by
  have := O_get (st := st) (cs := cs) (Nat.le_refl n) (n - 1 - p) (by omega)
  rw [show n - 1 - (n - 1 - p) = p by omega] at this
  exact this
theorem ordOf_ok {st cs : List Int} {n : Nat} : ordOK (ordOf st cs n).length (ordOf st cs n) := fun p hp => by
  rw [ordOf_len] at hp ⊢
  unfold okAt
  rw [ordOf_get hp]
  have h1 := (bv_best (st := st) (cs := cs) (show n - 1 - p < n by omega)).1
  refine ⟨by omega, by omega, fun q hq => ?_⟩
  rw [ordOf_get (by omega)]
  have := bv_ne (st := st) (cs := cs) (n := n) (show n - 1 - p < n - 1 - q by omega) (by omega)
  omega
theorem cnt_self {st cs : List Int} {n : Nat} (hg : graphP n n st cs) {S : List Bool} {v : Nat} (hv : v < n) (hs : S.getD v false = true) (hl : v < S.length) : cnt st cs (S.set v false) v = cnt st cs S v := by
  have := cnt_drop hg hv hv hs hl
  rw [if_neg (hg.2 v (by omega))] at this
  exact this
theorem bk_ord {st cs : List Int} {n i : Nat} (hg : graphP n n st cs) (hi : i < n) : bk st cs (invK (ordOf st cs n) (ordOf st cs n).length) (bv st cs n i) = cnt st cs (pst st cs n i).S (bv st cs n i) := by
  have hb := bv_best (st := st) (cs := cs) hi
  have hS : ∀ u : Nat, u < n → ((pst st cs n (i + 1)).S.getD u false = true ↔ ∃ j, j < n - 1 - i ∧ (ordOf st cs n).getD j default = u) := fun u hu => by
    rw [S_iff (by omega) hu]
    constructor
    · rintro ⟨j, h1, h2, h3⟩
      exact ⟨n - 1 - j, by omega, by rw [ordOf_get (by omega), show n - 1 - (n - 1 - j) = j by omega, h3]⟩
    · rintro ⟨j, h1, h2⟩
      rw [ordOf_get (by omega)] at h2
      exact ⟨n - 1 - j, by omega, by omega, by omega⟩
  have h1 := cnt_bk hg.1.1 ordOf_len ordOf_ok (show n - 1 - i < n by omega) (v := bv st cs n i) (by rw [ordOf_get (by omega), show n - 1 - (n - 1 - i) = i by omega]) hS
  rw [← h1, pst_next hi]
  simp only
  exact cnt_self hg hb.1 hb.2.1 (by rw [(pst_len st cs n i).1]; exact hb.1)
/-- The order that taking away gives is worth the greatest core. -/
theorem worth_eq {st cs : List Int} {n : Nat} (hg : graphP n n st cs) : mxK (bkL st cs (invK (ordOf st cs n) (ordOf st cs n).length) n) n = mxK (coresOf st cs n) n := by
  obtain ⟨g0, g1⟩ := mxK_ge (C := coresOf st cs n) n
  refine mxK_uniq g0 (fun u hu => ?_) ?_
  · obtain ⟨j, h1, h2⟩ := bv_all (st := st) (cs := cs) hu
    subst h2
    rw [bkL_get hu, bk_ord hg h1]
    have h3 := g1 _ hu
    rw [show (coresOf st cs n).getD (bv st cs n j) default = (pst st cs n (j + 1)).c from C_get (Nat.le_refl n) j h1] at h3
    have := c_ge (st := st) (cs := cs) h1
    omega
  · rcases mxK_at (C := coresOf st cs n) n with h1 | ⟨u, h1, h2⟩
    · exact .inl h1
    · obtain ⟨j, h3, h4⟩ := bv_all (st := st) (cs := cs) h1
      subst h4
      rw [show (coresOf st cs n).getD (bv st cs n j) default = (pst st cs n (j + 1)).c from C_get (Nat.le_refl n) j h3] at h2
      rcases c_at (st := st) (cs := cs) (n := n) (k := j + 1) (by omega) with h5 | ⟨i, h5, h6⟩
      · left; omega
      · refine .inr ⟨bv st cs n i, (bv_best (by omega)).1, ?_⟩
        rw [bkL_get (bv_best (by omega)).1, bk_ord hg (by omega)]
        omega
theorem last_of {Q : Nat → Prop} : ∀ n, (∃ i, i < n ∧ Q i) → ∃ p, p < n ∧ Q p ∧ ∀ i, p < i → i < n → ¬ Q i
  | 0, ⟨i, h, _⟩ => absurd h (Nat.not_lt_zero _)
  | n + 1, ⟨i, h, hq⟩ => by
    rcases Classical.em (Q n) with h1 | h1
    · exact ⟨n, by omega, h1, fun j h2 h3 => by omega⟩
    · have hin : i < n := by
        rcases Nat.lt_or_ge i n with h2 | h2
        · exact h2
        · rw [show i = n by omega] at hq; exact absurd hq h1
      obtain ⟨p, h2, h3, h4⟩ := last_of n ⟨i, hin, hq⟩
      refine ⟨p, by omega, h3, fun j h5 h6 => ?_⟩
      rcases Nat.lt_or_ge j n with h7 | h7
      · exact h4 j h5 h7
      · rw [show j = n by omega]; exact h1
/-- No order is worth less. -/
theorem worth_ge {st cs xs : List Int} {n : Nat} (hg : graphP n n st cs) (hxl : xs.length = n) (hord : ordOK xs.length xs) : mxK (coresOf st cs n) n ≤ mxK (bkL st cs (invK xs xs.length) n) n := by
  obtain ⟨b0, b1⟩ := mxK_ge (C := bkL st cs (invK xs xs.length) n) n
  rcases mxK_at (C := coresOf st cs n) n with h1 | ⟨u, h1, h2⟩
  · omega
  have hd0 := (mxK_ge (C := coresOf st cs n) n).1
  obtain ⟨d, hd⟩ := Int.eq_ofNat_of_zero_le hd0
  have hHu : (coreH st cs n d).getD u false = true := (coreH_get h1).2 (by omega)
  obtain ⟨j0, hj0, e0⟩ := ord_onto hord (show u < xs.length by omega)
  obtain ⟨p, hp, hq, hlast⟩ := last_of (Q := fun i => (coreH st cs n d).getD (xs.getD i default).toNat false = true) n ⟨j0, by omega, by rw [e0, Int.toNat_natCast]; exact hHu⟩
  have hx0 := hord p (by omega)
  obtain ⟨v, hv⟩ := Int.eq_ofNat_of_zero_le hx0.1
  have hvn : v < n := by have := hx0.2.1; omega
  rw [hv, Int.toNat_natCast] at hq
  have hPu : ∀ t, t < n → (invK xs xs.length).getD (xs.getD t default).toNat default = t := fun t ht => invK_get hord xs.length (Nat.le_refl _) t (by omega)
  have hS : ∀ w : Nat, w < n → (((List.range n).map fun w => decide ((invK xs xs.length).getD w default < (p : Int))).getD w false = true ↔ ∃ j, j < p ∧ xs.getD j default = w) := fun w hw => by
    simp only [List.getD_eq_getElem?_getD, List.getElem?_map, List.getElem?_range hw, Option.map_some, Option.getD_some, decide_eq_true_iff]
    obtain ⟨t, ht, e⟩ := ord_onto hord (show w < xs.length by omega)
    have h3 := hPu t (by omega)
    rw [e, Int.toNat_natCast, List.getD_eq_getElem?_getD] at h3
    rw [h3]
    constructor
    · intro h4; exact ⟨t, by omega, by rw [← List.getD_eq_getElem?_getD]; exact e⟩
    · rintro ⟨j, h4, h5⟩
      rw [← List.getD_eq_getElem?_getD] at h5
      rcases Nat.lt_trichotomy j t with h6 | h6 | h6
      · have := (hord t ht).2.2 j h6; omega
      · omega
      · have := (hord j (by omega)).2.2 t h6; omega
  have h3 := cnt_bk hg.1.1 hxl hord hp hv hS
  have h4 := core_le hg.1.1 (H := coreH st cs n d) (fun w hw => coreH_get hw) v hvn hq
  have h5 := cnt_self hg hvn hq (by rw [coreH_len]; exact hvn)
  have h6 := cnt_mono hg.1.1 (S := (coreH st cs n d).set v false) (T := (List.range n).map fun w => decide ((invK xs xs.length).getD w default < (p : Int))) hvn (fun w hw hws => by
    rw [getB_set (by rw [coreH_len]; exact hvn)] at hws
    split at hws
    · cases hws
    · rename_i hne
      refine (hS w hw).2 ?_
      obtain ⟨t, ht, e⟩ := ord_onto hord (show w < xs.length by omega)
      refine ⟨t, ?_, e⟩
      rcases Nat.lt_trichotomy t p with h7 | h7 | h7
      · exact h7
      · subst h7; omega
      · exact absurd (by rw [e, Int.toNat_natCast]; exact hws) (hlast t h7 (by omega)))
  have h7 := b1 v hvn
  rw [bkL_get hvn] at h7
  omega
end Go.Proofs.YtgdlkhgfehclpaaGreat
end

section
/- How many edges there can be. No condition. -/
namespace Go.Proofs.YtgdlkhgfehclpaaGreat
open Go Go.AL
set_option linter.unusedVariables false
set_option linter.unusedSimpArgs false
def rsum (f : Nat → Nat) : Nat → Nat
  | 0 => 0
  | n + 1 => rsum f n + f n
theorem rsum_congr {f g : Nat → Nat} : ∀ {n : Nat}, (∀ u, u < n → f u = g u) → rsum f n = rsum g n
  | 0, _ => rfl
  | n + 1, h => by
    simp only [rsum]
    rw [rsum_congr (fun u hu => h u (by omega)), h n (by omega)]
theorem rsum_add {f g : Nat → Nat} : ∀ {n : Nat}, rsum (fun u => f u + g u) n = rsum f n + rsum g n
  | 0 => rfl
  | n + 1 => by
    simp only [rsum]
    rw [rsum_add]
    omega
theorem rsum_zero : ∀ {n : Nat}, rsum (fun _ => 0) n = 0
  | 0 => rfl
  | n + 1 => by simp only [rsum]; rw [rsum_zero]
theorem rsum_one {v c : Nat} : ∀ {n : Nat}, rsum (fun u => if u = v then c else 0) n = if v < n then c else 0
  | 0 => by simp [rsum]
  | n + 1 => by
    simp only [rsum]
    rw [rsum_one]
    by_cases h1 : n = v
    · rw [if_neg (by omega), if_pos h1, if_pos (by omega)]; omega
    · rw [if_neg h1]
      by_cases h2 : v < n
      · rw [if_pos h2, if_pos (by omega)]; omega
      · rw [if_neg h2, if_neg (by omega)]
theorem rsum_mem {p : Nat → Bool} {n : Nat} : ∀ {l : List Int}, l.Nodup → (∀ w, w ∈ l → 0 ≤ w ∧ w < n) → rsum (fun u => if (u : Int) ∈ l ∧ p u = true then 1 else 0) n = (l.filter (fun w => p w.toNat)).length
  | [], _, _ => by
    simp only [List.not_mem_nil, false_and, if_false, List.filter_nil, List.length_nil]
    exact rsum_zero
  | x :: l, hn, hr => by
    rw [List.nodup_cons] at hn
    obtain ⟨x0, hx⟩ := Int.eq_ofNat_of_zero_le (hr x List.mem_cons_self).1
    have hxn := (hr x List.mem_cons_self).2
    have ih := rsum_mem (p := p) hn.2 (fun w hw => hr w (List.mem_cons_of_mem _ hw))
    have e : rsum (fun u => if (u : Int) ∈ x :: l ∧ p u = true then 1 else 0) n = rsum (fun u => (if u = x0 then (if p x0 = true then 1 else 0) else 0) + (if (u : Int) ∈ l ∧ p u = true then 1 else 0)) n := by
      refine rsum_congr fun u hu => ?_
      by_cases c : u = x0
      · subst c
        have n1 : ¬ ((u : Int) ∈ l ∧ p u = true) := fun h => hn.1 (by rw [hx]; exact h.1)
        have n2 : ((u : Int) ∈ x :: l ∧ p u = true) ↔ p u = true := by
          rw [hx]
          exact ⟨fun h => h.2, fun h => ⟨List.mem_cons_self, h⟩⟩
        simp only [n2, if_neg n1, if_true]
        omega
      · rw [if_neg c]
        have : ((u : Int) ∈ x :: l ∧ p u = true) ↔ ((u : Int) ∈ l ∧ p u = true) := by
          rw [List.mem_cons]
          constructor
          · rintro ⟨h | h, h2⟩
            · omega
            · exact ⟨h, h2⟩
          · rintro ⟨h, h2⟩; exact ⟨.inr h, h2⟩
        simp only [this]
        omega
    rw [e, rsum_add, ih, rsum_one, if_pos (by omega), List.filter_cons, hx, Int.toNat_natCast]
    split
    · simp only [List.length_cons]; omega
    · omega
/-- The degrees of a set, within it. -/
def degs (st cs : List Int) (n : Nat) (S : List Bool) : Nat := rsum (fun u => if S.getD u false = true then cnt st cs S u else 0) n
theorem degs_drop {st cs : List Int} {n : Nat} (hg : graphP n n st cs) {S : List Bool} {v : Nat} (hv : v < n) (hs : S.getD v false = true) (hl : v < S.length) : degs st cs n S = degs st cs n (S.set v false) + 2 * cnt st cs S v := by
  have q4 := (may_row hg.1.1 (show v < (n : Int).toNat by omega)).2.2.2.1
  have hm := rsum_mem (p := fun u => (S.set v false).getD u false) (n := n) (nodup_row q4) (fun w hw => by
    obtain ⟨i, hi, e⟩ := mem_getD.1 hw
    have := row_nonneg q4 hi
    have := (q4 i hi).2
    omega)
  have h1 : cnt st cs (S.set v false) v = cnt st cs S v := cnt_self hg hv hs hl
  have h2 : ((rowOf st cs v).filter (fun w : Int => (S.set v false).getD w.toNat false)).length = cnt st cs (S.set v false) v := rfl
  have h3 : degs st cs n S = rsum (fun u => ((if (S.set v false).getD u false = true then cnt st cs (S.set v false) u else 0) + (if (u : Int) ∈ rowOf st cs v ∧ (S.set v false).getD u false = true then 1 else 0)) + (if u = v then cnt st cs S v else 0)) n := by
    refine rsum_congr fun u hu => ?_
    rw [getB_set hl]
    by_cases c : u = v
    · subst c
      rw [if_pos rfl, if_pos hs, if_neg (by simp), if_neg (by simp), if_pos rfl]
      omega
    · rw [if_neg c, if_neg c]
      have h4 := cnt_drop hg hv hu hs hl
      cases hsu : S.getD u false with
      | false => simp
      | true =>
        rw [if_pos rfl, if_pos rfl, ← h4]
        simp only [and_true]
        omega
  have e1 := rsum_add (n := n) (f := fun u => ((if (S.set v false).getD u false = true then cnt st cs (S.set v false) u else 0) + (if (u : Int) ∈ rowOf st cs v ∧ (S.set v false).getD u false = true then 1 else 0))) (g := fun u => (if u = v then cnt st cs S v else 0))
  have e2 := rsum_add (n := n) (f := fun u => (if (S.set v false).getD u false = true then cnt st cs (S.set v false) u else 0)) (g := fun u => (if (u : Int) ∈ rowOf st cs v ∧ (S.set v false).getD u false = true then 1 else 0))
  have e3 := rsum_one (v := v) (c := cnt st cs S v) (n := n)
  rw [if_pos hv] at e3
  rw [h3, e1, e2, hm, h2, e3, h1]
  unfold degs
  omega
theorem degs_all {st cs : List Int} {n : Nat} (hm : mayP n n st cs) : degs st cs n (List.replicate n true) = cs.length := by
  have hS : ∀ w : Nat, w < n → (List.replicate n true).getD w false = true := fun w hw => by rw [List.getD_eq_getElem?_getD, List.getElem?_replicate, if_pos hw]; rfl
  have h1 : degs st cs n (List.replicate n true) = rsum (fun u => (rowOf st cs u).length) n := by
    refine rsum_congr fun u hu => ?_
    rw [if_pos (hS u hu), cnt, List.filter_eq_self.2]
    intro w hw
    have q4 := (may_row hm (show u < (n : Int).toNat by omega)).2.2.2.1
    obtain ⟨i, hi, e⟩ := mem_getD.1 hw
    have := row_nonneg q4 hi
    have := (q4 i hi).2
    exact hS _ (by omega)
  have h2 : ∀ k, k ≤ n → rsum (fun u => (rowOf st cs u).length) k = (st.getD k default).toNat := by
    intro k
    induction k with
    | zero => intro _; rw [hm.2.2.2.1]; rfl
    | succ k ih =>
      intro hk
      obtain ⟨q1, q2, q3, q4, q5, q6, q7⟩ := may_row hm (show k < (n : Int).toNat by omega)
      simp only [rsum]
      rw [ih (by omega), q5]
      omega
  have h3 := hm.2.2.2.2.1
  rw [Int.toNat_natCast] at h3
  rw [h1, h2 n (Nat.le_refl n), h3]
  exact Int.toNat_natCast _
theorem edges_le {st cs : List Int} {n : Nat} (hg : graphP n n st cs) : (cs.length : Int) ≤ 2 * mxK (coresOf st cs n) n * n := by
  obtain ⟨g0, g1⟩ := mxK_ge (C := coresOf st cs n) n
  obtain ⟨d, hd⟩ := Int.eq_ofNat_of_zero_le g0
  have key : ∀ k, k ≤ n → cs.length ≤ degs st cs n (pst st cs n k).S + 2 * (d * k) := by
    intro k
    induction k with
    | zero =>
      intro _
      rw [show (pst st cs n 0).S = List.replicate n true from rfl, degs_all hg.1.1]
      omega
    | succ k ih =>
      intro hk
      have hb := bv_best (st := st) (cs := cs) (show k < n by omega)
      have h1 := degs_drop hg hb.1 hb.2.1 (by rw [(pst_len st cs n k).1]; exact hb.1)
      have h2 : (pst st cs n (k + 1)).S = (pst st cs n k).S.set (bv st cs n k) false := by rw [pst_next (by omega)]
      have h3 := c_ge (st := st) (cs := cs) (show k < n by omega)
      have h4 := g1 _ hb.1
      rw [show (coresOf st cs n).getD (bv st cs n k) default = (pst st cs n (k + 1)).c from C_get (Nat.le_refl n) k (by omega)] at h4
      have h5 := ih (by omega)
      rw [h2, show d * (k + 1) = d * k + d from Nat.mul_succ d k]
      omega
  have h1 := key n (Nat.le_refl n)
  have h2 : degs st cs n (pst st cs n n).S = 0 := by
    unfold degs
    rw [rsum_congr (g := fun _ => 0) fun u hu => by rw [pst_end st cs n u hu]; rfl]
    exact rsum_zero
  rw [h2] at h1
  rw [hd, show 2 * (d : Int) * n = ((2 * (d * n) : Nat) : Int) by push_cast; rw [Int.mul_assoc]]
  omega
end Go.Proofs.YtgdlkhgfehclpaaGreat
end

section
/- A graph with its vertices renamed. No condition. -/
namespace Go.Proofs.YtgdlkhgfehclpaaGreat
open Go Go.AL
set_option linter.unusedVariables false
set_option linter.unusedSimpArgs false
theorem rsum_comm {f : Nat → Nat → Nat} {m : Nat} : ∀ {n : Nat}, rsum (fun u => rsum (fun k => f u k) m) n = rsum (fun k => rsum (fun u => f u k) n) m
  | 0 => by
    simp only [rsum]
    exact rsum_zero.symm
  | n + 1 => by
    simp only [rsum]
    rw [rsum_comm, rsum_add]
/-- A sum goes through all numbers in whatever order. -/
theorem rsum_perm {xs : List Int} {n : Nat} (hxl : xs.length = n) (hord : ordOK xs.length xs) (f : Nat → Nat) : rsum (fun k => f (xs.getD k default).toNat) n = rsum f n := by
  have h1 : rsum f n = rsum (fun u => rsum (fun k => if u = (xs.getD k default).toNat then f u else 0) n) n := by
    refine rsum_congr fun u hu => ?_
    obtain ⟨k0, hk0, e0⟩ := ord_onto hord (show u < xs.length by omega)
    have h2 : rsum (fun k => if u = (xs.getD k default).toNat then f u else 0) n = rsum (fun k => if k = k0 then f u else 0) n := by
      refine rsum_congr fun k hk => ?_
      by_cases c : k = k0
      · subst c
        rw [if_pos rfl, if_pos (by omega)]
      · rw [if_neg c, if_neg (fun e => ?_)]
        have g1 := (hord k (by omega)).1
        rcases Nat.lt_or_ge k k0 with h3 | h3
        · exact (hord k0 hk0).2.2 k h3 (by omega)
        · exact (hord k (by omega)).2.2 k0 (by omega) (by omega)
    rw [h2, rsum_one, if_pos (by omega)]
  rw [h1, rsum_comm]
  refine rsum_congr fun k hk => ?_
  have h3 : rsum (fun u => if u = (xs.getD k default).toNat then f u else 0) n = rsum (fun u => if u = (xs.getD k default).toNat then f (xs.getD k default).toNat else 0) n := by
    refine rsum_congr fun u hu => ?_
    by_cases c : u = (xs.getD k default).toNat
    · rw [if_pos c, if_pos c, c]
    · rw [if_neg c, if_neg c]
  have h4 := hord k (by omega)
  have h5 := h4.1
  have h6 := h4.2.1
  rw [h3, rsum_one, if_pos (by omega)]
theorem rsum_filter {p : Nat → Bool} : ∀ {n : Nat}, ((List.range n).filter p).length = rsum (fun k => if p k = true then 1 else 0) n
  | 0 => rfl
  | n + 1 => by
    rw [List.range_succ, List.filter_append, List.length_append, rsum_filter]
    simp only [rsum, List.filter_cons, List.filter_nil]
    split <;> simp
/-- Row i of the renamed graph. -/
def rq (st cs xs : List Int) (n i : Nat) : List Int := ((List.range n).filter (fun k => decide (xs.getD k default ∈ rowOf st cs (xs.getD i default).toNat))).map (fun k => ((k : Nat) : Int))
def csQ (st cs xs : List Int) (n : Nat) : Nat → List Int
  | 0 => []
  | k + 1 => csQ st cs xs n k ++ rq st cs xs n k
def stQ (st cs xs : List Int) (n k : Nat) : List Int := (List.range (k + 1)).map fun i => (((csQ st cs xs n i).length : Nat) : Int)
theorem stQ_len {st cs xs : List Int} {n k : Nat} : (stQ st cs xs n k).length = k + 1 := by simp [stQ]
theorem stQ_get {st cs xs : List Int} {n k i : Nat} (h : i ≤ k) : (stQ st cs xs n k).getD i default = (csQ st cs xs n i).length := by
  simp [stQ, List.getD_eq_getElem?_getD, List.getElem?_map, List.getElem?_range (show i < k + 1 by omega)]
theorem csQ_split {st cs xs : List Int} {n i : Nat} : ∀ d, ∃ l, csQ st cs xs n (i + d) = csQ st cs xs n i ++ l
  | 0 => ⟨[], by simp⟩
  | d + 1 => by
    obtain ⟨l, h⟩ := csQ_split (st := st) (cs := cs) (xs := xs) (n := n) (i := i) d
    exact ⟨l ++ rq st cs xs n (i + d), by rw [show i + (d + 1) = (i + d) + 1 by omega, csQ, h, List.append_assoc]⟩
theorem rq_row {st cs xs : List Int} {n i : Nat} (hi : i < n) : rowOf (stQ st cs xs n n) (csQ st cs xs n n) i = rq st cs xs n i := by
  obtain ⟨l, h⟩ := csQ_split (st := st) (cs := cs) (xs := xs) (n := n) (i := i + 1) (n - (i + 1))
  rw [show i + 1 + (n - (i + 1)) = n by omega, csQ, List.append_assoc] at h
  unfold rowOf
  rw [stQ_get (by omega), stQ_get (by omega), h, csQ, Int.toNat_natCast, Int.toNat_natCast, List.drop_left, List.length_append, Nat.add_sub_cancel_left, List.take_left]
theorem rq_mem {st cs xs : List Int} {n i : Nat} {w : Int} : w ∈ rq st cs xs n i ↔ ∃ k : Nat, w = k ∧ k < n ∧ xs.getD k default ∈ rowOf st cs (xs.getD i default).toNat := by
  unfold rq
  rw [List.mem_map]
  constructor
  · rintro ⟨k, hk, rfl⟩
    rw [List.mem_filter, List.mem_range, decide_eq_true_iff] at hk
    exact ⟨k, rfl, hk.1, hk.2⟩
  · rintro ⟨k, rfl, h1, h2⟩
    exact ⟨k, by rw [List.mem_filter, List.mem_range, decide_eq_true_iff]; exact ⟨h1, h2⟩, rfl⟩
theorem rowOK_of {n : Nat} {l : List Int} (hp : l.Pairwise (· < ·)) (hr : ∀ w, w ∈ l → 0 ≤ w ∧ w < n) : rowOK n l := fun j hj => by
  have hm := hr _ (mem_getD.2 ⟨j, hj, rfl⟩)
  refine ⟨?_, hm.2⟩
  unfold prv
  split
  · omega
  · have := List.pairwise_iff_getElem.1 hp (j - 1) j (by omega) hj (by omega)
    rw [gd (by omega), gd hj]
    exact this
theorem rq_ok {st cs xs : List Int} {n i : Nat} : rowOK n (rq st cs xs n i) := by
  refine rowOK_of ?_ fun w hw => ?_
  · unfold rq
    refine List.pairwise_map.2 ?_
    refine List.Pairwise.imp (fun h => by omega) (List.Pairwise.filter _ (List.pairwise_lt_range))
  · obtain ⟨k, rfl, h1, _⟩ := rq_mem.1 hw
    omega
theorem may_q {st cs xs : List Int} {n : Nat} (hn : n ≤ 128) : mayP n n (stQ st cs xs n n) (csQ st cs xs n n) := by
  refine ⟨by omega, by omega, by rw [stQ_len]; omega, by rw [stQ_get (Nat.zero_le _)]; rfl, by rw [Int.toNat_natCast, stQ_get (Nat.le_refl _)], fun i hi => ?_, fun r hr => ?_⟩
  · rw [stQ_len] at hi
    rw [stQ_get (by omega), stQ_get (by omega), csQ, List.length_append]
    omega
  · rw [rq_row (by omega)]
    exact rq_ok
theorem xs_in {xs : List Int} {n k : Nat} (hxl : xs.length = n) (hord : ordOK xs.length xs) (hk : k < n) : ∃ v : Nat, xs.getD k default = v ∧ v < n := by
  obtain ⟨v, hv⟩ := Int.eq_ofNat_of_zero_le (hord k (by omega)).1
  have := (hord k (by omega)).2.1
  exact ⟨v, hv, by omega⟩
theorem graph_q {st cs xs : List Int} {n : Nat} (hg : graphP n n st cs) (hn : n ≤ 128) (hxl : xs.length = n) (hord : ordOK xs.length xs) : graphP n n (stQ st cs xs n n) (csQ st cs xs n n) := by
  refine ⟨⟨may_q hn, rfl, fun r hr j hj => ?_⟩, fun v hv hc => ?_⟩
  · have hrr := rq_row (st := st) (cs := cs) (xs := xs) (show r < n by omega)
    rw [hrr] at hj ⊢
    obtain ⟨k, e, h1, h2⟩ := rq_mem.1 (mem_getD.2 ⟨j, hj, rfl⟩)
    rw [e, Int.toNat_natCast, rq_row h1]
    refine rq_mem.2 ⟨r, rfl, by omega, ?_⟩
    obtain ⟨a, ha, han⟩ := xs_in hxl hord (show r < n by omega)
    obtain ⟨b, hb, hbn⟩ := xs_in hxl hord h1
    rw [ha, hb, Int.toNat_natCast] at h2
    rw [ha, hb, Int.toNat_natCast]
    exact sym_row hg han h2
  · rw [rq_row (by omega)] at hc
    obtain ⟨k, e, h1, h2⟩ := rq_mem.1 hc
    obtain rfl : v = k := by omega
    obtain ⟨a, ha, han⟩ := xs_in hxl hord h1
    rw [ha, Int.toNat_natCast] at h2
    exact hg.2 a (by omega) h2
/-- How many of row i of the renamed graph fit: as many as of the row that it stands for. -/
theorem rq_count {st cs xs : List Int} {n i : Nat} (hm : mayP n n st cs) (hxl : xs.length = n) (hord : ordOK xs.length xs) (hi : i < n) {φ ψ : Nat → Bool} (h : ∀ k, k < n → φ k = ψ (xs.getD k default).toNat) :
    ((rq st cs xs n i).filter (fun w => φ w.toNat)).length = ((rowOf st cs (xs.getD i default).toNat).filter (fun w => ψ w.toNat)).length := by
  obtain ⟨a, ha, han⟩ := xs_in hxl hord hi
  rw [ha, Int.toNat_natCast]
  have q4 := (may_row hm (show a < (n : Int).toNat by omega)).2.2.2.1
  rw [← rsum_mem (n := n) (nodup_row q4) (fun w hw => by
    obtain ⟨i, hi, e⟩ := mem_getD.1 hw
    have := row_nonneg q4 hi
    have := (q4 i hi).2
    omega), ← rsum_perm hxl hord]
  unfold rq
  rw [List.filter_map, List.length_map, List.filter_filter, rsum_filter]
  refine rsum_congr fun k hk => ?_
  obtain ⟨b, hb, hbn⟩ := xs_in hxl hord hk
  have hφ := h k hk
  rw [hb, Int.toNat_natCast] at hφ
  simp only [Function.comp, Int.toNat_natCast, ha, hb, hφ, Bool.and_eq_true, decide_eq_true_iff]
  by_cases c : ψ b = true ∧ (b : Int) ∈ rowOf st cs a
  · rw [if_pos c, if_pos ⟨c.2, c.1⟩]
  · rw [if_neg c, if_neg (fun hc => c ⟨hc.2, hc.1⟩)]
theorem cnt_q {st cs xs : List Int} {n i : Nat} (hm : mayP n n st cs) (hxl : xs.length = n) (hord : ordOK xs.length xs) (hi : i < n) {T H : List Bool} (h : ∀ k, k < n → T.getD k false = H.getD (xs.getD k default).toNat false) :
    cnt (stQ st cs xs n n) (csQ st cs xs n n) T i = cnt st cs H (xs.getD i default).toNat := by
  unfold cnt
  rw [rq_row hi]
  exact rq_count hm hxl hord hi (φ := fun k => T.getD k false) (ψ := fun w => H.getD w false) h
/-- Cores go along. -/
theorem cores_q {st cs xs : List Int} {n i : Nat} (hg : graphP n n st cs) (hn : n ≤ 128) (hxl : xs.length = n) (hord : ordOK xs.length xs) (hi : i < n) : (coresOf (stQ st cs xs n n) (csQ st cs xs n n) n).getD i default = (coresOf st cs n).getD (xs.getD i default).toNat default := by
  have hgq := graph_q hg hn hxl hord
  obtain ⟨v, hv, hvn⟩ := xs_in hxl hord hi
  rw [hv, Int.toNat_natCast]
  have hbp := (core_bounds hg n (Nat.le_refl n)).2 v hvn
  have hbq := (core_bounds hgq n (Nat.le_refl n)).2 i hi
  obtain ⟨c, hc⟩ := Int.eq_ofNat_of_zero_le hbp.1
  obtain ⟨d, hd⟩ := Int.eq_ofNat_of_zero_le hbq.1
  have hP : ∀ k, k < n → (invK xs xs.length).getD (xs.getD k default).toNat default = k := fun k hk => invK_get hord xs.length (Nat.le_refl _) k (by omega)
  -- from the graph to the renamed one
  have h1 : (c : Int) ≤ (coresOf (stQ st cs xs n n) (csQ st cs xs n n) n).getD i default := by
    have hT : ∀ k, k < n → ((List.range n).map fun k => (coreH st cs n c).getD (xs.getD k default).toNat false).getD k false = (coreH st cs n c).getD (xs.getD k default).toNat false := fun k hk => by
      simp [List.getD_eq_getElem?_getD, List.getElem?_map, List.getElem?_range hk]
    refine core_ge (may_q hn) (T := (List.range n).map fun k => (coreH st cs n c).getD (xs.getD k default).toNat false) (fun k hk hs => ?_) i hi ?_
    · rw [cnt_q hg.1.1 hxl hord hk hT]
      rw [hT k hk] at hs
      obtain ⟨a, ha, han⟩ := xs_in hxl hord hk
      rw [ha, Int.toNat_natCast] at hs ⊢
      exact core_le hg.1.1 (H := coreH st cs n c) (fun w hw => coreH_get hw) a han hs
    · rw [hT i hi, hv, Int.toNat_natCast]
      refine (coreH_get hvn).2 ?_
      unfold coresOf
      omega
  -- and back
  have h2 : (d : Int) ≤ (coresOf st cs n).getD v default := by
    have hT : ∀ k, k < n → (coreH (stQ st cs xs n n) (csQ st cs xs n n) n d).getD k false = ((List.range n).map fun w => (coreH (stQ st cs xs n n) (csQ st cs xs n n) n d).getD ((invK xs xs.length).getD w default).toNat false).getD (xs.getD k default).toNat false := fun k hk => by
      obtain ⟨a, ha, han⟩ := xs_in hxl hord hk
      have h3 := hP k hk
      rw [ha, Int.toNat_natCast] at h3 ⊢
      simp only [List.getD_eq_getElem?_getD, List.getElem?_map, List.getElem?_range han, Option.map_some, Option.getD_some]
      rw [List.getD_eq_getElem?_getD] at h3
      rw [h3, Int.toNat_natCast]
    refine core_ge hg.1.1 (T := (List.range n).map fun w => (coreH (stQ st cs xs n n) (csQ st cs xs n n) n d).getD ((invK xs xs.length).getD w default).toNat false) (fun u hu hs => ?_) v hvn ?_
    · obtain ⟨k, hk, e⟩ := ord_onto hord (show u < xs.length by omega)
      have h3 := hT k (by omega)
      rw [e, Int.toNat_natCast, hs] at h3
      have h4 := cnt_q hg.1.1 hxl hord (show k < n by omega) hT
      rw [e, Int.toNat_natCast] at h4
      rw [← h4]
      exact core_le (may_q hn) (H := coreH (stQ st cs xs n n) (csQ st cs xs n n) n d) (fun w hw => coreH_get hw) k (by omega) h3
    · have h3 := hT i hi
      rw [hv, Int.toNat_natCast] at h3
      rw [← h3]
      refine (coreH_get hi).2 ?_
      unfold coresOf
      omega
  unfold coresOf at h1 h2 ⊢
  omega
theorem mx_perm {A B xs : List Int} {n : Nat} (hxl : xs.length = n) (hord : ordOK xs.length xs) (h : ∀ i, i < n → A.getD i default = B.getD (xs.getD i default).toNat default) : mxK A n = mxK B n := by
  obtain ⟨g0, g1⟩ := mxK_ge (C := B) n
  refine mxK_uniq g0 (fun u hu => ?_) ?_
  · obtain ⟨a, ha, han⟩ := xs_in hxl hord hu
    rw [h u hu, ha, Int.toNat_natCast]
    exact g1 a han
  · rcases mxK_at (C := B) n with h1 | ⟨u, h1, h2⟩
    · exact .inl h1
    · obtain ⟨k, hk, e⟩ := ord_onto hord (show u < xs.length by omega)
      exact .inr ⟨k, by omega, by rw [h k (by omega), e, Int.toNat_natCast]; exact h2⟩
/-- An order of the renamed graph, named as before. -/
def thereOf (xs ys : List Int) : List Int := ys.map fun y => xs.getD y.toNat default
theorem there_get {xs ys : List Int} {k : Nat} (hk : k < ys.length) : (thereOf xs ys).getD k default = xs.getD (ys.getD k default).toNat default := by
  simp [thereOf, List.getD_eq_getElem?_getD, List.getElem?_map, List.getElem?_eq_getElem hk]
theorem there_len {xs ys : List Int} : (thereOf xs ys).length = ys.length := by simp [thereOf]
theorem there_ok {xs ys : List Int} {n : Nat} (hxl : xs.length = n) (hord : ordOK xs.length xs) (hyl : ys.length = n) (hoy : ordOK ys.length ys) : ordOK (thereOf xs ys).length (thereOf xs ys) := fun i hi => by
  rw [there_len] at hi ⊢
  unfold okAt
  rw [there_get hi]
  obtain ⟨b, hb, hbn⟩ := xs_in hyl hoy (show i < n by omega)
  obtain ⟨a, ha, han⟩ := xs_in hxl hord hbn
  rw [hb, Int.toNat_natCast, ha]
  refine ⟨by omega, by omega, fun j hj => ?_⟩
  rw [there_get (by omega)]
  obtain ⟨b', hb', hbn'⟩ := xs_in hyl hoy (show j < n by omega)
  rw [hb', Int.toNat_natCast]
  have hne : b' ≠ b := fun e => (hoy i hi).2.2 j hj (by rw [hb, hb', e])
  rcases Nat.lt_or_ge b' b with h1 | h1
  · have := (hord b (by omega)).2.2 b' h1
    omega
  · have := (hord b' (by omega)).2.2 b (by omega)
    omega
/-- Backs go along. -/
theorem backs_q {st cs xs ys : List Int} {n i : Nat} (hg : graphP n n st cs) (hxl : xs.length = n) (hord : ordOK xs.length xs) (hyl : ys.length = n) (hoy : ordOK ys.length ys) (hi : i < n) :
    bk (stQ st cs xs n n) (csQ st cs xs n n) (invK ys ys.length) i = bk st cs (invK (thereOf xs ys) (thereOf xs ys).length) (xs.getD i default).toNat := by
  have hP : ∀ k, k < n → (invK (thereOf xs ys) (thereOf xs ys).length).getD (xs.getD k default).toNat default = (invK ys ys.length).getD k default := fun k hk => by
    obtain ⟨j, hj, e⟩ := ord_onto hoy (show k < ys.length by omega)
    have h1 := invK_get hoy ys.length (Nat.le_refl _) j hj
    rw [e, Int.toNat_natCast] at h1
    have h2 := invK_get (there_ok hxl hord hyl hoy) (thereOf xs ys).length (Nat.le_refl _) j (by rw [there_len]; exact hj)
    rw [there_get hj, e, Int.toNat_natCast] at h2
    rw [h1, h2]
  unfold bk
  rw [rq_row hi]
  have := rq_count (st := st) (cs := cs) hg.1.1 hxl hord hi (φ := fun k => decide ((invK ys ys.length).getD k default < (invK ys ys.length).getD i default)) (ψ := fun w => decide ((invK (thereOf xs ys) (thereOf xs ys).length).getD w default < (invK (thereOf xs ys) (thereOf xs ys).length).getD (xs.getD i default).toNat default)) (fun k hk => by rw [hP k hk, hP i hi])
  exact this
end Go.Proofs.YtgdlkhgfehclpaaGreat
end

section
/- renamed. No condition. -/
namespace Go.Proofs.YtgdlkhgfehclpaaGreat
open Go Go.AL
set_option linter.unusedVariables false
set_option linter.unusedSimpArgs false
theorem bc_ofz {F : Nat → Prop} {h : Heap} {x : AV} {l : List Int} (hb : BC F h x l) : OFz h x (ints l) := by
  rcases hb with ⟨rfl, rfl⟩ | ⟨id, len, cap, ex, es, ex', rfl, q1, q2, q3, q4, q5, rfl⟩
  · exact .nils 1
  · have := OFz.osl (h := h) id 1 0 len cap ex ex' (List.map intE es) q2 (by simp; omega) (fun e he => by
      obtain ⟨x, _, rfl⟩ := List.mem_map.1 he; rfl)
    rw [List.drop_zero, ← List.map_take] at this
    exact this
theorem ofz_pat {h : Heap} {x y : AV} {st cs : List Int} {r w : Int} (hx : OFz h x (ints st)) (hy : OFz h y (ints cs)) : OFz h (.agg [.int .i64 r, .int .i64 w, x, y]) (pat r w st cs) := by
  refine .agg _ _ rfl fun q u u' hu hu' => ?_
  match q with
  | 0 => simp at hu hu'; subst hu hu'; exact .flat _ rfl
  | 1 => simp at hu hu'; subst hu hu'; exact .flat _ rfl
  | 2 => simp at hu hu'; subst hu hu'; exact hx
  | 3 => simp at hu hu'; subst hu hu'; exact hy
  | q + 4 => simp at hu
/-- Row i, as far as k. -/
def rqk (st cs xs : List Int) (i k : Nat) : List Int := ((List.range k).filter (fun k => decide (xs.getD k default ∈ rowOf st cs (xs.getD i default).toNat))).map (fun k => ((k : Nat) : Int))
theorem rqk_succ {st cs xs : List Int} {i k : Nat} : rqk st cs xs i (k + 1) = if xs.getD k default ∈ rowOf st cs (xs.getD i default).toNat then rqk st cs xs i k ++ [(k : Int)] else rqk st cs xs i k := by
  unfold rqk
  rw [List.range_succ, List.filter_append, List.map_append, List.filter_cons, List.filter_nil]
  by_cases c : xs.getD k default ∈ rowOf st cs (xs.getD i default).toNat
  · rw [if_pos c, if_pos (decide_eq_true c)]; rfl
  · rw [if_neg c, if_neg (by simpa using c)]; simp
theorem rqk_len {st cs xs : List Int} {i k : Nat} : (rqk st cs xs i k).length ≤ k := by
  unfold rqk
  rw [List.length_map]
  refine Nat.le_trans (List.length_filter_le _ _) ?_
  simp
theorem csQ_len {st cs xs : List Int} {n : Nat} : ∀ k, (csQ st cs xs n k).length ≤ k * n
  | 0 => by simp [csQ]
  | k + 1 => by
    have h1 := csQ_len (st := st) (cs := cs) (xs := xs) (n := n) k
    have h2 : (rq st cs xs n k).length ≤ n := rqk_len
    rw [csQ, List.length_append, Nat.succ_mul]
    omega
def F4 : Nat → Prop := fun i => i = 0 ∨ i = 1 ∨ i = 3
set_option maxHeartbeats 4000000 in
set_option maxRecDepth 100000 in
theorem renamed_c (n : Nat) (st cs xs : List Int) (hb : st.length < 1000000000) (hb2 : cs.length < 1000000000) (hm : mayP n n st cs) (hn : n ≤ 128) (hxl : xs.length = n) (hord : ordOK xs.length xs) :
    ACalls Tryz.prog 17 [pat n n st cs, ints xs] [] fun v h => OFz h v (pat n n (stQ st cs xs n n) (csQ st cs xs n n)) := by
  have hnn : n * n ≤ 128 * 128 := Nat.mul_le_mul hn hn
  refine (wp17 rfl rfl ?_)
  simp (maxSteps := 4000000) +contextual only [↓packA, ↓reduceIte, packB, pureOp, quietOp, loadOp, quietB, fr0, cellsK, implies_true, ite_true, ite_false, eq_self, ne_eq, reduceCtorEq, Nat.reduceLT, Nat.reduceLeDiff, Nat.reduceAdd, Nat.reduceMul, Nat.reduceBEq, Nat.reduceEqDiff, Int.reduceToNat, Int.reduceLT, Int.reduceLE, Nat.reduceSub, pl17, ft1, ft2, ft3, ft4, ft22, ft24, patch, ints]
  refine LoopK.intro (fun m a h => ∃ (i : Nat) (x y : AV) (B : Nat → List Int), m = n - i ∧ i ≤ n ∧ PS F4 1 h [[x], [y]] B ∧ B 0 = stQ st cs xs n i ∧ B 1 = csQ st cs xs n i ∧ h[0]? = some (patO n n st cs) ∧ h[1]? = some (.arr 4 [[.int .i64 0, .int .i64 0, .nils, .nils]] true) ∧ h[3]? = some (.arr 4 [[.int .i64 n, .int .i64 n, x, y]] true) ∧
    a 1 = ints xs ∧ a 2 = .op 0 4 0 0 ∧ a 4 = .op 1 4 0 0 ∧ a 5 = .op 3 4 0 0 ∧ a 6 = .int .i64 i) n ⟨0, .osl 2 1 0 1 1 true, .nils, fun d => if d = 0 then [0] else [], ?_⟩ ?_
  · simp (maxSteps := 4000000) only [↓packA, ↓reduceIte, packB, pureOp, quietOp, loadOp, quietB, fr0, cellsK, implies_true, ite_true, ite_false, eq_self, ne_eq, reduceCtorEq, Nat.reduceLT, Nat.reduceLeDiff, Nat.reduceAdd, Nat.reduceMul, Nat.reduceBEq, Nat.reduceEqDiff, Int.reduceToNat, Int.reduceLT, Int.reduceLE, Nat.reduceSub, pl17, ft1, ft2, ft3, ft4, ft22, ft24, patO, ints, Int.natCast_zero]
    refine ⟨⟨fun i hi => by simp [F4] at hi ⊢; omega, rfl, fun d hd => ?_, fun d d' x y i hdd hx hy hxi => ?_⟩, by simp [stQ, csQ], rfl⟩
    · match d, hd with
      | 0, _ => exact ⟨_, rfl, .inr ⟨2, 1, 1, true, [0], true, rfl, by simp [F4], rfl, by omega, by simp, by simp, rfl⟩⟩
      | 1, _ => exact ⟨_, rfl, .inl ⟨rfl, rfl⟩⟩
      | d + 2, h => exact absurd h (by omega)
    · match d, d' with
      | 0, 0 => exact absurd rfl hdd
      | 0, 1 => simp at hy; subst hy; simp [idOf]
      | 0, d' + 2 => simp at hy
      | 1, _ => simp at hx; subst hx; cases hxi
      | d + 2, _ => simp at hx
  rintro m a h ⟨i, x, y, B, rfl, hi, hP, hB0, hB1, g0, g1, g3, a1, a2, a4, a5, a6⟩
  unfold patO ints at g0
  simp (maxSteps := 4000000) +contextual only [↓packA, ↓reduceIte, packB, pureOp, quietOp, loadOp, quietB, fr0, cellsK, implies_true, ite_true, ite_false, eq_self, ne_eq, reduceCtorEq, Nat.reduceLT, Nat.reduceLeDiff, Nat.reduceAdd, Nat.reduceMul, Nat.reduceBEq, Nat.reduceEqDiff, Int.reduceToNat, Int.reduceLT, Int.reduceLE, Nat.reduceSub, pl17, ft1, ft2, ft3, ft4, ft22, ft24, ints, g0, g1, g3, a1, a2, a4, a5, a6]
  refine ⟨fun h2 => ?_, fun h2 => ?_⟩
  · obtain ⟨v, hv, hvn⟩ := xs_in hxl hord (show i < n by omega)
    refine LoopK.intro (fun m a h => ∃ (k : Nat) (x y : AV) (B : Nat → List Int), m = n - k ∧ k ≤ n ∧ PS F4 1 h [[x], [y]] B ∧ B 0 = stQ st cs xs n i ∧ B 1 = csQ st cs xs n i ++ rqk st cs xs i k ∧ h[0]? = some (.arr 4 [[.int .i64 n, .int .i64 n, .isl 1 (List.map intE st), .isl 1 (List.map intE cs)]] true) ∧ h[1]? = some (.arr 4 [[.int .i64 0, .int .i64 0, .nils, .nils]] true) ∧ h[3]? = some (.arr 4 [[.int .i64 n, .int .i64 n, x, y]] true) ∧
      a 1 = ints xs ∧ a 2 = .op 0 4 0 0 ∧ a 4 = .op 1 4 0 0 ∧ a 5 = .op 3 4 0 0 ∧ a 6 = .int .i64 i ∧ a 7 = .int .i64 k) n ⟨0, x, y, B, rfl, Nat.zero_le _, hP, hB0, by rw [hB1]; simp [rqk], g0, g1, g3, ?_⟩ ?_
    · simp (maxSteps := 4000000) only [↓packA, ↓reduceIte, packB, pureOp, quietOp, loadOp, quietB, fr0, cellsK, implies_true, ite_true, ite_false, eq_self, ne_eq, reduceCtorEq, Nat.reduceLT, Nat.reduceLeDiff, Nat.reduceAdd, Nat.reduceMul, Nat.reduceBEq, Nat.reduceEqDiff, Int.reduceToNat, Int.reduceLT, Int.reduceLE, Nat.reduceSub, pl17, ft1, ft2, ft3, ft4, ft22, ft24, ints, a1, a2, a4, a5, a6, Int.natCast_zero]
    clear hP hB0 hB1 g0 g1 g3 a1 a2 a4 a5 a6
    rintro m a h ⟨k, x, y, B, rfl, hk, hP, hB0, hB1, g0, g1, g3, a1, a2, a4, a5, a6, a7⟩
    have hb0 : BC F4 h x (B 0) := by obtain ⟨z, h3, h4⟩ := hP.bc 0 (by omega); simp at h3; subst h3; exact h4
    have hb1 : BC F4 h y (B 1) := by obtain ⟨z, h3, h4⟩ := hP.bc 1 (by omega); simp at h3; subst h3; exact h4
    obtain ⟨N, hN⟩ : ∃ N, h.length = N := ⟨_, rfl⟩
    have l3 : 3 < N := by rw [← hN]; exact (List.getElem?_eq_some_iff.1 g3).1
    have ra : ∀ t i, i < N → (h ++ t)[i]? = h[i]? := fun t i hi => List.getElem?_append_left (by omega)
    have ra0 : ∀ t, (h ++ t)[0]? = h[0]? := fun t => ra t 0 (by omega)
    have ra1 : ∀ t, (h ++ t)[1]? = h[1]? := fun t => ra t 1 (by omega)
    have ra3 : ∀ t, (h ++ t)[3]? = h[3]? := fun t => ra t 3 (by omega)
    have rN : ∀ o, (h ++ [o])[N]? = some o := fun o => by rw [List.getElem?_append_right (by omega)]; simp [hN]
    simp (maxSteps := 4000000) +contextual only [↓packA, ↓reduceIte, packB, pureOp, quietOp, loadOp, quietB, fr0, cellsK, implies_true, ite_true, ite_false, eq_self, ne_eq, reduceCtorEq, Nat.reduceLT, Nat.reduceLeDiff, Nat.reduceAdd, Nat.reduceMul, Nat.reduceBEq, Nat.reduceEqDiff, Int.reduceToNat, Int.reduceLT, Int.reduceLE, Nat.reduceSub, pl17, ft1, ft2, ft3, ft4, ft22, ft24, ints, g0, g1, g3, a1, a2, a4, a5, a6, a7, hN, ra0, ra1, ra3, rN, lenK_bc hb1]
    refine ⟨fun h3 => ⟨by omega, by omega, by omega, by omega, ?_⟩, fun h3 => ?_⟩
    · refine acalls_pure (rhas_c n n st cs hb hb2 hm (xs.getD i default) (by omega) (by omega) (xs.getD k default)) rfl ?_
      have hsz : (B 1).length < 900000 := by
        have e1 := csQ_len (st := st) (cs := cs) (xs := xs) (n := n) i
        have e2 := rqk_len (st := st) (cs := cs) (xs := xs) (i := i) (k := k)
        have e3 : i * n ≤ n * n := Nat.mul_le_mul_right _ hi
        rw [hB1, List.length_append]
        omega
      simp (maxSteps := 4000000) +contextual only [↓packA, ↓reduceIte, packB, pureOp, quietOp, loadOp, quietB, fr0, cellsK, implies_true, ite_true, ite_false, eq_self, ne_eq, reduceCtorEq, Nat.reduceLT, Nat.reduceLeDiff, Nat.reduceAdd, Nat.reduceMul, Nat.reduceBEq, Nat.reduceEqDiff, Int.reduceToNat, Int.reduceLT, Int.reduceLE, Nat.reduceSub, pl17, ft1, ft2, ft3, ft4, ft22, ft24, ints, g0, g1, g3, a1, a2, a4, a5, a6, a7, hN, ra0, ra1, ra3, rN, lenK_bc hb1]
      refine ⟨fun h4 => ?_, fun h4 => ?_⟩
      · refine push_ps (hP.app _) (show 1 ≤ 1 by omega) rfl hsz fun x' G hcx hl' hf' hP' => ?_
        obtain ⟨xi, xl, xc, xe, rfl⟩ := hcx
        have f0 := ((hf' 0 (by simp [F4])).trans (ra0 _)).trans g0
        have f1 := ((hf' 1 (by simp [F4])).trans (ra1 _)).trans g1
        have f3 := ((hf' 3 (by simp [F4])).trans (ra3 _)).trans g3
        have l3' : 3 < G.length := (List.getElem?_eq_some_iff.1 f3).1
        have d3 : ∀ o : Ob, (G.set 3 o)[3]? = some o := fun o => List.getElem?_set_self l3'
        have d0 : ∀ o : Ob, (G.set 3 o)[0]? = G[0]? := fun o => List.getElem?_set_ne (by omega)
        have d1 : ∀ o : Ob, (G.set 3 o)[1]? = G[1]? := fun o => List.getElem?_set_ne (by omega)
        simp (maxSteps := 4000000) +contextual only [↓packA, ↓reduceIte, packB, pureOp, quietOp, loadOp, quietB, fr0, cellsK, implies_true, ite_true, ite_false, eq_self, ne_eq, reduceCtorEq, Nat.reduceLT, Nat.reduceLeDiff, Nat.reduceAdd, Nat.reduceMul, Nat.reduceBEq, Nat.reduceEqDiff, Int.reduceToNat, Int.reduceLT, Int.reduceLE, Nat.reduceSub, pl17, ft1, ft2, ft3, ft4, ft22, ft24, ints, f0, f1, f3, a1, a2, a4, a5, a6, a7, d3, d0, d1]
        refine ⟨by omega, .inl ⟨n - (k + 1), by omega, k + 1, x, .osl xi 1 0 xl xc xe, updB B 1 (B 1 ++ [(k : Int)]), rfl, by omega, hP'.set (by simp [F4]) _, by rw [updB_ne (by omega)]; exact hB0, ?_, rfl, by omega⟩⟩
        rw [updB_same, hB1, rqk_succ, if_pos h4, List.append_assoc]
      · refine ⟨by omega, .inl ⟨n - (k + 1), by omega, k + 1, x, y, B, rfl, by omega, hP, hB0, ?_, rfl, by omega⟩⟩
        rw [hB1, rqk_succ, if_neg h4]
    · obtain rfl : k = n := by omega
      have hst : stQ st cs xs k (i + 1) = stQ st cs xs k i ++ [((csQ st cs xs k (i + 1)).length : Int)] := by
        unfold stQ
        rw [List.range_succ (n := i + 1), List.map_append]
        rfl
      have hcsq : B 1 = csQ st cs xs k (i + 1) := by rw [hB1]; rfl
      have hsz : (B 0).length < 900000 := by
        rw [hB0, stQ_len]
        omega
      refine push_ps (hP.app _) (show 0 ≤ 1 by omega) rfl hsz fun x' G hcx hl' hf' hP' => ?_
      obtain ⟨xi, xl, xc, xe, rfl⟩ := hcx
      have f0 := ((hf' 0 (by simp [F4])).trans (ra0 _)).trans g0
      have f1 := ((hf' 1 (by simp [F4])).trans (ra1 _)).trans g1
      have f3 := ((hf' 3 (by simp [F4])).trans (ra3 _)).trans g3
      have l3' : 3 < G.length := (List.getElem?_eq_some_iff.1 f3).1
      have d3 : ∀ o : Ob, (G.set 3 o)[3]? = some o := fun o => List.getElem?_set_self l3'
      have d0 : ∀ o : Ob, (G.set 3 o)[0]? = G[0]? := fun o => List.getElem?_set_ne (by omega)
      have d1 : ∀ o : Ob, (G.set 3 o)[1]? = G[1]? := fun o => List.getElem?_set_ne (by omega)
      simp (maxSteps := 4000000) +contextual only [↓packA, ↓reduceIte, packB, pureOp, quietOp, loadOp, quietB, fr0, cellsK, implies_true, ite_true, ite_false, eq_self, ne_eq, reduceCtorEq, Nat.reduceLT, Nat.reduceLeDiff, Nat.reduceAdd, Nat.reduceMul, Nat.reduceBEq, Nat.reduceEqDiff, Int.reduceToNat, Int.reduceLT, Int.reduceLE, Nat.reduceSub, pl17, ft1, ft2, ft3, ft4, ft22, ft24, ints, patO, f0, f1, f3, a1, a2, a4, a5, a6, a7, d3, d0, d1]
      refine ⟨by omega, .inl ⟨k - (i + 1), by omega, i + 1, .osl xi 1 0 xl xc xe, y, updB B 0 (B 0 ++ [((B 1).length : Int)]), rfl, by omega, hP'.set (by simp [F4]) _, by rw [updB_same, hB0, hst, hcsq], by rw [updB_ne (by omega)]; exact hcsq, rfl, by omega⟩⟩
  · obtain rfl : i = n := by omega
    have l1 : 1 < h.length := (List.getElem?_eq_some_iff.1 g1).1
    have s1 : ∀ o : Ob, (h.set 1 o)[1]? = some o := fun o => List.getElem?_set_self l1
    simp (maxSteps := 4000000) +contextual only [↓packA, ↓reduceIte, packB, pureOp, quietOp, loadOp, quietB, fr0, cellsK, implies_true, ite_true, ite_false, eq_self, ne_eq, reduceCtorEq, Nat.reduceLT, Nat.reduceLeDiff, Nat.reduceAdd, Nat.reduceMul, Nat.reduceBEq, Nat.reduceEqDiff, Int.reduceToNat, Int.reduceLT, Int.reduceLE, Nat.reduceSub, pl17, ft1, ft2, ft3, ft4, ft22, ft24, ints, s1]
    have hP2 := hP.set (show F4 1 by simp [F4]) (.arr 4 [[.int .i64 i, .int .i64 i, x, y]] true)
    have hb0 : BC F4 (h.set 1 (.arr 4 [[.int .i64 i, .int .i64 i, x, y]] true)) x (B 0) := by obtain ⟨z, h3, h4⟩ := hP2.bc 0 (by omega); simp at h3; subst h3; exact h4
    have hb1 : BC F4 (h.set 1 (.arr 4 [[.int .i64 i, .int .i64 i, x, y]] true)) y (B 1) := by obtain ⟨z, h3, h4⟩ := hP2.bc 1 (by omega); simp at h3; subst h3; exact h4
    rw [hB0] at hb0
    rw [hB1] at hb1
    exact ofz_pat (bc_ofz hb0) (bc_ofz hb1)
end Go.Proofs.YtgdlkhgfehclpaaGreat
end

section
/- Natural orders. No condition. -/
namespace Go.Proofs.YtgdlkhgfehclpaaGreat
open Go Go.AL
set_option linter.unusedVariables false
set_option linter.unusedSimpArgs false
def natL (n : Nat) : List Int := (List.range n).map (fun i => ((i : Nat) : Int))
theorem natL_succ {n : Nat} : natL (n + 1) = natL n ++ [(n : Int)] := by unfold natL; rw [List.range_succ, List.map_append]; rfl
theorem natL_len {n : Nat} : (natL n).length = n := by simp [natL]
theorem natL_get {n i : Nat} (h : i < n) : gv (natL n) i = i := by
  unfold gv natL
  rw [List.getD_eq_getElem?_getD, List.getElem?_map, List.getElem?_range h]
  rfl
theorem BC.app {F : Nat → Prop} {h t : Heap} {x : AV} {l : List Int} (hb : BC F h x l) : BC F (h ++ t) x l := by
  rcases hb with ⟨rfl, rfl⟩ | ⟨id, len, cap, ex, es, ex', rfl, q1, q2, q3⟩
  · exact .inl ⟨rfl, rfl⟩
  · exact .inr ⟨id, len, cap, ex, es, ex', rfl, q1, by rw [List.getElem?_append_left (List.getElem?_eq_some_iff.1 q2).1]; exact q2, q3⟩
theorem BC.weak {F F' : Nat → Prop} {h : Heap} {x : AV} {l : List Int} (hb : BC F' h x l) (hF : ∀ i, F i → F' i) : BC F h x l := by
  rcases hb with ⟨rfl, rfl⟩ | ⟨id, len, cap, ex, es, ex', rfl, q1, q2⟩
  · exact .inl ⟨rfl, rfl⟩
  · exact .inr ⟨id, len, cap, ex, es, ex', rfl, fun h => q1 (hF _ h), q2⟩
theorem push_bc {F : Nat → Prop} {h : Heap} {x : AV} {l : List Int} (hF : ∀ i, F i → i < h.length) (hb : BC F h x l) (hsm : l.length < 900000) {w : Int} {K : AV → Heap → Prop}
    (hq : ∀ x' h', (∃ id len cap ex, x' = AV.osl id 1 0 len cap ex) → h.length ≤ h'.length → (∀ i, F i → h'[i]? = h[i]?) → BC F h' x' (l ++ [w]) → K x' h') : apK [.int .i64 0] 8 h x [[.int .i64 w]] K := by
  refine push_ps (F := F) (n := 0) (cells := [[x]]) (B := fun _ => l) ⟨hF, rfl, fun d hd => ?_, fun d d' y z i hdd hy hz hi => ?_⟩ (Nat.le_refl 0) rfl hsm fun x' h' h1 h2 h3 h4 => hq x' h' h1 h2 h3 ?_
  · match d, hd with
    | 0, _ => exact ⟨_, rfl, hb⟩
    | d + 1, h => exact absurd h (by omega)
  · match d, d' with
    | 0, 0 => exact absurd rfl hdd
    | 0, d' + 1 => simp at hz
    | d + 1, _ => simp at hy
  · obtain ⟨z, h5, h6⟩ := h4.bc 0 (Nat.le_refl _)
    simp at h5
    subst h5
    rwa [updB_same] at h6
set_option maxRecDepth 100000 in
theorem nat_at (n : Nat) (hn : n ≤ 128) (st cs : List Int) {F : Nat → Prop} {h : Heap} (hF : ∀ i, F i → i < h.length) {xs : AV} {Q : AV → Heap → Prop}
    (hq : ∀ x h', h.length ≤ h'.length → (∀ i, F i → h'[i]? = h[i]?) → BC F h' x (natL n) → Q (.tup [x, .int .i64 0]) h') : ACalls Tryz.prog 53 [pat n n st cs, xs] h Q := by
  refine (wp53 rfl rfl ?_)
  obtain ⟨N, hN⟩ : ∃ N, h.length = N := ⟨_, rfl⟩
  have rN : ∀ o, (h ++ [o])[N]? = some o := fun o => by rw [List.getElem?_append_right (by omega)]; simp [hN]
  simp (maxSteps := 4000000) only [↓packA, ↓reduceIte, packB, pureOp, quietOp, loadOp, quietB, fr0, cellsK, implies_true, ite_true, ite_false, eq_self, ne_eq, reduceCtorEq, Nat.reduceLT, Nat.reduceLeDiff, Nat.reduceAdd, Nat.reduceMul, Nat.reduceBEq, Nat.reduceEqDiff, Int.reduceToNat, Int.reduceLT, Int.reduceLE, Nat.reduceSub, pl53, ft1, ft3, ft22, ft24, ints, hN, rN]
  refine LoopK.intro (fun m a g => ∃ (i : Nat) (x : AV), m = n - i ∧ i ≤ n ∧ N < g.length ∧ (∀ i, F i → g[i]? = h[i]?) ∧ BC (fun i => F i ∨ i = N) g x (natL i) ∧ g[N]? = some (patO n n st cs) ∧ a 2 = .op N 4 0 0 ∧ a 6 = x ∧ a 9 = .int .i64 n ∧ a 10 = .int .i64 i) n ⟨0, .nils, rfl, Nat.zero_le _, by simp; omega, fun i hi => List.getElem?_append_left (hF i hi), .inl ⟨rfl, rfl⟩, ?_⟩ ?_
  · simp (maxSteps := 4000000) only [↓packA, ↓reduceIte, packB, pureOp, quietOp, loadOp, quietB, fr0, cellsK, implies_true, ite_true, ite_false, eq_self, ne_eq, reduceCtorEq, Nat.reduceLT, Nat.reduceLeDiff, Nat.reduceAdd, Nat.reduceMul, Nat.reduceBEq, Nat.reduceEqDiff, Int.reduceToNat, Int.reduceLT, Int.reduceLE, Nat.reduceSub, pl53, ft1, ft3, ft22, ft24, patO, ints, Int.natCast_zero, rN]
  rintro m a g ⟨i, x, rfl, hi, hgl, hg, hb, gN, a2, a6, a9, a10⟩
  obtain ⟨M, hM⟩ : ∃ M, g.length = M := ⟨_, rfl⟩
  have rM : ∀ o, (g ++ [o])[M]? = some o := fun o => by rw [List.getElem?_append_right (by omega)]; simp [hM]
  have hF2 : ∀ i, F i ∨ i = N → i < g.length := fun i hi => by
    rcases hi with hi | rfl
    · have := hF i hi; omega
    · exact hgl
  by_cases r : i < n
  · have r1 : (i : Int) < (n : Int) := by omega
    simp (maxSteps := 4000000) only [↓packA, ↓reduceIte, packB, pureOp, quietOp, loadOp, quietB, fr0, cellsK, implies_true, ite_true, ite_false, eq_self, ne_eq, reduceCtorEq, Nat.reduceLT, Nat.reduceLeDiff, Nat.reduceAdd, Nat.reduceMul, Nat.reduceBEq, Nat.reduceEqDiff, Int.reduceToNat, Int.reduceLT, Int.reduceLE, Nat.reduceSub, pl53, ft1, ft3, ft22, ft24, a2, a6, a9, a10, r1, hM, rM]
    refine push_bc (F := fun i => F i ∨ i = N) (fun i hi => by simp; have := hF2 i hi; omega) hb.app (by rw [natL_len]; omega) fun x' G hcx hl' hf' hb' => ?_
    obtain ⟨xi, xl, xc, xe, rfl⟩ := hcx
    simp (maxSteps := 4000000) only [↓packA, ↓reduceIte, packB, pureOp, quietOp, loadOp, quietB, fr0, cellsK, implies_true, ite_true, ite_false, eq_self, ne_eq, reduceCtorEq, Nat.reduceLT, Nat.reduceLeDiff, Nat.reduceAdd, Nat.reduceMul, Nat.reduceBEq, Nat.reduceEqDiff, Int.reduceToNat, Int.reduceLT, Int.reduceLE, Nat.reduceSub, pl53, ft1, ft3, ft22, ft24, a2, a6, a9, a10]
    refine ⟨by omega, .inl ⟨n - (i + 1), by omega, i + 1, .osl xi 1 0 xl xc xe, rfl, by omega, by simp at hl'; omega, fun j hj => ?_, by rw [natL_succ]; exact hb', ?_, rfl, by omega⟩⟩
    · rw [hf' j (.inl hj), List.getElem?_append_left (by have := hF j hj; omega), hg j hj]
    · rw [hf' N (.inr rfl), List.getElem?_append_left (by omega), gN]
  · have r1 : ¬ (i : Int) < (n : Int) := by omega
    simp (maxSteps := 4000000) only [↓packA, ↓reduceIte, packB, pureOp, quietOp, loadOp, quietB, fr0, cellsK, implies_true, ite_true, ite_false, eq_self, ne_eq, reduceCtorEq, Nat.reduceLT, Nat.reduceLeDiff, Nat.reduceAdd, Nat.reduceMul, Nat.reduceBEq, Nat.reduceEqDiff, Int.reduceToNat, Int.reduceLT, Int.reduceLE, Nat.reduceSub, pl53, ft1, ft3, ft22, ft24, a2, a6, a9, a10, r1]
    obtain rfl : i = n := by omega
    exact hq x g (by omega) hg (hb.weak fun i hi => .inl hi)
set_option maxRecDepth 100000 in
theorem rnat_c (n : Nat) (hn : n ≤ 128) : ACalls Tryz.prog 91 [.int .i64 n] [] fun v h => OFz h v (ints (natL n)) := by
  refine (wp91 rfl rfl ?_)
  simp (maxSteps := 4000000) only [↓packA, ↓reduceIte, packB, pureOp, quietOp, loadOp, quietB, fr0, cellsK, implies_true, ite_true, ite_false, eq_self, ne_eq, reduceCtorEq, Nat.reduceLT, Nat.reduceLeDiff, Nat.reduceAdd, Nat.reduceMul, Nat.reduceBEq, Nat.reduceEqDiff, Int.reduceToNat, Int.reduceLT, Int.reduceLE, Nat.reduceSub, pl91, ft1, ft3, ft22]
  refine LoopK.intro (fun m a g => ∃ (i : Nat) (x : AV), m = n - i ∧ i ≤ n ∧ BC (fun _ => False) g x (natL i) ∧ a 0 = .int .i64 n ∧ a 3 = x ∧ a 4 = .int .i64 i) n ⟨0, .nils, rfl, Nat.zero_le _, .inl ⟨rfl, rfl⟩, ?_⟩ ?_
  · simp (maxSteps := 4000000) only [↓packA, ↓reduceIte, packB, pureOp, quietOp, loadOp, quietB, fr0, cellsK, implies_true, ite_true, ite_false, eq_self, ne_eq, reduceCtorEq, Nat.reduceLT, Nat.reduceLeDiff, Nat.reduceAdd, Nat.reduceMul, Nat.reduceBEq, Nat.reduceEqDiff, Int.reduceToNat, Int.reduceLT, Int.reduceLE, Nat.reduceSub, pl91, ft1, ft3, ft22, Int.natCast_zero]
  rintro m a g ⟨i, x, rfl, hi, hb, a0, a3, a4⟩
  obtain ⟨M, hM⟩ : ∃ M, g.length = M := ⟨_, rfl⟩
  have rM : ∀ o, (g ++ [o])[M]? = some o := fun o => by rw [List.getElem?_append_right (by omega)]; simp [hM]
  by_cases r : i < n
  · have r1 : (i : Int) < (n : Int) := by omega
    simp (maxSteps := 4000000) only [↓packA, ↓reduceIte, packB, pureOp, quietOp, loadOp, quietB, fr0, cellsK, implies_true, ite_true, ite_false, eq_self, ne_eq, reduceCtorEq, Nat.reduceLT, Nat.reduceLeDiff, Nat.reduceAdd, Nat.reduceMul, Nat.reduceBEq, Nat.reduceEqDiff, Int.reduceToNat, Int.reduceLT, Int.reduceLE, Nat.reduceSub, pl91, ft1, ft3, ft22, a0, a3, a4, r1, hM, rM]
    refine push_bc (F := fun _ => False) (fun i hi => hi.elim) hb.app (by rw [natL_len]; omega) fun x' G hcx hl' hf' hb' => ?_
    obtain ⟨xi, xl, xc, xe, rfl⟩ := hcx
    simp (maxSteps := 4000000) only [↓packA, ↓reduceIte, packB, pureOp, quietOp, loadOp, quietB, fr0, cellsK, implies_true, ite_true, ite_false, eq_self, ne_eq, reduceCtorEq, Nat.reduceLT, Nat.reduceLeDiff, Nat.reduceAdd, Nat.reduceMul, Nat.reduceBEq, Nat.reduceEqDiff, Int.reduceToNat, Int.reduceLT, Int.reduceLE, Nat.reduceSub, pl91, ft1, ft3, ft22, a0, a3, a4]
    exact ⟨by omega, .inl ⟨n - (i + 1), by omega, i + 1, .osl xi 1 0 xl xc xe, rfl, by omega, by rw [natL_succ]; exact hb', rfl, by omega⟩⟩
  · have r1 : ¬ (i : Int) < (n : Int) := by omega
    simp (maxSteps := 4000000) only [↓packA, ↓reduceIte, packB, pureOp, quietOp, loadOp, quietB, fr0, cellsK, implies_true, ite_true, ite_false, eq_self, ne_eq, reduceCtorEq, Nat.reduceLT, Nat.reduceLeDiff, Nat.reduceAdd, Nat.reduceMul, Nat.reduceBEq, Nat.reduceEqDiff, Int.reduceToNat, Int.reduceLT, Int.reduceLE, Nat.reduceSub, pl91, ft1, ft3, ft22, a0, a3, a4, r1]
    obtain rfl : i = n := by omega
    exact bc_ofz hb
end Go.Proofs.YtgdlkhgfehclpaaGreat
end
