/- order.peel: the buckets are filled. No condition. -/
import Derived.Test.YtgdlkhgfehclpaaPOv
namespace Go.Proofs.Ytgdlkhgfehclpaa
open Go Go.AL
set_option linter.unusedVariables false
set_option linter.unusedSimpArgs false
/-- Which numbers below m lie in which bucket. -/
def BR (m : Nat) (L : List Int) (B : Nat → List Int) : Prop := ∀ d : Nat, (B d).Nodup ∧ ∀ w : Int, w ∈ B d ↔ 0 ≤ w ∧ w < m ∧ L.getD w.toNat default = d
theorem BR.len {m : Nat} {L : List Int} {B : Nat → List Int} (h : BR m L B) (d : Nat) : (B d).length ≤ m := by
  have := pigeon m ((B d).map Int.toNat) (by
    refine List.pairwise_map.2 ?_
    refine List.Pairwise.imp_of_mem ?_ (h d).1
    intro a b ha hb hab
    have h1 := ((h d).2 a).1 ha
    have h2 := ((h d).2 b).1 hb
    omega) (fun x hx => by
    obtain ⟨y, hy, e⟩ := List.mem_map.1 hx
    have := ((h d).2 y).1 hy
    omega)
  simpa using this
theorem mem_rid {v w : Int} {l : List Int} : w ∈ rid v l ↔ w ∈ l ∧ w ≠ v := by simp [rid]
theorem nodup_rid {v : Int} {l : List Int} (h : l.Nodup) : (rid v l).Nodup := h.filter _
theorem nodup_row {w : Int} {l : List Int} (h : rowOK w l) : l.Nodup := by
  refine List.pairwise_iff_getElem.2 fun i j hi hj hij => ?_
  have := row_lt h hij hj
  rw [gd hi, gd hj] at this
  omega
theorem row_len {n : Nat} {st cs : List Int} (h : mayP n n st cs) {v : Nat} (hv : v < n) : (rowOf st cs v).length ≤ n := by
  obtain ⟨h1, h2, h3, h4, h5, h6, h7⟩ := may_row h (show v < (n : Int).toNat by omega)
  have := pigeon n ((rowOf st cs v).map Int.toNat) (by
    refine List.pairwise_map.2 ?_
    refine List.Pairwise.imp_of_mem ?_ (nodup_row h4)
    intro a b ha hb hab
    obtain ⟨i, hi, e1⟩ := mem_getD.1 ha
    obtain ⟨j, hj, e2⟩ := mem_getD.1 hb
    have := row_nonneg h4 hi
    have := row_nonneg h4 hj
    omega) (fun x hx => by
    obtain ⟨y, hy, e⟩ := List.mem_map.1 hx
    obtain ⟨i, hi, e1⟩ := mem_getD.1 hy
    have := row_nonneg h4 hi
    have := (h4 i hi).2
    omega)
  simpa using this
theorem BR.push {k : Nat} {L : List Int} {B : Nat → List Int} (h : BR k L B) (hk : k < L.length) (y : Nat) : BR (k + 1) (L.set k (y : Nat)) (updB B y (B y ++ [((k : Nat) : Int)])) := fun d => by
  have key : ∀ w : Int, 0 ≤ w → (L.set k (y : Int)).getD w.toNat default = if w = k then (y : Int) else L.getD w.toNat default := fun w hw => by
    by_cases e : w = k
    · subst e
      rw [if_pos rfl, Int.toNat_natCast]
      simp [List.getD_eq_getElem?_getD, List.getElem?_set_self hk]
    · rw [if_neg e, getD_set_ne (by omega)]
  by_cases hd : d = y
  · subst hd
    rw [updB_same]
    refine ⟨List.nodup_append.2 ⟨(h d).1, by simp, fun a ha b hb => ?_⟩, fun w => ?_⟩
    · have := ((h d).2 a).1 ha
      simp at hb
      omega
    · rw [List.mem_append, (h d).2 w]
      simp only [List.mem_singleton]
      constructor
      · rintro (h1 | rfl)
        · exact ⟨h1.1, by omega, by rw [key w h1.1, if_neg (by omega)]; exact h1.2.2⟩
        · exact ⟨by omega, by omega, by rw [key _ (by omega), if_pos rfl]⟩
      · rintro ⟨h1, h2, h3⟩
        rw [key w h1] at h3
        by_cases e : w = k
        · exact .inr e
        · rw [if_neg e] at h3; exact .inl ⟨h1, by omega, h3⟩
  · rw [updB_ne hd]
    refine ⟨(h d).1, fun w => ?_⟩
    rw [(h d).2 w]
    constructor
    · rintro ⟨h1, h2, h3⟩
      exact ⟨h1, by omega, by rw [key w h1, if_neg (by omega)]; exact h3⟩
    · rintro ⟨h1, h2, h3⟩
      rw [key w h1] at h3
      by_cases e : w = k
      · rw [if_pos e] at h3; omega
      · rw [if_neg e] at h3; exact ⟨h1, by omega, h3⟩
def F3 : Nat → Prop := fun i => i < 3
def Fx (o7 o8 : Nat) : Nat → Prop := fun i => i < 3 ∨ i = o7 ∨ i = o8
/-- How many neighbours are left: of those that are gone -1. -/
def LR (st cs : List Int) (n : Nat) (S : List Bool) (L : List Int) : Prop := ∀ v : Nat, v < n → L.getD v default = if S.getD v false = true then ((cnt st cs S v : Nat) : Int) else -1
def PJ (st cs : List Int) (n m : Nat) (a : Fr) (h : Heap) : Prop := ∃ (k o7 o8 at' : Nat) (L : List Int) (cells : List (List AV)) (B : Nat → List Int), m = n - k ∧ k ≤ n ∧ L.length = n ∧ LR st cs n (pst st cs n k).S L ∧ BR n L B ∧ PS (Fx o7 o8) n h cells B ∧ h[0]? = some (patO n n st cs) ∧ h[1]? = some (.arr 1 (List.map intE L) true) ∧ h[2]? = some (.arr 1 cells true) ∧
  h[o7]? = some (.arr 1 (List.map intE (pst st cs n k).O) true) ∧ h[o8]? = some (.arr 1 (List.map intE (pst st cs n k).C) true) ∧ 3 ≤ o7 ∧ 3 ≤ o8 ∧ o7 ≠ o8 ∧ at' ≤ n ∧ (∀ d, d < at' → B d = []) ∧
  a 1 = .op 0 4 0 0 ∧ a 4 = .osl 1 1 0 n n true ∧ a 5 = .osl 2 1 0 (n + 1) (n + 1) true ∧ a 7 = .osl o7 1 0 n n true ∧ a 8 = .osl o8 1 0 n n true ∧ a 9 = .int .i64 at' ∧ a 10 = .int .i64 (pst st cs n k).c ∧ a 11 = .int .i64 ((n : Int) - 1 - k)
theorem lr_start {st cs : List Int} {n : Nat} (hm : mayP n n st cs) {L : List Int} (hd : ∀ v : Nat, v < n → L.getD v default = (rowOf st cs v).length) : LR st cs n (pst st cs n 0).S L := fun v hv => by
  obtain ⟨h1, h2, h3, h4, h5, h6, h7⟩ := may_row hm (show v < (n : Int).toNat by omega)
  have hS : ∀ w : Nat, w < n → (List.replicate n true).getD w false = true := fun w hw => by rw [List.getD_eq_getElem?_getD, List.getElem?_replicate, if_pos hw]; rfl
  rw [hd v hv]
  change _ = if (List.replicate n true).getD v false = true then ((cnt st cs (List.replicate n true) v : Nat) : Int) else -1
  rw [if_pos (hS v hv), cnt, List.filter_eq_self.2]
  intro w hw
  obtain ⟨i, hi, e⟩ := mem_getD.1 hw
  have := row_nonneg h4 hi
  have := (h4 i hi).2
  exact hS _ (by omega)
theorem bucket_some {st cs : List Int} {n k : Nat} (hm : mayP n n st cs) (hk : k < n) {L : List Int} {B : Nat → List Int} (hL : LR st cs n (pst st cs n k).S L) (hB : BR n L B) : ∃ d, d ≤ n ∧ B d ≠ [] := by
  obtain ⟨v, hv, hs⟩ := trues_pos (S := (pst st cs n k).S) (by rw [pst_trues st cs n k (by omega)]; omega)
  rw [(pst_len st cs n k).1] at hv
  have h1 := hL v hv
  rw [if_pos hs] at h1
  refine ⟨cnt st cs (pst st cs n k).S v, Nat.le_trans cnt_le (row_len hm hv), fun e => ?_⟩
  have h2 := ((hB (cnt st cs (pst st cs n k).S v)).2 (v : Int)).2 ⟨by omega, by omega, by rw [Int.toNat_natCast]; exact h1⟩
  rw [e] at h2
  cases h2
theorem best_of {st cs : List Int} {n q : Nat} {S : List Bool} {L : List Int} {B : Nat → List Int} (hn : L.length = n) (hL : LR st cs n S L) (hB : BR n L B) (hlow : ∀ d, d < q → B d = []) (h0 : 0 < (B q).length) :
    ∃ v : Nat, maxK (B q) ((B q).length - 1) = v ∧ v < n ∧ L.getD v default = q ∧ cnt st cs S v = q ∧ Best st cs S n v := by
  obtain ⟨j, hj, e⟩ := maxK_mem (l := B q) ((B q).length - 1)
  have hm := ((hB q).2 (maxK (B q) ((B q).length - 1))).1 (by rw [e]; exact mem_getD.2 ⟨j, by omega, rfl⟩)
  obtain ⟨v, hv⟩ := Int.eq_ofNat_of_zero_le hm.1
  have hm2 := hm.2.2
  rw [hv] at hm
  rw [hv, Int.toNat_natCast] at hm2
  have hvn : v < n := by omega
  have key : ∀ u, u < n → S.getD u false = true → L.getD u default = cnt st cs S u ∧ (u : Int) ∈ B (cnt st cs S u) := fun u hu hs => by
    have h1 := hL u hu
    rw [if_pos hs] at h1
    exact ⟨h1, ((hB _).2 _).2 ⟨by omega, by omega, by rw [Int.toNat_natCast]; exact h1⟩⟩
  have hs : S.getD v false = true := by
    have h1 := hL v hvn
    cases hsv : S.getD v false with
    | true => rfl
    | false => rw [hsv, if_neg (by simp)] at h1; omega
  have hc : cnt st cs S v = q := by
    have := (key v hvn hs).1
    omega
  refine ⟨v, hv, hvn, hm2, hc, hvn, hs, fun u hu hus => ⟨?_, fun e => ?_⟩⟩
  · have h1 := (key u hu hus).2
    rcases Nat.lt_or_ge (cnt st cs S u) q with h2 | h2
    · rw [hlow _ h2] at h1; cases h1
    · omega
  · have h1 := (key u hu hus).2
    rw [e, hc] at h1
    obtain ⟨i, hi, e2⟩ := mem_getD.1 h1
    have h3 := maxK_le (l := B q) ((B q).length - 1) i (by omega)
    omega
theorem BR.drop {n : Nat} {L : List Int} {B : Nat → List Int} (h : BR n L B) {v q : Nat} (hv : v < L.length) (hq : L.getD v default = q) : BR n (L.set v (-1)) (updB B q (rid v (B q))) := fun d => by
  have key : ∀ w : Int, 0 ≤ w → (L.set v (-1)).getD w.toNat default = if w = v then -1 else L.getD w.toNat default := fun w hw => by
    by_cases e : w = v
    · subst e
      rw [if_pos rfl, Int.toNat_natCast]
      simp [List.getD_eq_getElem?_getD, List.getElem?_set_self hv]
    · rw [if_neg e, getD_set_ne (by omega)]
  by_cases hd : d = q
  · subst hd
    rw [updB_same]
    refine ⟨nodup_rid (h d).1, fun w => ?_⟩
    rw [mem_rid, (h d).2 w]
    constructor
    · rintro ⟨⟨h1, h2, h3⟩, h4⟩
      exact ⟨h1, h2, by rw [key w h1, if_neg h4]; exact h3⟩
    · rintro ⟨h1, h2, h3⟩
      rw [key w h1] at h3
      by_cases e : w = v
      · rw [if_pos e] at h3; omega
      · rw [if_neg e] at h3; exact ⟨⟨h1, h2, h3⟩, e⟩
  · rw [updB_ne hd]
    refine ⟨(h d).1, fun w => ?_⟩
    rw [(h d).2 w]
    constructor
    · rintro ⟨h1, h2, h3⟩
      refine ⟨h1, h2, ?_⟩
      rw [key w h1]
      by_cases e : w = v
      · subst e; rw [Int.toNat_natCast] at h3; omega
      · rw [if_neg e]; exact h3
    · rintro ⟨h1, h2, h3⟩
      rw [key w h1] at h3
      by_cases e : w = v
      · rw [if_pos e] at h3; omega
      · rw [if_neg e] at h3; exact ⟨h1, h2, h3⟩
theorem BR.move {n : Nat} {L : List Int} {B : Nat → List Int} (h : BR n L B) {w e : Nat} (hw : w < L.length) (hwn : w < n) (he : L.getD w default = e) (h1 : 1 ≤ e) : BR n (L.set w ((e : Int) - 1)) (updB (updB B e (rid w (B e))) (e - 1) (updB B e (rid w (B e)) (e - 1) ++ [(w : Int)])) := fun d => by
  have key : ∀ u : Int, 0 ≤ u → (L.set w ((e : Int) - 1)).getD u.toNat default = if u = w then (e : Int) - 1 else L.getD u.toNat default := fun u hu => by
    by_cases c : u = w
    · subst c
      rw [if_pos rfl, Int.toNat_natCast]
      simp [List.getD_eq_getElem?_getD, List.getElem?_set_self hw]
    · rw [if_neg c, getD_set_ne (by omega)]
  by_cases hd : d = e - 1
  · subst hd
    rw [updB_same, updB_ne (by omega)]
    refine ⟨List.nodup_append.2 ⟨(h _).1, by simp, fun a ha b hb => ?_⟩, fun u => ?_⟩
    · have h2 := ((h _).2 a).1 ha
      simp at hb
      subst hb
      intro c
      subst c
      rw [Int.toNat_natCast] at h2
      omega
    · rw [List.mem_append, (h _).2 u]
      simp only [List.mem_singleton]
      constructor
      · rintro (h2 | rfl)
        · refine ⟨h2.1, h2.2.1, ?_⟩
          rw [key u h2.1]
          by_cases c : u = w
          · rw [if_pos c]; omega
          · rw [if_neg c]; exact h2.2.2
        · exact ⟨by omega, by omega, by rw [key _ (by omega), if_pos rfl]; omega⟩
      · rintro ⟨h2, h3, h4⟩
        rw [key u h2] at h4
        by_cases c : u = w
        · exact .inr c
        · rw [if_neg c] at h4; exact .inl ⟨h2, h3, h4⟩
  · rw [updB_ne hd]
    by_cases hde : d = e
    · subst hde
      rw [updB_same]
      refine ⟨nodup_rid (h d).1, fun u => ?_⟩
      rw [mem_rid, (h d).2 u]
      constructor
      · rintro ⟨⟨h2, h3, h4⟩, h5⟩
        exact ⟨h2, h3, by rw [key u h2, if_neg h5]; exact h4⟩
      · rintro ⟨h2, h3, h4⟩
        rw [key u h2] at h4
        by_cases c : u = w
        · rw [if_pos c] at h4; omega
        · rw [if_neg c] at h4; exact ⟨⟨h2, h3, h4⟩, c⟩
    · rw [updB_ne hde]
      refine ⟨(h d).1, fun u => ?_⟩
      rw [(h d).2 u]
      constructor
      · rintro ⟨h2, h3, h4⟩
        refine ⟨h2, h3, ?_⟩
        rw [key u h2]
        by_cases c : u = w
        · subst c; rw [Int.toNat_natCast] at h4; omega
        · rw [if_neg c]; exact h4
      · rintro ⟨h2, h3, h4⟩
        rw [key u h2] at h4
        by_cases c : u = w
        · rw [if_pos c] at h4; omega
        · rw [if_neg c] at h4; exact ⟨h2, h3, h4⟩
theorem sym_row {st cs : List Int} {n : Nat} (hg : graphP n n st cs) {u v : Nat} (hu : u < n) (h : (v : Int) ∈ rowOf st cs u) : (u : Int) ∈ rowOf st cs v := by
  obtain ⟨j, hj, e⟩ := mem_getD.1 h
  have := hg.1.2.2 u (by omega) j hj
  rw [e, Int.toNat_natCast] at this
  exact this
theorem cnt_drop {st cs : List Int} {n : Nat} (hg : graphP n n st cs) {S : List Bool} {u v : Nat} (hv : v < n) (hu : u < n) (hs : S.getD v false = true) (hl : v < S.length) : cnt st cs (S.set v false) u + (if (u : Int) ∈ rowOf st cs v then 1 else 0) = cnt st cs S u := by
  have hm := may_row hg.1.1 (show u < (n : Int).toNat by omega)
  have key := filter_drop (p := fun w : Int => S.getD w.toNat false && decide (0 ≤ w)) (p' := fun w : Int => (S.set v false).getD w.toNat false && decide (0 ≤ w)) (v := (v : Int)) (by simp [List.getD_eq_getElem?_getD, List.getElem?_set_self hl]) (fun w hw => by
    by_cases h0 : 0 ≤ w
    · simp only [h0, decide_true, Bool.and_true]
      simp only [List.getD_eq_getElem?_getD, List.getElem?_set_ne (show v ≠ w.toNat by omega)]
    · simp [h0]) (nodup_row hm.2.2.2.1)
  have e : ∀ T : List Bool, ((rowOf st cs u).filter (fun w : Int => T.getD w.toNat false && decide (0 ≤ w))).length = cnt st cs T u := fun T => by
    unfold cnt
    congr 1
    refine List.filter_congr fun w hw => ?_
    obtain ⟨i, hi, e⟩ := mem_getD.1 hw
    have := row_nonneg hm.2.2.2.1 hi
    rw [show decide (0 ≤ w) = true by simp; omega, Bool.and_true]
  rw [e, e] at key
  have h2 : ((v : Int) ∈ rowOf st cs u ∧ (S.getD ((v : Int)).toNat false && decide (0 ≤ (v : Int))) = true) ↔ (u : Int) ∈ rowOf st cs v := by
    rw [Int.toNat_natCast, hs]
    constructor
    · rintro ⟨h, _⟩; exact sym_row hg hu h
    · intro h; exact ⟨sym_row hg hv h, by simp⟩
  simp only [h2] at key
  exact key
theorem both {G C : Fr → Heap → Prop} {a1 a2 : Fr} {h1 h2 : Heap} (c1 : C a1 h1) (c2 : C a2 h2) (h : ∀ a h, C a h → G a h) : G a1 h1 ∧ G a2 h2 := ⟨h _ _ c1, h _ _ c2⟩
theorem pair3 {A1 B1 C1 A2 B2 C2 L1 L2 : Prop} (a1 : A1) (b1 : B1) (c1 : C1) (a2 : A2) (b2 : B2) (c2 : C2) (l : L1 ∧ L2) : (A1 ∧ B1 ∧ C1 ∧ L1) ∧ (A2 ∧ B2 ∧ C2 ∧ L2) := ⟨⟨a1, b1, c1, l.1⟩, ⟨a2, b2, c2, l.2⟩⟩
set_option maxHeartbeats 40000000 in
set_option maxRecDepth 100000 in
theorem peel_c (n : Nat) (hn : n ≤ 128) (st cs : List Int) (hb : st.length < 1000000000) (hb2 : cs.length < 1000000000) (hg : graphP n n st cs) : ACalls Try.prog 50 [pat n n st cs] [] fun v h => ∃ o7 o8, v = .tup [.osl o7 1 0 n n true, .osl o8 1 0 n n true] ∧ h[o7]? = some (.arr 1 (List.map intE (pst st cs n n).O) true) ∧ h[o8]? = some (.arr 1 (List.map intE (pst st cs n n).C) true) := by
  have hm : mayP n n st cs := hg.1.1
  refine (wp50 rfl rfl ?_)
  simp (maxSteps := 4000000) +contextual only [↓packA0, ↓packA1, ↓packA2, ↓reduceIte, packB0, packB1, packB2, packB3, packB4, pureOp, quietOp, loadOp, quietB, fr0, cellsK, Option.getD_some, Option.getD_none, implies_true, ite_true, ite_false, eq_self, ne_eq, reduceCtorEq, Nat.reduceLT, Nat.reduceLeDiff, Nat.reduceAdd, Nat.reduceMul, Nat.reduceBEq, Nat.reduceEqDiff, Int.reduceToNat, Int.reduceLT, Int.reduceLE, Nat.reduceSub, pl50, tfun_1, telem_1, tsize_3, tbytes_3, tagg_3, zcells_3, telem_3, tint_3, tnotIface_3, tsize_23, tbytes_23, tagg_23, zcells_23, telem_23, tnotIface_23, tsize_29, tbytes_29, tagg_29, zcells_29, telem_29, tnotIface_29, tsize_45, tbytes_45, tagg_45, zcells_45, telem_45, tnotIface_45, foff_45_0, foff_45_1, foff_45_2, foff_45_3, fplaces_45, tfun_135, telem_135, ints]
  refine ⟨by omega, by omega, by omega, ?_⟩
  refine LoopK.intro (fun m a h => ∃ (k : Nat) (L : List Int) (cells : List (List AV)) (B : Nat → List Int), m = n - k ∧ k ≤ n ∧ L.length = n ∧ (∀ v : Nat, v < k → L.getD v default = (rowOf st cs v).length) ∧ BR k L B ∧ PS F3 n h cells B ∧ h[0]? = some (patO n n st cs) ∧ h[1]? = some (.arr 1 (List.map intE L) true) ∧ h[2]? = some (.arr 1 cells true) ∧
    a 1 = .op 0 4 0 0 ∧ a 4 = .osl 1 1 0 n n true ∧ a 5 = .osl 2 1 0 (n + 1) (n + 1) true ∧ a 23 = .int .i64 n ∧ a 24 = .int .i64 k) n ⟨0, List.replicate n 0, List.replicate (n + 1) [.nils], fun _ => [], ?_⟩ ?_
  · simp (maxSteps := 4000000) only [↓packA0, ↓packA1, ↓packA2, ↓reduceIte, packB0, packB1, packB2, packB3, packB4, pureOp, quietOp, loadOp, quietB, fr0, cellsK, Option.getD_some, Option.getD_none, implies_true, ite_true, ite_false, eq_self, ne_eq, reduceCtorEq, Nat.reduceLT, Nat.reduceLeDiff, Nat.reduceAdd, Nat.reduceMul, Nat.reduceBEq, Nat.reduceEqDiff, Int.reduceToNat, Int.reduceLT, Int.reduceLE, Nat.reduceSub, pl50, tfun_1, telem_1, tsize_3, tbytes_3, tagg_3, zcells_3, telem_3, tint_3, tnotIface_3, tsize_23, tbytes_23, tagg_23, zcells_23, telem_23, tnotIface_23, tsize_29, tbytes_29, tagg_29, zcells_29, telem_29, tnotIface_29, tsize_45, tbytes_45, tagg_45, zcells_45, telem_45, tnotIface_45, foff_45_0, foff_45_1, foff_45_2, foff_45_3, fplaces_45, tfun_135, telem_135, ints, patO, Int.natCast_zero]
    refine ⟨fun v hv => by omega, fun d => ⟨by simp, fun w => ⟨fun h => by simp at h, fun h => by omega⟩⟩, ⟨fun i hi => by simp [F3] at hi ⊢; omega, by simp, fun d hd => ⟨.nils, by rw [List.getElem?_replicate, if_pos (by omega)], .inl ⟨rfl, rfl⟩⟩, fun d d' x y i _ hx _ hi => ?_⟩⟩
    have hx2 := List.mem_of_getElem? hx
    rw [List.mem_replicate] at hx2
    have : x = .nils := by simpa using hx2.2
    rw [this] at hi
    cases hi
  rintro m a h ⟨k, L, cells, B, rfl, hk, hL, hdeg, hB, hP, g0, g1, g2, a1, a4, a5, a23, a24⟩
  have hlen1 : 2 < h.length := (List.getElem?_eq_some_iff.1 g2).1
  unfold patO ints at g0
  have q10 : ∀ t, (h ++ t)[0]? = h[0]? := fun t => List.getElem?_append_left (by omega)
  have q20 : ∀ t u, (h ++ t ++ u)[0]? = h[0]? := fun t u => by rw [List.append_assoc]; exact q10 _
  have q21 : ∀ t u, (h ++ t ++ u)[1]? = h[1]? := fun t u => by rw [List.append_assoc]; exact List.getElem?_append_left (by omega)
  have q22 : ∀ t u, (h ++ t ++ u)[2]? = h[2]? := fun t u => by rw [List.append_assoc]; exact List.getElem?_append_left (by omega)
  simp (maxSteps := 4000000) +contextual only [↓packA0, ↓packA1, ↓packA2, ↓reduceIte, packB0, packB1, packB2, packB3, packB4, pureOp, quietOp, loadOp, quietB, fr0, cellsK, Option.getD_some, Option.getD_none, implies_true, ite_true, ite_false, eq_self, ne_eq, reduceCtorEq, Nat.reduceLT, Nat.reduceLeDiff, Nat.reduceAdd, Nat.reduceMul, Nat.reduceBEq, Nat.reduceEqDiff, Int.reduceToNat, Int.reduceLT, Int.reduceLE, Nat.reduceSub, pl50, tfun_1, telem_1, tsize_3, tbytes_3, tagg_3, zcells_3, telem_3, tint_3, tnotIface_3, tsize_23, tbytes_23, tagg_23, zcells_23, telem_23, tnotIface_23, tsize_29, tbytes_29, tagg_29, zcells_29, telem_29, tnotIface_29, tsize_45, tbytes_45, tagg_45, zcells_45, telem_45, tnotIface_45, foff_45_0, foff_45_1, foff_45_2, foff_45_3, fplaces_45, tfun_135, telem_135, a1, a4, a5, a23, a24, g0, g1, g2, q10, q20]
  refine ⟨fun h2 => ?_, fun h2 => ?_⟩
  · have hdl : (rowOf st cs k).length ≤ n := row_len hm (by omega)
    obtain ⟨x, hx, hbx⟩ := hP.bc (rowOf st cs k).length hdl
    have s11 : ∀ o, (h.set 1 o)[1]? = some o := fun o => List.getElem?_set_self (by omega)
    have s12 : ∀ o, (h.set 1 o)[2]? = some (.arr 1 cells true) := fun o => by rw [List.getElem?_set_ne (by omega)]; exact g2
    have gsk : ∀ y, (L.set k y).getD k default = y := fun y => by simp [List.getD_eq_getElem?_getD, List.getElem?_set_self (show k < L.length by omega)]
    refine acalls_pure (degree_c n n st cs hb hb2 hm k (by omega) (by omega)) rfl ?_
    have s21 : ∀ o t, (h.set 1 o ++ t)[1]? = some o := fun o t => by rw [List.getElem?_append_left (by simp; omega)]; exact s11 o
    have s22 : ∀ o t, (h.set 1 o ++ t)[2]? = some (.arr 1 cells true) := fun o t => by rw [List.getElem?_append_left (by simp; omega)]; exact s12 o
    have s2l : ∀ o t, (h.set 1 o ++ [t])[h.length]? = some t := fun o t => by rw [List.getElem?_append_right (by simp)]; simp
    simp (maxSteps := 4000000) +contextual only [↓packA0, ↓packA1, ↓packA2, ↓reduceIte, packB0, packB1, packB2, packB3, packB4, pureOp, quietOp, loadOp, quietB, fr0, cellsK, Option.getD_some, Option.getD_none, implies_true, ite_true, ite_false, eq_self, ne_eq, reduceCtorEq, Nat.reduceLT, Nat.reduceLeDiff, Nat.reduceAdd, Nat.reduceMul, Nat.reduceBEq, Nat.reduceEqDiff, Int.reduceToNat, Int.reduceLT, Int.reduceLE, Nat.reduceSub, pl50, tfun_1, telem_1, tsize_3, tbytes_3, tagg_3, zcells_3, telem_3, tint_3, tnotIface_3, tsize_23, tbytes_23, tagg_23, zcells_23, telem_23, tnotIface_23, tsize_29, tbytes_29, tagg_29, zcells_29, telem_29, tnotIface_29, tsize_45, tbytes_45, tagg_45, zcells_45, telem_45, tnotIface_45, foff_45_0, foff_45_1, foff_45_2, foff_45_3, fplaces_45, tfun_135, telem_135, a1, a4, a5, a23, a24, g0, g1, g2, s11, s12, s21, s22, s2l, gsk, hx]
    refine ⟨by omega, by omega, by omega, by omega, by omega, by omega, by omega, by omega, ?_⟩
    have hBl := hB.len (rowOf st cs k).length
    refine push_ps ((hP.set (show F3 1 by simp [F3]) _).app _) hdl hx (by omega) fun x' h' hcx hl' hf' hP' => ?_
    obtain ⟨xi, xl, xc, xe, rfl⟩ := hcx
    have f1 := (hf' 1 (by simp [F3])).trans (s21 _ _)
    have f2 := (hf' 2 (by simp [F3])).trans (s22 _ _)
    have f0 := hf' 0 (by simp [F3])
    simp only [List.length_append, List.length_set, List.length_singleton] at hl'
    rw [List.getElem?_append_left (by simp; omega), List.getElem?_set_ne (by omega), g0] at f0
    simp (maxSteps := 4000000) +contextual only [↓packA0, ↓packA1, ↓packA2, ↓reduceIte, packB0, packB1, packB2, packB3, packB4, pureOp, quietOp, loadOp, quietB, fr0, cellsK, Option.getD_some, Option.getD_none, implies_true, ite_true, ite_false, eq_self, ne_eq, reduceCtorEq, Nat.reduceLT, Nat.reduceLeDiff, Nat.reduceAdd, Nat.reduceMul, Nat.reduceBEq, Nat.reduceEqDiff, Int.reduceToNat, Int.reduceLT, Int.reduceLE, Nat.reduceSub, pl50, tfun_1, telem_1, tsize_3, tbytes_3, tagg_3, zcells_3, telem_3, tint_3, tnotIface_3, tsize_23, tbytes_23, tagg_23, zcells_23, telem_23, tnotIface_23, tsize_29, tbytes_29, tagg_29, zcells_29, telem_29, tnotIface_29, tsize_45, tbytes_45, tagg_45, zcells_45, telem_45, tnotIface_45, foff_45_0, foff_45_1, foff_45_2, foff_45_3, fplaces_45, tfun_135, telem_135, a1, a4, a5, a23, a24, f0, f1, f2, gsk, hx]
    refine ⟨by omega, by omega, by omega, .inl ⟨n - (k + 1), by omega, k + 1, L.set k (rowOf st cs k).length, _, _, rfl, by omega, by simp [hL], fun v hv => ?_, hB.push (by omega) _, hP'.set (by simp [F3]) _, ?_, ?_, ?_, by omega⟩⟩
    · rcases Nat.lt_or_ge v k with h3 | h3
      · rw [getD_set_ne (by omega)]; exact hdeg v h3
      · rw [show v = k by omega]; exact gsk _
    · rw [List.getElem?_set_ne (by omega)]; exact f0
    · rw [List.getElem?_set_ne (by omega)]; exact f1
    · exact List.getElem?_set_self (by omega)
  · have hkn : n = k := by omega
    subst hkn
    refine pair3 (by omega) (by omega) (by omega) (by omega) (by omega) (by omega) ?_
    refine both (G := fun a h => LoopK _ _ a h) (C := PJ st cs n n) ?_ ?_ fun a h hj => LoopK.intro (PJ st cs n) n hj ?_
    · refine ⟨0, h.length, h.length + 1, 0, L, cells, B, by omega, by omega, hL, lr_start hm hdeg, hB, hP.more (fun i hi => by rw [List.append_assoc]; exact List.getElem?_append_left hi) (by simp) (fun i hi => ?_), (q20 _ _).trans g0, (q21 _ _).trans g1, (q22 _ _).trans g2, ?_, ?_, by omega, by omega, by omega, by omega, fun d hd => by omega, ?_⟩
      · rcases hi with h3 | h3 | h3
        · exact .inl h3
        · right; simp; omega
        · right; simp; omega
      · rw [List.append_assoc, List.getElem?_append_right (Nat.le_refl _)]; simp [pst]
      · rw [List.append_assoc, List.getElem?_append_right (by omega)]; simp [pst]
      · simp (maxSteps := 4000000) only [↓packA0, ↓packA1, ↓packA2, ↓reduceIte, packB0, packB1, packB2, packB3, packB4, pureOp, quietOp, loadOp, quietB, fr0, cellsK, Option.getD_some, Option.getD_none, implies_true, ite_true, ite_false, eq_self, ne_eq, reduceCtorEq, Nat.reduceLT, Nat.reduceLeDiff, Nat.reduceAdd, Nat.reduceMul, Nat.reduceBEq, Nat.reduceEqDiff, Int.reduceToNat, Int.reduceLT, Int.reduceLE, Nat.reduceSub, pl50, tfun_1, telem_1, tsize_3, tbytes_3, tagg_3, zcells_3, telem_3, tint_3, tnotIface_3, tsize_23, tbytes_23, tagg_23, zcells_23, telem_23, tnotIface_23, tsize_29, tbytes_29, tagg_29, zcells_29, telem_29, tnotIface_29, tsize_45, tbytes_45, tagg_45, zcells_45, telem_45, tnotIface_45, foff_45_0, foff_45_1, foff_45_2, foff_45_3, fplaces_45, tfun_135, telem_135, a1, a4, a5, pst, Int.natCast_zero, Int.sub_zero]
    · refine ⟨0, h.length + 1, h.length, 0, L, cells, B, by omega, by omega, hL, lr_start hm hdeg, hB, hP.more (fun i hi => by rw [List.append_assoc]; exact List.getElem?_append_left hi) (by simp) (fun i hi => ?_), (q20 _ _).trans g0, (q21 _ _).trans g1, (q22 _ _).trans g2, ?_, ?_, by omega, by omega, by omega, by omega, fun d hd => by omega, ?_⟩
      · rcases hi with h3 | h3 | h3
        · exact .inl h3
        · right; simp; omega
        · right; simp; omega
      · rw [List.append_assoc, List.getElem?_append_right (by omega)]; simp [pst]
      · rw [List.append_assoc, List.getElem?_append_right (Nat.le_refl _)]; simp [pst]
      · simp (maxSteps := 4000000) only [↓packA0, ↓packA1, ↓packA2, ↓reduceIte, packB0, packB1, packB2, packB3, packB4, pureOp, quietOp, loadOp, quietB, fr0, cellsK, Option.getD_some, Option.getD_none, implies_true, ite_true, ite_false, eq_self, ne_eq, reduceCtorEq, Nat.reduceLT, Nat.reduceLeDiff, Nat.reduceAdd, Nat.reduceMul, Nat.reduceBEq, Nat.reduceEqDiff, Int.reduceToNat, Int.reduceLT, Int.reduceLE, Nat.reduceSub, pl50, tfun_1, telem_1, tsize_3, tbytes_3, tagg_3, zcells_3, telem_3, tint_3, tnotIface_3, tsize_23, tbytes_23, tagg_23, zcells_23, telem_23, tnotIface_23, tsize_29, tbytes_29, tagg_29, zcells_29, telem_29, tnotIface_29, tsize_45, tbytes_45, tagg_45, zcells_45, telem_45, tnotIface_45, foff_45_0, foff_45_1, foff_45_2, foff_45_3, fplaces_45, tfun_135, telem_135, a1, a4, a5, pst, Int.natCast_zero, Int.sub_zero]
    · clear hP hB hdeg g0 g1 g2 q10 q20 q21 q22 a1 a4 a5 a23 a24 hlen1
      clear hj hL h2
      rintro m a h ⟨k, o7, o8, at', L, cells, B, rfl, hk, hL, hLR, hB, hP, g0, g1, g2, g7, g8, ho7, ho8, ho, hat, hlow, a1, a4, a5, a7, a8, a9, a10, a11⟩
      simp (maxSteps := 4000000) +contextual only [↓packA0, ↓packA1, ↓packA2, ↓reduceIte, packB0, packB1, packB2, packB3, packB4, pureOp, quietOp, loadOp, quietB, fr0, cellsK, Option.getD_some, Option.getD_none, implies_true, ite_true, ite_false, eq_self, ne_eq, reduceCtorEq, Nat.reduceLT, Nat.reduceLeDiff, Nat.reduceAdd, Nat.reduceMul, Nat.reduceBEq, Nat.reduceEqDiff, Int.reduceToNat, Int.reduceLT, Int.reduceLE, Nat.reduceSub, pl50, tfun_1, telem_1, tsize_3, tbytes_3, tagg_3, zcells_3, telem_3, tint_3, tnotIface_3, tsize_23, tbytes_23, tagg_23, zcells_23, telem_23, tnotIface_23, tsize_29, tbytes_29, tagg_29, zcells_29, telem_29, tnotIface_29, tsize_45, tbytes_45, tagg_45, zcells_45, telem_45, tnotIface_45, foff_45_0, foff_45_1, foff_45_2, foff_45_3, fplaces_45, tfun_135, telem_135, a1, a4, a5, a7, a8, a9, a10, a11]
      refine ⟨fun h2 => ?_, fun h2 => ?_⟩
      · have hkn : k < n := by omega
        obtain ⟨d0, hd0, hd1⟩ := bucket_some hm hkn hLR hB
        refine LoopK.intro (fun m a h1 => ∃ q : Nat, m = n + 1 - q ∧ q ≤ n ∧ (∀ d, d < q → B d = []) ∧ a 1 = .op 0 4 0 0 ∧ a 4 = .osl 1 1 0 n n true ∧ a 5 = .osl 2 1 0 (n + 1) (n + 1) true ∧ a 7 = .osl o7 1 0 n n true ∧ a 8 = .osl o8 1 0 n n true ∧ a 9 = .int .i64 q ∧ a 10 = .int .i64 (pst st cs n k).c ∧ a 11 = .int .i64 ((n : Int) - 1 - k) ∧ h1 = h) (n + 1 - at') ⟨at', rfl, hat, hlow, ?_⟩ ?_
        · simp (maxSteps := 4000000) only [↓packA0, ↓packA1, ↓packA2, ↓reduceIte, packB0, packB1, packB2, packB3, packB4, pureOp, quietOp, loadOp, quietB, fr0, cellsK, Option.getD_some, Option.getD_none, implies_true, ite_true, ite_false, eq_self, ne_eq, reduceCtorEq, Nat.reduceLT, Nat.reduceLeDiff, Nat.reduceAdd, Nat.reduceMul, Nat.reduceBEq, Nat.reduceEqDiff, Int.reduceToNat, Int.reduceLT, Int.reduceLE, Nat.reduceSub, pl50, tfun_1, telem_1, tsize_3, tbytes_3, tagg_3, zcells_3, telem_3, tint_3, tnotIface_3, tsize_23, tbytes_23, tagg_23, zcells_23, telem_23, tnotIface_23, tsize_29, tbytes_29, tagg_29, zcells_29, telem_29, tnotIface_29, tsize_45, tbytes_45, tagg_45, zcells_45, telem_45, tnotIface_45, foff_45_0, foff_45_1, foff_45_2, foff_45_3, fplaces_45, tfun_135, telem_135, a1, a4, a5, a7, a8, a9, a10, a11]
        clear a1 a4 a5 a7 a8 a9 a10 a11
        rintro m a h1 ⟨q, rfl, hq, hlow, a1, a4, a5, a7, a8, a9, a10, a11, rfl⟩
        obtain ⟨x, hx, hbx⟩ := hP.bc q hq
        unfold patO ints at g0
        simp (maxSteps := 4000000) +contextual only [↓packA0, ↓packA1, ↓packA2, ↓reduceIte, packB0, packB1, packB2, packB3, packB4, pureOp, quietOp, loadOp, quietB, fr0, cellsK, Option.getD_some, Option.getD_none, implies_true, ite_true, ite_false, eq_self, ne_eq, reduceCtorEq, Nat.reduceLT, Nat.reduceLeDiff, Nat.reduceAdd, Nat.reduceMul, Nat.reduceBEq, Nat.reduceEqDiff, Int.reduceToNat, Int.reduceLT, Int.reduceLE, Nat.reduceSub, pl50, tfun_1, telem_1, tsize_3, tbytes_3, tagg_3, zcells_3, telem_3, tint_3, tnotIface_3, tsize_23, tbytes_23, tagg_23, zcells_23, telem_23, tnotIface_23, tsize_29, tbytes_29, tagg_29, zcells_29, telem_29, tnotIface_29, tsize_45, tbytes_45, tagg_45, zcells_45, telem_45, tnotIface_45, foff_45_0, foff_45_1, foff_45_2, foff_45_3, fplaces_45, tfun_135, telem_135, a1, a4, a5, a7, a8, a9, a10, a11, g0, g1, g2, g7, g8, hx, lenK_bc hbx]
        refine ⟨by omega, fun h3 => ?_, fun h3 => ⟨by omega, max_bc hbx (by omega) ?_⟩⟩
        · have : q < d0 := by
            rcases Nat.lt_or_ge q d0 with h4 | h4
            · exact h4
            · exfalso
              rcases Nat.lt_or_ge d0 q with h5 | h5
              · exact hd1 (hlow d0 h5)
              · rw [show d0 = q by omega] at hd1
                exact hd1 (List.eq_nil_of_length_eq_zero (by omega))
          refine ⟨by omega, .inl ⟨n + 1 - (q + 1), by omega, q + 1, rfl, by omega, fun d hd => ?_, by omega⟩⟩
          rcases Nat.lt_or_ge d q with h4 | h4
          · exact hlow d h4
          · rw [show d = q by omega]; exact List.eq_nil_of_length_eq_zero (by omega)
        obtain ⟨v, hV, hvn, hLv, hcv, hbest⟩ := best_of hL hLR hB hlow (show 0 < (B q).length by omega)
        rw [hV]
        obtain ⟨N, hN⟩ : ∃ N, h1.length = N := ⟨_, rfl⟩
        have l7 : o7 < N := by rw [← hN]; exact (List.getElem?_eq_some_iff.1 g7).1
        have l8 : o8 < N := by rw [← hN]; exact (List.getElem?_eq_some_iff.1 g8).1
        have ra : ∀ t i, i < N → (h1 ++ t)[i]? = h1[i]? := fun t i hi => List.getElem?_append_left (by omega)
        have ra0 : ∀ t, (h1 ++ t)[0]? = h1[0]? := fun t => ra t 0 (by omega)
        have ra1 : ∀ t, (h1 ++ t)[1]? = h1[1]? := fun t => ra t 1 (by omega)
        have ra2 : ∀ t, (h1 ++ t)[2]? = h1[2]? := fun t => ra t 2 (by omega)
        have rN : ∀ o, (h1 ++ [o])[N]? = some o := fun o => by rw [List.getElem?_append_right (by omega)]; simp [hN]
        have sN : ∀ o o', (h1 ++ [o]).set N o' = h1 ++ [o'] := fun o o' => by rw [List.set_append_right _ _ (by omega)]; simp [hN]
        simp (maxSteps := 4000000) +contextual only [↓packA0, ↓packA1, ↓packA2, ↓reduceIte, packB0, packB1, packB2, packB3, packB4, pureOp, quietOp, loadOp, quietB, fr0, cellsK, Option.getD_some, Option.getD_none, implies_true, ite_true, ite_false, eq_self, ne_eq, reduceCtorEq, Nat.reduceLT, Nat.reduceLeDiff, Nat.reduceAdd, Nat.reduceMul, Nat.reduceBEq, Nat.reduceEqDiff, Int.reduceToNat, Int.reduceLT, Int.reduceLE, Nat.reduceSub, pl50, tfun_1, telem_1, tsize_3, tbytes_3, tagg_3, zcells_3, telem_3, tint_3, tnotIface_3, tsize_23, tbytes_23, tagg_23, zcells_23, telem_23, tnotIface_23, tsize_29, tbytes_29, tagg_29, zcells_29, telem_29, tnotIface_29, tsize_45, tbytes_45, tagg_45, zcells_45, telem_45, tnotIface_45, foff_45_0, foff_45_1, foff_45_2, foff_45_3, fplaces_45, tfun_135, telem_135, a1, a4, a5, a7, a8, a9, a10, a11, g0, g1, g2, g7, g8, hx, hN, ra0, ra1, ra2, rN, sN]
        have hP1 : PS (fun i => Fx o7 o8 i ∨ i = N) n (h1 ++ [Ob.arr 1 [[AV.int .i64 (v : Int)]] true]) cells B := hP.more (fun i hi => List.getElem?_append_left hi) (by simp) (fun i hi => hi.imp_right fun e => by subst e; simp; omega)
        refine ⟨by omega, del_ps clo79 hP1 hq hx (by omega) (.inr rfl) (rN _) fun x' h' hcx hl' hf' hP' => ?_⟩
        obtain ⟨xi, xl, xc, xe, rfl⟩ := hcx
        have f0 := ((hf' 0 (.inl (.inl (by omega)))).trans (ra0 _)).trans g0
        have f1 := ((hf' 1 (.inl (.inl (by omega)))).trans (ra1 _)).trans g1
        have f2 := ((hf' 2 (.inl (.inl (by omega)))).trans (ra2 _)).trans g2
        have f7 := ((hf' o7 (.inl (.inr (.inl rfl)))).trans (ra _ _ l7)).trans g7
        have f8 := ((hf' o8 (.inl (.inr (.inr rfl)))).trans (ra _ _ l8)).trans g8
        have fN := (hf' N (.inr rfl)).trans (rN _)
        have hlN : h'.length = N + 1 := by rw [hl']; simp [hN]
        clear hl' hf' g0 g1 g2 g7 g8 ra0 ra1 ra2 ra rN sN hN hP1 hP hbx
        have n7 : 2 ≠ o7 := by omega
        have n8 : 2 ≠ o8 := by omega
        have nN : 2 ≠ N := by omega
        have n7N : o7 ≠ N := by omega
        have n8N : o8 ≠ N := by omega
        have n1N : 1 ≠ N := by omega
        have n71 : o7 ≠ 1 := by omega
        have n81 : o8 ≠ 1 := by omega
        have n70 : o7 ≠ 0 := by omega
        have n80 : o8 ≠ 0 := by omega
        simp (maxSteps := 4000000) +contextual only [↓packA0, ↓packA1, ↓packA2, ↓reduceIte, packB0, packB1, packB2, packB3, packB4, pureOp, quietOp, loadOp, quietB, fr0, cellsK, Option.getD_some, Option.getD_none, implies_true, ite_true, ite_false, eq_self, ne_eq, reduceCtorEq, Nat.reduceLT, Nat.reduceLeDiff, Nat.reduceAdd, Nat.reduceMul, Nat.reduceBEq, Nat.reduceEqDiff, Int.reduceToNat, Int.reduceLT, Int.reduceLE, Nat.reduceSub, pl50, tfun_1, telem_1, tsize_3, tbytes_3, tagg_3, zcells_3, telem_3, tint_3, tnotIface_3, tsize_23, tbytes_23, tagg_23, zcells_23, telem_23, tnotIface_23, tsize_29, tbytes_29, tagg_29, zcells_29, telem_29, tnotIface_29, tsize_45, tbytes_45, tagg_45, zcells_45, telem_45, tnotIface_45, foff_45_0, foff_45_1, foff_45_2, foff_45_3, fplaces_45, tfun_135, telem_135, a1, a4, a5, a7, a8, a9, a10, a11, hx, f0, f1, f2, f7, f8, fN, minK_2, imax_eq, List.getElem?_set_ne, n7, n8, nN, n7N, n8N, n1N, n71, n81, n70, n80, ho]
        have hps := pst_step hbest
        obtain ⟨H, hH⟩ : ∃ H, H = (((h'.set 2 (Ob.arr 1 (cells.set q [AV.osl xi 1 0 xl xc xe]) true)).set o7 (Ob.arr 1 (List.map intE ((pst st cs n k).O.set ((n : Int) - 1 - k).toNat v)) true)).set o8 (Ob.arr 1 (List.map intE ((pst st cs n k).C.set v (max ((pst st cs n k).c : Int) q))) true)).set 1 (Ob.arr 1 (List.map intE (L.set v (-1))) true) := ⟨_, rfl⟩
        rw [← hH]
        have hPH : PS (fun i => Fx o7 o8 i ∨ i = N) n H (cells.set q [AV.osl xi 1 0 xl xc xe]) (updB B q (rid v (B q))) := by
          rw [hH]
          exact (((hP'.set (.inl (.inl (by omega))) _).set (.inl (.inr (.inl rfl))) _).set (.inl (.inr (.inr rfl))) _).set (.inl (.inl (by omega))) _
        have e0 : H[0]? = some (patO n n st cs) := by
          rw [hH, List.getElem?_set_ne (by omega), List.getElem?_set_ne (by omega), List.getElem?_set_ne (by omega), List.getElem?_set_ne (by omega)]
          exact f0
        have e1 : H[1]? = some (.arr 1 (List.map intE (L.set v (-1))) true) := by
          rw [hH]; exact List.getElem?_set_self (by simp; omega)
        have e2 : H[2]? = some (.arr 1 (cells.set q [AV.osl xi 1 0 xl xc xe]) true) := by
          rw [hH, List.getElem?_set_ne (by omega), List.getElem?_set_ne (by omega), List.getElem?_set_ne (by omega)]
          exact List.getElem?_set_self (by omega)
        have e7 : H[o7]? = some (.arr 1 (List.map intE (pst st cs n (k + 1)).O) true) := by
          rw [hH, List.getElem?_set_ne (by omega), List.getElem?_set_ne (by omega), List.getElem?_set_self (by simp; omega), hps, show ((n : Int) - 1 - k).toNat = n - 1 - k by omega]
        have e8 : H[o8]? = some (.arr 1 (List.map intE (pst st cs n (k + 1)).C) true) := by
          rw [hH, List.getElem?_set_ne (by omega), List.getElem?_set_self (by simp; omega), hps, hcv]
          rw [show ((max (pst st cs n k).c q : Nat) : Int) = max ((pst st cs n k).c : Int) q by omega]
        have eN : H[N]? = some (.arr 1 [[.int .i64 (v : Int)]] true) := by
          rw [hH, List.getElem?_set_ne (by omega), List.getElem?_set_ne (by omega), List.getElem?_set_ne (by omega), List.getElem?_set_ne (by omega)]
          exact fN
        have hB1 : BR n (L.set v (-1)) (updB B q (rid v (B q))) := hB.drop (by omega) hLv
        have hL1 : ∀ u : Nat, u < n → (L.set v (-1)).getD u default = if (pst st cs n (k + 1)).S.getD u false = true then ((cnt st cs (pst st cs n k).S u : Nat) : Int) - (if (u : Int) ∈ (rowOf st cs v).take 0 then 1 else 0) else -1 := fun u hu => by
          rw [hps]
          by_cases e : u = v
          · subst e
            rw [if_neg (by simp [List.getD_eq_getElem?_getD, List.getElem?_set_self (show u < (pst st cs n k).S.length by rw [(pst_len st cs n k).1]; exact hu)])]
            simp [List.getD_eq_getElem?_getD, List.getElem?_set_self (show u < L.length by omega)]
          · rw [getD_set_ne (Ne.symm e), hLR u hu]
            have : ((pst st cs n k).S.set v false).getD u false = (pst st cs n k).S.getD u false := by simp only [List.getD_eq_getElem?_getD, List.getElem?_set_ne (Ne.symm e)]
            simp only [this]
            simp
        have hcx : ((max (pst st cs n k).c q : Nat) : Int) = (pst st cs n (k + 1)).c := by rw [hps, hcv]
        refine ⟨by omega, by omega, by rw [(pst_len st cs n k).2.1]; omega, by omega, by rw [(pst_len st cs n k).2.2]; omega, by omega, by omega, ?_⟩
        refine acalls_pure (neigh_c n n st cs hb hb2 hm v (by omega) (by omega)) rfl ?_
        have hLl : (L.set v (-1)).length = n := by simp [hL]
        clear f0 f1 f2 f7 f8 fN hP' hH hV
        generalize (L.set v (-1)) = L1 at *
        generalize (cells.set q [AV.osl xi 1 0 xl xc xe]) = cells1 at *
        generalize (updB B q (rid v (B q))) = B1 at *
        simp (maxSteps := 4000000) +contextual only [↓packA0, ↓packA1, ↓packA2, ↓reduceIte, packB0, packB1, packB2, packB3, packB4, pureOp, quietOp, loadOp, quietB, fr0, cellsK, Option.getD_some, Option.getD_none, implies_true, ite_true, ite_false, eq_self, ne_eq, reduceCtorEq, Nat.reduceLT, Nat.reduceLeDiff, Nat.reduceAdd, Nat.reduceMul, Nat.reduceBEq, Nat.reduceEqDiff, Int.reduceToNat, Int.reduceLT, Int.reduceLE, Nat.reduceSub, pl50, tfun_1, telem_1, tsize_3, tbytes_3, tagg_3, zcells_3, telem_3, tint_3, tnotIface_3, tsize_23, tbytes_23, tagg_23, zcells_23, telem_23, tnotIface_23, tsize_29, tbytes_29, tagg_29, zcells_29, telem_29, tnotIface_29, tsize_45, tbytes_45, tagg_45, zcells_45, telem_45, tnotIface_45, foff_45_0, foff_45_1, foff_45_2, foff_45_3, fplaces_45, tfun_135, telem_135, a1, a4, a5, a7, a8, a9, a10, a11, minK_2, imax_eq, ints]
        have q4 := (may_row hm (show v < (n : Int).toNat by omega)).2.2.2.1
        have hndr := nodup_row q4
        refine LoopK.intro (fun m a h2 => ∃ (j : Nat) (L2 : List Int) (cells2 : List (List AV)) (B2 : Nat → List Int), m = (rowOf st cs v).length - j ∧ j ≤ (rowOf st cs v).length ∧ L2.length = n ∧ (∀ u : Nat, u < n → L2.getD u default = if (pst st cs n (k + 1)).S.getD u false = true then ((cnt st cs (pst st cs n k).S u : Nat) : Int) - (if (u : Int) ∈ (rowOf st cs v).take j then 1 else 0) else -1) ∧ BR n L2 B2 ∧ PS (fun i => Fx o7 o8 i ∨ i = N) n h2 cells2 B2 ∧
          h2[0]? = some (patO n n st cs) ∧ h2[1]? = some (.arr 1 (List.map intE L2) true) ∧ h2[2]? = some (.arr 1 cells2 true) ∧ h2[o7]? = some (.arr 1 (List.map intE (pst st cs n (k + 1)).O) true) ∧ h2[o8]? = some (.arr 1 (List.map intE (pst st cs n (k + 1)).C) true) ∧ h2[N]? = some (.arr 1 [[.int .i64 (v : Int)]] true) ∧
          a 1 = .op 0 4 0 0 ∧ a 4 = .osl 1 1 0 n n true ∧ a 5 = .osl 2 1 0 (n + 1) (n + 1) true ∧ a 7 = .osl o7 1 0 n n true ∧ a 8 = .osl o8 1 0 n n true ∧ a 9 = .int .i64 q ∧ a 10 = .int .i64 (pst st cs n (k + 1)).c ∧ a 11 = .int .i64 ((n : Int) - 1 - k) ∧ a 12 = .op N 1 0 0 ∧ a 101 = ints (rowOf st cs v) ∧ a 102 = .int .i64 (rowOf st cs v).length ∧ a 103 = .int .i64 j)
          (rowOf st cs v).length ⟨0, L1, cells1, B1, ?_⟩ ?_
        · simp (maxSteps := 4000000) only [↓packA0, ↓packA1, ↓packA2, ↓reduceIte, packB0, packB1, packB2, packB3, packB4, pureOp, quietOp, loadOp, quietB, fr0, cellsK, Option.getD_some, Option.getD_none, implies_true, ite_true, ite_false, eq_self, ne_eq, reduceCtorEq, Nat.reduceLT, Nat.reduceLeDiff, Nat.reduceAdd, Nat.reduceMul, Nat.reduceBEq, Nat.reduceEqDiff, Int.reduceToNat, Int.reduceLT, Int.reduceLE, Nat.reduceSub, pl50, tfun_1, telem_1, tsize_3, tbytes_3, tagg_3, zcells_3, telem_3, tint_3, tnotIface_3, tsize_23, tbytes_23, tagg_23, zcells_23, telem_23, tnotIface_23, tsize_29, tbytes_29, tagg_29, zcells_29, telem_29, tnotIface_29, tsize_45, tbytes_45, tagg_45, zcells_45, telem_45, tnotIface_45, foff_45_0, foff_45_1, foff_45_2, foff_45_3, fplaces_45, tfun_135, telem_135, a1, a4, a5, a7, a8, a9, a10, a11, Int.natCast_zero, e0, e1, e2, e7, e8, eN, ints]
          exact ⟨hLl, hL1, hB1, hPH, by rw [← hcx]; omega⟩
        clear a1 a4 a5 a7 a8 a9 a10 a11 e0 e1 e2 e7 e8 eN hPH hB1 hL1 hLl
        rintro m a H ⟨j, L2, cells2, B2, rfl, hj, hLl, hLM, hB2, hPH, e0, e1, e2, e7, e8, eN, a1, a4, a5, a7, a8, a9, a10, a11, a12, a101, a102, a103⟩
        obtain ⟨M, hM⟩ : ∃ M, H.length = M := ⟨_, rfl⟩
        have lN : N < M := by rw [← hM]; exact (List.getElem?_eq_some_iff.1 eN).1
        have ra : ∀ t i, i < M → (H ++ t)[i]? = H[i]? := fun t i hi => List.getElem?_append_left (by omega)
        have ra0 : ∀ t, (H ++ t)[0]? = H[0]? := fun t => ra t 0 (by omega)
        have ra1 : ∀ t, (H ++ t)[1]? = H[1]? := fun t => ra t 1 (by omega)
        have ra2 : ∀ t, (H ++ t)[2]? = H[2]? := fun t => ra t 2 (by omega)
        have rM : ∀ o, (H ++ [o])[M]? = some o := fun o => by rw [List.getElem?_append_right (by omega)]; simp [hM]
        have sM : ∀ o o', (H ++ [o]).set M o' = H ++ [o'] := fun o o' => by rw [List.set_append_right _ _ (by omega)]; simp [hM]
        have aw : j < (rowOf st cs v).length → ∃ w : Nat, (rowOf st cs v).getD j default = w ∧ w < n := fun h3 => by
          have h4 := row_nonneg q4 h3
          have h5 := (q4 j h3).2
          exact ⟨((rowOf st cs v).getD j default).toNat, by omega, by omega⟩
        simp (maxSteps := 4000000) +contextual only [↓packA0, ↓packA1, ↓packA2, ↓reduceIte, packB0, packB1, packB2, packB3, packB4, pureOp, quietOp, loadOp, quietB, fr0, cellsK, Option.getD_some, Option.getD_none, implies_true, ite_true, ite_false, eq_self, ne_eq, reduceCtorEq, Nat.reduceLT, Nat.reduceLeDiff, Nat.reduceAdd, Nat.reduceMul, Nat.reduceBEq, Nat.reduceEqDiff, Int.reduceToNat, Int.reduceLT, Int.reduceLE, Nat.reduceSub, pl50, tfun_1, telem_1, tsize_3, tbytes_3, tagg_3, zcells_3, telem_3, tint_3, tnotIface_3, tsize_23, tbytes_23, tagg_23, zcells_23, telem_23, tnotIface_23, tsize_29, tbytes_29, tagg_29, zcells_29, telem_29, tnotIface_29, tsize_45, tbytes_45, tagg_45, zcells_45, telem_45, tnotIface_45, foff_45_0, foff_45_1, foff_45_2, foff_45_3, fplaces_45, tfun_135, telem_135, a1, a4, a5, a7, a8, a9, a10, a11, a12, a101, a102, a103, ints, e0, e1, e2, hM, ra0, ra1, ra2, rM, sM, minK_2, imax_eq]
        refine ⟨fun h3 => ?_, fun h3 => ?_⟩
        · obtain ⟨w, hw, hwn⟩ := aw (by omega)
          have hjl : j < (rowOf st cs v).length := by omega
          have htk : ∀ u : Nat, ((u : Int) ∈ (rowOf st cs v).take (j + 1) ↔ (u : Int) ∈ (rowOf st cs v).take j ∨ u = w) := fun u => by
            rw [List.take_add_one, List.getElem?_eq_getElem hjl, ← gd hjl, hw, List.mem_append]
            simp only [Option.toList, List.mem_singleton]
            constructor
            · rintro (h5 | h5)
              · exact .inl h5
              · exact .inr (by omega)
            · rintro (h5 | h5)
              · exact .inl h5
              · exact .inr (by omega)
          have hnt : ¬ ((w : Nat) : Int) ∈ (rowOf st cs v).take j := fun hc => by
            obtain ⟨i, hi, e⟩ := mem_getD.1 hc
            simp only [List.length_take] at hi
            rw [List.getD_eq_getElem?_getD, List.getElem?_take, if_pos (by omega), ← List.getD_eq_getElem?_getD] at e
            have := row_lt q4 (show i < j by omega) hjl
            omega
          have hLw := hLM w hwn
          rw [if_neg hnt] at hLw
          simp only [hw, Int.toNat_natCast, mk_eq]
          have hrl := row_len hm hvn
          have hPM : PS (fun i => Fx o7 o8 i ∨ i = N) n (H ++ [Ob.arr 1 [[AV.int .i64 (w : Int)]] true]) cells2 B2 := hPH.app _
          refine ⟨by omega, by omega, by omega, by omega, fun h4 => ⟨by omega, .inl ⟨(rowOf st cs v).length - (j + 1), by omega, j + 1, L2, cells2, B2, rfl, by omega, hLl, fun u hu => ?_, hB2, hPM, rfl, rfl, (ra _ _ (by omega)).trans e7, (ra _ _ (by omega)).trans e8, (ra _ _ lN).trans eN, by omega⟩⟩, fun h4 => ?_⟩
          · rw [hLM u hu]
            by_cases e : u = w
            · subst e
              cases hsu : (pst st cs n (k + 1)).S.getD u false with
              | true => rw [hsu, if_pos rfl] at hLw; omega
              | false => rfl
            · have : ((u : Int) ∈ (rowOf st cs v).take (j + 1) ↔ (u : Int) ∈ (rowOf st cs v).take j) := by rw [htk]; simp [e]
              simp only [this]
          obtain ⟨e, he, he1, hen, hsw⟩ : ∃ e : Nat, L2.getD w default = e ∧ 1 ≤ e ∧ e ≤ n ∧ (pst st cs n (k + 1)).S.getD w false = true := by
            cases hsw : (pst st cs n (k + 1)).S.getD w false with
            | false => rw [hsw, if_neg (by simp)] at hLw; omega
            | true =>
              rw [hsw, if_pos rfl] at hLw
              refine ⟨cnt st cs (pst st cs n k).S w, by omega, ?_, Nat.le_trans cnt_le (row_len hm hwn), rfl⟩
              refine List.length_pos_of_mem (a := (v : Int)) (List.mem_filter.2 ⟨?_, by rw [Int.toNat_natCast]; exact hbest.2.1⟩)
              have := hg.1.2.2 v (by omega) j hjl
              rw [hw, Int.toNat_natCast] at this
              exact this
          obtain ⟨x2, hx2, hbx2⟩ := hPM.bc e hen
          have hmem : (w : Int) ∈ B2 e := ((hB2 e).2 _).2 ⟨by omega, by omega, by rw [Int.toNat_natCast]; exact he⟩
          rw [he]
          simp (maxSteps := 4000000) +contextual only [↓packA0, ↓packA1, ↓packA2, ↓reduceIte, packB0, packB1, packB2, packB3, packB4, pureOp, quietOp, loadOp, quietB, fr0, cellsK, Option.getD_some, Option.getD_none, implies_true, ite_true, ite_false, eq_self, ne_eq, reduceCtorEq, Nat.reduceLT, Nat.reduceLeDiff, Nat.reduceAdd, Nat.reduceMul, Nat.reduceBEq, Nat.reduceEqDiff, Int.reduceToNat, Int.reduceLT, Int.reduceLE, Nat.reduceSub, pl50, tfun_1, telem_1, tsize_3, tbytes_3, tagg_3, zcells_3, telem_3, tint_3, tnotIface_3, tsize_23, tbytes_23, tagg_23, zcells_23, telem_23, tnotIface_23, tsize_29, tbytes_29, tagg_29, zcells_29, telem_29, tnotIface_29, tsize_45, tbytes_45, tagg_45, zcells_45, telem_45, tnotIface_45, foff_45_0, foff_45_1, foff_45_2, foff_45_3, fplaces_45, tfun_135, telem_135, a1, a4, a5, a7, a8, a9, a10, a11, a12, a101, a102, a103, ints, e0, e1, e2, hM, ra0, ra1, ra2, rM, sM, he, hx2, hw]
          have hPM2 : PS (fun i => (Fx o7 o8 i ∨ i = N) ∨ i = M) n (H ++ [Ob.arr 1 [[AV.int .i64 (w : Int)]] true]) cells2 B2 := hPH.more (fun i hi => List.getElem?_append_left hi) (by simp) (fun i hi => hi.imp_right fun e => by subst e; simp; omega)
          refine ⟨by omega, by omega, by omega, by omega, by omega, del_ps clo80 hPM2 hen hx2 (List.length_pos_of_mem hmem) (.inr rfl) (rM _) fun x' H' hcx2 hl' hf' hP' => ?_⟩
          obtain ⟨xi2, xl2, xc2, xe2, rfl⟩ := hcx2
          have f0 := ((hf' 0 (.inl (.inl (.inl (by omega))))).trans (ra0 _)).trans e0
          have f1 := ((hf' 1 (.inl (.inl (.inl (by omega))))).trans (ra1 _)).trans e1
          have f2 := ((hf' 2 (.inl (.inl (.inl (by omega))))).trans (ra2 _)).trans e2
          have f7 := ((hf' o7 (.inl (.inl (.inr (.inl rfl))))).trans (ra _ _ (by omega))).trans e7
          have f8 := ((hf' o8 (.inl (.inl (.inr (.inr rfl))))).trans (ra _ _ (by omega))).trans e8
          have fN := ((hf' N (.inl (.inr rfl))).trans (ra _ _ lN)).trans eN
          have fM := (hf' M (.inr rfl)).trans (rM _)
          have hlM : H'.length = M + 1 := by rw [hl']; simp [hM]
          clear hl' hf' e0 e1 e2 e7 e8 eN ra0 ra1 ra2 ra rM sM hM hPM2 hPM hPH
          have hk22 : ∀ o : Ob, (H'.set 2 o)[2]? = some o := fun o => List.getElem?_set_self (by omega)
          have hk21 : ∀ o : Ob, (H'.set 2 o)[1]? = H'[1]? := fun o => List.getElem?_set_ne (by omega)
          have hk2M : ∀ o : Ob, (H'.set 2 o)[M]? = H'[M]? := fun o => List.getElem?_set_ne (by omega)
          have hk11 : ∀ o p : Ob, ((H'.set 2 o).set 1 p)[1]? = some p := fun o p => List.getElem?_set_self (by simp; omega)
          have hk12 : ∀ o p : Ob, ((H'.set 2 o).set 1 p)[2]? = some o := fun o p => by rw [List.getElem?_set_ne (by omega)]; exact hk22 o
          have hk1M : ∀ o p : Ob, ((H'.set 2 o).set 1 p)[M]? = H'[M]? := fun o p => by rw [List.getElem?_set_ne (by omega)]; exact hk2M o
          have hka : ∀ (o p : Ob) t i, i < M + 1 → ((H'.set 2 o).set 1 p ++ t)[i]? = ((H'.set 2 o).set 1 p)[i]? := fun o p t i hi => List.getElem?_append_left (by simp; omega)
          have hk31 : ∀ (o p : Ob) t, ((H'.set 2 o).set 1 p ++ t)[1]? = some p := fun o p t => (hka o p t 1 (by omega)).trans (hk11 o p)
          have hk32 : ∀ (o p : Ob) t, ((H'.set 2 o).set 1 p ++ t)[2]? = some o := fun o p t => (hka o p t 2 (by omega)).trans (hk12 o p)
          have hk3M : ∀ (o p : Ob) t, ((H'.set 2 o).set 1 p ++ t)[M]? = H'[M]? := fun o p t => (hka o p t M (by omega)).trans (hk1M o p)
          have hk3l : ∀ o p t : Ob, ((H'.set 2 o).set 1 p ++ [t])[M + 1]? = some t := fun o p t => by rw [List.getElem?_append_right (by simp; omega)]; simp [hlM]
          have hle1 : ((e : Int) - 1).toNat = e - 1 := by omega
          obtain ⟨y, hy, hby⟩ := hP'.bc (e - 1) (by omega)
          have hgw : ∀ z, (L2.set w z).getD w default = z := fun z => by simp [List.getD_eq_getElem?_getD, List.getElem?_set_self (show w < L2.length by omega)]
          simp (maxSteps := 4000000) +contextual only [↓packA0, ↓packA1, ↓packA2, ↓reduceIte, packB0, packB1, packB2, packB3, packB4, pureOp, quietOp, loadOp, quietB, fr0, cellsK, Option.getD_some, Option.getD_none, implies_true, ite_true, ite_false, eq_self, ne_eq, reduceCtorEq, Nat.reduceLT, Nat.reduceLeDiff, Nat.reduceAdd, Nat.reduceMul, Nat.reduceBEq, Nat.reduceEqDiff, Int.reduceToNat, Int.reduceLT, Int.reduceLE, Nat.reduceSub, pl50, tfun_1, telem_1, tsize_3, tbytes_3, tagg_3, zcells_3, telem_3, tint_3, tnotIface_3, tsize_23, tbytes_23, tagg_23, zcells_23, telem_23, tnotIface_23, tsize_29, tbytes_29, tagg_29, zcells_29, telem_29, tnotIface_29, tsize_45, tbytes_45, tagg_45, zcells_45, telem_45, tnotIface_45, foff_45_0, foff_45_1, foff_45_2, foff_45_3, fplaces_45, tfun_135, telem_135, a1, a4, a5, a7, a8, a9, a10, a11, a12, a101, a102, a103, ints, f0, f1, f2, fM, hlM, he, hx2, hw, hk22, hk21, hk2M, hk11, hk12, hk1M, hk31, hk32, hk3M, hk3l, hle1, hy, hgw]
          have hb3 : (updB B2 e (rid w (B2 e)) (e - 1)).length < 900000 := by
            rw [updB_ne (by omega)]
            have := hB2.len (e - 1)
            omega
          refine ⟨by omega, by omega, by omega, by omega, by omega, by omega, by omega, by omega, by omega, by omega, by omega, by omega, by omega, push_ps (((hP'.set (.inl (.inl (.inl (by omega)))) _).set (.inl (.inl (.inl (by omega)))) _).app _) (by omega) hy hb3 fun x' G hcx3 hl' hf' hP3 => ?_⟩
          obtain ⟨xi3, xl3, xc3, xe3, rfl⟩ := hcx3
          have d1 := (hf' 1 (.inl (.inl (.inl (by omega))))).trans (hk31 _ _ _)
          have d2 := (hf' 2 (.inl (.inl (.inl (by omega))))).trans (hk32 _ _ _)
          have dM := ((hf' M (.inr rfl)).trans (hk3M _ _ _)).trans fM
          have d0 := ((hf' 0 (.inl (.inl (.inl (by omega))))).trans ((hka _ _ _ 0 (by omega)).trans (by rw [List.getElem?_set_ne (by omega), List.getElem?_set_ne (by omega)]))).trans f0
          have d7 := ((hf' o7 (.inl (.inl (.inr (.inl rfl))))).trans ((hka _ _ _ o7 (by omega)).trans (by rw [List.getElem?_set_ne (by omega), List.getElem?_set_ne (by omega)]))).trans f7
          have d8 := ((hf' o8 (.inl (.inl (.inr (.inr rfl))))).trans ((hka _ _ _ o8 (by omega)).trans (by rw [List.getElem?_set_ne (by omega), List.getElem?_set_ne (by omega)]))).trans f8
          have dN := ((hf' N (.inl (.inr rfl))).trans ((hka _ _ _ N (by omega)).trans (by rw [List.getElem?_set_ne (by omega), List.getElem?_set_ne (by omega)]))).trans fN
          have hlG : M + 1 < G.length := by
            simp only [List.length_append, List.length_set, List.length_singleton] at hl'
            omega
          clear hl' hf' hk22 hk21 hk2M hk11 hk12 hk1M hka hk31 hk32 hk3M hk3l f0 f1 f2 f7 f8 fN fM hlM hP'
          have d22 : ∀ o : Ob, (G.set 2 o)[2]? = some o := fun o => List.getElem?_set_self (by omega)
          have d2o : ∀ (o : Ob) i, i ≠ 2 → (G.set 2 o)[i]? = G[i]? := fun o i hi => List.getElem?_set_ne (fun e => hi e.symm)
          have d21 : ∀ o : Ob, (G.set 2 o)[1]? = G[1]? := fun o => d2o o 1 (by omega)
          have d2M : ∀ o : Ob, (G.set 2 o)[M]? = G[M]? := fun o => d2o o M (by omega)
          simp (maxSteps := 4000000) +contextual only [↓packA0, ↓packA1, ↓packA2, ↓reduceIte, packB0, packB1, packB2, packB3, packB4, pureOp, quietOp, loadOp, quietB, fr0, cellsK, Option.getD_some, Option.getD_none, implies_true, ite_true, ite_false, eq_self, ne_eq, reduceCtorEq, Nat.reduceLT, Nat.reduceLeDiff, Nat.reduceAdd, Nat.reduceMul, Nat.reduceBEq, Nat.reduceEqDiff, Int.reduceToNat, Int.reduceLT, Int.reduceLE, Nat.reduceSub, pl50, tfun_1, telem_1, tsize_3, tbytes_3, tagg_3, zcells_3, telem_3, tint_3, tnotIface_3, tsize_23, tbytes_23, tagg_23, zcells_23, telem_23, tnotIface_23, tsize_29, tbytes_29, tagg_29, zcells_29, telem_29, tnotIface_29, tsize_45, tbytes_45, tagg_45, zcells_45, telem_45, tnotIface_45, foff_45_0, foff_45_1, foff_45_2, foff_45_3, fplaces_45, tfun_135, telem_135, a1, a4, a5, a7, a8, a9, a10, a11, a12, a101, a102, a103, ints, d1, d2, dM, he, hx2, hw, hle1, hy, hgw, d22, d21, d2M]
          refine ⟨by omega, by omega, by omega, .inl ⟨(rowOf st cs v).length - (j + 1), by omega, j + 1, L2.set w ((e : Int) - 1), _, _, rfl, by omega, by simp [hLl], fun u hu => ?_, hB2.move (by omega) hwn he he1, (hP3.mono (fun i hi => .inl hi)).set (.inl (.inl (by omega))) _, (d2o _ 0 (by omega)).trans d0, rfl, rfl, (d2o _ o7 (by omega)).trans d7, (d2o _ o8 (by omega)).trans d8, (d2o _ N (by omega)).trans dN, by omega⟩⟩
          by_cases c : u = w
          · subst c
            rw [hgw, hsw, if_pos rfl, if_pos ((htk u).2 (.inr rfl))]
            rw [hsw, if_pos rfl] at hLw
            omega
          · have : ((u : Int) ∈ (rowOf st cs v).take (j + 1) ↔ (u : Int) ∈ (rowOf st cs v).take j) := by rw [htk]; simp [c]
            rw [getD_set_ne (Ne.symm c), hLM u hu]
            simp only [this]
        · have hjl : j = (rowOf st cs v).length := by omega
          subst hjl
          rw [List.take_length] at hLM
          have hS1 : ∀ u : Nat, (pst st cs n (k + 1)).S.getD u false = true → (pst st cs n k).S.getD u false = true ∧ u ≠ v := fun u hu => by
            rw [hps] at hu
            by_cases c : u = v
            · subst c
              simp [List.getD_eq_getElem?_getD, List.getElem?_set_self (show u < (pst st cs n k).S.length by rw [(pst_len st cs n k).1]; exact hvn)] at hu
            · simp only [List.getD_eq_getElem?_getD, List.getElem?_set_ne (Ne.symm c)] at hu ⊢
              exact ⟨hu, c⟩
          have hLR1 : LR st cs n (pst st cs n (k + 1)).S L2 := fun u hu => by
            rw [hLM u hu]
            cases hsu : (pst st cs n (k + 1)).S.getD u false with
            | false => rw [if_neg (by simp), if_neg (by simp)]
            | true =>
              rw [if_pos rfl, if_pos rfl]
              have h5 := cnt_drop hg hvn hu hbest.2.1 (by rw [(pst_len st cs n k).1]; exact hvn)
              have hps2 : (pst st cs n (k + 1)).S = (pst st cs n k).S.set v false := by rw [hps]
              rw [hps2]
              by_cases c : (u : Int) ∈ rowOf st cs v
              · rw [if_pos c] at h5 ⊢; omega
              · rw [if_neg c] at h5 ⊢; omega
          refine ⟨by omega, by omega, .inl ⟨n - (k + 1), by omega, k + 1, o7, o8, q - 1, L2, cells2, B2, rfl, by omega, hLl, hLR1, hB2, hPH.mono (fun i hi => .inl hi), e0, e1, e2, e7, e8, ho7, ho8, ho, by omega, fun d hd => ?_, ?_⟩⟩
          · refine List.eq_nil_iff_forall_not_mem.2 fun u hu => ?_
            obtain ⟨h5, h6, h7⟩ := ((hB2 d).2 u).1 hu
            have h8 := hLM u.toNat (by omega)
            cases hsu : (pst st cs n (k + 1)).S.getD u.toNat false with
            | false => rw [hsu, if_neg (by simp)] at h8; omega
            | true =>
              rw [hsu, if_pos rfl] at h8
              have h9 := (hbest.2.2 u.toNat (by omega) (hS1 _ hsu).1).1
              split at h8 <;> omega
          · have hmx : max 0 ((q : Int) - 1) = ((q - 1 : Nat) : Int) := by omega
            have hix : (n : Int) - 1 - k - 1 = (n : Int) - 1 - (k + 1 : Nat) := by omega
            simp (maxSteps := 4000000) only [↓packA0, ↓packA1, ↓packA2, ↓reduceIte, packB0, packB1, packB2, packB3, packB4, pureOp, quietOp, loadOp, quietB, fr0, cellsK, Option.getD_some, Option.getD_none, implies_true, ite_true, ite_false, eq_self, ne_eq, reduceCtorEq, Nat.reduceLT, Nat.reduceLeDiff, Nat.reduceAdd, Nat.reduceMul, Nat.reduceBEq, Nat.reduceEqDiff, Int.reduceToNat, Int.reduceLT, Int.reduceLE, Nat.reduceSub, pl50, tfun_1, telem_1, tsize_3, tbytes_3, tagg_3, zcells_3, telem_3, tint_3, tnotIface_3, tsize_23, tbytes_23, tagg_23, zcells_23, telem_23, tnotIface_23, tsize_29, tbytes_29, tagg_29, zcells_29, telem_29, tnotIface_29, tsize_45, tbytes_45, tagg_45, zcells_45, telem_45, tnotIface_45, foff_45_0, foff_45_1, foff_45_2, foff_45_3, fplaces_45, tfun_135, telem_135, a1, a4, a5, a7, a8, a9, a10, a11, hmx, hix]
      · have hkn : n = k := by omega
        subst hkn
        exact ⟨o7, o8, rfl, by assumption, by assumption⟩
theorem peel_at (n : Nat) (hn : n ≤ 128) (st cs : List Int) (hb : st.length < 1000000000) (hb2 : cs.length < 1000000000) (hg : graphP n n st cs) {h : Heap} {Q : AV → Heap → Prop}
    (hq : ∀ (G : Heap) (o7 o8 : Nat), (∀ i, i < h.length → G[i]? = h[i]?) → G[o7]? = some (.arr 1 (List.map intE (pst st cs n n).O) true) → G[o8]? = some (.arr 1 (List.map intE (pst st cs n n).C) true) → Q (.tup [.osl o7 1 0 n n true, .osl o8 1 0 n n true]) G) : ACalls Try.prog 50 [pat n n st cs] h Q := by
  refine acalls_shift (peel_c n hn st cs hb hb2 hg) (by simp [pures, AV.pure, ints]) ?_
  rintro u h0 ⟨o7, o8, rfl, h7, h8⟩
  have key : ∀ i o, h0[i]? = some o → (behind h h0)[i + h.length]? = some (o.ren (sh h.length)) := fun i o hi => by
    rw [behind_eq, List.getElem?_append_right (by omega), Nat.add_sub_cancel, List.getElem?_map, hi]
    rfl
  exact hq _ _ _ (fun i hi => by rw [behind_eq]; exact List.getElem?_append_left hi) ((key _ _ h7).trans (by rw [ren_intEs])) ((key _ _ h8).trans (by rw [ren_intEs]))
end Go.Proofs.Ytgdlkhgfehclpaa
