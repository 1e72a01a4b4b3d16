/- Regions that draw their order: whatever order the machine takes, it comes to what the plan's order comes to. No condition. -/
import Derived.Test.YtgdlkhgfehclpaaALj
namespace Go.AL
set_option linter.unusedVariables false
set_option linter.unusedSimpArgs false
set_option linter.unnecessarySimpa false
section
variable {P : Program} {n : Nat}

def Sof (listed : Array Bool) (i : Nat) : Prop := listed.getD i false = true
def filt (listed : Array Bool) (hist : List (Nat × AV)) : List (Nat × AV) := hist.filter fun x => listed.getD x.1 false
def unl (N : Nat) (listed : Array Bool) : Nat := (List.range N).countP fun i => !listed.getD i false

theorem Sof_set {listed : Array Bool} {i j : Nat} (hi : i < listed.size) : Sof (listed.setIfInBounds i true) j ↔ j = i ∨ Sof listed j := by
  unfold Sof
  by_cases e : j = i
  · subst e; simp [hi]
  · rw [getD_set_ne false (Ne.symm e)]
    simp [e]

theorem mem_filt {listed : Array Bool} {hist : List (Nat × AV)} {x : Nat × AV} : x ∈ filt listed hist ↔ x ∈ hist ∧ Sof listed x.1 := by
  simp [filt, Sof]

theorem filt_nodup {listed : Array Bool} {hist : List (Nat × AV)} (h : (hist.map (·.1)).Nodup) : ((filt listed hist).map (·.1)).Nodup :=
  List.Nodup.sublist (List.Sublist.map _ List.filter_sublist) h

theorem gval_congr {ops : List Oper} {i : Nat} {o : Oper} (ho : ops[i]? = some o) {a a' : Fr} (h : ∀ t, t ∈ tmsOf ops i → a t = a' t) : gval ops o.guard a = gval ops o.guard a' := by
  cases hg : o.guard with
  | none => rfl
  | some x =>
    obtain ⟨j, want⟩ := x
    simp only [gval]
    cases hs : gslot ops j with
    | none => rfl
    | some t =>
      have := h t (by simp [tmsOf, ho, hg, hs])
      simp only [this]

theorem Inv.nodup {ops : List Oper} {plan : Plan} {free : List Nat} (hd : DrawOk ops plan free) {K : Fr → Heap → Prop} {a0 : Fr} {S : Nat → Prop} {hist : List (Nat × AV)} {rest : Plan} {h : Heap} {done : List (Nat × Fr × AV)} (hv : Inv P n ops plan K a0 S hist rest h done) :
    (hist.map (·.1)).Nodup ∧ ∀ i, i ∈ hist.map (·.1) → i ∉ rest.map (·.1) := by
  have hnd := hd.nodup
  rw [← hv.ord] at hnd
  have h2 := List.nodup_append.1 hnd
  refine ⟨(List.pairwise_reverse.1 h2.1).imp (fun hne => hne.symm), fun i hi hr => h2.2.2 i (by simpa using hi) i hr rfl⟩

theorem idxOf_lt_of_hist {α : Type} [BEq α] [LawfulBEq α] {l1 l2 : List α} {x y : α} (hx : x ∈ l1) (hy : y ∉ l1) : (l1 ++ l2).idxOf x < (l1 ++ l2).idxOf y := by
  rw [List.idxOf_append, List.idxOf_append, if_pos hx, if_neg hy]
  have := List.idxOf_lt_length_of_mem hx
  omega

theorem not_mem_of_idxOf_lt {α : Type} [BEq α] [LawfulBEq α] {l1 l2 : List α} {x y : α} (hy : y ∈ l1) (hx : x ∉ l1) (h : (l1 ++ l2).idxOf x < (l1 ++ l2).idxOf y) : False := by
  have := idxOf_lt_of_hist (l2 := l2) hy hx
  omega

/-- What stands in an operation's operands when it runs is what stood there when it was looked at. -/
theorem agree {ops : List Oper} {plan : Plan} {free : List Nat} (hd : DrawOk ops plan free) {listed : Array Bool} {a0 : Fr} {hist l1 l2 : List (Nat × AV)} {i : Nat} (hl : i < ops.length) (hs : ¬ Sof listed i) (hc : ∀ i, Sof listed i → ∀ e, e ∈ edgesOf ops i → Sof listed e)
    (he : ∀ e, e ∈ edgesOf ops i → Sof listed e) (hn : (hist.map (·.1)).Nodup) (hh : hist = l1 ++ l2) (hi2 : i ∉ l2.map (·.1)) (hord : ∃ r, (hist.map (·.1)).reverse ++ r = plan.map (·.1))
    (hpos : ∀ j, j ∈ l1.map (·.1) → j ≠ i → (plan.map (·.1)).idxOf i < (plan.map (·.1)).idxOf j) (hpos2 : ∀ j, j ∈ l2.map (·.1) → (plan.map (·.1)).idxOf j < (plan.map (·.1)).idxOf i) :
    ∀ t, t ∈ tmsOf ops i → frm ops a0 (filt listed hist) t = frm ops a0 l2 t := by
  intro t ht
  have hone : ∀ i j t, gslot ops i = some t → gslot ops j = some t → i = j := fun i j t h1 h2 => hd.one i j t (gslot_lt h1) (gslot_lt h2) h1 h2
  have hpre := pre_in hd hc
  have hn2 : (l2.map (·.1)).Nodup := by rw [hh] at hn; simp only [List.map_append] at hn; exact (List.nodup_append.1 hn).2.1
  refine frm_same hone hn2 fun j v hj => ?_
  rw [mem_filt]
  have hjl := gslot_lt hj
  by_cases hji : j = i
  · subst hji
    exact ⟨fun h => absurd h.2 hs, fun h => absurd (List.mem_map.2 ⟨_, h, rfl⟩) hi2⟩
  · rcases hd.tms i hl t ht j hjl hji hj with ⟨hp, hm⟩ | ⟨hp, hm⟩
    · have hSj := hpre i hl he j hm
      constructor
      · rintro ⟨h1, _⟩
        rw [hh] at h1
        rcases List.mem_append.1 h1 with h1 | h1
        · have := hpos j (List.mem_map.2 ⟨_, h1, rfl⟩) hji
          omega
        · exact h1
      · intro h2
        exact ⟨by rw [hh]; exact List.mem_append_right _ h2, hSj⟩
    · constructor
      · rintro ⟨h1, h2⟩
        have h3 := hpre j hjl (hc j h2) i hm
        exact absurd h3 hs
      · intro h2
        have := hpos2 j (List.mem_map.2 ⟨_, h2, rfl⟩)
        omega

theorem filt_step {ops : List Oper} {plan : Plan} {free : List Nat} (hd : DrawOk ops plan free) {listed : Array Bool} {a0 : Fr} {hist : List (Nat × AV)} {i : Nat} {v : AV} (hil : i < listed.size) (hn : (hist.map (·.1)).Nodup) (hm : (i, v) ∈ hist) :
    frm ops a0 (filt (listed.setIfInBounds i true) hist) = pt (gslot ops i) (frm ops a0 (filt listed hist)) v := by
  have hone : ∀ i j t, gslot ops i = some t → gslot ops j = some t → i = j := fun i j t h1 h2 => hd.one i j t (gslot_lt h1) (gslot_lt h2) h1 h2
  funext t
  have hrhs : pt (gslot ops i) (frm ops a0 (filt listed hist)) v = frm ops a0 ((i, v) :: (filt listed hist).filter fun x => x.1 != i) ∨ True := .inr trivial
  by_cases ht : gslot ops i = some t
  · rw [ht]
    simp only [pt, upd_same]
    rw [frm_find]
    cases hf : (filt (listed.setIfInBounds i true) hist).find? (fun x => gslot ops x.1 == some t) with
    | none =>
      have := List.find?_eq_none.1 hf (i, v) (mem_filt.2 ⟨hm, (Sof_set hil).2 (.inl rfl)⟩)
      simp [ht] at this
    | some y =>
      have hy := (mem_filt.1 (List.mem_of_find?_eq_some hf)).1
      have hq : gslot ops y.1 = some t := by simpa using List.find?_some hf
      obtain ⟨j, v'⟩ := y
      have e : j = i := hone j i t hq ht
      subst e
      exact nodup_val hn hy hm
  · have h1 : pt (gslot ops i) (frm ops a0 (filt listed hist)) v t = frm ops a0 (filt listed hist) t := by
      cases hs : gslot ops i with
      | none => rfl
      | some d => simp only [pt]; rw [upd_ne]; rintro rfl; exact ht hs
    rw [h1]
    refine frm_same hone (filt_nodup hn) fun j u hj => ?_
    rw [mem_filt, mem_filt, Sof_set hil]
    constructor
    · rintro ⟨h2, h3 | h3⟩
      · exact absurd (h3 ▸ hj) ht
      · exact ⟨h2, h3⟩
    · rintro ⟨h2, h3⟩
      exact ⟨h2, .inr h3⟩

theorem unl_lt {N : Nat} {listed : Array Bool} {i : Nat} (hi : i < N) (hil : i < listed.size) (hs : ¬ Sof listed i) : unl N (listed.setIfInBounds i true) < unl N listed := by
  refine countP_lt (i := i) (List.mem_range.2 hi) (fun x hx => ?_) ?_ ?_
  · simp only [Bool.not_eq_true', Bool.not_eq_eq_eq_not, Bool.not_true] at hx ⊢
    by_cases e : x = i
    · subst e
      simp [hil] at hx
    · rwa [getD_set_ne false (Ne.symm e)] at hx
  · simpa [Sof] using hs
  · simp [hil]

/-- Where an operation that has not been looked at runs: all ahead of it are looked at first. -/
theorem absorbs {ops : List Oper} {plan : Plan} {free : List Nat} (hd : DrawOk ops plan free) {K : Fr → Heap → Prop} {a0 : Fr} {S : Nat → Prop} {h : Heap} : ∀ (R1 : Plan) {hist : List (Nat × AV)} {rest : Plan} {done : List (Nat × Fr × AV)},
    Inv P n ops plan K a0 S hist (R1 ++ rest) h done → (∀ x, x ∈ R1 → isEff ops x.1 = false) → ∃ hist' done', Inv P n ops plan K a0 S hist' rest h done' ∧ (∃ l, hist' = l ++ hist)
  | [], hist, rest, done, hv, hp => ⟨hist, done, hv, [], rfl⟩
  | x :: R1, hist, rest, done, hv, hp => by
    obtain ⟨v, done', hv'⟩ := absorb hd (rest := R1 ++ rest) hv (hp x (by simp))
    obtain ⟨hist', done'', h1, l, h2⟩ := absorbs hd R1 hv' (fun y hy => hp y (List.mem_cons_of_mem _ hy))
    exact ⟨hist', done'', h1, l ++ [(x.1, v)], by rw [h2]; simp⟩

theorem find_done {done : List (Nat × Fr × AV)} {j : Nat} {y : Nat × Fr × AV} (h : done.find? (fun x => x.1 == j) = some y) : y.1 = j := by simpa using List.find?_some h

theorem reK_get {ops : List Oper} {done : List (Nat × Fr × AV)} {h : Heap} {j : Nat} {a : Fr} {v : AV} {o : Oper} : ∀ {rs : List Nat}, reK P ops done h rs → j ∈ rs → done.find? (fun x => x.1 == j) = some (j, a, v) → ops[j]? = some o → aop P o.op a h fun v' h' => v' = v ∧ h' = h
  | [], hr, hj, _, _ => by cases hj
  | k :: rs, hr, hj, hf, ho => by
    rcases List.mem_cons.1 hj with e | hj'
    · subst e
      have := hr.1
      simp only [hf, ho] at this
      exact this
    · exact reK_get hr.2 hj' hf ho

theorem draw_pick {ops : Array Oper} {plan : Plan} {free : List Nat} (hd : DrawOk ops.toList plan free) {K : Fr → Heap → Prop} {a0 : Fr} {Q : Exit → Act → World → Prop} {I0 : Nat → Prop} {β0 : Nat → Nat} {h0 : Heap} {w0 : World} (fuel : Nat)
    (listed : Array Bool) (c : Act) (w : World) (I : Nat → Prop) (β : Nat → Nat) (h : Heap) (hist : List (Nat × AV)) (rest : Plan) (done : List (Nat × Fr × AV)) (i : Nat) (hF : i ∉ hist.map (·.1) → ∀ e, e ∈ free → Sof listed e ∨ e = i)
    (ih : ∀ (listed1 : Array Bool) (c : Act) (w : World) (I : Nat → Prop) (β : Nat → Nat) (h1 : Heap) (hist1 : List (Nat × AV)) (rest1 : Plan) (done1 : List (Nat × Fr × AV)), listed1 = listed.setIfInBounds i true → (i ∈ hist.map (·.1) → hist1 = hist ∧ rest1 = rest ∧ done1 = done ∧ h1 = h) → (i ∉ hist.map (·.1) → ∀ e, e ∈ free → Sof listed1 e) →
      unl ops.toList.length listed1 ≤ fuel → listed1.size = ops.toList.length → (∀ i, Sof listed1 i → ∀ e, e ∈ edgesOf ops.toList i → Sof listed1 e) → Ext I0 β0 h0 w0 I β h1 w → Rel I β h1 w → FRel I β h1.length w n (frm ops.toList a0 (filt listed1 hist1)) c →
      Inv P n ops.toList plan K a0 (Sof listed1) hist1 rest1 h1 done1 → wpAny P .any ops Q fuel listed1 c w)
    (hu : unl ops.toList.length listed ≤ fuel + 1) (hsz : listed.size = ops.toList.length) (hc : ∀ i, Sof listed i → ∀ e, e ∈ edgesOf ops.toList i → Sof listed e) (he : Ext I0 β0 h0 w0 I β h w) (hr : Rel I β h w) (hf : FRel I β h.length w n (frm ops.toList a0 (filt listed hist)) c)
    (hv : Inv P n ops.toList plan K a0 (Sof listed) hist rest h done) (hi : i ∈ Region.ready .any ops listed) : wpOp P ops Q i (wpAny P .any ops Q fuel (listed.setIfInBounds i true)) c w := by
  rw [mem_ready] at hi
  obtain ⟨hil0, o, ho, hed⟩ := hi
  have hio : i < ops.size := (Array.getElem?_eq_some_iff.1 ho).1
  have hin : i < ops.toList.length := by simpa using hio
  have hil : i < listed.size := by omega
  have ho' : ops.toList[i]? = some o := by simpa using ho
  have hs : ¬ Sof listed i := by
    unfold Sof
    simp only [Array.getD_eq_getD_getElem?, Array.getElem?_eq_getElem hil, Option.getD_some] at hil0 ⊢
    simp [hil0]
  have hedge : ∀ e, e ∈ edgesOf ops.toList i → Sof listed e := by
    intro e hem
    simp only [edgesOf, ho', List.mem_map, List.mem_filter] at hem
    obtain ⟨x, ⟨h1, h2⟩, rfl⟩ := hem
    exact hed x (by simpa using h1) h2
  have hslot : gslot ops.toList i = o.dst := by simp [gslot, ho']
  have hc' : ∀ j, Sof (listed.setIfInBounds i true) j → ∀ e, e ∈ edgesOf ops.toList j → Sof (listed.setIfInBounds i true) e := by
    intro j hj e hem
    rw [Sof_set hil] at hj ⊢
    rcases hj with rfl | hj
    · exact .inr (hedge e hem)
    · exact .inr (hc j hj e hem)
  have hu' : unl ops.toList.length (listed.setIfInBounds i true) ≤ fuel := by
    have := unl_lt hin hil hs
    omega
  have hF' : i ∉ hist.map (·.1) → ∀ e, e ∈ free → Sof (listed.setIfInBounds i true) e := fun hni e hfe => by
    rw [Sof_set hil]
    exact (hF hni e hfe).elim .inr .inl
  -- one that has been looked at runs
  have looked : ∀ (hist1 : List (Nat × AV)) (rest1 : Plan) (done1 : List (Nat × Fr × AV)), (i ∈ hist.map (·.1) → hist1 = hist ∧ rest1 = rest ∧ done1 = done) → FRel I β h.length w n (frm ops.toList a0 (filt listed hist1)) c → Inv P n ops.toList plan K a0 (Sof listed) hist1 rest1 h done1 → i ∈ hist1.map (·.1) →
      wpOp P ops Q i (wpAny P .any ops Q fuel (listed.setIfInBounds i true)) c w := by
    intro hist1 rest1 done1 heq hf hv hm
    obtain ⟨⟨i', v⟩, hmem, rfl⟩ := List.mem_map.1 hm
    simp only at *
    obtain ⟨l1, l2, hh⟩ := List.append_of_mem hmem
    have hnd := (hv.nodup hd).1
    obtain ⟨o2, ho2, hinb, hval⟩ := hv.val l1 i' v l2 hh hs
    rw [ho'] at ho2
    injection ho2 with ho2
    subst ho2
    have hsplit := hnd
    rw [hh] at hsplit
    simp only [List.map_append, List.map_cons] at hsplit
    have hs3 := List.nodup_append.1 hsplit
    have hs4 := List.nodup_cons.1 hs3.2.1
    have hplan : plan.map (·.1) = (l2.map (·.1)).reverse ++ (i' :: ((l1.map (·.1)).reverse ++ rest1.map (·.1))) := by
      rw [← hv.ord, hh]; simp
    have hag := agree (a0 := a0) (l1 := l1 ++ [(i', v)]) (l2 := l2) hd hin hs hc hedge hnd (by rw [hh]; simp) hs4.1 ⟨_, hv.ord⟩
      (fun j hj hne => by
        rw [hplan]
        have hj1 : j ∈ l1.map (·.1) := by
          simp only [List.map_append, List.mem_append, List.map_cons, List.map_nil, List.mem_singleton] at hj
          exact hj.resolve_right hne
        have hj2 : j ∉ l2.map (·.1) := fun h => hs3.2.2 j hj1 j (List.mem_cons_of_mem _ h) rfl
        have h5 : i' ∉ (l2.map (·.1)).reverse := by simpa using hs4.1
        have h6 : j ∉ (l2.map (·.1)).reverse := by simpa using hj2
        rw [List.idxOf_append, List.idxOf_append, if_neg h5, if_neg h6, List.idxOf_cons_self, List.idxOf_cons, show (i' == j) = false from beq_eq_false_iff_ne.2 (Ne.symm hne)]
        simp only [cond_false]
        omega)
      (fun j hj => by
        rw [hplan]
        exact idxOf_lt_of_hist (by simpa using hj) (by simpa using hs4.1))
    have hgc := gval_congr ho' hag
    have hnext : ∀ (u : AV) (cv : Value) (I' : Nat → Prop) (β' : Nat → Nat) (h' : Heap) (w' : World), (u = v ∧ h' = h) → Ext I β h w I' β' h' w' → Rel I' β' h' w' → VRel I' β' h'.length w' u cv → wpAny P .any ops Q fuel (listed.setIfInBounds i' true) (c.put o.dst cv) w' := by
      rintro u cv I' β' h' w' ⟨rfl, rfl⟩ e1 e2 e3
      refine ih _ _ _ I' β' h' hist1 rest1 done1 rfl (fun hx => ⟨(heq hx).1, (heq hx).2.1, (heq hx).2.2, rfl⟩) hF' hu' (by simpa using hsz) hc' (he.trans e1) e2 ?_ ?_
      · rw [filt_step hd hil hnd hmem, hslot]
        exact (hf.ext hr e1).pt hinb e3
      · refine ⟨hv.ord, hv.sub, hv.run, fun j hj => ?_, fun j hj he => (Sof_set hil).2 (.inr (hv.effs j hj he)), fun a b d f g k => hv.val a b d f g (fun x => k ((Sof_set hil).2 (.inr x))), fun a b d f g k x y => hv.kept a b d f g k (fun z => x ((Sof_set hil).2 (.inr z))) y⟩
        rw [Sof_set hil] at hj
        rcases hj with rfl | hj
        · exact hm
        · exact hv.ran j hj
    rcases hval with ⟨hg, hp, hop⟩ | ⟨hg, rfl, hp⟩
    · refine wpOp_of (h := h) (r := true) ho (by rw [hgc]; exact hg) (fun u h' => u = v ∧ h' = h) (fun _ => aop_sound (aop_congr (fun t ht => (hag t ?_).symm) hop)) (fun e => by cases e) hr hf hnext
      simp only [tmsOf, ho']
      exact List.mem_append_left _ ht
    · exact wpOp_of (h := h) (r := false) ho (by rw [hgc]; exact hg) (fun u h' => u = .undef ∧ h' = h) (fun e => by cases e) (fun _ => ⟨rfl, rfl⟩) hr hf hnext
  by_cases hm : i ∈ hist.map (·.1)
  · exact looked hist rest done (fun _ => ⟨rfl, rfl, rfl⟩) hf hv hm
  · -- it has not been looked at
    have hir : i ∈ rest.map (·.1) := by
      have := hd.all i hin
      rw [← hv.ord] at this
      rcases List.mem_append.1 this with h1 | h1
      · exact absurd (by simpa using h1) hm
      · exact h1
    obtain ⟨⟨i', keep, rs⟩, hmem, rfl⟩ := List.mem_map.1 hir
    simp only at *
    obtain ⟨R1, R2, hR⟩ := List.append_of_mem hmem
    have hpre := pre_in hd hc i' hin hedge
    have hpure : ∀ x, x ∈ R1 → isEff ops.toList x.1 = false := by
      intro x hx
      cases hx2 : isEff ops.toList x.1 with
      | false => rfl
      | true =>
        exfalso
        have hxp : x.1 ∈ plan.map (·.1) := by rw [← hv.ord, hR]; simp only [List.map_append, List.mem_append]; exact .inr (.inl (List.mem_map.2 ⟨_, hx, rfl⟩))
        have hnd := hd.nodup
        have hord : plan.map (·.1) = ((hist.map (·.1)).reverse ++ R1.map (·.1)) ++ (i' :: R2.map (·.1)) := by rw [← hv.ord, hR]; simp
        rw [hord] at hnd
        have h2 := List.nodup_append.1 hnd
        have hlt : (plan.map (·.1)).idxOf x.1 < (plan.map (·.1)).idxOf i' := by
          rw [hord]
          exact idxOf_lt_of_hist (List.mem_append_right _ (List.mem_map.2 ⟨_, hx, rfl⟩)) (fun hmm => h2.2.2 i' hmm i' (by simp) rfl)
        have h3 : x.1 ∈ hist.map (·.1) := by
          rcases hd.eff x.1 (hd.lt _ hxp) hx2 i' hin hlt with h | h
          · exact hv.ran _ (hpre x.1 h)
          · rcases hF hm x.1 h with h | h
            · exact hv.ran _ h
            · rw [h] at hlt; exact absurd hlt (Nat.lt_irrefl _)
        exact (hv.nodup hd).2 _ h3 (by rw [hR]; simp only [List.map_append, List.mem_append]; exact .inl (List.mem_map.2 ⟨_, hx, rfl⟩))
    rw [hR] at hv
    obtain ⟨hist', done', hv', l, hl⟩ := absorbs hd R1 hv hpure
    have hfl : filt listed hist' = filt listed hist := by
      rw [hl]
      unfold filt
      rw [List.filter_append]
      have : l.filter (fun x => listed.getD x.1 false) = [] := by
        rw [List.filter_eq_nil_iff]
        intro y hy hsy
        have h1 := hv.ran y.1 hsy
        have h2 := (hv'.nodup hd).1
        rw [hl] at h2
        simp only [List.map_append] at h2
        exact (List.nodup_append.1 h2).2.2 y.1 (List.mem_map.2 ⟨_, hy, rfl⟩) y.1 h1 rfl
      rw [this]
      rfl
    have hf' : FRel I β h.length w n (frm ops.toList a0 (filt listed hist')) c := by rw [hfl]; exact hf
    cases heff : isEff ops.toList i' with
    | false =>
      obtain ⟨v, done'', hv''⟩ := absorb hd (rest := R2) hv' heff
      refine looked _ _ _ (fun hx => absurd hx hm) ?_ hv'' (by simp)
      have : filt listed ((i', v) :: hist') = filt listed hist' := by
        unfold filt
        rw [List.filter_cons_of_neg]
        exact hs
      rw [this]
      exact hf'
    | true =>
      -- it writes
      have hrun := hv'.run
      simp only [adr, ho'] at hrun
      obtain ⟨r, hg, hk⟩ := guardK_sound hrun
      have hpo : pureOp o.op = false := by simpa [isEff, ho'] using heff
      have hnd := hv'.nodup hd
      have hni : i' ∉ hist'.map (·.1) := fun hh => hnd.2 i' hh (by simp)
      have hag := agree (a0 := a0) (l1 := []) (l2 := hist') hd hin hs hc hedge hnd.1 rfl hni ⟨_, hv'.ord⟩ (fun j hj => by cases hj) (fun j hj => by
        rw [← hv'.ord]
        exact idxOf_lt_of_hist (by simpa using hj) (by simpa using hni))
      have hgc := gval_congr ho' hag
      have hplan : (i', keep, rs) ∈ plan := by obtain ⟨p, hp⟩ := hv'.sub; rw [← hp]; simp
      have hnext : ∀ (u : AV) (cv : Value) (I' : Nat → Prop) (β' : Nat → Nat) (h' : Heap) (w' : World), ((h' = h ∨ reK P ops.toList done' h' rs) ∧ inb n o.dst ∧ adr P n ops.toList R2 (pt o.dst (frm ops.toList a0 hist') u) h' done' K) → Ext I β h w I' β' h' w' → Rel I' β' h' w' → VRel I' β' h'.length w' u cv →
          wpAny P .any ops Q fuel (listed.setIfInBounds i' true) (c.put o.dst cv) w' := by
        rintro u cv I' β' h' w' ⟨hre, hinb, hrest⟩ e1 e2 e3
        refine ih _ _ _ I' β' h' ((i', u) :: hist') R2 done' rfl (fun hx => absurd hx hm) hF' hu' (by simpa using hsz) hc' (he.trans e1) e2 ?_ ?_
        · have h1 : filt (listed.setIfInBounds i' true) ((i', u) :: hist') = (i', u) :: filt listed hist' := by
            unfold filt
            rw [List.filter_cons_of_pos (by simp [hil])]
            congr 1
            apply List.filter_congr
            intro y hy
            rw [getD_set_ne false]
            rintro rfl
            exact hni (List.mem_map.2 ⟨_, hy, rfl⟩)
          rw [h1]
          simp only [frm, hslot]
          exact (hf'.ext hr e1).pt hinb e3
        · refine ⟨by simpa using hv'.ord, by obtain ⟨p, hp⟩ := hv'.sub; exact ⟨p ++ [(i', keep, rs)], by simpa using hp⟩, by simp only [frm, hslot]; exact hrest, fun j hj => ?_, fun j hj hje => ?_, fun l1 j v l2 hl2 hj => ?_, fun l1 j v l2 hl2 hy hj hgv => ?_⟩
          · rw [Sof_set hil] at hj
            rcases hj with rfl | hj
            · simp
            · exact List.mem_cons_of_mem _ (hv'.ran j hj)
          · rw [Sof_set hil]
            rcases List.mem_cons.1 hj with e | hj
            · exact .inl e
            · exact .inr (hv'.effs j hj hje)
          · cases l1 with
            | nil =>
              simp only [List.nil_append, List.cons.injEq, Prod.mk.injEq] at hl2
              exact absurd ((Sof_set hil).2 (.inl hl2.1.1.symm)) hj
            | cons y l1 =>
              simp only [List.cons_append, List.cons.injEq] at hl2
              have hjS : ¬ Sof listed j := fun x => hj ((Sof_set hil).2 (.inr x))
              obtain ⟨oj, hoj, hib, hval⟩ := hv'.val l1 j v l2 hl2.2 hjS
              refine ⟨oj, hoj, hib, ?_⟩
              rcases hval with ⟨hg1, hp1, hop1⟩ | hval
              · refine .inl ⟨hg1, hp1, ?_⟩
                rcases hre with rfl | hre
                · exact hop1
                · cases hq : quietOp oj.op with
                  | true => exact aop_quiet hq (fun u hu => ⟨hu.1, rfl⟩) hop1
                  | false =>
                    have hjm : j ∈ hist'.map (·.1) := by rw [hl2.2]; simp
                    have hjp : j ∈ plan.map (·.1) := by rw [← hv'.ord]; exact List.mem_append_left _ (by simpa using hjm)
                    have hjl := hd.lt j hjp
                    have hle : isEff ops.toList j = false := by simp [isEff, hoj, hp1]
                    have hld : isLoad ops.toList j = true := by simp [isLoad, hoj, hq]
                    have hlt : (plan.map (·.1)).idxOf j < (plan.map (·.1)).idxOf i' := by
                      rw [← hv'.ord]
                      exact idxOf_lt_of_hist (by simpa using hjm) (by simpa using hni)
                    obtain ⟨hjr, hky⟩ := hd.re _ hplan heff j hjl hle hld hlt (fun hin2 => hjS (hpre j hin2))
                    have hfd := hv'.kept l1 j v l2 hl2.2 hky hjS (fun o2 ho2 => by rw [hoj] at ho2; injection ho2 with ho2; subst ho2; exact hg1)
                    exact reK_get hre hjr hfd hoj
              · exact .inr hval
          · cases l1 with
            | nil =>
              simp only [List.nil_append, List.cons.injEq, Prod.mk.injEq] at hl2
              exact absurd ((Sof_set hil).2 (.inl hl2.1.1.symm)) hj
            | cons y l1 =>
              simp only [List.cons_append, List.cons.injEq] at hl2
              exact hv'.kept l1 j v l2 hl2.2 hy (fun x => hj ((Sof_set hil).2 (.inr x))) hgv
      cases r with
      | true =>
        simp only [hpo] at hk
        refine wpOp_of (h := h) (r := true) ho (by rw [hgc]; exact hg) _ (fun _ => aop_sound (aop_congr (fun t ht => (hag t ?_).symm) hk)) (fun e => by cases e) hr hf' (fun u cv I' β' h' w' hk2 => hnext u cv I' β' h' w' ⟨.inr hk2.1, putK_sound hk2.2⟩)
        simp only [tmsOf, ho']
        exact List.mem_append_left _ ht
      | false =>
        exact wpOp_of (h := h) (r := false) ho (by rw [hgc]; exact hg) (fun u h' => u = .undef ∧ h' = h) (fun e => by cases e) (fun _ => ⟨rfl, rfl⟩) hr hf' (fun u cv I' β' h' w' hk2 => hnext u cv I' β' h' w' ⟨.inl hk2.2, by obtain ⟨rfl, rfl⟩ := hk2; exact putK_sound hk⟩)

theorem draw_any {ops : Array Oper} {plan : Plan} {free : List Nat} (hd : DrawOk ops.toList plan free) {K : Fr → Heap → Prop} {a0 : Fr} {Q : Exit → Act → World → Prop} {I0 : Nat → Prop} {β0 : Nat → Nat} {h0 : Heap} {w0 : World}
    (hQ : ∀ a' h' I' β' c' w', K a' h' → Ext I0 β0 h0 w0 I' β' h' w' → Rel I' β' h' w' → FRel I' β' h'.length w' n a' c' → Q .normal c' w') :
    ∀ (fuel : Nat) (listed : Array Bool) (c : Act) (w : World) (I : Nat → Prop) (β : Nat → Nat) (h : Heap) (hist : List (Nat × AV)) (rest : Plan) (done : List (Nat × Fr × AV)), (∀ e, e ∈ free → Sof listed e) →
      unl ops.toList.length listed ≤ fuel → listed.size = ops.toList.length → (∀ i, Sof listed i → ∀ e, e ∈ edgesOf ops.toList i → Sof listed e) → Ext I0 β0 h0 w0 I β h w → Rel I β h w → FRel I β h.length w n (frm ops.toList a0 (filt listed hist)) c →
      Inv P n ops.toList plan K a0 (Sof listed) hist rest h done → wpAny P .any ops Q fuel listed c w := by
  intro fuel
  -- the end
  have fin : ∀ (listed : Array Bool) (c : Act) (w : World) (I : Nat → Prop) (β : Nat → Nat) (h : Heap) (hist : List (Nat × AV)) (rest : Plan) (done : List (Nat × Fr × AV)),
      listed.size = ops.toList.length → (∀ i, i < ops.toList.length → Sof listed i) → Ext I0 β0 h0 w0 I β h w → Rel I β h w → FRel I β h.length w n (frm ops.toList a0 (filt listed hist)) c → Inv P n ops.toList plan K a0 (Sof listed) hist rest h done → Q .normal c w := by
    intro listed c w I β h hist rest done hsz hall he hr hf hv
    have hrest : rest = [] := by
      cases rest with
      | nil => rfl
      | cons x rest =>
        have hx : x.1 ∈ plan.map (·.1) := by rw [← hv.ord]; simp
        have h1 := hv.ran x.1 (hall _ (hd.lt _ hx))
        exact absurd (by simp) ((hv.nodup hd).2 _ h1)
    subst hrest
    have hfl : filt listed hist = hist := by
      unfold filt
      rw [List.filter_eq_self]
      intro y hy
      exact hall _ (hd.lt _ (by rw [← hv.ord]; simp only [List.map_nil, List.append_nil, List.mem_reverse]; exact List.mem_map.2 ⟨_, hy, rfl⟩))
    rw [hfl] at hf
    exact hQ _ _ _ _ _ _ hv.run he hr hf
  have ready_nil : ∀ listed : Array Bool, listed.size = ops.toList.length → Region.ready .any ops listed = [] → ∀ i, i < ops.toList.length → Sof listed i := by
    intro listed hsz hr i
    induction i using Nat.strongRecOn with
    | _ i ih =>
      intro hi
      apply Classical.byContradiction
      intro hs
      have hio : i < ops.size := by simpa using hi
      have : i ∈ Region.ready .any ops listed := by
        rw [mem_ready]
        refine ⟨?_, ops[i], Array.getElem?_eq_getElem hio, fun e he hb => ?_⟩
        · have hil : i < listed.size := by omega
          unfold Sof at hs
          simp only [Array.getD_eq_getD_getElem?, Array.getElem?_eq_getElem hil, Option.getD_some] at hs ⊢
          simpa using hs
        · have hem : e.on ∈ edgesOf ops.toList i := by
            have : ops.toList[i]? = some ops[i] := by simp [hio]
            simp only [edgesOf, this]
            exact List.mem_map.2 ⟨e, List.mem_filter.2 ⟨by simpa using he, hb⟩, rfl⟩
          have := hd.back i hi _ hem
          exact ih _ this (by omega)
      rw [hr] at this
      cases this
  induction fuel with
  | zero =>
    intro listed c w I β h hist rest done hF hu hsz hc he hr hf hv
    have hall : ∀ i, i < ops.toList.length → Sof listed i := by
      intro i hi
      apply Classical.byContradiction
      intro hs
      have := unl_lt hi (by omega) hs
      omega
    refine ⟨?_, fin listed c w I β h hist rest done hsz hall he hr hf hv⟩
    cases hrd : Region.ready .any ops listed with
    | nil => rfl
    | cons i l =>
      have hi : i ∈ Region.ready .any ops listed := by rw [hrd]; simp
      rw [mem_ready] at hi
      obtain ⟨h1, o, h2, _⟩ := hi
      have hio : i < ops.size := (Array.getElem?_eq_some_iff.1 h2).1
      have := hall i (by simpa using hio)
      unfold Sof at this
      have hil : i < listed.size := by rw [hsz]; simpa using hio
      simp only [Array.getD_eq_getD_getElem?, Array.getElem?_eq_getElem hil, Option.getD_some] at this h1
      rw [this] at h1
      cases h1
  | succ fuel ih =>
    intro listed c w I β h hist rest done hF hu hsz hc he hr hf hv
    refine ⟨fun hrd => fin listed c w I β h hist rest done hsz (ready_nil listed hsz hrd) he hr hf hv, fun i hi => ?_⟩
    have hil0 : i < listed.size := by
      have := hi
      rw [mem_ready] at this
      have := (Array.getElem?_eq_some_iff.1 this.2.choose_spec.1).1
      have e : ops.size = ops.toList.length := by simp
      omega
    exact draw_pick hd fuel listed c w I β h hist rest done i (fun _ e hfe => .inl (hF e hfe)) (fun listed1 c1 w1 I1 β1 h1 hist1 rest1 done1 el _ _ => ih listed1 c1 w1 I1 β1 h1 hist1 rest1 done1 (fun e hfe => by rw [el, Sof_set hil0]; exact .inr (hF e hfe))) hu hsz hc he hr hf hv hi

/-- A REGION THAT DRAWS ITS ORDER. -/
theorem draw_sound {ops : Array Oper} {plan : Plan} {id : Nat} (hm : P.follows .mixedOrders = true) (hd : drawChk ops.toList plan = true) {K : Fr → Heap → Prop} {a : Fr} {h : Heap} {Q : Exit → Act → World → Prop} {I : Nat → Prop} {β : Nat → Nat} {w : World} {c : Act}
    (r : Rel I β h w) (f : FRel I β h.length w n a c) (hk : adr P n ops.toList plan a h [] K)
    (hQ : ∀ a' h' I' β' c' w', K a' h' → Ext I β h w I' β' h' w' → Rel I' β' h' w' → FRel I' β' h'.length w' n a' c' → Q .normal c' w') : (Code.region id ops true).wp P Q c w := by
  refine wp_region_any hm ?_
  have hd' := drawOk (free := []) hd
  have hnone : ∀ i, ¬ Sof (Array.replicate ops.size false) i := by
    intro i hi
    unfold Sof at hi
    simp only [Array.getD_eq_getD_getElem?, Array.getElem?_replicate] at hi
    split at hi <;> simp at hi
  refine draw_any (n := n) hd' (a0 := a) hQ ops.size (Array.replicate ops.size false) c { w with drawn := w.drawn + 1 } I β h [] plan [] (fun e he => by cases he) ?_ (by simp) (fun i hi => absurd hi (hnone i)) (Ext.heapEq rfl rfl rfl rfl) (r.heapEq rfl) (f.heapEq rfl) ?_
  · unfold unl
    refine Nat.le_trans List.countP_le_length (by simp)
  · exact ⟨by simp, ⟨[], rfl⟩, hk, fun i hi => absurd hi (hnone i), (fun i hi => by cases hi), (fun l1 i v l2 hl => by cases l1 <;> cases hl), (fun l1 i v l2 hl => by cases l1 <;> cases hl)⟩

end
end Go.AL
