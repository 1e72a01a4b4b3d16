/- Drawn regions with two effects in no order: whichever comes first, one of two plans serves. No condition. -/
import Derived.Test.YtgdlkhgfehclpaaALk
namespace Go.AL
set_option linter.unusedVariables false
set_option linter.unusedSimpArgs false
section
variable {P : Program} {n : Nat}
theorem putK_imp0 {a : Fr} {dst : Option Tmp} {v : AV} {K K' : Fr → Prop} (hK : ∀ a, K a → K' a) (hk : putK n dst a v K) : putK n dst a v K' := by
  cases dst with
  | none => exact hK _ hk
  | some d => exact ⟨hk.1, hK _ hk.2⟩
theorem guardK_imp0 {a : Fr} {ops : List Oper} {g : Option (Nat × Bool)} {K K' : Bool → Prop} (hK : ∀ b, K b → K' b) (hk : guardK ops g a K) : guardK ops g a K' := by
  cases g with
  | none => exact hK _ hk
  | some x =>
    obtain ⟨j, want⟩ := x
    simp only [guardK] at hk ⊢
    cases hs : gslot ops j with
    | none => simp [hs] at hk
    | some t =>
      simp only [hs] at hk ⊢
      cases ha : a t with
      | bool b => simp only [ha] at hk ⊢; exact ⟨fun e => hK _ (hk.1 e), fun e => hK _ (hk.2 e)⟩
      | tup l => cases l with
        | nil => simp only [ha] at hk ⊢; exact hK _ hk
        | cons _ _ => simp [ha] at hk
      | _ => simp [ha] at hk
theorem draw_two {ops : Array Oper} {plan1 plan2 : Plan} {A B : Nat} (hd1 : DrawOk ops.toList plan1 [A]) (hd2 : DrawOk ops.toList plan2 [B]) {K : Fr → Heap → Prop} {a0 : Fr} {Q : Exit → Act → World → Prop} {I0 : Nat → Prop} {β0 : Nat → Nat} {h0 : Heap} {w0 : World}
    (hQ : ∀ a' h' I' β' c' w', K a' h' → Ext I0 β0 h0 w0 I' β' h' w' → Rel I' β' h' w' → FRel I' β' h'.length w' n a' c' → Q .normal c' w') (hA : A < ops.toList.length) :
    ∀ (fuel : Nat) (listed : Array Bool) (c : Act) (w : World) (I : Nat → Prop) (β : Nat → Nat) (h : Heap) (hist : List (Nat × AV)) (rest1 rest2 : Plan) (done : List (Nat × Fr × AV)),
      (∀ i, i < ops.toList.length → i ∉ hist.map (·.1) → i = A ∨ i = B ∨ A ∈ (presOf ops.toList).getD i [] ∨ B ∈ (presOf ops.toList).getD i []) → A ∉ hist.map (·.1) → B ∉ hist.map (·.1) →
      unl ops.toList.length listed ≤ fuel → listed.size = ops.toList.length → (∀ i, Sof listed i → ∀ e, e ∈ edgesOf ops.toList i → Sof listed e) → Ext I0 β0 h0 w0 I β h w → Rel I β h w → FRel I β h.length w n (frm ops.toList a0 (filt listed hist)) c →
      Inv P n ops.toList plan1 K a0 (Sof listed) hist rest1 h done → Inv P n ops.toList plan2 K a0 (Sof listed) hist rest2 h done → wpAny P .any ops Q fuel listed c w := by
  intro fuel
  have ready_nil : ∀ listed : Array Bool, listed.size = ops.toList.length → Region.ready .any ops listed = [] → ∀ i, i < ops.toList.length → Sof listed i := by
    intro listed hsz hr i
    induction i using Nat.strongRecOn with
    | _ i ih =>
      intro hi
      apply Classical.byContradiction
      intro hs
      have hio : i < ops.size := by simpa using hi
      have : i ∈ Region.ready .any ops listed := by
        rw [mem_ready]
        refine ⟨?_, ops[i], Array.getElem?_eq_getElem hio, fun e he hb => ?_⟩
        · have hil : i < listed.size := by omega
          unfold Sof at hs
          simp only [Array.getD_eq_getD_getElem?, Array.getElem?_eq_getElem hil, Option.getD_some] at hs ⊢
          simpa using hs
        · have hem : e.on ∈ edgesOf ops.toList i := by
            have : ops.toList[i]? = some ops[i] := by simp [hio]
            simp only [edgesOf, this]
            exact List.mem_map.2 ⟨e, List.mem_filter.2 ⟨by simpa using he, hb⟩, rfl⟩
          have := hd1.back i hi _ hem
          exact ih _ this (by omega)
      rw [hr] at this
      cases this
  induction fuel with
  | zero =>
    intro listed c w I β h hist rest1 rest2 done hcond hnA hnB hu hsz hc he hr hf hv1 hv2
    exfalso
    apply hnA
    apply hv1.ran
    apply Classical.byContradiction
    intro hs
    have := unl_lt hA (by omega) hs
    omega
  | succ fuel ih =>
    intro listed c w I β h hist rest1 rest2 done hcond hnA hnB hu hsz hc he hr hf hv1 hv2
    refine ⟨fun hrd => absurd (hv1.ran _ (ready_nil listed hsz hrd A hA)) hnA, fun i hi => ?_⟩
    have hi' := hi
    rw [mem_ready] at hi'
    obtain ⟨hil0, o, ho, hed⟩ := hi'
    have hio : i < ops.size := (Array.getElem?_eq_some_iff.1 ho).1
    have hin : i < ops.toList.length := by simpa using hio
    have hil : i < listed.size := by omega
    by_cases hm : i ∈ hist.map (·.1)
    · refine draw_pick hd1 fuel listed c w I β h hist rest1 done i (fun hx => absurd hm hx) (fun listed1 c1 w1 I1 β1 h1 hist1 r1 done1 el heq _ hu1 hsz1 hc1 he1 hr1 hf1 hv1' => ?_) hu hsz hc he hr hf hv1 hi
      obtain ⟨rfl, rfl, rfl, rfl⟩ := heq hm
      subst el
      refine ih _ c1 w1 I1 β1 _ _ _ rest2 _ hcond hnA hnB hu1 hsz1 hc1 he1 hr1 hf1 hv1' ?_
      refine ⟨hv2.ord, hv2.sub, hv2.run, fun j hj => ?_, fun j hj he => (Sof_set hil).2 (.inr (hv2.effs j hj he)), fun a b d f g k => hv2.val a b d f g (fun x => k ((Sof_set hil).2 (.inr x))), fun a b d f g k x y => hv2.kept a b d f g k (fun z => x ((Sof_set hil).2 (.inr z))) y⟩
      rw [Sof_set hil] at hj
      rcases hj with rfl | hj
      · exact hm
      · exact hv2.ran j hj
    · have hedge : ∀ e, e ∈ edgesOf ops.toList i → Sof listed e := by
        intro e hem
        have ho' : ops.toList[i]? = some o := by simpa using ho
        simp only [edgesOf, ho', List.mem_map, List.mem_filter] at hem
        obtain ⟨x, ⟨h1, h2⟩, rfl⟩ := hem
        exact hed x (by simpa using h1) h2
      rcases hcond i hin hm with rfl | rfl | hp | hp
      · exact draw_pick hd1 fuel listed c w I β h hist rest1 done i (fun _ e he => .inr (List.mem_singleton.1 he)) (fun listed1 c1 w1 I1 β1 h1 hist1 r1 done1 el _ hF1 => draw_any hd1 hQ fuel listed1 c1 w1 I1 β1 h1 hist1 r1 done1 (hF1 hm)) hu hsz hc he hr hf hv1 hi
      · exact draw_pick hd2 fuel listed c w I β h hist rest2 done i (fun _ e he => .inr (List.mem_singleton.1 he)) (fun listed1 c1 w1 I1 β1 h1 hist1 r1 done1 el _ hF1 => draw_any hd2 hQ fuel listed1 c1 w1 I1 β1 h1 hist1 r1 done1 (hF1 hm)) hu hsz hc he hr hf hv2 hi
      · exact absurd (hv1.ran _ (pre_in hd1 hc i hin hedge A hp)) hnA
      · exact absurd (hv1.ran _ (pre_in hd1 hc i hin hedge B hp)) hnB

def keep0 (keep : Bool) (x : Nat × Fr × AV) (l : List (Nat × Fr × AV)) : List (Nat × Fr × AV) := match keep with | true => x :: l | false => l
/-- One more of a plan is looked at, its value known. -/
theorem absorb_v {ops : List Oper} {plan : Plan} {free : List Nat} (hd : DrawOk ops plan free) {K : Fr → Heap → Prop} {a0 : Fr} {S : Nat → Prop} {hist : List (Nat × AV)} {i : Nat} {keep : Bool} {rs : List Nat} {rest : Plan} {h : Heap} {done done' : List (Nat × Fr × AV)}
    (hv : Inv P n ops plan K a0 S hist ((i, keep, rs) :: rest) h done) {o : Oper} (ho : ops[i]? = some o) (hp : isEff ops i = false) (v : AV) (hrun : adr P n ops rest (pt o.dst (frm ops a0 hist) v) h done' K) (hval : Valid P n ops i (frm ops a0 hist) v h)
    (hdone : (gval ops o.guard (frm ops a0 hist) = some true → done' = keep0 keep (i, frm ops a0 hist, v) done) ∧ (done' = keep0 keep (i, frm ops a0 hist, v) done ∨ done' = done)) :
    Inv P n ops plan K a0 S ((i, v) :: hist) rest h done' := by
  have hslot : gslot ops i = o.dst := by simp [gslot, ho]
  have hplan : (i, keep, rs) ∈ plan := by obtain ⟨p, hp⟩ := hv.sub; rw [← hp]; simp
  have hni : i ∉ hist.map (·.1) := by
    have hnd := hd.nodup
    rw [← hv.ord] at hnd
    have h2 := List.nodup_append.1 hnd
    intro hm
    exact h2.2.2 i (by simpa using hm) i (by simp) rfl
  refine ⟨by simpa using hv.ord, by obtain ⟨p, hp⟩ := hv.sub; exact ⟨p ++ [(i, keep, rs)], by simpa using hp⟩, by simp only [frm, hslot]; exact hrun, fun j hj => List.mem_cons_of_mem _ (hv.ran j hj), fun j hj he => ?_, fun l1 j u l2 hl hj => ?_, fun l1 j u l2 hl hy hj hgv => ?_⟩
  · rcases List.mem_cons.1 hj with e | hj
    · rw [e] at he
      simp only at he
      rw [hp] at he
      cases he
    · exact hv.effs j hj he
  · cases l1 with
    | nil =>
      simp only [List.nil_append, List.cons.injEq, Prod.mk.injEq] at hl
      obtain ⟨⟨rfl, rfl⟩, rfl⟩ := hl
      exact hval
    | cons y l1 =>
      simp only [List.cons_append, List.cons.injEq] at hl
      exact hv.val l1 j u l2 hl.2 hj
  · cases l1 with
    | nil =>
      simp only [List.nil_append, List.cons.injEq, Prod.mk.injEq] at hl
      obtain ⟨⟨rfl, rfl⟩, rfl⟩ := hl
      obtain ⟨y, hy, hy1, hy2⟩ := hy
      have key : ∀ (l : Plan), (l.map (·.1)).Nodup → ∀ y z, y ∈ l → z ∈ l → y.1 = z.1 → y = z := by
        intro l
        induction l with
        | nil => intro _ y z hy; cases hy
        | cons a l ih =>
          intro hn y z hy hz e
          simp only [List.map_cons, List.nodup_cons] at hn
          rcases List.mem_cons.1 hy with e1 | k1 <;> rcases List.mem_cons.1 hz with e2 | k2
          · rw [e1, e2]
          · subst e1; exact absurd (List.mem_map.2 ⟨z, k2, e.symm⟩) hn.1
          · subst e2; exact absurd (List.mem_map.2 ⟨y, k1, e⟩) hn.1
          · exact ih hn.2 y z k1 k2 e
      have := key plan hd.nodup y _ hy hplan hy1
      rw [this] at hy2
      simp only at hy2
      rw [hdone.1 (hgv o ho), hy2]
      simp [keep0]
    | cons y l1 =>
      simp only [List.cons_append, List.cons.injEq] at hl
      have hne : j ≠ i := by
        rintro rfl
        exact hni (by rw [hl.2]; simp)
      have h4 : done'.find? (fun x => x.1 == j) = done.find? (fun x => x.1 == j) := by
        rcases hdone.2 with e | e
        · rw [e]
          cases keep with
          | false => rfl
          | true => simp [keep0, List.find?_cons, show (i == j) = false from beq_eq_false_iff_ne.2 (Ne.symm hne)]
        · rw [e]
      rw [h4]
      exact hv.kept l1 j u l2 hl.2 hy hj hgv

/-- The quiet beginning of a plan; what was kept is handed on. -/
def adrX (P : Program) (n : Nat) (all : List Oper) : Plan → Fr → Heap → List (Nat × Fr × AV) → (Fr → List (Nat × Fr × AV) → Prop) → Prop
  | [], a, h, done, K => K a done
  | (i, keep, _) :: rest, a, h, done, K => (match all[i]? with
    | none => False
    | some o => guardK all o.guard a fun run => match run with
      | true => ∃ v, aop P o.op a h (fun v' h' => v' = v ∧ h' = h) ∧ putK n o.dst a v fun a' => adrX P n all rest a' h (keep0 keep (i, a, v) done) K
      | false => putK n o.dst a .undef fun a' => adrX P n all rest a' h done K)
def plain1 (ops : List Oper) (x : Nat × Bool × List Nat) : Bool := !isEff ops x.1
theorem adr_app {ops : List Oper} {K : Fr → Heap → Prop} {tail : Plan} {h : Heap} : ∀ (p : Plan) (a : Fr) (done : List (Nat × Fr × AV)), p.all (plain1 ops) = true → adrX P n ops p a h done (fun a' done' => adr P n ops tail a' h done' K) → adr P n ops (p ++ tail) a h done K
  | [], a, done, _, hk => hk
  | (i, keep, rs) :: p, a, done, hp, hk => by
    simp only [List.all_cons, Bool.and_eq_true] at hp
    obtain ⟨hpe, hp2⟩ := hp
    simp only [plain1, Bool.not_eq_true'] at hpe
    simp only [List.cons_append]
    unfold adrX at hk
    unfold adr
    cases ho : ops[i]? with
    | none => rw [ho] at hk; exact hk.elim
    | some o =>
      rw [ho] at hk
      have hpo : pureOp o.op = true := by simpa [isEff, ho] using hpe
      refine guardK_imp0 (fun b hb => ?_) hk
      cases b with
      | true =>
        simp only [hpo] at hb ⊢
        obtain ⟨v, h1, h2⟩ := hb
        exact ⟨v, h1, putK_imp0 (fun a' h3 => adr_app p a' _ hp2 h3) h2⟩
      | false => exact putK_imp0 (fun a' h3 => adr_app p a' done hp2 h3) hb
theorem adrX_mono {ops : List Oper} {h : Heap} {K K' : Fr → List (Nat × Fr × AV) → Prop} (hK : ∀ a d, K a d → K' a d) : ∀ (p : Plan) (a : Fr) (done : List (Nat × Fr × AV)), adrX P n ops p a h done K → adrX P n ops p a h done K'
  | [], a, done, hk => hK _ _ hk
  | (i, keep, rs) :: p, a, done, hk => by
    unfold adrX at hk ⊢
    cases ho : ops[i]? with
    | none => rw [ho] at hk; exact hk.elim
    | some o =>
      rw [ho] at hk
      refine guardK_imp0 (fun b hb => ?_) hk
      cases b with
      | true =>
        obtain ⟨v, h1, h2⟩ := hb
        exact ⟨v, h1, putK_imp0 (fun a' h3 => adrX_mono hK p a' _ h3) h2⟩
      | false => exact putK_imp0 (fun a' h3 => adrX_mono hK p a' done h3) hb
theorem pre_absorb {ops : List Oper} {plan1 plan2 tail1 tail2 : Plan} {free1 free2 : List Nat} (hd1 : DrawOk ops plan1 free1) (hd2 : DrawOk ops plan2 free2) {K : Fr → Heap → Prop} {a0 : Fr} {S : Nat → Prop} {h : Heap} : ∀ (p : Plan) (hist : List (Nat × AV)) (done : List (Nat × Fr × AV)), p.all (plain1 ops) = true →
    adrX P n ops p (frm ops a0 hist) h done (fun a' d => adr P n ops tail1 a' h d K ∧ adr P n ops tail2 a' h d K) → Inv P n ops plan1 K a0 S hist (p ++ tail1) h done → Inv P n ops plan2 K a0 S hist (p ++ tail2) h done →
    ∃ l d, Inv P n ops plan1 K a0 S (l ++ hist) tail1 h d ∧ Inv P n ops plan2 K a0 S (l ++ hist) tail2 h d ∧ l.map (·.1) = (p.map (·.1)).reverse
  | [], hist, done, _, _, hv1, hv2 => ⟨[], done, hv1, hv2, rfl⟩
  | (i, keep, rs) :: p, hist, done, hp, hk, hv1, hv2 => by
    simp only [List.all_cons, Bool.and_eq_true] at hp
    obtain ⟨hpe, hp2⟩ := hp
    simp only [plain1, Bool.not_eq_true'] at hpe
    simp only [List.cons_append] at hv1 hv2
    unfold adrX at hk
    cases ho : ops[i]? with
    | none => rw [ho] at hk; exact hk.elim
    | some o =>
      rw [ho] at hk
      have hpo : pureOp o.op = true := by simpa [isEff, ho] using hpe
      have hslot : gslot ops i = o.dst := by simp [gslot, ho]
      obtain ⟨r, hg, hk⟩ := guardK_sound hk
      have go : ∀ v done', inb n o.dst → adrX P n ops p (pt o.dst (frm ops a0 hist) v) h done' (fun a' d => adr P n ops tail1 a' h d K ∧ adr P n ops tail2 a' h d K) → Valid P n ops i (frm ops a0 hist) v h →
          ((gval ops o.guard (frm ops a0 hist) = some true → done' = keep0 keep (i, frm ops a0 hist, v) done) ∧ (done' = keep0 keep (i, frm ops a0 hist, v) done ∨ done' = done)) →
          ∃ l d, Inv P n ops plan1 K a0 S (l ++ hist) tail1 h d ∧ Inv P n ops plan2 K a0 S (l ++ hist) tail2 h d ∧ l.map (·.1) = (((i, keep, rs) :: p).map (·.1)).reverse := by
        intro v done' hinb hrun hval hdn
        have w1 := absorb_v hd1 hv1 ho hpe v (adr_app p _ _ hp2 (adrX_mono (fun a' d x => x.1) p _ _ hrun)) hval hdn
        have w2 := absorb_v hd2 hv2 ho hpe v (adr_app p _ _ hp2 (adrX_mono (fun a' d x => x.2) p _ _ hrun)) hval hdn
        obtain ⟨l, d, q1, q2, q3⟩ := pre_absorb hd1 hd2 p ((i, v) :: hist) done' hp2 (by simp only [frm, hslot]; exact hrun) w1 w2
        exact ⟨l ++ [(i, v)], d, by simpa using q1, by simpa using q2, by simp [q3]⟩
      cases r with
      | true =>
        obtain ⟨v, h1, h2⟩ := hk
        have h3 := putK_sound h2
        exact go v _ h3.1 h3.2 ⟨o, ho, h3.1, .inl ⟨hg, hpo, h1⟩⟩ ⟨fun _ => rfl, .inl rfl⟩
      | false =>
        have h3 := putK_sound hk
        exact go .undef _ h3.1 h3.2 ⟨o, ho, h3.1, .inr ⟨hg, rfl, hpo⟩⟩ ⟨fun e => (by rw [hg] at e; cases e), .inr rfl⟩

def twoChk (ops : List Oper) (pre tail1 tail2 : Plan) : Bool :=
  match tail1, tail2 with
  | (A, _, _) :: _, (B, _, _) :: _ => drawChkF ops (pre ++ tail1) [A] && drawChkF ops (pre ++ tail2) [B] && pre.all (plain1 ops) && decide (A < ops.length) && decide (A ∉ pre.map (·.1)) && decide (B ∉ pre.map (·.1)) &&
      (List.range ops.length).all fun i => (pre.map (·.1)).contains i || decide (i = A) || decide (i = B) || ((presOf ops).getD i []).contains A || ((presOf ops).getD i []).contains B
  | _, _ => false
theorem draw2_sound {ops : Array Oper} {pre tail1 tail2 : Plan} {id : Nat} (hm : P.follows .mixedOrders = true) (hd : twoChk ops.toList pre tail1 tail2 = true) {K : Fr → Heap → Prop} {a : Fr} {h : Heap} {Q : Exit → Act → World → Prop} {I : Nat → Prop} {β : Nat → Nat} {w : World} {c : Act}
    (r : Rel I β h w) (f : FRel I β h.length w n a c) (hk : adrX P n ops.toList pre a h [] fun a' d => adr P n ops.toList tail1 a' h d K ∧ adr P n ops.toList tail2 a' h d K)
    (hQ : ∀ a' h' I' β' c' w', K a' h' → Ext I β h w I' β' h' w' → Rel I' β' h' w' → FRel I' β' h'.length w' n a' c' → Q .normal c' w') : (Code.region id ops true).wp P Q c w := by
  refine wp_region_any hm ?_
  unfold twoChk at hd
  split at hd
  · rename_i A _ _ t1 B _ _ t2
    simp only [Bool.and_eq_true, decide_eq_true_eq, List.all_eq_true, List.mem_range, Bool.or_eq_true, List.contains_iff_mem] at hd
    obtain ⟨⟨⟨⟨⟨⟨hd1, hd2⟩, hp⟩, hA⟩, hnA⟩, hnB⟩, hcond⟩ := hd
    have hp' : pre.all (plain1 ops.toList) = true := by rw [List.all_eq_true]; exact hp
    have hd1' := drawOk hd1
    have hd2' := drawOk hd2
    have hnone : ∀ i, ¬ Sof (Array.replicate ops.size false) i := by
      intro i hi
      unfold Sof at hi
      simp only [Array.getD_eq_getD_getElem?, Array.getElem?_replicate] at hi
      split at hi <;> simp at hi
    have start : ∀ (pl : Plan), adr P n ops.toList pl a h [] K → Inv P n ops.toList pl K a (Sof (Array.replicate ops.size false)) [] pl h [] := fun pl hr =>
      ⟨by simp, ⟨[], rfl⟩, hr, fun i hi => absurd hi (hnone i), (fun i hi => by cases hi), (fun l1 i v l2 hl => by cases l1 <;> cases hl), (fun l1 i v l2 hl => by cases l1 <;> cases hl)⟩
    obtain ⟨l, d, q1, q2, q3⟩ := pre_absorb (S := Sof (Array.replicate ops.size false)) hd1' hd2' (a0 := a) pre [] [] hp' hk (start _ (adr_app pre a [] hp' (adrX_mono (fun a' d x => x.1) pre a [] hk))) (start _ (adr_app pre a [] hp' (adrX_mono (fun a' d x => x.2) pre a [] hk)))
    simp only [List.append_nil] at q1 q2
    have hmem : ∀ i, i ∈ l.map (·.1) ↔ i ∈ pre.map (·.1) := fun i => by rw [q3]; simp
    have hfl : filt (Array.replicate ops.size false) l = [] := by
      unfold filt
      rw [List.filter_eq_nil_iff]
      intro y hy hsy
      exact hnone y.1 hsy
    refine draw_two (n := n) hd1' hd2' (a0 := a) hQ hA ops.size (Array.replicate ops.size false) c { w with drawn := w.drawn + 1 } I β h l _ _ d (fun i hi hni => ?_) (fun x => hnA ((hmem A).1 x)) (fun x => hnB ((hmem B).1 x)) ?_ (by simp) (fun i hi => absurd hi (hnone i)) (Ext.heapEq rfl rfl rfl rfl) (r.heapEq rfl) ?_ q1 q2
    · rcases hcond i hi with (((x | x) | x) | x) | x
      · exact absurd ((hmem i).2 x) hni
      · exact .inl x
      · exact .inr (.inl x)
      · exact .inr (.inr (.inl x))
      · exact .inr (.inr (.inr x))
    · unfold unl
      refine Nat.le_trans List.countP_le_length (by simp)
    · rw [hfl]; exact f.heapEq rfl
  · cases hd

/-- A plan, or two with one beginning: the mark tells how long the parts are. -/
def twoOf : Plan → Option (Plan × Plan × Plan)
  | (i, _, [p, q]) :: rest => if i = 1000000 then some (rest.take p, (rest.drop p).take q, rest.drop (p + q)) else none
  | _ => none
def adrD (P : Program) (n : Nat) (ops : List Oper) (plan : Plan) (a : Fr) (h : Heap) (K : Fr → Heap → Prop) : Prop :=
  match twoOf plan with
  | none => adr P n ops plan a h [] K
  | some (p, t1, t2) => adrX P n ops p a h [] fun a' d => adr P n ops t1 a' h d K ∧ adr P n ops t2 a' h d K
def drawChkD (ops : List Oper) (plan : Plan) : Bool :=
  match twoOf plan with
  | none => drawChk ops plan
  | some (p, t1, t2) => twoChk ops p t1 t2
theorem drawD_sound {ops : Array Oper} {plan : Plan} {id : Nat} (hm : P.follows .mixedOrders = true) (hd : drawChkD ops.toList plan = true) {K : Fr → Heap → Prop} {a : Fr} {h : Heap} {Q : Exit → Act → World → Prop} {I : Nat → Prop} {β : Nat → Nat} {w : World} {c : Act}
    (r : Rel I β h w) (f : FRel I β h.length w n a c) (hk : adrD P n ops.toList plan a h K)
    (hQ : ∀ a' h' I' β' c' w', K a' h' → Ext I β h w I' β' h' w' → Rel I' β' h' w' → FRel I' β' h'.length w' n a' c' → Q .normal c' w') : (Code.region id ops true).wp P Q c w := by
  unfold adrD at hk
  unfold drawChkD at hd
  cases ht : twoOf plan with
  | none => rw [ht] at hk hd; exact draw_sound hm hd r f hk hQ
  | some x => obtain ⟨p, t1, t2⟩ := x; rw [ht] at hk hd; exact draw2_sound hm hd r f hk hQ
end
end Go.AL
