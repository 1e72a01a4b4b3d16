import Derived.Test.YtclbobielhllmaaGreatRD1
import Derived.Deep.LoopGhost
import Derived.Test.YtclbobielhllmaaGreatRows
import Derived.ProofKit
import Derived.OpenShut
import Derived.JoinedCond
import Derived.Test.YtclbobielhllmaaGreatProg
import Derived.KernelRfl
section
namespace Go.AL
set_option linter.unusedVariables false
set_option linter.unusedSimpArgs false
section
variable {P : Program} {n : Nat}
theorem putK_imp0 {a : Fr} {dst : Option Tmp} {v : AV} {K K' : Fr → Prop} (hK : ∀ a, K a → K' a) (hk : putK n dst a v K) : putK n dst a v K' := by
  cases dst with
  | none => exact hK _ hk
  | some d => exact ⟨hk.1, hK _ hk.2⟩
theorem guardK_imp0 {a : Fr} {ops : List Oper} {g : Option (Nat × Bool)} {K K' : Bool → Prop} (hK : ∀ b, K b → K' b) (hk : guardK ops g a K) : guardK ops g a K' := by
  cases g with
  | none => exact hK _ hk
  | some x =>
    obtain ⟨j, want⟩ := x
    simp only [guardK] at hk ⊢
    cases hs : gslot ops j with
    | none => simp [hs] at hk
    | some t =>
      simp only [hs] at hk ⊢
      cases ha : a t with
      | bool b => simp only [ha] at hk ⊢; exact ⟨fun e => hK _ (hk.1 e), fun e => hK _ (hk.2 e)⟩
      | tup l => cases l with
        | nil => simp only [ha] at hk ⊢; exact hK _ hk
        | cons _ _ => simp [ha] at hk
      | _ => simp [ha] at hk
theorem draw_two {ops : Array Oper} {plan1 plan2 : Plan} {A B : Nat} (hd1 : DrawOk ops.toList plan1 [A]) (hd2 : DrawOk ops.toList plan2 [B]) {K : Fr → Heap → Prop} {a0 : Fr} {Q : Exit → Act → World → Prop} {I0 : Nat → Prop} {β0 : Nat → Nat} {h0 : Heap} {w0 : World}
    (hQ : ∀ a' h' I' β' c' w', K a' h' → Ext I0 β0 h0 w0 I' β' h' w' → Rel I' β' h' w' → FRel I' β' h'.length w' n a' c' → Q .normal c' w') (hA : A < ops.toList.length) :
    ∀ (fuel : Nat) (listed : Array Bool) (c : Act) (w : World) (I : Nat → Prop) (β : Nat → Nat) (h : Heap) (hist : List (Nat × AV)) (rest1 rest2 : Plan) (done : List (Nat × Fr × AV)),
      (∀ i, i < ops.toList.length → i ∉ hist.map (·.1) → i = A ∨ i = B ∨ A ∈ (presOf ops.toList).getD i [] ∨ B ∈ (presOf ops.toList).getD i []) → A ∉ hist.map (·.1) → B ∉ hist.map (·.1) →
      unl ops.toList.length listed ≤ fuel → listed.size = ops.toList.length → (∀ i, Sof listed i → ∀ e, e ∈ edgesOf ops.toList i → Sof listed e) → Ext I0 β0 h0 w0 I β h w → Rel I β h w → FRel I β h.length w n (frm ops.toList a0 (filt listed hist)) c →
      Inv P n ops.toList plan1 K a0 (Sof listed) hist rest1 h done → Inv P n ops.toList plan2 K a0 (Sof listed) hist rest2 h done → wpAny P .any ops Q fuel listed c w := by
  intro fuel
  have ready_nil : ∀ listed : Array Bool, listed.size = ops.toList.length → Region.ready .any ops listed = [] → ∀ i, i < ops.toList.length → Sof listed i := by
    intro listed hsz hr i
    induction i using Nat.strongRecOn with
    | _ i ih =>
      intro hi
      apply Classical.byContradiction
      intro hs
      have hio : i < ops.size := by simpa using hi
      have : i ∈ Region.ready .any ops listed := by
        rw [mem_ready]
        refine ⟨?_, ops[i], Array.getElem?_eq_getElem hio, fun e he hb => ?_⟩
        · have hil : i < listed.size := by omega
          unfold Sof at hs
          simp only [Array.getD_eq_getD_getElem?, Array.getElem?_eq_getElem hil, Option.getD_some] at hs ⊢
          simpa using hs
        · have hem : e.on ∈ edgesOf ops.toList i := by
            have : ops.toList[i]? = some ops[i] := by simp [hio]
            simp only [edgesOf, this]
            exact List.mem_map.2 ⟨e, List.mem_filter.2 ⟨by simpa using he, hb⟩, rfl⟩
          have := hd1.back i hi _ hem
          exact ih _ this (by omega)
      rw [hr] at this
      cases this
  induction fuel with
  | zero =>
    intro listed c w I β h hist rest1 rest2 done hcond hnA hnB hu hsz hc he hr hf hv1 hv2
    exfalso
    apply hnA
    apply hv1.ran
    apply Classical.byContradiction
    intro hs
    have := unl_lt hA (by omega) hs
    omega
  | succ fuel ih =>
    intro listed c w I β h hist rest1 rest2 done hcond hnA hnB hu hsz hc he hr hf hv1 hv2
    refine ⟨fun hrd => absurd (hv1.ran _ (ready_nil listed hsz hrd A hA)) hnA, fun i hi => ?_⟩
    have hi' := hi
    rw [mem_ready] at hi'
    obtain ⟨hil0, o, ho, hed⟩ := hi'
    have hio : i < ops.size := (Array.getElem?_eq_some_iff.1 ho).1
    have hin : i < ops.toList.length := by simpa using hio
    have hil : i < listed.size := by omega
    by_cases hm : i ∈ hist.map (·.1)
    · refine draw_pick hd1 fuel listed c w I β h hist rest1 done i (fun hx => absurd hm hx) (fun listed1 c1 w1 I1 β1 h1 hist1 r1 done1 el heq _ hu1 hsz1 hc1 he1 hr1 hf1 hv1' => ?_) hu hsz hc he hr hf hv1 hi
      obtain ⟨rfl, rfl, rfl, rfl⟩ := heq hm
      subst el
      refine ih _ c1 w1 I1 β1 _ _ _ rest2 _ hcond hnA hnB hu1 hsz1 hc1 he1 hr1 hf1 hv1' ?_
      refine ⟨hv2.ord, hv2.sub, hv2.run, fun j hj => ?_, fun j hj he => (Sof_set hil).2 (.inr (hv2.effs j hj he)), fun a b d f g k => hv2.val a b d f g (fun x => k ((Sof_set hil).2 (.inr x))), fun a b d f g k x y => hv2.kept a b d f g k (fun z => x ((Sof_set hil).2 (.inr z))) y⟩
      rw [Sof_set hil] at hj
      rcases hj with rfl | hj
      · exact hm
      · exact hv2.ran j hj
    · have hedge : ∀ e, e ∈ edgesOf ops.toList i → Sof listed e := by
        intro e hem
        have ho' : ops.toList[i]? = some o := by simpa using ho
        simp only [edgesOf, ho', List.mem_map, List.mem_filter] at hem
        obtain ⟨x, ⟨h1, h2⟩, rfl⟩ := hem
        exact hed x (by simpa using h1) h2
      rcases hcond i hin hm with rfl | rfl | hp | hp
      · exact draw_pick hd1 fuel listed c w I β h hist rest1 done i (fun _ e he => .inr (List.mem_singleton.1 he)) (fun listed1 c1 w1 I1 β1 h1 hist1 r1 done1 el _ hF1 => draw_any hd1 hQ fuel listed1 c1 w1 I1 β1 h1 hist1 r1 done1 (hF1 hm)) hu hsz hc he hr hf hv1 hi
      · exact draw_pick hd2 fuel listed c w I β h hist rest2 done i (fun _ e he => .inr (List.mem_singleton.1 he)) (fun listed1 c1 w1 I1 β1 h1 hist1 r1 done1 el _ hF1 => draw_any hd2 hQ fuel listed1 c1 w1 I1 β1 h1 hist1 r1 done1 (hF1 hm)) hu hsz hc he hr hf hv2 hi
      · exact absurd (hv1.ran _ (pre_in hd1 hc i hin hedge A hp)) hnA
      · exact absurd (hv1.ran _ (pre_in hd1 hc i hin hedge B hp)) hnB
def keep0 (keep : Bool) (x : Nat × Fr × AV) (l : List (Nat × Fr × AV)) : List (Nat × Fr × AV) := match keep with | true => x :: l | false => l
theorem absorb_v {ops : List Oper} {plan : Plan} {free : List Nat} (hd : DrawOk ops plan free) {K : Fr → Heap → Prop} {a0 : Fr} {S : Nat → Prop} {hist : List (Nat × AV)} {i : Nat} {keep : Bool} {rs : List Nat} {rest : Plan} {h : Heap} {done done' : List (Nat × Fr × AV)}
    (hv : Inv P n ops plan K a0 S hist ((i, keep, rs) :: rest) h done) {o : Oper} (ho : ops[i]? = some o) (hp : isEff ops i = false) (v : AV) (hrun : adr P n ops rest (pt o.dst (frm ops a0 hist) v) h done' K) (hval : Valid P n ops i (frm ops a0 hist) v h)
    (hdone : (gval ops o.guard (frm ops a0 hist) = some true → done' = keep0 keep (i, frm ops a0 hist, v) done) ∧ (done' = keep0 keep (i, frm ops a0 hist, v) done ∨ done' = done)) :
    Inv P n ops plan K a0 S ((i, v) :: hist) rest h done' := by
  have hslot : gslot ops i = o.dst := by simp [gslot, ho]
  have hplan : (i, keep, rs) ∈ plan := by obtain ⟨p, hp⟩ := hv.sub; rw [← hp]; simp
  have hni : i ∉ hist.map (·.1) := by
    have hnd := hd.nodup
    rw [← hv.ord] at hnd
    have h2 := List.nodup_append.1 hnd
    intro hm
    exact h2.2.2 i (by simpa using hm) i (by simp) rfl
  refine ⟨by simpa using hv.ord, by obtain ⟨p, hp⟩ := hv.sub; exact ⟨p ++ [(i, keep, rs)], by simpa using hp⟩, by simp only [frm, hslot]; exact hrun, fun j hj => List.mem_cons_of_mem _ (hv.ran j hj), fun j hj he => ?_, fun l1 j u l2 hl hj => ?_, fun l1 j u l2 hl hy hj hgv => ?_⟩
  · rcases List.mem_cons.1 hj with e | hj
    · rw [e] at he
      simp only at he
      rw [hp] at he
      cases he
    · exact hv.effs j hj he
  · cases l1 with
    | nil =>
      simp only [List.nil_append, List.cons.injEq, Prod.mk.injEq] at hl
      obtain ⟨⟨rfl, rfl⟩, rfl⟩ := hl
      exact hval
    | cons y l1 =>
      simp only [List.cons_append, List.cons.injEq] at hl
      exact hv.val l1 j u l2 hl.2 hj
  · cases l1 with
    | nil =>
      simp only [List.nil_append, List.cons.injEq, Prod.mk.injEq] at hl
      obtain ⟨⟨rfl, rfl⟩, rfl⟩ := hl
      obtain ⟨y, hy, hy1, hy2⟩ := hy
      have key : ∀ (l : Plan), (l.map (·.1)).Nodup → ∀ y z, y ∈ l → z ∈ l → y.1 = z.1 → y = z := by
        intro l
        induction l with
        | nil => intro _ y z hy; cases hy
        | cons a l ih =>
          intro hn y z hy hz e
          simp only [List.map_cons, List.nodup_cons] at hn
          rcases List.mem_cons.1 hy with e1 | k1 <;> rcases List.mem_cons.1 hz with e2 | k2
          · rw [e1, e2]
          · subst e1; exact absurd (List.mem_map.2 ⟨z, k2, e.symm⟩) hn.1
          · subst e2; exact absurd (List.mem_map.2 ⟨y, k1, e⟩) hn.1
          · exact ih hn.2 y z k1 k2 e
      have := key plan hd.nodup y _ hy hplan hy1
      rw [this] at hy2
      simp only at hy2
      rw [hdone.1 (hgv o ho), hy2]
      simp [keep0]
    | cons y l1 =>
      simp only [List.cons_append, List.cons.injEq] at hl
      have hne : j ≠ i := by
        rintro rfl
        exact hni (by rw [hl.2]; simp)
      have h4 : done'.find? (fun x => x.1 == j) = done.find? (fun x => x.1 == j) := by
        rcases hdone.2 with e | e
        · rw [e]
          cases keep with
          | false => rfl
          | true => simp [keep0, List.find?_cons, show (i == j) = false from beq_eq_false_iff_ne.2 (Ne.symm hne)]
        · rw [e]
      rw [h4]
      exact hv.kept l1 j u l2 hl.2 hy hj hgv
def adrX (P : Program) (n : Nat) (all : List Oper) : Plan → Fr → Heap → List (Nat × Fr × AV) → (Fr → List (Nat × Fr × AV) → Prop) → Prop
  | [], a, h, done, K => K a done
  | (i, keep, _) :: rest, a, h, done, K => (match all[i]? with
    | none => False
    | some o => guardK all o.guard a fun run => match run with
      | true => ∃ v, aop P o.op a h (fun v' h' => v' = v ∧ h' = h) ∧ putK n o.dst a v fun a' => adrX P n all rest a' h (keep0 keep (i, a, v) done) K
      | false => putK n o.dst a .undef fun a' => adrX P n all rest a' h done K)
def plain1 (ops : List Oper) (x : Nat × Bool × List Nat) : Bool := !isEff ops x.1
theorem adr_app {ops : List Oper} {K : Fr → Heap → Prop} {tail : Plan} {h : Heap} : ∀ (p : Plan) (a : Fr) (done : List (Nat × Fr × AV)), p.all (plain1 ops) = true → adrX P n ops p a h done (fun a' done' => adr P n ops tail a' h done' K) → adr P n ops (p ++ tail) a h done K
  | [], a, done, _, hk => hk
  | (i, keep, rs) :: p, a, done, hp, hk => by
    simp only [List.all_cons, Bool.and_eq_true] at hp
    obtain ⟨hpe, hp2⟩ := hp
    simp only [plain1, Bool.not_eq_true'] at hpe
    simp only [List.cons_append]
    unfold adrX at hk
    unfold adr
    cases ho : ops[i]? with
    | none => rw [ho] at hk; exact hk.elim
    | some o =>
      rw [ho] at hk
      have hpo : pureOp o.op = true := by simpa [isEff, ho] using hpe
      refine guardK_imp0 (fun b hb => ?_) hk
      cases b with
      | true =>
        simp only [hpo] at hb ⊢
        obtain ⟨v, h1, h2⟩ := hb
        exact ⟨v, h1, putK_imp0 (fun a' h3 => adr_app p a' _ hp2 h3) h2⟩
      | false => exact putK_imp0 (fun a' h3 => adr_app p a' done hp2 h3) hb
theorem adrX_mono {ops : List Oper} {h : Heap} {K K' : Fr → List (Nat × Fr × AV) → Prop} (hK : ∀ a d, K a d → K' a d) : ∀ (p : Plan) (a : Fr) (done : List (Nat × Fr × AV)), adrX P n ops p a h done K → adrX P n ops p a h done K'
  | [], a, done, hk => hK _ _ hk
  | (i, keep, rs) :: p, a, done, hk => by
    unfold adrX at hk ⊢
    cases ho : ops[i]? with
    | none => rw [ho] at hk; exact hk.elim
    | some o =>
      rw [ho] at hk
      refine guardK_imp0 (fun b hb => ?_) hk
      cases b with
      | true =>
        obtain ⟨v, h1, h2⟩ := hb
        exact ⟨v, h1, putK_imp0 (fun a' h3 => adrX_mono hK p a' _ h3) h2⟩
      | false => exact putK_imp0 (fun a' h3 => adrX_mono hK p a' done h3) hb
theorem pre_absorb {ops : List Oper} {plan1 plan2 tail1 tail2 : Plan} {free1 free2 : List Nat} (hd1 : DrawOk ops plan1 free1) (hd2 : DrawOk ops plan2 free2) {K : Fr → Heap → Prop} {a0 : Fr} {S : Nat → Prop} {h : Heap} : ∀ (p : Plan) (hist : List (Nat × AV)) (done : List (Nat × Fr × AV)), p.all (plain1 ops) = true →
    adrX P n ops p (frm ops a0 hist) h done (fun a' d => adr P n ops tail1 a' h d K ∧ adr P n ops tail2 a' h d K) → Inv P n ops plan1 K a0 S hist (p ++ tail1) h done → Inv P n ops plan2 K a0 S hist (p ++ tail2) h done →
    ∃ l d, Inv P n ops plan1 K a0 S (l ++ hist) tail1 h d ∧ Inv P n ops plan2 K a0 S (l ++ hist) tail2 h d ∧ l.map (·.1) = (p.map (·.1)).reverse
  | [], hist, done, _, _, hv1, hv2 => ⟨[], done, hv1, hv2, rfl⟩
  | (i, keep, rs) :: p, hist, done, hp, hk, hv1, hv2 => by
    simp only [List.all_cons, Bool.and_eq_true] at hp
    obtain ⟨hpe, hp2⟩ := hp
    simp only [plain1, Bool.not_eq_true'] at hpe
    simp only [List.cons_append] at hv1 hv2
    unfold adrX at hk
    cases ho : ops[i]? with
    | none => rw [ho] at hk; exact hk.elim
    | some o =>
      rw [ho] at hk
      have hpo : pureOp o.op = true := by simpa [isEff, ho] using hpe
      have hslot : gslot ops i = o.dst := by simp [gslot, ho]
      obtain ⟨r, hg, hk⟩ := guardK_sound hk
      have go : ∀ v done', inb n o.dst → adrX P n ops p (pt o.dst (frm ops a0 hist) v) h done' (fun a' d => adr P n ops tail1 a' h d K ∧ adr P n ops tail2 a' h d K) → Valid P n ops i (frm ops a0 hist) v h →
          ((gval ops o.guard (frm ops a0 hist) = some true → done' = keep0 keep (i, frm ops a0 hist, v) done) ∧ (done' = keep0 keep (i, frm ops a0 hist, v) done ∨ done' = done)) →
          ∃ l d, Inv P n ops plan1 K a0 S (l ++ hist) tail1 h d ∧ Inv P n ops plan2 K a0 S (l ++ hist) tail2 h d ∧ l.map (·.1) = (((i, keep, rs) :: p).map (·.1)).reverse := by
        intro v done' hinb hrun hval hdn
        have w1 := absorb_v hd1 hv1 ho hpe v (adr_app p _ _ hp2 (adrX_mono (fun a' d x => x.1) p _ _ hrun)) hval hdn
        have w2 := absorb_v hd2 hv2 ho hpe v (adr_app p _ _ hp2 (adrX_mono (fun a' d x => x.2) p _ _ hrun)) hval hdn
        obtain ⟨l, d, q1, q2, q3⟩ := pre_absorb hd1 hd2 p ((i, v) :: hist) done' hp2 (by simp only [frm, hslot]; exact hrun) w1 w2
        exact ⟨l ++ [(i, v)], d, by simpa using q1, by simpa using q2, by simp [q3]⟩
      cases r with
      | true =>
        obtain ⟨v, h1, h2⟩ := hk
        have h3 := putK_sound h2
        exact go v _ h3.1 h3.2 ⟨o, ho, h3.1, .inl ⟨hg, hpo, h1⟩⟩ ⟨fun _ => rfl, .inl rfl⟩
      | false =>
        have h3 := putK_sound hk
        exact go .undef _ h3.1 h3.2 ⟨o, ho, h3.1, .inr ⟨hg, rfl, hpo⟩⟩ ⟨fun e => (by rw [hg] at e; cases e), .inr rfl⟩
def twoChk (ops : List Oper) (pre tail1 tail2 : Plan) : Bool :=
  match tail1, tail2 with
  | (A, _, _) :: _, (B, _, _) :: _ => drawChkF ops (pre ++ tail1) [A] && drawChkF ops (pre ++ tail2) [B] && pre.all (plain1 ops) && decide (A < ops.length) && decide (A ∉ pre.map (·.1)) && decide (B ∉ pre.map (·.1)) &&
      (List.range ops.length).all fun i => (pre.map (·.1)).contains i || decide (i = A) || decide (i = B) || ((presOf ops).getD i []).contains A || ((presOf ops).getD i []).contains B
  | _, _ => false
theorem draw2_sound {ops : Array Oper} {pre tail1 tail2 : Plan} {id : Nat} (hm : P.follows .mixedOrders = true) (hd : twoChk ops.toList pre tail1 tail2 = true) {K : Fr → Heap → Prop} {a : Fr} {h : Heap} {Q : Exit → Act → World → Prop} {I : Nat → Prop} {β : Nat → Nat} {w : World} {c : Act}
    (r : Rel I β h w) (f : FRel I β h.length w n a c) (hk : adrX P n ops.toList pre a h [] fun a' d => adr P n ops.toList tail1 a' h d K ∧ adr P n ops.toList tail2 a' h d K)
    (hQ : ∀ a' h' I' β' c' w', K a' h' → Ext I β h w I' β' h' w' → Rel I' β' h' w' → FRel I' β' h'.length w' n a' c' → Q .normal c' w') : (Code.region id ops true).wp P Q c w := by
  refine wp_region_any hm ?_
  unfold twoChk at hd
  split at hd
  · rename_i A _ _ t1 B _ _ t2
    simp only [Bool.and_eq_true, decide_eq_true_eq, List.all_eq_true, List.mem_range, Bool.or_eq_true, List.contains_iff_mem] at hd
    obtain ⟨⟨⟨⟨⟨⟨hd1, hd2⟩, hp⟩, hA⟩, hnA⟩, hnB⟩, hcond⟩ := hd
    have hp' : pre.all (plain1 ops.toList) = true := by rw [List.all_eq_true]; exact hp
    have hd1' := drawOk hd1
    have hd2' := drawOk hd2
    have hnone : ∀ i, ¬ Sof (Array.replicate ops.size false) i := by
      intro i hi
      unfold Sof at hi
      simp only [Array.getD_eq_getD_getElem?, Array.getElem?_replicate] at hi
      split at hi <;> simp at hi
    have start : ∀ (pl : Plan), adr P n ops.toList pl a h [] K → Inv P n ops.toList pl K a (Sof (Array.replicate ops.size false)) [] pl h [] := fun pl hr =>
      ⟨by simp, ⟨[], rfl⟩, hr, fun i hi => absurd hi (hnone i), (fun i hi => by cases hi), (fun l1 i v l2 hl => by cases l1 <;> cases hl), (fun l1 i v l2 hl => by cases l1 <;> cases hl)⟩
    obtain ⟨l, d, q1, q2, q3⟩ := pre_absorb (S := Sof (Array.replicate ops.size false)) hd1' hd2' (a0 := a) pre [] [] hp' hk (start _ (adr_app pre a [] hp' (adrX_mono (fun a' d x => x.1) pre a [] hk))) (start _ (adr_app pre a [] hp' (adrX_mono (fun a' d x => x.2) pre a [] hk)))
    simp only [List.append_nil] at q1 q2
    have hmem : ∀ i, i ∈ l.map (·.1) ↔ i ∈ pre.map (·.1) := fun i => by rw [q3]; simp
    have hfl : filt (Array.replicate ops.size false) l = [] := by
      unfold filt
      rw [List.filter_eq_nil_iff]
      intro y hy hsy
      exact hnone y.1 hsy
    refine draw_two (n := n) hd1' hd2' (a0 := a) hQ hA ops.size (Array.replicate ops.size false) c { w with drawn := w.drawn + 1 } I β h l _ _ d (fun i hi hni => ?_) (fun x => hnA ((hmem A).1 x)) (fun x => hnB ((hmem B).1 x)) ?_ (by simp) (fun i hi => absurd hi (hnone i)) (Ext.heapEq rfl rfl rfl rfl) (r.heapEq rfl) ?_ q1 q2
    · rcases hcond i hi with (((x | x) | x) | x) | x
      · exact absurd ((hmem i).2 x) hni
      · exact .inl x
      · exact .inr (.inl x)
      · exact .inr (.inr (.inl x))
      · exact .inr (.inr (.inr x))
    · unfold unl
      refine Nat.le_trans List.countP_le_length (by simp)
    · rw [hfl]; exact f.heapEq rfl
  · cases hd
def twoOf : Plan → Option (Plan × Plan × Plan)
  | (i, _, [p, q]) :: rest => if i = 1000000 then some (rest.take p, (rest.drop p).take q, rest.drop (p + q)) else none
  | _ => none
def adrD (P : Program) (n : Nat) (ops : List Oper) (plan : Plan) (a : Fr) (h : Heap) (K : Fr → Heap → Prop) : Prop :=
  match twoOf plan with
  | none => adr P n ops plan a h [] K
  | some (p, t1, t2) => adrX P n ops p a h [] fun a' d => adr P n ops t1 a' h d K ∧ adr P n ops t2 a' h d K
def drawChkD (ops : List Oper) (plan : Plan) : Bool :=
  match twoOf plan with
  | none => drawChk ops plan
  | some (p, t1, t2) => twoChk ops p t1 t2
theorem drawD_sound {ops : Array Oper} {plan : Plan} {id : Nat} (hm : P.follows .mixedOrders = true) (hd : drawChkD ops.toList plan = true) {K : Fr → Heap → Prop} {a : Fr} {h : Heap} {Q : Exit → Act → World → Prop} {I : Nat → Prop} {β : Nat → Nat} {w : World} {c : Act}
    (r : Rel I β h w) (f : FRel I β h.length w n a c) (hk : adrD P n ops.toList plan a h K)
    (hQ : ∀ a' h' I' β' c' w', K a' h' → Ext I β h w I' β' h' w' → Rel I' β' h' w' → FRel I' β' h'.length w' n a' c' → Q .normal c' w') : (Code.region id ops true).wp P Q c w := by
  unfold adrD at hk
  unfold drawChkD at hd
  cases ht : twoOf plan with
  | none => rw [ht] at hk hd; exact draw_sound hm hd r f hk hQ
  | some x => obtain ⟨p, t1, t2⟩ := x; rw [ht] at hk hd; exact draw2_sound hm hd r f hk hQ
end
end Go.AL
end
section
namespace Go.AL
set_option linter.unusedVariables false
set_option linter.unusedSimpArgs false
mutual
def AV.ren (ρ : Nat → Option Nat) : AV → AV
  | .op id k e off => match ρ id with | some j => .op j k e off | none => .any
  | .osl id k i len cap ex => match ρ id with | some j => .osl j k i len cap ex | none => .any
  | .om id => match ρ id with | some j => .om j | none => .any
  | .fn f fs cs => .fn f (rens ρ fs) (rens ρ cs)
  | .ifc t v => .ifc t (v.ren ρ)
  | .agg cs => .agg (rens ρ cs)
  | .tup cs => .tup (rens ρ cs)
  | .int k n => .int k n
  | .bool b => .bool b
  | .str s => .str s
  | .flt k n => .flt k n
  | .nilp => .nilp
  | .nils => .nils
  | .nilf => .nilf
  | .nili => .nili
  | .nilm => .nilm
  | .e0 => .e0
  | .ip c o => .ip c o
  | .isl k es => .isl k es
  | .any => .any
def rens (ρ : Nat → Option Nat) : List AV → List AV
  | [] => []
  | v :: r => v.ren ρ :: rens ρ r
end
theorem rens_length (ρ : Nat → Option Nat) : ∀ l, (rens ρ l).length = l.length
  | [] => rfl
  | v :: r => by simp [rens, rens_length ρ r]
theorem rens_get {ρ : Nat → Option Nat} : ∀ {l : List AV} {j : Nat} {u : AV}, (rens ρ l)[j]? = some u → ∃ u0, l[j]? = some u0 ∧ u = u0.ren ρ
  | [], j, u, h => by simp [rens] at h
  | v :: r, 0, u, h => by simp [rens] at h; exact ⟨v, rfl, h.symm⟩
  | v :: r, j + 1, u, h => by simp [rens] at h; obtain ⟨u0, h1, h2⟩ := rens_get h; exact ⟨u0, by simpa using h1, h2⟩
def Ob.ren (ρ : Nat → Option Nat) : Ob → Ob
  | .dead => .dead
  | .arr k es ex => .arr k (es.map (rens ρ)) ex
  | .map es c => .map (es.map fun x => (x.1.ren ρ, x.2.1.ren ρ, x.2.2)) c
section
variable {I : Nat → Prop} {β β' : Nat → Nat} {N N' : Nat} {w : World} {ρ : Nat → Option Nat}
theorem IRel.ren {u : AV} {v : Value} (h : IRel I w u v) : IRel I w (u.ren ρ) v := by
  induction h with
  | int k n => exact .int k n
  | bool b => exact .bool b
  | str s => exact .str s
  | flt k n => exact .flt k n
  | nilp => exact .nilp
  | nils => exact .nils
  | nilf => exact .nilf
  | nili => exact .nili
  | nilm => exact .nilm
  | e0 A => exact .e0 A
  | ip cells off b o vs hb hl hc h1 hr ih => exact .ip cells off b o vs hb hl hc h1 hr
  | isl0 k A c => exact .isl0 k A c
  | isl k es b o c f hne hl hb hk hc ho hr ih => exact .isl k es b o c f hne hl hb hk hc ho hr
  | fn f fs cs fs' cs' h1 h2 _ _ ih1 ih2 =>
    refine .fn f _ _ fs' cs' (by rw [rens_length]; exact h1) (by rw [rens_length]; exact h2) (fun j u v hu hv => ?_) (fun j u v hu hv => ?_)
    · obtain ⟨u0, h3, rfl⟩ := rens_get hu; exact ih1 j u0 v h3 hv
    · obtain ⟨u0, h3, rfl⟩ := rens_get hu; exact ih2 j u0 v h3 hv
  | ifc t u v _ ih => exact .ifc t _ v ih
  | agg cs cs' h1 h2 _ ih =>
    refine .agg _ cs' (by rw [rens_length]; exact h1) h2 (fun j u v hu hv => ?_)
    obtain ⟨u0, h3, rfl⟩ := rens_get hu; exact ih j u0 v h3 hv
  | tup cs cs' h1 _ ih =>
    refine .tup _ cs' (by rw [rens_length]; exact h1) (fun j u v hu hv => ?_)
    obtain ⟨u0, h3, rfl⟩ := rens_get hu; exact ih j u0 v h3 hv
theorem VRel.ren {u : AV} {v : Value} (h : VRel I β N w u v) (hρ : ∀ id j, id < N → ρ id = some j → j < N' ∧ β' j = β id) : VRel I β' N' w (u.ren ρ) v := by
  induction h with
  | imm u v h => exact .imm _ _ h.ren
  | any v => exact .any v
  | op id k e off h =>
    simp only [AV.ren]
    cases hr : ρ id with
    | none => exact .any _
    | some j => obtain ⟨h1, h2⟩ := hρ id j h hr; rw [← h2]; exact .op j k e off h1
  | osl id k i len cap ex c n h h0 h1 h2 h3 h4 =>
    simp only [AV.ren]
    cases hr : ρ id with
    | none => exact .any _
    | some j => obtain ⟨q1, q2⟩ := hρ id j h hr; rw [← q2]; exact .osl j k i len cap ex c n q1 h0 h1 h2 (by rw [q2]; exact h3) h4
  | om id h =>
    simp only [AV.ren]
    cases hr : ρ id with
    | none => exact .any _
    | some j => obtain ⟨h1, h2⟩ := hρ id j h hr; rw [← h2]; exact .om j h1
  | fn f fs cs fs' cs' h1 h2 _ _ ih1 ih2 =>
    refine .fn f _ _ fs' cs' (by rw [rens_length]; exact h1) (by rw [rens_length]; exact h2) (fun j u v hu hv => ?_) (fun j u v hu hv => ?_)
    · obtain ⟨u0, h3, rfl⟩ := rens_get hu; exact ih1 j u0 v h3 hv
    · obtain ⟨u0, h3, rfl⟩ := rens_get hu; exact ih2 j u0 v h3 hv
  | ifc t u v _ ih => exact .ifc t _ v ih
  | agg cs cs' h1 h2 _ ih =>
    refine .agg _ cs' (by rw [rens_length]; exact h1) h2 (fun j u v hu hv => ?_)
    obtain ⟨u0, h3, rfl⟩ := rens_get hu; exact ih j u0 v h3 hv
  | tup cs cs' h1 _ ih =>
    refine .tup _ cs' (by rw [rens_length]; exact h1) (fun j u v hu hv => ?_)
    obtain ⟨u0, h3, rfl⟩ := rens_get hu; exact ih j u0 v h3 hv
theorem ORel.ren {o : Ob} {x : Option Obj} (h : ORel I β N w o x) (hρ : ∀ id j, id < N → ρ id = some j → j < N' ∧ β' j = β id) : ORel I β' N' w (o.ren ρ) x := by
  cases o with
  | dead => trivial
  | arr k es ex =>
    obtain ⟨cur, t, h1, h2, h3, h4, h5⟩ := h
    refine ⟨cur, t, h1, fun i e he => ?_, by simpa using h3, by simpa using h4, fun i e j u he hu => ?_⟩
    · rw [List.getElem?_map] at he
      cases hes : es[i]? with
      | none => rw [hes] at he; simp at he
      | some e0 => rw [hes] at he; simp at he; subst he; rw [rens_length]; exact h2 i e0 hes
    · rw [List.getElem?_map] at he
      cases hes : es[i]? with
      | none => rw [hes] at he; simp at he
      | some e0 =>
        rw [hes] at he; simp at he; subst he
        obtain ⟨u0, hu0, rfl⟩ := rens_get hu
        obtain ⟨v, h6, h7, h8⟩ := h5 i e0 j u0 hes hu0
        exact ⟨v, h6, h7.ren hρ, h8⟩
  | map es c =>
    obtain ⟨es', h1, h2, h3⟩ := h
    refine ⟨es', h1, by simpa using h2, fun j x y hx hy => ?_⟩
    rw [List.getElem?_map] at hx
    cases hes : es[j]? with
    | none => rw [hes] at hx; simp at hx
    | some x0 =>
      rw [hes] at hx; simp at hx; subst hx
      obtain ⟨q1, q2, q3⟩ := h3 j x0 y hes hy
      exact ⟨q1.ren hρ, q2.ren hρ, q3⟩
theorem Ob.ren_dead {o : Ob} (h : o.ren ρ ≠ .dead) : o ≠ .dead := by rintro rfl; exact h rfl
end
def posOf : List Nat → Nat → Option Nat
  | [], _ => none
  | x :: r, id => if x = id then some 0 else (posOf r id).map (· + 1)
theorem posOf_get : ∀ {ids : List Nat} {id j : Nat}, posOf ids id = some j → ids[j]? = some id
  | [], id, j, h => by simp [posOf] at h
  | x :: r, id, j, h => by
    unfold posOf at h
    split at h
    · rename_i e; simp at h; subst h; simp [e]
    · cases hp : posOf r id with
      | none => rw [hp] at h; simp at h
      | some j' => rw [hp] at h; simp at h; subst h; simpa using posOf_get hp
def gcH (ids : List Nat) (h : Heap) : Heap := ids.map fun id => (match h[id]? with | some o => o.ren (posOf ids) | none => .dead)
def gcF (ids : List Nat) (a : Fr) : Fr := fun t => (a t).ren (posOf ids)
def gcB (ids : List Nat) (β : Nat → Nat) : Nat → Nat := fun i => β (ids.getD i 0)
theorem gc_hρ {ids : List Nat} {β : Nat → Nat} {N : Nat} (id j : Nat) (hid : id < N) (h : posOf ids id = some j) : j < ids.length ∧ gcB ids β j = β id := by
  have h1 := posOf_get h
  exact ⟨(List.getElem?_eq_some_iff.1 h1).1, by simp [gcB, List.getD_eq_getElem?_getD, h1]⟩
theorem nodup_get : ∀ {l : List Nat} {i j x : Nat}, l.Nodup → l[i]? = some x → l[j]? = some x → i = j
  | [], i, j, x, _, h, _ => by simp at h
  | y :: r, 0, 0, x, _, _, _ => rfl
  | y :: r, 0, j + 1, x, hn, h, h' => by
    simp at h h'; subst h
    exact absurd (List.mem_of_getElem? h') (List.nodup_cons.1 hn).1
  | y :: r, i + 1, 0, x, hn, h, h' => by
    simp at h h'; subst h'
    exact absurd (List.mem_of_getElem? h) (List.nodup_cons.1 hn).1
  | y :: r, i + 1, j + 1, x, hn, h, h' => by
    simp at h h'
    rw [nodup_get (List.nodup_cons.1 hn).2 h h']
theorem gcH_length {ids : List Nat} {h : Heap} : (gcH ids h).length = ids.length := by simp [gcH]
theorem gcH_get {ids : List Nat} {h : Heap} {i : Nat} {o : Ob} (ho : (gcH ids h)[i]? = some o) (hd : o ≠ .dead) : ∃ id o0, ids[i]? = some id ∧ h[id]? = some o0 ∧ o = o0.ren (posOf ids) ∧ o0 ≠ .dead := by
  unfold gcH at ho
  rw [List.getElem?_map] at ho
  cases hi : ids[i]? with
  | none => rw [hi] at ho; simp at ho
  | some id =>
    rw [hi] at ho
    simp only [Option.map_some, Option.some.injEq] at ho
    cases hh : h[id]? with
    | none => rw [hh] at ho; exact absurd ho.symm hd
    | some o0 =>
      rw [hh] at ho
      have ho' : o0.ren (posOf ids) = o := ho
      exact ⟨id, o0, rfl, hh, ho'.symm, Ob.ren_dead (ρ := posOf ids) (by rw [ho']; exact hd)⟩
theorem gcB_get {ids : List Nat} {β : Nat → Nat} {i id : Nat} (h : ids[i]? = some id) : gcB ids β i = β id := by simp [gcB, List.getD_eq_getElem?_getD, h]
section
variable {I : Nat → Prop} {β : Nat → Nat} {h : Heap} {w : World} {ids : List Nat}
theorem Rel.gc (r : Rel I β h w) (hn : ids.Nodup) : Rel I (gcB ids β) (gcH ids h) w := by
  refine ⟨r.imm, fun i o ho hd => ?_, fun i i' o o' ho hd ho' hd' hb => ?_⟩
  · obtain ⟨id, o0, h1, h2, rfl, h3⟩ := gcH_get ho hd
    obtain ⟨q1, q2, q3⟩ := r.obj id o0 h2 h3
    rw [gcB_get h1]
    refine ⟨q1, q2, ?_⟩
    rw [gcH_length]
    exact q3.ren fun id j hid hj => gc_hρ id j hid hj
  · obtain ⟨id, o0, h1, h2, rfl, h3⟩ := gcH_get ho hd
    obtain ⟨id', o0', h1', h2', rfl, h3'⟩ := gcH_get ho' hd'
    rw [gcB_get h1, gcB_get h1'] at hb
    have := r.inj id id' o0 o0' h2 h3 h2' h3' hb
    subst this
    exact nodup_get hn h1 h1'
theorem VRel.gc {u : AV} {v : Value} (f : VRel I β h.length w u v) : VRel I (gcB ids β) (gcH ids h).length w (u.ren (posOf ids)) v := by
  rw [gcH_length]
  exact f.ren fun id j hid hj => gc_hρ id j hid hj
theorem FRel.gc {n : Nat} {a : Fr} {c : Act} (f : FRel I β h.length w n a c) : FRel I (gcB ids β) (gcH ids h).length w n (gcF ids a) c := ⟨fun t => (f.val t).gc, f.size, f.defers⟩
theorem Ext.gc {I0 : Nat → Prop} {β0 : Nat → Nat} {h0 : Heap} {w0 : World} (x : Ext I0 β0 h0 w0 I β h w) (hb : ids.take h0.length = List.range h0.length) : Ext I0 β0 h0 w0 I (gcB ids β) (gcH ids h) w := by
  have hl : h0.length ≤ ids.length := by
    have := congrArg List.length hb
    simp at this
    omega
  have hg : ∀ id, id < h0.length → ids[id]? = some id := fun id hid => by
    have : (ids.take h0.length)[id]? = some id := by rw [hb]; simp [hid]
    rwa [List.getElem?_take_of_lt hid] at this
  refine ⟨x.os, x.tape, x.output, x.size, by rw [gcH_length]; exact hl, fun id hid => by rw [gcB_get (hg id hid)]; exact x.beta id hid, x.sub, x.immnew, fun b hb' => ?_, x.keep, x.bs⟩
  obtain ⟨i, o, ho, hd, rfl⟩ := hb'
  obtain ⟨id, o0, h1, h2, rfl, h3⟩ := gcH_get ho hd
  rw [gcB_get h1]
  exact x.own _ ⟨id, o0, h2, h3, rfl⟩
end
def GcK (N : Nat) (a : Fr) (h : Heap) (K : Fr → Heap → Prop) : Prop := ∃ ids : List Nat, (ids.Nodup ∧ ids.take N = List.range N) ∧ K (gcF ids a) (gcH ids h)
end Go.AL
end
section
namespace Go.AL
set_option linter.unusedVariables false
set_option linter.unusedSimpArgs false
set_option linter.unnecessarySimpa false
def thenK (next : Fr → Heap → Prop) (Q : Exit → Fr → Heap → Prop) : Exit → Fr → Heap → Prop
  | .normal, a, h => next a h
  | e, a, h => Q e a h
def blockK (id : Nat) (Q : Exit → Fr → Heap → Prop) : Exit → Fr → Heap → Prop
  | .exit j, a, h => if j = id then Q .normal a h else Q (.exit j) a h
  | e, a, h => Q e a h
def LoopK (body : (Exit → Fr → Heap → Prop) → Fr → Heap → Prop) (Q : Exit → Fr → Heap → Prop) (a : Fr) (h : Heap) : Prop :=
  ∃ J : Nat → Fr → Heap → Prop, (∃ m, J m a h) ∧ ∀ m a1 h1, J m a1 h1 → body (thenK (fun a2 h2 => (∃ m', m' < m ∧ J m' a2 h2) ∨ GcK h.length a2 h2 fun a3 h3 => ∃ m', m' < m ∧ J m' a3 h3) Q) a1 h1
theorem LoopK.intro {body : (Exit → Fr → Heap → Prop) → Fr → Heap → Prop} {Q : Exit → Fr → Heap → Prop} {a : Fr} {h : Heap} (J : Nat → Fr → Heap → Prop) (m : Nat) (h0 : J m a h)
    (hr : ∀ m a1 h1, J m a1 h1 → body (thenK (fun a2 h2 => (∃ m', m' < m ∧ J m' a2 h2) ∨ GcK h.length a2 h2 fun a3 h3 => ∃ m', m' < m ∧ J m' a3 h3) Q) a1 h1) : LoopK body Q a h := ⟨J, ⟨m, h0⟩, hr⟩
def asx (P : Program) (n : Nat) (pl : Nat → Plan) : Code → (Exit → Fr → Heap → Prop) → Fr → Heap → Prop
  | .skip, Q, a, h => Q .normal a h
  | .region id ops draw, Q, a, h => (match draw with
    | false => aops P n ops.toList ops.toList a h fun a h => Q .normal a h
    | true => adrD P n ops.toList (pl id) a h fun a h => Q .normal a h)
  | .seq x y, Q, a, h => asx P n pl x (thenK (asx P n pl y Q) Q) a h
  | .cond c x y, Q, a, h => evK a c fun v => match v with | .bool b => (b = true → asx P n pl x Q a h) ∧ (b = false → asx P n pl y Q a h) | _ => False
  | .block id c, Q, a, h => asx P n pl c (blockK id Q) a h
  | .loop c, Q, a, h => LoopK (asx P n pl c) Q a h
  | .exit id, Q, a, h => Q (.exit id) a h
  | .ret, Q, a, h => Q .ret a h
  | .label _, Q, a, h => Q .normal a h
  | _, _, _, _ => False
def codeChk (pl : Nat → Plan) : Code → Bool
  | .region id ops true => drawChkD ops.toList (pl id)
  | .seq x y => codeChk pl x && codeChk pl y
  | .cond _ x y => codeChk pl x && codeChk pl y
  | .block _ c => codeChk pl c
  | .loop c => codeChk pl c
  | _ => true
section
variable {P : Program} {n : Nat} {pl : Nat → Plan}
theorem asx_sound (hm : P.follows .mixedOrders = true) : ∀ (c : Code), codeChk pl c = true → ∀ (Q : Exit → Fr → Heap → Prop) (a : Fr) (h : Heap), asx P n pl c Q a h → ∀ (I : Nat → Prop) (β : Nat → Nat) (w : World) (ac : Act), Rel I β h w → FRel I β h.length w n a ac →
    ∀ Q' : Exit → Act → World → Prop, (∀ e a' h' I' β' c' w', Q e a' h' → Ext I β h w I' β' h' w' → Rel I' β' h' w' → FRel I' β' h'.length w' n a' c' → Q' e c' w') → c.wp P Q' ac w := by
  intro c
  induction c with
  | skip => intro _ Q a h hk I β w ac r f Q' hQ; exact wp_skip (hQ _ _ _ _ _ _ _ hk (.refl _ _ _ _) r f)
  | region id ops draw =>
    intro hc Q a h hk I β w ac r f Q' hQ
    cases draw with
    | false =>
      refine wp_region ?_
      have := aops_sound (P := P) (n := n) (ops := ops) (Q := Q') ops.toList 0 (fun j => by simp) a h _ I β w ac r f hk (fun a' h' I' β' c' w' hk' => hQ _ a' h' I' β' c' w' hk')
      rwa [Array.length_toList, ← List.range_eq_range'] at this
    | true => exact drawD_sound hm hc r f hk (fun a' h' I' β' c' w' hk' => hQ _ a' h' I' β' c' w' hk')
  | seq x y ihx ihy =>
    intro hc Q a h hk I β w ac r f Q' hQ
    simp only [codeChk, Bool.and_eq_true] at hc
    refine wp_seq (ihx hc.1 _ a h hk I β w ac r f _ (fun e a' h' I' β' c' w' hk' he hr hf => ?_))
    cases e with
    | normal => exact ihy hc.2 Q a' h' hk' I' β' w' c' hr hf _ (fun e2 a2 h2 I2 β2 c2 w2 hk2 he2 => hQ e2 a2 h2 I2 β2 c2 w2 hk2 (he.trans he2))
    | exit j => exact hQ _ _ _ _ _ _ _ hk' he hr hf
    | goto l => exact hQ _ _ _ _ _ _ _ hk' he hr hf
    | ret => exact hQ _ _ _ _ _ _ _ hk' he hr hf
    | panic ch => exact hQ _ _ _ _ _ _ _ hk' he hr hf
    | outgrown => exact hQ _ _ _ _ _ _ _ hk' he hr hf
  | cond x thn els iht ihe =>
    intro hc Q a h hk I β w ac r f Q' hQ
    simp only [codeChk, Bool.and_eq_true] at hc
    obtain ⟨u, hu, hk⟩ := evK_sound f hk
    cases u with
    | bool b =>
      refine wp_cond_split hu.bool_inv (fun e => ?_) (fun e => ?_)
      · exact iht hc.1 Q a h (hk.1 e) I β w ac r f Q' hQ
      · exact ihe hc.2 Q a h (hk.2 e) I β w ac r f Q' hQ
    | _ => exact hk.elim
  | block id c ih =>
    intro hc Q a h hk I β w ac r f Q' hQ
    refine wp_block (ih hc _ a h hk I β w ac r f _ (fun e a' h' I' β' c' w' hk' he hr hf => ?_))
    cases e with
    | exit j =>
      simp only [blockK, Exit.inBlock] at hk' ⊢
      split at hk'
      · rename_i hj; rw [if_pos hj]; exact hQ _ _ _ _ _ _ _ hk' he hr hf
      · rename_i hj; rw [if_neg hj]; exact hQ _ _ _ _ _ _ _ hk' he hr hf
    | normal => exact hQ _ _ _ _ _ _ _ hk' he hr hf
    | goto l => exact hQ _ _ _ _ _ _ _ hk' he hr hf
    | ret => exact hQ _ _ _ _ _ _ _ hk' he hr hf
    | panic ch => exact hQ _ _ _ _ _ _ _ hk' he hr hf
    | outgrown => exact hQ _ _ _ _ _ _ _ hk' he hr hf
  | loop c ih =>
    intro hc Q a h hk I β w ac r f Q' hQ
    obtain ⟨J, ⟨m0, hJ0⟩, hround⟩ := hk
    refine wp_loop_ghost (fun m ac' w' => ∃ I' β' a' h', J m a' h' ∧ Ext I β h w I' β' h' w' ∧ Rel I' β' h' w' ∧ FRel I' β' h'.length w' n a' ac') m0 ⟨I, β, a, h, hJ0, .refl _ _ _ _, r, f⟩ ?_
    rintro m ac' w' ⟨I', β', a', h', hJ, he, hr, hf⟩
    refine ih hc _ a' h' (hround m a' h' hJ) I' β' w' ac' hr hf _ (fun e a2 h2 I2 β2 c2 w2 hk2 he2 hr2 hf2 => ?_)
    cases e with
    | normal =>
      rcases hk2 with ⟨m', hlt, hJ'⟩ | ⟨ids, ⟨hnd, hids⟩, m', hlt, hJ'⟩
      · exact ⟨m', hlt, I2, β2, a2, h2, hJ', he.trans he2, hr2, hf2⟩
      · exact ⟨m', hlt, I2, _, _, _, hJ', (he.trans he2).gc hids, hr2.gc hnd, hf2.gc⟩
    | exit j => exact hQ _ _ _ _ _ _ _ hk2 (he.trans he2) hr2 hf2
    | goto l => exact hQ _ _ _ _ _ _ _ hk2 (he.trans he2) hr2 hf2
    | ret => exact hQ _ _ _ _ _ _ _ hk2 (he.trans he2) hr2 hf2
    | panic ch => exact hQ _ _ _ _ _ _ _ hk2 (he.trans he2) hr2 hf2
    | outgrown => exact hQ _ _ _ _ _ _ _ hk2 (he.trans he2) hr2 hf2
  | exit id => intro _ Q a h hk I β w ac r f Q' hQ; exact wp_exit (hQ _ _ _ _ _ _ _ hk (.refl _ _ _ _) r f)
  | ret => intro _ Q a h hk I β w ac r f Q' hQ; exact wp_ret (hQ _ _ _ _ _ _ _ hk (.refl _ _ _ _) r f)
  | label l => intro _ Q a h hk I β w ac r f Q' hQ; exact wp_label (hQ _ _ _ _ _ _ _ hk (.refl _ _ _ _) r f)
  | rangeFunc _ _ _ _ _ _ => intro _ Q a h hk; exact hk.elim
  | scope _ _ => intro _ Q a h hk; exact hk.elim
  | goto _ => intro _ Q a h hk; exact hk.elim
  | refuse _ => intro _ Q a h hk; exact hk.elim
def resK (P : Program) (a : Fr) (h : Heap) : List ResultVar → (List AV → Prop) → Prop
  | [], K => K []
  | .tmp t :: r, K => resK P a h r fun us => K (a t :: us)
  | .cell p t :: r, K => loadK P t h (a p) fun u => resK P a h r fun us => K (u :: us)
def oneK (us : List AV) (K : AV → Prop) : Prop := match us with | [u] => K u | us => K (.tup us)
def bodyQ (P : Program) (rs : List ResultVar) (Q : AV → Heap → Prop) : Exit → Fr → Heap → Prop
  | .normal, a, h => resK P a h rs fun us => oneK us fun u => Q u h
  | .ret, a, h => resK P a h rs fun us => oneK us fun u => Q u h
  | _, _, _ => False
def fr0 (args : List AV) : Fr := fun t => (args[t]?).getD .undef
def resF (tmps : Array Value) : ResultVar → Sem Value
  | .tmp t => Pure.pure (tmps.getD t undef)
  | .cell a t => do loadVar t (← asAddr (tmps.getD a undef))
theorem results_eq (fn : Func) (tmps : Array Value) : results fn tmps = (do
    let vs ← fn.results.mapM (resF tmps)
    Pure.pure (if h : vs.size = 1 then vs[0] else .tuple vs)) := by
  unfold results
  congr 2
theorem resK_sound {I : Nat → Prop} {β : Nat → Nat} {h : Heap} {w : World} {a : Fr} {c : Act} (r : Rel I β h w) (f : FRel I β h.length w n a c) : ∀ (rs : List ResultVar) (K : List AV → Prop), resK P a h rs K →
    ∃ vs us, (rs.mapM (m := Sem) (resF c.tmps)).run P w = .ok vs w ∧ VRels I β h.length w us vs ∧ K us
  | [], K, hk => ⟨[], [], rfl, .nil, hk⟩
  | .tmp t :: rs, K, hk => by
    obtain ⟨vs, us, h1, h2, h3⟩ := resK_sound r f rs _ hk
    refine ⟨c.tmps.getD t undef :: vs, a t :: us, ?_, .cons (f.val t) h2, h3⟩
    simp only [List.mapM_cons, resF, Sem.run_bind, Sem.run_pure, Result.andThen_ok, h1]
  | .cell p t :: rs, K, hk => by
    obtain ⟨cv, u, e1, hk, e3⟩ := load_ok (P := P) r (f.val p) hk
    obtain ⟨vs, us, h1, h2, h3⟩ := resK_sound r f rs _ hk
    refine ⟨cv :: vs, u :: us, ?_, .cons e3 h2, h3⟩
    have e4 : (do loadVar t (← asAddr (c.tmps.getD p undef)) : Sem Value).run P w = .ok cv w := by
      generalize c.tmps.getD p undef = v at e1
      unfold Instr.loadAt at e1
      cases v with
      | pointer q =>
        cases q with
        | none => simp [Instr.sureAddr] at e1
        | some q => simpa [Instr.sureAddr, asAddr] using e1
      | _ => simp [Instr.sureAddr] at e1
    simp only [List.mapM_cons, resF, Sem.run_bind, Sem.run_pure, Result.andThen_ok]
    simp only [Sem.run_bind] at e4
    rw [e4]
    simp only [Result.andThen_ok, h1]
theorem acalls_of_body (hm : P.follows .mixedOrders = true) {f : FuncId} {fn : Func} {c : Code} {args : List AV} {h : Heap} {Q : AV → Heap → Prop} (hf : P.funcs[f]? = some fn) (hb : fn.body = some c) (hg : good P f = true) (hn : args.length ≤ fn.ntmps) (pl : Nat → Plan) (hc : codeChk pl c = true)
    (hk : asx P fn.ntmps pl c (bodyQ P fn.results.toList Q) (fr0 args) h) : ACalls P f args h Q := by
  refine ⟨hg, fun I β w vs r hv => calls_of_wp hf hb ?_⟩
  have hl : vs.length = args.length := hv.1.symm
  refine asx_sound (n := fn.ntmps) hm c hc _ _ _ hk I β w _ r ⟨fun t => ?_, by simp; omega, rfl⟩ _ (fun e a' h' I' β' c' w' hk' he hr hf => ?_)
  · simp only [fr0, Array.getD_eq_getD_getElem?]
    by_cases ht : t < args.length
    · rw [List.getElem?_eq_getElem ht, Array.getElem?_append_left (by simp; omega)]
      have ht' : t < vs.length := by omega
      simp only [List.getElem?_toArray, List.getElem?_eq_getElem ht', Option.getD_some]
      exact hv.2 t _ _ (List.getElem?_eq_getElem ht) (List.getElem?_eq_getElem ht')
    · rw [List.getElem?_eq_none (by omega), Array.getElem?_append_right (by simp; omega)]
      simp only [Option.getD_none, Array.getElem?_replicate]
      split
      · exact .imm _ _ (.undef _ _)
      · exact .imm _ _ (.undef _ _)
  · have key : resK P a' h' fn.results.toList (fun us => oneK us fun u => Q u h') → bodyPost P fn (fun e w'' => ∃ cv u I'' β'' h'', e = .returned cv ∧ Q u h'' ∧ Ext I β h w I'' β'' h'' w'' ∧ Rel I'' β'' h'' w'' ∧ VRel I'' β'' h''.length w'' u cv) .ret c' w' := by
      intro hk'
      obtain ⟨vs', us, h1, h2, h3⟩ := resK_sound hr hf _ _ hk'
      have hmm : (fn.results.mapM (m := Sem) (resF c'.tmps)).run P w' = .ok vs'.toArray w' := by
        have : fn.results = fn.results.toList.toArray := by simp
        rw [this, List.mapM_toArray, Sem.run_map, h1]
        rfl
      refine ⟨hf.defers, (if h : vs'.toArray.size = 1 then vs'.toArray[0] else .tuple vs'.toArray), ?_, ?_⟩
      · rw [results_eq]
        simp only [Sem.run_bind]
        rw [hmm]
        rfl
      · cases us with
        | nil =>
          have := h2.none
          subst this
          exact ⟨_, _, I', β', h', rfl, h3, he, hr, .tup [] #[] rfl (fun j u v h => by simp at h)⟩
        | cons u us =>
          obtain ⟨v, vs2, rfl, h4, h5⟩ := h2.head
          cases us with
          | nil =>
            have := h5.none
            subst this
            exact ⟨_, _, I', β', h', rfl, h3, he, hr, by simpa using h4⟩
          | cons u2 us =>
            obtain ⟨v2, vs3, rfl, h6, h7⟩ := h5.head
            refine ⟨_, _, I', β', h', rfl, h3, he, hr, ?_⟩
            have h8 := VRels.cons h4 (VRels.cons h6 h7)
            simp only [List.size_toArray, List.length_cons]
            rw [dif_neg (by omega)]
            exact .tup _ _ (by simp [h7.1]) (fun j u v hu hv => h8.2 j u v hu (by simpa using hv))
    cases e with
    | normal => exact key hk'
    | ret => exact key hk'
    | _ => exact hk'.elim
end
end Go.AL
end
section
namespace Go.AL
set_option linter.unusedVariables false
set_option linter.unusedSimpArgs false
set_option linter.unnecessarySimpa false
mutual
def AV.pure : AV → Bool
  | .op .. => false
  | .osl .. => false
  | .om _ => false
  | .fn _ fs cs => pures fs && pures cs
  | .ifc _ v => v.pure
  | .agg cs => pures cs
  | .tup cs => pures cs
  | .int .. => true
  | .bool _ => true
  | .str _ => true
  | .flt .. => true
  | .nilp => true
  | .nils => true
  | .nilf => true
  | .nili => true
  | .nilm => true
  | .e0 => true
  | .ip .. => true
  | .isl .. => true
  | .any => false
def pures : List AV → Bool
  | [] => true
  | v :: r => v.pure && pures r
end
theorem pures_get {l : List AV} (h : pures l = true) {j : Nat} {u : AV} (hj : l[j]? = some u) : u.pure = true := by
  induction l generalizing j with
  | nil => simp at hj
  | cons v r ih =>
    simp only [pures, Bool.and_eq_true] at h
    cases j with
    | zero => simp at hj; subst hj; exact h.1
    | succ j => simp at hj; exact ih h.2 hj
theorem VRel.toI {I : Nat → Prop} {β : Nat → Nat} {N : Nat} {w : World} {u : AV} {v : Value} (h : VRel I β N w u v) (hp : u.pure = true) : IRel I w u v := by
  induction h with
  | imm u v h => exact h
  | any _ => simp [AV.pure] at hp
  | op _ _ _ _ _ => simp [AV.pure] at hp
  | osl _ _ _ _ _ _ _ _ _ => simp [AV.pure] at hp
  | om _ _ => simp [AV.pure] at hp
  | fn f fs cs fs' cs' h1 h2 _ _ ih1 ih2 =>
    simp only [AV.pure, Bool.and_eq_true] at hp
    exact .fn f fs cs fs' cs' h1 h2 (fun j u v hu hv => ih1 j u v hu hv (pures_get hp.1 hu)) (fun j u v hu hv => ih2 j u v hu hv (pures_get hp.2 hu))
  | ifc t u v _ ih => exact .ifc t u v (ih (by simpa [AV.pure] using hp))
  | agg cs cs' h1 h2 _ ih => exact .agg cs cs' h1 h2 (fun j u v hu hv => ih j u v hu hv (pures_get (by simpa [AV.pure] using hp) hu))
  | tup cs cs' h1 _ ih => exact .tup cs cs' h1 (fun j u v hu hv => ih j u v hu hv (pures_get (by simpa [AV.pure] using hp) hu))
inductive Frz (h : Heap) : AV → AV → Prop
  | pure (u : AV) : u.pure = true → Frz h u u
  | nils (k : Nat) : Frz h .nils (.isl k [])
  | osl (id k i len cap : Nat) (ex ex' : Bool) (es es' : List (List AV)) : h[id]? = some (.arr k es ex') → i + len ≤ es.length → es'.length = len →
      (∀ (j : Nat) (e e' : List AV), es[i + j]? = some e → es'[j]? = some e' → e'.length = e.length) →
      (∀ (j : Nat) (e e' : List AV) (q : Nat) (u u' : AV), es[i + j]? = some e → es'[j]? = some e' → e[q]? = some u → e'[q]? = some u' → Frz h u u') → Frz h (.osl id k i len cap ex) (.isl k es')
  | op (id k e off : Nat) (ex' : Bool) (es : List (List AV)) (c c' : List AV) : h[id]? = some (.arr k es ex') → es[e]? = some c → c'.length = c.length →
      (∀ (q : Nat) (u u' : AV), c[q]? = some u → c'[q]? = some u' → Frz h u u') → Frz h (.op id k e off) (.ip c' off)
  | fn (f : Fn) (fs cs fs' cs' : List AV) : fs'.length = fs.length → cs'.length = cs.length → (∀ (q : Nat) (u u' : AV), fs[q]? = some u → fs'[q]? = some u' → Frz h u u') → (∀ (q : Nat) (u u' : AV), cs[q]? = some u → cs'[q]? = some u' → Frz h u u') →
      Frz h (.fn f fs cs) (.fn f fs' cs')
  | ifc (t : TypeId) (u u' : AV) : Frz h u u' → Frz h (.ifc t u) (.ifc t u')
  | agg (cs cs' : List AV) : cs'.length = cs.length → (∀ (q : Nat) (u u' : AV), cs[q]? = some u → cs'[q]? = some u' → Frz h u u') → Frz h (.agg cs) (.agg cs')
  | tup (cs cs' : List AV) : cs'.length = cs.length → (∀ (q : Nat) (u u' : AV), cs[q]? = some u → cs'[q]? = some u' → Frz h u u') → Frz h (.tup cs) (.tup cs')
def IO (I : Nat → Prop) (β : Nat → Nat) (h : Heap) : Nat → Prop := fun b => I b ∨ Own h β b
theorem getElem?_lt {α : Type} {l l' : List α} (h : l'.length = l.length) {j : Nat} {u : α} (hj : l'[j]? = some u) : ∃ v, l[j]? = some v := by
  have := (List.getElem?_eq_some_iff.1 hj).1
  exact ⟨l[j]'(by omega), List.getElem?_eq_getElem (by omega)⟩
theorem Frz.rel {I : Nat → Prop} {β : Nat → Nat} {h : Heap} {w : World} (r : Rel I β h w) {u u' : AV} (hf : Frz h u u') : ∀ {v : Value}, VRel I β h.length w u v → IRel (IO I β h) w u' v := by
  induction hf with
  | pure u hp => intro v hv; exact (hv.toI hp).mono (fun b hb => .inl hb) (fun _ _ => rfl)
  | nils k => intro v hv; rw [hv.nils_inv]; exact .isl0 k none 0
  | osl id k i len cap ex ex' es es' hid hle hl hlen _ ih =>
    intro v hv
    obtain ⟨c, n, rfl, hidl, h1, h2, h3, h4, h5⟩ := hv.osl_inv
    obtain ⟨q1, q2, cur, t, hb, hk, hs, _, hcell⟩ := r.obj id _ hid (by simp)
    cases es' with
    | nil => simp at hl; subst hl; exact .isl0 _ _ _
    | cons e0 es0 =>
      rw [← hl]
      refine .isl k (e0 :: es0) (β id) (i * k) c (fun j q => (cur[(i + j) * k + q]?).getD undef) (by simp) (by omega) (.inr ⟨id, _, hid, by simp, rfl⟩) (fun j e' he' => ?_) (fun j e' q u' he' hu' => ?_) (fun j e' q u' he' hu' => ?_) (fun j e' q u' he' hu' => ?_)
      all_goals
        have hj := (List.getElem?_eq_some_iff.1 he').1
        have he : es[i + j]? = some (es[i + j]'(by omega)) := List.getElem?_eq_getElem (by omega)
        have hll := hlen j _ e' he he'
      · rw [hll]; exact hk _ _ he
      all_goals
        have hq := (List.getElem?_eq_some_iff.1 hu').1
        have hu : (es[i + j]'(by omega))[q]? = some ((es[i + j]'(by omega))[q]'(by omega)) := List.getElem?_eq_getElem (by omega)
        obtain ⟨v, e1, e2, e3⟩ := hcell _ _ q _ he hu
      · rw [cell_of_block hb, show i * k + (j * k + q) = (i + j) * k + q by rw [Nat.add_mul]; omega, e1]; rfl
      · simp only [e1, Option.getD_some]; exact e3
      · simp only [e1, Option.getD_some]; exact ih j _ e' q _ u' he he' hu hu' e2
  | op id k e off ex' es c c' hid he hl _ ih =>
    intro v hv
    obtain ⟨rfl, hidl⟩ := hv.op_inv
    obtain ⟨vs, hvl, hc, h1, hr⟩ := elem_cells r hid he
    refine .ip c' off (β id) (e * k) vs (.inr ⟨id, _, hid, by simp, rfl⟩) (by omega) hc h1 (fun j u' v hu' hv => ?_)
    obtain ⟨u, hu⟩ := getElem?_lt hl hu'
    exact ih j u u' hu hu' (hr j u v hu hv)
  | fn f fs cs fs' cs' h1 h2 _ _ ih1 ih2 =>
    intro v hv
    obtain ⟨xs, ys, rfl, h3, h4⟩ := hv.fn_inv
    refine .fn f fs' cs' xs ys (by have := h3.1; simp at this; omega) (by have := h4.1; simp at this; omega) (fun j u' v hu' hv => ?_) (fun j u' v hu' hv => ?_)
    · obtain ⟨u, hu⟩ := getElem?_lt h1 hu'
      exact ih1 j u u' hu hu' (h3.2 j u v hu (by simpa using hv))
    · obtain ⟨u, hu⟩ := getElem?_lt h2 hu'
      exact ih2 j u u' hu hu' (h4.2 j u v hu (by simpa using hv))
  | ifc t u u' _ ih =>
    intro v hv
    obtain ⟨v', rfl, hv'⟩ := hv.ifc_inv
    exact .ifc t u' v' (ih hv')
  | agg cs cs' h1 _ ih =>
    intro v hv
    obtain ⟨xs, rfl, h2, h3, h4⟩ := hv.agg_inv
    refine .agg cs' xs (by omega) h3 (fun j u' v hu' hv => ?_)
    obtain ⟨u, hu⟩ := getElem?_lt h1 hu'
    exact ih j u u' hu hu' (h4 j u v hu hv)
  | tup cs cs' h1 _ ih =>
    intro v hv
    obtain ⟨xs, rfl, h2, h4⟩ := hv.tup_inv
    refine .tup cs' xs (by omega) (fun j u' v hu' hv => ?_)
    obtain ⟨u, hu⟩ := getElem?_lt h1 hu'
    exact ih j u u' hu hu' (h4 j u v hu hv)
theorem Frz.flat {h : Heap} {id k i len cap : Nat} {ex ex' : Bool} {es : List (List AV)} (hid : h[id]? = some (.arr k es ex')) (hle : i + len ≤ es.length) (hp : ∀ e, e ∈ es → pures e = true) : Frz h (.osl id k i len cap ex) (.isl k ((es.drop i).take len)) := by
  have key : ∀ (j : Nat) (e e' : List AV), es[i + j]? = some e → ((es.drop i).take len)[j]? = some e' → e' = e := by
    intro j e e' h1 h2
    rw [List.getElem?_take] at h2
    split at h2
    · rw [List.getElem?_drop, h1] at h2; injection h2 with h2; exact h2.symm
    · cases h2
  refine .osl id k i len cap ex ex' es _ hid hle (by simp; omega) (fun j e e' h1 h2 => by rw [key j e e' h1 h2]) (fun j e e' q u u' h1 h2 h3 h4 => ?_)
  have := key j e e' h1 h2
  subst this
  rw [h3] at h4
  injection h4 with h4
  subst h4
  exact .pure _ (pures_get (hp _ (List.mem_of_getElem? h1)) h3)
theorem Frz.whole {h : Heap} {id k cap : Nat} {ex ex' : Bool} {es : List (List AV)} (hid : h[id]? = some (.arr k es ex')) (hp : ∀ e, e ∈ es → pures e = true) {len : Nat} (hl : len = es.length) : Frz h (.osl id k 0 len cap ex) (.isl k es) := by
  subst hl
  have := Frz.flat (h := h) (id := id) (k := k) (i := 0) (len := es.length) (cap := cap) (ex := ex) (ex' := ex') hid (by simp) hp
  simpa using this
def IRels (I : Nat → Prop) (w : World) (us : List AV) (vs : List Value) : Prop :=
  us.length = vs.length ∧ ∀ (j : Nat) (u : AV) (v : Value), us[j]? = some u → vs[j]? = some v → IRel I w u v
structure PExt (I : Nat → Prop) (w : World) (I' : Nat → Prop) (w' : World) : Prop where
  os : w'.os = w.os
  tape : w'.tape = w.tape
  output : w'.output = w.output
  size : w.heap.size ≤ w'.heap.size
  keep : ∀ b, b < w.heap.size → w'.heap[b]? = w.heap[b]?
  sub : ∀ b, I b → I' b
  new : ∀ b, I' b → I b ∨ w.heap.size ≤ b
  lt : ∀ b, I' b → b < w'.heap.size
def APure (P : Program) (f : FuncId) (args : List AV) (r : AV) : Prop :=
  good P f = true ∧ ∀ (I : Nat → Prop) (w : World) (vs : List Value), (∀ b, I b → b < w.heap.size) → IRels I w args vs →
    Calls P f vs.toArray w fun e w' => ∃ cv I', e = .returned cv ∧ PExt I w I' w' ∧ IRel I' w' r cv
section
variable {P : Program}
theorem own_nil {β : Nat → Nat} {b : Nat} : ¬ Own [] β b := fun ⟨id, o, h, _⟩ => by simp at h
theorem apure_of {f : FuncId} {args : List AV} {r : AV} (h : ACalls P f args [] fun v h' => Frz h' v r) : APure P f args r := by
  refine ⟨h.1, fun I w vs hI hv => ?_⟩
  refine (h.2 I (fun _ => 0) w vs ⟨hI, fun id o h => by simp at h, fun id id' o o' h => by simp at h⟩ ⟨hv.1, fun j u v hu hv' => .imm _ _ (hv.2 j u v hu hv')⟩).mono ?_
  rintro e w' ⟨cv, u, I', β', h', rfl, hf, he, hr, hvr⟩
  refine ⟨cv, IO I' β' h', rfl, ⟨he.os, he.tape, he.output, he.size, fun b hb => he.keep b hb own_nil, fun b hb => .inl (he.sub b hb), fun b hb => ?_, fun b hb => ?_⟩, hf.rel hr hvr⟩
  · rcases hb with hb | hb
    · rcases he.immnew b hb with h1 | h1 | h1
      · exact .inl h1
      · exact absurd h1 own_nil
      · exact .inr h1
    · rcases he.own b hb with h1 | h1
      · exact absurd h1 own_nil
      · exact .inr h1
  · rcases hb with hb | ⟨id, o, h1, h2, rfl⟩
    · exact hr.imm b hb
    · exact (hr.obj id o h1 h2).1
theorem Rel.pext {I I' : Nat → Prop} {β : Nat → Nat} {h : Heap} {w w' : World} (r : Rel I β h w) {J : Nat → Prop} (hJ : ∀ b, J b → b < w.heap.size) (hp : PExt J w I' w') :
    (∀ b, I b → J b) → Ext I β h w (fun b => I b ∨ (I' b ∧ w.heap.size ≤ b)) β h w' ∧ Rel (fun b => I b ∨ (I' b ∧ w.heap.size ≤ b)) β h w' := by
  intro hIJ
  have hbs : ∀ b n, bsize w b = some n → bsize w' b = some n := fun b n hb => by
    have hlt : b < w.heap.size := by
      unfold bsize at hb
      split at hb
      · rename_i h1; exact (Array.getElem?_eq_some_iff.1 h1).1
      · simp at hb
    rw [bsize_of_heap (hp.keep b hlt)]
    exact hb
  have hm : ∀ u v, VRel I β h.length w u v → VRel (fun b => I b ∨ (I' b ∧ w.heap.size ≤ b)) β h.length w' u v := fun u v hv =>
    hv.mono (fun _ x => .inl x) (fun b hb => hp.keep b (r.imm b hb)) (Nat.le_refl _) (fun _ _ => rfl) hbs
  refine ⟨⟨hp.os, hp.tape, hp.output, hp.size, Nat.le_refl _, fun _ _ => rfl, fun _ x => .inl x, fun b hb => hb.imp id (fun h => .inr h.2), fun _ x => .inl x, fun b hb _ => hp.keep b hb, hbs⟩, ⟨fun b hb => ?_, fun id o h1 h2 => ?_, r.inj⟩⟩
  · rcases hb with hb | hb
    · have := r.imm b hb; have := hp.size; omega
    · exact hp.lt b hb.1
  · obtain ⟨q1, q2, q3⟩ := r.obj id o h1 h2
    refine ⟨by have := hp.size; omega, ?_, by rw [hp.keep _ q1]; exact q3.mono hm⟩
    rintro (h | h)
    · exact q2 h
    · omega
theorem acalls_pure {f : FuncId} {args : List AV} {r : AV} (hp : APure P f args r) (ha : pures args = true) {h : Heap} {Q : AV → Heap → Prop} (hq : Q r h) : ACalls P f args h Q := by
  refine ⟨hp.1, fun I β w vs rr hv => ?_⟩
  refine (hp.2 I w vs rr.imm ⟨hv.1, fun j u v hu hv' => (hv.2 j u v hu hv').toI (pures_get ha hu)⟩).mono ?_
  rintro e w' ⟨cv, I', rfl, he, hr⟩
  obtain ⟨h1, h2⟩ := rr.pext rr.imm he (fun _ x => x)
  refine ⟨cv, r, _, β, h, rfl, hq, h1, h2, .imm _ _ (hr.mono (fun b hb => ?_) (fun _ _ => rfl))⟩
  rcases he.new b hb with h3 | h3
  · exact .inl h3
  · exact .inr ⟨hb, h3⟩
mutual
def AV.flat : AV → Bool
  | .int .. => true
  | .bool _ => true
  | .str _ => true
  | .flt .. => true
  | .nilp => true
  | .nils => true
  | .nilf => true
  | .nili => true
  | .nilm => true
  | .e0 => true
  | .tup cs => flats cs
  | .agg cs => flats cs
  | .ip .. => false
  | .isl .. => false
  | .op .. => false
  | .osl .. => false
  | .om _ => false
  | .fn .. => false
  | .ifc .. => false
  | .any => false
def flats : List AV → Bool
  | [] => true
  | v :: r => v.flat && flats r
end
theorem flats_get {l : List AV} (h : flats l = true) {j : Nat} {u : AV} (hj : l[j]? = some u) : u.flat = true := by
  induction l generalizing j with
  | nil => simp at hj
  | cons v r ih =>
    simp only [flats, Bool.and_eq_true] at h
    cases j with
    | zero => simp at hj; subst hj; exact h.1
    | succ j => simp at hj; exact ih h.2 hj
theorem IRel.flat {I I' : Nat → Prop} {w w' : World} {u : AV} {v : Value} (h : IRel I w u v) (hf : u.flat = true) : IRel I' w' u v := by
  induction h with
  | int k n => exact .int k n
  | bool b => exact .bool b
  | str s => exact .str s
  | flt k n => exact .flt k n
  | nilp => exact .nilp
  | nils => exact .nils
  | nilf => exact .nilf
  | nili => exact .nili
  | nilm => exact .nilm
  | e0 A => exact .e0 A
  | agg cs cs' h1 h2 _ ih => exact .agg cs cs' h1 h2 (fun j u v hu hv => ih j u v hu hv (flats_get (by simpa [AV.flat] using hf) hu))
  | tup cs cs' h1 _ ih => exact .tup cs cs' h1 (fun j u v hu hv => ih j u v hu hv (flats_get (by simpa [AV.flat] using hf) hu))
  | _ => simp [AV.flat] at hf
def Frzs (h : Heap) (us us' : List AV) : Prop := us'.length = us.length ∧ ∀ (q : Nat) (u u' : AV), us[q]? = some u → us'[q]? = some u' → Frz h u u'
theorem Frzs.nil {h : Heap} : Frzs h [] [] := ⟨rfl, fun q u u' h => by simp at h⟩
theorem Frzs.cons {h : Heap} {u u' : AV} {us us' : List AV} (h1 : Frz h u u') (h2 : Frzs h us us') : Frzs h (u :: us) (u' :: us') := by
  refine ⟨by simp [h2.1], fun q x x' hx hx' => ?_⟩
  cases q with
  | zero => simp at hx hx'; subst hx hx'; exact h1
  | succ q => simp at hx hx'; exact h2.2 q x x' hx hx'
theorem acalls_lend {f : FuncId} {args args' : List AV} {r : AV} {h : Heap} (hp : APure P f args' r) (ha : Frzs h args args') (hr : r.flat = true) {Q : AV → Heap → Prop} (hq : Q r h) : ACalls P f args h Q := by
  refine ⟨hp.1, fun I β w vs rr hv => ?_⟩
  have hJ : ∀ b, IO I β h b → b < w.heap.size := by
    rintro b (hb | ⟨id, o, h1, h2, rfl⟩)
    · exact rr.imm b hb
    · exact (rr.obj id o h1 h2).1
  refine (hp.2 (IO I β h) w vs hJ ⟨by rw [ha.1]; exact hv.1, fun j u' v hu hv' => ?_⟩).mono ?_
  · obtain ⟨u, hu0⟩ := getElem?_lt ha.1 hu
    exact (ha.2 j u u' hu0 hu).rel rr (hv.2 j u v hu0 hv')
  · rintro e w' ⟨cv, I', rfl, he, hrr⟩
    obtain ⟨h1, h2⟩ := rr.pext hJ he (fun _ x => .inl x)
    exact ⟨cv, r, _, β, h, rfl, hq, h1, h2, .imm _ _ (hrr.flat hr)⟩
end
end Go.AL
end
section
namespace Go.AL
set_option linter.unusedVariables false
set_option linter.unusedSimpArgs false
def mk {α : Type} (x : α) : α := x
theorem mk_eq {α : Type} (x : α) : mk x = x := Eq.trans (Eq.refl x) (Eq.refl x)
def optK {α : Type} (o : Option α) (K : α → Prop) : Prop := match o with | some x => K x | none => False
theorem optK_some {α : Type} {x : α} {K : α → Prop} : optK (some x) K = K x := (rfl)
theorem optK_eq {α : Type} {o : Option α} {K : α → Prop} : (∃ x, o = some x ∧ K x) = optK o K := by
  cases o <;> simp [optK]
def condK (v : AV) (T E : Prop) : Prop := match v with | .bool b => (b = true → T) ∧ (b = false → E) | _ => False
theorem condK_true {T E : Prop} : condK (.bool true) T E = T := by simp [condK]
theorem condK_false {T E : Prop} : condK (.bool false) T E = E := by simp [condK]
theorem condK_dec {p : Prop} [Decidable p] {T E : Prop} : condK (.bool (decide p)) T E = ((p → T) ∧ (¬ p → E)) := by simp [condK]
theorem condK_not {b : Bool} {T E : Prop} : condK (.bool (!b)) T E = condK (.bool b) E T := by cases b <;> simp [condK]
theorem condK_beq {α : Type} [BEq α] [LawfulBEq α] {x y : α} {T E : Prop} : condK (.bool (x == y)) T E = ((x = y → T) ∧ (x ≠ y → E)) := by simp [condK]
theorem condK_bne {α : Type} [BEq α] [LawfulBEq α] {x y : α} {T E : Prop} : condK (.bool (x != y)) T E = ((x ≠ y → T) ∧ (x = y → E)) := by simp [condK]
theorem condK_getD {l : List Bool} {i : Nat} {d : Bool} {T E : Prop} : condK (.bool (l.getD i d)) T E = ((l.getD i d = true → T) ∧ (l.getD i d = false → E)) := (rfl)
section
variable {P : Program} {n : Nat} {pl : Nat → Plan} {Q : Exit → Fr → Heap → Prop} {a : Fr} {h : Heap}
theorem asx_skip : asx P n pl .skip Q a h = Q .normal a h := (rfl)
theorem asx_text {id : Nat} {l : List Oper} : asx P n pl (.region id l.toArray false) Q a h = aops P n l l a h fun a h => Q .normal a h := (rfl)
theorem asx_draw {id : Nat} {l : List Oper} : asx P n pl (.region id l.toArray true) Q a h = adrD P n l (pl id) a h fun a h => Q .normal a h := (rfl)
theorem asx_seq {x y : Code} : asx P n pl (.seq x y) Q a h = asx P n pl x (thenK (asx P n pl y Q) Q) a h := (rfl)
theorem asx_cond {c : Operand} {x y : Code} : asx P n pl (.cond c x y) Q a h = evK a c fun v => condK v (asx P n pl x Q a h) (asx P n pl y Q a h) := (rfl)
theorem asx_block {id : Nat} {c : Code} : asx P n pl (.block id c) Q a h = asx P n pl c (blockK id Q) a h := (rfl)
theorem asx_loop {c : Code} : asx P n pl (.loop c) Q a h = LoopK (asx P n pl c) Q a h := (rfl)
theorem asx_exit {id : Nat} : asx P n pl (.exit id) Q a h = Q (.exit id) a h := (rfl)
theorem asx_ret : asx P n pl .ret Q a h = Q .ret a h := (rfl)
theorem asx_label {l : Nat} : asx P n pl (.label l) Q a h = Q .normal a h := (rfl)
theorem then_normal {K : Fr → Heap → Prop} : thenK K Q .normal a h = K a h := (rfl)
theorem then_ret {K : Fr → Heap → Prop} : thenK K Q .ret a h = Q .ret a h := (rfl)
theorem then_exit {K : Fr → Heap → Prop} {j : Nat} : thenK K Q (.exit j) a h = Q (.exit j) a h := (rfl)
theorem block_normal {id : Nat} : blockK id Q .normal a h = Q .normal a h := (rfl)
theorem block_ret {id : Nat} : blockK id Q .ret a h = Q .ret a h := (rfl)
theorem block_exit {id : Nat} : blockK id Q (.exit id) a h = Q .normal a h := by simp [blockK]
theorem block_exit' {id j : Nat} (e : (j == id) = false) : blockK id Q (.exit j) a h = Q (.exit j) a h := by
  have : j ≠ id := by simpa using e
  simp [blockK, this]
variable {all rest : List Oper} {K : Fr → Heap → Prop} {op : Op} {ty : TypeId} {pos : String} {af : Array Edge} {dst : Option Tmp}
theorem aops_nil : aops P n all [] a h K = K a h := (rfl)
theorem aops_one : aops P n all (⟨dst, op, ty, pos, af, none⟩ :: rest) a h K = aop P op a h fun v h' => putK n dst a v fun a' => aops P n all rest a' h' K := (rfl)
def gdK (v : AV) (want : Bool) (T E : Prop) : Prop := match v with | .bool b => (match want with | true => condK (.bool b) T E | false => condK (.bool b) E T) | .tup [] => E | _ => False
@[congr] theorem gdK_cg {v v' : AV} {want : Bool} {T E : Prop} (e : mk v = v') : gdK v want T E = gdK v' want T E := by rw [← e]; rfl
theorem gdK_true {b : Bool} {T E : Prop} : gdK (.bool b) true T E = condK (.bool b) T E := (rfl)
theorem gdK_false {b : Bool} {T E : Prop} : gdK (.bool b) false T E = condK (.bool b) E T := (rfl)
theorem gdK_undef {want : Bool} {T E : Prop} : gdK .undef want T E = E := (rfl)
def guK (o : Option Tmp) (want : Bool) (a : Fr) (T E : Prop) : Prop := match o with | some t => gdK (a t) want T E | none => False
theorem guK_some {t : Tmp} {want : Bool} {T E : Prop} : guK (some t) want a T E = gdK (a t) want T E := (rfl)
theorem guardK_eq {j : Nat} {want : Bool} {T : Bool → Prop} : guardK all (some (j, want)) a T = guK (gslot all j) want a (T true) (T false) := by
  unfold guardK guK gdK
  simp only
  cases gslot all j with
  | none => rfl
  | some t =>
    simp only [condK]
    cases a t with
    | bool b => cases b <;> cases want <;> simp
    | tup l => cases l <;> rfl
    | _ => cases want <;> rfl
theorem guK_zero {t : Tmp} {g : Option (Nat × Bool)} {want : Bool} {T E : Prop} : guK (gslot (⟨some t, op, ty, pos, af, g⟩ :: rest) 0) want a T E = guK (some t) want a T E := (rfl)
theorem guK_succ {o : Oper} {j : Nat} {want : Bool} {T E : Prop} : guK (gslot (o :: rest) (j + 1)) want a T E = guK (gslot rest j) want a T E := (rfl)
theorem aops_if {j : Nat} {want : Bool} : aops P n all (⟨dst, op, ty, pos, af, some (j, want)⟩ :: rest) a h K = guK (gslot all j) want a (aop P op a h fun v h' => putK n dst a v fun a' => aops P n all rest a' h' K) (putK n dst a .undef fun a' => aops P n all rest a' h K) :=
  guardK_eq (T := fun run => match run with | true => aop P op a h fun v h' => putK n dst a v fun a' => aops P n all rest a' h' K | false => putK n dst a .undef fun a' => aops P n all rest a' h K)
theorem putK_none {v : AV} {K : Fr → Prop} : putK n none a v K = K a := (rfl)
theorem putK_some {d : Nat} {v : AV} {K : Fr → Prop} (e : d < n) : putK n (some d) a v K = K (upd a d v) := by
  simp [putK, e]
@[congr] theorem putK_cg {v v' : AV} {K : Fr → Prop} (e : mk v = v') : putK n dst a v K = putK n dst a v' K := by rw [← e]; rfl
@[congr] theorem condK_cg {v v' : AV} {T E : Prop} (e : mk v = v') : condK v T E = condK v' T E := by rw [← e]; rfl
@[congr] theorem optK_cg {α : Type} {o o' : Option α} {K : α → Prop} (e : mk o = o') : optK o K = optK o' K := by rw [← e]; rfl
def exK (T : AV → Prop) (K : AV → Prop) : Prop := ∃ v, T v ∧ K v
@[congr] theorem exK_cg {T T' : AV → Prop} {K : AV → Prop} (e : mk T = T') : exK T K = exK T' K := by rw [← e]; rfl
theorem exK_and {A : Prop} {T K : AV → Prop} : exK (fun v => A ∧ T v) K = (A ∧ exK T K) := by simp [exK, and_assoc]
theorem exK_eq {u : AV} {K : AV → Prop} : exK (fun v => u = v) K = K u := by simp [exK]
def atK (l : List Oper) (i : Nat) (K : Oper → Prop) : Prop := match l[i]? with | some o => K o | none => False
theorem atK_zero {o : Oper} {K : Oper → Prop} : atK (o :: rest) 0 K = K o := (rfl)
theorem atK_succ {o : Oper} {i : Nat} {K : Oper → Prop} : atK (o :: rest) (i + 1) K = atK rest i K := (rfl)
def quK (q : Bool) (T E : Prop) : Prop := match q with | true => T | false => E
theorem quK_true {T E : Prop} : quK true T E = T := (rfl)
theorem quK_false {T E : Prop} : quK false T E = E := (rfl)
@[congr] theorem quK_cg {q q' : Bool} {T E : Prop} (e : mk q = q') : quK q T E = quK q' T E := by rw [← e]; rfl
def keepL (keep : Bool) (x : Nat × Fr × AV) (l : List (Nat × Fr × AV)) : List (Nat × Fr × AV) := match keep with | true => x :: l | false => l
def adrK (P : Program) (n : Nat) (all : List Oper) (i : Nat) (keep : Bool) (rs : List Nat) (rest : Plan) (a : Fr) (h : Heap) (done : List (Nat × Fr × AV)) (K : Fr → Heap → Prop) (dst : Option Tmp) (op : Op) : Prop :=
  quK (pureOp op) (exK (fun v => aop P op a h fun v' h' => v' = v ∧ h' = h) fun v => putK n dst a v fun a' => adr P n all rest a' h (keepL keep (i, a, v) done) K)
    (aop P op a h fun v h' => reK P all done h' rs ∧ putK n dst a v fun a' => adr P n all rest a' h' done K)
def adrG (P : Program) (n : Nat) (all : List Oper) (i : Nat) (keep : Bool) (rs : List Nat) (rest : Plan) (a : Fr) (h : Heap) (done : List (Nat × Fr × AV)) (K : Fr → Heap → Prop) (o : Oper) : Prop :=
  match o with
  | ⟨dst, op, _, _, _, none⟩ => adrK P n all i keep rs rest a h done K dst op
  | ⟨dst, op, _, _, _, some (j, want)⟩ => guK (gslot all j) want a (adrK P n all i keep rs rest a h done K dst op) (putK n dst a .undef fun a' => adr P n all rest a' h done K)
@[congr] theorem adr_cg {pl pl' : Plan} {done : List (Nat × Fr × AV)} (e : mk pl = pl') : adr P n all pl a h done K = adr P n all pl' a h done K := by rw [← e]; rfl
theorem adrD_nil : adrD P n all [] a h K = K a h := (rfl)
theorem adrD_none {i : Nat} {keep : Bool} {rest : Plan} : adrD P n all ((i, keep, []) :: rest) a h K = adr P n all ((i, keep, []) :: rest) a h [] K := (rfl)
theorem adrD_one {i x : Nat} {keep : Bool} {rest : Plan} : adrD P n all ((i, keep, [x]) :: rest) a h K = adr P n all ((i, keep, [x]) :: rest) a h [] K := (rfl)
theorem adrD_more {i x y z : Nat} {l : List Nat} {keep : Bool} {rest : Plan} : adrD P n all ((i, keep, x :: y :: z :: l) :: rest) a h K = adr P n all ((i, keep, x :: y :: z :: l) :: rest) a h [] K := (rfl)
theorem adrD_two {p q : Nat} {keep : Bool} {rest : Plan} : adrD P n all ((1000000, keep, [p, q]) :: rest) a h K = adrX P n all (rest.take p) a h [] fun a' d => adr P n all ((rest.drop p).take q) a' h d K ∧ adr P n all (rest.drop (p + q)) a' h d K := (rfl)
@[congr] theorem adrX_cg {pl pl' : Plan} {done : List (Nat × Fr × AV)} {K : Fr → List (Nat × Fr × AV) → Prop} (e : mk pl = pl') : adrX P n all pl a h done K = adrX P n all pl' a h done K := by rw [← e]; rfl
theorem adrX_nil {done : List (Nat × Fr × AV)} {K : Fr → List (Nat × Fr × AV) → Prop} : adrX P n all [] a h done K = K a done := (rfl)
def adrXG (P : Program) (n : Nat) (all : List Oper) (i : Nat) (keep : Bool) (rest : Plan) (a : Fr) (h : Heap) (done : List (Nat × Fr × AV)) (K : Fr → List (Nat × Fr × AV) → Prop) (o : Oper) : Prop :=
  match o with
  | ⟨dst, op, _, _, _, none⟩ => exK (fun v => aop P op a h fun v' h' => v' = v ∧ h' = h) fun v => putK n dst a v fun a' => adrX P n all rest a' h (keep0 keep (i, a, v) done) K
  | ⟨dst, op, _, _, _, some (j, want)⟩ => guK (gslot all j) want a (exK (fun v => aop P op a h fun v' h' => v' = v ∧ h' = h) fun v => putK n dst a v fun a' => adrX P n all rest a' h (keep0 keep (i, a, v) done) K) (putK n dst a .undef fun a' => adrX P n all rest a' h done K)
theorem adrX_cons {done : List (Nat × Fr × AV)} {i : Nat} {keep : Bool} {rs : List Nat} {rest : Plan} {K : Fr → List (Nat × Fr × AV) → Prop} : adrX P n all ((i, keep, rs) :: rest) a h done K = atK all i (adrXG P n all i keep rest a h done K) := by
  unfold atK adrX
  cases all[i]? with
  | none => rfl
  | some o =>
    obtain ⟨dst, op, ty, pos, af, g⟩ := o
    cases g with
    | none =>
      simp only [adrXG, guardK, exK]
    | some g =>
      obtain ⟨j, want⟩ := g
      simp only [adrXG]
      rw [guardK_eq]
      simp only [exK]
theorem adrXG_one {done : List (Nat × Fr × AV)} {i : Nat} {keep : Bool} {rest : Plan} {K : Fr → List (Nat × Fr × AV) → Prop} : adrXG P n all i keep rest a h done K ⟨dst, op, ty, pos, af, none⟩ = exK (fun v => aop P op a h fun v' h' => v' = v ∧ h' = h) fun v => putK n dst a v fun a' => adrX P n all rest a' h (keep0 keep (i, a, v) done) K := (rfl)
theorem adrXG_if {done : List (Nat × Fr × AV)} {i j : Nat} {keep want : Bool} {rest : Plan} {K : Fr → List (Nat × Fr × AV) → Prop} : adrXG P n all i keep rest a h done K ⟨dst, op, ty, pos, af, some (j, want)⟩ = guK (gslot all j) want a (exK (fun v => aop P op a h fun v' h' => v' = v ∧ h' = h) fun v => putK n dst a v fun a' => adrX P n all rest a' h (keep0 keep (i, a, v) done) K) (putK n dst a .undef fun a' => adrX P n all rest a' h done K) := (rfl)
theorem keep0_true {x : Nat × Fr × AV} {l : List (Nat × Fr × AV)} : keep0 true x l = x :: l := (rfl)
theorem keep0_false {x : Nat × Fr × AV} {l : List (Nat × Fr × AV)} : keep0 false x l = l := (rfl)
theorem adr_nil {done : List (Nat × Fr × AV)} : adr P n all [] a h done K = K a h := (rfl)
theorem adr_cons {done : List (Nat × Fr × AV)} {i : Nat} {keep : Bool} {rs : List Nat} {rest : Plan} : adr P n all ((i, keep, rs) :: rest) a h done K = atK all i (adrG P n all i keep rs rest a h done K) := by
  unfold atK adr
  cases all[i]? with
  | none => rfl
  | some o =>
    obtain ⟨dst, op, ty, pos, af, g⟩ := o
    cases g with
    | none =>
      simp only [adrG, adrK, guardK, quK, exK]
      cases pureOp op <;> cases keep <;> rfl
    | some g =>
      obtain ⟨j, want⟩ := g
      simp only [adrG, adrK]
      rw [guardK_eq]
      simp only [quK, exK]
      cases pureOp op <;> cases keep <;> rfl
theorem adrG_one {done : List (Nat × Fr × AV)} {i : Nat} {keep : Bool} {rs : List Nat} {rest : Plan} : adrG P n all i keep rs rest a h done K ⟨dst, op, ty, pos, af, none⟩ = adrK P n all i keep rs rest a h done K dst op := (rfl)
theorem adrG_if {done : List (Nat × Fr × AV)} {i j : Nat} {keep want : Bool} {rs : List Nat} {rest : Plan} : adrG P n all i keep rs rest a h done K ⟨dst, op, ty, pos, af, some (j, want)⟩ = guK (gslot all j) want a (adrK P n all i keep rs rest a h done K dst op) (putK n dst a .undef fun a' => adr P n all rest a' h done K) := (rfl)
theorem adrK_eq {done : List (Nat × Fr × AV)} {i : Nat} {keep : Bool} {rs : List Nat} {rest : Plan} : adrK P n all i keep rs rest a h done K dst op = quK (pureOp op) (exK (fun v => aop P op a h fun v' h' => v' = v ∧ h' = h) fun v => putK n dst a v fun a' => adr P n all rest a' h (keepL keep (i, a, v) done) K)
    (aop P op a h fun v h' => reK P all done h' rs ∧ putK n dst a v fun a' => adr P n all rest a' h' done K) := rfl
theorem keepL_true {x : Nat × Fr × AV} {l : List (Nat × Fr × AV)} : keepL true x l = x :: l := (rfl)
theorem keepL_false {x : Nat × Fr × AV} {l : List (Nat × Fr × AV)} : keepL false x l = l := (rfl)
def doneK (done : List (Nat × Fr × AV)) (j : Nat) (K : Fr → AV → Prop) : Prop := match done.find? (fun x => x.1 == j) with | some (_, a, v) => K a v | none => True
theorem doneK_hit {done : List (Nat × Fr × AV)} {j : Nat} {v : AV} {K : Fr → AV → Prop} : doneK ((j, a, v) :: done) j K = K a v := by simp [doneK]
theorem doneK_miss {done : List (Nat × Fr × AV)} {i j : Nat} {v : AV} {K : Fr → AV → Prop} (e : (i == j) = false) : doneK ((i, a, v) :: done) j K = doneK done j K := by simp [doneK, List.find?_cons, e]
def atT (l : List Oper) (i : Nat) (K : Oper → Prop) : Prop := match l[i]? with | some o => K o | none => True
theorem atT_zero {o : Oper} {K : Oper → Prop} : atT (o :: rest) 0 K = K o := (rfl)
theorem atT_succ {o : Oper} {i : Nat} {K : Oper → Prop} : atT (o :: rest) (i + 1) K = atT rest i K := (rfl)
theorem reK_cons {done : List (Nat × Fr × AV)} {j : Nat} {r : List Nat} : reK P all done h (j :: r) = (doneK done j (fun a v => atT all j fun o => aop P o.op a h fun v' h' => v' = v ∧ h' = h) ∧ reK P all done h r) := by
  show ((match done.find? (fun x => x.1 == j), all[j]? with | some (_, a, v), some o => aop P o.op a h fun v' h' => v' = v ∧ h' = h | _, _ => True) ∧ reK P all done h r) = _
  unfold doneK atT
  cases done.find? (fun x => x.1 == j) with
  | none => rfl
  | some x => cases all[j]? <;> rfl
theorem reK_nil {done : List (Nat × Fr × AV)} : reK P all done h [] = True := (rfl)
end
end Go.AL
end
section
namespace Go.AL
set_option linter.unusedVariables false
set_option linter.unusedSimpArgs false
section
variable {P : Program} {n : Nat} {a : Fr} {h : Heap}
section
variable {K : AV → Prop}
theorem evK_tmp {t : Tmp} : evK a (.tmp t) K = K (a t) := (rfl)
theorem evK_int {k : IntKind} {m : Int} : evK a (.const (.int k m)) K = K (.int k m) := (rfl)
theorem evK_bool {b : Bool} : evK a (.const (.bool b)) K = K (.bool b) := (rfl)
theorem evK_str {s : ByteArray} : evK a (.const (.string s)) K = K (.str s) := (rfl)
theorem evK_flt {k : FloatKind} {m : Nat} : evK a (.const (.float k m)) K = K (.flt k m) := (rfl)
theorem evK_nilp : evK a (.const (.pointer none)) K = K .nilp := (rfl)
theorem evK_nils : evK a (.const (.slice none 0 0)) K = K .nils := (rfl)
theorem evK_nilf : evK a (.const .nilFunc) K = K .nilf := (rfl)
theorem evK_nili : evK a (.const .nilIface) K = K .nili := (rfl)
theorem evK_nilm : evK a (.const (.map none)) K = K .nilm := (rfl)
theorem evK_undef : evK a (.const (.tuple #[])) K = K .undef := (rfl)
theorem evK_func {f : FuncId} : evK a (.func f) K = K (.fn (.func f) [] []) := (rfl)
theorem evsK_nil {K : List AV → Prop} : evsK a [] K = K [] := (rfl)
theorem evsK_cons {x : Operand} {r : List Operand} {K : List AV → Prop} : evsK a (x :: r) K = evK a x fun u => evsK a r fun us => K (u :: us) := (rfl)
theorem evpK_nil {K : List (Nat × AV) → Prop} : evpK a [] K = K [] := (rfl)
theorem evpK_cons {i : Nat} {x : Operand} {r : List (Nat × Operand)} {K : List (Nat × AV) → Prop} : evpK a ((i, x) :: r) K = evK a x fun u => evpK a r fun us => K ((i, u) :: us) := (rfl)
theorem evoK_none {K : Option AV → Prop} : evoK a none K = K none := (rfl)
theorem evoK_some {x : Operand} {K : Option AV → Prop} : evoK a (some x) K = evK a x fun u => K (some u) := (rfl)
end
section
variable {K : AV → Heap → Prop}
def letH (h : Heap) (K : Heap → Prop) : Prop := K h
@[congr] theorem letH_cg {h h' : Heap} {K : Heap → Prop} (e : mk h = h') : letH h K = letH h' K := by rw [← e]; rfl
theorem letH_eq {K : Heap → Prop} : letH h K = K h := (rfl)
theorem aop_move {x : Operand} : aop P (.move x) a h K = evK a x fun u => K u h := (rfl)
theorem aop_assign {x : Operand} : aop P (.assign x) a h K = evK a x fun u => K u h := (rfl)
theorem aop_pick {c x y : Operand} : aop P (.pick c x y) a h K = evK a c fun c => evK a x fun x => evK a y fun y => pickK c x y fun u => K u h := (rfl)
theorem aop_alloc {t : TypeId} : aop P (.alloc t) a h K = optK (zcells P t) fun cs => letH (h ++ [.arr cs.length [cs] true]) (K (.op h.length cs.length 0 0)) := by
  simp only [aop, optK_eq, letH]
theorem aop_box {t : TypeId} {x : Operand} : aop P (.box t x) a h K = evK a x fun u => cellsK u fun cs => letH (h ++ [.arr cs.length [cs] true]) (K (.op h.length cs.length 0 0)) := (rfl)
theorem aop_build {t : TypeId} {parts : List (Nat × Operand)} : aop P (.build t parts.toArray) a h K = evpK a parts fun us => optK (zcells P t) fun z => optK (fplaces P t) fun pl => fillK (fun i => pl[i]?) us z fun cs => K (.agg cs) h := by
  simp only [aop, optK_eq]
  congr 1
  funext us
  cases zcells P t <;> cases fplaces P t <;> simp [optK]
def repl {α : Type} : Nat → α → List α | 0, _ => [] | n + 1, x => x :: repl n x
theorem repl_zero {α : Type} {x : α} : repl 0 x = [] := (rfl)
theorem repl_succ {α : Type} {m : Nat} {x : α} : repl (m + 1) x = x :: repl m x := (rfl)
theorem repl_eq {α : Type} {x : α} : ∀ {m : Nat}, List.replicate m x = repl m x
  | 0 => rfl
  | m + 1 => by rw [List.replicate_succ, repl_succ, repl_eq]
theorem aop_buildSlice {t : TypeId} {len : Nat} {parts : List (Nat × Operand)} : aop P (.buildSlice t len parts.toArray) a h K = evpK a parts fun us => optK (telem P t) fun e => optK (zcells P e) fun z => len * z.length ≤ 16777216 ∧
      fillRK z.length us (repl len z) fun es => letH (h ++ [.arr z.length es true]) (K (.osl h.length z.length 0 len len true)) := by
  simp only [aop, letH, repl_eq]
  congr 1
  funext us
  cases he : telem P t with
  | none => simp [optK]
  | some e => cases hz : zcells P e <;> simp [optK, hz]
theorem aop_load {t : TypeId} {x : Operand} : aop P (.load t x) a h K = evK a x fun p => loadK P t h p fun u => K u h := (rfl)
theorem aop_store {t : TypeId} {p x : Operand} : aop P (.store t p x) a h K = evK a p fun p => evK a x fun u => storeK P t h p u fun h' => K .undef h' := (rfl)
theorem aop_nilCheck {x : Operand} : aop P (.nilCheck x) a h K = evK a x fun u => nilCheckK u fun u => K u h := (rfl)
theorem aop_bin {op : BinOp} {t t' : TypeId} {x y : Operand} : aop P (.binOp op t x y t') a h K = evK a x fun u => evK a y fun v => binAll P op t u v fun u => K u h := (rfl)
theorem aop_un {op : UnOp} {t : TypeId} {x : Operand} : aop P (.unOp op t x) a h K = evK a x fun u => unK op u fun u => K u h := (rfl)
theorem aop_convert {s d : TypeId} {x : Operand} : aop P (.convert s d x) a h K = evK a x fun u => convK P s d u fun u => K u h := (rfl)
theorem aop_makeFunc {f : Fn} {fs cs : List Operand} : aop P (.makeFunc f fs.toArray cs.toArray) a h K = evsK a fs fun fs => evsK a cs fun cs => K (.fn f fs cs) h := (rfl)
theorem aop_makeInterface {t : TypeId} {x : Operand} : aop P (.makeInterface t x) a h K = (tnotIface P t = true ∧ evK a x fun u => K (.ifc t u) h) := (rfl)
theorem aop_makeSlice {t : TypeId} {l c : Operand} : aop P (.makeSlice t l c) a h K = evK a l fun l => evK a c fun c => makeSliceK P t h l c K := (rfl)
theorem aop_slice {t : TypeId} {x : Operand} {lo hi : Option Operand} : aop P (.slice t x lo hi none) a h K = evK a x fun x => evoK a lo fun lo => evoK a hi fun hi => sliceAll P t x lo hi fun u => K u h := (rfl)
theorem aop_fieldAddr {s f : Nat} {x : Operand} : aop P (.fieldAddr s x f) a h K = evK a x fun p => fieldAddrK P s f p fun u => K u h := (rfl)
theorem aop_field {t f : Nat} {x : Operand} : aop P (.field t x f) a h K = evK a x fun u => fieldK P t f u fun u => K u h := (rfl)
theorem aop_indexAddr {t : TypeId} {x i : Operand} : aop P (.indexAddr t x i) a h K = evK a x fun x => evK a i fun i => indexAddrK P t x i fun u => K u h := (rfl)
theorem aop_index {t : TypeId} {x i : Operand} : aop P (.index t x i) a h K = evK a x fun u => evK a i fun i => indexK P t u i fun u => K u h := (rfl)
theorem aop_extract {x : Operand} {i : Nat} : aop P (.extract x i) a h K = evK a x fun u => extK u i fun u => K u h := (rfl)
theorem aop_call {f : Operand} {xs : List Operand} {ts : Array TypeId} : aop P (.call ⟨.value f, xs.toArray, ts⟩) a h K = evK a f fun f => evsK a xs fun us => callK P f us h K := (rfl)
theorem aop_len {x : Operand} {t : TypeId} : aop P (.call ⟨.builtin .len, #[x], #[t]⟩) a h K = evK a x fun u => lenK P t u fun u => K u h := (rfl)
theorem aop_cap {x : Operand} {t : TypeId} : aop P (.call ⟨.builtin .cap, #[x], #[t]⟩) a h K = evK a x fun u => capK P t u fun u => K u h := (rfl)
theorem aop_min {xs : List Operand} {ts : Array TypeId} : aop P (.call ⟨.builtin .min, xs.toArray, ts⟩) a h K = evsK a xs fun us => minK imin us fun u => K u h := (rfl)
theorem aop_max {xs : List Operand} {ts : Array TypeId} : aop P (.call ⟨.builtin .max, xs.toArray, ts⟩) a h K = evsK a xs fun us => minK imax us fun u => K u h := (rfl)
theorem aop_clear {x : Operand} {t : TypeId} : aop P (.call ⟨.builtin .clear, #[x], #[t]⟩) a h K = evK a x fun u => clearK P t h u fun h' => K .undef h' := (rfl)
theorem aop_append {s x : Operand} {t t' : TypeId} : aop P (.call ⟨.builtin .append, #[s, x], #[t, t']⟩) a h K = evK a s fun s => evK a x fun x => appendK P t t' h s x K := (rfl)
end
section
variable {K : AV → Prop}
theorem fitK_i64 {z : Int} : fitK .i64 z K = ((-9223372036854775808 ≤ z ∧ z ≤ 9223372036854775807) ∧ K (.int .i64 z)) := (rfl)
theorem fitK_u64 {z : Int} : fitK .u64 z K = K (.int .u64 (IntKind.u64.wrap z)) := (rfl)
theorem fitK_u32 {z : Int} : fitK .u32 z K = K (.int .u32 (IntKind.u32.wrap z)) := (rfl)
theorem fitK_u8 {z : Int} : fitK .u8 z K = K (.int .u8 (IntKind.u8.wrap z)) := (rfl)
theorem fitK_i32 {z : Int} : fitK .i32 z K = K (.int .i32 (IntKind.i32.wrap z)) := (rfl)
def ldX (g : Option Bool) (s : Option Nat) (cells : List AV) (off : Nat) (K : AV → Prop) : Prop :=
  match g with
  | some true => optK s fun n => off + n ≤ cells.length ∧ K (.agg ((cells.drop off).take n))
  | some false => optK cells[off]? K
  | none => False
@[congr] theorem ldX_cg {g g' : Option Bool} {s s' : Option Nat} {cells cells' : List AV} {off off' : Nat} (e1 : mk g = g') (e2 : mk s = s') (e3 : mk cells = cells') (e4 : mk off = off') : ldX g s cells off K = ldX g' s' cells' off' K := by rw [← e1, ← e2, ← e3, ← e4]; rfl
theorem ldX_cell {s : Option Nat} {cells : List AV} {off : Nat} : ldX (some false) s cells off K = optK cells[off]? K := (rfl)
theorem ldX_agg {m : Nat} {cells : List AV} {off : Nat} : ldX (some true) (some m) cells off K = (off + m ≤ cells.length ∧ K (.agg ((cells.drop off).take m))) := (rfl)
theorem ldK_eq {t : TypeId} {cells : List AV} {off : Nat} : ldK P t cells off K = ldX (tagg P t) (tsize P t) cells off K := by
  unfold ldK ldX
  cases tagg P t with
  | none => rfl
  | some b => cases b <;> simp only [optK_eq]
theorem partK_eq {t : TypeId} {cells : List AV} {off : Nat} : partK P t cells off K = ldX (tagg P t) (tsize P t) cells off K := by
  unfold partK ldX
  cases tagg P t with
  | none => rfl
  | some b => cases b <;> simp only [optK_eq]
def objK (k : Nat) (o : Option Ob) (K : List (List AV) → Prop) : Prop := match o with | some (.arr k' es _) => k' = k ∧ K es | _ => False
@[congr] theorem objK_cg {k : Nat} {o o' : Option Ob} {K : List (List AV) → Prop} (e : mk o = o') : objK k o K = objK k o' K := by rw [← e]; rfl
theorem objK_some {k : Nat} {es : List (List AV)} {ex : Bool} {K : List (List AV) → Prop} : objK k (some (.arr k es ex)) K = K es := by simp [objK]
@[congr] theorem loadK_cg {t : TypeId} {h h' : Heap} {p p' : AV} (e1 : mk h = h') (e2 : mk p = p') : loadK P t h p K = loadK P t h' p' K := by rw [← e1, ← e2]; rfl
theorem loadK_ip {t : TypeId} {cells : List AV} {off : Nat} : loadK P t h (.ip cells off) K = ldX (tagg P t) (tsize P t) cells off K := ldK_eq
theorem objK_ex {k : Nat} {o : Option Ob} {K : List (List AV) → Prop} : (∃ es ex, o = some (.arr k es ex) ∧ K es) = objK k o K := by
  apply propext
  constructor
  · rintro ⟨es, ex, rfl, hk⟩; exact ⟨rfl, hk⟩
  · intro hk
    cases o with
    | none => exact hk.elim
    | some o =>
      cases o with
      | arr k' es ex => obtain ⟨rfl, hk⟩ := hk; exact ⟨es, ex, rfl, hk⟩
      | _ => exact hk.elim
theorem loadK_op {t : TypeId} {id k e off : Nat} : loadK P t h (.op id k e off) K = objK k h[id]? fun es => optK es[e]? fun c => ldX (tagg P t) (tsize P t) c off K := by
  unfold loadK
  simp only [optK_eq, ldK_eq]
  exact objK_ex
def faK (o : Nat) (p : AV) (K : AV → Prop) : Prop := match p with | .ip cells off => K (.ip cells (off + o)) | .op id k e off => K (.op id k e (off + o)) | _ => False
@[congr] theorem faK_cg {o : Nat} {p p' : AV} (e : mk p = p') : faK o p K = faK o p' K := by rw [← e]; rfl
theorem faK_ip {o off : Nat} {cells : List AV} : faK o (.ip cells off) K = K (.ip cells (off + o)) := (rfl)
theorem faK_op {o off id k e : Nat} : faK o (.op id k e off) K = K (.op id k e (off + o)) := (rfl)
theorem fieldAddrK_eq {s f : Nat} {p : AV} : fieldAddrK P s f p K = optK (foff P s f) fun x => faK x.1 p K := by
  unfold fieldAddrK
  rw [← optK_eq]
  apply propext
  constructor
  · rintro ⟨o, ft, h1, h2⟩; exact ⟨(o, ft), h1, by cases p <;> exact h2⟩
  · rintro ⟨⟨o, ft⟩, h1, h2⟩; exact ⟨o, ft, h1, by cases p <;> exact h2⟩
def fdK (P : Program) (o : Nat) (t : TypeId) (p : AV) (K : AV → Prop) : Prop := match p with | .agg cs => ldX (tagg P t) (tsize P t) cs o K | _ => False
@[congr] theorem fdK_cg {o t : Nat} {p p' : AV} (e : mk p = p') : fdK P o t p K = fdK P o t p' K := by rw [← e]; rfl
theorem fdK_agg {o t : Nat} {cs : List AV} : fdK P o t (.agg cs) K = ldX (tagg P t) (tsize P t) cs o K := (rfl)
theorem fieldK_eq {t f : Nat} {p : AV} : fieldK P t f p K = optK (foff P t f) fun x => fdK P x.1 x.2 p K := by
  unfold fieldK
  rw [← optK_eq]
  apply propext
  constructor
  · rintro ⟨o, ft, h1, h2⟩; exact ⟨(o, ft), h1, by cases p <;> first | exact h2.elim | (simp only [fdK]; rw [← partK_eq]; exact h2)⟩
  · rintro ⟨⟨o, ft⟩, h1, h2⟩; exact ⟨o, ft, h1, by cases p <;> first | exact h2.elim | (simp only [fdK] at h2; rw [← partK_eq] at h2; exact h2)⟩
theorem optK_map {α β : Type} [Inhabited α] {f : α → β} {xs : List α} {i : Nat} {K : β → Prop} : optK (List.map f xs)[i]? K = (i < xs.length ∧ K (f (xs.getD i default))) := by
  rw [List.getElem?_map]
  by_cases hi : i < xs.length
  · simp [optK, hi, List.getD_eq_getElem?_getD, List.getElem?_eq_getElem hi]
  · simp [optK, hi, List.getElem?_eq_none (Nat.le_of_not_lt hi)]
def elK (P : Program) (t : TypeId) (k : Nat) : Prop := optK (telem P t) fun e => optK (tsize P e) fun s => s = k
theorem elK_eq {t : TypeId} {k : Nat} : elK P t k = optK (telem P t) fun e => optK (tsize P e) fun s => s = k := (rfl)
theorem elK_ex {t : TypeId} {k : Nat} : (∃ e, telem P t = some e ∧ tsize P e = some k) = elK P t k := by
  unfold elK
  rw [optK_eq]
  congr 1
  funext e
  cases tsize P e <;> simp [optK]
@[congr] theorem indexAddrK_cg {t : TypeId} {x x' i i' : AV} (e1 : mk x = x') (e2 : mk i = i') : indexAddrK P t x i K = indexAddrK P t x' i' K := by rw [← e1, ← e2]; rfl
theorem indexAddrK_isl {t : TypeId} {k : Nat} {es : List (List AV)} {kk : IntKind} {m : Int} : indexAddrK P t (.isl k es) (.int kk m) K = (0 ≤ m ∧ elK P t k ∧ optK es[m.toNat]? fun c => K (.ip c 0)) := by
  simp only [indexAddrK, elK_ex, ← optK_eq]
  apply propext
  constructor
  · rintro ⟨h1, h2, h3, h4⟩; exact ⟨h1, h3, h4⟩
  · rintro ⟨h1, h2, h3⟩
    refine ⟨h1, ?_, h2, h3⟩
    obtain ⟨c, hc, _⟩ := h3
    have := (List.getElem?_eq_some_iff.1 hc).1
    omega
theorem indexAddrK_osl {t : TypeId} {id k i0 len cap : Nat} {ex : Bool} {kk : IntKind} {m : Int} : indexAddrK P t (.osl id k i0 len cap ex) (.int kk m) K = ((0 ≤ m ∧ m < len) ∧ elK P t k ∧ K (.op id k (i0 + m.toNat) 0)) := by
  simp only [indexAddrK, elK_ex, and_assoc]
def arK (P : Program) (t : TypeId) (m : Int) (K : Nat → Prop) : Prop := optK (tarr P t) fun x => optK (tsize P x.2) fun s => (0 ≤ m ∧ m < x.1) ∧ K (m.toNat * s)
theorem arK_eq {t : TypeId} {m : Int} {K : Nat → Prop} : arK P t m K = optK (tarr P t) fun x => optK (tsize P x.2) fun s => (0 ≤ m ∧ m < x.1) ∧ K (m.toNat * s) := (rfl)
theorem arK_ex {t : TypeId} {z : Int} {K : Nat → Prop} : (∃ m e s, tarr P t = some (m, e) ∧ tsize P e = some s ∧ 0 ≤ z ∧ z < (m : Nat) ∧ K (z.toNat * s)) = arK P t z K := by
  unfold arK
  cases tarr P t with
  | none => simp [optK]
  | some x =>
    obtain ⟨m, e⟩ := x
    simp only [optK, Option.some.injEq, Prod.mk.injEq]
    cases hs : tsize P e with
    | none => apply propext; constructor
              · rintro ⟨_, _, _, ⟨rfl, rfl⟩, h2, _⟩; rw [hs] at h2; cases h2
              · intro h; exact h.elim
    | some s =>
      apply propext
      constructor
      · rintro ⟨_, _, _, ⟨rfl, rfl⟩, h2, h3, h4, h5⟩; rw [hs] at h2; cases h2; exact ⟨⟨h3, h4⟩, h5⟩
      · rintro ⟨⟨h3, h4⟩, h5⟩; exact ⟨_, _, s, ⟨rfl, rfl⟩, hs, h3, h4, h5⟩
theorem indexAddrK_ip {t : TypeId} {cells : List AV} {off : Nat} {kk : IntKind} {m : Int} : indexAddrK P t (.ip cells off) (.int kk m) K = arK P t m fun d => K (.ip cells (off + d)) := by
  rw [← arK_ex]; rfl
theorem indexAddrK_op {t : TypeId} {id k e off : Nat} {kk : IntKind} {m : Int} : indexAddrK P t (.op id k e off) (.int kk m) K = arK P t m fun d => K (.op id k e (off + d)) := by
  rw [← arK_ex]; rfl
@[congr] theorem indexK_cg {t : TypeId} {x x' i i' : AV} (e1 : mk x = x') (e2 : mk i = i') : indexK P t x i K = indexK P t x' i' K := by rw [← e1, ← e2]; rfl
theorem indexK_agg {t : TypeId} {cs : List AV} {kk : IntKind} {m : Int} : indexK P t (.agg cs) (.int kk m) K = optK (tarr P t) fun x => optK (tsize P x.2) fun s => (0 ≤ m ∧ m < x.1) ∧ ldX (tagg P x.2) (tsize P x.2) cs (m.toNat * s) K := by
  simp only [indexK, partK_eq, ← optK_eq]
  apply propext
  constructor
  · rintro ⟨m', e, s, h1, h2, h3, h4, h5⟩; exact ⟨(m', e), h1, s, h2, ⟨h3, h4⟩, h5⟩
  · rintro ⟨⟨m', e⟩, h1, s, h2, ⟨h3, h4⟩, h5⟩; exact ⟨m', e, s, h1, h2, h3, h4, h5⟩
theorem indexK_str {t : TypeId} {s : ByteArray} {kk : IntKind} {m : Int} : indexK P t (.str s) (.int kk m) K = (tstring P t = true ∧ 0 ≤ m ∧ m < s.size ∧ K (.int .u8 (bt s m.toNat))) := (rfl)
@[congr] theorem binAll_cg {op : BinOp} {t : TypeId} {x x' i i' : AV} (e1 : mk x = x') (e2 : mk i = i') : binAll P op t x i K = binAll P op t x' i' K := by rw [← e1, ← e2]; rfl
section
variable {t : TypeId} {k : IntKind} {x y : Int}
theorem bin_add : binAll P .add t (.int k x) (.int k y) K = fitK k (x + y) K := by simp [binAll, iK]
theorem bin_sub : binAll P .sub t (.int k x) (.int k y) K = fitK k (x - y) K := by simp [binAll, iK]
theorem bin_mul : binAll P .mul t (.int k x) (.int k y) K = fitK k (x * y) K := by simp [binAll, iK]
theorem bin_quo : binAll P .quo t (.int k x) (.int k y) K = (y ≠ 0 ∧ K (.int k (k.wrap (x.tdiv y)))) := by simp [binAll, iK]
theorem bin_rem : binAll P .rem t (.int k x) (.int k y) K = (y ≠ 0 ∧ K (.int k (x.tmod y))) := by simp [binAll, iK]
theorem bin_eql : binAll P .eql t (.int k x) (.int k y) K = K (.bool (x == y)) := by simp [binAll, iK]
theorem bin_neq : binAll P .neq t (.int k x) (.int k y) K = K (.bool (x != y)) := by simp [binAll, iK]
theorem bin_lss : binAll P .lss t (.int k x) (.int k y) K = K (.bool (decide (x < y))) := by simp [binAll, iK]
theorem bin_leq : binAll P .leq t (.int k x) (.int k y) K = K (.bool (decide (x ≤ y))) := by simp [binAll, iK]
theorem bin_gtr : binAll P .gtr t (.int k x) (.int k y) K = K (.bool (decide (y < x))) := by simp [binAll, iK]
theorem bin_geq : binAll P .geq t (.int k x) (.int k y) K = K (.bool (decide (y ≤ x))) := by simp [binAll, iK]
theorem bin_shl {k' : IntKind} : binAll P .shl t (.int k x) (.int k' y) K = (0 ≤ y ∧ K (.int k (k.wrap (x * 2 ^ (min y.toNat k.bits))))) := by simp [binAll, iK]
theorem bin_shr {k' : IntKind} : binAll P .shr t (.int k x) (.int k' y) K = (0 ≤ y ∧ K (.int k (x.fdiv (2 ^ (min y.toNat k.bits))))) := by simp [binAll, iK]
theorem bin_beql {b c : Bool} : binAll P .eql t (.bool b) (.bool c) K = (tbool P t = true ∧ K (.bool (b == c))) := (rfl)
theorem bin_bneq {b c : Bool} : binAll P .neq t (.bool b) (.bool c) K = (tbool P t = true ∧ K (.bool (b != c))) := (rfl)
theorem bin_nils {op : BinOp} {u : AV} : binAll P op t u .nils K = ((telem P t).isSome = true ∧ (match u with | .isl _ es => (es = [] → eqK op true K) ∧ eqK op false K | .nils => eqK op true K | .osl .. => eqK op false K | _ => False)) := (rfl)
end
theorem eqK_eql {b : Bool} : eqK .eql b K = K (.bool b) := (rfl)
theorem eqK_neq {b : Bool} : eqK .neq b K = K (.bool (!b)) := (rfl)
@[congr] theorem unK_cg {op : UnOp} {x x' : AV} (e1 : mk x = x') : unK op x K = unK op x' K := by rw [← e1]; rfl
theorem unK_not {b : Bool} : unK .not (.bool b) K = K (.bool (!b)) := (rfl)
theorem unK_neg {k : IntKind} {z : Int} : unK .neg (.int k z) K = fitK k (0 - z) K := (rfl)
@[congr] theorem convK_cg {s d : TypeId} {x x' : AV} (e1 : mk x = x') : convK P s d x K = convK P s d x' K := by rw [← e1]; rfl
theorem convK_int {s d : TypeId} {k : IntKind} {z : Int} : convK P s d (.int k z) K = ((tint P s).isSome = true ∧ optK (tint P d) fun k => fitK k z K) := by
  simp only [convK, optK_eq, Option.isSome_iff_exists]
theorem convK_str {s d : TypeId} {b : ByteArray} : convK P s d (.str b) K = (tstring P s = true ∧ tstring P d = true ∧ K (.str b)) := (rfl)
@[congr] theorem extK_cg {i : Nat} {x x' : AV} (e1 : mk x = x') : extK x i K = extK x' i K := by rw [← e1]; rfl
theorem extK_tup {i : Nat} {vs : List AV} : extK (.tup vs) i K = optK vs[i]? K := optK_eq
@[congr] theorem lenK_cg {t : TypeId} {x x' : AV} (e1 : mk x = x') : lenK P t x K = lenK P t x' K := by rw [← e1]; rfl
theorem lenK_isl {t : TypeId} {k : Nat} {es : List (List AV)} : lenK P t (.isl k es) K = ((telem P t).isSome = true ∧ K (.int .i64 es.length)) := (rfl)
theorem lenK_osl {t : TypeId} {id k i len cap : Nat} {ex : Bool} : lenK P t (.osl id k i len cap ex) K = ((telem P t).isSome = true ∧ K (.int .i64 len)) := (rfl)
theorem lenK_nils {t : TypeId} : lenK P t .nils K = ((telem P t).isSome = true ∧ K (.int .i64 0)) := (rfl)
theorem lenK_str {t : TypeId} {s : ByteArray} : lenK P t (.str s) K = (tstring P t = true ∧ K (.int .i64 s.size)) := (rfl)
@[congr] theorem nilCheckK_cg {x x' : AV} (e1 : mk x = x') : nilCheckK x K = nilCheckK x' K := by rw [← e1]; rfl
theorem nilCheckK_ip {c : List AV} {o : Nat} : nilCheckK (.ip c o) K = K (.ip c o) := (rfl)
theorem nilCheckK_op {a b c d : Nat} : nilCheckK (.op a b c d) K = K (.op a b c d) := (rfl)
@[congr] theorem pickK_cg {c c' x y : AV} (e1 : mk c = c') : pickK c x y K = pickK c' x y K := by rw [← e1]; rfl
theorem pickK_eq {c x y : AV} : pickK c x y K = condK c (K x) (K y) := by cases c <;> rfl
@[congr] theorem sliceAll_cg {t : TypeId} {x x' : AV} {lo lo' hi hi' : Option AV} (e1 : mk x = x') (e2 : mk lo = lo') (e3 : mk hi = hi') : sliceAll P t x lo hi K = sliceAll P t x' lo' hi' K := by rw [← e1, ← e2, ← e3]; rfl
def bdK (d : Nat) (x : Option AV) (K : Nat → Prop) : Prop := match x with | none => K d | some (.int _ z) => 0 ≤ z ∧ K z.toNat | _ => False
theorem bdK_none {d : Nat} {K : Nat → Prop} : bdK d none K = K d := (rfl)
theorem bdK_some {d : Nat} {k : IntKind} {z : Int} {K : Nat → Prop} : bdK d (some (.int k z)) K = (0 ≤ z ∧ K z.toNat) := (rfl)
theorem loK_eq {x : Option AV} {K : Nat → Prop} : loK x K = bdK 0 x K := by cases x with | none => rfl | some u => cases u <;> rfl
theorem hiK_eq {d : Nat} {x : Option AV} {K : Nat → Prop} : hiK d x K = bdK d x K := by cases x with | none => rfl | some u => cases u <;> rfl
@[congr] theorem bdK_cg {d : Nat} {x x' : Option AV} {K : Nat → Prop} (e1 : mk x = x') : bdK d x K = bdK d x' K := by rw [← e1]; rfl
def slK (P : Program) (t : TypeId) (k : Nat) (es : List (List AV)) : Prop := optK (telem P t) fun e => optK (tsize P e) fun s => es ≠ [] → s = k
theorem slK_eq {t : TypeId} {k : Nat} {es : List (List AV)} : slK P t k es = optK (telem P t) fun e => optK (tsize P e) fun s => es ≠ [] → s = k := (rfl)
theorem sliceAll_isl {t : TypeId} {k : Nat} {es : List (List AV)} {lo hi : Option AV} : sliceAll P t (.isl k es) lo hi K = (slK P t k es ∧ bdK 0 lo fun l => bdK es.length hi fun m => (l ≤ m ∧ m ≤ es.length) ∧ K (.isl k ((es.drop l).take (m - l)))) := by
  simp only [sliceAll, sliceK, loK_eq, hiK_eq, ← and_assoc]
  congr 1
  · unfold slK
    cases telem P t with
    | none => simp [optK]
    | some e =>
      cases hs : tsize P e with
      | none => simp [optK, hs]
      | some s => simp [optK, hs]
theorem sliceAll_osl {t : TypeId} {id k i len cap : Nat} {ex : Bool} {lo hi : Option AV} : sliceAll P t (.osl id k i len cap ex) lo hi K = (elK P t k ∧ bdK 0 lo fun l => bdK len hi fun m => (l ≤ m ∧ m ≤ cap) ∧ if l < cap ∨ l = 0 then K (.osl id k (i + l) (m - l) (cap - l) ex) else ex = true ∧ K (.osl id k i 0 0 ex)) := by
  simp only [sliceAll, sliceK, loK_eq, hiK_eq, elK_ex, and_assoc]
  apply propext
  constructor
  · exact fun h => h.2
  · intro h
    refine ⟨?_, h⟩
    have := h.1
    rw [← elK_ex] at this
    obtain ⟨e, h1, h2⟩ := this
    exact ⟨e, k, h1, h2⟩
theorem sliceAll_nils {t : TypeId} {lo hi : Option AV} : sliceAll P t .nils lo hi K = (slK P t 0 [] ∧ bdK 0 lo fun l => bdK 0 hi fun m => (l = 0 ∧ m = 0) ∧ K .nils) := by
  simp only [sliceAll, sliceK, loK_eq, hiK_eq, and_assoc]
  apply propext
  constructor
  · rintro ⟨⟨e, s, h1, h2⟩, _, h3⟩; exact ⟨by simp [slK, h1, h2, optK], h3⟩
  · rintro ⟨h1, h2⟩
    unfold slK at h1
    cases he : telem P t with
    | none => simp [he, optK] at h1
    | some e =>
      cases hs : tsize P e with
      | none => simp [he, hs, optK] at h1
      | some s => exact ⟨⟨e, s, rfl, hs⟩, ⟨e, rfl⟩, h2⟩
end
end
end Go.AL
end
section
namespace Go.AL
set_option linter.unusedVariables false
set_option linter.unusedSimpArgs false
section
variable {P : Program} {n : Nat} {a : Fr} {h : Heap}
@[congr] theorem cellsK_cg {u u' : AV} {K : List AV → Prop} (e : mk u = u') : cellsK u K = cellsK u' K := by rw [← e]; rfl
@[congr] theorem storeK_cg {t : TypeId} {h h' : Heap} {p p' u u' : AV} {K : Heap → Prop} (e1 : mk h = h') (e2 : mk p = p') (e3 : mk u = u') : storeK P t h p u K = storeK P t h' p' u' K := by rw [← e1, ← e2, ← e3]; rfl
def obxK (k : Nat) (o : Option Ob) (K : List (List AV) → Bool → Prop) : Prop := match o with | some (.arr k' es ex) => k' = k ∧ K es ex | _ => False
@[congr] theorem obxK_cg {k : Nat} {o o' : Option Ob} {K : List (List AV) → Bool → Prop} (e : mk o = o') : obxK k o K = obxK k o' K := by rw [← e]; rfl
theorem obxK_some {k : Nat} {es : List (List AV)} {ex : Bool} {K : List (List AV) → Bool → Prop} : obxK k (some (.arr k es ex)) K = K es ex := by simp [obxK]
theorem obxK_ex {k : Nat} {o : Option Ob} {K : List (List AV) → Bool → Prop} : (∃ es ex, o = some (.arr k es ex) ∧ K es ex) = obxK k o K := by
  apply propext
  constructor
  · rintro ⟨es, ex, rfl, hk⟩; exact ⟨rfl, hk⟩
  · intro hk
    cases o with
    | none => exact hk.elim
    | some o =>
      cases o with
      | arr k' es ex => obtain ⟨rfl, hk⟩ := hk; exact ⟨es, ex, rfl, hk⟩
      | _ => exact hk.elim
def patch' (c : List AV) (off : Nat) (cs : List AV) : List AV := match cs with | [v] => c.set off v | _ => patch c off cs
theorem patch_one {c : List AV} {off : Nat} {v : AV} : patch' c off [v] = c.set off v := (rfl)
theorem patch_two {c : List AV} {off : Nat} {v v' : AV} {r : List AV} : patch' c off (v :: v' :: r) = c.take off ++ (v :: v' :: r) ++ c.drop (off + (v :: v' :: r).length) := (rfl)
theorem patch_eq {c : List AV} {off : Nat} {cs : List AV} (h : off + cs.length ≤ c.length) : patch c off cs = patch' c off cs := by
  match cs with
  | [] => rfl
  | [v] =>
    simp only [List.length_singleton] at h
    apply List.ext_getElem?
    intro i
    simp only [patch, patch', List.length_singleton, List.getElem?_set]
    by_cases h1 : i < off
    · rw [List.append_assoc, List.getElem?_append_left (by simp; omega), List.getElem?_take_of_lt h1, if_neg (by omega)]
    · by_cases h2 : i = off
      · subst h2
        rw [if_pos rfl, if_pos (by omega), List.append_assoc, List.getElem?_append_right (by simp; omega)]
        simp [Nat.min_eq_left (show i ≤ c.length by omega)]
      · rw [if_neg (by omega), List.getElem?_append_right (by simp; omega)]
        simp only [List.length_append, List.length_take, List.length_singleton, List.getElem?_drop, Nat.min_eq_left (show off ≤ c.length by omega)]
        congr 1
        omega
  | v :: v' :: r => rfl
theorem storeK_op {t : TypeId} {id k e off : Nat} {u : AV} {K : Heap → Prop} : storeK P t h (.op id k e off) u K = cellsK u fun cs => optK (tsize P t) fun s => s = cs.length ∧ obxK k h[id]? fun es ex => optK es[e]? fun c => off + cs.length ≤ c.length ∧ letH (h.set id (.arr k (es.set e (patch' c off cs)) ex)) K := by
  unfold storeK
  simp only [letH]
  congr 1
  funext cs
  rw [← optK_eq]
  simp only [← optK_eq (α := List AV), ← obxK_ex]
  apply propext
  constructor
  · rintro ⟨h1, es, ex, h2, c, h3, h4, h5⟩; rw [patch_eq h4] at h5; exact ⟨_, h1, rfl, es, ex, h2, c, h3, h4, h5⟩
  · rintro ⟨_, h1, rfl, es, ex, h2, c, h3, h4, h5⟩; rw [← patch_eq h4] at h5; exact ⟨h1, es, ex, h2, c, h3, h4, h5⟩
@[congr] theorem makeSliceK_cg {t : TypeId} {h h' : Heap} {l l' c c' : AV} {K : AV → Heap → Prop} (e1 : mk h = h') (e2 : mk l = l') (e3 : mk c = c') : makeSliceK P t h l c K = makeSliceK P t h' l' c' K := by rw [← e1, ← e2, ← e3]; rfl
theorem makeSliceK_int {t : TypeId} {k k' : IntKind} {l c : Int} {K : AV → Heap → Prop} : makeSliceK P t h (.int k l) (.int k' c) K = optK (telem P t) fun e => optK (zcells P e) fun z => optK (tbytes P e) fun b => (0 ≤ l ∧ l ≤ c ∧ b * c ≤ 281474976710656 ∧ c ≤ 9223372036854775807) ∧
    letH (h ++ [.arr z.length (List.replicate c.toNat z) true]) (K (.osl h.length z.length 0 l.toNat c.toNat true)) := by
  unfold makeSliceK
  simp only [letH, and_assoc]
  cases telem P t with
  | none => simp [optK]
  | some e =>
    cases hz : zcells P e with
    | none => simp [optK, hz]
    | some z =>
      cases hb : tbytes P e with
      | none => simp [optK, hz, hb]
      | some b => simp [optK, hz, hb]
theorem fillK_nil {pl : Nat → Option (Nat × Nat)} {cs : List AV} {K : List AV → Prop} : fillK pl [] cs K = K cs := (rfl)
theorem fillK_cons {pl : List (Nat × Nat)} {i : Nat} {u : AV} {r : List (Nat × AV)} {cs : List AV} {K : List AV → Prop} : fillK (fun i => pl[i]?) ((i, u) :: r) cs K = cellsK u fun us => optK pl[i]? fun x => x.2 = us.length ∧ x.1 + us.length ≤ cs.length ∧ fillK (fun i => pl[i]?) r (patch cs x.1 us) K := by
  show (cellsK u fun us => ∃ off, pl[i]? = some (off, us.length) ∧ off + us.length ≤ cs.length ∧ fillK (fun i => pl[i]?) r (patch cs off us) K) = _
  congr 1
  funext us
  rw [← optK_eq]
  apply propext
  constructor
  · rintro ⟨off, h1, h2⟩; exact ⟨_, h1, rfl, h2⟩
  · rintro ⟨⟨off, m⟩, h1, h0, h2⟩; cases h0; exact ⟨off, h1, h2⟩
@[congr] theorem fillK_cg {pl : Nat → Option (Nat × Nat)} {us us' : List (Nat × AV)} {cs cs' : List AV} {K : List AV → Prop} (e1 : mk us = us') (e2 : mk cs = cs') : fillK pl us cs K = fillK pl us' cs' K := by rw [← e1, ← e2]; rfl
theorem fillRK_nil {k : Nat} {es : List (List AV)} {K : List (List AV) → Prop} : fillRK k [] es K = K es := (rfl)
theorem fillRK_cons {k i : Nat} {u : AV} {r : List (Nat × AV)} {es : List (List AV)} {K : List (List AV) → Prop} : fillRK k ((i, u) :: r) es K = cellsK u fun us => us.length = k ∧ i < es.length ∧ fillRK k r (es.set i us) K := (rfl)
@[congr] theorem fillRK_cg {k k' : Nat} {us us' : List (Nat × AV)} {cs cs' : List (List AV)} {K : List (List AV) → Prop} (e0 : mk k = k') (e1 : mk us = us') (e2 : mk cs = cs') : fillRK k us cs K = fillRK k' us' cs' K := by rw [← e0, ← e1, ← e2]; rfl
@[congr] theorem callK_cg {f f' : AV} {us us' : List AV} {h h' : Heap} {K : AV → Heap → Prop} (e0 : mk f = f') (e1 : mk us = us') (e2 : mk h = h') : callK P f us h K = callK P f' us' h' K := by rw [← e0, ← e1, ← e2]; rfl
theorem callK_fn {g : FuncId} {first cap us : List AV} {K : AV → Heap → Prop} : callK P (.fn (.func g) first cap) us h K = ACalls P g (first ++ us ++ cap) h K := (rfl)
@[congr] theorem ACalls_cg {f : FuncId} {us us' : List AV} {h h' : Heap} {K : AV → Heap → Prop} (e1 : mk us = us') (e2 : mk h = h') : ACalls P f us h K = ACalls P f us' h' K := by rw [← e1, ← e2]; rfl
@[congr] theorem LoopK_cg {body : (Exit → Fr → Heap → Prop) → Fr → Heap → Prop} {Q : Exit → Fr → Heap → Prop} {a : Fr} {h h' : Heap} (e : mk h = h') : LoopK body Q a h = LoopK body Q a h' := by rw [← e]; rfl
@[congr] theorem GcK_cg {N N' : Nat} {a : Fr} {h : Heap} {K : Fr → Heap → Prop} (e : mk N = N') : GcK N a h K = GcK N' a h K := by rw [← e]; rfl
@[congr] theorem elemsK_cg {k k' : Nat} {x x' : AV} {h h' : Heap} {K : List (List AV) → Prop} (e0 : mk k = k') (e1 : mk x = x') (e2 : mk h = h') : elemsK h k x K = elemsK h' k' x' K := by rw [← e0, ← e1, ← e2]; rfl
theorem elemsK_nils {k : Nat} {K : List (List AV) → Prop} : elemsK h k .nils K = K [] := (rfl)
theorem elemsK_isl {k : Nat} {es : List (List AV)} {K : List (List AV) → Prop} : elemsK h k (.isl k es) K = K es := by simp [elemsK]
theorem elemsK_osl {id k i len cap : Nat} {ex : Bool} {K : List (List AV) → Prop} : elemsK h k (.osl id k i len cap ex) K = objK k h[id]? fun es => i + len ≤ es.length ∧ K ((es.drop i).take len) := by
  simp only [elemsK, true_and]
  exact objK_ex
def apK (z : List AV) (b : Nat) (h : Heap) (s : AV) (xs : List (List AV)) (K : AV → Heap → Prop) : Prop :=
  match s with
  | .nils => xs.length * b ≤ 140737488355328 ∧ (xs = [] → K .nils h) ∧ (xs ≠ [] → growK z.length b z h.length h xs K)
  | .e0 => xs.length * b ≤ 140737488355328 ∧ (xs = [] → K .e0 h) ∧ (xs ≠ [] → growK z.length b z h.length h xs K)
  | .osl id k' i len cap ex => k' = z.length ∧ (len + xs.length) * b ≤ 140737488355328 ∧ ∃ es ex', h[id]? = some (.arr k' es ex') ∧ i + len ≤ es.length ∧
        (len + xs.length ≤ cap → i + len + xs.length ≤ es.length ∧ K (.osl id k' i (len + xs.length) cap ex) (h.set id (.arr k' (es.take (i + len) ++ xs ++ es.drop (i + len + xs.length)) ex'))) ∧
        (¬ len + xs.length ≤ cap → match ex with
          | true => growK k' b z h.length h ((es.drop i).take len ++ xs) K
          | false => i = 0 ∧ K (.osl h.length k' 0 (len + xs.length) (len + xs.length) false) (h.set id .dead ++ [.arr k' (es.take len ++ xs) false]))
  | _ => False
theorem appendK_ap {t t' : TypeId} {s x : AV} {K : AV → Heap → Prop} : appendK P t t' h s x K = ∃ e z b, telem P t = some e ∧ (telem P t').isSome = true ∧ zcells P e = some z ∧ tbytes P e = some b ∧ 0 < b ∧ elemsK h z.length x fun xs => apK z b h s xs K := by
  unfold appendK
  cases s <;> rfl
theorem appendK_eq {t t' : TypeId} {s x : AV} {K : AV → Heap → Prop} : appendK P t t' h s x K = ((telem P t').isSome = true ∧ optK (telem P t) fun e => optK (zcells P e) fun z => optK (tbytes P e) fun b => 0 < b ∧ elemsK h z.length x fun xs => apK z b h s xs K) := by
  rw [appendK_ap]
  simp only [← optK_eq]
  apply propext
  constructor
  · rintro ⟨e, z, b, h1, h2, h3, h4, h5⟩; exact ⟨h2, e, h1, z, h3, b, h4, h5⟩
  · rintro ⟨h2, e, h1, z, h3, b, h4, h5⟩; exact ⟨e, z, b, h1, h2, h3, h4, h5⟩
@[congr] theorem appendK_cg {t t' : TypeId} {h h' : Heap} {s s' x x' : AV} {K : AV → Heap → Prop} (e1 : mk h = h') (e2 : mk s = s') (e3 : mk x = x') : appendK P t t' h s x K = appendK P t t' h' s' x' K := by rw [← e1, ← e2, ← e3]; rfl
@[congr] theorem apK_cg {z z' : List AV} {b : Nat} {h h' : Heap} {s s' : AV} {xs xs' : List (List AV)} {K : AV → Heap → Prop} (e0 : mk z = z') (e1 : mk h = h') (e2 : mk s = s') (e3 : mk xs = xs') : apK z b h s xs K = apK z' b h' s' xs' K := by rw [← e0, ← e1, ← e2, ← e3]; rfl
@[congr] theorem growK_cg {k k' b : Nat} {z z' : List AV} {N N' : Nat} {g g' : Heap} {es es' : List (List AV)} {K : AV → Heap → Prop} (e0 : mk k = k') (e1 : mk z = z') (e2 : mk N = N') (e3 : mk g = g') (e4 : mk es = es') : growK k b z N g es K = growK k' b z' N' g' es' K := by rw [← e0, ← e1, ← e2, ← e3, ← e4]; rfl
theorem growK_eq {k b : Nat} {z : List AV} {N : Nat} {g : Heap} {es : List (List AV)} {K : AV → Heap → Prop} : growK k b z N g es K = condK (.bool (b == 8)) (∀ c, es.length ≤ c → letH (g ++ [.arr k (es ++ List.replicate (c - es.length) z) true]) (K (.osl N k 0 es.length c true))) (letH (g ++ [.arr k es false]) (K (.osl N k 0 es.length es.length false))) := by
  unfold growK
  by_cases c : b = 8
  · subst c; simp [condK, letH]
  · rw [if_neg c, show (b == 8) = false from beq_false_of_ne c]; simp [condK, letH]
theorem apK_nils {z : List AV} {b : Nat} {x : List AV} {xs : List (List AV)} {K : AV → Heap → Prop} : apK z b h .nils (x :: xs) K = ((x :: xs).length * b ≤ 140737488355328 ∧ growK z.length b z h.length h (x :: xs) K) := by
  simp [apK]
theorem apK_osl {z : List AV} {k b id i len cap : Nat} {ex : Bool} {xs : List (List AV)} {K : AV → Heap → Prop} : apK z b h (.osl id k i len cap ex) xs K = (k = z.length ∧ (len + xs.length) * b ≤ 140737488355328 ∧ obxK k h[id]? fun es ex' => i + len ≤ es.length ∧
        (len + xs.length ≤ cap → i + len + xs.length ≤ es.length ∧ letH (h.set id (.arr k (es.take (i + len) ++ xs ++ es.drop (i + len + xs.length)) ex')) (K (.osl id k i (len + xs.length) cap ex))) ∧
        (¬ len + xs.length ≤ cap → condK (.bool ex) (growK k b z h.length h ((es.drop i).take len ++ xs) K)
          (i = 0 ∧ letH (h.set id .dead ++ [.arr k (es.take len ++ xs) false]) (K (.osl h.length k 0 (len + xs.length) (len + xs.length) false))))) := by
  simp only [apK, ← obxK_ex, true_and, letH]
  cases ex <;> simp [condK]
@[congr] theorem clearK_cg {t : TypeId} {h h' : Heap} {x x' : AV} {K : Heap → Prop} (e1 : mk h = h') (e2 : mk x = x') : clearK P t h x K = clearK P t h' x' K := by rw [← e1, ← e2]; rfl
theorem clearK_nils {t : TypeId} {K : Heap → Prop} : clearK P t h .nils K = ((telem P t).isSome = true ∧ K h) := (rfl)
theorem clearK_osl {t : TypeId} {id k i len cap : Nat} {ex : Bool} {K : Heap → Prop} : clearK P t h (.osl id k i len cap ex) K = optK (telem P t) fun e => optK (zcells P e) fun z => k = z.length ∧ obxK k h[id]? fun es ex' => i + len ≤ es.length ∧ letH (h.set id (.arr k (es.take i ++ List.replicate len z ++ es.drop (i + len)) ex')) K := by
  simp only [clearK, ← optK_eq, ← obxK_ex, letH]
  apply propext
  constructor
  · rintro ⟨e, z, h1, h2, h3⟩; exact ⟨e, h1, z, h2, h3⟩
  · rintro ⟨e, h1, z, h2, h3⟩; exact ⟨e, z, h1, h2, h3⟩
variable {K : List AV → Prop} {Q : AV → Heap → Prop}
theorem resK_nil : resK P a h [] K = K [] := (rfl)
theorem resK_tmp {t : Tmp} {r : List ResultVar} : resK P a h (.tmp t :: r) K = resK P a h r fun us => K (a t :: us) := (rfl)
theorem resK_cell {p t : Nat} {r : List ResultVar} : resK P a h (.cell p t :: r) K = loadK P t h (a p) fun u => resK P a h r fun us => K (u :: us) := (rfl)
theorem oneK_one {u : AV} {K : AV → Prop} : oneK [u] K = K u := (rfl)
theorem oneK_none {K : AV → Prop} : oneK [] K = K (.tup []) := (rfl)
theorem oneK_two {u v : AV} {us : List AV} {K : AV → Prop} : oneK (u :: v :: us) K = K (.tup (u :: v :: us)) := (rfl)
theorem bodyQ_normal {rs : List ResultVar} : bodyQ P rs Q .normal a h = resK P a h rs fun us => oneK us fun u => Q u h := (rfl)
theorem bodyQ_ret {rs : List ResultVar} : bodyQ P rs Q .ret a h = resK P a h rs fun us => oneK us fun u => Q u h := (rfl)
theorem tn1 {k : Nat} : ((k : Int) + 1).toNat = k + 1 := by omega
theorem tn2 {k : Nat} : ((k : Int) + 2).toNat = k + 2 := by omega
theorem tn3 {k : Nat} : ((k : Int) + 3).toNat = k + 3 := by omega
def intE (x : Int) : List AV := [AV.int .i64 x]
def boolE (x : Bool) : List AV := [AV.bool x]
theorem intE_eq {x : Int} : intE x = [AV.int .i64 x] := (rfl)
theorem boolE_eq {x : Bool} : boolE x = [AV.bool x] := (rfl)
theorem rep_intE {m : Nat} : List.replicate m [AV.int .i64 0] = List.map intE (List.replicate m 0) := by simp [intE]
theorem rep_boolE {m : Nat} : List.replicate m [AV.bool false] = List.map boolE (List.replicate m false) := by simp [boolE]
theorem set_intE {xs : List Int} {i : Nat} {y : Int} : (List.map intE xs).set i [AV.int .i64 y] = List.map intE (xs.set i y) := by rw [List.map_set]; rfl
theorem set_boolE {xs : List Bool} {i : Nat} {y : Bool} : (List.map boolE xs).set i [AV.bool y] = List.map boolE (xs.set i y) := by rw [List.map_set]; rfl
theorem set_bools {xs : List Bool} {i : Nat} {y : Bool} : (List.map AV.bool xs).set i (AV.bool y) = List.map AV.bool (xs.set i y) := by rw [List.map_set]
theorem app_intE {xs : List Int} {y : Int} : List.map intE xs ++ [[AV.int .i64 y]] = List.map intE (xs ++ [y]) := by rw [List.map_append]; rfl
theorem app_intE3 {xs : List Int} {a b c : Int} : List.map intE xs ++ [[AV.int .i64 a], [AV.int .i64 b], [AV.int .i64 c]] = List.map intE (xs ++ [a, b, c]) := by rw [List.map_append]; rfl
theorem take_app {xs ys : List Int} : List.take xs.length (List.map intE (xs ++ ys)) = List.map intE xs := by rw [List.map_append, List.take_append_of_le_length (by simp), List.take_of_length_le (by simp)]
theorem drop_app3 {xs : List Int} {a b c : Int} : List.drop (xs.length + 3) (List.map intE (xs ++ [a, b, c])) = [] := by apply List.drop_of_length_le; simp
theorem take_map_all {α β : Type} {f : α → β} {xs : List α} : List.take xs.length (List.map f xs) = List.map f xs := by
  rw [List.take_of_length_le (by simp)]
end
end Go.AL
end
section
namespace Go.AL
set_option linter.unusedVariables false
set_option linter.unusedSimpArgs false
section
variable {P : Program}
theorem ACalls.mono' {f : FuncId} {args : List AV} {h : Heap} {Q Q' : AV → Heap → Prop} (hc : ACalls P f args h Q) (hq : ∀ u h', Q u h' → Q' u h') : ACalls P f args h Q' := by
  refine ⟨hc.1, fun I β w vs r hv => (hc.2 I β w vs r hv).mono ?_⟩
  rintro e w' ⟨cv, u, I', β', h', h1, h2, h3⟩
  exact ⟨cv, u, I', β', h', h1, hq _ _ h2, h3⟩
def sh (N : Nat) : Nat → Option Nat := fun id => some (id + N)
def behind (h h0 : Heap) : Heap := h ++ h0.map (Ob.ren (sh h.length))
mutual
def AV.lean : AV → Bool
  | .ip .. => false
  | .isl .. => false
  | .fn _ fs cs => leans fs && leans cs
  | .ifc _ v => v.lean
  | .agg cs => leans cs
  | .tup cs => leans cs
  | .int .. => true
  | .bool _ => true
  | .str _ => true
  | .flt .. => true
  | .nilp => true
  | .nils => true
  | .nilf => true
  | .nili => true
  | .nilm => true
  | .e0 => true
  | .op .. => true
  | .osl .. => true
  | .om _ => true
  | .any => true
def leans : List AV → Bool
  | [] => true
  | v :: r => v.lean && leans r
end
theorem leans_get {l : List AV} (h : leans l = true) {j : Nat} {u : AV} (hj : l[j]? = some u) : u.lean = true := by
  induction l generalizing j with
  | nil => simp at hj
  | cons v r ih =>
    simp only [leans, Bool.and_eq_true] at h
    cases j with
    | zero => simp at hj; subst hj; exact h.1
    | succ j => simp at hj; exact ih h.2 hj
def Ob.lean : Ob → Bool
  | .dead => true
  | .arr _ es _ => es.all leans
  | .map es _ => es.all fun x => x.1.lean && x.2.1.lean
section
variable {I I' : Nat → Prop} {β : Nat → Nat} {N : Nat} {w : World}
theorem IRel.lean {u : AV} {v : Value} (h : IRel I w u v) (hl : u.lean = true) : IRel I' w u v := by
  induction h with
  | int k n => exact .int k n
  | bool b => exact .bool b
  | str s => exact .str s
  | flt k n => exact .flt k n
  | nilp => exact .nilp
  | nils => exact .nils
  | nilf => exact .nilf
  | nili => exact .nili
  | nilm => exact .nilm
  | e0 A => exact .e0 A
  | ip _ _ _ _ _ _ _ _ _ _ _ => simp [AV.lean] at hl
  | isl0 _ _ _ => simp [AV.lean] at hl
  | isl _ _ _ _ _ _ _ _ _ _ _ _ _ _ => simp [AV.lean] at hl
  | fn f fs cs fs' cs' h1 h2 _ _ ih1 ih2 =>
    simp only [AV.lean, Bool.and_eq_true] at hl
    exact .fn f fs cs fs' cs' h1 h2 (fun j u v hu hv => ih1 j u v hu hv (leans_get hl.1 hu)) (fun j u v hu hv => ih2 j u v hu hv (leans_get hl.2 hu))
  | ifc t u v _ ih => exact .ifc t u v (ih (by simpa [AV.lean] using hl))
  | agg cs cs' h1 h2 _ ih => exact .agg cs cs' h1 h2 (fun j u v hu hv => ih j u v hu hv (leans_get (by simpa [AV.lean] using hl) hu))
  | tup cs cs' h1 _ ih => exact .tup cs cs' h1 (fun j u v hu hv => ih j u v hu hv (leans_get (by simpa [AV.lean] using hl) hu))
theorem VRel.lean {u : AV} {v : Value} (h : VRel I β N w u v) (hl : u.lean = true) : VRel I' β N w u v := by
  induction h with
  | imm u v h => exact .imm u v (h.lean hl)
  | any v => exact .any v
  | op id k e off h => exact .op id k e off h
  | osl id k i len cap ex c n h h0 h1 h2 h3 h4 => exact .osl id k i len cap ex c n h h0 h1 h2 h3 h4
  | om id h => exact .om id h
  | fn f fs cs fs' cs' h1 h2 _ _ ih1 ih2 =>
    simp only [AV.lean, Bool.and_eq_true] at hl
    exact .fn f fs cs fs' cs' h1 h2 (fun j u v hu hv => ih1 j u v hu hv (leans_get hl.1 hu)) (fun j u v hu hv => ih2 j u v hu hv (leans_get hl.2 hu))
  | ifc t u v _ ih => exact .ifc t u v (ih (by simpa [AV.lean] using hl))
  | agg cs cs' h1 h2 _ ih => exact .agg cs cs' h1 h2 (fun j u v hu hv => ih j u v hu hv (leans_get (by simpa [AV.lean] using hl) hu))
  | tup cs cs' h1 _ ih => exact .tup cs cs' h1 (fun j u v hu hv => ih j u v hu hv (leans_get (by simpa [AV.lean] using hl) hu))
theorem ORel.lean {o : Ob} {x : Option Obj} (h : ORel I β N w o x) (hl : o.lean = true) : ORel I' β N w o x := by
  cases o with
  | dead => trivial
  | arr k es ex =>
    obtain ⟨cur, t, h1, h2, h3, h4, h5⟩ := h
    refine ⟨cur, t, h1, h2, h3, h4, fun i e j u he hu => ?_⟩
    obtain ⟨v, h6, h7, h8⟩ := h5 i e j u he hu
    simp only [Ob.lean, List.all_eq_true] at hl
    exact ⟨v, h6, h7.lean (leans_get (hl e (List.mem_of_getElem? he)) hu), h8⟩
  | map es c =>
    obtain ⟨es', h1, h2, h3⟩ := h
    refine ⟨es', h1, h2, fun j x y hx hy => ?_⟩
    obtain ⟨q1, q2, q3⟩ := h3 j x y hx hy
    simp only [Ob.lean, List.all_eq_true, Bool.and_eq_true] at hl
    have := hl x (List.mem_of_getElem? hx)
    exact ⟨q1.lean this.1, q2.lean this.2, q3⟩
end
def joinB (N : Nat) (β β' : Nat → Nat) : Nat → Nat := fun id => if id < N then β id else β' (id - N)
theorem behind_length {h h0 : Heap} : (behind h h0).length = h.length + h0.length := by simp [behind]
theorem behind_get {h h0 : Heap} {id : Nat} {o : Ob} (ho : (behind h h0)[id]? = some o) : (id < h.length ∧ h[id]? = some o) ∨ (h.length ≤ id ∧ ∃ o0, h0[id - h.length]? = some o0 ∧ o = o0.ren (sh h.length)) := by
  unfold behind at ho
  by_cases hid : id < h.length
  · rw [List.getElem?_append_left hid] at ho; exact .inl ⟨hid, ho⟩
  · rw [List.getElem?_append_right (by omega), List.getElem?_map] at ho
    cases hh : h0[id - h.length]? with
    | none => rw [hh] at ho; simp at ho
    | some o0 => rw [hh] at ho; simp at ho; exact .inr ⟨by omega, o0, rfl, ho.symm⟩
theorem shift_core {I I' : Nat → Prop} {β β' : Nat → Nat} {h h0 : Heap} {w w' : World} (r : Rel I β h w) (hos : w'.os = w.os) (htp : w'.tape = w.tape) (hout : w'.output = w.output) (hsz : w.heap.size ≤ w'.heap.size)
    (hkeep : ∀ b, b < w.heap.size → w'.heap[b]? = w.heap[b]?) (hown : ∀ b, Own h0 β' b → w.heap.size ≤ b) (r0 : Rel I' β' h0 w') (hI : ∀ b, I b → I' b) (hnew : ∀ b, I' b → I b ∨ w.heap.size ≤ b) :
    Ext I β h w I' (joinB h.length β β') (behind h h0) w' ∧ Rel I' (joinB h.length β β') (behind h h0) w' ∧ ∀ u v, VRel I' β' h0.length w' u v → VRel I' (joinB h.length β β') (behind h h0).length w' (u.ren (sh h.length)) v := by
  have hbs : ∀ b n, bsize w b = some n → bsize w' b = some n := fun b n hb => by
    have hlt : b < w.heap.size := by
      unfold bsize at hb
      split at hb
      · rename_i h1; exact (Array.getElem?_eq_some_iff.1 h1).1
      · simp at hb
    rw [bsize_of_heap (hkeep b hlt)]
    exact hb
  have hj1 : ∀ id, id < h.length → joinB h.length β β' id = β id := fun id hid => by simp [joinB, hid]
  have hj2 : ∀ id, joinB h.length β β' (id + h.length) = β' id := fun id => by unfold joinB; rw [if_neg (by omega), Nat.add_sub_cancel]
  have hρ : ∀ id j, id < h0.length → sh h.length id = some j → j < (behind h h0).length ∧ joinB h.length β β' j = β' id := fun id j hid hj => by
    simp only [sh, Option.some.injEq] at hj
    subst hj
    exact ⟨by rw [behind_length]; omega, hj2 id⟩
  have hm : ∀ u v, VRel I β h.length w u v → VRel I' (joinB h.length β β') (behind h h0).length w' u v := fun u v hv =>
    hv.mono hI (fun b hb => hkeep b (r.imm b hb)) (by rw [behind_length]; omega) (fun id hid => hj1 id hid) hbs
  refine ⟨⟨hos, htp, hout, hsz, by rw [behind_length]; omega, fun id hid => hj1 id hid, hI, fun b hb => (hnew b hb).imp id .inr, fun b hb => ?_, fun b hb _ => hkeep b hb, hbs⟩, ⟨r0.imm, fun id o ho hd => ?_, fun id id' o o' ho hd ho' hd' hb => ?_⟩, fun u v hv => hv.ren hρ⟩
  · obtain ⟨id, o, ho, hd, rfl⟩ := hb
    rcases behind_get ho with ⟨h1, h2⟩ | ⟨h1, o0, h2, rfl⟩
    · rw [hj1 id h1]; exact .inl ⟨id, o, h2, hd, rfl⟩
    · obtain ⟨j, rfl⟩ : ∃ j, id = j + h.length := ⟨id - h.length, by omega⟩
      rw [hj2]
      exact .inr (hown _ ⟨j, o0, by simpa using h2, Ob.ren_dead hd, rfl⟩)
  · rcases behind_get ho with ⟨h1, h2⟩ | ⟨h1, o0, h2, rfl⟩
    · rw [hj1 id h1]
      obtain ⟨q1, q2, q3⟩ := r.obj id o h2 hd
      refine ⟨by omega, fun hi => ?_, by rw [hkeep _ q1]; exact q3.mono hm⟩
      rcases hnew _ hi with h3 | h3
      · exact q2 h3
      · omega
    · obtain ⟨j, rfl⟩ : ∃ j, id = j + h.length := ⟨id - h.length, by omega⟩
      rw [hj2]
      obtain ⟨q1, q2, q3⟩ := r0.obj j o0 (by simpa using h2) (Ob.ren_dead hd)
      exact ⟨q1, q2, q3.ren hρ⟩
  · rcases behind_get ho with ⟨h1, h2⟩ | ⟨h1, o0, h2, rfl⟩ <;> rcases behind_get ho' with ⟨h1', h2'⟩ | ⟨h1', o0', h2', rfl⟩
    · rw [hj1 id h1, hj1 id' h1'] at hb; exact r.inj id id' o o' h2 hd h2' hd' hb
    · obtain ⟨j, rfl⟩ : ∃ j, id' = j + h.length := ⟨id' - h.length, by omega⟩
      rw [hj1 id h1, hj2] at hb
      have q := hown _ ⟨j, o0', by simpa using h2', Ob.ren_dead hd', rfl⟩
      have q' := (r.obj id o h2 hd).1
      omega
    · obtain ⟨j, rfl⟩ : ∃ j, id = j + h.length := ⟨id - h.length, by omega⟩
      rw [hj1 id' h1', hj2] at hb
      have q := hown _ ⟨j, o0, by simpa using h2, Ob.ren_dead hd, rfl⟩
      have q' := (r.obj id' o' h2' hd').1
      omega
    · obtain ⟨j, rfl⟩ : ∃ j, id = j + h.length := ⟨id - h.length, by omega⟩
      obtain ⟨j', rfl⟩ : ∃ j, id' = j + h.length := ⟨id' - h.length, by omega⟩
      rw [hj2, hj2] at hb
      rw [r0.inj j j' o0 o0' (by simpa using h2) (Ob.ren_dead hd) (by simpa using h2') (Ob.ren_dead hd') hb]
theorem acalls_shift {f : FuncId} {args : List AV} {h : Heap} {R Q : AV → Heap → Prop} (hc : ACalls P f args [] R) (ha : pures args = true) (hq : ∀ u h0, R u h0 → Q (u.ren (sh h.length)) (behind h h0)) : ACalls P f args h Q := by
  refine ⟨hc.1, fun I β w vs r hv => ?_⟩
  have hv' : VRels I (fun _ => 0) 0 w args vs := ⟨hv.1, fun j u v hu hv' => .imm _ _ ((hv.2 j u v hu hv').toI (pures_get ha hu))⟩
  refine (hc.2 I (fun _ => 0) w vs ⟨r.imm, fun id o h => by simp at h, fun id id' o o' h => by simp at h⟩ hv').mono ?_
  rintro e w' ⟨cv, u, I', β', h0, rfl, hr, he, r0, hvr⟩
  obtain ⟨h1, h2, h3⟩ := shift_core r he.os he.tape he.output he.size (fun b hb => he.keep b hb own_nil) (fun b hb => (he.own b hb).elim (fun x => absurd x own_nil) id) r0 he.sub
    (fun b hb => (he.immnew b hb).elim .inl fun x => x.elim (fun x => absurd x own_nil) .inr)
  exact ⟨cv, _, I', _, _, rfl, hq _ _ hr, h1, h2, h3 _ _ hvr⟩
inductive OFz (h : Heap) : AV → AV → Prop
  | flat (u : AV) : u.flat = true → OFz h u u
  | nils (k : Nat) : OFz h .nils (.isl k [])
  | osl (id k i len cap : Nat) (ex ex' : Bool) (es : List (List AV)) : h[id]? = some (.arr k es ex') → i + len ≤ es.length → (∀ e, e ∈ es → flats e = true) → OFz h (.osl id k i len cap ex) (.isl k ((es.drop i).take len))
  | tup (cs cs' : List AV) : cs'.length = cs.length → (∀ (q : Nat) (u u' : AV), cs[q]? = some u → cs'[q]? = some u' → OFz h u u') → OFz h (.tup cs) (.tup cs')
  | agg (cs cs' : List AV) : cs'.length = cs.length → (∀ (q : Nat) (u u' : AV), cs[q]? = some u → cs'[q]? = some u' → OFz h u u') → OFz h (.agg cs) (.agg cs')
theorem OFz.two {h : Heap} {u v u' v' : AV} (h1 : OFz h u u') (h2 : OFz h v v') : OFz h (.tup [u, v]) (.tup [u', v']) := by
  refine .tup _ _ rfl fun q x x' hx hx' => ?_
  match q with
  | 0 => simp at hx hx'; subst hx hx'; exact h1
  | 1 => simp at hx hx'; subst hx hx'; exact h2
  | q + 2 => simp at hx
mutual
theorem flat_pure : ∀ (u : AV), u.flat = true → u.pure = true
  | .agg cs, h => by simpa [AV.pure] using flat_pures cs (by simpa [AV.flat] using h)
  | .tup cs, h => by simpa [AV.pure] using flat_pures cs (by simpa [AV.flat] using h)
  | .int .., _ => rfl
  | .bool _, _ => rfl
  | .str _, _ => rfl
  | .flt .., _ => rfl
  | .nilp, _ => rfl
  | .nils, _ => rfl
  | .nilf, _ => rfl
  | .nili, _ => rfl
  | .nilm, _ => rfl
  | .e0, _ => rfl
  | .ip .., h => by simp [AV.flat] at h
  | .isl .., h => by simp [AV.flat] at h
  | .op .., h => by simp [AV.flat] at h
  | .osl .., h => by simp [AV.flat] at h
  | .om _, h => by simp [AV.flat] at h
  | .fn .., h => by simp [AV.flat] at h
  | .ifc .., h => by simp [AV.flat] at h
  | .any, h => by simp [AV.flat] at h
theorem flat_pures : ∀ (l : List AV), flats l = true → pures l = true
  | [], _ => rfl
  | a :: l, h => by
    simp only [flats, pures, Bool.and_eq_true] at h ⊢
    exact ⟨flat_pure a h.1, flat_pures l h.2⟩
end
theorem OFz.rel {I : Nat → Prop} {β : Nat → Nat} {h : Heap} {w : World} (r : Rel I β h w) {u u' : AV} (hf : OFz h u u') : ∀ {v : Value}, VRel I β h.length w u v → IRel (Own h β) w u' v := by
  induction hf with
  | flat u hp => intro v hv; exact (hv.toI (flat_pure u hp)).flat hp
  | nils k => intro v hv; rw [hv.nils_inv]; exact .isl0 k none 0
  | osl id k i len cap ex ex' es hid hle hp =>
    intro v hv
    have h1 := (Frz.flat (cap := cap) (ex := ex) hid hle (fun e he => flat_pures e (hp e he))).rel r hv
    have hp' : ∀ e, e ∈ (es.drop i).take len → flats e = true := fun e he => hp e (List.mem_of_mem_drop (List.mem_of_mem_take he))
    obtain ⟨cc, n, hv2, hidl, _⟩ := hv.osl_inv
    generalize (es.drop i).take len = X at h1 hp'
    cases h1 with
    | isl0 k A c => exact .isl0 k A c
    | isl k es' b o c f hne hl hb hk hc ho hr =>
      simp only [Value.slice.injEq, Option.some.injEq, Addr.mk.injEq] at hv2
      exact .isl k _ b o c f hne hl ⟨id, _, hid, by simp, hv2.1.1.symm⟩ hk hc ho (fun j e q u he hu => (hr j e q u he hu).flat (flats_get (hp' e (List.mem_of_getElem? he)) hu))
  | tup cs cs' hl _ ih =>
    intro v hv
    obtain ⟨vs, rfl, h1, h2⟩ := hv.tup_inv
    refine .tup _ _ (by omega) fun j u' v' hu hv' => ?_
    obtain ⟨u, hu0⟩ := getElem?_lt hl hu
    exact ih j u u' hu0 hu (h2 j u v' hu0 hv')
  | agg cs cs' hl _ ih =>
    intro v hv
    obtain ⟨vs, rfl, h1, h2, h3⟩ := hv.agg_inv
    refine .agg _ _ (by omega) h2 fun j u' v' hu hv' => ?_
    obtain ⟨u, hu0⟩ := getElem?_lt hl hu
    exact ih j u u' hu0 hu (h3 j u v' hu0 hv')
theorem acalls_fresh {f : FuncId} {args args' : List AV} {h : Heap} {R Q : AV → Heap → Prop} (hc : ACalls P f args' [] R) (ha : Frzs h args args') (hq : ∀ u h0, R u h0 → ∃ r, OFz h0 u r ∧ Q r h) : ACalls P f args h Q := by
  refine ⟨hc.1, fun I β w vs r hv => ?_⟩
  have hJ : ∀ b, IO I β h b → b < w.heap.size := by
    rintro b (hb | ⟨id, o, h1, h2, rfl⟩)
    · exact r.imm b hb
    · exact (r.obj id o h1 h2).1
  have hv' : VRels (IO I β h) (fun _ => 0) 0 w args' vs := ⟨by rw [ha.1]; exact hv.1, fun j u' v hu hv' => by
    obtain ⟨u, hu0⟩ := getElem?_lt ha.1 hu
    exact .imm _ _ ((ha.2 j u u' hu0 hu).rel r (hv.2 j u v hu0 hv'))⟩
  refine (hc.2 (IO I β h) (fun _ => 0) w vs ⟨hJ, fun id o h => by simp at h, fun id id' o o' h => by simp at h⟩ hv').mono ?_
  rintro e w' ⟨cv, u, I', β', h0, rfl, hr, he, r0, hvr⟩
  obtain ⟨rr, hz, hqq⟩ := hq _ _ hr
  have hown : ∀ b, Own h0 β' b → w.heap.size ≤ b := fun b hb => (he.own b hb).elim (fun x => absurd x own_nil) id
  have hlt : ∀ b, I b ∨ Own h0 β' b → b < w'.heap.size := fun b hb => by
    rcases hb with hb | ⟨id, o, h1, h2, rfl⟩
    · have := r.imm b hb; have := he.size; omega
    · exact (r0.obj id o h1 h2).1
  obtain ⟨h1, h2⟩ := r.pext (J := I) (I' := fun b => I b ∨ Own h0 β' b) (w' := w') r.imm ⟨he.os, he.tape, he.output, he.size, fun b hb => he.keep b hb own_nil, fun b hb => .inl hb, fun b hb => hb.imp id (hown b), hlt⟩ (fun _ x => x)
  exact ⟨cv, rr, _, β, h, rfl, hqq, h1, h2, .imm _ _ ((hz.rel r0 hvr).mono (fun b hb => .inr ⟨.inr hb, hown b hb⟩) (fun _ _ => rfl))⟩
end
end Go.AL
end
section
namespace Go.AL
set_option linter.unusedVariables false
set_option linter.unusedSimpArgs false
section
variable {P : Program} {a : Fr} {h : Heap}
theorem storeK_imp {t : TypeId} {p u : AV} {K K' : Heap → Prop} (hK : ∀ h, K h → K' h) (hk : storeK P t h p u K) : storeK P t h p u K' := by
  cases p with
  | op id k e off => exact cellsK_imp (fun cs ⟨h1, es, ex, h2, c, h3, h4, h5⟩ => ⟨h1, es, ex, h2, c, h3, h4, hK _ h5⟩) hk
  | _ => exact hk.elim
theorem makeSliceK_imp {t : TypeId} {l c : AV} {K K' : AV → Heap → Prop} (hK : ∀ u h, K u h → K' u h) (hk : makeSliceK P t h l c K) : makeSliceK P t h l c K' := by
  cases l with
  | int k l => cases c with
    | int k' c => obtain ⟨e, z, b, h1, h2, h3, h4, h5, h6, h7, h8⟩ := hk; exact ⟨e, z, b, h1, h2, h3, h4, h5, h6, h7, hK _ _ h8⟩
    | _ => exact hk.elim
  | _ => exact hk.elim
theorem elemsK_imp {k : Nat} {x : AV} {K K' : List (List AV) → Prop} (hK : ∀ es, K es → K' es) (hk : elemsK h k x K) : elemsK h k x K' := by
  cases x with
  | nils => exact hK _ hk
  | isl k' es => exact ⟨hk.1, hK _ hk.2⟩
  | osl id k' i len cap ex => obtain ⟨h1, es, ex', h2, h3, h4⟩ := hk; exact ⟨h1, es, ex', h2, h3, hK _ h4⟩
  | _ => exact hk.elim
theorem growK_imp {k b : Nat} {z : List AV} {N : Nat} {g : Heap} {es : List (List AV)} {K K' : AV → Heap → Prop} (hK : ∀ u h, K u h → K' u h) (hk : growK k b z N g es K) : growK k b z N g es K' := by
  unfold growK at hk ⊢
  split
  · rename_i c; rw [if_pos c] at hk; exact fun c h => hK _ _ (hk c h)
  · rename_i c; rw [if_neg c] at hk; exact hK _ _ hk
theorem apK_imp {z : List AV} {b : Nat} {s : AV} {xs : List (List AV)} {K K' : AV → Heap → Prop} (hK : ∀ u h, K u h → K' u h) (hk : apK z b h s xs K) : apK z b h s xs K' := by
  cases s with
  | nils => exact ⟨hk.1, fun e => hK _ _ (hk.2.1 e), fun e => growK_imp hK (hk.2.2 e)⟩
  | e0 => exact ⟨hk.1, fun e => hK _ _ (hk.2.1 e), fun e => growK_imp hK (hk.2.2 e)⟩
  | osl id k' i len cap ex =>
    obtain ⟨h1, h2, es, ex', h3, h4, h5, h6⟩ := hk
    refine ⟨h1, h2, es, ex', h3, h4, fun e => ⟨(h5 e).1, hK _ _ (h5 e).2⟩, fun e => ?_⟩
    have := h6 e
    cases ex with
    | true => exact growK_imp hK this
    | false => exact ⟨this.1, hK _ _ this.2⟩
  | _ => exact hk.elim
theorem appendK_imp {t t' : TypeId} {s x : AV} {K K' : AV → Heap → Prop} (hK : ∀ u h, K u h → K' u h) (hk : appendK P t t' h s x K) : appendK P t t' h s x K' := by
  rw [appendK_ap] at hk ⊢
  obtain ⟨e, z, b, h1, h2, h3, h4, h5, h6⟩ := hk
  exact ⟨e, z, b, h1, h2, h3, h4, h5, elemsK_imp (fun _ => apK_imp hK) h6⟩
theorem clearK_imp {t : TypeId} {x : AV} {K K' : Heap → Prop} (hK : ∀ h, K h → K' h) (hk : clearK P t h x K) : clearK P t h x K' := by
  cases x with
  | nils => exact ⟨hk.1, hK _ hk.2⟩
  | osl id k i len cap ex => obtain ⟨e, z, h1, h2, h3, es, ex', h4, h5, h6⟩ := hk; exact ⟨e, z, h1, h2, h3, es, ex', h4, h5, hK _ h6⟩
  | _ => exact hk.elim
theorem callK_imp {f : AV} {us : List AV} {K K' : AV → Heap → Prop} (hK : ∀ u h, K u h → K' u h) (hk : callK P f us h K) : callK P f us h K' := by
  cases f with
  | fn g first cap => cases g with
    | func g => exact ACalls.mono' hk hK
    | _ => exact hk.elim
  | _ => exact hk.elim
theorem aop_imp {op : Op} {K K' : AV → Heap → Prop} (hK : ∀ u h, K u h → K' u h) (hk : aop P op a h K) : aop P op a h K' := by
  by_cases hq : quietOp op = true
  · exact aop_quiet hq (fun u => hK u h) hk
  cases op with
  | alloc t => obtain ⟨cs, h1, h2⟩ := hk; exact ⟨cs, h1, hK _ _ h2⟩
  | box t x => simp only [aop] at hk ⊢; exact evK_imp' (fun _ => cellsK_imp fun _ h => hK _ _ h) hk
  | buildSlice t len parts => simp only [aop] at hk ⊢; exact evpK_imp' (fun us ⟨e, z, h1, h2, h3, h4⟩ => ⟨e, z, h1, h2, h3, fillRK_imp (fun _ h => hK _ _ h) h4⟩) hk
  | load t x => simp only [aop] at hk ⊢; exact evK_imp' (fun _ => loadK_imp fun _ h => hK _ _ h) hk
  | store t p x => simp only [aop] at hk ⊢; exact evK_imp' (fun _ => evK_imp' fun _ => storeK_imp fun _ h => hK _ _ h) hk
  | makeSlice t l c => simp only [aop] at hk ⊢; exact evK_imp' (fun _ => evK_imp' fun _ => makeSliceK_imp hK) hk
  | call c =>
    obtain ⟨callee, args, ts⟩ := c
    cases callee with
    | value f => simp only [aop] at hk ⊢; exact evK_imp' (fun _ => evsK_imp' fun _ => callK_imp hK) hk
    | builtin b =>
      cases b with
      | clear =>
        simp only [aop, builtinK] at hk ⊢
        split at hk
        · exact evK_imp' (fun _ => clearK_imp fun h => hK _ h) hk
        · exact hk.elim
      | append =>
        simp only [aop, builtinK] at hk ⊢
        split at hk
        · exact evK_imp' (fun _ => evK_imp' fun _ => appendK_imp hK) hk
        · exact hk.elim
      | _ => first | exact absurd rfl hq | exact hk.elim
    | invoke r m => exact hk.elim
  | _ => first | exact absurd rfl hq | exact hk.elim
variable {n : Nat}
theorem putK_imp {dst : Option Tmp} {v : AV} {K K' : Fr → Prop} (hK : ∀ a, K a → K' a) (hk : putK n dst a v K) : putK n dst a v K' := by
  cases dst with
  | none => exact hK _ hk
  | some d => exact ⟨hk.1, hK _ hk.2⟩
theorem guardK_imp {ops : List Oper} {g : Option (Nat × Bool)} {K K' : Bool → Prop} (hK : ∀ b, K b → K' b) (hk : guardK ops g a K) : guardK ops g a K' := by
  cases g with
  | none => exact hK _ hk
  | some x =>
    obtain ⟨j, want⟩ := x
    simp only [guardK] at hk ⊢
    cases hs : gslot ops j with
    | none => simp [hs] at hk
    | some t =>
      simp only [hs] at hk ⊢
      cases ha : a t with
      | bool b => simp only [ha] at hk ⊢; exact ⟨fun e => hK _ (hk.1 e), fun e => hK _ (hk.2 e)⟩
      | tup l => cases l with
        | nil => simp only [ha] at hk ⊢; exact hK _ hk
        | cons _ _ => simp [ha] at hk
      | _ => simp [ha] at hk
theorem aops_imp {all : List Oper} : ∀ {l : List Oper} {a : Fr} {h : Heap} {K K' : Fr → Heap → Prop}, (∀ a h, K a h → K' a h) → aops P n all l a h K → aops P n all l a h K'
  | [], a, h, K, K', hK, hk => hK _ _ hk
  | o :: l, a, h, K, K', hK, hk => by
    unfold aops at hk ⊢
    refine guardK_imp (fun b hb => ?_) hk
    cases b with
    | true => exact aop_imp (fun u h => putK_imp fun a => aops_imp hK) hb
    | false => exact putK_imp (fun a => aops_imp hK) hb
theorem adr_imp {all : List Oper} : ∀ {pl : Plan} {a : Fr} {h : Heap} {done : List (Nat × Fr × AV)} {K K' : Fr → Heap → Prop}, (∀ a h, K a h → K' a h) → adr P n all pl a h done K → adr P n all pl a h done K'
  | [], a, h, done, K, K', hK, hk => hK _ _ hk
  | (i, keep, rs) :: rest, a, h, done, K, K', hK, hk => by
    unfold adr at hk ⊢
    cases ho : all[i]? with
    | none => rw [ho] at hk; exact hk.elim
    | some o =>
      rw [ho] at hk
      refine guardK_imp (fun b hb => ?_) hk
      cases b with
      | true =>
        simp only at hb ⊢
        cases hp : pureOp o.op with
        | true => rw [hp] at hb; obtain ⟨v, h1, h2⟩ := hb; exact ⟨v, h1, putK_imp (fun a => adr_imp hK) h2⟩
        | false => rw [hp] at hb; exact aop_imp (fun u h ⟨h1, h2⟩ => ⟨h1, putK_imp (fun a => adr_imp hK) h2⟩) hb
      | false => exact putK_imp (fun a => adr_imp hK) hb
theorem adrD_imp {all : List Oper} {pl : Plan} {a : Fr} {h : Heap} {K K' : Fr → Heap → Prop} (hK : ∀ a h, K a h → K' a h) (hk : adrD P n all pl a h K) : adrD P n all pl a h K' := by
  unfold adrD at hk ⊢
  cases ht : twoOf pl with
  | none => rw [ht] at hk; exact adr_imp hK hk
  | some x => obtain ⟨p, t1, t2⟩ := x; rw [ht] at hk; exact adrX_mono (fun a d hh => ⟨adr_imp hK hh.1, adr_imp hK hh.2⟩) _ _ _ hk
variable {pl : Nat → Plan}
theorem thenK_imp {K K' : Fr → Heap → Prop} {Q Q' : Exit → Fr → Heap → Prop} (hK : ∀ a h, K a h → K' a h) (hQ : ∀ e a h, Q e a h → Q' e a h) : ∀ e a h, thenK K Q e a h → thenK K' Q' e a h := fun e a h hk => by
  cases e <;> first | exact hK _ _ hk | exact hQ _ _ _ hk
theorem blockK_imp {id : Nat} {Q Q' : Exit → Fr → Heap → Prop} (hQ : ∀ e a h, Q e a h → Q' e a h) : ∀ e a h, blockK id Q e a h → blockK id Q' e a h := fun e a h hk => by
  cases e with
  | exit j =>
    simp only [blockK] at hk ⊢
    by_cases hj : j = id
    · rw [if_pos hj] at hk ⊢; exact hQ _ _ _ hk
    · rw [if_neg hj] at hk ⊢; exact hQ _ _ _ hk
  | _ => exact hQ _ _ _ hk
theorem asx_imp : ∀ {c : Code} {a : Fr} {h : Heap} {Q Q' : Exit → Fr → Heap → Prop}, (∀ e a h, Q e a h → Q' e a h) → asx P n pl c Q a h → asx P n pl c Q' a h := by
  intro c
  induction c with
  | skip => intro a h Q Q' hQ hk; exact hQ _ _ _ hk
  | region id ops draw =>
    intro a h Q Q' hQ hk
    cases draw with
    | false => exact aops_imp (K := fun a h => Q .normal a h) (K' := fun a h => Q' .normal a h) (fun a h => hQ _ a h) hk
    | true => exact adrD_imp (K := fun a h => Q .normal a h) (K' := fun a h => Q' .normal a h) (fun a h => hQ _ a h) hk
  | seq x y ihx ihy => intro a h Q Q' hQ hk; exact ihx (thenK_imp (fun a h => ihy hQ) hQ) hk
  | cond x t e iht ihe =>
    intro a h Q Q' hQ hk
    refine evK_imp' (fun u hu => ?_) hk
    cases u with
    | bool b => exact ⟨fun e => iht hQ (hu.1 e), fun e => ihe hQ (hu.2 e)⟩
    | _ => exact hu.elim
  | block id c ih => intro a h Q Q' hQ hk; exact ih (blockK_imp hQ) hk
  | loop c ih =>
    intro a h Q Q' hQ hk
    obtain ⟨J, h0, hr⟩ := hk
    exact ⟨J, h0, fun m a1 h1 hj => ih (thenK_imp (fun _ _ x => x) hQ) (hr m a1 h1 hj)⟩
  | exit id => intro a h Q Q' hQ hk; exact hQ _ _ _ hk
  | ret => intro a h Q Q' hQ hk; exact hQ _ _ _ hk
  | label l => intro a h Q Q' hQ hk; exact hQ _ _ _ hk
  | _ => intro a h Q Q' hQ hk; exact hk.elim
theorem asx_cut {x y : Code} {Q : Exit → Fr → Heap → Prop} (M : Fr → Heap → Prop) (hx : asx P n pl x (thenK M Q) a h) (hy : ∀ a h, M a h → asx P n pl y Q a h) : asx P n pl (.seq x y) Q a h := by
  unfold asx
  exact asx_imp (thenK_imp hy fun _ _ _ hq => hq) hx
def LoopN (P : Program) (n : Nat) (pl : Nat → Plan) (c : Code) (Q : Exit → Fr → Heap → Prop) : Nat → Fr → Heap → Prop
  | 0, _, _ => False
  | m + 1, a, h => asx P n pl c (thenK (LoopN P n pl c Q m) Q) a h
theorem LoopN.loop {c : Code} {Q : Exit → Fr → Heap → Prop} (m : Nat) (hl : LoopN P n pl c Q m a h) : LoopK (asx P n pl c) Q a h := by
  refine LoopK.intro (fun m a h => LoopN P n pl c Q m a h) m hl fun m a1 h1 hj => ?_
  cases m with
  | zero => exact hj.elim
  | succ m => exact asx_imp (thenK_imp (fun a h hk => .inl ⟨m, Nat.lt_succ_self m, hk⟩) fun _ _ _ hq => hq) hj
theorem LoopN_succ {c : Code} {Q : Exit → Fr → Heap → Prop} {m : Nat} : LoopN P n pl c Q (m + 1) a h = asx P n pl c (thenK (LoopN P n pl c Q m) Q) a h := rfl
end
end Go.AL
end
section
namespace Go.AL
set_option linter.unusedVariables false
set_option linter.unusedSimpArgs false
def ints (xs : List Int) : AV := .isl 1 (List.map intE xs)
theorem ren_osl {N id k i len cap : Nat} {ex : Bool} : AV.ren (sh N) (.osl id k i len cap ex) = .osl (id + N) k i len cap ex := (rfl)
theorem ren_op {N id k e off : Nat} : AV.ren (sh N) (.op id k e off) = .op (id + N) k e off := (rfl)
theorem ren_int {ρ : Nat → Option Nat} {k : IntKind} {n : Int} : AV.ren ρ (.int k n) = .int k n := (rfl)
theorem ren_bool {ρ : Nat → Option Nat} {b : Bool} : AV.ren ρ (.bool b) = .bool b := (rfl)
theorem ren_nils {ρ : Nat → Option Nat} : AV.ren ρ .nils = .nils := (rfl)
theorem ren_tup {ρ : Nat → Option Nat} {vs : List AV} : AV.ren ρ (.tup vs) = .tup (rens ρ vs) := (rfl)
theorem ren_agg {ρ : Nat → Option Nat} {vs : List AV} : AV.ren ρ (.agg vs) = .agg (rens ρ vs) := (rfl)
theorem ren_isl {ρ : Nat → Option Nat} {k : Nat} {es : List (List AV)} : AV.ren ρ (.isl k es) = .isl k es := (rfl)
theorem rens_nil {ρ : Nat → Option Nat} : rens ρ [] = [] := (rfl)
theorem rens_cons {ρ : Nat → Option Nat} {v : AV} {r : List AV} : rens ρ (v :: r) = v.ren ρ :: rens ρ r := (rfl)
theorem ren_intEs {ρ : Nat → Option Nat} {xs : List Int} {ex : Bool} : Ob.ren ρ (.arr 1 (List.map intE xs) ex) = .arr 1 (List.map intE xs) ex := by
  simp only [Ob.ren, List.map_map]
  congr 1
theorem ren_boolEs {ρ : Nat → Option Nat} {xs : List Bool} {ex : Bool} : Ob.ren ρ (.arr 1 (List.map boolE xs) ex) = .arr 1 (List.map boolE xs) ex := by
  simp only [Ob.ren, List.map_map]
  congr 1
theorem behind_eq {h h0 : Heap} : behind h h0 = h ++ h0.map (Ob.ren (sh h.length)) := (rfl)
theorem map_one {α β : Type} {f : α → β} {x : α} : List.map f [x] = [f x] := (rfl)
end Go.AL
end
section
namespace Go.Proofs.YtclbobielhllmaaGreat
open Go Go.AL Go.ChangeShapes Go.WideShapes Go.ChangeAt Go.RowKit
set_option linter.unusedVariables false
set_option linter.unusedSimpArgs false
theorem zOwn : ownKnob Tryz.prog.godebug = none := by kernel_rfl
theorem zLaidOut : laidOutB Tryz.prog = true := by kernel_rfl
theorem bulk_one {H : Type} (d : DataW H) : 1 ≤ Rows.uptoBulk d := by
  cases d with
  | lit l => cases l <;> simp [Rows.uptoBulk]
  | _ => simp [Rows.uptoBulk]
theorem bulk_len {H : Type} (l : List (DataW H)) : l.length ≤ Rows.uptoBulkAll l := by
  induction l with
  | nil => simp
  | cons x r ih => have := bulk_one x; simp only [Rows.uptoBulkAll, List.length_cons]; omega
theorem bulk_part {H : Type} {d : DataW H} : ∀ {l : List (DataW H)}, d ∈ l → Rows.uptoBulk d ≤ Rows.uptoBulkAll l
  | x :: r, h => by
    simp only [Rows.uptoBulkAll]
    rcases List.mem_cons.1 h with e | e
    · subst e; omega
    · have := bulk_part e; omega
theorem bulk_slice {H : Type} (elems spare : List (DataW H)) : elems.length ≤ Rows.uptoBulk (.slice elems spare) := by
  have h1 := bulk_len elems
  simp only [Rows.uptoBulk]
  omega
theorem bulk_agg {H : Type} (parts : List (DataW H)) : Rows.uptoBulkAll parts ≤ Rows.uptoBulk (.agg parts) := by
  simp only [Rows.uptoBulk]
  omega
theorem bulk_ok {H : Type} {l : List (DataW H)} (hk : Rows.uptoSmall H l = true) : Rows.uptoBulkAll l ≤ 1048576 := by
  simpa [Rows.uptoSmall] using hk
abbrev allOf (W : World) : Nat → Prop := fun b => b < W.heap.size
theorem cell_lt {W : World} {a : Addr} {v : Value} (h : W.cell? a = some v) : a.block < W.heap.size := by
  unfold World.cell? at h
  rcases Nat.lt_or_ge a.block W.heap.size with hlt | hge
  · exact hlt
  · rw [Array.getElem?_eq_none hge] at h
    simp at h
theorem calls_true {f : FuncId} {us : List AV} {vs : List Value} {W : World} (hc : ACalls Tryz.prog f us [] fun v h => OFz h v (.bool true)) (hl : vs.length = us.length) (hv : ∀ (j : Nat) (u : AV) (v : Value), us[j]? = some u → vs[j]? = some v → IRel (allOf W) W u v) :
    Calls Tryz.prog f vs.toArray W fun e W' => e = .returned (.bool true) ∧ Below W.heap.size W W' := by
  refine (hc.2 (allOf W) (fun _ => 0) W vs ⟨fun b hb => hb, fun id o h => by simp at h, fun id id' o o' h => by simp at h⟩ ⟨hl.symm, fun j u v hu hv' => .imm _ _ (hv j u v hu hv')⟩).mono ?_
  rintro e w' ⟨cv, u, I', β', h', rfl, hq, hE, hR, hv'⟩
  refine ⟨?_, ⟨hE.os, hE.tape, hE.output, hE.size, fun k hk => hE.keep k hk (fun ⟨id, o, h1, _⟩ => by simp at h1)⟩⟩
  have hu : u = .bool true := by
    cases hq
    rfl
  subst hu
  cases hv' with
  | imm _ _ hi => cases hi; rfl
theorem trodAll_stays {H : Type} {enc : TypeId × Value → H} {W W' : World} {sp : Nat → Bool} (hb : Below W.heap.size W W') : ∀ {ts : List TypeId} {vs : List Value} {ds : List (DataW H)} {ps : List MemPlace}, (∀ t ∈ ts, Tryz.prog.readableRec t = true ∧ t < Tryz.prog.types.size) →
    DataW.TrodAll enc Tryz.prog W 0 (fun _ => true) true ts vs ds ps → (∀ x ∈ ps, x.block < W.heap.size) → (∀ x ∈ ps, sp x.block = true) → DataW.TrodAll enc Tryz.prog W' 0 sp true ts vs ds ps
  | [], [], [], _, _, h, _, _ => h
  | _ :: _, _ :: _, _ :: _, _, hT, ⟨p, q, h1, h2, e⟩, hlt, hs => by
    subst e
    exact ⟨p, q, WideElems.Trod_stays zLaidOut (hT _ List.mem_cons_self).1 (hT _ List.mem_cons_self).2 h1 (fun x hx => hb.same (hlt x (List.mem_append_left _ hx))) (fun x hx => hs x (List.mem_append_left _ hx)),
      trodAll_stays hb (fun t ht => hT t (List.mem_cons_of_mem _ ht)) h2 (fun x hx => hlt x (List.mem_append_right _ hx)) (fun x hx => hs x (List.mem_append_right _ hx)), rfl⟩
theorem post_true {H : Type} {enc : TypeId × Value → H} {f : Func} {s : ChangeSpec} {W W' : World} {args : Array Value} {ds : List (DataW H)} {p : List MemPlace} (hW : DataW.Whole enc Tryz.prog f.params.toList s.vars false W args.toList ds [] (p ++ []))
    (hA : DataW.TrodAll enc Tryz.prog W 0 (fun _ => true) true f.params.toList args.toList ds p) (hT : ∀ t ∈ f.params.toList, Tryz.prog.readableRec t = true ∧ t < Tryz.prog.types.size) (hr : f.resultTypes = #[4]) (hs : s.fn H (ds ++ []) = { results := [.lit (.bool true)], args := ds }) (hv : s.vars = [])
    (hb : Below W.heap.size W W') : s.post enc Tryz.prog f false true false false W args (.bool true) W' := by
  have hlt : ∀ x ∈ p, x.block < W.heap.size := fun x hx => hW.lt x (List.mem_append_left _ hx)
  refine ⟨ds, [], p ++ [], [], p, [], hW, ?_, ?_, ?_, ?_, fun h => by cases h⟩
  · rw [hr, hs]
    exact trodAll_cons_mk (shut_bool Tryz.underlying4 _) trodAll_mk0
  · rw [hs]
    exact trodAll_stays hb hT hA hlt (fun x hx => by simpa using hlt x hx)
  · rw [hs, hv]
    rfl
  · exact hb.frame _
end Go.Proofs.YtclbobielhllmaaGreat
end
section
namespace Go.Proofs.YtclbobielhllmaaGreat
open Go.AL
theorem mixed : Tryz.prog.follows .mixedOrders = true := by kernel_rfl
theorem ft2 : tsize Tryz.prog 2 = some 1 ∧ tbytes Tryz.prog 2 = some 8 ∧ tagg Tryz.prog 2 = some false ∧ zcells Tryz.prog 2 = some [AV.int .i64 0] ∧ telem Tryz.prog 2 = none ∧ tint Tryz.prog 2 = some .i64 ∧ tnotIface Tryz.prog 2 = true := ⟨by kernel_rfl, by kernel_rfl, by kernel_rfl, by kernel_rfl, by kernel_rfl, by kernel_rfl, by kernel_rfl⟩
theorem ft3 : tsize Tryz.prog 3 = some 1 ∧ tbytes Tryz.prog 3 = some 8 ∧ tagg Tryz.prog 3 = some false ∧ zcells Tryz.prog 3 = some [AV.int .i64 0] ∧ telem Tryz.prog 3 = none ∧ tint Tryz.prog 3 = some .i64 ∧ tnotIface Tryz.prog 3 = true := ⟨by kernel_rfl, by kernel_rfl, by kernel_rfl, by kernel_rfl, by kernel_rfl, by kernel_rfl, by kernel_rfl⟩
theorem ft4 : tsize Tryz.prog 4 = some 1 ∧ tbytes Tryz.prog 4 = some 1 ∧ tagg Tryz.prog 4 = some false ∧ zcells Tryz.prog 4 = some [AV.bool false] ∧ telem Tryz.prog 4 = none ∧ tbool Tryz.prog 4 = true ∧ tnotIface Tryz.prog 4 = true := ⟨by kernel_rfl, by kernel_rfl, by kernel_rfl, by kernel_rfl, by kernel_rfl, by kernel_rfl, by kernel_rfl⟩
theorem ft5 : tsize Tryz.prog 5 = some 1 ∧ tbytes Tryz.prog 5 = some 1 ∧ tagg Tryz.prog 5 = some false ∧ zcells Tryz.prog 5 = some [AV.int .u8 0] ∧ telem Tryz.prog 5 = none ∧ tint Tryz.prog 5 = some .u8 ∧ tnotIface Tryz.prog 5 = true := ⟨by kernel_rfl, by kernel_rfl, by kernel_rfl, by kernel_rfl, by kernel_rfl, by kernel_rfl, by kernel_rfl⟩
theorem ft6 : tsize Tryz.prog 6 = some 1 ∧ tbytes Tryz.prog 6 = some 1 ∧ tagg Tryz.prog 6 = some false ∧ zcells Tryz.prog 6 = some [AV.int .u8 0] ∧ telem Tryz.prog 6 = none ∧ tint Tryz.prog 6 = some .u8 ∧ tnotIface Tryz.prog 6 = true := ⟨by kernel_rfl, by kernel_rfl, by kernel_rfl, by kernel_rfl, by kernel_rfl, by kernel_rfl, by kernel_rfl⟩
theorem ft7 : tsize Tryz.prog 7 = some 4 ∧ tbytes Tryz.prog 7 = some 24 ∧ tagg Tryz.prog 7 = some true ∧ zcells Tryz.prog 7 = some [AV.int .i64 0, AV.int .i64 0, AV.bool false, AV.int .u8 0] ∧ telem Tryz.prog 7 = none ∧ tnotIface Tryz.prog 7 = true ∧ foff Tryz.prog 7 0 = some (0, 2) ∧ foff Tryz.prog 7 1 = some (1, 3) ∧ foff Tryz.prog 7 2 = some (2, 4) ∧ foff Tryz.prog 7 3 = some (3, 6) ∧ fplaces Tryz.prog 7 = some [(0, 1), (1, 1), (2, 1), (3, 1)] := ⟨by kernel_rfl, by kernel_rfl, by kernel_rfl, by kernel_rfl, by kernel_rfl, by kernel_rfl, by kernel_rfl, by kernel_rfl, by kernel_rfl, by kernel_rfl, by kernel_rfl⟩
theorem ft8 : tsize Tryz.prog 8 = some 4 ∧ tbytes Tryz.prog 8 = some 24 ∧ tagg Tryz.prog 8 = some true ∧ zcells Tryz.prog 8 = some [AV.int .i64 0, AV.int .i64 0, AV.bool false, AV.int .u8 0] ∧ telem Tryz.prog 8 = none ∧ tnotIface Tryz.prog 8 = true ∧ foff Tryz.prog 8 0 = some (0, 2) ∧ foff Tryz.prog 8 1 = some (1, 3) ∧ foff Tryz.prog 8 2 = some (2, 4) ∧ foff Tryz.prog 8 3 = some (3, 6) ∧ fplaces Tryz.prog 8 = some [(0, 1), (1, 1), (2, 1), (3, 1)] := ⟨by kernel_rfl, by kernel_rfl, by kernel_rfl, by kernel_rfl, by kernel_rfl, by kernel_rfl, by kernel_rfl, by kernel_rfl, by kernel_rfl, by kernel_rfl, by kernel_rfl⟩
theorem ft9 : tsize Tryz.prog 9 = some 1 ∧ tbytes Tryz.prog 9 = some 16 ∧ tagg Tryz.prog 9 = some false ∧ zcells Tryz.prog 9 = some [AV.str ⟨#[]⟩] ∧ telem Tryz.prog 9 = none ∧ tstring Tryz.prog 9 = true ∧ tnotIface Tryz.prog 9 = true := ⟨by kernel_rfl, by kernel_rfl, by kernel_rfl, by kernel_rfl, by kernel_rfl, by kernel_rfl, by kernel_rfl⟩
theorem ft10 : tsize Tryz.prog 10 = some 1 ∧ tbytes Tryz.prog 10 = some 16 ∧ tagg Tryz.prog 10 = some false ∧ zcells Tryz.prog 10 = some [AV.str ⟨#[]⟩] ∧ telem Tryz.prog 10 = none ∧ tstring Tryz.prog 10 = true ∧ tnotIface Tryz.prog 10 = true := ⟨by kernel_rfl, by kernel_rfl, by kernel_rfl, by kernel_rfl, by kernel_rfl, by kernel_rfl, by kernel_rfl⟩
theorem ft11 : tsize Tryz.prog 11 = some 1 ∧ tbytes Tryz.prog 11 = some 16 ∧ tagg Tryz.prog 11 = some false ∧ zcells Tryz.prog 11 = some [AV.str ⟨#[]⟩] ∧ telem Tryz.prog 11 = none ∧ tstring Tryz.prog 11 = true ∧ tnotIface Tryz.prog 11 = true := ⟨by kernel_rfl, by kernel_rfl, by kernel_rfl, by kernel_rfl, by kernel_rfl, by kernel_rfl, by kernel_rfl⟩
theorem ft12 : tsize Tryz.prog 12 = some 1 ∧ tbytes Tryz.prog 12 = some 8 ∧ tagg Tryz.prog 12 = some false ∧ zcells Tryz.prog 12 = some [AV.int .u64 0] ∧ telem Tryz.prog 12 = none ∧ tint Tryz.prog 12 = some .u64 ∧ tnotIface Tryz.prog 12 = true := ⟨by kernel_rfl, by kernel_rfl, by kernel_rfl, by kernel_rfl, by kernel_rfl, by kernel_rfl, by kernel_rfl⟩
theorem ft13 : tsize Tryz.prog 13 = some 2 ∧ tbytes Tryz.prog 13 = some 24 ∧ tagg Tryz.prog 13 = some true ∧ zcells Tryz.prog 13 = some [AV.str ⟨#[]⟩, AV.int .u64 0] ∧ telem Tryz.prog 13 = none ∧ tnotIface Tryz.prog 13 = true ∧ foff Tryz.prog 13 0 = some (0, 9) ∧ foff Tryz.prog 13 1 = some (1, 12) ∧ fplaces Tryz.prog 13 = some [(0, 1), (1, 1)] := ⟨by kernel_rfl, by kernel_rfl, by kernel_rfl, by kernel_rfl, by kernel_rfl, by kernel_rfl, by kernel_rfl, by kernel_rfl, by kernel_rfl⟩
theorem ft14 : tsize Tryz.prog 14 = some 2 ∧ tbytes Tryz.prog 14 = some 24 ∧ tagg Tryz.prog 14 = some true ∧ zcells Tryz.prog 14 = some [AV.str ⟨#[]⟩, AV.int .u64 0] ∧ telem Tryz.prog 14 = none ∧ tnotIface Tryz.prog 14 = true ∧ foff Tryz.prog 14 0 = some (0, 9) ∧ foff Tryz.prog 14 1 = some (1, 12) ∧ fplaces Tryz.prog 14 = some [(0, 1), (1, 1)] := ⟨by kernel_rfl, by kernel_rfl, by kernel_rfl, by kernel_rfl, by kernel_rfl, by kernel_rfl, by kernel_rfl, by kernel_rfl, by kernel_rfl⟩
theorem ft15 : tsize Tryz.prog 15 = some 1 ∧ tbytes Tryz.prog 15 = some 8 ∧ tagg Tryz.prog 15 = some false ∧ zcells Tryz.prog 15 = some [AV.nilp] ∧ telem Tryz.prog 15 = none ∧ tptr Tryz.prog 15 = true ∧ tnotIface Tryz.prog 15 = true := ⟨by kernel_rfl, by kernel_rfl, by kernel_rfl, by kernel_rfl, by kernel_rfl, by kernel_rfl, by kernel_rfl⟩
theorem ft16 : tsize Tryz.prog 16 = some 1 ∧ tbytes Tryz.prog 16 = some 8 ∧ tagg Tryz.prog 16 = some false ∧ zcells Tryz.prog 16 = some [AV.nilp] ∧ telem Tryz.prog 16 = none ∧ tptr Tryz.prog 16 = true ∧ tnotIface Tryz.prog 16 = true := ⟨by kernel_rfl, by kernel_rfl, by kernel_rfl, by kernel_rfl, by kernel_rfl, by kernel_rfl, by kernel_rfl⟩
theorem ft17 : tsize Tryz.prog 17 = some 1 ∧ tbytes Tryz.prog 17 = some 8 ∧ tagg Tryz.prog 17 = some false ∧ zcells Tryz.prog 17 = some [AV.nilp] ∧ telem Tryz.prog 17 = none ∧ tptr Tryz.prog 17 = true ∧ tnotIface Tryz.prog 17 = true := ⟨by kernel_rfl, by kernel_rfl, by kernel_rfl, by kernel_rfl, by kernel_rfl, by kernel_rfl, by kernel_rfl⟩
theorem ft18 : tsize Tryz.prog 18 = some 1 ∧ tbytes Tryz.prog 18 = some 8 ∧ tagg Tryz.prog 18 = some true ∧ zcells Tryz.prog 18 = some [AV.nilp] ∧ telem Tryz.prog 18 = none ∧ tnotIface Tryz.prog 18 = true ∧ foff Tryz.prog 18 0 = some (0, 17) ∧ fplaces Tryz.prog 18 = some [(0, 1)] := ⟨by kernel_rfl, by kernel_rfl, by kernel_rfl, by kernel_rfl, by kernel_rfl, by kernel_rfl, by kernel_rfl, by kernel_rfl⟩
theorem ft19 : tsize Tryz.prog 19 = some 1 ∧ tbytes Tryz.prog 19 = some 8 ∧ tagg Tryz.prog 19 = some true ∧ zcells Tryz.prog 19 = some [AV.nilp] ∧ telem Tryz.prog 19 = none ∧ tnotIface Tryz.prog 19 = true ∧ foff Tryz.prog 19 0 = some (0, 17) ∧ fplaces Tryz.prog 19 = some [(0, 1)] := ⟨by kernel_rfl, by kernel_rfl, by kernel_rfl, by kernel_rfl, by kernel_rfl, by kernel_rfl, by kernel_rfl, by kernel_rfl⟩
theorem ft22 : tsize Tryz.prog 22 = some 1 ∧ tbytes Tryz.prog 22 = some 24 ∧ tagg Tryz.prog 22 = some false ∧ zcells Tryz.prog 22 = some [AV.nils] ∧ telem Tryz.prog 22 = some 63 ∧ tnotIface Tryz.prog 22 = true := ⟨by kernel_rfl, by kernel_rfl, by kernel_rfl, by kernel_rfl, by kernel_rfl, by kernel_rfl⟩
theorem ft23 : tsize Tryz.prog 23 = some 1 ∧ tbytes Tryz.prog 23 = some 24 ∧ tagg Tryz.prog 23 = some false ∧ zcells Tryz.prog 23 = some [AV.nils] ∧ telem Tryz.prog 23 = some 3 ∧ tnotIface Tryz.prog 23 = true := ⟨by kernel_rfl, by kernel_rfl, by kernel_rfl, by kernel_rfl, by kernel_rfl, by kernel_rfl⟩
theorem ft25 : tsize Tryz.prog 25 = some 3 ∧ tbytes Tryz.prog 25 = some 56 ∧ tagg Tryz.prog 25 = some true ∧ zcells Tryz.prog 25 = some [AV.int .i64 0, AV.nils, AV.nils] ∧ telem Tryz.prog 25 = none ∧ tnotIface Tryz.prog 25 = true ∧ foff Tryz.prog 25 0 = some (0, 3) ∧ foff Tryz.prog 25 1 = some (1, 22) ∧ foff Tryz.prog 25 2 = some (2, 23) ∧ fplaces Tryz.prog 25 = some [(0, 1), (1, 1), (2, 1)] := ⟨by kernel_rfl, by kernel_rfl, by kernel_rfl, by kernel_rfl, by kernel_rfl, by kernel_rfl, by kernel_rfl, by kernel_rfl, by kernel_rfl, by kernel_rfl⟩
theorem ft26 : tsize Tryz.prog 26 = some 1 ∧ tbytes Tryz.prog 26 = some 24 ∧ tagg Tryz.prog 26 = some false ∧ zcells Tryz.prog 26 = some [AV.nils] ∧ telem Tryz.prog 26 = some 58 ∧ tnotIface Tryz.prog 26 = true := ⟨by kernel_rfl, by kernel_rfl, by kernel_rfl, by kernel_rfl, by kernel_rfl, by kernel_rfl⟩
theorem ft27 : tsize Tryz.prog 27 = some 1 ∧ tbytes Tryz.prog 27 = some 24 ∧ tagg Tryz.prog 27 = some false ∧ zcells Tryz.prog 27 = some [AV.nils] ∧ telem Tryz.prog 27 = some 84 ∧ tnotIface Tryz.prog 27 = true := ⟨by kernel_rfl, by kernel_rfl, by kernel_rfl, by kernel_rfl, by kernel_rfl, by kernel_rfl⟩
theorem ft28 : tsize Tryz.prog 28 = some 1 ∧ tbytes Tryz.prog 28 = some 24 ∧ tagg Tryz.prog 28 = some false ∧ zcells Tryz.prog 28 = some [AV.nils] ∧ telem Tryz.prog 28 = some 23 ∧ tnotIface Tryz.prog 28 = true := ⟨by kernel_rfl, by kernel_rfl, by kernel_rfl, by kernel_rfl, by kernel_rfl, by kernel_rfl⟩
theorem ft29 : tsize Tryz.prog 29 = some 1 ∧ tbytes Tryz.prog 29 = some 24 ∧ tagg Tryz.prog 29 = some false ∧ zcells Tryz.prog 29 = some [AV.nils] ∧ telem Tryz.prog 29 = some 86 ∧ tnotIface Tryz.prog 29 = true := ⟨by kernel_rfl, by kernel_rfl, by kernel_rfl, by kernel_rfl, by kernel_rfl, by kernel_rfl⟩
theorem ft30 : tsize Tryz.prog 30 = some 1 ∧ tbytes Tryz.prog 30 = some 24 ∧ tagg Tryz.prog 30 = some false ∧ zcells Tryz.prog 30 = some [AV.nils] ∧ telem Tryz.prog 30 = some 88 ∧ tnotIface Tryz.prog 30 = true := ⟨by kernel_rfl, by kernel_rfl, by kernel_rfl, by kernel_rfl, by kernel_rfl, by kernel_rfl⟩
theorem ft31 : tsize Tryz.prog 31 = some 1 ∧ tbytes Tryz.prog 31 = some 24 ∧ tagg Tryz.prog 31 = some false ∧ zcells Tryz.prog 31 = some [AV.nils] ∧ telem Tryz.prog 31 = some 30 ∧ tnotIface Tryz.prog 31 = true := ⟨by kernel_rfl, by kernel_rfl, by kernel_rfl, by kernel_rfl, by kernel_rfl, by kernel_rfl⟩
theorem ft32 : tsize Tryz.prog 32 = some 1 ∧ tbytes Tryz.prog 32 = some 24 ∧ tagg Tryz.prog 32 = some false ∧ zcells Tryz.prog 32 = some [AV.nils] ∧ telem Tryz.prog 32 = some 92 ∧ tnotIface Tryz.prog 32 = true := ⟨by kernel_rfl, by kernel_rfl, by kernel_rfl, by kernel_rfl, by kernel_rfl, by kernel_rfl⟩
theorem ft33 : tsize Tryz.prog 33 = some 1 ∧ tbytes Tryz.prog 33 = some 24 ∧ tagg Tryz.prog 33 = some false ∧ zcells Tryz.prog 33 = some [AV.nils] ∧ telem Tryz.prog 33 = some 22 ∧ tnotIface Tryz.prog 33 = true := ⟨by kernel_rfl, by kernel_rfl, by kernel_rfl, by kernel_rfl, by kernel_rfl, by kernel_rfl⟩
theorem ft34 : tsize Tryz.prog 34 = some 1 ∧ tbytes Tryz.prog 34 = some 24 ∧ tagg Tryz.prog 34 = some false ∧ zcells Tryz.prog 34 = some [AV.nils] ∧ telem Tryz.prog 34 = some 114 ∧ tnotIface Tryz.prog 34 = true := ⟨by kernel_rfl, by kernel_rfl, by kernel_rfl, by kernel_rfl, by kernel_rfl, by kernel_rfl⟩
theorem ft35 : tsize Tryz.prog 35 = some 1 ∧ tbytes Tryz.prog 35 = some 24 ∧ tagg Tryz.prog 35 = some false ∧ zcells Tryz.prog 35 = some [AV.nils] ∧ telem Tryz.prog 35 = some 123 ∧ tnotIface Tryz.prog 35 = true := ⟨by kernel_rfl, by kernel_rfl, by kernel_rfl, by kernel_rfl, by kernel_rfl, by kernel_rfl⟩
theorem ft37 : tsize Tryz.prog 37 = some 20 ∧ tbytes Tryz.prog 37 = some 480 ∧ tagg Tryz.prog 37 = some true ∧ zcells Tryz.prog 37 = some [AV.nils, AV.nils, AV.nils, AV.nils, AV.nils, AV.nils, AV.nils, AV.nils, AV.nils, AV.nils, AV.nils, AV.nils, AV.nils, AV.nils, AV.nils, AV.nils, AV.nils, AV.nils, AV.nils, AV.nils] ∧ telem Tryz.prog 37 = none ∧ tnotIface Tryz.prog 37 = true ∧ foff Tryz.prog 37 0 = some (0, 26) ∧ foff Tryz.prog 37 1 = some (1, 26) ∧ foff Tryz.prog 37 2 = some (2, 27) ∧ foff Tryz.prog 37 3 = some (3, 27) ∧ foff Tryz.prog 37 4 = some (4, 28) ∧ foff Tryz.prog 37 5 = some (5, 28) ∧ foff Tryz.prog 37 6 = some (6, 29) ∧ foff Tryz.prog 37 7 = some (7, 29) ∧ foff Tryz.prog 37 8 = some (8, 30) ∧ foff Tryz.prog 37 9 = some (9, 30) ∧ foff Tryz.prog 37 10 = some (10, 31) ∧ foff Tryz.prog 37 11 = some (11, 31) ∧ foff Tryz.prog 37 12 = some (12, 32) ∧ foff Tryz.prog 37 13 = some (13, 32) ∧ foff Tryz.prog 37 14 = some (14, 33) ∧ foff Tryz.prog 37 15 = some (15, 33) ∧ foff Tryz.prog 37 16 = some (16, 34) ∧ foff Tryz.prog 37 17 = some (17, 34) ∧ foff Tryz.prog 37 18 = some (18, 35) ∧ foff Tryz.prog 37 19 = some (19, 35) ∧ fplaces Tryz.prog 37 = some [(0, 1), (1, 1), (2, 1), (3, 1), (4, 1), (5, 1), (6, 1), (7, 1), (8, 1), (9, 1), (10, 1), (11, 1), (12, 1), (13, 1), (14, 1), (15, 1), (16, 1), (17, 1), (18, 1), (19, 1)] := ⟨by kernel_rfl, by kernel_rfl, by kernel_rfl, by kernel_rfl, by kernel_rfl, by kernel_rfl, by kernel_rfl, by kernel_rfl, by kernel_rfl, by kernel_rfl, by kernel_rfl, by kernel_rfl, by kernel_rfl, by kernel_rfl, by kernel_rfl, by kernel_rfl, by kernel_rfl, by kernel_rfl, by kernel_rfl, by kernel_rfl, by kernel_rfl, by kernel_rfl, by kernel_rfl, by kernel_rfl, by kernel_rfl, by kernel_rfl, by kernel_rfl⟩
theorem ft38 : tsize Tryz.prog 38 = some 1 ∧ tbytes Tryz.prog 38 = some 8 ∧ tagg Tryz.prog 38 = some false ∧ zcells Tryz.prog 38 = some [AV.int .i64 0] ∧ telem Tryz.prog 38 = none ∧ tint Tryz.prog 38 = some .i64 ∧ tnotIface Tryz.prog 38 = true := ⟨by kernel_rfl, by kernel_rfl, by kernel_rfl, by kernel_rfl, by kernel_rfl, by kernel_rfl, by kernel_rfl⟩
theorem ft44 : tsize Tryz.prog 44 = some 1 ∧ tbytes Tryz.prog 44 = some 24 ∧ tagg Tryz.prog 44 = some false ∧ zcells Tryz.prog 44 = some [AV.nils] ∧ telem Tryz.prog 44 = some 4 ∧ tnotIface Tryz.prog 44 = true := ⟨by kernel_rfl, by kernel_rfl, by kernel_rfl, by kernel_rfl, by kernel_rfl, by kernel_rfl⟩
theorem ft54 : tsize Tryz.prog 54 = some 1 ∧ tbytes Tryz.prog 54 = some 8 ∧ tagg Tryz.prog 54 = some false ∧ zcells Tryz.prog 54 = some [AV.nilp] ∧ telem Tryz.prog 54 = none ∧ tptr Tryz.prog 54 = true ∧ tnotIface Tryz.prog 54 = true := ⟨by kernel_rfl, by kernel_rfl, by kernel_rfl, by kernel_rfl, by kernel_rfl, by kernel_rfl, by kernel_rfl⟩
theorem ft57 : tsize Tryz.prog 57 = some 1 ∧ tbytes Tryz.prog 57 = some 8 ∧ tagg Tryz.prog 57 = some false ∧ zcells Tryz.prog 57 = some [AV.int .i64 0] ∧ telem Tryz.prog 57 = none ∧ tint Tryz.prog 57 = some .i64 ∧ tnotIface Tryz.prog 57 = true := ⟨by kernel_rfl, by kernel_rfl, by kernel_rfl, by kernel_rfl, by kernel_rfl, by kernel_rfl, by kernel_rfl⟩
theorem ft58 : tsize Tryz.prog 58 = some 1 ∧ tbytes Tryz.prog 58 = some 24 ∧ tagg Tryz.prog 58 = some false ∧ zcells Tryz.prog 58 = some [AV.nils] ∧ telem Tryz.prog 58 = some 109 ∧ tnotIface Tryz.prog 58 = true := ⟨by kernel_rfl, by kernel_rfl, by kernel_rfl, by kernel_rfl, by kernel_rfl, by kernel_rfl⟩
theorem ft59 : tsize Tryz.prog 59 = some 1 ∧ tbytes Tryz.prog 59 = some 24 ∧ tagg Tryz.prog 59 = some false ∧ zcells Tryz.prog 59 = some [AV.nils] ∧ telem Tryz.prog 59 = some 109 ∧ tnotIface Tryz.prog 59 = true := ⟨by kernel_rfl, by kernel_rfl, by kernel_rfl, by kernel_rfl, by kernel_rfl, by kernel_rfl⟩
theorem ft61 : tsize Tryz.prog 61 = some 3 ∧ tbytes Tryz.prog 61 = some 56 ∧ tagg Tryz.prog 61 = some true ∧ zcells Tryz.prog 61 = some [AV.bool false, AV.nils, AV.nils] ∧ telem Tryz.prog 61 = none ∧ tnotIface Tryz.prog 61 = true ∧ foff Tryz.prog 61 0 = some (0, 4) ∧ foff Tryz.prog 61 1 = some (1, 59) ∧ foff Tryz.prog 61 2 = some (2, 59) ∧ fplaces Tryz.prog 61 = some [(0, 1), (1, 1), (2, 1)] := ⟨by kernel_rfl, by kernel_rfl, by kernel_rfl, by kernel_rfl, by kernel_rfl, by kernel_rfl, by kernel_rfl, by kernel_rfl, by kernel_rfl, by kernel_rfl⟩
theorem ft63 : tsize Tryz.prog 63 = some 7 ∧ tbytes Tryz.prog 63 = some 88 ∧ tagg Tryz.prog 63 = some true ∧ zcells Tryz.prog 63 = some [AV.int .i64 0, AV.int .i64 0, AV.int .i64 0, AV.int .i64 0, AV.bool false, AV.nils, AV.nils] ∧ telem Tryz.prog 63 = none ∧ tnotIface Tryz.prog 63 = true ∧ foff Tryz.prog 63 0 = some (0, 57) ∧ foff Tryz.prog 63 1 = some (1, 3) ∧ foff Tryz.prog 63 2 = some (2, 3) ∧ foff Tryz.prog 63 3 = some (3, 3) ∧ foff Tryz.prog 63 4 = some (4, 61) ∧ fplaces Tryz.prog 63 = some [(0, 1), (1, 1), (2, 1), (3, 1), (4, 3)] := ⟨by kernel_rfl, by kernel_rfl, by kernel_rfl, by kernel_rfl, by kernel_rfl, by kernel_rfl, by kernel_rfl, by kernel_rfl, by kernel_rfl, by kernel_rfl, by kernel_rfl, by kernel_rfl⟩
theorem ft65 : tsize Tryz.prog 65 = some 1 ∧ tbytes Tryz.prog 65 = some 8 ∧ tagg Tryz.prog 65 = some false ∧ zcells Tryz.prog 65 = some [AV.nilp] ∧ telem Tryz.prog 65 = none ∧ tptr Tryz.prog 65 = true ∧ tnotIface Tryz.prog 65 = true := ⟨by kernel_rfl, by kernel_rfl, by kernel_rfl, by kernel_rfl, by kernel_rfl, by kernel_rfl, by kernel_rfl⟩
theorem ft70 : tsize Tryz.prog 70 = some 1 ∧ tbytes Tryz.prog 70 = some 24 ∧ tagg Tryz.prog 70 = some false ∧ zcells Tryz.prog 70 = some [AV.nils] ∧ telem Tryz.prog 70 = some 44 ∧ tnotIface Tryz.prog 70 = true := ⟨by kernel_rfl, by kernel_rfl, by kernel_rfl, by kernel_rfl, by kernel_rfl, by kernel_rfl⟩
theorem ft74 : tsize Tryz.prog 74 = some 1 ∧ tbytes Tryz.prog 74 = some 24 ∧ tagg Tryz.prog 74 = some false ∧ zcells Tryz.prog 74 = some [AV.nils] ∧ telem Tryz.prog 74 = some 77 ∧ tnotIface Tryz.prog 74 = true := ⟨by kernel_rfl, by kernel_rfl, by kernel_rfl, by kernel_rfl, by kernel_rfl, by kernel_rfl⟩
theorem ft77 : tsize Tryz.prog 77 = some 2 ∧ tbytes Tryz.prog 77 = some 16 ∧ tagg Tryz.prog 77 = some true ∧ zcells Tryz.prog 77 = some [AV.int .i64 0, AV.int .i64 0] ∧ telem Tryz.prog 77 = none ∧ tnotIface Tryz.prog 77 = true ∧ foff Tryz.prog 77 0 = some (0, 3) ∧ foff Tryz.prog 77 1 = some (1, 3) ∧ fplaces Tryz.prog 77 = some [(0, 1), (1, 1)] := ⟨by kernel_rfl, by kernel_rfl, by kernel_rfl, by kernel_rfl, by kernel_rfl, by kernel_rfl, by kernel_rfl, by kernel_rfl, by kernel_rfl⟩
theorem ft84 : tsize Tryz.prog 84 = some 1 ∧ tbytes Tryz.prog 84 = some 24 ∧ tagg Tryz.prog 84 = some false ∧ zcells Tryz.prog 84 = some [AV.nils] ∧ telem Tryz.prog 84 = some 110 ∧ tnotIface Tryz.prog 84 = true := ⟨by kernel_rfl, by kernel_rfl, by kernel_rfl, by kernel_rfl, by kernel_rfl, by kernel_rfl⟩
theorem ft86 : tsize Tryz.prog 86 = some 1 ∧ tbytes Tryz.prog 86 = some 24 ∧ tagg Tryz.prog 86 = some false ∧ zcells Tryz.prog 86 = some [AV.nils] ∧ telem Tryz.prog 86 = some 9 ∧ tnotIface Tryz.prog 86 = true := ⟨by kernel_rfl, by kernel_rfl, by kernel_rfl, by kernel_rfl, by kernel_rfl, by kernel_rfl⟩
theorem ft88 : tsize Tryz.prog 88 = some 1 ∧ tbytes Tryz.prog 88 = some 24 ∧ tagg Tryz.prog 88 = some false ∧ zcells Tryz.prog 88 = some [AV.nils] ∧ telem Tryz.prog 88 = some 61 ∧ tnotIface Tryz.prog 88 = true := ⟨by kernel_rfl, by kernel_rfl, by kernel_rfl, by kernel_rfl, by kernel_rfl, by kernel_rfl⟩
theorem ft92 : tsize Tryz.prog 92 = some 1 ∧ tbytes Tryz.prog 92 = some 24 ∧ tagg Tryz.prog 92 = some false ∧ zcells Tryz.prog 92 = some [AV.nils] ∧ telem Tryz.prog 92 = some 100 ∧ tnotIface Tryz.prog 92 = true := ⟨by kernel_rfl, by kernel_rfl, by kernel_rfl, by kernel_rfl, by kernel_rfl, by kernel_rfl⟩
theorem ft94 : tsize Tryz.prog 94 = some 2 ∧ tbytes Tryz.prog 94 = some 32 ∧ tagg Tryz.prog 94 = some true ∧ zcells Tryz.prog 94 = some [AV.int .i64 0, AV.nils] ∧ telem Tryz.prog 94 = none ∧ tnotIface Tryz.prog 94 = true ∧ foff Tryz.prog 94 0 = some (0, 3) ∧ foff Tryz.prog 94 1 = some (1, 92) ∧ fplaces Tryz.prog 94 = some [(0, 1), (1, 1)] := ⟨by kernel_rfl, by kernel_rfl, by kernel_rfl, by kernel_rfl, by kernel_rfl, by kernel_rfl, by kernel_rfl, by kernel_rfl, by kernel_rfl⟩
theorem ft96 : tsize Tryz.prog 96 = some 6 ∧ tbytes Tryz.prog 96 = some 112 ∧ tagg Tryz.prog 96 = some true ∧ zcells Tryz.prog 96 = some [AV.int .i64 0, AV.nils, AV.int .i64 0, AV.nils, AV.nils, AV.nils] ∧ telem Tryz.prog 96 = none ∧ tnotIface Tryz.prog 96 = true ∧ foff Tryz.prog 96 0 = some (0, 94) ∧ foff Tryz.prog 96 1 = some (2, 25) ∧ foff Tryz.prog 96 2 = some (5, 44) ∧ fplaces Tryz.prog 96 = some [(0, 2), (2, 3), (5, 1)] := ⟨by kernel_rfl, by kernel_rfl, by kernel_rfl, by kernel_rfl, by kernel_rfl, by kernel_rfl, by kernel_rfl, by kernel_rfl, by kernel_rfl, by kernel_rfl⟩
theorem ft100 : tsize Tryz.prog 100 = some 2 ∧ tbytes Tryz.prog 100 = some 32 ∧ tagg Tryz.prog 100 = some true ∧ zcells Tryz.prog 100 = some [AV.int .i64 0, AV.nils] ∧ telem Tryz.prog 100 = none ∧ tnotIface Tryz.prog 100 = true ∧ foff Tryz.prog 100 0 = some (0, 3) ∧ foff Tryz.prog 100 1 = some (1, 84) ∧ fplaces Tryz.prog 100 = some [(0, 1), (1, 1)] := ⟨by kernel_rfl, by kernel_rfl, by kernel_rfl, by kernel_rfl, by kernel_rfl, by kernel_rfl, by kernel_rfl, by kernel_rfl, by kernel_rfl⟩
theorem ft109 : tsize Tryz.prog 109 = some 1 ∧ tbytes Tryz.prog 109 = some 4 ∧ tagg Tryz.prog 109 = some false ∧ zcells Tryz.prog 109 = some [AV.int .u32 0] ∧ telem Tryz.prog 109 = none ∧ tint Tryz.prog 109 = some .u32 ∧ tnotIface Tryz.prog 109 = true := ⟨by kernel_rfl, by kernel_rfl, by kernel_rfl, by kernel_rfl, by kernel_rfl, by kernel_rfl, by kernel_rfl⟩
theorem ft110 : tsize Tryz.prog 110 = some 1 ∧ tbytes Tryz.prog 110 = some 8 ∧ tagg Tryz.prog 110 = some false ∧ zcells Tryz.prog 110 = some [AV.int .u64 0] ∧ telem Tryz.prog 110 = none ∧ tint Tryz.prog 110 = some .u64 ∧ tnotIface Tryz.prog 110 = true := ⟨by kernel_rfl, by kernel_rfl, by kernel_rfl, by kernel_rfl, by kernel_rfl, by kernel_rfl, by kernel_rfl⟩
theorem ft114 : tsize Tryz.prog 114 = some 1 ∧ tbytes Tryz.prog 114 = some 24 ∧ tagg Tryz.prog 114 = some false ∧ zcells Tryz.prog 114 = some [AV.nils] ∧ telem Tryz.prog 114 = some 117 ∧ tnotIface Tryz.prog 114 = true := ⟨by kernel_rfl, by kernel_rfl, by kernel_rfl, by kernel_rfl, by kernel_rfl, by kernel_rfl⟩
theorem ft117 : tsize Tryz.prog 117 = some 4 ∧ tbytes Tryz.prog 117 = some 64 ∧ tagg Tryz.prog 117 = some true ∧ zcells Tryz.prog 117 = some [AV.int .i64 0, AV.int .i64 0, AV.nils, AV.nils] ∧ telem Tryz.prog 117 = none ∧ tnotIface Tryz.prog 117 = true ∧ foff Tryz.prog 117 0 = some (0, 3) ∧ foff Tryz.prog 117 1 = some (1, 3) ∧ foff Tryz.prog 117 2 = some (2, 23) ∧ foff Tryz.prog 117 3 = some (3, 23) ∧ fplaces Tryz.prog 117 = some [(0, 1), (1, 1), (2, 1), (3, 1)] := ⟨by kernel_rfl, by kernel_rfl, by kernel_rfl, by kernel_rfl, by kernel_rfl, by kernel_rfl, by kernel_rfl, by kernel_rfl, by kernel_rfl, by kernel_rfl, by kernel_rfl⟩
theorem ft119 : tsize Tryz.prog 119 = some 1 ∧ tbytes Tryz.prog 119 = some 24 ∧ tagg Tryz.prog 119 = some false ∧ zcells Tryz.prog 119 = some [AV.nils] ∧ telem Tryz.prog 119 = some 138 ∧ tnotIface Tryz.prog 119 = true := ⟨by kernel_rfl, by kernel_rfl, by kernel_rfl, by kernel_rfl, by kernel_rfl, by kernel_rfl⟩
theorem ft120 : tsize Tryz.prog 120 = some 1 ∧ tbytes Tryz.prog 120 = some 24 ∧ tagg Tryz.prog 120 = some false ∧ zcells Tryz.prog 120 = some [AV.nils] ∧ telem Tryz.prog 120 = some 140 ∧ tnotIface Tryz.prog 120 = true := ⟨by kernel_rfl, by kernel_rfl, by kernel_rfl, by kernel_rfl, by kernel_rfl, by kernel_rfl⟩
theorem ft121 : tsize Tryz.prog 121 = some 1 ∧ tbytes Tryz.prog 121 = some 24 ∧ tagg Tryz.prog 121 = some false ∧ zcells Tryz.prog 121 = some [AV.nils] ∧ telem Tryz.prog 121 = some 143 ∧ tnotIface Tryz.prog 121 = true := ⟨by kernel_rfl, by kernel_rfl, by kernel_rfl, by kernel_rfl, by kernel_rfl, by kernel_rfl⟩
theorem ft123 : tsize Tryz.prog 123 = some 5 ∧ tbytes Tryz.prog 123 = some 120 ∧ tagg Tryz.prog 123 = some true ∧ zcells Tryz.prog 123 = some [AV.nils, AV.nils, AV.nils, AV.nils, AV.nils] ∧ telem Tryz.prog 123 = none ∧ tnotIface Tryz.prog 123 = true ∧ foff Tryz.prog 123 0 = some (0, 86) ∧ foff Tryz.prog 123 1 = some (1, 119) ∧ foff Tryz.prog 123 2 = some (2, 120) ∧ foff Tryz.prog 123 3 = some (3, 23) ∧ foff Tryz.prog 123 4 = some (4, 121) ∧ fplaces Tryz.prog 123 = some [(0, 1), (1, 1), (2, 1), (3, 1), (4, 1)] := ⟨by kernel_rfl, by kernel_rfl, by kernel_rfl, by kernel_rfl, by kernel_rfl, by kernel_rfl, by kernel_rfl, by kernel_rfl, by kernel_rfl, by kernel_rfl, by kernel_rfl, by kernel_rfl⟩
theorem ft138 : tsize Tryz.prog 138 = some 3 ∧ tbytes Tryz.prog 138 = some 48 ∧ tagg Tryz.prog 138 = some true ∧ zcells Tryz.prog 138 = some [AV.str ⟨#[]⟩, AV.nils, AV.int .i64 0] ∧ telem Tryz.prog 138 = none ∧ tnotIface Tryz.prog 138 = true ∧ foff Tryz.prog 138 0 = some (0, 9) ∧ foff Tryz.prog 138 1 = some (1, 86) ∧ foff Tryz.prog 138 2 = some (2, 3) ∧ fplaces Tryz.prog 138 = some [(0, 1), (1, 1), (2, 1)] := ⟨by kernel_rfl, by kernel_rfl, by kernel_rfl, by kernel_rfl, by kernel_rfl, by kernel_rfl, by kernel_rfl, by kernel_rfl, by kernel_rfl, by kernel_rfl⟩
theorem ft140 : tsize Tryz.prog 140 = some 2 ∧ tbytes Tryz.prog 140 = some 24 ∧ tagg Tryz.prog 140 = some true ∧ zcells Tryz.prog 140 = some [AV.str ⟨#[]⟩, AV.int .i64 0] ∧ telem Tryz.prog 140 = none ∧ tnotIface Tryz.prog 140 = true ∧ foff Tryz.prog 140 0 = some (0, 9) ∧ foff Tryz.prog 140 1 = some (1, 3) ∧ fplaces Tryz.prog 140 = some [(0, 1), (1, 1)] := ⟨by kernel_rfl, by kernel_rfl, by kernel_rfl, by kernel_rfl, by kernel_rfl, by kernel_rfl, by kernel_rfl, by kernel_rfl, by kernel_rfl⟩
theorem ft143 : tsize Tryz.prog 143 = some 7 ∧ tbytes Tryz.prog 143 = some 112 ∧ tagg Tryz.prog 143 = some true ∧ zcells Tryz.prog 143 = some [AV.int .i64 0, AV.str ⟨#[]⟩, AV.bool false, AV.nils, AV.nils, AV.int .i64 0, AV.nils] ∧ telem Tryz.prog 143 = none ∧ tnotIface Tryz.prog 143 = true ∧ foff Tryz.prog 143 0 = some (0, 141) ∧ foff Tryz.prog 143 1 = some (1, 9) ∧ foff Tryz.prog 143 2 = some (2, 61) ∧ foff Tryz.prog 143 3 = some (5, 3) ∧ foff Tryz.prog 143 4 = some (6, 23) ∧ fplaces Tryz.prog 143 = some [(0, 1), (1, 1), (2, 3), (5, 1), (6, 1)] := ⟨by kernel_rfl, by kernel_rfl, by kernel_rfl, by kernel_rfl, by kernel_rfl, by kernel_rfl, by kernel_rfl, by kernel_rfl, by kernel_rfl, by kernel_rfl, by kernel_rfl, by kernel_rfl⟩
theorem ft147 : tsize Tryz.prog 147 = some 1 ∧ tbytes Tryz.prog 147 = some 8 ∧ tagg Tryz.prog 147 = some false ∧ zcells Tryz.prog 147 = some [AV.int .u64 0] ∧ telem Tryz.prog 147 = none ∧ tint Tryz.prog 147 = some .u64 ∧ tnotIface Tryz.prog 147 = true := ⟨by kernel_rfl, by kernel_rfl, by kernel_rfl, by kernel_rfl, by kernel_rfl, by kernel_rfl, by kernel_rfl⟩
theorem ft149 : tsize Tryz.prog 149 = some 1 ∧ tbytes Tryz.prog 149 = some 24 ∧ tagg Tryz.prog 149 = some false ∧ zcells Tryz.prog 149 = some [AV.nils] ∧ telem Tryz.prog 149 = some 109 ∧ tnotIface Tryz.prog 149 = true := ⟨by kernel_rfl, by kernel_rfl, by kernel_rfl, by kernel_rfl, by kernel_rfl, by kernel_rfl⟩
theorem ft179 : tsize Tryz.prog 179 = some 1 ∧ tbytes Tryz.prog 179 = some 16 ∧ tagg Tryz.prog 179 = some false ∧ zcells Tryz.prog 179 = some [AV.nili] ∧ telem Tryz.prog 179 = none := ⟨by kernel_rfl, by kernel_rfl, by kernel_rfl, by kernel_rfl, by kernel_rfl⟩
theorem ft183 : tsize Tryz.prog 183 = some 4 ∧ tbytes Tryz.prog 183 = some 40 ∧ tagg Tryz.prog 183 = some true ∧ zcells Tryz.prog 183 = some [AV.nilp, AV.nilp, AV.nilp, AV.str ⟨#[]⟩] ∧ telem Tryz.prog 183 = none ∧ tnotIface Tryz.prog 183 = true ∧ foff Tryz.prog 183 0 = some (0, 17) ∧ foff Tryz.prog 183 1 = some (1, 17) ∧ foff Tryz.prog 183 2 = some (2, 17) ∧ foff Tryz.prog 183 3 = some (3, 9) ∧ fplaces Tryz.prog 183 = some [(0, 1), (1, 1), (2, 1), (3, 1)] := ⟨by kernel_rfl, by kernel_rfl, by kernel_rfl, by kernel_rfl, by kernel_rfl, by kernel_rfl, by kernel_rfl, by kernel_rfl, by kernel_rfl, by kernel_rfl, by kernel_rfl⟩
theorem ft186 : tsize Tryz.prog 186 = some 0 ∧ tbytes Tryz.prog 186 = some 0 ∧ tagg Tryz.prog 186 = some true ∧ zcells Tryz.prog 186 = some [] ∧ telem Tryz.prog 186 = none ∧ tnotIface Tryz.prog 186 = true ∧ fplaces Tryz.prog 186 = some [(0, 0)] := ⟨by kernel_rfl, by kernel_rfl, by kernel_rfl, by kernel_rfl, by kernel_rfl, by kernel_rfl, by kernel_rfl⟩
theorem ft195 : tsize Tryz.prog 195 = some 11 ∧ tbytes Tryz.prog 195 = some 48 ∧ tagg Tryz.prog 195 = some true ∧ zcells Tryz.prog 195 = some [AV.int .u64 0, AV.int .u64 0, AV.int .u32 0, AV.int .u8 0, AV.int .u8 0, AV.int .u8 0, AV.int .u8 0, AV.nilf, AV.nilp, AV.int .i32 0, AV.int .i32 0] ∧ telem Tryz.prog 195 = none ∧ tnotIface Tryz.prog 195 = true ∧ foff Tryz.prog 195 0 = some (0, 12) ∧ foff Tryz.prog 195 1 = some (1, 12) ∧ foff Tryz.prog 195 2 = some (2, 109) ∧ foff Tryz.prog 195 3 = some (3, 188) ∧ foff Tryz.prog 195 4 = some (4, 5) ∧ foff Tryz.prog 195 5 = some (5, 5) ∧ foff Tryz.prog 195 6 = some (6, 189) ∧ foff Tryz.prog 195 7 = some (7, 190) ∧ foff Tryz.prog 195 8 = some (8, 191) ∧ foff Tryz.prog 195 9 = some (9, 192) ∧ foff Tryz.prog 195 10 = some (10, 193) ∧ fplaces Tryz.prog 195 = some [(0, 1), (1, 1), (2, 1), (3, 1), (4, 1), (5, 1), (6, 1), (7, 1), (8, 1), (9, 1), (10, 1)] := ⟨by kernel_rfl, by kernel_rfl, by kernel_rfl, by kernel_rfl, by kernel_rfl, by kernel_rfl, by kernel_rfl, by kernel_rfl, by kernel_rfl, by kernel_rfl, by kernel_rfl, by kernel_rfl, by kernel_rfl, by kernel_rfl, by kernel_rfl, by kernel_rfl, by kernel_rfl, by kernel_rfl⟩
theorem ft1 : tfun Tryz.prog 1 = true ∧ telem Tryz.prog 1 = none := ⟨by kernel_rfl, by kernel_rfl⟩
theorem ft130 : tfun Tryz.prog 130 = true ∧ telem Tryz.prog 130 = none := ⟨by kernel_rfl, by kernel_rfl⟩
end Go.Proofs.YtclbobielhllmaaGreat
end
section
namespace Go.Proofs.YtclbobielhllmaaGreat
open Go.AL
def pl3 : Nat → Plan := fun | _ => []
noncomputable def body3 : Code := (Tryz.f3.body).getD .skip
theorem chk3 : codeChk pl3 body3 = true := by kernel_rfl
theorem good3 : good Tryz.prog 3 = true := by kernel_rfl
theorem isb3 : Tryz.f3.body = some body3 := by kernel_rfl
theorem wp3 {args : List AV} {h : Heap} {Q : AV → Heap → Prop} {c : Code} (hb : Tryz.f3.body = some c) (hn : Nat.ble args.length 75 = true) (hk : asx Tryz.prog 75 pl3 c (bodyQ Tryz.prog [.tmp 2] Q) (fr0 args) h) : ACalls Tryz.prog 3 args h Q := by
  have e := isb3.symm.trans hb; cases e; exact acalls_of_body mixed Tryz.func3 isb3 good3 (Nat.le_of_ble_eq_true hn) pl3 chk3 hk
def pl4 : Nat → Plan := fun | _ => []
noncomputable def body4 : Code := (Tryz.f4.body).getD .skip
theorem chk4 : codeChk pl4 body4 = true := by kernel_rfl
theorem good4 : good Tryz.prog 4 = true := by kernel_rfl
theorem isb4 : Tryz.f4.body = some body4 := by kernel_rfl
theorem wp4 {args : List AV} {h : Heap} {Q : AV → Heap → Prop} {c : Code} (hb : Tryz.f4.body = some c) (hn : Nat.ble args.length 37 = true) (hk : asx Tryz.prog 37 pl4 c (bodyQ Tryz.prog [.tmp 2, .tmp 3, .tmp 4] Q) (fr0 args) h) : ACalls Tryz.prog 4 args h Q := by
  have e := isb4.symm.trans hb; cases e; exact acalls_of_body mixed Tryz.func4 isb4 good4 (Nat.le_of_ble_eq_true hn) pl4 chk4 hk
def pl5 : Nat → Plan := fun | 9 => [(0, false, []), (1, false, []), (2, false, []), (3, false, []), (4, true, []), (5, false, []), (6, false, []), (7, false, [4]), (8, false, []), (9, false, [4]), (10, false, []), (11, false, []), (12, false, []), (13, false, [])] | 10 => [(0, false, []), (1, true, []), (2, false, []), (3, false, []), (4, true, []), (5, false, []), (6, false, []), (7, false, []), (8, false, []), (9, false, []), (10, false, [1, 4]), (11, false, []), (12, false, [])] | _ => []
noncomputable def body5 : Code := (Tryz.f5.body).getD .skip
theorem chk5 : codeChk pl5 body5 = true := by kernel_rfl
theorem good5 : good Tryz.prog 5 = true := by kernel_rfl
theorem isb5 : Tryz.f5.body = some body5 := by kernel_rfl
theorem wp5 {args : List AV} {h : Heap} {Q : AV → Heap → Prop} {c : Code} (hb : Tryz.f5.body = some c) (hn : Nat.ble args.length 83 = true) (hk : asx Tryz.prog 83 pl5 c (bodyQ Tryz.prog [.cell 4 25] Q) (fr0 args) h) : ACalls Tryz.prog 5 args h Q := by
  have e := isb5.symm.trans hb; cases e; exact acalls_of_body mixed Tryz.func5 isb5 good5 (Nat.le_of_ble_eq_true hn) pl5 chk5 hk
def pl6 : Nat → Plan := fun | _ => []
noncomputable def body6 : Code := (Tryz.f6.body).getD .skip
theorem chk6 : codeChk pl6 body6 = true := by kernel_rfl
theorem good6 : good Tryz.prog 6 = true := by kernel_rfl
theorem isb6 : Tryz.f6.body = some body6 := by kernel_rfl
theorem wp6 {args : List AV} {h : Heap} {Q : AV → Heap → Prop} {c : Code} (hb : Tryz.f6.body = some c) (hn : Nat.ble args.length 40 = true) (hk : asx Tryz.prog 40 pl6 c (bodyQ Tryz.prog [.tmp 2, .tmp 3, .tmp 4] Q) (fr0 args) h) : ACalls Tryz.prog 6 args h Q := by
  have e := isb6.symm.trans hb; cases e; exact acalls_of_body mixed Tryz.func6 isb6 good6 (Nat.le_of_ble_eq_true hn) pl6 chk6 hk
def pl7 : Nat → Plan := fun | _ => []
noncomputable def body7 : Code := (Tryz.f7.body).getD .skip
theorem chk7 : codeChk pl7 body7 = true := by kernel_rfl
theorem good7 : good Tryz.prog 7 = true := by kernel_rfl
theorem isb7 : Tryz.f7.body = some body7 := by kernel_rfl
theorem wp7 {args : List AV} {h : Heap} {Q : AV → Heap → Prop} {c : Code} (hb : Tryz.f7.body = some c) (hn : Nat.ble args.length 108 = true) (hk : asx Tryz.prog 108 pl7 c (bodyQ Tryz.prog [.tmp 2, .tmp 3, .tmp 4] Q) (fr0 args) h) : ACalls Tryz.prog 7 args h Q := by
  have e := isb7.symm.trans hb; cases e; exact acalls_of_body mixed Tryz.func7 isb7 good7 (Nat.le_of_ble_eq_true hn) pl7 chk7 hk
def pl8 : Nat → Plan := fun | 9 => [(0, false, []), (1, false, []), (2, false, []), (3, false, []), (4, false, []), (5, false, []), (6, false, []), (7, false, []), (8, false, []), (9, false, []), (10, false, []), (11, false, []), (12, false, [])] | _ => []
noncomputable def body8 : Code := (Tryz.f8.body).getD .skip
theorem chk8 : codeChk pl8 body8 = true := by kernel_rfl
theorem good8 : good Tryz.prog 8 = true := by kernel_rfl
theorem isb8 : Tryz.f8.body = some body8 := by kernel_rfl
theorem wp8 {args : List AV} {h : Heap} {Q : AV → Heap → Prop} {c : Code} (hb : Tryz.f8.body = some c) (hn : Nat.ble args.length 108 = true) (hk : asx Tryz.prog 108 pl8 c (bodyQ Tryz.prog [.tmp 2, .tmp 3, .tmp 4] Q) (fr0 args) h) : ACalls Tryz.prog 8 args h Q := by
  have e := isb8.symm.trans hb; cases e; exact acalls_of_body mixed Tryz.func8 isb8 good8 (Nat.le_of_ble_eq_true hn) pl8 chk8 hk
def pl9 : Nat → Plan := fun | _ => []
noncomputable def body9 : Code := (Tryz.f9.body).getD .skip
theorem chk9 : codeChk pl9 body9 = true := by kernel_rfl
theorem good9 : good Tryz.prog 9 = true := by kernel_rfl
theorem isb9 : Tryz.f9.body = some body9 := by kernel_rfl
theorem wp9 {args : List AV} {h : Heap} {Q : AV → Heap → Prop} {c : Code} (hb : Tryz.f9.body = some c) (hn : Nat.ble args.length 4 = true) (hk : asx Tryz.prog 4 pl9 c (bodyQ Tryz.prog [.tmp 2] Q) (fr0 args) h) : ACalls Tryz.prog 9 args h Q := by
  have e := isb9.symm.trans hb; cases e; exact acalls_of_body mixed Tryz.func9 isb9 good9 (Nat.le_of_ble_eq_true hn) pl9 chk9 hk
def pl10 : Nat → Plan := fun | 6 => [(0, false, []), (1, false, []), (2, false, []), (3, false, []), (4, false, []), (5, false, []), (6, false, []), (7, false, []), (8, false, [])] | _ => []
noncomputable def body10 : Code := (Tryz.f10.body).getD .skip
theorem chk10 : codeChk pl10 body10 = true := by kernel_rfl
theorem good10 : good Tryz.prog 10 = true := by kernel_rfl
theorem isb10 : Tryz.f10.body = some body10 := by kernel_rfl
theorem wp10 {args : List AV} {h : Heap} {Q : AV → Heap → Prop} {c : Code} (hb : Tryz.f10.body = some c) (hn : Nat.ble args.length 26 = true) (hk : asx Tryz.prog 26 pl10 c (bodyQ Tryz.prog [.tmp 4] Q) (fr0 args) h) : ACalls Tryz.prog 10 args h Q := by
  have e := isb10.symm.trans hb; cases e; exact acalls_of_body mixed Tryz.func10 isb10 good10 (Nat.le_of_ble_eq_true hn) pl10 chk10 hk
def pl11 : Nat → Plan := fun | 6 => [(0, false, []), (1, false, []), (2, false, []), (3, false, []), (4, false, []), (5, false, []), (6, false, []), (7, false, []), (8, false, [])] | _ => []
noncomputable def body11 : Code := (Tryz.f11.body).getD .skip
theorem chk11 : codeChk pl11 body11 = true := by kernel_rfl
theorem good11 : good Tryz.prog 11 = true := by kernel_rfl
theorem isb11 : Tryz.f11.body = some body11 := by kernel_rfl
theorem wp11 {args : List AV} {h : Heap} {Q : AV → Heap → Prop} {c : Code} (hb : Tryz.f11.body = some c) (hn : Nat.ble args.length 26 = true) (hk : asx Tryz.prog 26 pl11 c (bodyQ Tryz.prog [.tmp 4] Q) (fr0 args) h) : ACalls Tryz.prog 11 args h Q := by
  have e := isb11.symm.trans hb; cases e; exact acalls_of_body mixed Tryz.func11 isb11 good11 (Nat.le_of_ble_eq_true hn) pl11 chk11 hk
def pl12 : Nat → Plan := fun | 4 => [(0, false, []), (1, false, []), (2, false, []), (3, false, []), (4, false, []), (5, false, []), (6, false, []), (7, false, []), (8, false, []), (9, false, []), (10, false, []), (11, false, []), (12, false, []), (13, false, []), (14, false, []), (15, false, [])] | 9 => [(0, false, []), (1, false, []), (2, false, []), (3, false, []), (4, false, []), (5, false, []), (6, false, []), (7, false, []), (8, false, []), (9, false, []), (10, false, []), (11, false, []), (12, false, []), (13, false, []), (14, false, []), (15, false, [])] | 14 => [(0, false, []), (1, false, []), (2, false, []), (3, false, []), (4, false, []), (5, false, []), (6, false, []), (7, false, []), (8, false, []), (9, false, []), (10, false, []), (11, false, []), (12, false, []), (13, false, []), (14, false, []), (15, false, [])] | 19 => [(0, false, []), (1, false, []), (2, false, []), (3, false, []), (4, false, []), (5, false, []), (6, false, []), (7, false, []), (8, false, []), (9, false, []), (10, false, []), (11, false, []), (12, false, []), (13, false, []), (14, false, []), (15, false, [])] | 24 => [(0, false, []), (1, false, []), (2, false, []), (3, false, []), (4, false, []), (5, false, []), (6, false, []), (7, false, []), (8, false, []), (9, false, []), (10, false, []), (11, false, []), (12, false, []), (13, false, []), (14, false, []), (15, false, [])] | 29 => [(0, false, []), (1, false, []), (2, false, []), (3, false, []), (4, false, []), (5, false, []), (6, false, []), (7, false, []), (8, false, []), (9, false, []), (10, false, []), (11, false, []), (12, false, []), (13, false, []), (14, false, []), (15, false, [])] | _ => []
noncomputable def body12 : Code := (Tryz.f12.body).getD .skip
theorem chk12 : codeChk pl12 body12 = true := by kernel_rfl
theorem good12 : good Tryz.prog 12 = true := by kernel_rfl
theorem isb12 : Tryz.f12.body = some body12 := by kernel_rfl
theorem wp12 {args : List AV} {h : Heap} {Q : AV → Heap → Prop} {c : Code} (hb : Tryz.f12.body = some c) (hn : Nat.ble args.length 161 = true) (hk : asx Tryz.prog 161 pl12 c (bodyQ Tryz.prog [.tmp 2] Q) (fr0 args) h) : ACalls Tryz.prog 12 args h Q := by
  have e := isb12.symm.trans hb; cases e; exact acalls_of_body mixed Tryz.func12 isb12 good12 (Nat.le_of_ble_eq_true hn) pl12 chk12 hk
def pl13 : Nat → Plan := fun | 20 => [(0, false, []), (1, false, []), (2, false, []), (3, false, []), (4, false, []), (5, true, []), (6, false, []), (7, false, [5]), (8, false, []), (9, false, []), (10, false, []), (11, false, []), (12, false, [])] | _ => []
noncomputable def body13 : Code := (Tryz.f13.body).getD .skip
theorem chk13 : codeChk pl13 body13 = true := by kernel_rfl
theorem good13 : good Tryz.prog 13 = true := by kernel_rfl
theorem isb13 : Tryz.f13.body = some body13 := by kernel_rfl
theorem wp13 {args : List AV} {h : Heap} {Q : AV → Heap → Prop} {c : Code} (hb : Tryz.f13.body = some c) (hn : Nat.ble args.length 99 = true) (hk : asx Tryz.prog 99 pl13 c (bodyQ Tryz.prog [.tmp 2, .tmp 3, .tmp 4] Q) (fr0 args) h) : ACalls Tryz.prog 13 args h Q := by
  have e := isb13.symm.trans hb; cases e; exact acalls_of_body mixed Tryz.func13 isb13 good13 (Nat.le_of_ble_eq_true hn) pl13 chk13 hk
def pl14 : Nat → Plan := fun | 16 => [(0, false, []), (1, false, []), (2, false, []), (3, false, []), (4, false, []), (5, false, []), (6, false, []), (7, false, []), (8, false, []), (9, false, []), (10, false, []), (11, false, []), (12, false, [])] | 23 => [(0, false, []), (1, false, []), (2, false, []), (3, false, []), (4, false, []), (5, false, []), (6, false, []), (7, false, []), (8, false, []), (9, false, [])] | 27 => [(0, false, []), (1, false, []), (2, false, []), (3, false, []), (4, false, []), (5, false, []), (6, false, []), (7, false, []), (8, false, []), (9, false, []), (10, false, []), (11, false, [])] | _ => []
noncomputable def body14 : Code := (Tryz.f14.body).getD .skip
theorem chk14 : codeChk pl14 body14 = true := by kernel_rfl
theorem good14 : good Tryz.prog 14 = true := by kernel_rfl
theorem isb14 : Tryz.f14.body = some body14 := by kernel_rfl
theorem wp14 {args : List AV} {h : Heap} {Q : AV → Heap → Prop} {c : Code} (hb : Tryz.f14.body = some c) (hn : Nat.ble args.length 102 = true) (hk : asx Tryz.prog 102 pl14 c (bodyQ Tryz.prog [.tmp 6] Q) (fr0 args) h) : ACalls Tryz.prog 14 args h Q := by
  have e := isb14.symm.trans hb; cases e; exact acalls_of_body mixed Tryz.func14 isb14 good14 (Nat.le_of_ble_eq_true hn) pl14 chk14 hk
def pl15 : Nat → Plan := fun | 1 => [(0, false, []), (1, true, []), (2, false, []), (3, false, []), (4, false, []), (6, false, []), (7, false, []), (8, true, []), (5, false, [1, 8]), (9, false, [1]), (10, false, []), (11, false, [])] | _ => []
noncomputable def body15 : Code := (Tryz.f15.body).getD .skip
theorem chk15 : codeChk pl15 body15 = true := by kernel_rfl
theorem good15 : good Tryz.prog 15 = true := by kernel_rfl
theorem isb15 : Tryz.f15.body = some body15 := by kernel_rfl
theorem wp15 {args : List AV} {h : Heap} {Q : AV → Heap → Prop} {c : Code} (hb : Tryz.f15.body = some c) (hn : Nat.ble args.length 16 = true) (hk : asx Tryz.prog 16 pl15 c (bodyQ Tryz.prog [.cell 4 61] Q) (fr0 args) h) : ACalls Tryz.prog 15 args h Q := by
  have e := isb15.symm.trans hb; cases e; exact acalls_of_body mixed Tryz.func15 isb15 good15 (Nat.le_of_ble_eq_true hn) pl15 chk15 hk
def pl16 : Nat → Plan := fun | 7 => [(0, false, []), (1, true, []), (2, false, []), (3, false, []), (4, false, []), (5, false, [1]), (6, false, []), (7, false, [])] | _ => []
noncomputable def body16 : Code := (Tryz.f16.body).getD .skip
theorem chk16 : codeChk pl16 body16 = true := by kernel_rfl
theorem good16 : good Tryz.prog 16 = true := by kernel_rfl
theorem isb16 : Tryz.f16.body = some body16 := by kernel_rfl
theorem wp16 {args : List AV} {h : Heap} {Q : AV → Heap → Prop} {c : Code} (hb : Tryz.f16.body = some c) (hn : Nat.ble args.length 46 = true) (hk : asx Tryz.prog 46 pl16 c (bodyQ Tryz.prog [.cell 2 25] Q) (fr0 args) h) : ACalls Tryz.prog 16 args h Q := by
  have e := isb16.symm.trans hb; cases e; exact acalls_of_body mixed Tryz.func16 isb16 good16 (Nat.le_of_ble_eq_true hn) pl16 chk16 hk
def pl17 : Nat → Plan := fun | 4 => [(0, false, []), (1, false, []), (2, false, []), (3, false, []), (4, true, []), (5, false, []), (6, false, [4]), (7, false, [4]), (8, false, []), (9, false, []), (10, false, []), (11, false, [])] | _ => []
noncomputable def body17 : Code := (Tryz.f17.body).getD .skip
theorem chk17 : codeChk pl17 body17 = true := by kernel_rfl
theorem good17 : good Tryz.prog 17 = true := by kernel_rfl
theorem isb17 : Tryz.f17.body = some body17 := by kernel_rfl
theorem wp17 {args : List AV} {h : Heap} {Q : AV → Heap → Prop} {c : Code} (hb : Tryz.f17.body = some c) (hn : Nat.ble args.length 36 = true) (hk : asx Tryz.prog 36 pl17 c (bodyQ Tryz.prog [.tmp 4] Q) (fr0 args) h) : ACalls Tryz.prog 17 args h Q := by
  have e := isb17.symm.trans hb; cases e; exact acalls_of_body mixed Tryz.func17 isb17 good17 (Nat.le_of_ble_eq_true hn) pl17 chk17 hk
def pl18 : Nat → Plan := fun | 10 => [(0, false, []), (1, false, []), (2, false, []), (3, false, []), (4, false, []), (5, false, []), (6, false, []), (7, false, []), (8, false, []), (9, false, [])] | 16 => [(0, false, []), (1, false, []), (2, false, []), (3, false, []), (4, false, []), (5, false, []), (6, false, []), (7, false, []), (8, false, []), (9, false, []), (10, false, []), (11, false, []), (12, false, []), (13, false, []), (14, false, []), (15, false, []), (16, false, [])] | _ => []
noncomputable def body18 : Code := (Tryz.f18.body).getD .skip
theorem chk18 : codeChk pl18 body18 = true := by kernel_rfl
theorem good18 : good Tryz.prog 18 = true := by kernel_rfl
theorem isb18 : Tryz.f18.body = some body18 := by kernel_rfl
theorem wp18 {args : List AV} {h : Heap} {Q : AV → Heap → Prop} {c : Code} (hb : Tryz.f18.body = some c) (hn : Nat.ble args.length 78 = true) (hk : asx Tryz.prog 78 pl18 c (bodyQ Tryz.prog [.tmp 2, .tmp 3] Q) (fr0 args) h) : ACalls Tryz.prog 18 args h Q := by
  have e := isb18.symm.trans hb; cases e; exact acalls_of_body mixed Tryz.func18 isb18 good18 (Nat.le_of_ble_eq_true hn) pl18 chk18 hk
def pl19 : Nat → Plan := fun | _ => []
noncomputable def body19 : Code := (Tryz.f19.body).getD .skip
theorem chk19 : codeChk pl19 body19 = true := by kernel_rfl
theorem good19 : good Tryz.prog 19 = true := by kernel_rfl
theorem isb19 : Tryz.f19.body = some body19 := by kernel_rfl
theorem wp19 {args : List AV} {h : Heap} {Q : AV → Heap → Prop} {c : Code} (hb : Tryz.f19.body = some c) (hn : Nat.ble args.length 73 = true) (hk : asx Tryz.prog 73 pl19 c (bodyQ Tryz.prog [.tmp 2] Q) (fr0 args) h) : ACalls Tryz.prog 19 args h Q := by
  have e := isb19.symm.trans hb; cases e; exact acalls_of_body mixed Tryz.func19 isb19 good19 (Nat.le_of_ble_eq_true hn) pl19 chk19 hk
def pl20 : Nat → Plan := fun | _ => []
noncomputable def body20 : Code := (Tryz.f20.body).getD .skip
theorem chk20 : codeChk pl20 body20 = true := by kernel_rfl
theorem good20 : good Tryz.prog 20 = true := by kernel_rfl
theorem isb20 : Tryz.f20.body = some body20 := by kernel_rfl
theorem wp20 {args : List AV} {h : Heap} {Q : AV → Heap → Prop} {c : Code} (hb : Tryz.f20.body = some c) (hn : Nat.ble args.length 86 = true) (hk : asx Tryz.prog 86 pl20 c (bodyQ Tryz.prog [.tmp 6] Q) (fr0 args) h) : ACalls Tryz.prog 20 args h Q := by
  have e := isb20.symm.trans hb; cases e; exact acalls_of_body mixed Tryz.func20 isb20 good20 (Nat.le_of_ble_eq_true hn) pl20 chk20 hk
def pl21 : Nat → Plan := fun | _ => []
noncomputable def body21 : Code := (Tryz.f21.body).getD .skip
theorem chk21 : codeChk pl21 body21 = true := by kernel_rfl
theorem good21 : good Tryz.prog 21 = true := by kernel_rfl
theorem isb21 : Tryz.f21.body = some body21 := by kernel_rfl
theorem wp21 {args : List AV} {h : Heap} {Q : AV → Heap → Prop} {c : Code} (hb : Tryz.f21.body = some c) (hn : Nat.ble args.length 21 = true) (hk : asx Tryz.prog 21 pl21 c (bodyQ Tryz.prog [.tmp 2] Q) (fr0 args) h) : ACalls Tryz.prog 21 args h Q := by
  have e := isb21.symm.trans hb; cases e; exact acalls_of_body mixed Tryz.func21 isb21 good21 (Nat.le_of_ble_eq_true hn) pl21 chk21 hk
def pl22 : Nat → Plan := fun | _ => []
noncomputable def body22 : Code := (Tryz.f22.body).getD .skip
theorem chk22 : codeChk pl22 body22 = true := by kernel_rfl
theorem good22 : good Tryz.prog 22 = true := by kernel_rfl
theorem isb22 : Tryz.f22.body = some body22 := by kernel_rfl
theorem wp22 {args : List AV} {h : Heap} {Q : AV → Heap → Prop} {c : Code} (hb : Tryz.f22.body = some c) (hn : Nat.ble args.length 48 = true) (hk : asx Tryz.prog 48 pl22 c (bodyQ Tryz.prog [.tmp 2] Q) (fr0 args) h) : ACalls Tryz.prog 22 args h Q := by
  have e := isb22.symm.trans hb; cases e; exact acalls_of_body mixed Tryz.func22 isb22 good22 (Nat.le_of_ble_eq_true hn) pl22 chk22 hk
def pl23 : Nat → Plan := fun | _ => []
noncomputable def body23 : Code := (Tryz.f23.body).getD .skip
theorem chk23 : codeChk pl23 body23 = true := by kernel_rfl
theorem good23 : good Tryz.prog 23 = true := by kernel_rfl
theorem isb23 : Tryz.f23.body = some body23 := by kernel_rfl
theorem wp23 {args : List AV} {h : Heap} {Q : AV → Heap → Prop} {c : Code} (hb : Tryz.f23.body = some c) (hn : Nat.ble args.length 15 = true) (hk : asx Tryz.prog 15 pl23 c (bodyQ Tryz.prog [.tmp 4] Q) (fr0 args) h) : ACalls Tryz.prog 23 args h Q := by
  have e := isb23.symm.trans hb; cases e; exact acalls_of_body mixed Tryz.func23 isb23 good23 (Nat.le_of_ble_eq_true hn) pl23 chk23 hk
def pl24 : Nat → Plan := fun | _ => []
noncomputable def body24 : Code := (Tryz.f24.body).getD .skip
theorem chk24 : codeChk pl24 body24 = true := by kernel_rfl
theorem good24 : good Tryz.prog 24 = true := by kernel_rfl
theorem isb24 : Tryz.f24.body = some body24 := by kernel_rfl
theorem wp24 {args : List AV} {h : Heap} {Q : AV → Heap → Prop} {c : Code} (hb : Tryz.f24.body = some c) (hn : Nat.ble args.length 57 = true) (hk : asx Tryz.prog 57 pl24 c (bodyQ Tryz.prog [.tmp 2] Q) (fr0 args) h) : ACalls Tryz.prog 24 args h Q := by
  have e := isb24.symm.trans hb; cases e; exact acalls_of_body mixed Tryz.func24 isb24 good24 (Nat.le_of_ble_eq_true hn) pl24 chk24 hk
def pl25 : Nat → Plan := fun | _ => []
noncomputable def body25 : Code := (Tryz.f25.body).getD .skip
theorem chk25 : codeChk pl25 body25 = true := by kernel_rfl
theorem good25 : good Tryz.prog 25 = true := by kernel_rfl
theorem isb25 : Tryz.f25.body = some body25 := by kernel_rfl
theorem wp25 {args : List AV} {h : Heap} {Q : AV → Heap → Prop} {c : Code} (hb : Tryz.f25.body = some c) (hn : Nat.ble args.length 17 = true) (hk : asx Tryz.prog 17 pl25 c (bodyQ Tryz.prog [.tmp 2] Q) (fr0 args) h) : ACalls Tryz.prog 25 args h Q := by
  have e := isb25.symm.trans hb; cases e; exact acalls_of_body mixed Tryz.func25 isb25 good25 (Nat.le_of_ble_eq_true hn) pl25 chk25 hk
def pl26 : Nat → Plan := fun | _ => []
noncomputable def body26 : Code := (Tryz.f26.body).getD .skip
theorem chk26 : codeChk pl26 body26 = true := by kernel_rfl
theorem good26 : good Tryz.prog 26 = true := by kernel_rfl
theorem isb26 : Tryz.f26.body = some body26 := by kernel_rfl
theorem wp26 {args : List AV} {h : Heap} {Q : AV → Heap → Prop} {c : Code} (hb : Tryz.f26.body = some c) (hn : Nat.ble args.length 32 = true) (hk : asx Tryz.prog 32 pl26 c (bodyQ Tryz.prog [.tmp 6] Q) (fr0 args) h) : ACalls Tryz.prog 26 args h Q := by
  have e := isb26.symm.trans hb; cases e; exact acalls_of_body mixed Tryz.func26 isb26 good26 (Nat.le_of_ble_eq_true hn) pl26 chk26 hk
def pl27 : Nat → Plan := fun | _ => []
noncomputable def body27 : Code := (Tryz.f27.body).getD .skip
theorem chk27 : codeChk pl27 body27 = true := by kernel_rfl
theorem good27 : good Tryz.prog 27 = true := by kernel_rfl
theorem isb27 : Tryz.f27.body = some body27 := by kernel_rfl
theorem wp27 {args : List AV} {h : Heap} {Q : AV → Heap → Prop} {c : Code} (hb : Tryz.f27.body = some c) (hn : Nat.ble args.length 19 = true) (hk : asx Tryz.prog 19 pl27 c (bodyQ Tryz.prog [.tmp 4] Q) (fr0 args) h) : ACalls Tryz.prog 27 args h Q := by
  have e := isb27.symm.trans hb; cases e; exact acalls_of_body mixed Tryz.func27 isb27 good27 (Nat.le_of_ble_eq_true hn) pl27 chk27 hk
def pl28 : Nat → Plan := fun | 6 => [(0, false, []), (1, false, []), (2, false, []), (3, false, []), (4, false, []), (5, false, []), (6, false, []), (7, false, []), (8, false, [])] | _ => []
noncomputable def body28 : Code := (Tryz.f28.body).getD .skip
theorem chk28 : codeChk pl28 body28 = true := by kernel_rfl
theorem good28 : good Tryz.prog 28 = true := by kernel_rfl
theorem isb28 : Tryz.f28.body = some body28 := by kernel_rfl
theorem wp28 {args : List AV} {h : Heap} {Q : AV → Heap → Prop} {c : Code} (hb : Tryz.f28.body = some c) (hn : Nat.ble args.length 26 = true) (hk : asx Tryz.prog 26 pl28 c (bodyQ Tryz.prog [.tmp 4] Q) (fr0 args) h) : ACalls Tryz.prog 28 args h Q := by
  have e := isb28.symm.trans hb; cases e; exact acalls_of_body mixed Tryz.func28 isb28 good28 (Nat.le_of_ble_eq_true hn) pl28 chk28 hk
def pl29 : Nat → Plan := fun | 6 => [(0, false, []), (1, false, []), (2, false, []), (3, false, []), (4, false, []), (5, false, []), (6, false, []), (7, false, []), (8, false, [])] | _ => []
noncomputable def body29 : Code := (Tryz.f29.body).getD .skip
def pl30 : Nat → Plan := fun | 6 => [(0, false, []), (1, false, []), (2, false, []), (3, false, []), (4, false, []), (5, false, []), (6, false, []), (7, false, []), (8, false, [])] | _ => []
noncomputable def body30 : Code := (Tryz.f30.body).getD .skip
def pl31 : Nat → Plan := fun | 6 => [(0, false, []), (1, false, []), (2, false, []), (3, false, []), (4, false, []), (5, false, []), (6, false, []), (7, false, []), (8, false, []), (9, false, [])] | _ => []
noncomputable def body31 : Code := (Tryz.f31.body).getD .skip
def pl32 : Nat → Plan := fun | 6 => [(0, false, []), (1, false, []), (2, false, []), (3, false, []), (4, false, []), (5, false, []), (6, false, []), (7, false, []), (8, false, []), (9, false, [])] | _ => []
noncomputable def body32 : Code := (Tryz.f32.body).getD .skip
def pl33 : Nat → Plan := fun | 4 => [(0, false, []), (1, false, []), (2, false, []), (3, false, []), (4, false, []), (5, false, []), (6, false, []), (7, false, []), (8, false, []), (9, false, []), (10, false, []), (11, false, []), (12, false, []), (13, false, []), (14, false, []), (15, false, []), (16, false, []), (17, false, [])] | 9 => [(0, false, []), (1, false, []), (2, false, []), (3, false, []), (4, false, []), (5, false, []), (6, false, []), (7, false, []), (8, false, []), (9, false, []), (10, false, []), (11, false, []), (12, false, []), (13, false, []), (14, false, []), (15, false, []), (16, false, []), (17, false, [])] | 18 => [(0, false, []), (1, false, []), (2, false, []), (3, false, []), (4, false, []), (5, false, []), (6, false, []), (7, false, []), (8, false, []), (9, false, []), (10, false, []), (11, false, []), (12, false, []), (13, false, []), (14, false, []), (15, false, []), (16, false, []), (17, false, []), (18, false, []), (19, false, []), (20, false, []), (21, false, [])] | 28 => [(0, false, []), (1, false, []), (2, false, []), (3, false, []), (4, false, []), (5, false, []), (6, false, []), (7, false, []), (8, false, []), (9, false, []), (10, false, []), (11, false, []), (12, false, []), (13, false, []), (14, false, []), (15, false, [])] | _ => []
noncomputable def body33 : Code := (Tryz.f33.body).getD .skip
theorem chk33 : codeChk pl33 body33 = true := by kernel_rfl
theorem good33 : good Tryz.prog 33 = true := by kernel_rfl
theorem isb33 : Tryz.f33.body = some body33 := by kernel_rfl
theorem wp33 {args : List AV} {h : Heap} {Q : AV → Heap → Prop} {c : Code} (hb : Tryz.f33.body = some c) (hn : Nat.ble args.length 156 = true) (hk : asx Tryz.prog 156 pl33 c (bodyQ Tryz.prog [.tmp 2] Q) (fr0 args) h) : ACalls Tryz.prog 33 args h Q := by
  have e := isb33.symm.trans hb; cases e; exact acalls_of_body mixed Tryz.func33 isb33 good33 (Nat.le_of_ble_eq_true hn) pl33 chk33 hk
def pl34 : Nat → Plan := fun | _ => []
noncomputable def body34 : Code := (Tryz.f34.body).getD .skip
theorem chk34 : codeChk pl34 body34 = true := by kernel_rfl
theorem good34 : good Tryz.prog 34 = true := by kernel_rfl
theorem isb34 : Tryz.f34.body = some body34 := by kernel_rfl
theorem wp34 {args : List AV} {h : Heap} {Q : AV → Heap → Prop} {c : Code} (hb : Tryz.f34.body = some c) (hn : Nat.ble args.length 75 = true) (hk : asx Tryz.prog 75 pl34 c (bodyQ Tryz.prog [.tmp 2, .tmp 3] Q) (fr0 args) h) : ACalls Tryz.prog 34 args h Q := by
  have e := isb34.symm.trans hb; cases e; exact acalls_of_body mixed Tryz.func34 isb34 good34 (Nat.le_of_ble_eq_true hn) pl34 chk34 hk
def pl35 : Nat → Plan := fun | _ => []
noncomputable def body35 : Code := (Tryz.f35.body).getD .skip
theorem chk35 : codeChk pl35 body35 = true := by kernel_rfl
theorem good35 : good Tryz.prog 35 = true := by kernel_rfl
theorem isb35 : Tryz.f35.body = some body35 := by kernel_rfl
theorem wp35 {args : List AV} {h : Heap} {Q : AV → Heap → Prop} {c : Code} (hb : Tryz.f35.body = some c) (hn : Nat.ble args.length 16 = true) (hk : asx Tryz.prog 16 pl35 c (bodyQ Tryz.prog [.tmp 2, .tmp 3] Q) (fr0 args) h) : ACalls Tryz.prog 35 args h Q := by
  have e := isb35.symm.trans hb; cases e; exact acalls_of_body mixed Tryz.func35 isb35 good35 (Nat.le_of_ble_eq_true hn) pl35 chk35 hk
def pl36 : Nat → Plan := fun | _ => []
noncomputable def body36 : Code := (Tryz.f36.body).getD .skip
theorem chk36 : codeChk pl36 body36 = true := by kernel_rfl
theorem good36 : good Tryz.prog 36 = true := by kernel_rfl
theorem isb36 : Tryz.f36.body = some body36 := by kernel_rfl
theorem wp36 {args : List AV} {h : Heap} {Q : AV → Heap → Prop} {c : Code} (hb : Tryz.f36.body = some c) (hn : Nat.ble args.length 31 = true) (hk : asx Tryz.prog 31 pl36 c (bodyQ Tryz.prog [.cell 4 100, .tmp 5] Q) (fr0 args) h) : ACalls Tryz.prog 36 args h Q := by
  have e := isb36.symm.trans hb; cases e; exact acalls_of_body mixed Tryz.func36 isb36 good36 (Nat.le_of_ble_eq_true hn) pl36 chk36 hk
def pl37 : Nat → Plan := fun | _ => []
noncomputable def body37 : Code := (Tryz.f37.body).getD .skip
theorem chk37 : codeChk pl37 body37 = true := by kernel_rfl
theorem good37 : good Tryz.prog 37 = true := by kernel_rfl
theorem isb37 : Tryz.f37.body = some body37 := by kernel_rfl
theorem wp37 {args : List AV} {h : Heap} {Q : AV → Heap → Prop} {c : Code} (hb : Tryz.f37.body = some c) (hn : Nat.ble args.length 18 = true) (hk : asx Tryz.prog 18 pl37 c (bodyQ Tryz.prog [.cell 4 100, .tmp 5] Q) (fr0 args) h) : ACalls Tryz.prog 37 args h Q := by
  have e := isb37.symm.trans hb; cases e; exact acalls_of_body mixed Tryz.func37 isb37 good37 (Nat.le_of_ble_eq_true hn) pl37 chk37 hk
def pl38 : Nat → Plan := fun | 4 => [(0, false, []), (1, false, []), (2, false, []), (3, false, []), (4, true, []), (5, false, []), (6, false, [4]), (7, false, [4]), (8, false, []), (9, false, []), (10, false, []), (11, false, [])] | _ => []
noncomputable def body38 : Code := (Tryz.f38.body).getD .skip
theorem chk38 : codeChk pl38 body38 = true := by kernel_rfl
theorem good38 : good Tryz.prog 38 = true := by kernel_rfl
theorem isb38 : Tryz.f38.body = some body38 := by kernel_rfl
theorem wp38 {args : List AV} {h : Heap} {Q : AV → Heap → Prop} {c : Code} (hb : Tryz.f38.body = some c) (hn : Nat.ble args.length 36 = true) (hk : asx Tryz.prog 36 pl38 c (bodyQ Tryz.prog [.tmp 4] Q) (fr0 args) h) : ACalls Tryz.prog 38 args h Q := by
  have e := isb38.symm.trans hb; cases e; exact acalls_of_body mixed Tryz.func38 isb38 good38 (Nat.le_of_ble_eq_true hn) pl38 chk38 hk
def pl39 : Nat → Plan := fun | 1 => [(0, false, []), (1, true, []), (2, false, []), (3, false, []), (5, false, []), (6, true, []), (4, false, [1, 6]), (7, false, [1]), (8, false, []), (9, false, [])] | _ => []
noncomputable def body39 : Code := (Tryz.f39.body).getD .skip
theorem chk39 : codeChk pl39 body39 = true := by kernel_rfl
theorem good39 : good Tryz.prog 39 = true := by kernel_rfl
theorem isb39 : Tryz.f39.body = some body39 := by kernel_rfl
theorem wp39 {args : List AV} {h : Heap} {Q : AV → Heap → Prop} {c : Code} (hb : Tryz.f39.body = some c) (hn : Nat.ble args.length 12 = true) (hk : asx Tryz.prog 12 pl39 c (bodyQ Tryz.prog [.cell 2 61] Q) (fr0 args) h) : ACalls Tryz.prog 39 args h Q := by
  have e := isb39.symm.trans hb; cases e; exact acalls_of_body mixed Tryz.func39 isb39 good39 (Nat.le_of_ble_eq_true hn) pl39 chk39 hk
def pl40 : Nat → Plan := fun | _ => []
noncomputable def body40 : Code := (Tryz.f40.body).getD .skip
theorem chk40 : codeChk pl40 body40 = true := by kernel_rfl
theorem good40 : good Tryz.prog 40 = true := by kernel_rfl
theorem isb40 : Tryz.f40.body = some body40 := by kernel_rfl
theorem wp40 {args : List AV} {h : Heap} {Q : AV → Heap → Prop} {c : Code} (hb : Tryz.f40.body = some c) (hn : Nat.ble args.length 25 = true) (hk : asx Tryz.prog 25 pl40 c (bodyQ Tryz.prog [.tmp 2] Q) (fr0 args) h) : ACalls Tryz.prog 40 args h Q := by
  have e := isb40.symm.trans hb; cases e; exact acalls_of_body mixed Tryz.func40 isb40 good40 (Nat.le_of_ble_eq_true hn) pl40 chk40 hk
def pl41 : Nat → Plan := fun | _ => []
noncomputable def body41 : Code := (Tryz.f41.body).getD .skip
theorem chk41 : codeChk pl41 body41 = true := by kernel_rfl
theorem good41 : good Tryz.prog 41 = true := by kernel_rfl
theorem isb41 : Tryz.f41.body = some body41 := by kernel_rfl
theorem wp41 {args : List AV} {h : Heap} {Q : AV → Heap → Prop} {c : Code} (hb : Tryz.f41.body = some c) (hn : Nat.ble args.length 81 = true) (hk : asx Tryz.prog 81 pl41 c (bodyQ Tryz.prog [.tmp 6] Q) (fr0 args) h) : ACalls Tryz.prog 41 args h Q := by
  have e := isb41.symm.trans hb; cases e; exact acalls_of_body mixed Tryz.func41 isb41 good41 (Nat.le_of_ble_eq_true hn) pl41 chk41 hk
def pl42 : Nat → Plan := fun | _ => []
noncomputable def body42 : Code := (Tryz.f42.body).getD .skip
theorem chk42 : codeChk pl42 body42 = true := by kernel_rfl
theorem good42 : good Tryz.prog 42 = true := by kernel_rfl
theorem isb42 : Tryz.f42.body = some body42 := by kernel_rfl
theorem wp42 {args : List AV} {h : Heap} {Q : AV → Heap → Prop} {c : Code} (hb : Tryz.f42.body = some c) (hn : Nat.ble args.length 6 = true) (hk : asx Tryz.prog 6 pl42 c (bodyQ Tryz.prog [.tmp 2] Q) (fr0 args) h) : ACalls Tryz.prog 42 args h Q := by
  have e := isb42.symm.trans hb; cases e; exact acalls_of_body mixed Tryz.func42 isb42 good42 (Nat.le_of_ble_eq_true hn) pl42 chk42 hk
def pl43 : Nat → Plan := fun | _ => []
noncomputable def body43 : Code := (Tryz.f43.body).getD .skip
theorem chk43 : codeChk pl43 body43 = true := by kernel_rfl
theorem good43 : good Tryz.prog 43 = true := by kernel_rfl
theorem isb43 : Tryz.f43.body = some body43 := by kernel_rfl
theorem wp43 {args : List AV} {h : Heap} {Q : AV → Heap → Prop} {c : Code} (hb : Tryz.f43.body = some c) (hn : Nat.ble args.length 22 = true) (hk : asx Tryz.prog 22 pl43 c (bodyQ Tryz.prog [.tmp 2] Q) (fr0 args) h) : ACalls Tryz.prog 43 args h Q := by
  have e := isb43.symm.trans hb; cases e; exact acalls_of_body mixed Tryz.func43 isb43 good43 (Nat.le_of_ble_eq_true hn) pl43 chk43 hk
def pl44 : Nat → Plan := fun | _ => []
noncomputable def body44 : Code := (Tryz.f44.body).getD .skip
theorem chk44 : codeChk pl44 body44 = true := by kernel_rfl
theorem good44 : good Tryz.prog 44 = true := by kernel_rfl
theorem isb44 : Tryz.f44.body = some body44 := by kernel_rfl
theorem wp44 {args : List AV} {h : Heap} {Q : AV → Heap → Prop} {c : Code} (hb : Tryz.f44.body = some c) (hn : Nat.ble args.length 17 = true) (hk : asx Tryz.prog 17 pl44 c (bodyQ Tryz.prog [.tmp 2] Q) (fr0 args) h) : ACalls Tryz.prog 44 args h Q := by
  have e := isb44.symm.trans hb; cases e; exact acalls_of_body mixed Tryz.func44 isb44 good44 (Nat.le_of_ble_eq_true hn) pl44 chk44 hk
def pl45 : Nat → Plan := fun | _ => []
noncomputable def body45 : Code := (Tryz.f45.body).getD .skip
theorem chk45 : codeChk pl45 body45 = true := by kernel_rfl
theorem good45 : good Tryz.prog 45 = true := by kernel_rfl
theorem isb45 : Tryz.f45.body = some body45 := by kernel_rfl
theorem wp45 {args : List AV} {h : Heap} {Q : AV → Heap → Prop} {c : Code} (hb : Tryz.f45.body = some c) (hn : Nat.ble args.length 9 = true) (hk : asx Tryz.prog 9 pl45 c (bodyQ Tryz.prog [.tmp 2] Q) (fr0 args) h) : ACalls Tryz.prog 45 args h Q := by
  have e := isb45.symm.trans hb; cases e; exact acalls_of_body mixed Tryz.func45 isb45 good45 (Nat.le_of_ble_eq_true hn) pl45 chk45 hk
def pl46 : Nat → Plan := fun | _ => []
noncomputable def body46 : Code := (Tryz.f46.body).getD .skip
theorem chk46 : codeChk pl46 body46 = true := by kernel_rfl
theorem good46 : good Tryz.prog 46 = true := by kernel_rfl
theorem isb46 : Tryz.f46.body = some body46 := by kernel_rfl
theorem wp46 {args : List AV} {h : Heap} {Q : AV → Heap → Prop} {c : Code} (hb : Tryz.f46.body = some c) (hn : Nat.ble args.length 24 = true) (hk : asx Tryz.prog 24 pl46 c (bodyQ Tryz.prog [.tmp 4] Q) (fr0 args) h) : ACalls Tryz.prog 46 args h Q := by
  have e := isb46.symm.trans hb; cases e; exact acalls_of_body mixed Tryz.func46 isb46 good46 (Nat.le_of_ble_eq_true hn) pl46 chk46 hk
def pl47 : Nat → Plan := fun | 6 => [(0, false, []), (1, false, []), (2, false, []), (3, false, []), (4, false, []), (5, false, []), (6, false, []), (7, false, []), (8, false, []), (9, false, []), (10, false, []), (11, false, [])] | _ => []
noncomputable def body47 : Code := (Tryz.f47.body).getD .skip
def pl48 : Nat → Plan := fun | 6 => [(0, false, []), (1, false, []), (2, false, []), (3, false, []), (4, false, []), (5, false, []), (6, false, []), (7, false, []), (8, false, []), (9, false, []), (10, false, []), (11, false, [])] | _ => []
noncomputable def body48 : Code := (Tryz.f48.body).getD .skip
theorem chk48 : codeChk pl48 body48 = true := by kernel_rfl
theorem good48 : good Tryz.prog 48 = true := by kernel_rfl
theorem isb48 : Tryz.f48.body = some body48 := by kernel_rfl
theorem wp48 {args : List AV} {h : Heap} {Q : AV → Heap → Prop} {c : Code} (hb : Tryz.f48.body = some c) (hn : Nat.ble args.length 47 = true) (hk : asx Tryz.prog 47 pl48 c (bodyQ Tryz.prog [.tmp 4] Q) (fr0 args) h) : ACalls Tryz.prog 48 args h Q := by
  have e := isb48.symm.trans hb; cases e; exact acalls_of_body mixed Tryz.func48 isb48 good48 (Nat.le_of_ble_eq_true hn) pl48 chk48 hk
def pl49 : Nat → Plan := fun | _ => []
noncomputable def body49 : Code := (Tryz.f49.body).getD .skip
def pl50 : Nat → Plan := fun | 6 => [(0, false, []), (1, false, []), (2, false, []), (3, false, []), (4, false, []), (5, false, []), (6, false, []), (7, false, []), (8, false, []), (9, false, []), (10, false, []), (11, false, []), (12, false, []), (13, false, []), (14, false, []), (15, false, []), (16, false, []), (17, false, []), (18, false, []), (19, false, []), (20, false, []), (21, false, []), (22, false, []), (23, false, []), (24, false, []), (25, false, []), (26, false, []), (27, false, []), (28, false, []), (29, false, []), (30, false, []), (31, false, []), (32, false, []), (33, false, []), (34, false, []), (35, false, []), (36, false, []), (37, false, []), (38, false, []), (39, false, []), (40, false, []), (41, false, []), (42, false, []), (43, false, [])] | 11 => [(0, false, []), (1, false, []), (2, false, []), (3, false, []), (4, false, []), (5, false, []), (6, false, []), (7, false, []), (8, false, []), (9, false, []), (10, false, [])] | 16 => [(1000000, false, [10, 4]), (0, false, []), (1, true, []), (2, false, []), (3, false, []), (4, true, []), (5, false, []), (6, true, []), (7, false, []), (8, false, []), (9, true, []), (10, false, [1, 4, 6, 9]), (11, false, [1, 4, 6, 9]), (12, false, [6, 9]), (13, false, []), (11, false, [1, 4, 6, 9]), (10, false, [1, 4, 6, 9]), (12, false, [6, 9]), (13, false, [])] | _ => []
noncomputable def body50 : Code := (Tryz.f50.body).getD .skip
def pl51 : Nat → Plan := fun | _ => []
noncomputable def body51 : Code := (Tryz.f51.body).getD .skip
theorem chk51 : codeChk pl51 body51 = true := by kernel_rfl
theorem good51 : good Tryz.prog 51 = true := by kernel_rfl
theorem isb51 : Tryz.f51.body = some body51 := by kernel_rfl
theorem wp51 {args : List AV} {h : Heap} {Q : AV → Heap → Prop} {c : Code} (hb : Tryz.f51.body = some c) (hn : Nat.ble args.length 65 = true) (hk : asx Tryz.prog 65 pl51 c (bodyQ Tryz.prog [.tmp 6] Q) (fr0 args) h) : ACalls Tryz.prog 51 args h Q := by
  have e := isb51.symm.trans hb; cases e; exact acalls_of_body mixed Tryz.func51 isb51 good51 (Nat.le_of_ble_eq_true hn) pl51 chk51 hk
def pl52 : Nat → Plan := fun | _ => []
noncomputable def body52 : Code := (Tryz.f52.body).getD .skip
theorem chk52 : codeChk pl52 body52 = true := by kernel_rfl
theorem good52 : good Tryz.prog 52 = true := by kernel_rfl
theorem isb52 : Tryz.f52.body = some body52 := by kernel_rfl
theorem wp52 {args : List AV} {h : Heap} {Q : AV → Heap → Prop} {c : Code} (hb : Tryz.f52.body = some c) (hn : Nat.ble args.length 44 = true) (hk : asx Tryz.prog 44 pl52 c (bodyQ Tryz.prog [.tmp 2] Q) (fr0 args) h) : ACalls Tryz.prog 52 args h Q := by
  have e := isb52.symm.trans hb; cases e; exact acalls_of_body mixed Tryz.func52 isb52 good52 (Nat.le_of_ble_eq_true hn) pl52 chk52 hk
def pl53 : Nat → Plan := fun | _ => []
noncomputable def body53 : Code := (Tryz.f53.body).getD .skip
theorem chk53 : codeChk pl53 body53 = true := by kernel_rfl
theorem good53 : good Tryz.prog 53 = true := by kernel_rfl
theorem isb53 : Tryz.f53.body = some body53 := by kernel_rfl
theorem wp53 {args : List AV} {h : Heap} {Q : AV → Heap → Prop} {c : Code} (hb : Tryz.f53.body = some c) (hn : Nat.ble args.length 9 = true) (hk : asx Tryz.prog 9 pl53 c (bodyQ Tryz.prog [.tmp 2] Q) (fr0 args) h) : ACalls Tryz.prog 53 args h Q := by
  have e := isb53.symm.trans hb; cases e; exact acalls_of_body mixed Tryz.func53 isb53 good53 (Nat.le_of_ble_eq_true hn) pl53 chk53 hk
def pl54 : Nat → Plan := fun | _ => []
noncomputable def body54 : Code := (Tryz.f54.body).getD .skip
theorem chk54 : codeChk pl54 body54 = true := by kernel_rfl
theorem good54 : good Tryz.prog 54 = true := by kernel_rfl
theorem isb54 : Tryz.f54.body = some body54 := by kernel_rfl
theorem wp54 {args : List AV} {h : Heap} {Q : AV → Heap → Prop} {c : Code} (hb : Tryz.f54.body = some c) (hn : Nat.ble args.length 8 = true) (hk : asx Tryz.prog 8 pl54 c (bodyQ Tryz.prog [.cell 2 100] Q) (fr0 args) h) : ACalls Tryz.prog 54 args h Q := by
  have e := isb54.symm.trans hb; cases e; exact acalls_of_body mixed Tryz.func54 isb54 good54 (Nat.le_of_ble_eq_true hn) pl54 chk54 hk
def pl55 : Nat → Plan := fun | _ => []
noncomputable def body55 : Code := (Tryz.f55.body).getD .skip
theorem chk55 : codeChk pl55 body55 = true := by kernel_rfl
theorem good55 : good Tryz.prog 55 = true := by kernel_rfl
theorem isb55 : Tryz.f55.body = some body55 := by kernel_rfl
theorem wp55 {args : List AV} {h : Heap} {Q : AV → Heap → Prop} {c : Code} (hb : Tryz.f55.body = some c) (hn : Nat.ble args.length 13 = true) (hk : asx Tryz.prog 13 pl55 c (bodyQ Tryz.prog [.tmp 4] Q) (fr0 args) h) : ACalls Tryz.prog 55 args h Q := by
  have e := isb55.symm.trans hb; cases e; exact acalls_of_body mixed Tryz.func55 isb55 good55 (Nat.le_of_ble_eq_true hn) pl55 chk55 hk
def pl56 : Nat → Plan := fun | 1 => [(0, false, []), (1, false, []), (2, false, []), (3, false, []), (4, false, []), (5, false, []), (6, false, []), (7, false, []), (8, false, []), (9, false, []), (10, false, []), (11, false, [])] | _ => []
noncomputable def body56 : Code := (Tryz.f56.body).getD .skip
theorem chk56 : codeChk pl56 body56 = true := by kernel_rfl
theorem good56 : good Tryz.prog 56 = true := by kernel_rfl
theorem isb56 : Tryz.f56.body = some body56 := by kernel_rfl
theorem wp56 {args : List AV} {h : Heap} {Q : AV → Heap → Prop} {c : Code} (hb : Tryz.f56.body = some c) (hn : Nat.ble args.length 15 = true) (hk : asx Tryz.prog 15 pl56 c (bodyQ Tryz.prog [] Q) (fr0 args) h) : ACalls Tryz.prog 56 args h Q := by
  have e := isb56.symm.trans hb; cases e; exact acalls_of_body mixed Tryz.func56 isb56 good56 (Nat.le_of_ble_eq_true hn) pl56 chk56 hk
def pl57 : Nat → Plan := fun | _ => []
noncomputable def body57 : Code := (Tryz.f57.body).getD .skip
theorem chk57 : codeChk pl57 body57 = true := by kernel_rfl
theorem good57 : good Tryz.prog 57 = true := by kernel_rfl
theorem isb57 : Tryz.f57.body = some body57 := by kernel_rfl
theorem wp57 {args : List AV} {h : Heap} {Q : AV → Heap → Prop} {c : Code} (hb : Tryz.f57.body = some c) (hn : Nat.ble args.length 33 = true) (hk : asx Tryz.prog 33 pl57 c (bodyQ Tryz.prog [.tmp 4] Q) (fr0 args) h) : ACalls Tryz.prog 57 args h Q := by
  have e := isb57.symm.trans hb; cases e; exact acalls_of_body mixed Tryz.func57 isb57 good57 (Nat.le_of_ble_eq_true hn) pl57 chk57 hk
def pl58 : Nat → Plan := fun | 7 => [(0, false, []), (1, true, []), (2, false, []), (3, false, []), (4, false, []), (5, false, []), (6, false, []), (7, false, []), (8, false, []), (9, false, []), (10, false, [1]), (11, false, []), (12, false, [])] | _ => []
noncomputable def body58 : Code := (Tryz.f58.body).getD .skip
theorem chk58 : codeChk pl58 body58 = true := by kernel_rfl
theorem good58 : good Tryz.prog 58 = true := by kernel_rfl
theorem isb58 : Tryz.f58.body = some body58 := by kernel_rfl
theorem wp58 {args : List AV} {h : Heap} {Q : AV → Heap → Prop} {c : Code} (hb : Tryz.f58.body = some c) (hn : Nat.ble args.length 40 = true) (hk : asx Tryz.prog 40 pl58 c (bodyQ Tryz.prog [.cell 6 100] Q) (fr0 args) h) : ACalls Tryz.prog 58 args h Q := by
  have e := isb58.symm.trans hb; cases e; exact acalls_of_body mixed Tryz.func58 isb58 good58 (Nat.le_of_ble_eq_true hn) pl58 chk58 hk
def pl59 : Nat → Plan := fun | _ => []
noncomputable def body59 : Code := (Tryz.f59.body).getD .skip
theorem chk59 : codeChk pl59 body59 = true := by kernel_rfl
theorem good59 : good Tryz.prog 59 = true := by kernel_rfl
theorem isb59 : Tryz.f59.body = some body59 := by kernel_rfl
theorem wp59 {args : List AV} {h : Heap} {Q : AV → Heap → Prop} {c : Code} (hb : Tryz.f59.body = some c) (hn : Nat.ble args.length 8 = true) (hk : asx Tryz.prog 8 pl59 c (bodyQ Tryz.prog [.tmp 4] Q) (fr0 args) h) : ACalls Tryz.prog 59 args h Q := by
  have e := isb59.symm.trans hb; cases e; exact acalls_of_body mixed Tryz.func59 isb59 good59 (Nat.le_of_ble_eq_true hn) pl59 chk59 hk
def pl60 : Nat → Plan := fun | _ => []
noncomputable def body60 : Code := (Tryz.f60.body).getD .skip
theorem chk60 : codeChk pl60 body60 = true := by kernel_rfl
theorem good60 : good Tryz.prog 60 = true := by kernel_rfl
theorem isb60 : Tryz.f60.body = some body60 := by kernel_rfl
theorem wp60 {args : List AV} {h : Heap} {Q : AV → Heap → Prop} {c : Code} (hb : Tryz.f60.body = some c) (hn : Nat.ble args.length 25 = true) (hk : asx Tryz.prog 25 pl60 c (bodyQ Tryz.prog [.tmp 2] Q) (fr0 args) h) : ACalls Tryz.prog 60 args h Q := by
  have e := isb60.symm.trans hb; cases e; exact acalls_of_body mixed Tryz.func60 isb60 good60 (Nat.le_of_ble_eq_true hn) pl60 chk60 hk
def pl61 : Nat → Plan := fun | _ => []
noncomputable def body61 : Code := (Tryz.f61.body).getD .skip
theorem chk61 : codeChk pl61 body61 = true := by kernel_rfl
theorem good61 : good Tryz.prog 61 = true := by kernel_rfl
theorem isb61 : Tryz.f61.body = some body61 := by kernel_rfl
theorem wp61 {args : List AV} {h : Heap} {Q : AV → Heap → Prop} {c : Code} (hb : Tryz.f61.body = some c) (hn : Nat.ble args.length 37 = true) (hk : asx Tryz.prog 37 pl61 c (bodyQ Tryz.prog [.tmp 2] Q) (fr0 args) h) : ACalls Tryz.prog 61 args h Q := by
  have e := isb61.symm.trans hb; cases e; exact acalls_of_body mixed Tryz.func61 isb61 good61 (Nat.le_of_ble_eq_true hn) pl61 chk61 hk
def pl62 : Nat → Plan := fun | _ => []
noncomputable def body62 : Code := (Tryz.f62.body).getD .skip
theorem chk62 : codeChk pl62 body62 = true := by kernel_rfl
theorem good62 : good Tryz.prog 62 = true := by kernel_rfl
theorem isb62 : Tryz.f62.body = some body62 := by kernel_rfl
theorem wp62 {args : List AV} {h : Heap} {Q : AV → Heap → Prop} {c : Code} (hb : Tryz.f62.body = some c) (hn : Nat.ble args.length 54 = true) (hk : asx Tryz.prog 54 pl62 c (bodyQ Tryz.prog [.tmp 2] Q) (fr0 args) h) : ACalls Tryz.prog 62 args h Q := by
  have e := isb62.symm.trans hb; cases e; exact acalls_of_body mixed Tryz.func62 isb62 good62 (Nat.le_of_ble_eq_true hn) pl62 chk62 hk
def pl63 : Nat → Plan := fun | 1 => [(0, false, []), (1, false, []), (2, false, []), (3, false, []), (4, false, []), (5, false, []), (6, true, []), (7, false, []), (8, false, []), (9, false, []), (10, false, [6]), (11, false, []), (12, false, [])] | 4 => [(0, false, []), (1, false, []), (2, false, []), (3, false, []), (4, true, []), (5, false, []), (6, false, []), (7, false, []), (8, true, []), (9, false, []), (10, false, []), (11, false, [4, 8]), (12, false, []), (13, false, []), (14, false, []), (15, false, [])] | _ => []
noncomputable def body63 : Code := (Tryz.f63.body).getD .skip
theorem chk63 : codeChk pl63 body63 = true := by kernel_rfl
theorem good63 : good Tryz.prog 63 = true := by kernel_rfl
theorem isb63 : Tryz.f63.body = some body63 := by kernel_rfl
theorem wp63 {args : List AV} {h : Heap} {Q : AV → Heap → Prop} {c : Code} (hb : Tryz.f63.body = some c) (hn : Nat.ble args.length 35 = true) (hk : asx Tryz.prog 35 pl63 c (bodyQ Tryz.prog [.tmp 2] Q) (fr0 args) h) : ACalls Tryz.prog 63 args h Q := by
  have e := isb63.symm.trans hb; cases e; exact acalls_of_body mixed Tryz.func63 isb63 good63 (Nat.le_of_ble_eq_true hn) pl63 chk63 hk
def pl64 : Nat → Plan := fun | _ => []
noncomputable def body64 : Code := (Tryz.f64.body).getD .skip
theorem chk64 : codeChk pl64 body64 = true := by kernel_rfl
theorem good64 : good Tryz.prog 64 = true := by kernel_rfl
theorem isb64 : Tryz.f64.body = some body64 := by kernel_rfl
theorem wp64 {args : List AV} {h : Heap} {Q : AV → Heap → Prop} {c : Code} (hb : Tryz.f64.body = some c) (hn : Nat.ble args.length 35 = true) (hk : asx Tryz.prog 35 pl64 c (bodyQ Tryz.prog [.tmp 2] Q) (fr0 args) h) : ACalls Tryz.prog 64 args h Q := by
  have e := isb64.symm.trans hb; cases e; exact acalls_of_body mixed Tryz.func64 isb64 good64 (Nat.le_of_ble_eq_true hn) pl64 chk64 hk
def pl65 : Nat → Plan := fun | _ => []
noncomputable def body65 : Code := (Tryz.f65.body).getD .skip
def pl66 : Nat → Plan := fun | _ => []
noncomputable def body66 : Code := (Tryz.f66.body).getD .skip
theorem chk66 : codeChk pl66 body66 = true := by kernel_rfl
theorem good66 : good Tryz.prog 66 = true := by kernel_rfl
theorem isb66 : Tryz.f66.body = some body66 := by kernel_rfl
theorem wp66 {args : List AV} {h : Heap} {Q : AV → Heap → Prop} {c : Code} (hb : Tryz.f66.body = some c) (hn : Nat.ble args.length 38 = true) (hk : asx Tryz.prog 38 pl66 c (bodyQ Tryz.prog [.tmp 4] Q) (fr0 args) h) : ACalls Tryz.prog 66 args h Q := by
  have e := isb66.symm.trans hb; cases e; exact acalls_of_body mixed Tryz.func66 isb66 good66 (Nat.le_of_ble_eq_true hn) pl66 chk66 hk
def pl67 : Nat → Plan := fun | _ => []
noncomputable def body67 : Code := (Tryz.f67.body).getD .skip
theorem chk67 : codeChk pl67 body67 = true := by kernel_rfl
theorem good67 : good Tryz.prog 67 = true := by kernel_rfl
theorem isb67 : Tryz.f67.body = some body67 := by kernel_rfl
theorem wp67 {args : List AV} {h : Heap} {Q : AV → Heap → Prop} {c : Code} (hb : Tryz.f67.body = some c) (hn : Nat.ble args.length 11 = true) (hk : asx Tryz.prog 11 pl67 c (bodyQ Tryz.prog [.tmp 3] Q) (fr0 args) h) : ACalls Tryz.prog 67 args h Q := by
  have e := isb67.symm.trans hb; cases e; exact acalls_of_body mixed Tryz.func67 isb67 good67 (Nat.le_of_ble_eq_true hn) pl67 chk67 hk
def pl68 : Nat → Plan := fun | _ => []
noncomputable def body68 : Code := (Tryz.f68.body).getD .skip
theorem chk68 : codeChk pl68 body68 = true := by kernel_rfl
theorem good68 : good Tryz.prog 68 = true := by kernel_rfl
theorem isb68 : Tryz.f68.body = some body68 := by kernel_rfl
theorem wp68 {args : List AV} {h : Heap} {Q : AV → Heap → Prop} {c : Code} (hb : Tryz.f68.body = some c) (hn : Nat.ble args.length 62 = true) (hk : asx Tryz.prog 62 pl68 c (bodyQ Tryz.prog [.tmp 2] Q) (fr0 args) h) : ACalls Tryz.prog 68 args h Q := by
  have e := isb68.symm.trans hb; cases e; exact acalls_of_body mixed Tryz.func68 isb68 good68 (Nat.le_of_ble_eq_true hn) pl68 chk68 hk
def pl69 : Nat → Plan := fun | _ => []
noncomputable def body69 : Code := (Tryz.f69.body).getD .skip
theorem chk69 : codeChk pl69 body69 = true := by kernel_rfl
theorem good69 : good Tryz.prog 69 = true := by kernel_rfl
theorem isb69 : Tryz.f69.body = some body69 := by kernel_rfl
theorem wp69 {args : List AV} {h : Heap} {Q : AV → Heap → Prop} {c : Code} (hb : Tryz.f69.body = some c) (hn : Nat.ble args.length 42 = true) (hk : asx Tryz.prog 42 pl69 c (bodyQ Tryz.prog [.tmp 2] Q) (fr0 args) h) : ACalls Tryz.prog 69 args h Q := by
  have e := isb69.symm.trans hb; cases e; exact acalls_of_body mixed Tryz.func69 isb69 good69 (Nat.le_of_ble_eq_true hn) pl69 chk69 hk
def pl70 : Nat → Plan := fun | _ => []
noncomputable def body70 : Code := (Tryz.f70.body).getD .skip
theorem chk70 : codeChk pl70 body70 = true := by kernel_rfl
theorem good70 : good Tryz.prog 70 = true := by kernel_rfl
theorem isb70 : Tryz.f70.body = some body70 := by kernel_rfl
theorem wp70 {args : List AV} {h : Heap} {Q : AV → Heap → Prop} {c : Code} (hb : Tryz.f70.body = some c) (hn : Nat.ble args.length 17 = true) (hk : asx Tryz.prog 17 pl70 c (bodyQ Tryz.prog [.tmp 2] Q) (fr0 args) h) : ACalls Tryz.prog 70 args h Q := by
  have e := isb70.symm.trans hb; cases e; exact acalls_of_body mixed Tryz.func70 isb70 good70 (Nat.le_of_ble_eq_true hn) pl70 chk70 hk
def pl71 : Nat → Plan := fun | _ => []
noncomputable def body71 : Code := (Tryz.f71.body).getD .skip
theorem chk71 : codeChk pl71 body71 = true := by kernel_rfl
theorem good71 : good Tryz.prog 71 = true := by kernel_rfl
theorem isb71 : Tryz.f71.body = some body71 := by kernel_rfl
theorem wp71 {args : List AV} {h : Heap} {Q : AV → Heap → Prop} {c : Code} (hb : Tryz.f71.body = some c) (hn : Nat.ble args.length 8 = true) (hk : asx Tryz.prog 8 pl71 c (bodyQ Tryz.prog [.tmp 2] Q) (fr0 args) h) : ACalls Tryz.prog 71 args h Q := by
  have e := isb71.symm.trans hb; cases e; exact acalls_of_body mixed Tryz.func71 isb71 good71 (Nat.le_of_ble_eq_true hn) pl71 chk71 hk
def pl72 : Nat → Plan := fun | _ => []
noncomputable def body72 : Code := (Tryz.f72.body).getD .skip
theorem chk72 : codeChk pl72 body72 = true := by kernel_rfl
theorem good72 : good Tryz.prog 72 = true := by kernel_rfl
theorem isb72 : Tryz.f72.body = some body72 := by kernel_rfl
theorem wp72 {args : List AV} {h : Heap} {Q : AV → Heap → Prop} {c : Code} (hb : Tryz.f72.body = some c) (hn : Nat.ble args.length 19 = true) (hk : asx Tryz.prog 19 pl72 c (bodyQ Tryz.prog [.tmp 2] Q) (fr0 args) h) : ACalls Tryz.prog 72 args h Q := by
  have e := isb72.symm.trans hb; cases e; exact acalls_of_body mixed Tryz.func72 isb72 good72 (Nat.le_of_ble_eq_true hn) pl72 chk72 hk
def pl73 : Nat → Plan := fun | _ => []
noncomputable def body73 : Code := (Tryz.f73.body).getD .skip
theorem chk73 : codeChk pl73 body73 = true := by kernel_rfl
theorem good73 : good Tryz.prog 73 = true := by kernel_rfl
theorem isb73 : Tryz.f73.body = some body73 := by kernel_rfl
theorem wp73 {args : List AV} {h : Heap} {Q : AV → Heap → Prop} {c : Code} (hb : Tryz.f73.body = some c) (hn : Nat.ble args.length 7 = true) (hk : asx Tryz.prog 7 pl73 c (bodyQ Tryz.prog [.tmp 2] Q) (fr0 args) h) : ACalls Tryz.prog 73 args h Q := by
  have e := isb73.symm.trans hb; cases e; exact acalls_of_body mixed Tryz.func73 isb73 good73 (Nat.le_of_ble_eq_true hn) pl73 chk73 hk
def pl74 : Nat → Plan := fun | _ => []
noncomputable def body74 : Code := (Tryz.f74.body).getD .skip
theorem chk74 : codeChk pl74 body74 = true := by kernel_rfl
theorem good74 : good Tryz.prog 74 = true := by kernel_rfl
theorem isb74 : Tryz.f74.body = some body74 := by kernel_rfl
theorem wp74 {args : List AV} {h : Heap} {Q : AV → Heap → Prop} {c : Code} (hb : Tryz.f74.body = some c) (hn : Nat.ble args.length 18 = true) (hk : asx Tryz.prog 18 pl74 c (bodyQ Tryz.prog [.tmp 2] Q) (fr0 args) h) : ACalls Tryz.prog 74 args h Q := by
  have e := isb74.symm.trans hb; cases e; exact acalls_of_body mixed Tryz.func74 isb74 good74 (Nat.le_of_ble_eq_true hn) pl74 chk74 hk
def pl75 : Nat → Plan := fun | _ => []
noncomputable def body75 : Code := (Tryz.f75.body).getD .skip
theorem chk75 : codeChk pl75 body75 = true := by kernel_rfl
theorem good75 : good Tryz.prog 75 = true := by kernel_rfl
theorem isb75 : Tryz.f75.body = some body75 := by kernel_rfl
theorem wp75 {args : List AV} {h : Heap} {Q : AV → Heap → Prop} {c : Code} (hb : Tryz.f75.body = some c) (hn : Nat.ble args.length 20 = true) (hk : asx Tryz.prog 20 pl75 c (bodyQ Tryz.prog [.tmp 2] Q) (fr0 args) h) : ACalls Tryz.prog 75 args h Q := by
  have e := isb75.symm.trans hb; cases e; exact acalls_of_body mixed Tryz.func75 isb75 good75 (Nat.le_of_ble_eq_true hn) pl75 chk75 hk
def pl76 : Nat → Plan := fun | _ => []
noncomputable def body76 : Code := (Tryz.f76.body).getD .skip
theorem chk76 : codeChk pl76 body76 = true := by kernel_rfl
theorem good76 : good Tryz.prog 76 = true := by kernel_rfl
theorem isb76 : Tryz.f76.body = some body76 := by kernel_rfl
theorem wp76 {args : List AV} {h : Heap} {Q : AV → Heap → Prop} {c : Code} (hb : Tryz.f76.body = some c) (hn : Nat.ble args.length 71 = true) (hk : asx Tryz.prog 71 pl76 c (bodyQ Tryz.prog [.tmp 4] Q) (fr0 args) h) : ACalls Tryz.prog 76 args h Q := by
  have e := isb76.symm.trans hb; cases e; exact acalls_of_body mixed Tryz.func76 isb76 good76 (Nat.le_of_ble_eq_true hn) pl76 chk76 hk
def pl77 : Nat → Plan := fun | _ => []
noncomputable def body77 : Code := (Tryz.f77.body).getD .skip
theorem chk77 : codeChk pl77 body77 = true := by kernel_rfl
theorem good77 : good Tryz.prog 77 = true := by kernel_rfl
theorem isb77 : Tryz.f77.body = some body77 := by kernel_rfl
theorem wp77 {args : List AV} {h : Heap} {Q : AV → Heap → Prop} {c : Code} (hb : Tryz.f77.body = some c) (hn : Nat.ble args.length 10 = true) (hk : asx Tryz.prog 10 pl77 c (bodyQ Tryz.prog [.tmp 2] Q) (fr0 args) h) : ACalls Tryz.prog 77 args h Q := by
  have e := isb77.symm.trans hb; cases e; exact acalls_of_body mixed Tryz.func77 isb77 good77 (Nat.le_of_ble_eq_true hn) pl77 chk77 hk
def pl78 : Nat → Plan := fun | _ => []
noncomputable def body78 : Code := (Tryz.f78.body).getD .skip
theorem chk78 : codeChk pl78 body78 = true := by kernel_rfl
theorem good78 : good Tryz.prog 78 = true := by kernel_rfl
theorem isb78 : Tryz.f78.body = some body78 := by kernel_rfl
theorem wp78 {args : List AV} {h : Heap} {Q : AV → Heap → Prop} {c : Code} (hb : Tryz.f78.body = some c) (hn : Nat.ble args.length 20 = true) (hk : asx Tryz.prog 20 pl78 c (bodyQ Tryz.prog [.tmp 2] Q) (fr0 args) h) : ACalls Tryz.prog 78 args h Q := by
  have e := isb78.symm.trans hb; cases e; exact acalls_of_body mixed Tryz.func78 isb78 good78 (Nat.le_of_ble_eq_true hn) pl78 chk78 hk
def pl79 : Nat → Plan := fun | _ => []
noncomputable def body79 : Code := (Tryz.f79.body).getD .skip
theorem chk79 : codeChk pl79 body79 = true := by kernel_rfl
theorem good79 : good Tryz.prog 79 = true := by kernel_rfl
theorem isb79 : Tryz.f79.body = some body79 := by kernel_rfl
theorem wp79 {args : List AV} {h : Heap} {Q : AV → Heap → Prop} {c : Code} (hb : Tryz.f79.body = some c) (hn : Nat.ble args.length 12 = true) (hk : asx Tryz.prog 12 pl79 c (bodyQ Tryz.prog [.tmp 2] Q) (fr0 args) h) : ACalls Tryz.prog 79 args h Q := by
  have e := isb79.symm.trans hb; cases e; exact acalls_of_body mixed Tryz.func79 isb79 good79 (Nat.le_of_ble_eq_true hn) pl79 chk79 hk
def pl80 : Nat → Plan := fun | 14 => [(0, false, []), (1, false, []), (2, false, []), (3, false, []), (4, false, []), (5, false, [])] | _ => []
noncomputable def body80 : Code := (Tryz.f80.body).getD .skip
theorem chk80 : codeChk pl80 body80 = true := by kernel_rfl
theorem good80 : good Tryz.prog 80 = true := by kernel_rfl
theorem isb80 : Tryz.f80.body = some body80 := by kernel_rfl
theorem wp80 {args : List AV} {h : Heap} {Q : AV → Heap → Prop} {c : Code} (hb : Tryz.f80.body = some c) (hn : Nat.ble args.length 75 = true) (hk : asx Tryz.prog 75 pl80 c (bodyQ Tryz.prog [.tmp 4] Q) (fr0 args) h) : ACalls Tryz.prog 80 args h Q := by
  have e := isb80.symm.trans hb; cases e; exact acalls_of_body mixed Tryz.func80 isb80 good80 (Nat.le_of_ble_eq_true hn) pl80 chk80 hk
def pl81 : Nat → Plan := fun | _ => []
noncomputable def body81 : Code := (Tryz.f81.body).getD .skip
theorem chk81 : codeChk pl81 body81 = true := by kernel_rfl
theorem good81 : good Tryz.prog 81 = true := by kernel_rfl
theorem isb81 : Tryz.f81.body = some body81 := by kernel_rfl
theorem wp81 {args : List AV} {h : Heap} {Q : AV → Heap → Prop} {c : Code} (hb : Tryz.f81.body = some c) (hn : Nat.ble args.length 9 = true) (hk : asx Tryz.prog 9 pl81 c (bodyQ Tryz.prog [.tmp 2] Q) (fr0 args) h) : ACalls Tryz.prog 81 args h Q := by
  have e := isb81.symm.trans hb; cases e; exact acalls_of_body mixed Tryz.func81 isb81 good81 (Nat.le_of_ble_eq_true hn) pl81 chk81 hk
def pl82 : Nat → Plan := fun | _ => []
noncomputable def body82 : Code := (Tryz.f82.body).getD .skip
theorem chk82 : codeChk pl82 body82 = true := by kernel_rfl
theorem good82 : good Tryz.prog 82 = true := by kernel_rfl
theorem isb82 : Tryz.f82.body = some body82 := by kernel_rfl
theorem wp82 {args : List AV} {h : Heap} {Q : AV → Heap → Prop} {c : Code} (hb : Tryz.f82.body = some c) (hn : Nat.ble args.length 7 = true) (hk : asx Tryz.prog 7 pl82 c (bodyQ Tryz.prog [.tmp 2] Q) (fr0 args) h) : ACalls Tryz.prog 82 args h Q := by
  have e := isb82.symm.trans hb; cases e; exact acalls_of_body mixed Tryz.func82 isb82 good82 (Nat.le_of_ble_eq_true hn) pl82 chk82 hk
def pl83 : Nat → Plan := fun | _ => []
noncomputable def body83 : Code := (Tryz.f83.body).getD .skip
theorem chk83 : codeChk pl83 body83 = true := by kernel_rfl
theorem good83 : good Tryz.prog 83 = true := by kernel_rfl
theorem isb83 : Tryz.f83.body = some body83 := by kernel_rfl
theorem wp83 {args : List AV} {h : Heap} {Q : AV → Heap → Prop} {c : Code} (hb : Tryz.f83.body = some c) (hn : Nat.ble args.length 21 = true) (hk : asx Tryz.prog 21 pl83 c (bodyQ Tryz.prog [.tmp 2, .tmp 3] Q) (fr0 args) h) : ACalls Tryz.prog 83 args h Q := by
  have e := isb83.symm.trans hb; cases e; exact acalls_of_body mixed Tryz.func83 isb83 good83 (Nat.le_of_ble_eq_true hn) pl83 chk83 hk
def pl84 : Nat → Plan := fun | _ => []
noncomputable def body84 : Code := (Tryz.f84.body).getD .skip
theorem chk84 : codeChk pl84 body84 = true := by kernel_rfl
theorem good84 : good Tryz.prog 84 = true := by kernel_rfl
theorem isb84 : Tryz.f84.body = some body84 := by kernel_rfl
theorem wp84 {args : List AV} {h : Heap} {Q : AV → Heap → Prop} {c : Code} (hb : Tryz.f84.body = some c) (hn : Nat.ble args.length 47 = true) (hk : asx Tryz.prog 47 pl84 c (bodyQ Tryz.prog [.tmp 4] Q) (fr0 args) h) : ACalls Tryz.prog 84 args h Q := by
  have e := isb84.symm.trans hb; cases e; exact acalls_of_body mixed Tryz.func84 isb84 good84 (Nat.le_of_ble_eq_true hn) pl84 chk84 hk
def pl85 : Nat → Plan := fun | _ => []
noncomputable def body85 : Code := (Tryz.f85.body).getD .skip
theorem chk85 : codeChk pl85 body85 = true := by kernel_rfl
theorem good85 : good Tryz.prog 85 = true := by kernel_rfl
theorem isb85 : Tryz.f85.body = some body85 := by kernel_rfl
theorem wp85 {args : List AV} {h : Heap} {Q : AV → Heap → Prop} {c : Code} (hb : Tryz.f85.body = some c) (hn : Nat.ble args.length 10 = true) (hk : asx Tryz.prog 10 pl85 c (bodyQ Tryz.prog [.tmp 2] Q) (fr0 args) h) : ACalls Tryz.prog 85 args h Q := by
  have e := isb85.symm.trans hb; cases e; exact acalls_of_body mixed Tryz.func85 isb85 good85 (Nat.le_of_ble_eq_true hn) pl85 chk85 hk
def pl86 : Nat → Plan := fun | _ => []
noncomputable def body86 : Code := (Tryz.f86.body).getD .skip
theorem chk86 : codeChk pl86 body86 = true := by kernel_rfl
theorem good86 : good Tryz.prog 86 = true := by kernel_rfl
theorem isb86 : Tryz.f86.body = some body86 := by kernel_rfl
theorem wp86 {args : List AV} {h : Heap} {Q : AV → Heap → Prop} {c : Code} (hb : Tryz.f86.body = some c) (hn : Nat.ble args.length 14 = true) (hk : asx Tryz.prog 14 pl86 c (bodyQ Tryz.prog [.tmp 4] Q) (fr0 args) h) : ACalls Tryz.prog 86 args h Q := by
  have e := isb86.symm.trans hb; cases e; exact acalls_of_body mixed Tryz.func86 isb86 good86 (Nat.le_of_ble_eq_true hn) pl86 chk86 hk
def pl87 : Nat → Plan := fun | _ => []
noncomputable def body87 : Code := (Tryz.f87.body).getD .skip
theorem chk87 : codeChk pl87 body87 = true := by kernel_rfl
theorem good87 : good Tryz.prog 87 = true := by kernel_rfl
theorem isb87 : Tryz.f87.body = some body87 := by kernel_rfl
theorem wp87 {args : List AV} {h : Heap} {Q : AV → Heap → Prop} {c : Code} (hb : Tryz.f87.body = some c) (hn : Nat.ble args.length 21 = true) (hk : asx Tryz.prog 21 pl87 c (bodyQ Tryz.prog [.tmp 2] Q) (fr0 args) h) : ACalls Tryz.prog 87 args h Q := by
  have e := isb87.symm.trans hb; cases e; exact acalls_of_body mixed Tryz.func87 isb87 good87 (Nat.le_of_ble_eq_true hn) pl87 chk87 hk
def pl88 : Nat → Plan := fun | 6 => [(0, false, []), (1, false, []), (2, false, []), (3, false, []), (4, false, []), (5, false, []), (6, false, []), (7, false, []), (8, false, [])] | 8 => [(0, false, []), (1, false, []), (2, false, []), (3, false, []), (4, false, []), (5, false, []), (6, false, []), (7, false, []), (8, false, [])] | _ => []
noncomputable def body88 : Code := (Tryz.f88.body).getD .skip
theorem chk88 : codeChk pl88 body88 = true := by kernel_rfl
theorem good88 : good Tryz.prog 88 = true := by kernel_rfl
theorem isb88 : Tryz.f88.body = some body88 := by kernel_rfl
theorem wp88 {args : List AV} {h : Heap} {Q : AV → Heap → Prop} {c : Code} (hb : Tryz.f88.body = some c) (hn : Nat.ble args.length 42 = true) (hk : asx Tryz.prog 42 pl88 c (bodyQ Tryz.prog [.tmp 4] Q) (fr0 args) h) : ACalls Tryz.prog 88 args h Q := by
  have e := isb88.symm.trans hb; cases e; exact acalls_of_body mixed Tryz.func88 isb88 good88 (Nat.le_of_ble_eq_true hn) pl88 chk88 hk
def pl89 : Nat → Plan := fun | _ => []
noncomputable def body89 : Code := (Tryz.f89.body).getD .skip
theorem chk89 : codeChk pl89 body89 = true := by kernel_rfl
theorem good89 : good Tryz.prog 89 = true := by kernel_rfl
theorem isb89 : Tryz.f89.body = some body89 := by kernel_rfl
theorem wp89 {args : List AV} {h : Heap} {Q : AV → Heap → Prop} {c : Code} (hb : Tryz.f89.body = some c) (hn : Nat.ble args.length 40 = true) (hk : asx Tryz.prog 40 pl89 c (bodyQ Tryz.prog [.tmp 4] Q) (fr0 args) h) : ACalls Tryz.prog 89 args h Q := by
  have e := isb89.symm.trans hb; cases e; exact acalls_of_body mixed Tryz.func89 isb89 good89 (Nat.le_of_ble_eq_true hn) pl89 chk89 hk
def pl90 : Nat → Plan := fun | 8 => [(0, false, []), (1, false, []), (2, false, []), (3, false, []), (4, false, []), (5, false, []), (6, false, []), (7, false, []), (8, false, []), (9, false, [])] | 10 => [(0, false, []), (1, false, []), (2, false, []), (3, false, []), (4, false, []), (5, false, []), (6, false, []), (7, false, []), (8, false, []), (9, false, [])] | _ => []
noncomputable def body90 : Code := (Tryz.f90.body).getD .skip
theorem chk90 : codeChk pl90 body90 = true := by kernel_rfl
theorem good90 : good Tryz.prog 90 = true := by kernel_rfl
theorem isb90 : Tryz.f90.body = some body90 := by kernel_rfl
theorem wp90 {args : List AV} {h : Heap} {Q : AV → Heap → Prop} {c : Code} (hb : Tryz.f90.body = some c) (hn : Nat.ble args.length 45 = true) (hk : asx Tryz.prog 45 pl90 c (bodyQ Tryz.prog [.tmp 4] Q) (fr0 args) h) : ACalls Tryz.prog 90 args h Q := by
  have e := isb90.symm.trans hb; cases e; exact acalls_of_body mixed Tryz.func90 isb90 good90 (Nat.le_of_ble_eq_true hn) pl90 chk90 hk
def pl91 : Nat → Plan := fun | _ => []
noncomputable def body91 : Code := (Tryz.f91.body).getD .skip
theorem chk91 : codeChk pl91 body91 = true := by kernel_rfl
theorem good91 : good Tryz.prog 91 = true := by kernel_rfl
theorem isb91 : Tryz.f91.body = some body91 := by kernel_rfl
theorem wp91 {args : List AV} {h : Heap} {Q : AV → Heap → Prop} {c : Code} (hb : Tryz.f91.body = some c) (hn : Nat.ble args.length 86 = true) (hk : asx Tryz.prog 86 pl91 c (bodyQ Tryz.prog [.tmp 4, .tmp 5, .tmp 6, .tmp 7] Q) (fr0 args) h) : ACalls Tryz.prog 91 args h Q := by
  have e := isb91.symm.trans hb; cases e; exact acalls_of_body mixed Tryz.func91 isb91 good91 (Nat.le_of_ble_eq_true hn) pl91 chk91 hk
def pl92 : Nat → Plan := fun | 17 => [(0, false, []), (2, false, []), (3, false, []), (4, false, []), (6, false, []), (1, false, []), (5, false, []), (7, false, []), (8, false, []), (9, false, [])] | _ => []
noncomputable def body92 : Code := (Tryz.f92.body).getD .skip
theorem chk92 : codeChk pl92 body92 = true := by kernel_rfl
theorem good92 : good Tryz.prog 92 = true := by kernel_rfl
theorem isb92 : Tryz.f92.body = some body92 := by kernel_rfl
theorem wp92 {args : List AV} {h : Heap} {Q : AV → Heap → Prop} {c : Code} (hb : Tryz.f92.body = some c) (hn : Nat.ble args.length 94 = true) (hk : asx Tryz.prog 94 pl92 c (bodyQ Tryz.prog [.tmp 4, .tmp 5] Q) (fr0 args) h) : ACalls Tryz.prog 92 args h Q := by
  have e := isb92.symm.trans hb; cases e; exact acalls_of_body mixed Tryz.func92 isb92 good92 (Nat.le_of_ble_eq_true hn) pl92 chk92 hk
def pl93 : Nat → Plan := fun | _ => []
noncomputable def body93 : Code := (Tryz.f93.body).getD .skip
theorem chk93 : codeChk pl93 body93 = true := by kernel_rfl
theorem good93 : good Tryz.prog 93 = true := by kernel_rfl
theorem isb93 : Tryz.f93.body = some body93 := by kernel_rfl
theorem wp93 {args : List AV} {h : Heap} {Q : AV → Heap → Prop} {c : Code} (hb : Tryz.f93.body = some c) (hn : Nat.ble args.length 60 = true) (hk : asx Tryz.prog 60 pl93 c (bodyQ Tryz.prog [.tmp 8] Q) (fr0 args) h) : ACalls Tryz.prog 93 args h Q := by
  have e := isb93.symm.trans hb; cases e; exact acalls_of_body mixed Tryz.func93 isb93 good93 (Nat.le_of_ble_eq_true hn) pl93 chk93 hk
def pl94 : Nat → Plan := fun | _ => []
noncomputable def body94 : Code := (Tryz.f94.body).getD .skip
theorem chk94 : codeChk pl94 body94 = true := by kernel_rfl
theorem good94 : good Tryz.prog 94 = true := by kernel_rfl
theorem isb94 : Tryz.f94.body = some body94 := by kernel_rfl
theorem wp94 {args : List AV} {h : Heap} {Q : AV → Heap → Prop} {c : Code} (hb : Tryz.f94.body = some c) (hn : Nat.ble args.length 21 = true) (hk : asx Tryz.prog 21 pl94 c (bodyQ Tryz.prog [.tmp 2] Q) (fr0 args) h) : ACalls Tryz.prog 94 args h Q := by
  have e := isb94.symm.trans hb; cases e; exact acalls_of_body mixed Tryz.func94 isb94 good94 (Nat.le_of_ble_eq_true hn) pl94 chk94 hk
def pl95 : Nat → Plan := fun | _ => []
noncomputable def body95 : Code := (Tryz.f95.body).getD .skip
theorem chk95 : codeChk pl95 body95 = true := by kernel_rfl
theorem good95 : good Tryz.prog 95 = true := by kernel_rfl
theorem isb95 : Tryz.f95.body = some body95 := by kernel_rfl
theorem wp95 {args : List AV} {h : Heap} {Q : AV → Heap → Prop} {c : Code} (hb : Tryz.f95.body = some c) (hn : Nat.ble args.length 10 = true) (hk : asx Tryz.prog 10 pl95 c (bodyQ Tryz.prog [.tmp 2] Q) (fr0 args) h) : ACalls Tryz.prog 95 args h Q := by
  have e := isb95.symm.trans hb; cases e; exact acalls_of_body mixed Tryz.func95 isb95 good95 (Nat.le_of_ble_eq_true hn) pl95 chk95 hk
def pl96 : Nat → Plan := fun | _ => []
noncomputable def body96 : Code := (Tryz.f96.body).getD .skip
theorem chk96 : codeChk pl96 body96 = true := by kernel_rfl
theorem good96 : good Tryz.prog 96 = true := by kernel_rfl
theorem isb96 : Tryz.f96.body = some body96 := by kernel_rfl
theorem wp96 {args : List AV} {h : Heap} {Q : AV → Heap → Prop} {c : Code} (hb : Tryz.f96.body = some c) (hn : Nat.ble args.length 83 = true) (hk : asx Tryz.prog 83 pl96 c (bodyQ Tryz.prog [.tmp 2, .tmp 3, .tmp 4] Q) (fr0 args) h) : ACalls Tryz.prog 96 args h Q := by
  have e := isb96.symm.trans hb; cases e; exact acalls_of_body mixed Tryz.func96 isb96 good96 (Nat.le_of_ble_eq_true hn) pl96 chk96 hk
def pl97 : Nat → Plan := fun | _ => []
noncomputable def body97 : Code := (Tryz.f97.body).getD .skip
theorem chk97 : codeChk pl97 body97 = true := by kernel_rfl
theorem good97 : good Tryz.prog 97 = true := by kernel_rfl
theorem isb97 : Tryz.f97.body = some body97 := by kernel_rfl
theorem wp97 {args : List AV} {h : Heap} {Q : AV → Heap → Prop} {c : Code} (hb : Tryz.f97.body = some c) (hn : Nat.ble args.length 21 = true) (hk : asx Tryz.prog 21 pl97 c (bodyQ Tryz.prog [.tmp 2] Q) (fr0 args) h) : ACalls Tryz.prog 97 args h Q := by
  have e := isb97.symm.trans hb; cases e; exact acalls_of_body mixed Tryz.func97 isb97 good97 (Nat.le_of_ble_eq_true hn) pl97 chk97 hk
def pl98 : Nat → Plan := fun | _ => []
noncomputable def body98 : Code := (Tryz.f98.body).getD .skip
theorem chk98 : codeChk pl98 body98 = true := by kernel_rfl
theorem good98 : good Tryz.prog 98 = true := by kernel_rfl
theorem isb98 : Tryz.f98.body = some body98 := by kernel_rfl
theorem wp98 {args : List AV} {h : Heap} {Q : AV → Heap → Prop} {c : Code} (hb : Tryz.f98.body = some c) (hn : Nat.ble args.length 7 = true) (hk : asx Tryz.prog 7 pl98 c (bodyQ Tryz.prog [.tmp 2] Q) (fr0 args) h) : ACalls Tryz.prog 98 args h Q := by
  have e := isb98.symm.trans hb; cases e; exact acalls_of_body mixed Tryz.func98 isb98 good98 (Nat.le_of_ble_eq_true hn) pl98 chk98 hk
def pl99 : Nat → Plan := fun | _ => []
noncomputable def body99 : Code := (Tryz.f99.body).getD .skip
theorem chk99 : codeChk pl99 body99 = true := by kernel_rfl
theorem good99 : good Tryz.prog 99 = true := by kernel_rfl
theorem isb99 : Tryz.f99.body = some body99 := by kernel_rfl
theorem wp99 {args : List AV} {h : Heap} {Q : AV → Heap → Prop} {c : Code} (hb : Tryz.f99.body = some c) (hn : Nat.ble args.length 18 = true) (hk : asx Tryz.prog 18 pl99 c (bodyQ Tryz.prog [.tmp 2] Q) (fr0 args) h) : ACalls Tryz.prog 99 args h Q := by
  have e := isb99.symm.trans hb; cases e; exact acalls_of_body mixed Tryz.func99 isb99 good99 (Nat.le_of_ble_eq_true hn) pl99 chk99 hk
def pl100 : Nat → Plan := fun | _ => []
noncomputable def body100 : Code := (Tryz.f100.body).getD .skip
theorem chk100 : codeChk pl100 body100 = true := by kernel_rfl
theorem good100 : good Tryz.prog 100 = true := by kernel_rfl
theorem isb100 : Tryz.f100.body = some body100 := by kernel_rfl
theorem wp100 {args : List AV} {h : Heap} {Q : AV → Heap → Prop} {c : Code} (hb : Tryz.f100.body = some c) (hn : Nat.ble args.length 51 = true) (hk : asx Tryz.prog 51 pl100 c (bodyQ Tryz.prog [.tmp 4] Q) (fr0 args) h) : ACalls Tryz.prog 100 args h Q := by
  have e := isb100.symm.trans hb; cases e; exact acalls_of_body mixed Tryz.func100 isb100 good100 (Nat.le_of_ble_eq_true hn) pl100 chk100 hk
def pl101 : Nat → Plan := fun | _ => []
noncomputable def body101 : Code := (Tryz.f101.body).getD .skip
theorem chk101 : codeChk pl101 body101 = true := by kernel_rfl
theorem good101 : good Tryz.prog 101 = true := by kernel_rfl
theorem isb101 : Tryz.f101.body = some body101 := by kernel_rfl
theorem wp101 {args : List AV} {h : Heap} {Q : AV → Heap → Prop} {c : Code} (hb : Tryz.f101.body = some c) (hn : Nat.ble args.length 35 = true) (hk : asx Tryz.prog 35 pl101 c (bodyQ Tryz.prog [.tmp 4, .tmp 5] Q) (fr0 args) h) : ACalls Tryz.prog 101 args h Q := by
  have e := isb101.symm.trans hb; cases e; exact acalls_of_body mixed Tryz.func101 isb101 good101 (Nat.le_of_ble_eq_true hn) pl101 chk101 hk
def pl102 : Nat → Plan := fun | _ => []
noncomputable def body102 : Code := (Tryz.f102.body).getD .skip
theorem chk102 : codeChk pl102 body102 = true := by kernel_rfl
theorem good102 : good Tryz.prog 102 = true := by kernel_rfl
theorem isb102 : Tryz.f102.body = some body102 := by kernel_rfl
theorem wp102 {args : List AV} {h : Heap} {Q : AV → Heap → Prop} {c : Code} (hb : Tryz.f102.body = some c) (hn : Nat.ble args.length 6 = true) (hk : asx Tryz.prog 6 pl102 c (bodyQ Tryz.prog [.tmp 2] Q) (fr0 args) h) : ACalls Tryz.prog 102 args h Q := by
  have e := isb102.symm.trans hb; cases e; exact acalls_of_body mixed Tryz.func102 isb102 good102 (Nat.le_of_ble_eq_true hn) pl102 chk102 hk
def pl103 : Nat → Plan := fun | _ => []
noncomputable def body103 : Code := (Tryz.f103.body).getD .skip
theorem chk103 : codeChk pl103 body103 = true := by kernel_rfl
theorem good103 : good Tryz.prog 103 = true := by kernel_rfl
theorem isb103 : Tryz.f103.body = some body103 := by kernel_rfl
theorem wp103 {args : List AV} {h : Heap} {Q : AV → Heap → Prop} {c : Code} (hb : Tryz.f103.body = some c) (hn : Nat.ble args.length 55 = true) (hk : asx Tryz.prog 55 pl103 c (bodyQ Tryz.prog [.tmp 4] Q) (fr0 args) h) : ACalls Tryz.prog 103 args h Q := by
  have e := isb103.symm.trans hb; cases e; exact acalls_of_body mixed Tryz.func103 isb103 good103 (Nat.le_of_ble_eq_true hn) pl103 chk103 hk
def pl104 : Nat → Plan := fun | 2 => [(0, false, []), (1, false, []), (2, false, []), (3, false, []), (4, false, []), (5, false, []), (6, false, []), (7, false, []), (8, false, []), (9, false, []), (10, false, []), (11, false, []), (12, false, []), (13, false, [])] | 4 => [(0, false, []), (1, false, []), (2, false, []), (3, false, []), (4, false, []), (5, false, []), (6, false, []), (7, false, []), (8, false, []), (9, false, [])] | 5 => [(0, false, []), (1, false, []), (2, false, []), (3, false, []), (4, false, []), (5, false, []), (6, false, []), (7, false, []), (8, false, []), (9, false, []), (10, false, []), (11, false, []), (12, false, []), (13, false, []), (14, false, []), (15, false, []), (16, false, []), (17, false, [])] | 7 => [(0, false, []), (1, false, []), (2, false, []), (3, false, []), (4, false, []), (5, false, []), (6, false, []), (7, false, []), (8, false, []), (9, false, []), (10, false, []), (11, false, []), (12, false, []), (13, false, []), (14, false, []), (15, false, []), (16, false, []), (17, false, []), (18, false, []), (19, false, []), (20, false, []), (21, false, [])] | _ => []
noncomputable def body104 : Code := (Tryz.f104.body).getD .skip
theorem chk104 : codeChk pl104 body104 = true := by kernel_rfl
theorem good104 : good Tryz.prog 104 = true := by kernel_rfl
theorem isb104 : Tryz.f104.body = some body104 := by kernel_rfl
theorem wp104 {args : List AV} {h : Heap} {Q : AV → Heap → Prop} {c : Code} (hb : Tryz.f104.body = some c) (hn : Nat.ble args.length 179 = true) (hk : asx Tryz.prog 179 pl104 c (bodyQ Tryz.prog [.tmp 4] Q) (fr0 args) h) : ACalls Tryz.prog 104 args h Q := by
  have e := isb104.symm.trans hb; cases e; exact acalls_of_body mixed Tryz.func104 isb104 good104 (Nat.le_of_ble_eq_true hn) pl104 chk104 hk
def pl105 : Nat → Plan := fun | _ => []
noncomputable def body105 : Code := (Tryz.f105.body).getD .skip
theorem chk105 : codeChk pl105 body105 = true := by kernel_rfl
theorem good105 : good Tryz.prog 105 = true := by kernel_rfl
theorem isb105 : Tryz.f105.body = some body105 := by kernel_rfl
theorem wp105 {args : List AV} {h : Heap} {Q : AV → Heap → Prop} {c : Code} (hb : Tryz.f105.body = some c) (hn : Nat.ble args.length 21 = true) (hk : asx Tryz.prog 21 pl105 c (bodyQ Tryz.prog [.tmp 2] Q) (fr0 args) h) : ACalls Tryz.prog 105 args h Q := by
  have e := isb105.symm.trans hb; cases e; exact acalls_of_body mixed Tryz.func105 isb105 good105 (Nat.le_of_ble_eq_true hn) pl105 chk105 hk
def pl106 : Nat → Plan := fun | 7 => [(0, false, []), (1, false, []), (2, false, []), (3, false, []), (4, false, []), (5, false, []), (6, false, []), (7, false, []), (8, false, []), (9, false, []), (10, false, []), (11, false, []), (12, false, []), (13, false, []), (14, false, [])] | _ => []
noncomputable def body106 : Code := (Tryz.f106.body).getD .skip
theorem chk106 : codeChk pl106 body106 = true := by kernel_rfl
theorem good106 : good Tryz.prog 106 = true := by kernel_rfl
theorem isb106 : Tryz.f106.body = some body106 := by kernel_rfl
theorem wp106 {args : List AV} {h : Heap} {Q : AV → Heap → Prop} {c : Code} (hb : Tryz.f106.body = some c) (hn : Nat.ble args.length 50 = true) (hk : asx Tryz.prog 50 pl106 c (bodyQ Tryz.prog [.tmp 4] Q) (fr0 args) h) : ACalls Tryz.prog 106 args h Q := by
  have e := isb106.symm.trans hb; cases e; exact acalls_of_body mixed Tryz.func106 isb106 good106 (Nat.le_of_ble_eq_true hn) pl106 chk106 hk
def pl107 : Nat → Plan := fun | _ => []
noncomputable def body107 : Code := (Tryz.f107.body).getD .skip
theorem chk107 : codeChk pl107 body107 = true := by kernel_rfl
theorem good107 : good Tryz.prog 107 = true := by kernel_rfl
theorem isb107 : Tryz.f107.body = some body107 := by kernel_rfl
theorem wp107 {args : List AV} {h : Heap} {Q : AV → Heap → Prop} {c : Code} (hb : Tryz.f107.body = some c) (hn : Nat.ble args.length 19 = true) (hk : asx Tryz.prog 19 pl107 c (bodyQ Tryz.prog [.tmp 2] Q) (fr0 args) h) : ACalls Tryz.prog 107 args h Q := by
  have e := isb107.symm.trans hb; cases e; exact acalls_of_body mixed Tryz.func107 isb107 good107 (Nat.le_of_ble_eq_true hn) pl107 chk107 hk
def pl108 : Nat → Plan := fun | 4 => [(0, false, []), (1, false, []), (2, false, []), (3, false, []), (4, false, []), (5, false, []), (6, false, []), (7, false, []), (8, false, []), (9, false, []), (10, false, []), (11, false, [])] | _ => []
noncomputable def body108 : Code := (Tryz.f108.body).getD .skip
theorem chk108 : codeChk pl108 body108 = true := by kernel_rfl
theorem good108 : good Tryz.prog 108 = true := by kernel_rfl
theorem isb108 : Tryz.f108.body = some body108 := by kernel_rfl
theorem wp108 {args : List AV} {h : Heap} {Q : AV → Heap → Prop} {c : Code} (hb : Tryz.f108.body = some c) (hn : Nat.ble args.length 33 = true) (hk : asx Tryz.prog 33 pl108 c (bodyQ Tryz.prog [.tmp 6, .tmp 7] Q) (fr0 args) h) : ACalls Tryz.prog 108 args h Q := by
  have e := isb108.symm.trans hb; cases e; exact acalls_of_body mixed Tryz.func108 isb108 good108 (Nat.le_of_ble_eq_true hn) pl108 chk108 hk
def pl109 : Nat → Plan := fun | _ => []
noncomputable def body109 : Code := (Tryz.f109.body).getD .skip
theorem chk109 : codeChk pl109 body109 = true := by kernel_rfl
theorem good109 : good Tryz.prog 109 = true := by kernel_rfl
theorem isb109 : Tryz.f109.body = some body109 := by kernel_rfl
theorem wp109 {args : List AV} {h : Heap} {Q : AV → Heap → Prop} {c : Code} (hb : Tryz.f109.body = some c) (hn : Nat.ble args.length 25 = true) (hk : asx Tryz.prog 25 pl109 c (bodyQ Tryz.prog [.tmp 6, .tmp 7] Q) (fr0 args) h) : ACalls Tryz.prog 109 args h Q := by
  have e := isb109.symm.trans hb; cases e; exact acalls_of_body mixed Tryz.func109 isb109 good109 (Nat.le_of_ble_eq_true hn) pl109 chk109 hk
def pl110 : Nat → Plan := fun | _ => []
noncomputable def body110 : Code := (Tryz.f110.body).getD .skip
theorem chk110 : codeChk pl110 body110 = true := by kernel_rfl
theorem good110 : good Tryz.prog 110 = true := by kernel_rfl
theorem isb110 : Tryz.f110.body = some body110 := by kernel_rfl
theorem wp110 {args : List AV} {h : Heap} {Q : AV → Heap → Prop} {c : Code} (hb : Tryz.f110.body = some c) (hn : Nat.ble args.length 22 = true) (hk : asx Tryz.prog 22 pl110 c (bodyQ Tryz.prog [.tmp 6, .tmp 7] Q) (fr0 args) h) : ACalls Tryz.prog 110 args h Q := by
  have e := isb110.symm.trans hb; cases e; exact acalls_of_body mixed Tryz.func110 isb110 good110 (Nat.le_of_ble_eq_true hn) pl110 chk110 hk
end Go.Proofs.YtclbobielhllmaaGreat
end
