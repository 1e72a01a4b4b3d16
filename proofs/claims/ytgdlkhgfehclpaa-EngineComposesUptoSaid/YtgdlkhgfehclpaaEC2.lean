/- Texts of one claim bound together: ALkb, ALka, ALl, ALm, ALn, ALo, ALp, ALq, ALr, ALs, PZa, Facts, Fns, ALt, PRa. -/
import Derived.Test.YtgdlkhgfehclpaaEC1
import Derived.Deep.LoopGhost
import Derived.Test.YtgdlkhgfehclpaaRows
import Derived.ProofKit
import Derived.OpenShut
import Derived.JoinedCond
import Derived.Test.YtgdlkhgfehclpaaProg
import Derived.KernelRfl

section
/- Drawn regions with two effects in no order: whichever comes first, one of two plans serves. No condition. -/
namespace Go.AL
set_option linter.unusedVariables false
set_option linter.unusedSimpArgs false
section
variable {P : Program} {n : Nat}
theorem putK_imp0 {a : Fr} {dst : Option Tmp} {v : AV} {K K' : Fr → Prop} (hK : ∀ a, K a → K' a) (hk : putK n dst a v K) : putK n dst a v K' := by
  cases dst with
  | none => exact hK _ hk
  | some d => exact ⟨hk.1, hK _ hk.2⟩
theorem guardK_imp0 {a : Fr} {ops : List Oper} {g : Option (Nat × Bool)} {K K' : Bool → Prop} (hK : ∀ b, K b → K' b) (hk : guardK ops g a K) : guardK ops g a K' := by
  cases g with
  | none => exact hK _ hk
  | some x =>
    obtain ⟨j, want⟩ := x
    simp only [guardK] at hk ⊢
    cases hs : gslot ops j with
    | none => simp [hs] at hk
    | some t =>
      simp only [hs] at hk ⊢
      cases ha : a t with
      | bool b => simp only [ha] at hk ⊢; exact ⟨fun e => hK _ (hk.1 e), fun e => hK _ (hk.2 e)⟩
      | tup l => cases l with
        | nil => simp only [ha] at hk ⊢; exact hK _ hk
        | cons _ _ => simp [ha] at hk
      | _ => simp [ha] at hk
theorem draw_two {ops : Array Oper} {plan1 plan2 : Plan} {A B : Nat} (hd1 : DrawOk ops.toList plan1 [A]) (hd2 : DrawOk ops.toList plan2 [B]) {K : Fr → Heap → Prop} {a0 : Fr} {Q : Exit → Act → World → Prop} {I0 : Nat → Prop} {β0 : Nat → Nat} {h0 : Heap} {w0 : World}
    (hQ : ∀ a' h' I' β' c' w', K a' h' → Ext I0 β0 h0 w0 I' β' h' w' → Rel I' β' h' w' → FRel I' β' h'.length w' n a' c' → Q .normal c' w') (hA : A < ops.toList.length) :
    ∀ (fuel : Nat) (listed : Array Bool) (c : Act) (w : World) (I : Nat → Prop) (β : Nat → Nat) (h : Heap) (hist : List (Nat × AV)) (rest1 rest2 : Plan) (done : List (Nat × Fr × AV)),
      (∀ i, i < ops.toList.length → i ∉ hist.map (·.1) → i = A ∨ i = B ∨ A ∈ (presOf ops.toList).getD i [] ∨ B ∈ (presOf ops.toList).getD i []) → A ∉ hist.map (·.1) → B ∉ hist.map (·.1) →
      unl ops.toList.length listed ≤ fuel → listed.size = ops.toList.length → (∀ i, Sof listed i → ∀ e, e ∈ edgesOf ops.toList i → Sof listed e) → Ext I0 β0 h0 w0 I β h w → Rel I β h w → FRel I β h.length w n (frm ops.toList a0 (filt listed hist)) c →
      Inv P n ops.toList plan1 K a0 (Sof listed) hist rest1 h done → Inv P n ops.toList plan2 K a0 (Sof listed) hist rest2 h done → wpAny P .any ops Q fuel listed c w := by
  intro fuel
  have ready_nil : ∀ listed : Array Bool, listed.size = ops.toList.length → Region.ready .any ops listed = [] → ∀ i, i < ops.toList.length → Sof listed i := by
    intro listed hsz hr i
    induction i using Nat.strongRecOn with
    | _ i ih =>
      intro hi
      apply Classical.byContradiction
      intro hs
      have hio : i < ops.size := by simpa using hi
      have : i ∈ Region.ready .any ops listed := by
        rw [mem_ready]
        refine ⟨?_, ops[i], Array.getElem?_eq_getElem hio, fun e he hb => ?_⟩
        · have hil : i < listed.size := by omega
          unfold Sof at hs
          simp only [Array.getD_eq_getD_getElem?, Array.getElem?_eq_getElem hil, Option.getD_some] at hs ⊢
          simpa using hs
        · have hem : e.on ∈ edgesOf ops.toList i := by
            have : ops.toList[i]? = some ops[i] := by simp [hio]
            simp only [edgesOf, this]
            exact List.mem_map.2 ⟨e, List.mem_filter.2 ⟨by simpa using he, hb⟩, rfl⟩
          have := hd1.back i hi _ hem
          exact ih _ this (by omega)
      rw [hr] at this
      cases this
  induction fuel with
  | zero =>
    intro listed c w I β h hist rest1 rest2 done hcond hnA hnB hu hsz hc he hr hf hv1 hv2
    exfalso
    apply hnA
    apply hv1.ran
    apply Classical.byContradiction
    intro hs
    have := unl_lt hA (by omega) hs
    omega
  | succ fuel ih =>
    intro listed c w I β h hist rest1 rest2 done hcond hnA hnB hu hsz hc he hr hf hv1 hv2
    refine ⟨fun hrd => absurd (hv1.ran _ (ready_nil listed hsz hrd A hA)) hnA, fun i hi => ?_⟩
    have hi' := hi
    rw [mem_ready] at hi'
    obtain ⟨hil0, o, ho, hed⟩ := hi'
    have hio : i < ops.size := (Array.getElem?_eq_some_iff.1 ho).1
    have hin : i < ops.toList.length := by simpa using hio
    have hil : i < listed.size := by omega
    by_cases hm : i ∈ hist.map (·.1)
    · refine draw_pick hd1 fuel listed c w I β h hist rest1 done i (fun hx => absurd hm hx) (fun listed1 c1 w1 I1 β1 h1 hist1 r1 done1 el heq _ hu1 hsz1 hc1 he1 hr1 hf1 hv1' => ?_) hu hsz hc he hr hf hv1 hi
      obtain ⟨rfl, rfl, rfl, rfl⟩ := heq hm
      subst el
      refine ih _ c1 w1 I1 β1 _ _ _ rest2 _ hcond hnA hnB hu1 hsz1 hc1 he1 hr1 hf1 hv1' ?_
      refine ⟨hv2.ord, hv2.sub, hv2.run, fun j hj => ?_, fun j hj he => (Sof_set hil).2 (.inr (hv2.effs j hj he)), fun a b d f g k => hv2.val a b d f g (fun x => k ((Sof_set hil).2 (.inr x))), fun a b d f g k x y => hv2.kept a b d f g k (fun z => x ((Sof_set hil).2 (.inr z))) y⟩
      rw [Sof_set hil] at hj
      rcases hj with rfl | hj
      · exact hm
      · exact hv2.ran j hj
    · have hedge : ∀ e, e ∈ edgesOf ops.toList i → Sof listed e := by
        intro e hem
        have ho' : ops.toList[i]? = some o := by simpa using ho
        simp only [edgesOf, ho', List.mem_map, List.mem_filter] at hem
        obtain ⟨x, ⟨h1, h2⟩, rfl⟩ := hem
        exact hed x (by simpa using h1) h2
      rcases hcond i hin hm with rfl | rfl | hp | hp
      · exact draw_pick hd1 fuel listed c w I β h hist rest1 done i (fun _ e he => .inr (List.mem_singleton.1 he)) (fun listed1 c1 w1 I1 β1 h1 hist1 r1 done1 el _ hF1 => draw_any hd1 hQ fuel listed1 c1 w1 I1 β1 h1 hist1 r1 done1 (hF1 hm)) hu hsz hc he hr hf hv1 hi
      · exact draw_pick hd2 fuel listed c w I β h hist rest2 done i (fun _ e he => .inr (List.mem_singleton.1 he)) (fun listed1 c1 w1 I1 β1 h1 hist1 r1 done1 el _ hF1 => draw_any hd2 hQ fuel listed1 c1 w1 I1 β1 h1 hist1 r1 done1 (hF1 hm)) hu hsz hc he hr hf hv2 hi
      · exact absurd (hv1.ran _ (pre_in hd1 hc i hin hedge A hp)) hnA
      · exact absurd (hv1.ran _ (pre_in hd1 hc i hin hedge B hp)) hnB

def keep0 (keep : Bool) (x : Nat × Fr × AV) (l : List (Nat × Fr × AV)) : List (Nat × Fr × AV) := match keep with | true => x :: l | false => l
/-- One more of a plan is looked at, its value known. -/
theorem absorb_v {ops : List Oper} {plan : Plan} {free : List Nat} (hd : DrawOk ops plan free) {K : Fr → Heap → Prop} {a0 : Fr} {S : Nat → Prop} {hist : List (Nat × AV)} {i : Nat} {keep : Bool} {rs : List Nat} {rest : Plan} {h : Heap} {done done' : List (Nat × Fr × AV)}
    (hv : Inv P n ops plan K a0 S hist ((i, keep, rs) :: rest) h done) {o : Oper} (ho : ops[i]? = some o) (hp : isEff ops i = false) (v : AV) (hrun : adr P n ops rest (pt o.dst (frm ops a0 hist) v) h done' K) (hval : Valid P n ops i (frm ops a0 hist) v h)
    (hdone : (gval ops o.guard (frm ops a0 hist) = some true → done' = keep0 keep (i, frm ops a0 hist, v) done) ∧ (done' = keep0 keep (i, frm ops a0 hist, v) done ∨ done' = done)) :
    Inv P n ops plan K a0 S ((i, v) :: hist) rest h done' := by
  have hslot : gslot ops i = o.dst := by simp [gslot, ho]
  have hplan : (i, keep, rs) ∈ plan := by obtain ⟨p, hp⟩ := hv.sub; rw [← hp]; simp
  have hni : i ∉ hist.map (·.1) := by
    have hnd := hd.nodup
    rw [← hv.ord] at hnd
    have h2 := List.nodup_append.1 hnd
    intro hm
    exact h2.2.2 i (by simpa using hm) i (by simp) rfl
  refine ⟨by simpa using hv.ord, by obtain ⟨p, hp⟩ := hv.sub; exact ⟨p ++ [(i, keep, rs)], by simpa using hp⟩, by simp only [frm, hslot]; exact hrun, fun j hj => List.mem_cons_of_mem _ (hv.ran j hj), fun j hj he => ?_, fun l1 j u l2 hl hj => ?_, fun l1 j u l2 hl hy hj hgv => ?_⟩
  · rcases List.mem_cons.1 hj with e | hj
    · rw [e] at he
      simp only at he
      rw [hp] at he
      cases he
    · exact hv.effs j hj he
  · cases l1 with
    | nil =>
      simp only [List.nil_append, List.cons.injEq, Prod.mk.injEq] at hl
      obtain ⟨⟨rfl, rfl⟩, rfl⟩ := hl
      exact hval
    | cons y l1 =>
      simp only [List.cons_append, List.cons.injEq] at hl
      exact hv.val l1 j u l2 hl.2 hj
  · cases l1 with
    | nil =>
      simp only [List.nil_append, List.cons.injEq, Prod.mk.injEq] at hl
      obtain ⟨⟨rfl, rfl⟩, rfl⟩ := hl
      obtain ⟨y, hy, hy1, hy2⟩ := hy
      have key : ∀ (l : Plan), (l.map (·.1)).Nodup → ∀ y z, y ∈ l → z ∈ l → y.1 = z.1 → y = z := by
        intro l
        induction l with
        | nil => intro _ y z hy; cases hy
        | cons a l ih =>
          intro hn y z hy hz e
          simp only [List.map_cons, List.nodup_cons] at hn
          rcases List.mem_cons.1 hy with e1 | k1 <;> rcases List.mem_cons.1 hz with e2 | k2
          · rw [e1, e2]
          · subst e1; exact absurd (List.mem_map.2 ⟨z, k2, e.symm⟩) hn.1
          · subst e2; exact absurd (List.mem_map.2 ⟨y, k1, e⟩) hn.1
          · exact ih hn.2 y z k1 k2 e
      have := key plan hd.nodup y _ hy hplan hy1
      rw [this] at hy2
      simp only at hy2
      rw [hdone.1 (hgv o ho), hy2]
      simp [keep0]
    | cons y l1 =>
      simp only [List.cons_append, List.cons.injEq] at hl
      have hne : j ≠ i := by
        rintro rfl
        exact hni (by rw [hl.2]; simp)
      have h4 : done'.find? (fun x => x.1 == j) = done.find? (fun x => x.1 == j) := by
        rcases hdone.2 with e | e
        · rw [e]
          cases keep with
          | false => rfl
          | true => simp [keep0, List.find?_cons, show (i == j) = false from beq_eq_false_iff_ne.2 (Ne.symm hne)]
        · rw [e]
      rw [h4]
      exact hv.kept l1 j u l2 hl.2 hy hj hgv

/-- The quiet beginning of a plan; what was kept is handed on. -/
def adrX (P : Program) (n : Nat) (all : List Oper) : Plan → Fr → Heap → List (Nat × Fr × AV) → (Fr → List (Nat × Fr × AV) → Prop) → Prop
  | [], a, h, done, K => K a done
  | (i, keep, _) :: rest, a, h, done, K => (match all[i]? with
    | none => False
    | some o => guardK all o.guard a fun run => match run with
      | true => ∃ v, aop P o.op a h (fun v' h' => v' = v ∧ h' = h) ∧ putK n o.dst a v fun a' => adrX P n all rest a' h (keep0 keep (i, a, v) done) K
      | false => putK n o.dst a .undef fun a' => adrX P n all rest a' h done K)
def plain1 (ops : List Oper) (x : Nat × Bool × List Nat) : Bool := !isEff ops x.1
theorem adr_app {ops : List Oper} {K : Fr → Heap → Prop} {tail : Plan} {h : Heap} : ∀ (p : Plan) (a : Fr) (done : List (Nat × Fr × AV)), p.all (plain1 ops) = true → adrX P n ops p a h done (fun a' done' => adr P n ops tail a' h done' K) → adr P n ops (p ++ tail) a h done K
  | [], a, done, _, hk => hk
  | (i, keep, rs) :: p, a, done, hp, hk => by
    simp only [List.all_cons, Bool.and_eq_true] at hp
    obtain ⟨hpe, hp2⟩ := hp
    simp only [plain1, Bool.not_eq_true'] at hpe
    simp only [List.cons_append]
    unfold adrX at hk
    unfold adr
    cases ho : ops[i]? with
    | none => rw [ho] at hk; exact hk.elim
    | some o =>
      rw [ho] at hk
      have hpo : pureOp o.op = true := by simpa [isEff, ho] using hpe
      refine guardK_imp0 (fun b hb => ?_) hk
      cases b with
      | true =>
        simp only [hpo] at hb ⊢
        obtain ⟨v, h1, h2⟩ := hb
        exact ⟨v, h1, putK_imp0 (fun a' h3 => adr_app p a' _ hp2 h3) h2⟩
      | false => exact putK_imp0 (fun a' h3 => adr_app p a' done hp2 h3) hb
theorem adrX_mono {ops : List Oper} {h : Heap} {K K' : Fr → List (Nat × Fr × AV) → Prop} (hK : ∀ a d, K a d → K' a d) : ∀ (p : Plan) (a : Fr) (done : List (Nat × Fr × AV)), adrX P n ops p a h done K → adrX P n ops p a h done K'
  | [], a, done, hk => hK _ _ hk
  | (i, keep, rs) :: p, a, done, hk => by
    unfold adrX at hk ⊢
    cases ho : ops[i]? with
    | none => rw [ho] at hk; exact hk.elim
    | some o =>
      rw [ho] at hk
      refine guardK_imp0 (fun b hb => ?_) hk
      cases b with
      | true =>
        obtain ⟨v, h1, h2⟩ := hb
        exact ⟨v, h1, putK_imp0 (fun a' h3 => adrX_mono hK p a' _ h3) h2⟩
      | false => exact putK_imp0 (fun a' h3 => adrX_mono hK p a' done h3) hb
theorem pre_absorb {ops : List Oper} {plan1 plan2 tail1 tail2 : Plan} {free1 free2 : List Nat} (hd1 : DrawOk ops plan1 free1) (hd2 : DrawOk ops plan2 free2) {K : Fr → Heap → Prop} {a0 : Fr} {S : Nat → Prop} {h : Heap} : ∀ (p : Plan) (hist : List (Nat × AV)) (done : List (Nat × Fr × AV)), p.all (plain1 ops) = true →
    adrX P n ops p (frm ops a0 hist) h done (fun a' d => adr P n ops tail1 a' h d K ∧ adr P n ops tail2 a' h d K) → Inv P n ops plan1 K a0 S hist (p ++ tail1) h done → Inv P n ops plan2 K a0 S hist (p ++ tail2) h done →
    ∃ l d, Inv P n ops plan1 K a0 S (l ++ hist) tail1 h d ∧ Inv P n ops plan2 K a0 S (l ++ hist) tail2 h d ∧ l.map (·.1) = (p.map (·.1)).reverse
  | [], hist, done, _, _, hv1, hv2 => ⟨[], done, hv1, hv2, rfl⟩
  | (i, keep, rs) :: p, hist, done, hp, hk, hv1, hv2 => by
    simp only [List.all_cons, Bool.and_eq_true] at hp
    obtain ⟨hpe, hp2⟩ := hp
    simp only [plain1, Bool.not_eq_true'] at hpe
    simp only [List.cons_append] at hv1 hv2
    unfold adrX at hk
    cases ho : ops[i]? with
    | none => rw [ho] at hk; exact hk.elim
    | some o =>
      rw [ho] at hk
      have hpo : pureOp o.op = true := by simpa [isEff, ho] using hpe
      have hslot : gslot ops i = o.dst := by simp [gslot, ho]
      obtain ⟨r, hg, hk⟩ := guardK_sound hk
      have go : ∀ v done', inb n o.dst → adrX P n ops p (pt o.dst (frm ops a0 hist) v) h done' (fun a' d => adr P n ops tail1 a' h d K ∧ adr P n ops tail2 a' h d K) → Valid P n ops i (frm ops a0 hist) v h →
          ((gval ops o.guard (frm ops a0 hist) = some true → done' = keep0 keep (i, frm ops a0 hist, v) done) ∧ (done' = keep0 keep (i, frm ops a0 hist, v) done ∨ done' = done)) →
          ∃ l d, Inv P n ops plan1 K a0 S (l ++ hist) tail1 h d ∧ Inv P n ops plan2 K a0 S (l ++ hist) tail2 h d ∧ l.map (·.1) = (((i, keep, rs) :: p).map (·.1)).reverse := by
        intro v done' hinb hrun hval hdn
        have w1 := absorb_v hd1 hv1 ho hpe v (adr_app p _ _ hp2 (adrX_mono (fun a' d x => x.1) p _ _ hrun)) hval hdn
        have w2 := absorb_v hd2 hv2 ho hpe v (adr_app p _ _ hp2 (adrX_mono (fun a' d x => x.2) p _ _ hrun)) hval hdn
        obtain ⟨l, d, q1, q2, q3⟩ := pre_absorb hd1 hd2 p ((i, v) :: hist) done' hp2 (by simp only [frm, hslot]; exact hrun) w1 w2
        exact ⟨l ++ [(i, v)], d, by simpa using q1, by simpa using q2, by simp [q3]⟩
      cases r with
      | true =>
        obtain ⟨v, h1, h2⟩ := hk
        have h3 := putK_sound h2
        exact go v _ h3.1 h3.2 ⟨o, ho, h3.1, .inl ⟨hg, hpo, h1⟩⟩ ⟨fun _ => rfl, .inl rfl⟩
      | false =>
        have h3 := putK_sound hk
        exact go .undef _ h3.1 h3.2 ⟨o, ho, h3.1, .inr ⟨hg, rfl, hpo⟩⟩ ⟨fun e => (by rw [hg] at e; cases e), .inr rfl⟩

def twoChk (ops : List Oper) (pre tail1 tail2 : Plan) : Bool :=
  match tail1, tail2 with
  | (A, _, _) :: _, (B, _, _) :: _ => drawChkF ops (pre ++ tail1) [A] && drawChkF ops (pre ++ tail2) [B] && pre.all (plain1 ops) && decide (A < ops.length) && decide (A ∉ pre.map (·.1)) && decide (B ∉ pre.map (·.1)) &&
      (List.range ops.length).all fun i => (pre.map (·.1)).contains i || decide (i = A) || decide (i = B) || ((presOf ops).getD i []).contains A || ((presOf ops).getD i []).contains B
  | _, _ => false
theorem draw2_sound {ops : Array Oper} {pre tail1 tail2 : Plan} {id : Nat} (hm : P.follows .mixedOrders = true) (hd : twoChk ops.toList pre tail1 tail2 = true) {K : Fr → Heap → Prop} {a : Fr} {h : Heap} {Q : Exit → Act → World → Prop} {I : Nat → Prop} {β : Nat → Nat} {w : World} {c : Act}
    (r : Rel I β h w) (f : FRel I β h.length w n a c) (hk : adrX P n ops.toList pre a h [] fun a' d => adr P n ops.toList tail1 a' h d K ∧ adr P n ops.toList tail2 a' h d K)
    (hQ : ∀ a' h' I' β' c' w', K a' h' → Ext I β h w I' β' h' w' → Rel I' β' h' w' → FRel I' β' h'.length w' n a' c' → Q .normal c' w') : (Code.region id ops true).wp P Q c w := by
  refine wp_region_any hm ?_
  unfold twoChk at hd
  split at hd
  · rename_i A _ _ t1 B _ _ t2
    simp only [Bool.and_eq_true, decide_eq_true_eq, List.all_eq_true, List.mem_range, Bool.or_eq_true, List.contains_iff_mem] at hd
    obtain ⟨⟨⟨⟨⟨⟨hd1, hd2⟩, hp⟩, hA⟩, hnA⟩, hnB⟩, hcond⟩ := hd
    have hp' : pre.all (plain1 ops.toList) = true := by rw [List.all_eq_true]; exact hp
    have hd1' := drawOk hd1
    have hd2' := drawOk hd2
    have hnone : ∀ i, ¬ Sof (Array.replicate ops.size false) i := by
      intro i hi
      unfold Sof at hi
      simp only [Array.getD_eq_getD_getElem?, Array.getElem?_replicate] at hi
      split at hi <;> simp at hi
    have start : ∀ (pl : Plan), adr P n ops.toList pl a h [] K → Inv P n ops.toList pl K a (Sof (Array.replicate ops.size false)) [] pl h [] := fun pl hr =>
      ⟨by simp, ⟨[], rfl⟩, hr, fun i hi => absurd hi (hnone i), (fun i hi => by cases hi), (fun l1 i v l2 hl => by cases l1 <;> cases hl), (fun l1 i v l2 hl => by cases l1 <;> cases hl)⟩
    obtain ⟨l, d, q1, q2, q3⟩ := pre_absorb (S := Sof (Array.replicate ops.size false)) hd1' hd2' (a0 := a) pre [] [] hp' hk (start _ (adr_app pre a [] hp' (adrX_mono (fun a' d x => x.1) pre a [] hk))) (start _ (adr_app pre a [] hp' (adrX_mono (fun a' d x => x.2) pre a [] hk)))
    simp only [List.append_nil] at q1 q2
    have hmem : ∀ i, i ∈ l.map (·.1) ↔ i ∈ pre.map (·.1) := fun i => by rw [q3]; simp
    have hfl : filt (Array.replicate ops.size false) l = [] := by
      unfold filt
      rw [List.filter_eq_nil_iff]
      intro y hy hsy
      exact hnone y.1 hsy
    refine draw_two (n := n) hd1' hd2' (a0 := a) hQ hA ops.size (Array.replicate ops.size false) c { w with drawn := w.drawn + 1 } I β h l _ _ d (fun i hi hni => ?_) (fun x => hnA ((hmem A).1 x)) (fun x => hnB ((hmem B).1 x)) ?_ (by simp) (fun i hi => absurd hi (hnone i)) (Ext.heapEq rfl rfl rfl rfl) (r.heapEq rfl) ?_ q1 q2
    · rcases hcond i hi with (((x | x) | x) | x) | x
      · exact absurd ((hmem i).2 x) hni
      · exact .inl x
      · exact .inr (.inl x)
      · exact .inr (.inr (.inl x))
      · exact .inr (.inr (.inr x))
    · unfold unl
      refine Nat.le_trans List.countP_le_length (by simp)
    · rw [hfl]; exact f.heapEq rfl
  · cases hd

/-- A plan, or two with one beginning: the mark tells how long the parts are. -/
def twoOf : Plan → Option (Plan × Plan × Plan)
  | (i, _, [p, q]) :: rest => if i = 1000000 then some (rest.take p, (rest.drop p).take q, rest.drop (p + q)) else none
  | _ => none
def adrD (P : Program) (n : Nat) (ops : List Oper) (plan : Plan) (a : Fr) (h : Heap) (K : Fr → Heap → Prop) : Prop :=
  match twoOf plan with
  | none => adr P n ops plan a h [] K
  | some (p, t1, t2) => adrX P n ops p a h [] fun a' d => adr P n ops t1 a' h d K ∧ adr P n ops t2 a' h d K
def drawChkD (ops : List Oper) (plan : Plan) : Bool :=
  match twoOf plan with
  | none => drawChk ops plan
  | some (p, t1, t2) => twoChk ops p t1 t2
theorem drawD_sound {ops : Array Oper} {plan : Plan} {id : Nat} (hm : P.follows .mixedOrders = true) (hd : drawChkD ops.toList plan = true) {K : Fr → Heap → Prop} {a : Fr} {h : Heap} {Q : Exit → Act → World → Prop} {I : Nat → Prop} {β : Nat → Nat} {w : World} {c : Act}
    (r : Rel I β h w) (f : FRel I β h.length w n a c) (hk : adrD P n ops.toList plan a h K)
    (hQ : ∀ a' h' I' β' c' w', K a' h' → Ext I β h w I' β' h' w' → Rel I' β' h' w' → FRel I' β' h'.length w' n a' c' → Q .normal c' w') : (Code.region id ops true).wp P Q c w := by
  unfold adrD at hk
  unfold drawChkD at hd
  cases ht : twoOf plan with
  | none => rw [ht] at hk hd; exact draw_sound hm hd r f hk hQ
  | some x => obtain ⟨p, t1, t2⟩ := x; rw [ht] at hk hd; exact draw2_sound hm hd r f hk hQ
end
end Go.AL
end

section
/- The small logic's heaps, objects renamed, the forgotten left out. No condition. -/
namespace Go.AL
set_option linter.unusedVariables false
set_option linter.unusedSimpArgs false
mutual
/-- A value with its objects renamed; of one that is left out nothing is known. -/
def AV.ren (ρ : Nat → Option Nat) : AV → AV
  | .op id k e off => match ρ id with | some j => .op j k e off | none => .any
  | .osl id k i len cap ex => match ρ id with | some j => .osl j k i len cap ex | none => .any
  | .om id => match ρ id with | some j => .om j | none => .any
  | .fn f fs cs => .fn f (rens ρ fs) (rens ρ cs)
  | .ifc t v => .ifc t (v.ren ρ)
  | .agg cs => .agg (rens ρ cs)
  | .tup cs => .tup (rens ρ cs)
  | .int k n => .int k n
  | .bool b => .bool b
  | .str s => .str s
  | .flt k n => .flt k n
  | .nilp => .nilp
  | .nils => .nils
  | .nilf => .nilf
  | .nili => .nili
  | .nilm => .nilm
  | .ip c o => .ip c o
  | .isl k es => .isl k es
  | .any => .any
def rens (ρ : Nat → Option Nat) : List AV → List AV
  | [] => []
  | v :: r => v.ren ρ :: rens ρ r
end
theorem rens_length (ρ : Nat → Option Nat) : ∀ l, (rens ρ l).length = l.length
  | [] => rfl
  | v :: r => by simp [rens, rens_length ρ r]
theorem rens_get {ρ : Nat → Option Nat} : ∀ {l : List AV} {j : Nat} {u : AV}, (rens ρ l)[j]? = some u → ∃ u0, l[j]? = some u0 ∧ u = u0.ren ρ
  | [], j, u, h => by simp [rens] at h
  | v :: r, 0, u, h => by simp [rens] at h; exact ⟨v, rfl, h.symm⟩
  | v :: r, j + 1, u, h => by simp [rens] at h; obtain ⟨u0, h1, h2⟩ := rens_get h; exact ⟨u0, by simpa using h1, h2⟩
def Ob.ren (ρ : Nat → Option Nat) : Ob → Ob
  | .dead => .dead
  | .arr k es ex => .arr k (es.map (rens ρ)) ex
  | .map es c => .map (es.map fun x => (x.1.ren ρ, x.2.1.ren ρ, x.2.2)) c

section
variable {I : Nat → Prop} {β β' : Nat → Nat} {N N' : Nat} {w : World} {ρ : Nat → Option Nat}
theorem IRel.ren {u : AV} {v : Value} (h : IRel I w u v) : IRel I w (u.ren ρ) v := by
  induction h with
  | int k n => exact .int k n
  | bool b => exact .bool b
  | str s => exact .str s
  | flt k n => exact .flt k n
  | nilp => exact .nilp
  | nils => exact .nils
  | nilf => exact .nilf
  | nili => exact .nili
  | nilm => exact .nilm
  | ip cells off b o vs hb hl hc h1 hr ih => exact .ip cells off b o vs hb hl hc h1 hr
  | isl0 k A c => exact .isl0 k A c
  | isl k es b o c f hne hl hb hk hc ho hr ih => exact .isl k es b o c f hne hl hb hk hc ho hr
  | fn f fs cs fs' cs' h1 h2 _ _ ih1 ih2 =>
    refine .fn f _ _ fs' cs' (by rw [rens_length]; exact h1) (by rw [rens_length]; exact h2) (fun j u v hu hv => ?_) (fun j u v hu hv => ?_)
    · obtain ⟨u0, h3, rfl⟩ := rens_get hu; exact ih1 j u0 v h3 hv
    · obtain ⟨u0, h3, rfl⟩ := rens_get hu; exact ih2 j u0 v h3 hv
  | ifc t u v _ ih => exact .ifc t _ v ih
  | agg cs cs' h1 h2 _ ih =>
    refine .agg _ cs' (by rw [rens_length]; exact h1) h2 (fun j u v hu hv => ?_)
    obtain ⟨u0, h3, rfl⟩ := rens_get hu; exact ih j u0 v h3 hv
  | tup cs cs' h1 _ ih =>
    refine .tup _ cs' (by rw [rens_length]; exact h1) (fun j u v hu hv => ?_)
    obtain ⟨u0, h3, rfl⟩ := rens_get hu; exact ih j u0 v h3 hv
theorem VRel.ren {u : AV} {v : Value} (h : VRel I β N w u v) (hρ : ∀ id j, id < N → ρ id = some j → j < N' ∧ β' j = β id) : VRel I β' N' w (u.ren ρ) v := by
  induction h with
  | imm u v h => exact .imm _ _ h.ren
  | any v => exact .any v
  | op id k e off h =>
    simp only [AV.ren]
    cases hr : ρ id with
    | none => exact .any _
    | some j => obtain ⟨h1, h2⟩ := hρ id j h hr; rw [← h2]; exact .op j k e off h1
  | osl id k i len cap ex c n h h0 h1 h2 h3 h4 =>
    simp only [AV.ren]
    cases hr : ρ id with
    | none => exact .any _
    | some j => obtain ⟨q1, q2⟩ := hρ id j h hr; rw [← q2]; exact .osl j k i len cap ex c n q1 h0 h1 h2 (by rw [q2]; exact h3) h4
  | om id h =>
    simp only [AV.ren]
    cases hr : ρ id with
    | none => exact .any _
    | some j => obtain ⟨h1, h2⟩ := hρ id j h hr; rw [← h2]; exact .om j h1
  | fn f fs cs fs' cs' h1 h2 _ _ ih1 ih2 =>
    refine .fn f _ _ fs' cs' (by rw [rens_length]; exact h1) (by rw [rens_length]; exact h2) (fun j u v hu hv => ?_) (fun j u v hu hv => ?_)
    · obtain ⟨u0, h3, rfl⟩ := rens_get hu; exact ih1 j u0 v h3 hv
    · obtain ⟨u0, h3, rfl⟩ := rens_get hu; exact ih2 j u0 v h3 hv
  | ifc t u v _ ih => exact .ifc t _ v ih
  | agg cs cs' h1 h2 _ ih =>
    refine .agg _ cs' (by rw [rens_length]; exact h1) h2 (fun j u v hu hv => ?_)
    obtain ⟨u0, h3, rfl⟩ := rens_get hu; exact ih j u0 v h3 hv
  | tup cs cs' h1 _ ih =>
    refine .tup _ cs' (by rw [rens_length]; exact h1) (fun j u v hu hv => ?_)
    obtain ⟨u0, h3, rfl⟩ := rens_get hu; exact ih j u0 v h3 hv
theorem ORel.ren {o : Ob} {x : Option Obj} (h : ORel I β N w o x) (hρ : ∀ id j, id < N → ρ id = some j → j < N' ∧ β' j = β id) : ORel I β' N' w (o.ren ρ) x := by
  cases o with
  | dead => trivial
  | arr k es ex =>
    obtain ⟨cur, t, h1, h2, h3, h4, h5⟩ := h
    refine ⟨cur, t, h1, fun i e he => ?_, by simpa using h3, by simpa using h4, fun i e j u he hu => ?_⟩
    · rw [List.getElem?_map] at he
      cases hes : es[i]? with
      | none => rw [hes] at he; simp at he
      | some e0 => rw [hes] at he; simp at he; subst he; rw [rens_length]; exact h2 i e0 hes
    · rw [List.getElem?_map] at he
      cases hes : es[i]? with
      | none => rw [hes] at he; simp at he
      | some e0 =>
        rw [hes] at he; simp at he; subst he
        obtain ⟨u0, hu0, rfl⟩ := rens_get hu
        obtain ⟨v, h6, h7, h8⟩ := h5 i e0 j u0 hes hu0
        exact ⟨v, h6, h7.ren hρ, h8⟩
  | map es c =>
    obtain ⟨es', h1, h2, h3⟩ := h
    refine ⟨es', h1, by simpa using h2, fun j x y hx hy => ?_⟩
    rw [List.getElem?_map] at hx
    cases hes : es[j]? with
    | none => rw [hes] at hx; simp at hx
    | some x0 =>
      rw [hes] at hx; simp at hx; subst hx
      obtain ⟨q1, q2, q3⟩ := h3 j x0 y hes hy
      exact ⟨q1.ren hρ, q2.ren hρ, q3⟩
theorem Ob.ren_dead {o : Ob} (h : o.ren ρ ≠ .dead) : o ≠ .dead := by rintro rfl; exact h rfl
end

/-! ### leaving out -/
def posOf : List Nat → Nat → Option Nat
  | [], _ => none
  | x :: r, id => if x = id then some 0 else (posOf r id).map (· + 1)
theorem posOf_get : ∀ {ids : List Nat} {id j : Nat}, posOf ids id = some j → ids[j]? = some id
  | [], id, j, h => by simp [posOf] at h
  | x :: r, id, j, h => by
    unfold posOf at h
    split at h
    · rename_i e; simp at h; subst h; simp [e]
    · cases hp : posOf r id with
      | none => rw [hp] at h; simp at h
      | some j' => rw [hp] at h; simp at h; subst h; simpa using posOf_get hp
def gcH (ids : List Nat) (h : Heap) : Heap := ids.map fun id => (match h[id]? with | some o => o.ren (posOf ids) | none => .dead)
def gcF (ids : List Nat) (a : Fr) : Fr := fun t => (a t).ren (posOf ids)
def gcB (ids : List Nat) (β : Nat → Nat) : Nat → Nat := fun i => β (ids.getD i 0)
theorem gc_hρ {ids : List Nat} {β : Nat → Nat} {N : Nat} (id j : Nat) (hid : id < N) (h : posOf ids id = some j) : j < ids.length ∧ gcB ids β j = β id := by
  have h1 := posOf_get h
  exact ⟨(List.getElem?_eq_some_iff.1 h1).1, by simp [gcB, List.getD_eq_getElem?_getD, h1]⟩
theorem nodup_get : ∀ {l : List Nat} {i j x : Nat}, l.Nodup → l[i]? = some x → l[j]? = some x → i = j
  | [], i, j, x, _, h, _ => by simp at h
  | y :: r, 0, 0, x, _, _, _ => rfl
  | y :: r, 0, j + 1, x, hn, h, h' => by
    simp at h h'; subst h
    exact absurd (List.mem_of_getElem? h') (List.nodup_cons.1 hn).1
  | y :: r, i + 1, 0, x, hn, h, h' => by
    simp at h h'; subst h'
    exact absurd (List.mem_of_getElem? h) (List.nodup_cons.1 hn).1
  | y :: r, i + 1, j + 1, x, hn, h, h' => by
    simp at h h'
    rw [nodup_get (List.nodup_cons.1 hn).2 h h']
theorem gcH_length {ids : List Nat} {h : Heap} : (gcH ids h).length = ids.length := by simp [gcH]
theorem gcH_get {ids : List Nat} {h : Heap} {i : Nat} {o : Ob} (ho : (gcH ids h)[i]? = some o) (hd : o ≠ .dead) : ∃ id o0, ids[i]? = some id ∧ h[id]? = some o0 ∧ o = o0.ren (posOf ids) ∧ o0 ≠ .dead := by
  unfold gcH at ho
  rw [List.getElem?_map] at ho
  cases hi : ids[i]? with
  | none => rw [hi] at ho; simp at ho
  | some id =>
    rw [hi] at ho
    simp only [Option.map_some, Option.some.injEq] at ho
    cases hh : h[id]? with
    | none => rw [hh] at ho; exact absurd ho.symm hd
    | some o0 =>
      rw [hh] at ho
      have ho' : o0.ren (posOf ids) = o := ho
      exact ⟨id, o0, rfl, hh, ho'.symm, Ob.ren_dead (ρ := posOf ids) (by rw [ho']; exact hd)⟩
theorem gcB_get {ids : List Nat} {β : Nat → Nat} {i id : Nat} (h : ids[i]? = some id) : gcB ids β i = β id := by simp [gcB, List.getD_eq_getElem?_getD, h]
section
variable {I : Nat → Prop} {β : Nat → Nat} {h : Heap} {w : World} {ids : List Nat}
theorem Rel.gc (r : Rel I β h w) (hn : ids.Nodup) : Rel I (gcB ids β) (gcH ids h) w := by
  refine ⟨r.imm, fun i o ho hd => ?_, fun i i' o o' ho hd ho' hd' hb => ?_⟩
  · obtain ⟨id, o0, h1, h2, rfl, h3⟩ := gcH_get ho hd
    obtain ⟨q1, q2, q3⟩ := r.obj id o0 h2 h3
    rw [gcB_get h1]
    refine ⟨q1, q2, ?_⟩
    rw [gcH_length]
    exact q3.ren fun id j hid hj => gc_hρ id j hid hj
  · obtain ⟨id, o0, h1, h2, rfl, h3⟩ := gcH_get ho hd
    obtain ⟨id', o0', h1', h2', rfl, h3'⟩ := gcH_get ho' hd'
    rw [gcB_get h1, gcB_get h1'] at hb
    have := r.inj id id' o0 o0' h2 h3 h2' h3' hb
    subst this
    exact nodup_get hn h1 h1'
theorem VRel.gc {u : AV} {v : Value} (f : VRel I β h.length w u v) : VRel I (gcB ids β) (gcH ids h).length w (u.ren (posOf ids)) v := by
  rw [gcH_length]
  exact f.ren fun id j hid hj => gc_hρ id j hid hj
theorem FRel.gc {n : Nat} {a : Fr} {c : Act} (f : FRel I β h.length w n a c) : FRel I (gcB ids β) (gcH ids h).length w n (gcF ids a) c := ⟨fun t => (f.val t).gc, f.size, f.defers⟩
theorem Ext.gc {I0 : Nat → Prop} {β0 : Nat → Nat} {h0 : Heap} {w0 : World} (x : Ext I0 β0 h0 w0 I β h w) (hb : ids.take h0.length = List.range h0.length) : Ext I0 β0 h0 w0 I (gcB ids β) (gcH ids h) w := by
  have hl : h0.length ≤ ids.length := by
    have := congrArg List.length hb
    simp at this
    omega
  have hg : ∀ id, id < h0.length → ids[id]? = some id := fun id hid => by
    have : (ids.take h0.length)[id]? = some id := by rw [hb]; simp [hid]
    rwa [List.getElem?_take_of_lt hid] at this
  refine ⟨x.os, x.tape, x.output, x.size, by rw [gcH_length]; exact hl, fun id hid => by rw [gcB_get (hg id hid)]; exact x.beta id hid, x.sub, x.immnew, fun b hb' => ?_, x.keep, x.bs⟩
  obtain ⟨i, o, ho, hd, rfl⟩ := hb'
  obtain ⟨id, o0, h1, h2, rfl, h3⟩ := gcH_get ho hd
  rw [gcB_get h1]
  exact x.own _ ⟨id, o0, h2, h3, rfl⟩
end
/-- Objects left out: those of 'ids' stay, in this order; the first N are the first N. -/
def GcK (N : Nat) (a : Fr) (h : Heap) (K : Fr → Heap → Prop) : Prop := ∃ ids : List Nat, (ids.Nodup ∧ ids.take N = List.range N) ∧ K (gcF ids a) (gcH ids h)
end Go.AL
end

section
/- Bodies in the small logic: sequences, branches, loops; what a function's body owes; functions of values alone. No condition. -/
namespace Go.AL
set_option linter.unusedVariables false
set_option linter.unusedSimpArgs false
set_option linter.unnecessarySimpa false

def thenK (next : Fr → Heap → Prop) (Q : Exit → Fr → Heap → Prop) : Exit → Fr → Heap → Prop
  | .normal, a, h => next a h
  | e, a, h => Q e a h
def blockK (id : Nat) (Q : Exit → Fr → Heap → Prop) : Exit → Fr → Heap → Prop
  | .exit j, a, h => if j = id then Q .normal a h else Q (.exit j) a h
  | e, a, h => Q e a h

/-- A loop: what holds ahead of each round, and a number that each round lowers. -/
def LoopK (body : (Exit → Fr → Heap → Prop) → Fr → Heap → Prop) (Q : Exit → Fr → Heap → Prop) (a : Fr) (h : Heap) : Prop :=
  ∃ J : Nat → Fr → Heap → Prop, (∃ m, J m a h) ∧ ∀ m a1 h1, J m a1 h1 → body (thenK (fun a2 h2 => (∃ m', m' < m ∧ J m' a2 h2) ∨ GcK h.length a2 h2 fun a3 h3 => ∃ m', m' < m ∧ J m' a3 h3) Q) a1 h1
theorem LoopK.intro {body : (Exit → Fr → Heap → Prop) → Fr → Heap → Prop} {Q : Exit → Fr → Heap → Prop} {a : Fr} {h : Heap} (J : Nat → Fr → Heap → Prop) (m : Nat) (h0 : J m a h)
    (hr : ∀ m a1 h1, J m a1 h1 → body (thenK (fun a2 h2 => (∃ m', m' < m ∧ J m' a2 h2) ∨ GcK h.length a2 h2 fun a3 h3 => ∃ m', m' < m ∧ J m' a3 h3) Q) a1 h1) : LoopK body Q a h := ⟨J, ⟨m, h0⟩, hr⟩
theorem LoopK_congr {body : (Exit → Fr → Heap → Prop) → Fr → Heap → Prop} {Q : Exit → Fr → Heap → Prop} {a : Fr} {h h' : Heap} (e : h = h') : LoopK body Q a h = LoopK body Q a h' := by rw [e]

/-- WHAT A PIECE OF CODE OWES. A loop: what holds ahead of each round, and a number that each round lowers. -/
def asx (P : Program) (n : Nat) (pl : Nat → Plan) : Code → (Exit → Fr → Heap → Prop) → Fr → Heap → Prop
  | .skip, Q, a, h => Q .normal a h
  | .region id ops draw, Q, a, h => (match draw with
    | false => aops P n ops.toList ops.toList a h fun a h => Q .normal a h
    | true => adrD P n ops.toList (pl id) a h fun a h => Q .normal a h)
  | .seq x y, Q, a, h => asx P n pl x (thenK (asx P n pl y Q) Q) a h
  | .cond c x y, Q, a, h => evK a c fun v => match v with | .bool b => (b = true → asx P n pl x Q a h) ∧ (b = false → asx P n pl y Q a h) | _ => False
  | .block id c, Q, a, h => asx P n pl c (blockK id Q) a h
  | .loop c, Q, a, h => LoopK (asx P n pl c) Q a h
  | .exit id, Q, a, h => Q (.exit id) a h
  | .ret, Q, a, h => Q .ret a h
  | .label _, Q, a, h => Q .normal a h
  | _, _, _, _ => False

def codeChk (pl : Nat → Plan) : Code → Bool
  | .region id ops true => drawChkD ops.toList (pl id)
  | .seq x y => codeChk pl x && codeChk pl y
  | .cond _ x y => codeChk pl x && codeChk pl y
  | .block _ c => codeChk pl c
  | .loop c => codeChk pl c
  | _ => true

section
variable {P : Program} {n : Nat} {pl : Nat → Plan}

theorem aop_imp_quiet {op : Op} : True := trivial

theorem asx_sound (hm : P.follows .mixedOrders = true) : ∀ (c : Code), codeChk pl c = true → ∀ (Q : Exit → Fr → Heap → Prop) (a : Fr) (h : Heap), asx P n pl c Q a h → ∀ (I : Nat → Prop) (β : Nat → Nat) (w : World) (ac : Act), Rel I β h w → FRel I β h.length w n a ac →
    ∀ Q' : Exit → Act → World → Prop, (∀ e a' h' I' β' c' w', Q e a' h' → Ext I β h w I' β' h' w' → Rel I' β' h' w' → FRel I' β' h'.length w' n a' c' → Q' e c' w') → c.wp P Q' ac w := by
  intro c
  induction c with
  | skip => intro _ Q a h hk I β w ac r f Q' hQ; exact wp_skip (hQ _ _ _ _ _ _ _ hk (.refl _ _ _ _) r f)
  | region id ops draw =>
    intro hc Q a h hk I β w ac r f Q' hQ
    cases draw with
    | false =>
      refine wp_region ?_
      have := aops_sound (P := P) (n := n) (ops := ops) (Q := Q') ops.toList 0 (fun j => by simp) a h _ I β w ac r f hk (fun a' h' I' β' c' w' hk' => hQ _ a' h' I' β' c' w' hk')
      rwa [Array.length_toList, ← List.range_eq_range'] at this
    | true => exact drawD_sound hm hc r f hk (fun a' h' I' β' c' w' hk' => hQ _ a' h' I' β' c' w' hk')
  | seq x y ihx ihy =>
    intro hc Q a h hk I β w ac r f Q' hQ
    simp only [codeChk, Bool.and_eq_true] at hc
    refine wp_seq (ihx hc.1 _ a h hk I β w ac r f _ (fun e a' h' I' β' c' w' hk' he hr hf => ?_))
    cases e with
    | normal => exact ihy hc.2 Q a' h' hk' I' β' w' c' hr hf _ (fun e2 a2 h2 I2 β2 c2 w2 hk2 he2 => hQ e2 a2 h2 I2 β2 c2 w2 hk2 (he.trans he2))
    | exit j => exact hQ _ _ _ _ _ _ _ hk' he hr hf
    | goto l => exact hQ _ _ _ _ _ _ _ hk' he hr hf
    | ret => exact hQ _ _ _ _ _ _ _ hk' he hr hf
    | panic ch => exact hQ _ _ _ _ _ _ _ hk' he hr hf
    | outgrown => exact hQ _ _ _ _ _ _ _ hk' he hr hf
  | cond x thn els iht ihe =>
    intro hc Q a h hk I β w ac r f Q' hQ
    simp only [codeChk, Bool.and_eq_true] at hc
    obtain ⟨u, hu, hk⟩ := evK_sound f hk
    cases u with
    | bool b =>
      refine wp_cond_split hu.bool_inv (fun e => ?_) (fun e => ?_)
      · exact iht hc.1 Q a h (hk.1 e) I β w ac r f Q' hQ
      · exact ihe hc.2 Q a h (hk.2 e) I β w ac r f Q' hQ
    | _ => exact hk.elim
  | block id c ih =>
    intro hc Q a h hk I β w ac r f Q' hQ
    refine wp_block (ih hc _ a h hk I β w ac r f _ (fun e a' h' I' β' c' w' hk' he hr hf => ?_))
    cases e with
    | exit j =>
      simp only [blockK, Exit.inBlock] at hk' ⊢
      split at hk'
      · rename_i hj; rw [if_pos hj]; exact hQ _ _ _ _ _ _ _ hk' he hr hf
      · rename_i hj; rw [if_neg hj]; exact hQ _ _ _ _ _ _ _ hk' he hr hf
    | normal => exact hQ _ _ _ _ _ _ _ hk' he hr hf
    | goto l => exact hQ _ _ _ _ _ _ _ hk' he hr hf
    | ret => exact hQ _ _ _ _ _ _ _ hk' he hr hf
    | panic ch => exact hQ _ _ _ _ _ _ _ hk' he hr hf
    | outgrown => exact hQ _ _ _ _ _ _ _ hk' he hr hf
  | loop c ih =>
    intro hc Q a h hk I β w ac r f Q' hQ
    obtain ⟨J, ⟨m0, hJ0⟩, hround⟩ := hk
    refine wp_loop_ghost (fun m ac' w' => ∃ I' β' a' h', J m a' h' ∧ Ext I β h w I' β' h' w' ∧ Rel I' β' h' w' ∧ FRel I' β' h'.length w' n a' ac') m0 ⟨I, β, a, h, hJ0, .refl _ _ _ _, r, f⟩ ?_
    rintro m ac' w' ⟨I', β', a', h', hJ, he, hr, hf⟩
    refine ih hc _ a' h' (hround m a' h' hJ) I' β' w' ac' hr hf _ (fun e a2 h2 I2 β2 c2 w2 hk2 he2 hr2 hf2 => ?_)
    cases e with
    | normal =>
      rcases hk2 with ⟨m', hlt, hJ'⟩ | ⟨ids, ⟨hnd, hids⟩, m', hlt, hJ'⟩
      · exact ⟨m', hlt, I2, β2, a2, h2, hJ', he.trans he2, hr2, hf2⟩
      · exact ⟨m', hlt, I2, _, _, _, hJ', (he.trans he2).gc hids, hr2.gc hnd, hf2.gc⟩
    | exit j => exact hQ _ _ _ _ _ _ _ hk2 (he.trans he2) hr2 hf2
    | goto l => exact hQ _ _ _ _ _ _ _ hk2 (he.trans he2) hr2 hf2
    | ret => exact hQ _ _ _ _ _ _ _ hk2 (he.trans he2) hr2 hf2
    | panic ch => exact hQ _ _ _ _ _ _ _ hk2 (he.trans he2) hr2 hf2
    | outgrown => exact hQ _ _ _ _ _ _ _ hk2 (he.trans he2) hr2 hf2
  | exit id => intro _ Q a h hk I β w ac r f Q' hQ; exact wp_exit (hQ _ _ _ _ _ _ _ hk (.refl _ _ _ _) r f)
  | ret => intro _ Q a h hk I β w ac r f Q' hQ; exact wp_ret (hQ _ _ _ _ _ _ _ hk (.refl _ _ _ _) r f)
  | label l => intro _ Q a h hk I β w ac r f Q' hQ; exact wp_label (hQ _ _ _ _ _ _ _ hk (.refl _ _ _ _) r f)
  | rangeFunc _ _ _ _ _ _ => intro _ Q a h hk; exact hk.elim
  | scope _ _ => intro _ Q a h hk; exact hk.elim
  | goto _ => intro _ Q a h hk; exact hk.elim
  | refuse _ => intro _ Q a h hk; exact hk.elim

/-! ### results -/
def resK (P : Program) (a : Fr) (h : Heap) : List ResultVar → (List AV → Prop) → Prop
  | [], K => K []
  | .tmp t :: r, K => resK P a h r fun us => K (a t :: us)
  | .cell p t :: r, K => loadK P t h (a p) fun u => resK P a h r fun us => K (u :: us)
def oneK (us : List AV) (K : AV → Prop) : Prop := match us with | [u] => K u | us => K (.tup us)
def bodyQ (P : Program) (rs : List ResultVar) (Q : AV → Heap → Prop) : Exit → Fr → Heap → Prop
  | .normal, a, h => resK P a h rs fun us => oneK us fun u => Q u h
  | .ret, a, h => resK P a h rs fun us => oneK us fun u => Q u h
  | _, _, _ => False
def fr0 (args : List AV) : Fr := fun t => (args[t]?).getD .undef

def resF (tmps : Array Value) : ResultVar → Sem Value
  | .tmp t => Pure.pure (tmps.getD t undef)
  | .cell a t => do loadVar t (← asAddr (tmps.getD a undef))
theorem results_eq (fn : Func) (tmps : Array Value) : results fn tmps = (do
    let vs ← fn.results.mapM (resF tmps)
    Pure.pure (if h : vs.size = 1 then vs[0] else .tuple vs)) := by
  unfold results
  congr 2

theorem resK_sound {I : Nat → Prop} {β : Nat → Nat} {h : Heap} {w : World} {a : Fr} {c : Act} (r : Rel I β h w) (f : FRel I β h.length w n a c) : ∀ (rs : List ResultVar) (K : List AV → Prop), resK P a h rs K →
    ∃ vs us, (rs.mapM (m := Sem) (resF c.tmps)).run P w = .ok vs w ∧ VRels I β h.length w us vs ∧ K us
  | [], K, hk => ⟨[], [], rfl, .nil, hk⟩
  | .tmp t :: rs, K, hk => by
    obtain ⟨vs, us, h1, h2, h3⟩ := resK_sound r f rs _ hk
    refine ⟨c.tmps.getD t undef :: vs, a t :: us, ?_, .cons (f.val t) h2, h3⟩
    simp only [List.mapM_cons, resF, Sem.run_bind, Sem.run_pure, Result.andThen_ok, h1]
  | .cell p t :: rs, K, hk => by
    obtain ⟨cv, u, e1, hk, e3⟩ := load_ok (P := P) r (f.val p) hk
    obtain ⟨vs, us, h1, h2, h3⟩ := resK_sound r f rs _ hk
    refine ⟨cv :: vs, u :: us, ?_, .cons e3 h2, h3⟩
    have e4 : (do loadVar t (← asAddr (c.tmps.getD p undef)) : Sem Value).run P w = .ok cv w := by
      generalize c.tmps.getD p undef = v at e1
      unfold Instr.loadAt at e1
      cases v with
      | pointer q =>
        cases q with
        | none => simp [Instr.sureAddr] at e1
        | some q => simpa [Instr.sureAddr, asAddr] using e1
      | _ => simp [Instr.sureAddr] at e1
    simp only [List.mapM_cons, resF, Sem.run_bind, Sem.run_pure, Result.andThen_ok]
    simp only [Sem.run_bind] at e4
    rw [e4]
    simp only [Result.andThen_ok, h1]

/-- WHAT A FUNCTION OWES, OUT OF ITS BODY. -/
theorem acalls_of_body (hm : P.follows .mixedOrders = true) {f : FuncId} {fn : Func} {c : Code} {args : List AV} {h : Heap} {Q : AV → Heap → Prop} (hf : P.funcs[f]? = some fn) (hb : fn.body = some c) (hg : good P f = true) (hn : args.length ≤ fn.ntmps) (pl : Nat → Plan) (hc : codeChk pl c = true)
    (hk : asx P fn.ntmps pl c (bodyQ P fn.results.toList Q) (fr0 args) h) : ACalls P f args h Q := by
  refine ⟨hg, fun I β w vs r hv => calls_of_wp hf hb ?_⟩
  have hl : vs.length = args.length := hv.1.symm
  refine asx_sound (n := fn.ntmps) hm c hc _ _ _ hk I β w _ r ⟨fun t => ?_, by simp; omega, rfl⟩ _ (fun e a' h' I' β' c' w' hk' he hr hf => ?_)
  · simp only [fr0, Array.getD_eq_getD_getElem?]
    by_cases ht : t < args.length
    · rw [List.getElem?_eq_getElem ht, Array.getElem?_append_left (by simp; omega)]
      have ht' : t < vs.length := by omega
      simp only [List.getElem?_toArray, List.getElem?_eq_getElem ht', Option.getD_some]
      exact hv.2 t _ _ (List.getElem?_eq_getElem ht) (List.getElem?_eq_getElem ht')
    · rw [List.getElem?_eq_none (by omega), Array.getElem?_append_right (by simp; omega)]
      simp only [Option.getD_none, Array.getElem?_replicate]
      split
      · exact .imm _ _ (.undef _ _)
      · exact .imm _ _ (.undef _ _)
  · have key : resK P a' h' fn.results.toList (fun us => oneK us fun u => Q u h') → bodyPost P fn (fun e w'' => ∃ cv u I'' β'' h'', e = .returned cv ∧ Q u h'' ∧ Ext I β h w I'' β'' h'' w'' ∧ Rel I'' β'' h'' w'' ∧ VRel I'' β'' h''.length w'' u cv) .ret c' w' := by
      intro hk'
      obtain ⟨vs', us, h1, h2, h3⟩ := resK_sound hr hf _ _ hk'
      have hmm : (fn.results.mapM (m := Sem) (resF c'.tmps)).run P w' = .ok vs'.toArray w' := by
        have : fn.results = fn.results.toList.toArray := by simp
        rw [this, List.mapM_toArray, Sem.run_map, h1]
        rfl
      refine ⟨hf.defers, (if h : vs'.toArray.size = 1 then vs'.toArray[0] else .tuple vs'.toArray), ?_, ?_⟩
      · rw [results_eq]
        simp only [Sem.run_bind]
        rw [hmm]
        rfl
      · cases us with
        | nil =>
          have := h2.none
          subst this
          exact ⟨_, _, I', β', h', rfl, h3, he, hr, .tup [] #[] rfl (fun j u v h => by simp at h)⟩
        | cons u us =>
          obtain ⟨v, vs2, rfl, h4, h5⟩ := h2.head
          cases us with
          | nil =>
            have := h5.none
            subst this
            exact ⟨_, _, I', β', h', rfl, h3, he, hr, by simpa using h4⟩
          | cons u2 us =>
            obtain ⟨v2, vs3, rfl, h6, h7⟩ := h5.head
            refine ⟨_, _, I', β', h', rfl, h3, he, hr, ?_⟩
            have h8 := VRels.cons h4 (VRels.cons h6 h7)
            simp only [List.size_toArray, List.length_cons]
            rw [dif_neg (by omega)]
            exact .tup _ _ (by simp [h7.1]) (fun j u v hu hv => h8.2 j u v hu (by simpa using hv))
    cases e with
    | normal => exact key hk'
    | ret => exact key hk'
    | _ => exact hk'.elim

end
end Go.AL
end

section
/- Functions of values alone: what they owe without a heap; what is handed back is frozen; calls of such functions, with what one owns lent to them. No condition. -/
namespace Go.AL
set_option linter.unusedVariables false
set_option linter.unusedSimpArgs false
set_option linter.unnecessarySimpa false

mutual
/-- Nothing of the heap in it. -/
def AV.pure : AV → Bool
  | .op .. => false
  | .osl .. => false
  | .om _ => false
  | .fn _ fs cs => pures fs && pures cs
  | .ifc _ v => v.pure
  | .agg cs => pures cs
  | .tup cs => pures cs
  | .int .. => true
  | .bool _ => true
  | .str _ => true
  | .flt .. => true
  | .nilp => true
  | .nils => true
  | .nilf => true
  | .nili => true
  | .nilm => true
  | .ip .. => true
  | .isl .. => true
  | .any => false
def pures : List AV → Bool
  | [] => true
  | v :: r => v.pure && pures r
end

theorem pures_get {l : List AV} (h : pures l = true) {j : Nat} {u : AV} (hj : l[j]? = some u) : u.pure = true := by
  induction l generalizing j with
  | nil => simp at hj
  | cons v r ih =>
    simp only [pures, Bool.and_eq_true] at h
    cases j with
    | zero => simp at hj; subst hj; exact h.1
    | succ j => simp at hj; exact ih h.2 hj
theorem pures_of {l : List AV} (h : ∀ u, u ∈ l → u.pure = true) : pures l = true := by
  induction l with
  | nil => rfl
  | cons v r ih => simp only [pures, Bool.and_eq_true]; exact ⟨h v (by simp), ih fun u hu => h u (by simp [hu])⟩

theorem VRel.toI {I : Nat → Prop} {β : Nat → Nat} {N : Nat} {w : World} {u : AV} {v : Value} (h : VRel I β N w u v) (hp : u.pure = true) : IRel I w u v := by
  induction h with
  | imm u v h => exact h
  | any _ => simp [AV.pure] at hp
  | op _ _ _ _ _ => simp [AV.pure] at hp
  | osl _ _ _ _ _ _ _ _ _ => simp [AV.pure] at hp
  | om _ _ => simp [AV.pure] at hp
  | fn f fs cs fs' cs' h1 h2 _ _ ih1 ih2 =>
    simp only [AV.pure, Bool.and_eq_true] at hp
    exact .fn f fs cs fs' cs' h1 h2 (fun j u v hu hv => ih1 j u v hu hv (pures_get hp.1 hu)) (fun j u v hu hv => ih2 j u v hu hv (pures_get hp.2 hu))
  | ifc t u v _ ih => exact .ifc t u v (ih (by simpa [AV.pure] using hp))
  | agg cs cs' h1 h2 _ ih => exact .agg cs cs' h1 h2 (fun j u v hu hv => ih j u v hu hv (pures_get (by simpa [AV.pure] using hp) hu))
  | tup cs cs' h1 _ ih => exact .tup cs cs' h1 (fun j u v hu hv => ih j u v hu hv (pures_get (by simpa [AV.pure] using hp) hu))

/-- What an own value is, once nobody writes what it leads to. -/
inductive Frz (h : Heap) : AV → AV → Prop
  | pure (u : AV) : u.pure = true → Frz h u u
  | nils (k : Nat) : Frz h .nils (.isl k [])
  | osl (id k i len cap : Nat) (ex ex' : Bool) (es es' : List (List AV)) : h[id]? = some (.arr k es ex') → i + len ≤ es.length → es'.length = len →
      (∀ (j : Nat) (e e' : List AV), es[i + j]? = some e → es'[j]? = some e' → e'.length = e.length) →
      (∀ (j : Nat) (e e' : List AV) (q : Nat) (u u' : AV), es[i + j]? = some e → es'[j]? = some e' → e[q]? = some u → e'[q]? = some u' → Frz h u u') → Frz h (.osl id k i len cap ex) (.isl k es')
  | op (id k e off : Nat) (ex' : Bool) (es : List (List AV)) (c c' : List AV) : h[id]? = some (.arr k es ex') → es[e]? = some c → c'.length = c.length →
      (∀ (q : Nat) (u u' : AV), c[q]? = some u → c'[q]? = some u' → Frz h u u') → Frz h (.op id k e off) (.ip c' off)
  | fn (f : Fn) (fs cs fs' cs' : List AV) : fs'.length = fs.length → cs'.length = cs.length → (∀ (q : Nat) (u u' : AV), fs[q]? = some u → fs'[q]? = some u' → Frz h u u') → (∀ (q : Nat) (u u' : AV), cs[q]? = some u → cs'[q]? = some u' → Frz h u u') →
      Frz h (.fn f fs cs) (.fn f fs' cs')
  | ifc (t : TypeId) (u u' : AV) : Frz h u u' → Frz h (.ifc t u) (.ifc t u')
  | agg (cs cs' : List AV) : cs'.length = cs.length → (∀ (q : Nat) (u u' : AV), cs[q]? = some u → cs'[q]? = some u' → Frz h u u') → Frz h (.agg cs) (.agg cs')
  | tup (cs cs' : List AV) : cs'.length = cs.length → (∀ (q : Nat) (u u' : AV), cs[q]? = some u → cs'[q]? = some u' → Frz h u u') → Frz h (.tup cs) (.tup cs')

/-- All that the heap holds, too. -/
def IO (I : Nat → Prop) (β : Nat → Nat) (h : Heap) : Nat → Prop := fun b => I b ∨ Own h β b

theorem getElem?_lt {α : Type} {l l' : List α} (h : l'.length = l.length) {j : Nat} {u : α} (hj : l'[j]? = some u) : ∃ v, l[j]? = some v := by
  have := (List.getElem?_eq_some_iff.1 hj).1
  exact ⟨l[j]'(by omega), List.getElem?_eq_getElem (by omega)⟩

theorem Frz.rel {I : Nat → Prop} {β : Nat → Nat} {h : Heap} {w : World} (r : Rel I β h w) {u u' : AV} (hf : Frz h u u') : ∀ {v : Value}, VRel I β h.length w u v → IRel (IO I β h) w u' v := by
  induction hf with
  | pure u hp => intro v hv; exact (hv.toI hp).mono (fun b hb => .inl hb) (fun _ _ => rfl)
  | nils k => intro v hv; rw [hv.nils_inv]; exact .isl0 k none 0
  | osl id k i len cap ex ex' es es' hid hle hl hlen _ ih =>
    intro v hv
    obtain ⟨c, n, rfl, hidl, h1, h2, h3, h4, h5⟩ := hv.osl_inv
    obtain ⟨q1, q2, cur, t, hb, hk, hs, _, hcell⟩ := r.obj id _ hid (by simp)
    cases es' with
    | nil => simp at hl; subst hl; exact .isl0 _ _ _
    | cons e0 es0 =>
      rw [← hl]
      refine .isl k (e0 :: es0) (β id) (i * k) c (fun j q => (cur[(i + j) * k + q]?).getD undef) (by simp) (by omega) (.inr ⟨id, _, hid, by simp, rfl⟩) (fun j e' he' => ?_) (fun j e' q u' he' hu' => ?_) (fun j e' q u' he' hu' => ?_) (fun j e' q u' he' hu' => ?_)
      all_goals
        have hj := (List.getElem?_eq_some_iff.1 he').1
        have he : es[i + j]? = some (es[i + j]'(by omega)) := List.getElem?_eq_getElem (by omega)
        have hll := hlen j _ e' he he'
      · rw [hll]; exact hk _ _ he
      all_goals
        have hq := (List.getElem?_eq_some_iff.1 hu').1
        have hu : (es[i + j]'(by omega))[q]? = some ((es[i + j]'(by omega))[q]'(by omega)) := List.getElem?_eq_getElem (by omega)
        obtain ⟨v, e1, e2, e3⟩ := hcell _ _ q _ he hu
      · rw [cell_of_block hb, show i * k + (j * k + q) = (i + j) * k + q by rw [Nat.add_mul]; omega, e1]; rfl
      · simp only [e1, Option.getD_some]; exact e3
      · simp only [e1, Option.getD_some]; exact ih j _ e' q _ u' he he' hu hu' e2
  | op id k e off ex' es c c' hid he hl _ ih =>
    intro v hv
    obtain ⟨rfl, hidl⟩ := hv.op_inv
    obtain ⟨vs, hvl, hc, h1, hr⟩ := elem_cells r hid he
    refine .ip c' off (β id) (e * k) vs (.inr ⟨id, _, hid, by simp, rfl⟩) (by omega) hc h1 (fun j u' v hu' hv => ?_)
    obtain ⟨u, hu⟩ := getElem?_lt hl hu'
    exact ih j u u' hu hu' (hr j u v hu hv)
  | fn f fs cs fs' cs' h1 h2 _ _ ih1 ih2 =>
    intro v hv
    obtain ⟨xs, ys, rfl, h3, h4⟩ := hv.fn_inv
    refine .fn f fs' cs' xs ys (by have := h3.1; simp at this; omega) (by have := h4.1; simp at this; omega) (fun j u' v hu' hv => ?_) (fun j u' v hu' hv => ?_)
    · obtain ⟨u, hu⟩ := getElem?_lt h1 hu'
      exact ih1 j u u' hu hu' (h3.2 j u v hu (by simpa using hv))
    · obtain ⟨u, hu⟩ := getElem?_lt h2 hu'
      exact ih2 j u u' hu hu' (h4.2 j u v hu (by simpa using hv))
  | ifc t u u' _ ih =>
    intro v hv
    obtain ⟨v', rfl, hv'⟩ := hv.ifc_inv
    exact .ifc t u' v' (ih hv')
  | agg cs cs' h1 _ ih =>
    intro v hv
    obtain ⟨xs, rfl, h2, h3, h4⟩ := hv.agg_inv
    refine .agg cs' xs (by omega) h3 (fun j u' v hu' hv => ?_)
    obtain ⟨u, hu⟩ := getElem?_lt h1 hu'
    exact ih j u u' hu hu' (h4 j u v hu hv)
  | tup cs cs' h1 _ ih =>
    intro v hv
    obtain ⟨xs, rfl, h2, h4⟩ := hv.tup_inv
    refine .tup cs' xs (by omega) (fun j u' v hu' hv => ?_)
    obtain ⟨u, hu⟩ := getElem?_lt h1 hu'
    exact ih j u u' hu hu' (h4 j u v hu hv)

/-- Pure cells: as they are. -/
theorem Frz.flat {h : Heap} {id k i len cap : Nat} {ex ex' : Bool} {es : List (List AV)} (hid : h[id]? = some (.arr k es ex')) (hle : i + len ≤ es.length) (hp : ∀ e, e ∈ es → pures e = true) : Frz h (.osl id k i len cap ex) (.isl k ((es.drop i).take len)) := by
  have key : ∀ (j : Nat) (e e' : List AV), es[i + j]? = some e → ((es.drop i).take len)[j]? = some e' → e' = e := by
    intro j e e' h1 h2
    rw [List.getElem?_take] at h2
    split at h2
    · rw [List.getElem?_drop, h1] at h2; injection h2 with h2; exact h2.symm
    · cases h2
  refine .osl id k i len cap ex ex' es _ hid hle (by simp; omega) (fun j e e' h1 h2 => by rw [key j e e' h1 h2]) (fun j e e' q u u' h1 h2 h3 h4 => ?_)
  have := key j e e' h1 h2
  subst this
  rw [h3] at h4
  injection h4 with h4
  subst h4
  exact .pure _ (pures_get (hp _ (List.mem_of_getElem? h1)) h3)
theorem Frz.whole {h : Heap} {id k cap : Nat} {ex ex' : Bool} {es : List (List AV)} (hid : h[id]? = some (.arr k es ex')) (hp : ∀ e, e ∈ es → pures e = true) {len : Nat} (hl : len = es.length) : Frz h (.osl id k 0 len cap ex) (.isl k es) := by
  subst hl
  have := Frz.flat (h := h) (id := id) (k := k) (i := 0) (len := es.length) (cap := cap) (ex := ex) (ex' := ex') hid (by simp) hp
  simpa using this
theorem Frz.ptr {h : Heap} {id k e off : Nat} {ex' : Bool} {es : List (List AV)} {c : List AV} (hid : h[id]? = some (.arr k es ex')) (he : es[e]? = some c) (hp : pures c = true) : Frz h (.op id k e off) (.ip c off) :=
  .op id k e off ex' es c c hid he rfl (fun q u u' h1 h2 => by rw [h1] at h2; injection h2 with h2; subst h2; exact .pure _ (pures_get hp h1))

/-! ### functions of values alone -/
def IRels (I : Nat → Prop) (w : World) (us : List AV) (vs : List Value) : Prop :=
  us.length = vs.length ∧ ∀ (j : Nat) (u : AV) (v : Value), us[j]? = some u → vs[j]? = some v → IRel I w u v

structure PExt (I : Nat → Prop) (w : World) (I' : Nat → Prop) (w' : World) : Prop where
  os : w'.os = w.os
  tape : w'.tape = w.tape
  output : w'.output = w.output
  size : w.heap.size ≤ w'.heap.size
  keep : ∀ b, b < w.heap.size → w'.heap[b]? = w.heap[b]?
  sub : ∀ b, I b → I' b
  new : ∀ b, I' b → I b ∨ w.heap.size ≤ b
  lt : ∀ b, I' b → b < w'.heap.size

/-- f at these values hands back r, whatever lies in memory; nothing of what lay there turns. -/
def APure (P : Program) (f : FuncId) (args : List AV) (r : AV) : Prop :=
  good P f = true ∧ ∀ (I : Nat → Prop) (w : World) (vs : List Value), (∀ b, I b → b < w.heap.size) → IRels I w args vs →
    Calls P f vs.toArray w fun e w' => ∃ cv I', e = .returned cv ∧ PExt I w I' w' ∧ IRel I' w' r cv

section
variable {P : Program}

theorem own_nil {β : Nat → Nat} {b : Nat} : ¬ Own [] β b := fun ⟨id, o, h, _⟩ => by simp at h

theorem apure_of {f : FuncId} {args : List AV} {r : AV} (h : ACalls P f args [] fun v h' => Frz h' v r) : APure P f args r := by
  refine ⟨h.1, fun I w vs hI hv => ?_⟩
  refine (h.2 I (fun _ => 0) w vs ⟨hI, fun id o h => by simp at h, fun id id' o o' h => by simp at h⟩ ⟨hv.1, fun j u v hu hv' => .imm _ _ (hv.2 j u v hu hv')⟩).mono ?_
  rintro e w' ⟨cv, u, I', β', h', rfl, hf, he, hr, hvr⟩
  refine ⟨cv, IO I' β' h', rfl, ⟨he.os, he.tape, he.output, he.size, fun b hb => he.keep b hb own_nil, fun b hb => .inl (he.sub b hb), fun b hb => ?_, fun b hb => ?_⟩, hf.rel hr hvr⟩
  · rcases hb with hb | hb
    · rcases he.immnew b hb with h1 | h1 | h1
      · exact .inl h1
      · exact absurd h1 own_nil
      · exact .inr h1
    · rcases he.own b hb with h1 | h1
      · exact absurd h1 own_nil
      · exact .inr h1
  · rcases hb with hb | ⟨id, o, h1, h2, rfl⟩
    · exact hr.imm b hb
    · exact (hr.obj id o h1 h2).1

theorem Rel.pext {I I' : Nat → Prop} {β : Nat → Nat} {h : Heap} {w w' : World} (r : Rel I β h w) {J : Nat → Prop} (hJ : ∀ b, J b → b < w.heap.size) (hp : PExt J w I' w') :
    (∀ b, I b → J b) → Ext I β h w (fun b => I b ∨ (I' b ∧ w.heap.size ≤ b)) β h w' ∧ Rel (fun b => I b ∨ (I' b ∧ w.heap.size ≤ b)) β h w' := by
  intro hIJ
  have hbs : ∀ b n, bsize w b = some n → bsize w' b = some n := fun b n hb => by
    have hlt : b < w.heap.size := by
      unfold bsize at hb
      split at hb
      · rename_i h1; exact (Array.getElem?_eq_some_iff.1 h1).1
      · simp at hb
    rw [bsize_of_heap (hp.keep b hlt)]
    exact hb
  have hm : ∀ u v, VRel I β h.length w u v → VRel (fun b => I b ∨ (I' b ∧ w.heap.size ≤ b)) β h.length w' u v := fun u v hv =>
    hv.mono (fun _ x => .inl x) (fun b hb => hp.keep b (r.imm b hb)) (Nat.le_refl _) (fun _ _ => rfl) hbs
  refine ⟨⟨hp.os, hp.tape, hp.output, hp.size, Nat.le_refl _, fun _ _ => rfl, fun _ x => .inl x, fun b hb => hb.imp id (fun h => .inr h.2), fun _ x => .inl x, fun b hb _ => hp.keep b hb, hbs⟩, ⟨fun b hb => ?_, fun id o h1 h2 => ?_, r.inj⟩⟩
  · rcases hb with hb | hb
    · have := r.imm b hb; have := hp.size; omega
    · exact hp.lt b hb.1
  · obtain ⟨q1, q2, q3⟩ := r.obj id o h1 h2
    refine ⟨by have := hp.size; omega, ?_, by rw [hp.keep _ q1]; exact q3.mono hm⟩
    rintro (h | h)
    · exact q2 h
    · omega

/-- A call of a function of values alone. -/
theorem acalls_pure {f : FuncId} {args : List AV} {r : AV} (hp : APure P f args r) (ha : pures args = true) {h : Heap} {Q : AV → Heap → Prop} (hq : Q r h) : ACalls P f args h Q := by
  refine ⟨hp.1, fun I β w vs rr hv => ?_⟩
  refine (hp.2 I w vs rr.imm ⟨hv.1, fun j u v hu hv' => (hv.2 j u v hu hv').toI (pures_get ha hu)⟩).mono ?_
  rintro e w' ⟨cv, I', rfl, he, hr⟩
  obtain ⟨h1, h2⟩ := rr.pext rr.imm he (fun _ x => x)
  refine ⟨cv, r, _, β, h, rfl, hq, h1, h2, .imm _ _ (hr.mono (fun b hb => ?_) (fun _ _ => rfl))⟩
  rcases he.new b hb with h3 | h3
  · exact .inl h3
  · exact .inr ⟨hb, h3⟩

mutual
/-- No memory in it. -/
def AV.flat : AV → Bool
  | .int .. => true
  | .bool _ => true
  | .str _ => true
  | .flt .. => true
  | .nilp => true
  | .nils => true
  | .nilf => true
  | .nili => true
  | .nilm => true
  | .tup cs => flats cs
  | .agg cs => flats cs
  | .ip .. => false
  | .isl .. => false
  | .op .. => false
  | .osl .. => false
  | .om _ => false
  | .fn .. => false
  | .ifc .. => false
  | .any => false
def flats : List AV → Bool
  | [] => true
  | v :: r => v.flat && flats r
end
theorem flats_get {l : List AV} (h : flats l = true) {j : Nat} {u : AV} (hj : l[j]? = some u) : u.flat = true := by
  induction l generalizing j with
  | nil => simp at hj
  | cons v r ih =>
    simp only [flats, Bool.and_eq_true] at h
    cases j with
    | zero => simp at hj; subst hj; exact h.1
    | succ j => simp at hj; exact ih h.2 hj
theorem IRel.flat {I I' : Nat → Prop} {w w' : World} {u : AV} {v : Value} (h : IRel I w u v) (hf : u.flat = true) : IRel I' w' u v := by
  induction h with
  | int k n => exact .int k n
  | bool b => exact .bool b
  | str s => exact .str s
  | flt k n => exact .flt k n
  | nilp => exact .nilp
  | nils => exact .nils
  | nilf => exact .nilf
  | nili => exact .nili
  | nilm => exact .nilm
  | agg cs cs' h1 h2 _ ih => exact .agg cs cs' h1 h2 (fun j u v hu hv => ih j u v hu hv (flats_get (by simpa [AV.flat] using hf) hu))
  | tup cs cs' h1 _ ih => exact .tup cs cs' h1 (fun j u v hu hv => ih j u v hu hv (flats_get (by simpa [AV.flat] using hf) hu))
  | _ => simp [AV.flat] at hf

def Frzs (h : Heap) (us us' : List AV) : Prop := us'.length = us.length ∧ ∀ (q : Nat) (u u' : AV), us[q]? = some u → us'[q]? = some u' → Frz h u u'
theorem Frzs.nil {h : Heap} : Frzs h [] [] := ⟨rfl, fun q u u' h => by simp at h⟩
theorem Frzs.cons {h : Heap} {u u' : AV} {us us' : List AV} (h1 : Frz h u u') (h2 : Frzs h us us') : Frzs h (u :: us) (u' :: us') := by
  refine ⟨by simp [h2.1], fun q x x' hx hx' => ?_⟩
  cases q with
  | zero => simp at hx hx'; subst hx hx'; exact h1
  | succ q => simp at hx hx'; exact h2.2 q x x' hx hx'

/-- What one owns is lent to a function of values alone that hands back no memory. -/
theorem acalls_lend {f : FuncId} {args args' : List AV} {r : AV} {h : Heap} (hp : APure P f args' r) (ha : Frzs h args args') (hr : r.flat = true) {Q : AV → Heap → Prop} (hq : Q r h) : ACalls P f args h Q := by
  refine ⟨hp.1, fun I β w vs rr hv => ?_⟩
  have hJ : ∀ b, IO I β h b → b < w.heap.size := by
    rintro b (hb | ⟨id, o, h1, h2, rfl⟩)
    · exact rr.imm b hb
    · exact (rr.obj id o h1 h2).1
  refine (hp.2 (IO I β h) w vs hJ ⟨by rw [ha.1]; exact hv.1, fun j u' v hu hv' => ?_⟩).mono ?_
  · obtain ⟨u, hu0⟩ := getElem?_lt ha.1 hu
    exact (ha.2 j u u' hu0 hu).rel rr (hv.2 j u v hu0 hv')
  · rintro e w' ⟨cv, I', rfl, he, hrr⟩
    obtain ⟨h1, h2⟩ := rr.pext hJ he (fun _ x => .inl x)
    exact ⟨cv, r, _, β, h, rfl, hq, h1, h2, .imm _ _ (hrr.flat hr)⟩
end
end Go.AL
end

section
/- The small logic's steps as rules for simp, and where simp is not to look. No condition. -/
namespace Go.AL
set_option linter.unusedVariables false
set_option linter.unusedSimpArgs false

/-- A mark: simp works at what is marked, and at nothing beside it. -/
def mk {α : Type} (x : α) : α := x
theorem mk_eq {α : Type} (x : α) : mk x = x := Eq.trans (Eq.refl x) (Eq.refl x)
def optK {α : Type} (o : Option α) (K : α → Prop) : Prop := match o with | some x => K x | none => False
theorem optK_some {α : Type} {x : α} {K : α → Prop} : optK (some x) K = K x := (rfl)
theorem optK_eq {α : Type} {o : Option α} {K : α → Prop} : (∃ x, o = some x ∧ K x) = optK o K := by
  cases o <;> simp [optK]
/-- A pair of conditions: the first ahead. -/
def condK (v : AV) (T E : Prop) : Prop := match v with | .bool b => (b = true → T) ∧ (b = false → E) | _ => False
theorem condK_bool {b : Bool} {T E : Prop} : condK (.bool b) T E = ((b = true → T) ∧ (b = false → E)) := (rfl)
theorem condK_true {T E : Prop} : condK (.bool true) T E = T := by simp [condK]
theorem condK_false {T E : Prop} : condK (.bool false) T E = E := by simp [condK]
theorem condK_dec {p : Prop} [Decidable p] {T E : Prop} : condK (.bool (decide p)) T E = ((p → T) ∧ (¬ p → E)) := by simp [condK]
theorem condK_not {b : Bool} {T E : Prop} : condK (.bool (!b)) T E = condK (.bool b) E T := by cases b <;> simp [condK]
theorem condK_beq {α : Type} [BEq α] [LawfulBEq α] {x y : α} {T E : Prop} : condK (.bool (x == y)) T E = ((x = y → T) ∧ (x ≠ y → E)) := by simp [condK]
theorem condK_bne {α : Type} [BEq α] [LawfulBEq α] {x y : α} {T E : Prop} : condK (.bool (x != y)) T E = ((x ≠ y → T) ∧ (x = y → E)) := by simp [condK]
theorem condK_getD {l : List Bool} {i : Nat} {d : Bool} {T E : Prop} : condK (.bool (l.getD i d)) T E = ((l.getD i d = true → T) ∧ (l.getD i d = false → E)) := (rfl)
theorem decide_gt {x y : Int} : decide (x > y) = decide (y < x) := (rfl)
theorem decide_ge {x y : Int} : decide (x ≥ y) = decide (y ≤ x) := (rfl)

section
variable {P : Program} {n : Nat} {pl : Nat → Plan} {Q : Exit → Fr → Heap → Prop} {a : Fr} {h : Heap}

/-! ### code -/
theorem asx_skip : asx P n pl .skip Q a h = Q .normal a h := (rfl)
theorem asx_text {id : Nat} {l : List Oper} : asx P n pl (.region id l.toArray false) Q a h = aops P n l l a h fun a h => Q .normal a h := (rfl)
theorem asx_draw {id : Nat} {l : List Oper} : asx P n pl (.region id l.toArray true) Q a h = adrD P n l (pl id) a h fun a h => Q .normal a h := (rfl)
theorem asx_seq {x y : Code} : asx P n pl (.seq x y) Q a h = asx P n pl x (thenK (asx P n pl y Q) Q) a h := (rfl)
theorem asx_cond {c : Operand} {x y : Code} : asx P n pl (.cond c x y) Q a h = evK a c fun v => condK v (asx P n pl x Q a h) (asx P n pl y Q a h) := (rfl)
theorem asx_block {id : Nat} {c : Code} : asx P n pl (.block id c) Q a h = asx P n pl c (blockK id Q) a h := (rfl)
theorem asx_loop {c : Code} : asx P n pl (.loop c) Q a h = LoopK (asx P n pl c) Q a h := (rfl)
theorem asx_exit {id : Nat} : asx P n pl (.exit id) Q a h = Q (.exit id) a h := (rfl)
theorem asx_ret : asx P n pl .ret Q a h = Q .ret a h := (rfl)
theorem asx_label {l : Nat} : asx P n pl (.label l) Q a h = Q .normal a h := (rfl)
theorem then_normal {K : Fr → Heap → Prop} : thenK K Q .normal a h = K a h := (rfl)
theorem then_ret {K : Fr → Heap → Prop} : thenK K Q .ret a h = Q .ret a h := (rfl)
theorem then_exit {K : Fr → Heap → Prop} {j : Nat} : thenK K Q (.exit j) a h = Q (.exit j) a h := (rfl)
theorem block_normal {id : Nat} : blockK id Q .normal a h = Q .normal a h := (rfl)
theorem block_ret {id : Nat} : blockK id Q .ret a h = Q .ret a h := (rfl)
theorem block_exit {id : Nat} : blockK id Q (.exit id) a h = Q .normal a h := by simp [blockK]
theorem block_exit' {id j : Nat} (e : (j == id) = false) : blockK id Q (.exit j) a h = Q (.exit j) a h := by
  have : j ≠ id := by simpa using e
  simp [blockK, this]

/-! ### operations in line -/
variable {all rest : List Oper} {K : Fr → Heap → Prop} {op : Op} {ty : TypeId} {pos : String} {af : Array Edge} {dst : Option Tmp}
theorem aops_nil : aops P n all [] a h K = K a h := (rfl)
theorem aops_one : aops P n all (⟨dst, op, ty, pos, af, none⟩ :: rest) a h K = aop P op a h fun v h' => putK n dst a v fun a' => aops P n all rest a' h' K := (rfl)
/-- A guard's two ways: the value that is asked; what was left out says no. -/
def gdK (v : AV) (want : Bool) (T E : Prop) : Prop := match v with | .bool b => (match want with | true => condK (.bool b) T E | false => condK (.bool b) E T) | .tup [] => E | _ => False
@[congr] theorem gdK_cg {v v' : AV} {want : Bool} {T E : Prop} (e : mk v = v') : gdK v want T E = gdK v' want T E := by rw [← e]; rfl
theorem gdK_true {b : Bool} {T E : Prop} : gdK (.bool b) true T E = condK (.bool b) T E := (rfl)
theorem gdK_false {b : Bool} {T E : Prop} : gdK (.bool b) false T E = condK (.bool b) E T := (rfl)
theorem gdK_undef {want : Bool} {T E : Prop} : gdK .undef want T E = E := (rfl)
def guK (o : Option Tmp) (want : Bool) (a : Fr) (T E : Prop) : Prop := match o with | some t => gdK (a t) want T E | none => False
theorem guK_some {t : Tmp} {want : Bool} {T E : Prop} : guK (some t) want a T E = gdK (a t) want T E := (rfl)
theorem guardK_eq {j : Nat} {want : Bool} {T : Bool → Prop} : guardK all (some (j, want)) a T = guK (gslot all j) want a (T true) (T false) := by
  unfold guardK guK gdK
  simp only
  cases gslot all j with
  | none => rfl
  | some t =>
    simp only [condK]
    cases a t with
    | bool b => cases b <;> cases want <;> simp
    | tup l => cases l <;> rfl
    | _ => cases want <;> rfl
theorem guK_zero {t : Tmp} {g : Option (Nat × Bool)} {want : Bool} {T E : Prop} : guK (gslot (⟨some t, op, ty, pos, af, g⟩ :: rest) 0) want a T E = guK (some t) want a T E := (rfl)
theorem guK_succ {o : Oper} {j : Nat} {want : Bool} {T E : Prop} : guK (gslot (o :: rest) (j + 1)) want a T E = guK (gslot rest j) want a T E := (rfl)
theorem aops_if {j : Nat} {want : Bool} : aops P n all (⟨dst, op, ty, pos, af, some (j, want)⟩ :: rest) a h K = guK (gslot all j) want a (aop P op a h fun v h' => putK n dst a v fun a' => aops P n all rest a' h' K) (putK n dst a .undef fun a' => aops P n all rest a' h K) :=
  guardK_eq (T := fun run => match run with | true => aop P op a h fun v h' => putK n dst a v fun a' => aops P n all rest a' h' K | false => putK n dst a .undef fun a' => aops P n all rest a' h K)
theorem putK_none {v : AV} {K : Fr → Prop} : putK n none a v K = K a := (rfl)
theorem putK_some {d : Nat} {v : AV} {K : Fr → Prop} (e : d < n) : putK n (some d) a v K = K (upd a d v) := by
  simp [putK, e]
@[congr] theorem putK_cg {v v' : AV} {K : Fr → Prop} (e : mk v = v') : putK n dst a v K = putK n dst a v' K := by rw [← e]; rfl
@[congr] theorem condK_cg {v v' : AV} {T E : Prop} (e : mk v = v') : condK v T E = condK v' T E := by rw [← e]; rfl
@[congr] theorem optK_cg {α : Type} {o o' : Option α} {K : α → Prop} (e : mk o = o') : optK o K = optK o' K := by rw [← e]; rfl

/-! ### drawn regions -/
def exK (T : AV → Prop) (K : AV → Prop) : Prop := ∃ v, T v ∧ K v
@[congr] theorem exK_cg {T T' : AV → Prop} {K : AV → Prop} (e : mk T = T') : exK T K = exK T' K := by rw [← e]; rfl
theorem exK_and {A : Prop} {T K : AV → Prop} : exK (fun v => A ∧ T v) K = (A ∧ exK T K) := by simp [exK, and_assoc]
theorem exK_ex {α : Type} {T : α → AV → Prop} {K : AV → Prop} : exK (fun v => ∃ c, T c v) K = ∃ c, exK (T c) K := by
  apply propext
  constructor
  · rintro ⟨v, ⟨c, h⟩, k⟩; exact ⟨c, v, h, k⟩
  · rintro ⟨c, v, h, k⟩; exact ⟨v, ⟨c, h⟩, k⟩
theorem exK_eq {u : AV} {K : AV → Prop} : exK (fun v => u = v) K = K u := by simp [exK]
def atK (l : List Oper) (i : Nat) (K : Oper → Prop) : Prop := match l[i]? with | some o => K o | none => False
theorem atK_zero {o : Oper} {K : Oper → Prop} : atK (o :: rest) 0 K = K o := (rfl)
theorem atK_succ {o : Oper} {i : Nat} {K : Oper → Prop} : atK (o :: rest) (i + 1) K = atK rest i K := (rfl)
def quK (q : Bool) (T E : Prop) : Prop := match q with | true => T | false => E
theorem quK_true {T E : Prop} : quK true T E = T := (rfl)
theorem quK_false {T E : Prop} : quK false T E = E := (rfl)
@[congr] theorem quK_cg {q q' : Bool} {T E : Prop} (e : mk q = q') : quK q T E = quK q' T E := by rw [← e]; rfl
def keepL (keep : Bool) (x : Nat × Fr × AV) (l : List (Nat × Fr × AV)) : List (Nat × Fr × AV) := match keep with | true => x :: l | false => l
def adrK (P : Program) (n : Nat) (all : List Oper) (i : Nat) (keep : Bool) (rs : List Nat) (rest : Plan) (a : Fr) (h : Heap) (done : List (Nat × Fr × AV)) (K : Fr → Heap → Prop) (dst : Option Tmp) (op : Op) : Prop :=
  quK (pureOp op) (exK (fun v => aop P op a h fun v' h' => v' = v ∧ h' = h) fun v => putK n dst a v fun a' => adr P n all rest a' h (keepL keep (i, a, v) done) K)
    (aop P op a h fun v h' => reK P all done h' rs ∧ putK n dst a v fun a' => adr P n all rest a' h' done K)
def adrG (P : Program) (n : Nat) (all : List Oper) (i : Nat) (keep : Bool) (rs : List Nat) (rest : Plan) (a : Fr) (h : Heap) (done : List (Nat × Fr × AV)) (K : Fr → Heap → Prop) (o : Oper) : Prop :=
  match o with
  | ⟨dst, op, _, _, _, none⟩ => adrK P n all i keep rs rest a h done K dst op
  | ⟨dst, op, _, _, _, some (j, want)⟩ => guK (gslot all j) want a (adrK P n all i keep rs rest a h done K dst op) (putK n dst a .undef fun a' => adr P n all rest a' h done K)
@[congr] theorem adr_cg {pl pl' : Plan} {done : List (Nat × Fr × AV)} (e : mk pl = pl') : adr P n all pl a h done K = adr P n all pl' a h done K := by rw [← e]; rfl
theorem adrD_nil : adrD P n all [] a h K = K a h := (rfl)
theorem adrD_none {i : Nat} {keep : Bool} {rest : Plan} : adrD P n all ((i, keep, []) :: rest) a h K = adr P n all ((i, keep, []) :: rest) a h [] K := (rfl)
theorem adrD_one {i x : Nat} {keep : Bool} {rest : Plan} : adrD P n all ((i, keep, [x]) :: rest) a h K = adr P n all ((i, keep, [x]) :: rest) a h [] K := (rfl)
theorem adrD_more {i x y z : Nat} {l : List Nat} {keep : Bool} {rest : Plan} : adrD P n all ((i, keep, x :: y :: z :: l) :: rest) a h K = adr P n all ((i, keep, x :: y :: z :: l) :: rest) a h [] K := (rfl)
theorem adrD_two {p q : Nat} {keep : Bool} {rest : Plan} : adrD P n all ((1000000, keep, [p, q]) :: rest) a h K = adrX P n all (rest.take p) a h [] fun a' d => adr P n all ((rest.drop p).take q) a' h d K ∧ adr P n all (rest.drop (p + q)) a' h d K := (rfl)
@[congr] theorem adrX_cg {pl pl' : Plan} {done : List (Nat × Fr × AV)} {K : Fr → List (Nat × Fr × AV) → Prop} (e : mk pl = pl') : adrX P n all pl a h done K = adrX P n all pl' a h done K := by rw [← e]; rfl
theorem adrX_nil {done : List (Nat × Fr × AV)} {K : Fr → List (Nat × Fr × AV) → Prop} : adrX P n all [] a h done K = K a done := (rfl)
def adrXG (P : Program) (n : Nat) (all : List Oper) (i : Nat) (keep : Bool) (rest : Plan) (a : Fr) (h : Heap) (done : List (Nat × Fr × AV)) (K : Fr → List (Nat × Fr × AV) → Prop) (o : Oper) : Prop :=
  match o with
  | ⟨dst, op, _, _, _, none⟩ => exK (fun v => aop P op a h fun v' h' => v' = v ∧ h' = h) fun v => putK n dst a v fun a' => adrX P n all rest a' h (keep0 keep (i, a, v) done) K
  | ⟨dst, op, _, _, _, some (j, want)⟩ => guK (gslot all j) want a (exK (fun v => aop P op a h fun v' h' => v' = v ∧ h' = h) fun v => putK n dst a v fun a' => adrX P n all rest a' h (keep0 keep (i, a, v) done) K) (putK n dst a .undef fun a' => adrX P n all rest a' h done K)
theorem adrX_cons {done : List (Nat × Fr × AV)} {i : Nat} {keep : Bool} {rs : List Nat} {rest : Plan} {K : Fr → List (Nat × Fr × AV) → Prop} : adrX P n all ((i, keep, rs) :: rest) a h done K = atK all i (adrXG P n all i keep rest a h done K) := by
  unfold atK adrX
  cases all[i]? with
  | none => rfl
  | some o =>
    obtain ⟨dst, op, ty, pos, af, g⟩ := o
    cases g with
    | none =>
      simp only [adrXG, guardK, exK]
    | some g =>
      obtain ⟨j, want⟩ := g
      simp only [adrXG]
      rw [guardK_eq]
      simp only [exK]
theorem adrXG_one {done : List (Nat × Fr × AV)} {i : Nat} {keep : Bool} {rest : Plan} {K : Fr → List (Nat × Fr × AV) → Prop} : adrXG P n all i keep rest a h done K ⟨dst, op, ty, pos, af, none⟩ = exK (fun v => aop P op a h fun v' h' => v' = v ∧ h' = h) fun v => putK n dst a v fun a' => adrX P n all rest a' h (keep0 keep (i, a, v) done) K := (rfl)
theorem adrXG_if {done : List (Nat × Fr × AV)} {i j : Nat} {keep want : Bool} {rest : Plan} {K : Fr → List (Nat × Fr × AV) → Prop} : adrXG P n all i keep rest a h done K ⟨dst, op, ty, pos, af, some (j, want)⟩ = guK (gslot all j) want a (exK (fun v => aop P op a h fun v' h' => v' = v ∧ h' = h) fun v => putK n dst a v fun a' => adrX P n all rest a' h (keep0 keep (i, a, v) done) K) (putK n dst a .undef fun a' => adrX P n all rest a' h done K) := (rfl)
theorem keep0_true {x : Nat × Fr × AV} {l : List (Nat × Fr × AV)} : keep0 true x l = x :: l := (rfl)
theorem keep0_false {x : Nat × Fr × AV} {l : List (Nat × Fr × AV)} : keep0 false x l = l := (rfl)
theorem adr_nil {done : List (Nat × Fr × AV)} : adr P n all [] a h done K = K a h := (rfl)
theorem adr_cons {done : List (Nat × Fr × AV)} {i : Nat} {keep : Bool} {rs : List Nat} {rest : Plan} : adr P n all ((i, keep, rs) :: rest) a h done K = atK all i (adrG P n all i keep rs rest a h done K) := by
  unfold atK adr
  cases all[i]? with
  | none => rfl
  | some o =>
    obtain ⟨dst, op, ty, pos, af, g⟩ := o
    cases g with
    | none =>
      simp only [adrG, adrK, guardK, quK, exK]
      cases pureOp op <;> cases keep <;> rfl
    | some g =>
      obtain ⟨j, want⟩ := g
      simp only [adrG, adrK]
      rw [guardK_eq]
      simp only [quK, exK]
      cases pureOp op <;> cases keep <;> rfl
theorem adrG_one {done : List (Nat × Fr × AV)} {i : Nat} {keep : Bool} {rs : List Nat} {rest : Plan} : adrG P n all i keep rs rest a h done K ⟨dst, op, ty, pos, af, none⟩ = adrK P n all i keep rs rest a h done K dst op := (rfl)
theorem adrG_if {done : List (Nat × Fr × AV)} {i j : Nat} {keep want : Bool} {rs : List Nat} {rest : Plan} : adrG P n all i keep rs rest a h done K ⟨dst, op, ty, pos, af, some (j, want)⟩ = guK (gslot all j) want a (adrK P n all i keep rs rest a h done K dst op) (putK n dst a .undef fun a' => adr P n all rest a' h done K) := (rfl)
theorem adrK_eq {done : List (Nat × Fr × AV)} {i : Nat} {keep : Bool} {rs : List Nat} {rest : Plan} : adrK P n all i keep rs rest a h done K dst op = quK (pureOp op) (exK (fun v => aop P op a h fun v' h' => v' = v ∧ h' = h) fun v => putK n dst a v fun a' => adr P n all rest a' h (keepL keep (i, a, v) done) K)
    (aop P op a h fun v h' => reK P all done h' rs ∧ putK n dst a v fun a' => adr P n all rest a' h' done K) := rfl
theorem keepL_true {x : Nat × Fr × AV} {l : List (Nat × Fr × AV)} : keepL true x l = x :: l := (rfl)
theorem keepL_false {x : Nat × Fr × AV} {l : List (Nat × Fr × AV)} : keepL false x l = l := (rfl)
def doneK (done : List (Nat × Fr × AV)) (j : Nat) (K : Fr → AV → Prop) : Prop := match done.find? (fun x => x.1 == j) with | some (_, a, v) => K a v | none => True
theorem doneK_hit {done : List (Nat × Fr × AV)} {j : Nat} {v : AV} {K : Fr → AV → Prop} : doneK ((j, a, v) :: done) j K = K a v := by simp [doneK]
theorem doneK_miss {done : List (Nat × Fr × AV)} {i j : Nat} {v : AV} {K : Fr → AV → Prop} (e : (i == j) = false) : doneK ((i, a, v) :: done) j K = doneK done j K := by simp [doneK, List.find?_cons, e]
def atT (l : List Oper) (i : Nat) (K : Oper → Prop) : Prop := match l[i]? with | some o => K o | none => True
theorem atT_zero {o : Oper} {K : Oper → Prop} : atT (o :: rest) 0 K = K o := (rfl)
theorem atT_succ {o : Oper} {i : Nat} {K : Oper → Prop} : atT (o :: rest) (i + 1) K = atT rest i K := (rfl)
theorem reK_cons {done : List (Nat × Fr × AV)} {j : Nat} {r : List Nat} : reK P all done h (j :: r) = (doneK done j (fun a v => atT all j fun o => aop P o.op a h fun v' h' => v' = v ∧ h' = h) ∧ reK P all done h r) := by
  show ((match done.find? (fun x => x.1 == j), all[j]? with | some (_, a, v), some o => aop P o.op a h fun v' h' => v' = v ∧ h' = h | _, _ => True) ∧ reK P all done h r) = _
  unfold doneK atT
  cases done.find? (fun x => x.1 == j) with
  | none => rfl
  | some x => cases all[j]? <;> rfl
theorem reK_nil {done : List (Nat × Fr × AV)} : reK P all done h [] = True := (rfl)
end
end Go.AL
end

section
/- The small logic's rules for simp: what each operation does with values. No condition. -/
namespace Go.AL
set_option linter.unusedVariables false
set_option linter.unusedSimpArgs false
section
variable {P : Program} {n : Nat} {a : Fr} {h : Heap}

/-! ### operands -/
section
variable {K : AV → Prop}
theorem evK_tmp {t : Tmp} : evK a (.tmp t) K = K (a t) := (rfl)
theorem evK_int {k : IntKind} {m : Int} : evK a (.const (.int k m)) K = K (.int k m) := (rfl)
theorem evK_bool {b : Bool} : evK a (.const (.bool b)) K = K (.bool b) := (rfl)
theorem evK_str {s : ByteArray} : evK a (.const (.string s)) K = K (.str s) := (rfl)
theorem evK_flt {k : FloatKind} {m : Nat} : evK a (.const (.float k m)) K = K (.flt k m) := (rfl)
theorem evK_nilp : evK a (.const (.pointer none)) K = K .nilp := (rfl)
theorem evK_nils : evK a (.const (.slice none 0 0)) K = K .nils := (rfl)
theorem evK_nilf : evK a (.const .nilFunc) K = K .nilf := (rfl)
theorem evK_nili : evK a (.const .nilIface) K = K .nili := (rfl)
theorem evK_nilm : evK a (.const (.map none)) K = K .nilm := (rfl)
theorem evK_undef : evK a (.const (.tuple #[])) K = K .undef := (rfl)
theorem evK_func {f : FuncId} : evK a (.func f) K = K (.fn (.func f) [] []) := (rfl)
theorem evsK_nil {K : List AV → Prop} : evsK a [] K = K [] := (rfl)
theorem evsK_cons {x : Operand} {r : List Operand} {K : List AV → Prop} : evsK a (x :: r) K = evK a x fun u => evsK a r fun us => K (u :: us) := (rfl)
theorem evpK_nil {K : List (Nat × AV) → Prop} : evpK a [] K = K [] := (rfl)
theorem evpK_cons {i : Nat} {x : Operand} {r : List (Nat × Operand)} {K : List (Nat × AV) → Prop} : evpK a ((i, x) :: r) K = evK a x fun u => evpK a r fun us => K ((i, u) :: us) := (rfl)
theorem evoK_none {K : Option AV → Prop} : evoK a none K = K none := (rfl)
theorem evoK_some {x : Operand} {K : Option AV → Prop} : evoK a (some x) K = evK a x fun u => K (some u) := (rfl)
end

/-! ### which operation -/
section
variable {K : AV → Heap → Prop}
/-- The heap, worked at first. -/
def letH (h : Heap) (K : Heap → Prop) : Prop := K h
@[congr] theorem letH_cg {h h' : Heap} {K : Heap → Prop} (e : mk h = h') : letH h K = letH h' K := by rw [← e]; rfl
theorem letH_eq {K : Heap → Prop} : letH h K = K h := (rfl)
theorem aop_move {x : Operand} : aop P (.move x) a h K = evK a x fun u => K u h := (rfl)
theorem aop_assign {x : Operand} : aop P (.assign x) a h K = evK a x fun u => K u h := (rfl)
theorem aop_pick {c x y : Operand} : aop P (.pick c x y) a h K = evK a c fun c => evK a x fun x => evK a y fun y => pickK c x y fun u => K u h := (rfl)
theorem aop_alloc {t : TypeId} : aop P (.alloc t) a h K = optK (zcells P t) fun cs => letH (h ++ [.arr cs.length [cs] true]) (K (.op h.length cs.length 0 0)) := by
  simp only [aop, optK_eq, letH]
theorem aop_box {t : TypeId} {x : Operand} : aop P (.box t x) a h K = evK a x fun u => cellsK u fun cs => letH (h ++ [.arr cs.length [cs] true]) (K (.op h.length cs.length 0 0)) := (rfl)
theorem aop_build {t : TypeId} {parts : List (Nat × Operand)} : aop P (.build t parts.toArray) a h K = evpK a parts fun us => optK (zcells P t) fun z => optK (fplaces P t) fun pl => fillK (fun i => pl[i]?) us z fun cs => K (.agg cs) h := by
  simp only [aop, optK_eq]
  congr 1
  funext us
  cases zcells P t <;> cases fplaces P t <;> simp [optK]
def repl {α : Type} : Nat → α → List α | 0, _ => [] | n + 1, x => x :: repl n x
theorem repl_zero {α : Type} {x : α} : repl 0 x = [] := (rfl)
theorem repl_succ {α : Type} {m : Nat} {x : α} : repl (m + 1) x = x :: repl m x := (rfl)
theorem repl_eq {α : Type} {x : α} : ∀ {m : Nat}, List.replicate m x = repl m x
  | 0 => rfl
  | m + 1 => by rw [List.replicate_succ, repl_succ, repl_eq]
theorem aop_buildSlice {t : TypeId} {len : Nat} {parts : List (Nat × Operand)} : aop P (.buildSlice t len parts.toArray) a h K = evpK a parts fun us => optK (telem P t) fun e => optK (zcells P e) fun z => len * z.length ≤ 16777216 ∧
      fillRK z.length us (repl len z) fun es => letH (h ++ [.arr z.length es true]) (K (.osl h.length z.length 0 len len true)) := by
  simp only [aop, letH, repl_eq]
  congr 1
  funext us
  cases he : telem P t with
  | none => simp [optK]
  | some e => cases hz : zcells P e <;> simp [optK, hz]
theorem aop_load {t : TypeId} {x : Operand} : aop P (.load t x) a h K = evK a x fun p => loadK P t h p fun u => K u h := (rfl)
theorem aop_store {t : TypeId} {p x : Operand} : aop P (.store t p x) a h K = evK a p fun p => evK a x fun u => storeK P t h p u fun h' => K .undef h' := (rfl)
theorem aop_nilCheck {x : Operand} : aop P (.nilCheck x) a h K = evK a x fun u => nilCheckK u fun u => K u h := (rfl)
theorem aop_bin {op : BinOp} {t t' : TypeId} {x y : Operand} : aop P (.binOp op t x y t') a h K = evK a x fun u => evK a y fun v => binAll P op t u v fun u => K u h := (rfl)
theorem aop_un {op : UnOp} {t : TypeId} {x : Operand} : aop P (.unOp op t x) a h K = evK a x fun u => unK op u fun u => K u h := (rfl)
theorem aop_convert {s d : TypeId} {x : Operand} : aop P (.convert s d x) a h K = evK a x fun u => convK P s d u fun u => K u h := (rfl)
theorem aop_makeFunc {f : Fn} {fs cs : List Operand} : aop P (.makeFunc f fs.toArray cs.toArray) a h K = evsK a fs fun fs => evsK a cs fun cs => K (.fn f fs cs) h := (rfl)
theorem aop_makeInterface {t : TypeId} {x : Operand} : aop P (.makeInterface t x) a h K = (tnotIface P t = true ∧ evK a x fun u => K (.ifc t u) h) := (rfl)
theorem aop_makeSlice {t : TypeId} {l c : Operand} : aop P (.makeSlice t l c) a h K = evK a l fun l => evK a c fun c => makeSliceK P t h l c K := (rfl)
theorem aop_slice {t : TypeId} {x : Operand} {lo hi : Option Operand} : aop P (.slice t x lo hi none) a h K = evK a x fun x => evoK a lo fun lo => evoK a hi fun hi => sliceAll P t x lo hi fun u => K u h := (rfl)
theorem aop_fieldAddr {s f : Nat} {x : Operand} : aop P (.fieldAddr s x f) a h K = evK a x fun p => fieldAddrK P s f p fun u => K u h := (rfl)
theorem aop_field {t f : Nat} {x : Operand} : aop P (.field t x f) a h K = evK a x fun u => fieldK P t f u fun u => K u h := (rfl)
theorem aop_indexAddr {t : TypeId} {x i : Operand} : aop P (.indexAddr t x i) a h K = evK a x fun x => evK a i fun i => indexAddrK P t x i fun u => K u h := (rfl)
theorem aop_index {t : TypeId} {x i : Operand} : aop P (.index t x i) a h K = evK a x fun u => evK a i fun i => indexK P t u i fun u => K u h := (rfl)
theorem aop_extract {x : Operand} {i : Nat} : aop P (.extract x i) a h K = evK a x fun u => extK u i fun u => K u h := (rfl)
theorem aop_call {f : Operand} {xs : List Operand} {ts : Array TypeId} : aop P (.call ⟨.value f, xs.toArray, ts⟩) a h K = evK a f fun f => evsK a xs fun us => callK P f us h K := (rfl)
theorem aop_len {x : Operand} {t : TypeId} : aop P (.call ⟨.builtin .len, #[x], #[t]⟩) a h K = evK a x fun u => lenK P t u fun u => K u h := (rfl)
theorem aop_cap {x : Operand} {t : TypeId} : aop P (.call ⟨.builtin .cap, #[x], #[t]⟩) a h K = evK a x fun u => capK P t u fun u => K u h := (rfl)
theorem aop_min {xs : List Operand} {ts : Array TypeId} : aop P (.call ⟨.builtin .min, xs.toArray, ts⟩) a h K = evsK a xs fun us => minK imin us fun u => K u h := (rfl)
theorem aop_max {xs : List Operand} {ts : Array TypeId} : aop P (.call ⟨.builtin .max, xs.toArray, ts⟩) a h K = evsK a xs fun us => minK imax us fun u => K u h := (rfl)
theorem aop_clear {x : Operand} {t : TypeId} : aop P (.call ⟨.builtin .clear, #[x], #[t]⟩) a h K = evK a x fun u => clearK P t h u fun h' => K .undef h' := (rfl)
theorem aop_append {s x : Operand} {t t' : TypeId} : aop P (.call ⟨.builtin .append, #[s, x], #[t, t']⟩) a h K = evK a s fun s => evK a x fun x => appendK P t t' h s x K := (rfl)
end

/-! ### values -/
section
variable {K : AV → Prop}
theorem fitK_i64 {z : Int} : fitK .i64 z K = ((-9223372036854775808 ≤ z ∧ z ≤ 9223372036854775807) ∧ K (.int .i64 z)) := (rfl)
theorem fitK_u64 {z : Int} : fitK .u64 z K = K (.int .u64 (IntKind.u64.wrap z)) := (rfl)
theorem fitK_u32 {z : Int} : fitK .u32 z K = K (.int .u32 (IntKind.u32.wrap z)) := (rfl)
theorem fitK_u8 {z : Int} : fitK .u8 z K = K (.int .u8 (IntKind.u8.wrap z)) := (rfl)
theorem fitK_i32 {z : Int} : fitK .i32 z K = K (.int .i32 (IntKind.i32.wrap z)) := (rfl)
def ldX (g : Option Bool) (s : Option Nat) (cells : List AV) (off : Nat) (K : AV → Prop) : Prop :=
  match g with
  | some true => optK s fun n => off + n ≤ cells.length ∧ K (.agg ((cells.drop off).take n))
  | some false => optK cells[off]? K
  | none => False
@[congr] theorem ldX_cg {g g' : Option Bool} {s s' : Option Nat} {cells cells' : List AV} {off off' : Nat} (e1 : mk g = g') (e2 : mk s = s') (e3 : mk cells = cells') (e4 : mk off = off') : ldX g s cells off K = ldX g' s' cells' off' K := by rw [← e1, ← e2, ← e3, ← e4]; rfl
theorem ldX_cell {s : Option Nat} {cells : List AV} {off : Nat} : ldX (some false) s cells off K = optK cells[off]? K := (rfl)
theorem ldX_agg {m : Nat} {cells : List AV} {off : Nat} : ldX (some true) (some m) cells off K = (off + m ≤ cells.length ∧ K (.agg ((cells.drop off).take m))) := (rfl)
theorem ldK_eq {t : TypeId} {cells : List AV} {off : Nat} : ldK P t cells off K = ldX (tagg P t) (tsize P t) cells off K := by
  unfold ldK ldX
  cases tagg P t with
  | none => rfl
  | some b => cases b <;> simp only [optK_eq]
theorem partK_eq {t : TypeId} {cells : List AV} {off : Nat} : partK P t cells off K = ldX (tagg P t) (tsize P t) cells off K := by
  unfold partK ldX
  cases tagg P t with
  | none => rfl
  | some b => cases b <;> simp only [optK_eq]
/-- An object's elements. -/
def objK (k : Nat) (o : Option Ob) (K : List (List AV) → Prop) : Prop := match o with | some (.arr k' es _) => k' = k ∧ K es | _ => False
@[congr] theorem objK_cg {k : Nat} {o o' : Option Ob} {K : List (List AV) → Prop} (e : mk o = o') : objK k o K = objK k o' K := by rw [← e]; rfl
theorem objK_some {k : Nat} {es : List (List AV)} {ex : Bool} {K : List (List AV) → Prop} : objK k (some (.arr k es ex)) K = K es := by simp [objK]
@[congr] theorem loadK_cg {t : TypeId} {h h' : Heap} {p p' : AV} (e1 : mk h = h') (e2 : mk p = p') : loadK P t h p K = loadK P t h' p' K := by rw [← e1, ← e2]; rfl
theorem loadK_ip {t : TypeId} {cells : List AV} {off : Nat} : loadK P t h (.ip cells off) K = ldX (tagg P t) (tsize P t) cells off K := ldK_eq
theorem objK_ex {k : Nat} {o : Option Ob} {K : List (List AV) → Prop} : (∃ es ex, o = some (.arr k es ex) ∧ K es) = objK k o K := by
  apply propext
  constructor
  · rintro ⟨es, ex, rfl, hk⟩; exact ⟨rfl, hk⟩
  · intro hk
    cases o with
    | none => exact hk.elim
    | some o =>
      cases o with
      | arr k' es ex => obtain ⟨rfl, hk⟩ := hk; exact ⟨es, ex, rfl, hk⟩
      | _ => exact hk.elim
theorem loadK_op {t : TypeId} {id k e off : Nat} : loadK P t h (.op id k e off) K = objK k h[id]? fun es => optK es[e]? fun c => ldX (tagg P t) (tsize P t) c off K := by
  unfold loadK
  simp only [optK_eq, ldK_eq]
  exact objK_ex
def faK (o : Nat) (p : AV) (K : AV → Prop) : Prop := match p with | .ip cells off => K (.ip cells (off + o)) | .op id k e off => K (.op id k e (off + o)) | _ => False
@[congr] theorem faK_cg {o : Nat} {p p' : AV} (e : mk p = p') : faK o p K = faK o p' K := by rw [← e]; rfl
theorem faK_ip {o off : Nat} {cells : List AV} : faK o (.ip cells off) K = K (.ip cells (off + o)) := (rfl)
theorem faK_op {o off id k e : Nat} : faK o (.op id k e off) K = K (.op id k e (off + o)) := (rfl)
theorem fieldAddrK_eq {s f : Nat} {p : AV} : fieldAddrK P s f p K = optK (foff P s f) fun x => faK x.1 p K := by
  unfold fieldAddrK
  rw [← optK_eq]
  apply propext
  constructor
  · rintro ⟨o, ft, h1, h2⟩; exact ⟨(o, ft), h1, by cases p <;> exact h2⟩
  · rintro ⟨⟨o, ft⟩, h1, h2⟩; exact ⟨o, ft, h1, by cases p <;> exact h2⟩
def fdK (P : Program) (o : Nat) (t : TypeId) (p : AV) (K : AV → Prop) : Prop := match p with | .agg cs => ldX (tagg P t) (tsize P t) cs o K | _ => False
@[congr] theorem fdK_cg {o t : Nat} {p p' : AV} (e : mk p = p') : fdK P o t p K = fdK P o t p' K := by rw [← e]; rfl
theorem fdK_agg {o t : Nat} {cs : List AV} : fdK P o t (.agg cs) K = ldX (tagg P t) (tsize P t) cs o K := (rfl)
theorem fieldK_eq {t f : Nat} {p : AV} : fieldK P t f p K = optK (foff P t f) fun x => fdK P x.1 x.2 p K := by
  unfold fieldK
  rw [← optK_eq]
  apply propext
  constructor
  · rintro ⟨o, ft, h1, h2⟩; exact ⟨(o, ft), h1, by cases p <;> first | exact h2.elim | (simp only [fdK]; rw [← partK_eq]; exact h2)⟩
  · rintro ⟨⟨o, ft⟩, h1, h2⟩; exact ⟨o, ft, h1, by cases p <;> first | exact h2.elim | (simp only [fdK] at h2; rw [← partK_eq] at h2; exact h2)⟩
theorem optK_map {α β : Type} [Inhabited α] {f : α → β} {xs : List α} {i : Nat} {K : β → Prop} : optK (List.map f xs)[i]? K = (i < xs.length ∧ K (f (xs.getD i default))) := by
  rw [List.getElem?_map]
  by_cases hi : i < xs.length
  · simp [optK, hi, List.getD_eq_getElem?_getD, List.getElem?_eq_getElem hi]
  · simp [optK, hi, List.getElem?_eq_none (Nat.le_of_not_lt hi)]
/-- What a slice's elements take. -/
def elK (P : Program) (t : TypeId) (k : Nat) : Prop := optK (telem P t) fun e => optK (tsize P e) fun s => s = k
theorem elK_eq {t : TypeId} {k : Nat} : elK P t k = optK (telem P t) fun e => optK (tsize P e) fun s => s = k := (rfl)
theorem elK_ex {t : TypeId} {k : Nat} : (∃ e, telem P t = some e ∧ tsize P e = some k) = elK P t k := by
  unfold elK
  rw [optK_eq]
  congr 1
  funext e
  cases tsize P e <;> simp [optK]
@[congr] theorem indexAddrK_cg {t : TypeId} {x x' i i' : AV} (e1 : mk x = x') (e2 : mk i = i') : indexAddrK P t x i K = indexAddrK P t x' i' K := by rw [← e1, ← e2]; rfl
theorem indexAddrK_isl {t : TypeId} {k : Nat} {es : List (List AV)} {kk : IntKind} {m : Int} : indexAddrK P t (.isl k es) (.int kk m) K = (0 ≤ m ∧ elK P t k ∧ optK es[m.toNat]? fun c => K (.ip c 0)) := by
  simp only [indexAddrK, elK_ex, ← optK_eq]
  apply propext
  constructor
  · rintro ⟨h1, h2, h3, h4⟩; exact ⟨h1, h3, h4⟩
  · rintro ⟨h1, h2, h3⟩
    refine ⟨h1, ?_, h2, h3⟩
    obtain ⟨c, hc, _⟩ := h3
    have := (List.getElem?_eq_some_iff.1 hc).1
    omega
theorem indexAddrK_osl {t : TypeId} {id k i0 len cap : Nat} {ex : Bool} {kk : IntKind} {m : Int} : indexAddrK P t (.osl id k i0 len cap ex) (.int kk m) K = ((0 ≤ m ∧ m < len) ∧ elK P t k ∧ K (.op id k (i0 + m.toNat) 0)) := by
  simp only [indexAddrK, elK_ex, and_assoc]
def arK (P : Program) (t : TypeId) (m : Int) (K : Nat → Prop) : Prop := optK (tarr P t) fun x => optK (tsize P x.2) fun s => (0 ≤ m ∧ m < x.1) ∧ K (m.toNat * s)
theorem arK_eq {t : TypeId} {m : Int} {K : Nat → Prop} : arK P t m K = optK (tarr P t) fun x => optK (tsize P x.2) fun s => (0 ≤ m ∧ m < x.1) ∧ K (m.toNat * s) := (rfl)
theorem arK_ex {t : TypeId} {z : Int} {K : Nat → Prop} : (∃ m e s, tarr P t = some (m, e) ∧ tsize P e = some s ∧ 0 ≤ z ∧ z < (m : Nat) ∧ K (z.toNat * s)) = arK P t z K := by
  unfold arK
  cases tarr P t with
  | none => simp [optK]
  | some x =>
    obtain ⟨m, e⟩ := x
    simp only [optK, Option.some.injEq, Prod.mk.injEq]
    cases hs : tsize P e with
    | none => apply propext; constructor
              · rintro ⟨_, _, _, ⟨rfl, rfl⟩, h2, _⟩; rw [hs] at h2; cases h2
              · intro h; exact h.elim
    | some s =>
      apply propext
      constructor
      · rintro ⟨_, _, _, ⟨rfl, rfl⟩, h2, h3, h4, h5⟩; rw [hs] at h2; cases h2; exact ⟨⟨h3, h4⟩, h5⟩
      · rintro ⟨⟨h3, h4⟩, h5⟩; exact ⟨_, _, s, ⟨rfl, rfl⟩, hs, h3, h4, h5⟩
theorem indexAddrK_ip {t : TypeId} {cells : List AV} {off : Nat} {kk : IntKind} {m : Int} : indexAddrK P t (.ip cells off) (.int kk m) K = arK P t m fun d => K (.ip cells (off + d)) := by
  rw [← arK_ex]; rfl
theorem indexAddrK_op {t : TypeId} {id k e off : Nat} {kk : IntKind} {m : Int} : indexAddrK P t (.op id k e off) (.int kk m) K = arK P t m fun d => K (.op id k e (off + d)) := by
  rw [← arK_ex]; rfl
@[congr] theorem indexK_cg {t : TypeId} {x x' i i' : AV} (e1 : mk x = x') (e2 : mk i = i') : indexK P t x i K = indexK P t x' i' K := by rw [← e1, ← e2]; rfl
theorem indexK_agg {t : TypeId} {cs : List AV} {kk : IntKind} {m : Int} : indexK P t (.agg cs) (.int kk m) K = optK (tarr P t) fun x => optK (tsize P x.2) fun s => (0 ≤ m ∧ m < x.1) ∧ ldX (tagg P x.2) (tsize P x.2) cs (m.toNat * s) K := by
  simp only [indexK, partK_eq, ← optK_eq]
  apply propext
  constructor
  · rintro ⟨m', e, s, h1, h2, h3, h4, h5⟩; exact ⟨(m', e), h1, s, h2, ⟨h3, h4⟩, h5⟩
  · rintro ⟨⟨m', e⟩, h1, s, h2, ⟨h3, h4⟩, h5⟩; exact ⟨m', e, s, h1, h2, h3, h4, h5⟩
theorem indexK_str {t : TypeId} {s : ByteArray} {kk : IntKind} {m : Int} : indexK P t (.str s) (.int kk m) K = (tstring P t = true ∧ 0 ≤ m ∧ m < s.size ∧ K (.int .u8 (bt s m.toNat))) := (rfl)

@[congr] theorem binAll_cg {op : BinOp} {t : TypeId} {x x' i i' : AV} (e1 : mk x = x') (e2 : mk i = i') : binAll P op t x i K = binAll P op t x' i' K := by rw [← e1, ← e2]; rfl
section
variable {t : TypeId} {k : IntKind} {x y : Int}
theorem bin_add : binAll P .add t (.int k x) (.int k y) K = fitK k (x + y) K := by simp [binAll, iK]
theorem bin_sub : binAll P .sub t (.int k x) (.int k y) K = fitK k (x - y) K := by simp [binAll, iK]
theorem bin_mul : binAll P .mul t (.int k x) (.int k y) K = fitK k (x * y) K := by simp [binAll, iK]
theorem bin_quo : binAll P .quo t (.int k x) (.int k y) K = (y ≠ 0 ∧ K (.int k (k.wrap (x.tdiv y)))) := by simp [binAll, iK]
theorem bin_rem : binAll P .rem t (.int k x) (.int k y) K = (y ≠ 0 ∧ K (.int k (x.tmod y))) := by simp [binAll, iK]
theorem bin_eql : binAll P .eql t (.int k x) (.int k y) K = K (.bool (x == y)) := by simp [binAll, iK]
theorem bin_neq : binAll P .neq t (.int k x) (.int k y) K = K (.bool (x != y)) := by simp [binAll, iK]
theorem bin_lss : binAll P .lss t (.int k x) (.int k y) K = K (.bool (decide (x < y))) := by simp [binAll, iK]
theorem bin_leq : binAll P .leq t (.int k x) (.int k y) K = K (.bool (decide (x ≤ y))) := by simp [binAll, iK]
theorem bin_gtr : binAll P .gtr t (.int k x) (.int k y) K = K (.bool (decide (y < x))) := by simp [binAll, iK]
theorem bin_geq : binAll P .geq t (.int k x) (.int k y) K = K (.bool (decide (y ≤ x))) := by simp [binAll, iK]
theorem bin_shl {k' : IntKind} : binAll P .shl t (.int k x) (.int k' y) K = (0 ≤ y ∧ K (.int k (k.wrap (x * 2 ^ (min y.toNat k.bits))))) := by simp [binAll, iK]
theorem bin_shr {k' : IntKind} : binAll P .shr t (.int k x) (.int k' y) K = (0 ≤ y ∧ K (.int k (x.fdiv (2 ^ (min y.toNat k.bits))))) := by simp [binAll, iK]
theorem bin_beql {b c : Bool} : binAll P .eql t (.bool b) (.bool c) K = (tbool P t = true ∧ K (.bool (b == c))) := (rfl)
theorem bin_bneq {b c : Bool} : binAll P .neq t (.bool b) (.bool c) K = (tbool P t = true ∧ K (.bool (b != c))) := (rfl)
theorem bin_nils {op : BinOp} {u : AV} : binAll P op t u .nils K = ((telem P t).isSome = true ∧ (match u with | .isl _ es => (es = [] → eqK op true K) ∧ eqK op false K | .nils => eqK op true K | .osl .. => eqK op false K | _ => False)) := (rfl)
end
theorem eqK_eql {b : Bool} : eqK .eql b K = K (.bool b) := (rfl)
theorem eqK_neq {b : Bool} : eqK .neq b K = K (.bool (!b)) := (rfl)
@[congr] theorem unK_cg {op : UnOp} {x x' : AV} (e1 : mk x = x') : unK op x K = unK op x' K := by rw [← e1]; rfl
theorem unK_not {b : Bool} : unK .not (.bool b) K = K (.bool (!b)) := (rfl)
theorem unK_neg {k : IntKind} {z : Int} : unK .neg (.int k z) K = fitK k (0 - z) K := (rfl)
@[congr] theorem convK_cg {s d : TypeId} {x x' : AV} (e1 : mk x = x') : convK P s d x K = convK P s d x' K := by rw [← e1]; rfl
theorem convK_int {s d : TypeId} {k : IntKind} {z : Int} : convK P s d (.int k z) K = ((tint P s).isSome = true ∧ optK (tint P d) fun k => fitK k z K) := by
  simp only [convK, optK_eq, Option.isSome_iff_exists]
theorem convK_str {s d : TypeId} {b : ByteArray} : convK P s d (.str b) K = (tstring P s = true ∧ tstring P d = true ∧ K (.str b)) := (rfl)
@[congr] theorem extK_cg {i : Nat} {x x' : AV} (e1 : mk x = x') : extK x i K = extK x' i K := by rw [← e1]; rfl
theorem extK_tup {i : Nat} {vs : List AV} : extK (.tup vs) i K = optK vs[i]? K := optK_eq
@[congr] theorem lenK_cg {t : TypeId} {x x' : AV} (e1 : mk x = x') : lenK P t x K = lenK P t x' K := by rw [← e1]; rfl
theorem lenK_isl {t : TypeId} {k : Nat} {es : List (List AV)} : lenK P t (.isl k es) K = ((telem P t).isSome = true ∧ K (.int .i64 es.length)) := (rfl)
theorem lenK_osl {t : TypeId} {id k i len cap : Nat} {ex : Bool} : lenK P t (.osl id k i len cap ex) K = ((telem P t).isSome = true ∧ K (.int .i64 len)) := (rfl)
theorem lenK_nils {t : TypeId} : lenK P t .nils K = ((telem P t).isSome = true ∧ K (.int .i64 0)) := (rfl)
theorem lenK_str {t : TypeId} {s : ByteArray} : lenK P t (.str s) K = (tstring P t = true ∧ K (.int .i64 s.size)) := (rfl)
@[congr] theorem nilCheckK_cg {x x' : AV} (e1 : mk x = x') : nilCheckK x K = nilCheckK x' K := by rw [← e1]; rfl
theorem nilCheckK_ip {c : List AV} {o : Nat} : nilCheckK (.ip c o) K = K (.ip c o) := (rfl)
theorem nilCheckK_op {a b c d : Nat} : nilCheckK (.op a b c d) K = K (.op a b c d) := (rfl)
@[congr] theorem pickK_cg {c c' x y : AV} (e1 : mk c = c') : pickK c x y K = pickK c' x y K := by rw [← e1]; rfl
theorem pickK_eq {c x y : AV} : pickK c x y K = condK c (K x) (K y) := by cases c <;> rfl
@[congr] theorem sliceAll_cg {t : TypeId} {x x' : AV} {lo lo' hi hi' : Option AV} (e1 : mk x = x') (e2 : mk lo = lo') (e3 : mk hi = hi') : sliceAll P t x lo hi K = sliceAll P t x' lo' hi' K := by rw [← e1, ← e2, ← e3]; rfl
/-- A bound. -/
def bdK (d : Nat) (x : Option AV) (K : Nat → Prop) : Prop := match x with | none => K d | some (.int _ z) => 0 ≤ z ∧ K z.toNat | _ => False
theorem bdK_none {d : Nat} {K : Nat → Prop} : bdK d none K = K d := (rfl)
theorem bdK_some {d : Nat} {k : IntKind} {z : Int} {K : Nat → Prop} : bdK d (some (.int k z)) K = (0 ≤ z ∧ K z.toNat) := (rfl)
theorem loK_eq {x : Option AV} {K : Nat → Prop} : loK x K = bdK 0 x K := by cases x with | none => rfl | some u => cases u <;> rfl
theorem hiK_eq {d : Nat} {x : Option AV} {K : Nat → Prop} : hiK d x K = bdK d x K := by cases x with | none => rfl | some u => cases u <;> rfl
@[congr] theorem bdK_cg {d : Nat} {x x' : Option AV} {K : Nat → Prop} (e1 : mk x = x') : bdK d x K = bdK d x' K := by rw [← e1]; rfl
def slK (P : Program) (t : TypeId) (k : Nat) (es : List (List AV)) : Prop := optK (telem P t) fun e => optK (tsize P e) fun s => es ≠ [] → s = k
theorem slK_eq {t : TypeId} {k : Nat} {es : List (List AV)} : slK P t k es = optK (telem P t) fun e => optK (tsize P e) fun s => es ≠ [] → s = k := (rfl)
theorem sliceAll_isl {t : TypeId} {k : Nat} {es : List (List AV)} {lo hi : Option AV} : sliceAll P t (.isl k es) lo hi K = (slK P t k es ∧ bdK 0 lo fun l => bdK es.length hi fun m => (l ≤ m ∧ m ≤ es.length) ∧ K (.isl k ((es.drop l).take (m - l)))) := by
  simp only [sliceAll, sliceK, loK_eq, hiK_eq, ← and_assoc]
  congr 1
  · unfold slK
    cases telem P t with
    | none => simp [optK]
    | some e =>
      cases hs : tsize P e with
      | none => simp [optK, hs]
      | some s => simp [optK, hs]
theorem sliceAll_osl {t : TypeId} {id k i len cap : Nat} {ex : Bool} {lo hi : Option AV} : sliceAll P t (.osl id k i len cap ex) lo hi K = (elK P t k ∧ bdK 0 lo fun l => bdK len hi fun m => (l ≤ m ∧ m ≤ cap) ∧ if l < cap ∨ l = 0 then K (.osl id k (i + l) (m - l) (cap - l) ex) else ex = true ∧ K (.osl id k i 0 0 ex)) := by
  simp only [sliceAll, sliceK, loK_eq, hiK_eq, elK_ex, and_assoc]
  apply propext
  constructor
  · exact fun h => h.2
  · intro h
    refine ⟨?_, h⟩
    have := h.1
    rw [← elK_ex] at this
    obtain ⟨e, h1, h2⟩ := this
    exact ⟨e, k, h1, h2⟩
theorem sliceAll_nils {t : TypeId} {lo hi : Option AV} : sliceAll P t .nils lo hi K = (slK P t 0 [] ∧ bdK 0 lo fun l => bdK 0 hi fun m => (l = 0 ∧ m = 0) ∧ K .nils) := by
  simp only [sliceAll, sliceK, loK_eq, hiK_eq, and_assoc]
  apply propext
  constructor
  · rintro ⟨⟨e, s, h1, h2⟩, _, h3⟩; exact ⟨by simp [slK, h1, h2, optK], h3⟩
  · rintro ⟨h1, h2⟩
    unfold slK at h1
    cases he : telem P t with
    | none => simp [he, optK] at h1
    | some e =>
      cases hs : tsize P e with
      | none => simp [he, hs, optK] at h1
      | some s => exact ⟨⟨e, s, rfl, hs⟩, ⟨e, rfl⟩, h2⟩
end
end
end Go.AL
end

section
/- The small logic's rules for simp: stores, new objects, append, calls, what a function answers. No condition. -/
namespace Go.AL
set_option linter.unusedVariables false
set_option linter.unusedSimpArgs false
section
variable {P : Program} {n : Nat} {a : Fr} {h : Heap}
@[congr] theorem cellsK_cg {u u' : AV} {K : List AV → Prop} (e : mk u = u') : cellsK u K = cellsK u' K := by rw [← e]; rfl
@[congr] theorem storeK_cg {t : TypeId} {h h' : Heap} {p p' u u' : AV} {K : Heap → Prop} (e1 : mk h = h') (e2 : mk p = p') (e3 : mk u = u') : storeK P t h p u K = storeK P t h' p' u' K := by rw [← e1, ← e2, ← e3]; rfl
/-- An object, to be written. -/
def obxK (k : Nat) (o : Option Ob) (K : List (List AV) → Bool → Prop) : Prop := match o with | some (.arr k' es ex) => k' = k ∧ K es ex | _ => False
@[congr] theorem obxK_cg {k : Nat} {o o' : Option Ob} {K : List (List AV) → Bool → Prop} (e : mk o = o') : obxK k o K = obxK k o' K := by rw [← e]; rfl
theorem obxK_some {k : Nat} {es : List (List AV)} {ex : Bool} {K : List (List AV) → Bool → Prop} : obxK k (some (.arr k es ex)) K = K es ex := by simp [obxK]
theorem obxK_ex {k : Nat} {o : Option Ob} {K : List (List AV) → Bool → Prop} : (∃ es ex, o = some (.arr k es ex) ∧ K es ex) = obxK k o K := by
  apply propext
  constructor
  · rintro ⟨es, ex, rfl, hk⟩; exact ⟨rfl, hk⟩
  · intro hk
    cases o with
    | none => exact hk.elim
    | some o =>
      cases o with
      | arr k' es ex => obtain ⟨rfl, hk⟩ := hk; exact ⟨es, ex, rfl, hk⟩
      | _ => exact hk.elim
/-- Cells written over. -/
def patch' (c : List AV) (off : Nat) (cs : List AV) : List AV := match cs with | [v] => c.set off v | _ => patch c off cs
theorem patch_one {c : List AV} {off : Nat} {v : AV} : patch' c off [v] = c.set off v := (rfl)
theorem patch_none {c : List AV} {off : Nat} : patch' c off [] = patch c off [] := (rfl)
theorem patch_two {c : List AV} {off : Nat} {v v' : AV} {r : List AV} : patch' c off (v :: v' :: r) = c.take off ++ (v :: v' :: r) ++ c.drop (off + (v :: v' :: r).length) := (rfl)
theorem patch_eq {c : List AV} {off : Nat} {cs : List AV} (h : off + cs.length ≤ c.length) : patch c off cs = patch' c off cs := by
  match cs with
  | [] => rfl
  | [v] =>
    simp only [List.length_singleton] at h
    apply List.ext_getElem?
    intro i
    simp only [patch, patch', List.length_singleton, List.getElem?_set]
    by_cases h1 : i < off
    · rw [List.append_assoc, List.getElem?_append_left (by simp; omega), List.getElem?_take_of_lt h1, if_neg (by omega)]
    · by_cases h2 : i = off
      · subst h2
        rw [if_pos rfl, if_pos (by omega), List.append_assoc, List.getElem?_append_right (by simp; omega)]
        simp [Nat.min_eq_left (show i ≤ c.length by omega)]
      · rw [if_neg (by omega), List.getElem?_append_right (by simp; omega)]
        simp only [List.length_append, List.length_take, List.length_singleton, List.getElem?_drop, Nat.min_eq_left (show off ≤ c.length by omega)]
        congr 1
        omega
  | v :: v' :: r => rfl
theorem storeK_op {t : TypeId} {id k e off : Nat} {u : AV} {K : Heap → Prop} : storeK P t h (.op id k e off) u K = cellsK u fun cs => optK (tsize P t) fun s => s = cs.length ∧ obxK k h[id]? fun es ex => optK es[e]? fun c => off + cs.length ≤ c.length ∧ letH (h.set id (.arr k (es.set e (patch' c off cs)) ex)) K := by
  unfold storeK
  simp only [letH]
  congr 1
  funext cs
  rw [← optK_eq]
  simp only [← optK_eq (α := List AV), ← obxK_ex]
  apply propext
  constructor
  · rintro ⟨h1, es, ex, h2, c, h3, h4, h5⟩; rw [patch_eq h4] at h5; exact ⟨_, h1, rfl, es, ex, h2, c, h3, h4, h5⟩
  · rintro ⟨_, h1, rfl, es, ex, h2, c, h3, h4, h5⟩; rw [← patch_eq h4] at h5; exact ⟨h1, es, ex, h2, c, h3, h4, h5⟩
@[congr] theorem makeSliceK_cg {t : TypeId} {h h' : Heap} {l l' c c' : AV} {K : AV → Heap → Prop} (e1 : mk h = h') (e2 : mk l = l') (e3 : mk c = c') : makeSliceK P t h l c K = makeSliceK P t h' l' c' K := by rw [← e1, ← e2, ← e3]; rfl
theorem makeSliceK_int {t : TypeId} {k k' : IntKind} {l c : Int} {K : AV → Heap → Prop} : makeSliceK P t h (.int k l) (.int k' c) K = optK (telem P t) fun e => optK (zcells P e) fun z => optK (tbytes P e) fun b => (0 ≤ l ∧ l ≤ c ∧ b * c ≤ 281474976710656 ∧ c ≤ 9223372036854775807) ∧
    letH (h ++ [.arr z.length (List.replicate c.toNat z) true]) (K (.osl h.length z.length 0 l.toNat c.toNat true)) := by
  unfold makeSliceK
  simp only [letH, and_assoc]
  cases telem P t with
  | none => simp [optK]
  | some e =>
    cases hz : zcells P e with
    | none => simp [optK, hz]
    | some z =>
      cases hb : tbytes P e with
      | none => simp [optK, hz, hb]
      | some b => simp [optK, hz, hb]
theorem fillK_nil {pl : Nat → Option (Nat × Nat)} {cs : List AV} {K : List AV → Prop} : fillK pl [] cs K = K cs := (rfl)
theorem fillK_cons {pl : List (Nat × Nat)} {i : Nat} {u : AV} {r : List (Nat × AV)} {cs : List AV} {K : List AV → Prop} : fillK (fun i => pl[i]?) ((i, u) :: r) cs K = cellsK u fun us => optK pl[i]? fun x => x.2 = us.length ∧ x.1 + us.length ≤ cs.length ∧ fillK (fun i => pl[i]?) r (patch cs x.1 us) K := by
  show (cellsK u fun us => ∃ off, pl[i]? = some (off, us.length) ∧ off + us.length ≤ cs.length ∧ fillK (fun i => pl[i]?) r (patch cs off us) K) = _
  congr 1
  funext us
  rw [← optK_eq]
  apply propext
  constructor
  · rintro ⟨off, h1, h2⟩; exact ⟨_, h1, rfl, h2⟩
  · rintro ⟨⟨off, m⟩, h1, h0, h2⟩; cases h0; exact ⟨off, h1, h2⟩
@[congr] theorem fillK_cg {pl : Nat → Option (Nat × Nat)} {us us' : List (Nat × AV)} {cs cs' : List AV} {K : List AV → Prop} (e1 : mk us = us') (e2 : mk cs = cs') : fillK pl us cs K = fillK pl us' cs' K := by rw [← e1, ← e2]; rfl
theorem fillRK_nil {k : Nat} {es : List (List AV)} {K : List (List AV) → Prop} : fillRK k [] es K = K es := (rfl)
theorem fillRK_cons {k i : Nat} {u : AV} {r : List (Nat × AV)} {es : List (List AV)} {K : List (List AV) → Prop} : fillRK k ((i, u) :: r) es K = cellsK u fun us => us.length = k ∧ i < es.length ∧ fillRK k r (es.set i us) K := (rfl)
@[congr] theorem fillRK_cg {k k' : Nat} {us us' : List (Nat × AV)} {cs cs' : List (List AV)} {K : List (List AV) → Prop} (e0 : mk k = k') (e1 : mk us = us') (e2 : mk cs = cs') : fillRK k us cs K = fillRK k' us' cs' K := by rw [← e0, ← e1, ← e2]; rfl
@[congr] theorem callK_cg {f f' : AV} {us us' : List AV} {h h' : Heap} {K : AV → Heap → Prop} (e0 : mk f = f') (e1 : mk us = us') (e2 : mk h = h') : callK P f us h K = callK P f' us' h' K := by rw [← e0, ← e1, ← e2]; rfl
theorem callK_fn {g : FuncId} {first cap us : List AV} {K : AV → Heap → Prop} : callK P (.fn (.func g) first cap) us h K = ACalls P g (first ++ us ++ cap) h K := (rfl)
@[congr] theorem ACalls_cg {f : FuncId} {us us' : List AV} {h h' : Heap} {K : AV → Heap → Prop} (e1 : mk us = us') (e2 : mk h = h') : ACalls P f us h K = ACalls P f us' h' K := by rw [← e1, ← e2]; rfl
@[congr] theorem LoopK_cg {body : (Exit → Fr → Heap → Prop) → Fr → Heap → Prop} {Q : Exit → Fr → Heap → Prop} {a : Fr} {h h' : Heap} (e : mk h = h') : LoopK body Q a h = LoopK body Q a h' := by rw [← e]; rfl
@[congr] theorem GcK_cg {N N' : Nat} {a : Fr} {h : Heap} {K : Fr → Heap → Prop} (e : mk N = N') : GcK N a h K = GcK N' a h K := by rw [← e]; rfl
@[congr] theorem elemsK_cg {k k' : Nat} {x x' : AV} {h h' : Heap} {K : List (List AV) → Prop} (e0 : mk k = k') (e1 : mk x = x') (e2 : mk h = h') : elemsK h k x K = elemsK h' k' x' K := by rw [← e0, ← e1, ← e2]; rfl
theorem elemsK_nils {k : Nat} {K : List (List AV) → Prop} : elemsK h k .nils K = K [] := (rfl)
theorem elemsK_isl {k : Nat} {es : List (List AV)} {K : List (List AV) → Prop} : elemsK h k (.isl k es) K = K es := by simp [elemsK]
theorem elemsK_osl {id k i len cap : Nat} {ex : Bool} {K : List (List AV) → Prop} : elemsK h k (.osl id k i len cap ex) K = objK k h[id]? fun es => i + len ≤ es.length ∧ K ((es.drop i).take len) := by
  simp only [elemsK, true_and]
  exact objK_ex
/-- Append to a slice of an own object. -/
def apK (z : List AV) (b : Nat) (h : Heap) (s : AV) (xs : List (List AV)) (K : AV → Heap → Prop) : Prop :=
  match s with
  | .nils => xs.length * b ≤ 140737488355328 ∧ (xs = [] → K .nils h) ∧ (xs ≠ [] → growK z.length b z h.length h xs K)
  | .osl id k' i len cap ex => k' = z.length ∧ (len + xs.length) * b ≤ 140737488355328 ∧ ∃ es ex', h[id]? = some (.arr k' es ex') ∧ i + len ≤ es.length ∧
        (len + xs.length ≤ cap → i + len + xs.length ≤ es.length ∧ K (.osl id k' i (len + xs.length) cap ex) (h.set id (.arr k' (es.take (i + len) ++ xs ++ es.drop (i + len + xs.length)) ex'))) ∧
        (¬ len + xs.length ≤ cap → match ex with
          | true => growK k' b z h.length h ((es.drop i).take len ++ xs) K
          | false => i = 0 ∧ K (.osl h.length k' 0 (len + xs.length) (len + xs.length) false) (h.set id .dead ++ [.arr k' (es.take len ++ xs) false]))
  | _ => False
theorem appendK_ap {t t' : TypeId} {s x : AV} {K : AV → Heap → Prop} : appendK P t t' h s x K = ∃ e z b, telem P t = some e ∧ (telem P t').isSome = true ∧ zcells P e = some z ∧ tbytes P e = some b ∧ 0 < b ∧ elemsK h z.length x fun xs => apK z b h s xs K := by
  unfold appendK
  cases s <;> rfl
theorem appendK_eq {t t' : TypeId} {s x : AV} {K : AV → Heap → Prop} : appendK P t t' h s x K = ((telem P t').isSome = true ∧ optK (telem P t) fun e => optK (zcells P e) fun z => optK (tbytes P e) fun b => 0 < b ∧ elemsK h z.length x fun xs => apK z b h s xs K) := by
  rw [appendK_ap]
  simp only [← optK_eq]
  apply propext
  constructor
  · rintro ⟨e, z, b, h1, h2, h3, h4, h5⟩; exact ⟨h2, e, h1, z, h3, b, h4, h5⟩
  · rintro ⟨h2, e, h1, z, h3, b, h4, h5⟩; exact ⟨e, z, b, h1, h2, h3, h4, h5⟩
@[congr] theorem appendK_cg {t t' : TypeId} {h h' : Heap} {s s' x x' : AV} {K : AV → Heap → Prop} (e1 : mk h = h') (e2 : mk s = s') (e3 : mk x = x') : appendK P t t' h s x K = appendK P t t' h' s' x' K := by rw [← e1, ← e2, ← e3]; rfl
@[congr] theorem apK_cg {z z' : List AV} {b : Nat} {h h' : Heap} {s s' : AV} {xs xs' : List (List AV)} {K : AV → Heap → Prop} (e0 : mk z = z') (e1 : mk h = h') (e2 : mk s = s') (e3 : mk xs = xs') : apK z b h s xs K = apK z' b h' s' xs' K := by rw [← e0, ← e1, ← e2, ← e3]; rfl
@[congr] theorem growK_cg {k k' b : Nat} {z z' : List AV} {N N' : Nat} {g g' : Heap} {es es' : List (List AV)} {K : AV → Heap → Prop} (e0 : mk k = k') (e1 : mk z = z') (e2 : mk N = N') (e3 : mk g = g') (e4 : mk es = es') : growK k b z N g es K = growK k' b z' N' g' es' K := by rw [← e0, ← e1, ← e2, ← e3, ← e4]; rfl
theorem growK_eq {k b : Nat} {z : List AV} {N : Nat} {g : Heap} {es : List (List AV)} {K : AV → Heap → Prop} : growK k b z N g es K = condK (.bool (b == 8)) (∀ c, es.length ≤ c → letH (g ++ [.arr k (es ++ List.replicate (c - es.length) z) true]) (K (.osl N k 0 es.length c true))) (letH (g ++ [.arr k es false]) (K (.osl N k 0 es.length es.length false))) := by
  unfold growK
  by_cases c : b = 8
  · subst c; simp [condK, letH]
  · rw [if_neg c, show (b == 8) = false from beq_false_of_ne c]; simp [condK, letH]
theorem apK_nils {z : List AV} {b : Nat} {x : List AV} {xs : List (List AV)} {K : AV → Heap → Prop} : apK z b h .nils (x :: xs) K = ((x :: xs).length * b ≤ 140737488355328 ∧ growK z.length b z h.length h (x :: xs) K) := by
  simp [apK]
theorem apK_osl {z : List AV} {k b id i len cap : Nat} {ex : Bool} {xs : List (List AV)} {K : AV → Heap → Prop} : apK z b h (.osl id k i len cap ex) xs K = (k = z.length ∧ (len + xs.length) * b ≤ 140737488355328 ∧ obxK k h[id]? fun es ex' => i + len ≤ es.length ∧
        (len + xs.length ≤ cap → i + len + xs.length ≤ es.length ∧ letH (h.set id (.arr k (es.take (i + len) ++ xs ++ es.drop (i + len + xs.length)) ex')) (K (.osl id k i (len + xs.length) cap ex))) ∧
        (¬ len + xs.length ≤ cap → condK (.bool ex) (growK k b z h.length h ((es.drop i).take len ++ xs) K)
          (i = 0 ∧ letH (h.set id .dead ++ [.arr k (es.take len ++ xs) false]) (K (.osl h.length k 0 (len + xs.length) (len + xs.length) false))))) := by
  simp only [apK, ← obxK_ex, true_and, letH]
  cases ex <;> simp [condK]

@[congr] theorem clearK_cg {t : TypeId} {h h' : Heap} {x x' : AV} {K : Heap → Prop} (e1 : mk h = h') (e2 : mk x = x') : clearK P t h x K = clearK P t h' x' K := by rw [← e1, ← e2]; rfl
theorem clearK_nils {t : TypeId} {K : Heap → Prop} : clearK P t h .nils K = ((telem P t).isSome = true ∧ K h) := (rfl)
theorem clearK_osl {t : TypeId} {id k i len cap : Nat} {ex : Bool} {K : Heap → Prop} : clearK P t h (.osl id k i len cap ex) K = optK (telem P t) fun e => optK (zcells P e) fun z => k = z.length ∧ obxK k h[id]? fun es ex' => i + len ≤ es.length ∧ letH (h.set id (.arr k (es.take i ++ List.replicate len z ++ es.drop (i + len)) ex')) K := by
  simp only [clearK, ← optK_eq, ← obxK_ex, letH]
  apply propext
  constructor
  · rintro ⟨e, z, h1, h2, h3⟩; exact ⟨e, h1, z, h2, h3⟩
  · rintro ⟨e, h1, z, h2, h3⟩; exact ⟨e, z, h1, h2, h3⟩

/-! ### what a function answers -/
variable {K : List AV → Prop} {Q : AV → Heap → Prop}
theorem resK_nil : resK P a h [] K = K [] := (rfl)
theorem resK_tmp {t : Tmp} {r : List ResultVar} : resK P a h (.tmp t :: r) K = resK P a h r fun us => K (a t :: us) := (rfl)
theorem resK_cell {p t : Nat} {r : List ResultVar} : resK P a h (.cell p t :: r) K = loadK P t h (a p) fun u => resK P a h r fun us => K (u :: us) := (rfl)
theorem oneK_one {u : AV} {K : AV → Prop} : oneK [u] K = K u := (rfl)
theorem oneK_none {K : AV → Prop} : oneK [] K = K (.tup []) := (rfl)
theorem oneK_two {u v : AV} {us : List AV} {K : AV → Prop} : oneK (u :: v :: us) K = K (.tup (u :: v :: us)) := (rfl)
theorem bodyQ_normal {rs : List ResultVar} : bodyQ P rs Q .normal a h = resK P a h rs fun us => oneK us fun u => Q u h := (rfl)
theorem bodyQ_ret {rs : List ResultVar} : bodyQ P rs Q .ret a h = resK P a h rs fun us => oneK us fun u => Q u h := (rfl)

/-! ### lists of numbers, of truths -/
theorem tn1 {k : Nat} : ((k : Int) + 1).toNat = k + 1 := by omega
theorem tn2 {k : Nat} : ((k : Int) + 2).toNat = k + 2 := by omega
theorem tn3 {k : Nat} : ((k : Int) + 3).toNat = k + 3 := by omega
def intE (x : Int) : List AV := [AV.int .i64 x]
def boolE (x : Bool) : List AV := [AV.bool x]
theorem intE_eq {x : Int} : intE x = [AV.int .i64 x] := (rfl)
theorem boolE_eq {x : Bool} : boolE x = [AV.bool x] := (rfl)
theorem rep_intE {m : Nat} : List.replicate m [AV.int .i64 0] = List.map intE (List.replicate m 0) := by simp [intE]
theorem rep_boolE {m : Nat} : List.replicate m [AV.bool false] = List.map boolE (List.replicate m false) := by simp [boolE]
theorem set_intE {xs : List Int} {i : Nat} {y : Int} : (List.map intE xs).set i [AV.int .i64 y] = List.map intE (xs.set i y) := by rw [List.map_set]; rfl
theorem set_boolE {xs : List Bool} {i : Nat} {y : Bool} : (List.map boolE xs).set i [AV.bool y] = List.map boolE (xs.set i y) := by rw [List.map_set]; rfl
theorem set_bools {xs : List Bool} {i : Nat} {y : Bool} : (List.map AV.bool xs).set i (AV.bool y) = List.map AV.bool (xs.set i y) := by rw [List.map_set]
theorem app_intE {xs : List Int} {y : Int} : List.map intE xs ++ [[AV.int .i64 y]] = List.map intE (xs ++ [y]) := by rw [List.map_append]; rfl
theorem app_intE3 {xs : List Int} {a b c : Int} : List.map intE xs ++ [[AV.int .i64 a], [AV.int .i64 b], [AV.int .i64 c]] = List.map intE (xs ++ [a, b, c]) := by rw [List.map_append]; rfl
theorem take_app {xs ys : List Int} : List.take xs.length (List.map intE (xs ++ ys)) = List.map intE xs := by rw [List.map_append, List.take_append_of_le_length (by simp), List.take_of_length_le (by simp)]
theorem drop_app3 {xs : List Int} {a b c : Int} : List.drop (xs.length + 3) (List.map intE (xs ++ [a, b, c])) = [] := by apply List.drop_of_length_le; simp
theorem take_map_all {α β : Type} {f : α → β} {xs : List α} : List.take xs.length (List.map f xs) = List.map f xs := by
  rw [List.take_of_length_le (by simp)]
end
end Go.AL
end

section
/- The small logic's calls: objects left out; a function's own objects laid behind the caller's; fresh answers; loops told round by round; cuts. No condition. -/
namespace Go.AL
set_option linter.unusedVariables false
set_option linter.unusedSimpArgs false
section
variable {P : Program}

theorem ACalls.mono' {f : FuncId} {args : List AV} {h : Heap} {Q Q' : AV → Heap → Prop} (hc : ACalls P f args h Q) (hq : ∀ u h', Q u h' → Q' u h') : ACalls P f args h Q' := by
  refine ⟨hc.1, fun I β w vs r hv => (hc.2 I β w vs r hv).mono ?_⟩
  rintro e w' ⟨cv, u, I', β', h', h1, h2, h3⟩
  exact ⟨cv, u, I', β', h', h1, hq _ _ h2, h3⟩
theorem acalls_gc {f : FuncId} {args : List AV} {h : Heap} {Q : AV → Heap → Prop} (hc : ACalls P f args h fun u h' => ∃ ids : List Nat, (ids.Nodup ∧ ids.take h.length = List.range h.length) ∧ Q (u.ren (posOf ids)) (gcH ids h')) : ACalls P f args h Q := by
  refine ⟨hc.1, fun I β w vs r hv => (hc.2 I β w vs r hv).mono ?_⟩
  rintro e w' ⟨cv, u, I', β', h', h1, ⟨ids, ⟨h2, h3⟩, h4⟩, h5, h6, h7⟩
  exact ⟨cv, _, I', _, _, h1, h4, h5.gc h3, h6.gc h2, h7.gc⟩

/-! ### objects laid behind -/
def sh (N : Nat) : Nat → Option Nat := fun id => some (id + N)
def behind (h h0 : Heap) : Heap := h ++ h0.map (Ob.ren (sh h.length))
mutual
/-- Nothing in it lies in memory that is not its own. -/
def AV.lean : AV → Bool
  | .ip .. => false
  | .isl .. => false
  | .fn _ fs cs => leans fs && leans cs
  | .ifc _ v => v.lean
  | .agg cs => leans cs
  | .tup cs => leans cs
  | .int .. => true
  | .bool _ => true
  | .str _ => true
  | .flt .. => true
  | .nilp => true
  | .nils => true
  | .nilf => true
  | .nili => true
  | .nilm => true
  | .op .. => true
  | .osl .. => true
  | .om _ => true
  | .any => true
def leans : List AV → Bool
  | [] => true
  | v :: r => v.lean && leans r
end
theorem leans_get {l : List AV} (h : leans l = true) {j : Nat} {u : AV} (hj : l[j]? = some u) : u.lean = true := by
  induction l generalizing j with
  | nil => simp at hj
  | cons v r ih =>
    simp only [leans, Bool.and_eq_true] at h
    cases j with
    | zero => simp at hj; subst hj; exact h.1
    | succ j => simp at hj; exact ih h.2 hj
def Ob.lean : Ob → Bool
  | .dead => true
  | .arr _ es _ => es.all leans
  | .map es _ => es.all fun x => x.1.lean && x.2.1.lean
section
variable {I I' : Nat → Prop} {β : Nat → Nat} {N : Nat} {w : World}
theorem IRel.lean {u : AV} {v : Value} (h : IRel I w u v) (hl : u.lean = true) : IRel I' w u v := by
  induction h with
  | int k n => exact .int k n
  | bool b => exact .bool b
  | str s => exact .str s
  | flt k n => exact .flt k n
  | nilp => exact .nilp
  | nils => exact .nils
  | nilf => exact .nilf
  | nili => exact .nili
  | nilm => exact .nilm
  | ip _ _ _ _ _ _ _ _ _ _ _ => simp [AV.lean] at hl
  | isl0 _ _ _ => simp [AV.lean] at hl
  | isl _ _ _ _ _ _ _ _ _ _ _ _ _ _ => simp [AV.lean] at hl
  | fn f fs cs fs' cs' h1 h2 _ _ ih1 ih2 =>
    simp only [AV.lean, Bool.and_eq_true] at hl
    exact .fn f fs cs fs' cs' h1 h2 (fun j u v hu hv => ih1 j u v hu hv (leans_get hl.1 hu)) (fun j u v hu hv => ih2 j u v hu hv (leans_get hl.2 hu))
  | ifc t u v _ ih => exact .ifc t u v (ih (by simpa [AV.lean] using hl))
  | agg cs cs' h1 h2 _ ih => exact .agg cs cs' h1 h2 (fun j u v hu hv => ih j u v hu hv (leans_get (by simpa [AV.lean] using hl) hu))
  | tup cs cs' h1 _ ih => exact .tup cs cs' h1 (fun j u v hu hv => ih j u v hu hv (leans_get (by simpa [AV.lean] using hl) hu))
theorem VRel.lean {u : AV} {v : Value} (h : VRel I β N w u v) (hl : u.lean = true) : VRel I' β N w u v := by
  induction h with
  | imm u v h => exact .imm u v (h.lean hl)
  | any v => exact .any v
  | op id k e off h => exact .op id k e off h
  | osl id k i len cap ex c n h h0 h1 h2 h3 h4 => exact .osl id k i len cap ex c n h h0 h1 h2 h3 h4
  | om id h => exact .om id h
  | fn f fs cs fs' cs' h1 h2 _ _ ih1 ih2 =>
    simp only [AV.lean, Bool.and_eq_true] at hl
    exact .fn f fs cs fs' cs' h1 h2 (fun j u v hu hv => ih1 j u v hu hv (leans_get hl.1 hu)) (fun j u v hu hv => ih2 j u v hu hv (leans_get hl.2 hu))
  | ifc t u v _ ih => exact .ifc t u v (ih (by simpa [AV.lean] using hl))
  | agg cs cs' h1 h2 _ ih => exact .agg cs cs' h1 h2 (fun j u v hu hv => ih j u v hu hv (leans_get (by simpa [AV.lean] using hl) hu))
  | tup cs cs' h1 _ ih => exact .tup cs cs' h1 (fun j u v hu hv => ih j u v hu hv (leans_get (by simpa [AV.lean] using hl) hu))
theorem ORel.lean {o : Ob} {x : Option Obj} (h : ORel I β N w o x) (hl : o.lean = true) : ORel I' β N w o x := by
  cases o with
  | dead => trivial
  | arr k es ex =>
    obtain ⟨cur, t, h1, h2, h3, h4, h5⟩ := h
    refine ⟨cur, t, h1, h2, h3, h4, fun i e j u he hu => ?_⟩
    obtain ⟨v, h6, h7, h8⟩ := h5 i e j u he hu
    simp only [Ob.lean, List.all_eq_true] at hl
    exact ⟨v, h6, h7.lean (leans_get (hl e (List.mem_of_getElem? he)) hu), h8⟩
  | map es c =>
    obtain ⟨es', h1, h2, h3⟩ := h
    refine ⟨es', h1, h2, fun j x y hx hy => ?_⟩
    obtain ⟨q1, q2, q3⟩ := h3 j x y hx hy
    simp only [Ob.lean, List.all_eq_true, Bool.and_eq_true] at hl
    have := hl x (List.mem_of_getElem? hx)
    exact ⟨q1.lean this.1, q2.lean this.2, q3⟩
end

def joinB (N : Nat) (β β' : Nat → Nat) : Nat → Nat := fun id => if id < N then β id else β' (id - N)
theorem behind_length {h h0 : Heap} : (behind h h0).length = h.length + h0.length := by simp [behind]
theorem behind_get {h h0 : Heap} {id : Nat} {o : Ob} (ho : (behind h h0)[id]? = some o) : (id < h.length ∧ h[id]? = some o) ∨ (h.length ≤ id ∧ ∃ o0, h0[id - h.length]? = some o0 ∧ o = o0.ren (sh h.length)) := by
  unfold behind at ho
  by_cases hid : id < h.length
  · rw [List.getElem?_append_left hid] at ho; exact .inl ⟨hid, ho⟩
  · rw [List.getElem?_append_right (by omega), List.getElem?_map] at ho
    cases hh : h0[id - h.length]? with
    | none => rw [hh] at ho; simp at ho
    | some o0 => rw [hh] at ho; simp at ho; exact .inr ⟨by omega, o0, rfl, ho.symm⟩

theorem shift_core {I I' : Nat → Prop} {β β' : Nat → Nat} {h h0 : Heap} {w w' : World} (r : Rel I β h w) (hos : w'.os = w.os) (htp : w'.tape = w.tape) (hout : w'.output = w.output) (hsz : w.heap.size ≤ w'.heap.size)
    (hkeep : ∀ b, b < w.heap.size → w'.heap[b]? = w.heap[b]?) (hown : ∀ b, Own h0 β' b → w.heap.size ≤ b) (r0 : Rel I' β' h0 w') (hI : ∀ b, I b → I' b) (hnew : ∀ b, I' b → I b ∨ w.heap.size ≤ b) :
    Ext I β h w I' (joinB h.length β β') (behind h h0) w' ∧ Rel I' (joinB h.length β β') (behind h h0) w' ∧ ∀ u v, VRel I' β' h0.length w' u v → VRel I' (joinB h.length β β') (behind h h0).length w' (u.ren (sh h.length)) v := by
  have hbs : ∀ b n, bsize w b = some n → bsize w' b = some n := fun b n hb => by
    have hlt : b < w.heap.size := by
      unfold bsize at hb
      split at hb
      · rename_i h1; exact (Array.getElem?_eq_some_iff.1 h1).1
      · simp at hb
    rw [bsize_of_heap (hkeep b hlt)]
    exact hb
  have hj1 : ∀ id, id < h.length → joinB h.length β β' id = β id := fun id hid => by simp [joinB, hid]
  have hj2 : ∀ id, joinB h.length β β' (id + h.length) = β' id := fun id => by unfold joinB; rw [if_neg (by omega), Nat.add_sub_cancel]
  have hρ : ∀ id j, id < h0.length → sh h.length id = some j → j < (behind h h0).length ∧ joinB h.length β β' j = β' id := fun id j hid hj => by
    simp only [sh, Option.some.injEq] at hj
    subst hj
    exact ⟨by rw [behind_length]; omega, hj2 id⟩
  have hm : ∀ u v, VRel I β h.length w u v → VRel I' (joinB h.length β β') (behind h h0).length w' u v := fun u v hv =>
    hv.mono hI (fun b hb => hkeep b (r.imm b hb)) (by rw [behind_length]; omega) (fun id hid => hj1 id hid) hbs
  refine ⟨⟨hos, htp, hout, hsz, by rw [behind_length]; omega, fun id hid => hj1 id hid, hI, fun b hb => (hnew b hb).imp id .inr, fun b hb => ?_, fun b hb _ => hkeep b hb, hbs⟩, ⟨r0.imm, fun id o ho hd => ?_, fun id id' o o' ho hd ho' hd' hb => ?_⟩, fun u v hv => hv.ren hρ⟩
  · obtain ⟨id, o, ho, hd, rfl⟩ := hb
    rcases behind_get ho with ⟨h1, h2⟩ | ⟨h1, o0, h2, rfl⟩
    · rw [hj1 id h1]; exact .inl ⟨id, o, h2, hd, rfl⟩
    · obtain ⟨j, rfl⟩ : ∃ j, id = j + h.length := ⟨id - h.length, by omega⟩
      rw [hj2]
      exact .inr (hown _ ⟨j, o0, by simpa using h2, Ob.ren_dead hd, rfl⟩)
  · rcases behind_get ho with ⟨h1, h2⟩ | ⟨h1, o0, h2, rfl⟩
    · rw [hj1 id h1]
      obtain ⟨q1, q2, q3⟩ := r.obj id o h2 hd
      refine ⟨by omega, fun hi => ?_, by rw [hkeep _ q1]; exact q3.mono hm⟩
      rcases hnew _ hi with h3 | h3
      · exact q2 h3
      · omega
    · obtain ⟨j, rfl⟩ : ∃ j, id = j + h.length := ⟨id - h.length, by omega⟩
      rw [hj2]
      obtain ⟨q1, q2, q3⟩ := r0.obj j o0 (by simpa using h2) (Ob.ren_dead hd)
      exact ⟨q1, q2, q3.ren hρ⟩
  · rcases behind_get ho with ⟨h1, h2⟩ | ⟨h1, o0, h2, rfl⟩ <;> rcases behind_get ho' with ⟨h1', h2'⟩ | ⟨h1', o0', h2', rfl⟩
    · rw [hj1 id h1, hj1 id' h1'] at hb; exact r.inj id id' o o' h2 hd h2' hd' hb
    · obtain ⟨j, rfl⟩ : ∃ j, id' = j + h.length := ⟨id' - h.length, by omega⟩
      rw [hj1 id h1, hj2] at hb
      have q := hown _ ⟨j, o0', by simpa using h2', Ob.ren_dead hd', rfl⟩
      have q' := (r.obj id o h2 hd).1
      omega
    · obtain ⟨j, rfl⟩ : ∃ j, id = j + h.length := ⟨id - h.length, by omega⟩
      rw [hj1 id' h1', hj2] at hb
      have q := hown _ ⟨j, o0, by simpa using h2, Ob.ren_dead hd, rfl⟩
      have q' := (r.obj id' o' h2' hd').1
      omega
    · obtain ⟨j, rfl⟩ : ∃ j, id = j + h.length := ⟨id - h.length, by omega⟩
      obtain ⟨j', rfl⟩ : ∃ j, id' = j + h.length := ⟨id' - h.length, by omega⟩
      rw [hj2, hj2] at hb
      rw [r0.inj j j' o0 o0' (by simpa using h2) (Ob.ren_dead hd) (by simpa using h2') (Ob.ren_dead hd') hb]

/-- A function that was walked from an empty heap, called with values alone. -/
theorem acalls_shift {f : FuncId} {args : List AV} {h : Heap} {R Q : AV → Heap → Prop} (hc : ACalls P f args [] R) (ha : pures args = true) (hq : ∀ u h0, R u h0 → Q (u.ren (sh h.length)) (behind h h0)) : ACalls P f args h Q := by
  refine ⟨hc.1, fun I β w vs r hv => ?_⟩
  have hv' : VRels I (fun _ => 0) 0 w args vs := ⟨hv.1, fun j u v hu hv' => .imm _ _ ((hv.2 j u v hu hv').toI (pures_get ha hu))⟩
  refine (hc.2 I (fun _ => 0) w vs ⟨r.imm, fun id o h => by simp at h, fun id id' o o' h => by simp at h⟩ hv').mono ?_
  rintro e w' ⟨cv, u, I', β', h0, rfl, hr, he, r0, hvr⟩
  obtain ⟨h1, h2, h3⟩ := shift_core r he.os he.tape he.output he.size (fun b hb => he.keep b hb own_nil) (fun b hb => (he.own b hb).elim (fun x => absurd x own_nil) id) r0 he.sub
    (fun b hb => (he.immnew b hb).elim .inl fun x => x.elim (fun x => absurd x own_nil) .inr)
  exact ⟨cv, _, I', _, _, rfl, hq _ _ hr, h1, h2, h3 _ _ hvr⟩

/-- The same, what one owns lent to it; what it hands back is its own. -/
theorem acalls_lend_shift {f : FuncId} {args args' : List AV} {h : Heap} {R Q : AV → Heap → Prop} (hc : ACalls P f args' [] R) (ha : Frzs h args args') (hq : ∀ u h0, R u h0 → (u.lean = true ∧ ∀ o, o ∈ h0 → o.lean = true) ∧ Q (u.ren (sh h.length)) (behind h h0)) : ACalls P f args h Q := by
  refine ⟨hc.1, fun I β w vs r hv => ?_⟩
  have hJ : ∀ b, IO I β h b → b < w.heap.size := by
    rintro b (hb | ⟨id, o, h1, h2, rfl⟩)
    · exact r.imm b hb
    · exact (r.obj id o h1 h2).1
  have hv' : VRels (IO I β h) (fun _ => 0) 0 w args' vs := ⟨by rw [ha.1]; exact hv.1, fun j u' v hu hv' => by
    obtain ⟨u, hu0⟩ := getElem?_lt ha.1 hu
    exact .imm _ _ ((ha.2 j u u' hu0 hu).rel r (hv.2 j u v hu0 hv'))⟩
  refine (hc.2 (IO I β h) (fun _ => 0) w vs ⟨hJ, fun id o h => by simp at h, fun id id' o o' h => by simp at h⟩ hv').mono ?_
  rintro e w' ⟨cv, u, I', β', h0, rfl, hr, he, r0, hvr⟩
  obtain ⟨⟨hl1, hl2⟩, hqq⟩ := hq _ _ hr
  have r0' : Rel (fun b => I b ∨ (I' b ∧ w.heap.size ≤ b)) β' h0 w' := by
    refine ⟨fun b hb => ?_, fun id o h1 h2 => ?_, r0.inj⟩
    · rcases hb with hb | hb
      · have := r.imm b hb; have := he.size; omega
      · exact r0.imm b hb.1
    · obtain ⟨q1, q2, q3⟩ := r0.obj id o h1 h2
      refine ⟨q1, fun hx => q2 ?_, q3.lean (hl2 o (List.mem_of_getElem? h1))⟩
      rcases hx with hx | hx
      · exact he.sub _ (.inl hx)
      · exact hx.1
  obtain ⟨h1, h2, h3⟩ := shift_core r he.os he.tape he.output he.size (fun b hb => he.keep b hb own_nil) (fun b hb => (he.own b hb).elim (fun x => absurd x own_nil) id) r0' (fun b hb => .inl hb) (fun b hb => hb.imp id fun x => x.2)
  exact ⟨cv, _, _, _, _, rfl, hqq, h1, h2, h3 _ _ (hvr.lean hl1)⟩

/-- What is told of an own value once nobody writes it any more, and nothing of it lies elsewhere. -/
inductive OFz (h : Heap) : AV → AV → Prop
  | flat (u : AV) : u.flat = true → OFz h u u
  | nils (k : Nat) : OFz h .nils (.isl k [])
  | osl (id k i len cap : Nat) (ex ex' : Bool) (es : List (List AV)) : h[id]? = some (.arr k es ex') → i + len ≤ es.length → (∀ e, e ∈ es → flats e = true) → OFz h (.osl id k i len cap ex) (.isl k ((es.drop i).take len))
  | tup (cs cs' : List AV) : cs'.length = cs.length → (∀ (q : Nat) (u u' : AV), cs[q]? = some u → cs'[q]? = some u' → OFz h u u') → OFz h (.tup cs) (.tup cs')
  | agg (cs cs' : List AV) : cs'.length = cs.length → (∀ (q : Nat) (u u' : AV), cs[q]? = some u → cs'[q]? = some u' → OFz h u u') → OFz h (.agg cs) (.agg cs')
theorem OFz.two {h : Heap} {u v u' v' : AV} (h1 : OFz h u u') (h2 : OFz h v v') : OFz h (.tup [u, v]) (.tup [u', v']) := by
  refine .tup _ _ rfl fun q x x' hx hx' => ?_
  match q with
  | 0 => simp at hx hx'; subst hx hx'; exact h1
  | 1 => simp at hx hx'; subst hx hx'; exact h2
  | q + 2 => simp at hx
theorem OFz.three {h : Heap} {u v t u' v' t' : AV} (h1 : OFz h u u') (h2 : OFz h v v') (h3 : OFz h t t') : OFz h (.tup [u, v, t]) (.tup [u', v', t']) := by
  refine .tup _ _ rfl fun q x x' hx hx' => ?_
  match q with
  | 0 => simp at hx hx'; subst hx hx'; exact h1
  | 1 => simp at hx hx'; subst hx hx'; exact h2
  | 2 => simp at hx hx'; subst hx hx'; exact h3
  | q + 3 => simp at hx
mutual
theorem flat_pure : ∀ (u : AV), u.flat = true → u.pure = true
  | .agg cs, h => by simpa [AV.pure] using flat_pures cs (by simpa [AV.flat] using h)
  | .tup cs, h => by simpa [AV.pure] using flat_pures cs (by simpa [AV.flat] using h)
  | .int .., _ => rfl
  | .bool _, _ => rfl
  | .str _, _ => rfl
  | .flt .., _ => rfl
  | .nilp, _ => rfl
  | .nils, _ => rfl
  | .nilf, _ => rfl
  | .nili, _ => rfl
  | .nilm, _ => rfl
  | .ip .., h => by simp [AV.flat] at h
  | .isl .., h => by simp [AV.flat] at h
  | .op .., h => by simp [AV.flat] at h
  | .osl .., h => by simp [AV.flat] at h
  | .om _, h => by simp [AV.flat] at h
  | .fn .., h => by simp [AV.flat] at h
  | .ifc .., h => by simp [AV.flat] at h
  | .any, h => by simp [AV.flat] at h
theorem flat_pures : ∀ (l : List AV), flats l = true → pures l = true
  | [], _ => rfl
  | a :: l, h => by
    simp only [flats, pures, Bool.and_eq_true] at h ⊢
    exact ⟨flat_pure a h.1, flat_pures l h.2⟩
end
theorem OFz.rel {I : Nat → Prop} {β : Nat → Nat} {h : Heap} {w : World} (r : Rel I β h w) {u u' : AV} (hf : OFz h u u') : ∀ {v : Value}, VRel I β h.length w u v → IRel (Own h β) w u' v := by
  induction hf with
  | flat u hp => intro v hv; exact (hv.toI (flat_pure u hp)).flat hp
  | nils k => intro v hv; rw [hv.nils_inv]; exact .isl0 k none 0
  | osl id k i len cap ex ex' es hid hle hp =>
    intro v hv
    have h1 := (Frz.flat (cap := cap) (ex := ex) hid hle (fun e he => flat_pures e (hp e he))).rel r hv
    have hp' : ∀ e, e ∈ (es.drop i).take len → flats e = true := fun e he => hp e (List.mem_of_mem_drop (List.mem_of_mem_take he))
    obtain ⟨cc, n, hv2, hidl, _⟩ := hv.osl_inv
    generalize (es.drop i).take len = X at h1 hp'
    cases h1 with
    | isl0 k A c => exact .isl0 k A c
    | isl k es' b o c f hne hl hb hk hc ho hr =>
      simp only [Value.slice.injEq, Option.some.injEq, Addr.mk.injEq] at hv2
      exact .isl k _ b o c f hne hl ⟨id, _, hid, by simp, hv2.1.1.symm⟩ hk hc ho (fun j e q u he hu => (hr j e q u he hu).flat (flats_get (hp' e (List.mem_of_getElem? he)) hu))
  | tup cs cs' hl _ ih =>
    intro v hv
    obtain ⟨vs, rfl, h1, h2⟩ := hv.tup_inv
    refine .tup _ _ (by omega) fun j u' v' hu hv' => ?_
    obtain ⟨u, hu0⟩ := getElem?_lt hl hu
    exact ih j u u' hu0 hu (h2 j u v' hu0 hv')
  | agg cs cs' hl _ ih =>
    intro v hv
    obtain ⟨vs, rfl, h1, h2, h3⟩ := hv.agg_inv
    refine .agg _ _ (by omega) h2 fun j u' v' hu hv' => ?_
    obtain ⟨u, hu0⟩ := getElem?_lt hl hu
    exact ih j u u' hu0 hu (h3 j u v' hu0 hv')

/-- A FRESH ANSWER: what one owns lent to a function; what it hands back lies in memory that nobody writes, and the heap stays. -/
theorem acalls_fresh {f : FuncId} {args args' : List AV} {h : Heap} {R Q : AV → Heap → Prop} (hc : ACalls P f args' [] R) (ha : Frzs h args args') (hq : ∀ u h0, R u h0 → ∃ r, OFz h0 u r ∧ Q r h) : ACalls P f args h Q := by
  refine ⟨hc.1, fun I β w vs r hv => ?_⟩
  have hJ : ∀ b, IO I β h b → b < w.heap.size := by
    rintro b (hb | ⟨id, o, h1, h2, rfl⟩)
    · exact r.imm b hb
    · exact (r.obj id o h1 h2).1
  have hv' : VRels (IO I β h) (fun _ => 0) 0 w args' vs := ⟨by rw [ha.1]; exact hv.1, fun j u' v hu hv' => by
    obtain ⟨u, hu0⟩ := getElem?_lt ha.1 hu
    exact .imm _ _ ((ha.2 j u u' hu0 hu).rel r (hv.2 j u v hu0 hv'))⟩
  refine (hc.2 (IO I β h) (fun _ => 0) w vs ⟨hJ, fun id o h => by simp at h, fun id id' o o' h => by simp at h⟩ hv').mono ?_
  rintro e w' ⟨cv, u, I', β', h0, rfl, hr, he, r0, hvr⟩
  obtain ⟨rr, hz, hqq⟩ := hq _ _ hr
  have hown : ∀ b, Own h0 β' b → w.heap.size ≤ b := fun b hb => (he.own b hb).elim (fun x => absurd x own_nil) id
  have hlt : ∀ b, I b ∨ Own h0 β' b → b < w'.heap.size := fun b hb => by
    rcases hb with hb | ⟨id, o, h1, h2, rfl⟩
    · have := r.imm b hb; have := he.size; omega
    · exact (r0.obj id o h1 h2).1
  obtain ⟨h1, h2⟩ := r.pext (J := I) (I' := fun b => I b ∨ Own h0 β' b) (w' := w') r.imm ⟨he.os, he.tape, he.output, he.size, fun b hb => he.keep b hb own_nil, fun b hb => .inl hb, fun b hb => hb.imp id (hown b), hlt⟩ (fun _ x => x)
  exact ⟨cv, rr, _, β, h, rfl, hqq, h1, h2, .imm _ _ ((hz.rel r0 hvr).mono (fun b hb => .inr ⟨.inr hb, hown b hb⟩) (fun _ _ => rfl))⟩
end
end Go.AL
end

section
/- The small logic holds on: of more, where it holds of less; loops told round by round; cuts. No condition. -/
namespace Go.AL
set_option linter.unusedVariables false
set_option linter.unusedSimpArgs false
section
variable {P : Program} {a : Fr} {h : Heap}
theorem storeK_imp {t : TypeId} {p u : AV} {K K' : Heap → Prop} (hK : ∀ h, K h → K' h) (hk : storeK P t h p u K) : storeK P t h p u K' := by
  cases p with
  | op id k e off => exact cellsK_imp (fun cs ⟨h1, es, ex, h2, c, h3, h4, h5⟩ => ⟨h1, es, ex, h2, c, h3, h4, hK _ h5⟩) hk
  | _ => exact hk.elim
theorem makeSliceK_imp {t : TypeId} {l c : AV} {K K' : AV → Heap → Prop} (hK : ∀ u h, K u h → K' u h) (hk : makeSliceK P t h l c K) : makeSliceK P t h l c K' := by
  cases l with
  | int k l => cases c with
    | int k' c => obtain ⟨e, z, b, h1, h2, h3, h4, h5, h6, h7, h8⟩ := hk; exact ⟨e, z, b, h1, h2, h3, h4, h5, h6, h7, hK _ _ h8⟩
    | _ => exact hk.elim
  | _ => exact hk.elim
theorem elemsK_imp {k : Nat} {x : AV} {K K' : List (List AV) → Prop} (hK : ∀ es, K es → K' es) (hk : elemsK h k x K) : elemsK h k x K' := by
  cases x with
  | nils => exact hK _ hk
  | isl k' es => exact ⟨hk.1, hK _ hk.2⟩
  | osl id k' i len cap ex => obtain ⟨h1, es, ex', h2, h3, h4⟩ := hk; exact ⟨h1, es, ex', h2, h3, hK _ h4⟩
  | _ => exact hk.elim
theorem growK_imp {k b : Nat} {z : List AV} {N : Nat} {g : Heap} {es : List (List AV)} {K K' : AV → Heap → Prop} (hK : ∀ u h, K u h → K' u h) (hk : growK k b z N g es K) : growK k b z N g es K' := by
  unfold growK at hk ⊢
  split
  · rename_i c; rw [if_pos c] at hk; exact fun c h => hK _ _ (hk c h)
  · rename_i c; rw [if_neg c] at hk; exact hK _ _ hk
theorem apK_imp {z : List AV} {b : Nat} {s : AV} {xs : List (List AV)} {K K' : AV → Heap → Prop} (hK : ∀ u h, K u h → K' u h) (hk : apK z b h s xs K) : apK z b h s xs K' := by
  cases s with
  | nils => exact ⟨hk.1, fun e => hK _ _ (hk.2.1 e), fun e => growK_imp hK (hk.2.2 e)⟩
  | osl id k' i len cap ex =>
    obtain ⟨h1, h2, es, ex', h3, h4, h5, h6⟩ := hk
    refine ⟨h1, h2, es, ex', h3, h4, fun e => ⟨(h5 e).1, hK _ _ (h5 e).2⟩, fun e => ?_⟩
    have := h6 e
    cases ex with
    | true => exact growK_imp hK this
    | false => exact ⟨this.1, hK _ _ this.2⟩
  | _ => exact hk.elim
theorem appendK_imp {t t' : TypeId} {s x : AV} {K K' : AV → Heap → Prop} (hK : ∀ u h, K u h → K' u h) (hk : appendK P t t' h s x K) : appendK P t t' h s x K' := by
  rw [appendK_ap] at hk ⊢
  obtain ⟨e, z, b, h1, h2, h3, h4, h5, h6⟩ := hk
  exact ⟨e, z, b, h1, h2, h3, h4, h5, elemsK_imp (fun _ => apK_imp hK) h6⟩
theorem clearK_imp {t : TypeId} {x : AV} {K K' : Heap → Prop} (hK : ∀ h, K h → K' h) (hk : clearK P t h x K) : clearK P t h x K' := by
  cases x with
  | nils => exact ⟨hk.1, hK _ hk.2⟩
  | osl id k i len cap ex => obtain ⟨e, z, h1, h2, h3, es, ex', h4, h5, h6⟩ := hk; exact ⟨e, z, h1, h2, h3, es, ex', h4, h5, hK _ h6⟩
  | _ => exact hk.elim
theorem callK_imp {f : AV} {us : List AV} {K K' : AV → Heap → Prop} (hK : ∀ u h, K u h → K' u h) (hk : callK P f us h K) : callK P f us h K' := by
  cases f with
  | fn g first cap => cases g with
    | func g => exact ACalls.mono' hk hK
    | _ => exact hk.elim
  | _ => exact hk.elim
theorem aop_imp {op : Op} {K K' : AV → Heap → Prop} (hK : ∀ u h, K u h → K' u h) (hk : aop P op a h K) : aop P op a h K' := by
  by_cases hq : quietOp op = true
  · exact aop_quiet hq (fun u => hK u h) hk
  cases op with
  | alloc t => obtain ⟨cs, h1, h2⟩ := hk; exact ⟨cs, h1, hK _ _ h2⟩
  | box t x => simp only [aop] at hk ⊢; exact evK_imp' (fun _ => cellsK_imp fun _ h => hK _ _ h) hk
  | buildSlice t len parts => simp only [aop] at hk ⊢; exact evpK_imp' (fun us ⟨e, z, h1, h2, h3, h4⟩ => ⟨e, z, h1, h2, h3, fillRK_imp (fun _ h => hK _ _ h) h4⟩) hk
  | load t x => simp only [aop] at hk ⊢; exact evK_imp' (fun _ => loadK_imp fun _ h => hK _ _ h) hk
  | store t p x => simp only [aop] at hk ⊢; exact evK_imp' (fun _ => evK_imp' fun _ => storeK_imp fun _ h => hK _ _ h) hk
  | makeSlice t l c => simp only [aop] at hk ⊢; exact evK_imp' (fun _ => evK_imp' fun _ => makeSliceK_imp hK) hk
  | call c =>
    obtain ⟨callee, args, ts⟩ := c
    cases callee with
    | value f => simp only [aop] at hk ⊢; exact evK_imp' (fun _ => evsK_imp' fun _ => callK_imp hK) hk
    | builtin b =>
      cases b with
      | clear =>
        simp only [aop, builtinK] at hk ⊢
        split at hk
        · exact evK_imp' (fun _ => clearK_imp fun h => hK _ h) hk
        · exact hk.elim
      | append =>
        simp only [aop, builtinK] at hk ⊢
        split at hk
        · exact evK_imp' (fun _ => evK_imp' fun _ => appendK_imp hK) hk
        · exact hk.elim
      | _ => first | exact absurd rfl hq | exact hk.elim
    | invoke r m => exact hk.elim
  | _ => first | exact absurd rfl hq | exact hk.elim

variable {n : Nat}
theorem putK_imp {dst : Option Tmp} {v : AV} {K K' : Fr → Prop} (hK : ∀ a, K a → K' a) (hk : putK n dst a v K) : putK n dst a v K' := by
  cases dst with
  | none => exact hK _ hk
  | some d => exact ⟨hk.1, hK _ hk.2⟩
theorem guardK_imp {ops : List Oper} {g : Option (Nat × Bool)} {K K' : Bool → Prop} (hK : ∀ b, K b → K' b) (hk : guardK ops g a K) : guardK ops g a K' := by
  cases g with
  | none => exact hK _ hk
  | some x =>
    obtain ⟨j, want⟩ := x
    simp only [guardK] at hk ⊢
    cases hs : gslot ops j with
    | none => simp [hs] at hk
    | some t =>
      simp only [hs] at hk ⊢
      cases ha : a t with
      | bool b => simp only [ha] at hk ⊢; exact ⟨fun e => hK _ (hk.1 e), fun e => hK _ (hk.2 e)⟩
      | tup l => cases l with
        | nil => simp only [ha] at hk ⊢; exact hK _ hk
        | cons _ _ => simp [ha] at hk
      | _ => simp [ha] at hk
theorem aops_imp {all : List Oper} : ∀ {l : List Oper} {a : Fr} {h : Heap} {K K' : Fr → Heap → Prop}, (∀ a h, K a h → K' a h) → aops P n all l a h K → aops P n all l a h K'
  | [], a, h, K, K', hK, hk => hK _ _ hk
  | o :: l, a, h, K, K', hK, hk => by
    unfold aops at hk ⊢
    refine guardK_imp (fun b hb => ?_) hk
    cases b with
    | true => exact aop_imp (fun u h => putK_imp fun a => aops_imp hK) hb
    | false => exact putK_imp (fun a => aops_imp hK) hb
theorem adr_imp {all : List Oper} : ∀ {pl : Plan} {a : Fr} {h : Heap} {done : List (Nat × Fr × AV)} {K K' : Fr → Heap → Prop}, (∀ a h, K a h → K' a h) → adr P n all pl a h done K → adr P n all pl a h done K'
  | [], a, h, done, K, K', hK, hk => hK _ _ hk
  | (i, keep, rs) :: rest, a, h, done, K, K', hK, hk => by
    unfold adr at hk ⊢
    cases ho : all[i]? with
    | none => rw [ho] at hk; exact hk.elim
    | some o =>
      rw [ho] at hk
      refine guardK_imp (fun b hb => ?_) hk
      cases b with
      | true =>
        simp only at hb ⊢
        cases hp : pureOp o.op with
        | true => rw [hp] at hb; obtain ⟨v, h1, h2⟩ := hb; exact ⟨v, h1, putK_imp (fun a => adr_imp hK) h2⟩
        | false => rw [hp] at hb; exact aop_imp (fun u h ⟨h1, h2⟩ => ⟨h1, putK_imp (fun a => adr_imp hK) h2⟩) hb
      | false => exact putK_imp (fun a => adr_imp hK) hb
theorem adrD_imp {all : List Oper} {pl : Plan} {a : Fr} {h : Heap} {K K' : Fr → Heap → Prop} (hK : ∀ a h, K a h → K' a h) (hk : adrD P n all pl a h K) : adrD P n all pl a h K' := by
  unfold adrD at hk ⊢
  cases ht : twoOf pl with
  | none => rw [ht] at hk; exact adr_imp hK hk
  | some x => obtain ⟨p, t1, t2⟩ := x; rw [ht] at hk; exact adrX_mono (fun a d hh => ⟨adr_imp hK hh.1, adr_imp hK hh.2⟩) _ _ _ hk
variable {pl : Nat → Plan}
theorem thenK_imp {K K' : Fr → Heap → Prop} {Q Q' : Exit → Fr → Heap → Prop} (hK : ∀ a h, K a h → K' a h) (hQ : ∀ e a h, Q e a h → Q' e a h) : ∀ e a h, thenK K Q e a h → thenK K' Q' e a h := fun e a h hk => by
  cases e <;> first | exact hK _ _ hk | exact hQ _ _ _ hk
theorem blockK_imp {id : Nat} {Q Q' : Exit → Fr → Heap → Prop} (hQ : ∀ e a h, Q e a h → Q' e a h) : ∀ e a h, blockK id Q e a h → blockK id Q' e a h := fun e a h hk => by
  cases e with
  | exit j =>
    simp only [blockK] at hk ⊢
    by_cases hj : j = id
    · rw [if_pos hj] at hk ⊢; exact hQ _ _ _ hk
    · rw [if_neg hj] at hk ⊢; exact hQ _ _ _ hk
  | _ => exact hQ _ _ _ hk
theorem asx_imp : ∀ {c : Code} {a : Fr} {h : Heap} {Q Q' : Exit → Fr → Heap → Prop}, (∀ e a h, Q e a h → Q' e a h) → asx P n pl c Q a h → asx P n pl c Q' a h := by
  intro c
  induction c with
  | skip => intro a h Q Q' hQ hk; exact hQ _ _ _ hk
  | region id ops draw =>
    intro a h Q Q' hQ hk
    cases draw with
    | false => exact aops_imp (K := fun a h => Q .normal a h) (K' := fun a h => Q' .normal a h) (fun a h => hQ _ a h) hk
    | true => exact adrD_imp (K := fun a h => Q .normal a h) (K' := fun a h => Q' .normal a h) (fun a h => hQ _ a h) hk
  | seq x y ihx ihy => intro a h Q Q' hQ hk; exact ihx (thenK_imp (fun a h => ihy hQ) hQ) hk
  | cond x t e iht ihe =>
    intro a h Q Q' hQ hk
    refine evK_imp' (fun u hu => ?_) hk
    cases u with
    | bool b => exact ⟨fun e => iht hQ (hu.1 e), fun e => ihe hQ (hu.2 e)⟩
    | _ => exact hu.elim
  | block id c ih => intro a h Q Q' hQ hk; exact ih (blockK_imp hQ) hk
  | loop c ih =>
    intro a h Q Q' hQ hk
    obtain ⟨J, h0, hr⟩ := hk
    exact ⟨J, h0, fun m a1 h1 hj => ih (thenK_imp (fun _ _ x => x) hQ) (hr m a1 h1 hj)⟩
  | exit id => intro a h Q Q' hQ hk; exact hQ _ _ _ hk
  | ret => intro a h Q Q' hQ hk; exact hQ _ _ _ hk
  | label l => intro a h Q Q' hQ hk; exact hQ _ _ _ hk
  | _ => intro a h Q Q' hQ hk; exact hk.elim

/-- A join: what holds ahead of the second part. -/
theorem asx_cut {x y : Code} {Q : Exit → Fr → Heap → Prop} (M : Fr → Heap → Prop) (hx : asx P n pl x (thenK M Q) a h) (hy : ∀ a h, M a h → asx P n pl y Q a h) : asx P n pl (.seq x y) Q a h := by
  unfold asx
  exact asx_imp (thenK_imp hy fun _ _ _ hq => hq) hx

/-- A loop, round by round: at most m of them. -/
def LoopN (P : Program) (n : Nat) (pl : Nat → Plan) (c : Code) (Q : Exit → Fr → Heap → Prop) : Nat → Fr → Heap → Prop
  | 0, _, _ => False
  | m + 1, a, h => asx P n pl c (thenK (LoopN P n pl c Q m) Q) a h
theorem LoopN.loop {c : Code} {Q : Exit → Fr → Heap → Prop} (m : Nat) (hl : LoopN P n pl c Q m a h) : LoopK (asx P n pl c) Q a h := by
  refine LoopK.intro (fun m a h => LoopN P n pl c Q m a h) m hl fun m a1 h1 hj => ?_
  cases m with
  | zero => exact hj.elim
  | succ m => exact asx_imp (thenK_imp (fun a h hk => .inl ⟨m, Nat.lt_succ_self m, hk⟩) fun _ _ _ hq => hq) hj
theorem LoopN_succ {c : Code} {Q : Exit → Fr → Heap → Prop} {m : Nat} : LoopN P n pl c Q (m + 1) a h = asx P n pl c (thenK (LoopN P n pl c Q m) Q) a h := rfl
end
end Go.AL
end

section
/- The small logic's calls, for simp: renamed values and objects; lists of numbers lent. No condition. -/
namespace Go.AL
set_option linter.unusedVariables false
set_option linter.unusedSimpArgs false
def ints (xs : List Int) : AV := .isl 1 (List.map intE xs)
theorem ren_osl {N id k i len cap : Nat} {ex : Bool} : AV.ren (sh N) (.osl id k i len cap ex) = .osl (id + N) k i len cap ex := (rfl)
theorem ren_op {N id k e off : Nat} : AV.ren (sh N) (.op id k e off) = .op (id + N) k e off := (rfl)
theorem ren_int {ρ : Nat → Option Nat} {k : IntKind} {n : Int} : AV.ren ρ (.int k n) = .int k n := (rfl)
theorem ren_bool {ρ : Nat → Option Nat} {b : Bool} : AV.ren ρ (.bool b) = .bool b := (rfl)
theorem ren_nils {ρ : Nat → Option Nat} : AV.ren ρ .nils = .nils := (rfl)
theorem ren_tup {ρ : Nat → Option Nat} {vs : List AV} : AV.ren ρ (.tup vs) = .tup (rens ρ vs) := (rfl)
theorem ren_agg {ρ : Nat → Option Nat} {vs : List AV} : AV.ren ρ (.agg vs) = .agg (rens ρ vs) := (rfl)
theorem ren_isl {ρ : Nat → Option Nat} {k : Nat} {es : List (List AV)} : AV.ren ρ (.isl k es) = .isl k es := (rfl)
theorem rens_nil {ρ : Nat → Option Nat} : rens ρ [] = [] := (rfl)
theorem rens_cons {ρ : Nat → Option Nat} {v : AV} {r : List AV} : rens ρ (v :: r) = v.ren ρ :: rens ρ r := (rfl)
theorem ren_intEs {ρ : Nat → Option Nat} {xs : List Int} {ex : Bool} : Ob.ren ρ (.arr 1 (List.map intE xs) ex) = .arr 1 (List.map intE xs) ex := by
  simp only [Ob.ren, List.map_map]
  congr 1
theorem ren_boolEs {ρ : Nat → Option Nat} {xs : List Bool} {ex : Bool} : Ob.ren ρ (.arr 1 (List.map boolE xs) ex) = .arr 1 (List.map boolE xs) ex := by
  simp only [Ob.ren, List.map_map]
  congr 1
theorem behind_eq {h h0 : Heap} : behind h h0 = h ++ h0.map (Ob.ren (sh h.length)) := (rfl)
theorem map_one {α β : Type} {f : α → β} {x : α} : List.map f [x] = [f x] := (rfl)
theorem lean_intEs {xs : List Int} {ex : Bool} : (Ob.arr 1 (List.map intE xs) ex).lean = true := by
  simp [Ob.lean, leans, intE, AV.lean]
/-- A list of numbers of one's own, lent. -/
theorem frz_ints {h : Heap} {id len cap : Nat} {ex ex' : Bool} {l l' : List Int} (hid : h[id]? = some (.arr 1 (List.map intE l') ex')) (hl : l'.take len = l) (hn : l.length = len) : Frz h (.osl id 1 0 len cap ex) (ints l) := by
  have h1 : len ≤ l'.length := by
    have := congrArg List.length hl
    rw [List.length_take] at this
    omega
  have := Frz.flat (h := h) (id := id) (k := 1) (i := 0) (len := len) (cap := cap) (ex := ex) hid (by simpa using h1) (fun e he => by
    obtain ⟨x, _, rfl⟩ := List.mem_map.1 he; rfl)
  rw [List.drop_zero, ← List.map_take, hl] at this
  exact this
theorem frz_isl {h : Heap} {l : List Int} : Frz h (.isl 1 (List.map intE l)) (ints l) := .pure _ rfl
theorem ofz_ints {h : Heap} {id len cap : Nat} {ex ex' : Bool} {l : List Int} (hid : h[id]? = some (.arr 1 (List.map intE l) ex')) (hl : len = l.length) : OFz h (.osl id 1 0 len cap ex) (ints l) := by
  have := OFz.osl (h := h) id 1 0 len cap ex ex' (List.map intE l) hid (by simp; omega) (fun e he => by
    obtain ⟨x, _, rfl⟩ := List.mem_map.1 he; rfl)
  rw [List.drop_zero, List.take_of_length_le (by simp; omega)] at this
  exact this
end Go.AL
end

section
/- From what the small logic shows of a law to the statement: the arguments as trees, what the call leaves. No condition. -/
namespace Go.Proofs.Ytgdlkhgfehclpaa
open Go Go.AL Go.ChangeShapes Go.WideShapes Go.ChangeAt Go.RowKit
set_option linter.unusedVariables false
set_option linter.unusedSimpArgs false
theorem zOwn : ownKnob Try.prog.godebug = none := by kernel_rfl
theorem zLaidOut : laidOutB Try.prog = true := by kernel_rfl

/-! ### the bound -/
theorem bulk_one {H : Type} (d : DataW H) : 1 ≤ Rows.uptoBulk d := by
  cases d with
  | lit l => cases l <;> simp [Rows.uptoBulk]
  | _ => simp [Rows.uptoBulk]
theorem bulk_len {H : Type} (l : List (DataW H)) : l.length ≤ Rows.uptoBulkAll l := by
  induction l with
  | nil => simp
  | cons x r ih => have := bulk_one x; simp only [Rows.uptoBulkAll, List.length_cons]; omega
theorem bulk_part {H : Type} {d : DataW H} : ∀ {l : List (DataW H)}, d ∈ l → Rows.uptoBulk d ≤ Rows.uptoBulkAll l
  | x :: r, h => by
    simp only [Rows.uptoBulkAll]
    rcases List.mem_cons.1 h with e | e
    · subst e; omega
    · have := bulk_part e; omega
theorem bulk_slice {H : Type} (elems spare : List (DataW H)) : elems.length ≤ Rows.uptoBulk (.slice elems spare) := by
  have h1 := bulk_len elems
  simp only [Rows.uptoBulk]
  omega
theorem bulk_agg {H : Type} (parts : List (DataW H)) : Rows.uptoBulkAll parts ≤ Rows.uptoBulk (.agg parts) := by
  simp only [Rows.uptoBulk]
  omega
theorem bulk_ok {H : Type} {l : List (DataW H)} (hk : Rows.uptoSmall H l = true) : Rows.uptoBulkAll l ≤ 1048576 := by
  simpa [Rows.uptoSmall] using hk

/-! ### the arguments -/
abbrev allOf (W : World) : Nat → Prop := fun b => b < W.heap.size
theorem cell_lt {W : World} {a : Addr} {v : Value} (h : W.cell? a = some v) : a.block < W.heap.size := by
  unfold World.cell? at h
  rcases Nat.lt_or_ge a.block W.heap.size with hlt | hge
  · exact hlt
  · rw [Array.getElem?_eq_none hge] at h
    simp at h
theorem irel_ints {W : World} {a : Addr} {len cap : Nat} {zs : List Int} (hl : len ≤ zs.length) (hc : len ≤ cap) (hcell : ∀ i, i < zs.length → W.cell? (a.add i) = some (.int .i64 (zs.getD i 0))) :
    IRel (allOf W) W (ints (zs.take len)) (.slice (some a) len cap) := by
  rcases Nat.eq_zero_or_pos len with h0 | h0
  · subst h0
    exact .isl0 1 _ _
  · obtain ⟨b, off, rfl, hx⟩ := ints_at hcell (by omega)
    have hlen : (List.map intE (zs.take len)).length = len := by simp; omega
    have key : ∀ (i : Nat) (e : List AV), (List.map intE (zs.take len))[i]? = some e → i < zs.length ∧ e = [AV.int .i64 (zs.getD i 0)] := by
      intro i e hi
      have hlt := (List.getElem?_eq_some_iff.1 hi).1
      rw [hlen] at hlt
      rw [List.getElem?_map, List.getElem?_take, if_pos hlt, List.getElem?_eq_getElem (by omega)] at hi
      simp only [Option.map_some, Option.some.injEq] at hi
      refine ⟨by omega, ?_⟩
      rw [← hi]
      simp [intE, List.getD_eq_getElem?_getD, List.getElem?_eq_getElem (show i < zs.length by omega)]
    have hr := IRel.isl (I := allOf W) (w := W) 1 (List.map intE (zs.take len)) b off cap (fun i _ => .int .i64 (zs.getD i 0)) (by intro e; rw [e] at hlen; simp at hlen; omega) (by rw [hlen]; exact hc) (by have := cell_lt (hx 0 (by omega)); exact this)
      (fun i e hi => by rw [(key i e hi).2]; rfl) (fun i e j u hi hj => by
        obtain ⟨h1, h2⟩ := key i e hi
        subst h2
        have hj0 : j = 0 := by
          have := (List.getElem?_eq_some_iff.1 hj).1
          simp at this
          exact this
        subst hj0
        rw [show off + (i * 1 + 0) = off + i by omega]
        exact hx i h1) (fun i e j u hi hj => rfl) (fun i e j u hi hj => by
        obtain ⟨h1, h2⟩ := key i e hi
        subst h2
        have hj0 : j = 0 := by
          have := (List.getElem?_eq_some_iff.1 hj).1
          simp at this
          exact this
        subst hj0
        simp at hj
        rw [← hj]
        exact .int _ _)
    rw [hlen] at hr
    exact hr
/-- An argument that is a list of numbers. -/
theorem open_list {H : Type} {enc : TypeId × Value → H} {W : World} {t e : TypeId} {fuel : Nat} {v : Value} {d : DataW H} {p : List MemPlace} (ht : Try.prog.underlying t = some (.slice e)) (he : Try.prog.underlying e = some (.int .i64)) (hc : Try.prog.cellsOf e = 1)
    (hv : ∃ a len cap, v = .slice a len cap) (h : DataW.trod enc Try.prog W 0 (fun _ => true) true fuel t v.cells.toList = some (d, p)) : ∃ xs : List Int, IRel (allOf W) W (ints xs) v ∧ xs.length ≤ Rows.uptoBulk d := by
  obtain ⟨a0, len0, cap0, rfl⟩ := hv
  rcases open_ints ht he hc h with ⟨hcs, hx⟩ | ⟨a, len, cap, zs, hcs, _, hl, hm, hz, hx, hcell, _⟩
  · simp [Value.cells] at hcs
    obtain ⟨rfl, rfl, rfl⟩ := hcs
    exact ⟨[], .isl0 1 _ _, by simp⟩
  · simp [Value.cells] at hcs
    obtain ⟨rfl, rfl, rfl⟩ := hcs
    simp only [Prod.mk.injEq] at hx
    obtain ⟨rfl, _⟩ := hx
    simp only [if_true] at hz
    refine ⟨zs.take len0, irel_ints (by omega) hl hcell, ?_⟩
    refine Nat.le_trans ?_ (bulk_slice _ _)
    simp [lits]

/-! ### the call -/
theorem calls_true {f : FuncId} {us : List AV} {vs : List Value} {W : World} (hc : ACalls Try.prog f us [] fun v h => OFz h v (.bool true)) (hl : vs.length = us.length) (hv : ∀ (j : Nat) (u : AV) (v : Value), us[j]? = some u → vs[j]? = some v → IRel (allOf W) W u v) :
    Calls Try.prog f vs.toArray W fun e W' => e = .returned (.bool true) ∧ Below W.heap.size W W' := by
  refine (hc.2 (allOf W) (fun _ => 0) W vs ⟨fun b hb => hb, fun id o h => by simp at h, fun id id' o o' h => by simp at h⟩ ⟨hl.symm, fun j u v hu hv' => .imm _ _ (hv j u v hu hv')⟩).mono ?_
  rintro e w' ⟨cv, u, I', β', h', rfl, hq, hE, hR, hv'⟩
  refine ⟨?_, ⟨hE.os, hE.tape, hE.output, hE.size, fun k hk => hE.keep k hk (fun ⟨id, o, h1, _⟩ => by simp at h1)⟩⟩
  have hu : u = .bool true := by
    cases hq
    rfl
  subst hu
  cases hv' with
  | imm _ _ hi => cases hi; rfl
theorem trodAll_stays {H : Type} {enc : TypeId × Value → H} {W W' : World} {sp : Nat → Bool} (hb : Below W.heap.size W W') : ∀ {ts : List TypeId} {vs : List Value} {ds : List (DataW H)} {ps : List MemPlace}, (∀ t ∈ ts, Try.prog.readableRec t = true ∧ t < Try.prog.types.size) →
    DataW.TrodAll enc Try.prog W 0 (fun _ => true) true ts vs ds ps → (∀ x ∈ ps, x.block < W.heap.size) → (∀ x ∈ ps, sp x.block = true) → DataW.TrodAll enc Try.prog W' 0 sp true ts vs ds ps
  | [], [], [], _, _, h, _, _ => h
  | _ :: _, _ :: _, _ :: _, _, hT, ⟨p, q, h1, h2, e⟩, hlt, hs => by
    subst e
    exact ⟨p, q, WideElems.Trod_stays zLaidOut (hT _ List.mem_cons_self).1 (hT _ List.mem_cons_self).2 h1 (fun x hx => hb.same (hlt x (List.mem_append_left _ hx))) (fun x hx => hs x (List.mem_append_left _ hx)),
      trodAll_stays hb (fun t ht => hT t (List.mem_cons_of_mem _ ht)) h2 (fun x hx => hlt x (List.mem_append_right _ hx)) (fun x hx => hs x (List.mem_append_right _ hx)), rfl⟩
/-- 'post' of a law that came out true and wrote nothing of what was there. -/
theorem post_true {H : Type} {enc : TypeId × Value → H} {f : Func} {s : ChangeSpec} {W W' : World} {args : Array Value} {ds : List (DataW H)} {p : List MemPlace} (hW : DataW.Whole enc Try.prog f.params.toList s.vars false W args.toList ds [] (p ++ []))
    (hA : DataW.TrodAll enc Try.prog W 0 (fun _ => true) true f.params.toList args.toList ds p) (hT : ∀ t ∈ f.params.toList, Try.prog.readableRec t = true ∧ t < Try.prog.types.size) (hr : f.resultTypes = #[4]) (hs : s.fn H (ds ++ []) = { results := [.lit (.bool true)], args := ds }) (hv : s.vars = [])
    (hb : Below W.heap.size W W') : s.post enc Try.prog f false true false false W args (.bool true) W' := by
  have hlt : ∀ x ∈ p, x.block < W.heap.size := fun x hx => hW.lt x (List.mem_append_left _ hx)
  refine ⟨ds, [], p ++ [], [], p, [], hW, ?_, ?_, ?_, ?_, fun h => by cases h⟩
  · rw [hr, hs]
    exact trodAll_cons_mk (shut_bool Try.underlying4 _) trodAll_mk0
  · rw [hs]
    exact trodAll_stays hb hT hA hlt (fun x hx => by simpa using hlt x hx)
  · rw [hs, hv]
    rfl
  · exact hb.frame _
end Go.Proofs.Ytgdlkhgfehclpaa
end

section
/- What the program's types are, for the small logic: read off the loaded program by the kernel. By a program (gen.py). No condition. -/
namespace Go.Proofs.Ytgdlkhgfehclpaa
open Go.AL

theorem mixed : Try.prog.follows .mixedOrders = true := by kernel_rfl
theorem ft2 : tsize Try.prog 2 = some 1 ∧ tbytes Try.prog 2 = some 8 ∧ tagg Try.prog 2 = some false ∧ zcells Try.prog 2 = some [AV.int .i64 0] ∧ telem Try.prog 2 = none ∧ tint Try.prog 2 = some .i64 ∧ tnotIface Try.prog 2 = true := ⟨by kernel_rfl, by kernel_rfl, by kernel_rfl, by kernel_rfl, by kernel_rfl, by kernel_rfl, by kernel_rfl⟩
theorem ft3 : tsize Try.prog 3 = some 1 ∧ tbytes Try.prog 3 = some 8 ∧ tagg Try.prog 3 = some false ∧ zcells Try.prog 3 = some [AV.int .i64 0] ∧ telem Try.prog 3 = none ∧ tint Try.prog 3 = some .i64 ∧ tnotIface Try.prog 3 = true := ⟨by kernel_rfl, by kernel_rfl, by kernel_rfl, by kernel_rfl, by kernel_rfl, by kernel_rfl, by kernel_rfl⟩
theorem ft4 : tsize Try.prog 4 = some 1 ∧ tbytes Try.prog 4 = some 1 ∧ tagg Try.prog 4 = some false ∧ zcells Try.prog 4 = some [AV.bool false] ∧ telem Try.prog 4 = none ∧ tbool Try.prog 4 = true ∧ tnotIface Try.prog 4 = true := ⟨by kernel_rfl, by kernel_rfl, by kernel_rfl, by kernel_rfl, by kernel_rfl, by kernel_rfl, by kernel_rfl⟩
theorem ft5 : tsize Try.prog 5 = some 1 ∧ tbytes Try.prog 5 = some 1 ∧ tagg Try.prog 5 = some false ∧ zcells Try.prog 5 = some [AV.int .u8 0] ∧ telem Try.prog 5 = none ∧ tint Try.prog 5 = some .u8 ∧ tnotIface Try.prog 5 = true := ⟨by kernel_rfl, by kernel_rfl, by kernel_rfl, by kernel_rfl, by kernel_rfl, by kernel_rfl, by kernel_rfl⟩
theorem ft6 : tsize Try.prog 6 = some 1 ∧ tbytes Try.prog 6 = some 1 ∧ tagg Try.prog 6 = some false ∧ zcells Try.prog 6 = some [AV.int .u8 0] ∧ telem Try.prog 6 = none ∧ tint Try.prog 6 = some .u8 ∧ tnotIface Try.prog 6 = true := ⟨by kernel_rfl, by kernel_rfl, by kernel_rfl, by kernel_rfl, by kernel_rfl, by kernel_rfl, by kernel_rfl⟩
theorem ft7 : tsize Try.prog 7 = some 4 ∧ tbytes Try.prog 7 = some 24 ∧ tagg Try.prog 7 = some true ∧ zcells Try.prog 7 = some [AV.int .i64 0, AV.int .i64 0, AV.bool false, AV.int .u8 0] ∧ telem Try.prog 7 = none ∧ tnotIface Try.prog 7 = true ∧ foff Try.prog 7 0 = some (0, 2) ∧ foff Try.prog 7 1 = some (1, 3) ∧ foff Try.prog 7 2 = some (2, 4) ∧ foff Try.prog 7 3 = some (3, 6) ∧ fplaces Try.prog 7 = some [(0, 1), (1, 1), (2, 1), (3, 1)] := ⟨by kernel_rfl, by kernel_rfl, by kernel_rfl, by kernel_rfl, by kernel_rfl, by kernel_rfl, by kernel_rfl, by kernel_rfl, by kernel_rfl, by kernel_rfl, by kernel_rfl⟩
theorem ft8 : tsize Try.prog 8 = some 4 ∧ tbytes Try.prog 8 = some 24 ∧ tagg Try.prog 8 = some true ∧ zcells Try.prog 8 = some [AV.int .i64 0, AV.int .i64 0, AV.bool false, AV.int .u8 0] ∧ telem Try.prog 8 = none ∧ tnotIface Try.prog 8 = true ∧ foff Try.prog 8 0 = some (0, 2) ∧ foff Try.prog 8 1 = some (1, 3) ∧ foff Try.prog 8 2 = some (2, 4) ∧ foff Try.prog 8 3 = some (3, 6) ∧ fplaces Try.prog 8 = some [(0, 1), (1, 1), (2, 1), (3, 1)] := ⟨by kernel_rfl, by kernel_rfl, by kernel_rfl, by kernel_rfl, by kernel_rfl, by kernel_rfl, by kernel_rfl, by kernel_rfl, by kernel_rfl, by kernel_rfl, by kernel_rfl⟩
theorem ft9 : tsize Try.prog 9 = some 1 ∧ tbytes Try.prog 9 = some 16 ∧ tagg Try.prog 9 = some false ∧ zcells Try.prog 9 = some [AV.str ⟨#[]⟩] ∧ telem Try.prog 9 = none ∧ tstring Try.prog 9 = true ∧ tnotIface Try.prog 9 = true := ⟨by kernel_rfl, by kernel_rfl, by kernel_rfl, by kernel_rfl, by kernel_rfl, by kernel_rfl, by kernel_rfl⟩
theorem ft10 : tsize Try.prog 10 = some 1 ∧ tbytes Try.prog 10 = some 16 ∧ tagg Try.prog 10 = some false ∧ zcells Try.prog 10 = some [AV.str ⟨#[]⟩] ∧ telem Try.prog 10 = none ∧ tstring Try.prog 10 = true ∧ tnotIface Try.prog 10 = true := ⟨by kernel_rfl, by kernel_rfl, by kernel_rfl, by kernel_rfl, by kernel_rfl, by kernel_rfl, by kernel_rfl⟩
theorem ft11 : tsize Try.prog 11 = some 1 ∧ tbytes Try.prog 11 = some 16 ∧ tagg Try.prog 11 = some false ∧ zcells Try.prog 11 = some [AV.str ⟨#[]⟩] ∧ telem Try.prog 11 = none ∧ tstring Try.prog 11 = true ∧ tnotIface Try.prog 11 = true := ⟨by kernel_rfl, by kernel_rfl, by kernel_rfl, by kernel_rfl, by kernel_rfl, by kernel_rfl, by kernel_rfl⟩
theorem ft12 : tsize Try.prog 12 = some 1 ∧ tbytes Try.prog 12 = some 8 ∧ tagg Try.prog 12 = some false ∧ zcells Try.prog 12 = some [AV.int .u64 0] ∧ telem Try.prog 12 = none ∧ tint Try.prog 12 = some .u64 ∧ tnotIface Try.prog 12 = true := ⟨by kernel_rfl, by kernel_rfl, by kernel_rfl, by kernel_rfl, by kernel_rfl, by kernel_rfl, by kernel_rfl⟩
theorem ft13 : tsize Try.prog 13 = some 2 ∧ tbytes Try.prog 13 = some 24 ∧ tagg Try.prog 13 = some true ∧ zcells Try.prog 13 = some [AV.str ⟨#[]⟩, AV.int .u64 0] ∧ telem Try.prog 13 = none ∧ tnotIface Try.prog 13 = true ∧ foff Try.prog 13 0 = some (0, 9) ∧ foff Try.prog 13 1 = some (1, 12) ∧ fplaces Try.prog 13 = some [(0, 1), (1, 1)] := ⟨by kernel_rfl, by kernel_rfl, by kernel_rfl, by kernel_rfl, by kernel_rfl, by kernel_rfl, by kernel_rfl, by kernel_rfl, by kernel_rfl⟩
theorem ft14 : tsize Try.prog 14 = some 2 ∧ tbytes Try.prog 14 = some 24 ∧ tagg Try.prog 14 = some true ∧ zcells Try.prog 14 = some [AV.str ⟨#[]⟩, AV.int .u64 0] ∧ telem Try.prog 14 = none ∧ tnotIface Try.prog 14 = true ∧ foff Try.prog 14 0 = some (0, 9) ∧ foff Try.prog 14 1 = some (1, 12) ∧ fplaces Try.prog 14 = some [(0, 1), (1, 1)] := ⟨by kernel_rfl, by kernel_rfl, by kernel_rfl, by kernel_rfl, by kernel_rfl, by kernel_rfl, by kernel_rfl, by kernel_rfl, by kernel_rfl⟩
theorem ft15 : tsize Try.prog 15 = some 1 ∧ tbytes Try.prog 15 = some 8 ∧ tagg Try.prog 15 = some false ∧ zcells Try.prog 15 = some [AV.nilp] ∧ telem Try.prog 15 = none ∧ tptr Try.prog 15 = true ∧ tnotIface Try.prog 15 = true := ⟨by kernel_rfl, by kernel_rfl, by kernel_rfl, by kernel_rfl, by kernel_rfl, by kernel_rfl, by kernel_rfl⟩
theorem ft16 : tsize Try.prog 16 = some 1 ∧ tbytes Try.prog 16 = some 8 ∧ tagg Try.prog 16 = some false ∧ zcells Try.prog 16 = some [AV.nilp] ∧ telem Try.prog 16 = none ∧ tptr Try.prog 16 = true ∧ tnotIface Try.prog 16 = true := ⟨by kernel_rfl, by kernel_rfl, by kernel_rfl, by kernel_rfl, by kernel_rfl, by kernel_rfl, by kernel_rfl⟩
theorem ft17 : tsize Try.prog 17 = some 1 ∧ tbytes Try.prog 17 = some 8 ∧ tagg Try.prog 17 = some false ∧ zcells Try.prog 17 = some [AV.nilp] ∧ telem Try.prog 17 = none ∧ tptr Try.prog 17 = true ∧ tnotIface Try.prog 17 = true := ⟨by kernel_rfl, by kernel_rfl, by kernel_rfl, by kernel_rfl, by kernel_rfl, by kernel_rfl, by kernel_rfl⟩
theorem ft18 : tsize Try.prog 18 = some 1 ∧ tbytes Try.prog 18 = some 8 ∧ tagg Try.prog 18 = some true ∧ zcells Try.prog 18 = some [AV.nilp] ∧ telem Try.prog 18 = none ∧ tnotIface Try.prog 18 = true ∧ foff Try.prog 18 0 = some (0, 17) ∧ fplaces Try.prog 18 = some [(0, 1)] := ⟨by kernel_rfl, by kernel_rfl, by kernel_rfl, by kernel_rfl, by kernel_rfl, by kernel_rfl, by kernel_rfl, by kernel_rfl⟩
theorem ft19 : tsize Try.prog 19 = some 1 ∧ tbytes Try.prog 19 = some 8 ∧ tagg Try.prog 19 = some true ∧ zcells Try.prog 19 = some [AV.nilp] ∧ telem Try.prog 19 = none ∧ tnotIface Try.prog 19 = true ∧ foff Try.prog 19 0 = some (0, 17) ∧ fplaces Try.prog 19 = some [(0, 1)] := ⟨by kernel_rfl, by kernel_rfl, by kernel_rfl, by kernel_rfl, by kernel_rfl, by kernel_rfl, by kernel_rfl, by kernel_rfl⟩
theorem ft22 : tsize Try.prog 22 = some 1 ∧ tbytes Try.prog 22 = some 24 ∧ tagg Try.prog 22 = some false ∧ zcells Try.prog 22 = some [AV.nils] ∧ telem Try.prog 22 = some 83 ∧ tnotIface Try.prog 22 = true := ⟨by kernel_rfl, by kernel_rfl, by kernel_rfl, by kernel_rfl, by kernel_rfl, by kernel_rfl⟩
theorem ft23 : tsize Try.prog 23 = some 1 ∧ tbytes Try.prog 23 = some 24 ∧ tagg Try.prog 23 = some false ∧ zcells Try.prog 23 = some [AV.nils] ∧ telem Try.prog 23 = some 3 ∧ tnotIface Try.prog 23 = true := ⟨by kernel_rfl, by kernel_rfl, by kernel_rfl, by kernel_rfl, by kernel_rfl, by kernel_rfl⟩
theorem ft25 : tsize Try.prog 25 = some 3 ∧ tbytes Try.prog 25 = some 56 ∧ tagg Try.prog 25 = some true ∧ zcells Try.prog 25 = some [AV.int .i64 0, AV.nils, AV.nils] ∧ telem Try.prog 25 = none ∧ tnotIface Try.prog 25 = true ∧ foff Try.prog 25 0 = some (0, 3) ∧ foff Try.prog 25 1 = some (1, 22) ∧ foff Try.prog 25 2 = some (2, 23) ∧ fplaces Try.prog 25 = some [(0, 1), (1, 1), (2, 1)] := ⟨by kernel_rfl, by kernel_rfl, by kernel_rfl, by kernel_rfl, by kernel_rfl, by kernel_rfl, by kernel_rfl, by kernel_rfl, by kernel_rfl, by kernel_rfl⟩
theorem ft26 : tsize Try.prog 26 = some 1 ∧ tbytes Try.prog 26 = some 8 ∧ tagg Try.prog 26 = some false ∧ zcells Try.prog 26 = some [AV.nilp] ∧ telem Try.prog 26 = none ∧ tptr Try.prog 26 = true ∧ tnotIface Try.prog 26 = true := ⟨by kernel_rfl, by kernel_rfl, by kernel_rfl, by kernel_rfl, by kernel_rfl, by kernel_rfl, by kernel_rfl⟩
theorem ft27 : tsize Try.prog 27 = some 1 ∧ tbytes Try.prog 27 = some 24 ∧ tagg Try.prog 27 = some false ∧ zcells Try.prog 27 = some [AV.nils] ∧ telem Try.prog 27 = some 78 ∧ tnotIface Try.prog 27 = true := ⟨by kernel_rfl, by kernel_rfl, by kernel_rfl, by kernel_rfl, by kernel_rfl, by kernel_rfl⟩
theorem ft28 : tsize Try.prog 28 = some 1 ∧ tbytes Try.prog 28 = some 24 ∧ tagg Try.prog 28 = some false ∧ zcells Try.prog 28 = some [AV.nils] ∧ telem Try.prog 28 = some 87 ∧ tnotIface Try.prog 28 = true := ⟨by kernel_rfl, by kernel_rfl, by kernel_rfl, by kernel_rfl, by kernel_rfl, by kernel_rfl⟩
theorem ft29 : tsize Try.prog 29 = some 1 ∧ tbytes Try.prog 29 = some 24 ∧ tagg Try.prog 29 = some false ∧ zcells Try.prog 29 = some [AV.nils] ∧ telem Try.prog 29 = some 23 ∧ tnotIface Try.prog 29 = true := ⟨by kernel_rfl, by kernel_rfl, by kernel_rfl, by kernel_rfl, by kernel_rfl, by kernel_rfl⟩
theorem ft30 : tsize Try.prog 30 = some 1 ∧ tbytes Try.prog 30 = some 24 ∧ tagg Try.prog 30 = some false ∧ zcells Try.prog 30 = some [AV.nils] ∧ telem Try.prog 30 = some 89 ∧ tnotIface Try.prog 30 = true := ⟨by kernel_rfl, by kernel_rfl, by kernel_rfl, by kernel_rfl, by kernel_rfl, by kernel_rfl⟩
theorem ft31 : tsize Try.prog 31 = some 1 ∧ tbytes Try.prog 31 = some 24 ∧ tagg Try.prog 31 = some false ∧ zcells Try.prog 31 = some [AV.nils] ∧ telem Try.prog 31 = some 91 ∧ tnotIface Try.prog 31 = true := ⟨by kernel_rfl, by kernel_rfl, by kernel_rfl, by kernel_rfl, by kernel_rfl, by kernel_rfl⟩
theorem ft32 : tsize Try.prog 32 = some 1 ∧ tbytes Try.prog 32 = some 24 ∧ tagg Try.prog 32 = some false ∧ zcells Try.prog 32 = some [AV.nils] ∧ telem Try.prog 32 = some 31 ∧ tnotIface Try.prog 32 = true := ⟨by kernel_rfl, by kernel_rfl, by kernel_rfl, by kernel_rfl, by kernel_rfl, by kernel_rfl⟩
theorem ft33 : tsize Try.prog 33 = some 1 ∧ tbytes Try.prog 33 = some 24 ∧ tagg Try.prog 33 = some false ∧ zcells Try.prog 33 = some [AV.nils] ∧ telem Try.prog 33 = some 119 ∧ tnotIface Try.prog 33 = true := ⟨by kernel_rfl, by kernel_rfl, by kernel_rfl, by kernel_rfl, by kernel_rfl, by kernel_rfl⟩
theorem ft34 : tsize Try.prog 34 = some 1 ∧ tbytes Try.prog 34 = some 24 ∧ tagg Try.prog 34 = some false ∧ zcells Try.prog 34 = some [AV.nils] ∧ telem Try.prog 34 = some 22 ∧ tnotIface Try.prog 34 = true := ⟨by kernel_rfl, by kernel_rfl, by kernel_rfl, by kernel_rfl, by kernel_rfl, by kernel_rfl⟩
theorem ft35 : tsize Try.prog 35 = some 1 ∧ tbytes Try.prog 35 = some 24 ∧ tagg Try.prog 35 = some false ∧ zcells Try.prog 35 = some [AV.nils] ∧ telem Try.prog 35 = some 122 ∧ tnotIface Try.prog 35 = true := ⟨by kernel_rfl, by kernel_rfl, by kernel_rfl, by kernel_rfl, by kernel_rfl, by kernel_rfl⟩
theorem ft36 : tsize Try.prog 36 = some 1 ∧ tbytes Try.prog 36 = some 24 ∧ tagg Try.prog 36 = some false ∧ zcells Try.prog 36 = some [AV.nils] ∧ telem Try.prog 36 = some 128 ∧ tnotIface Try.prog 36 = true := ⟨by kernel_rfl, by kernel_rfl, by kernel_rfl, by kernel_rfl, by kernel_rfl, by kernel_rfl⟩
theorem ft38 : tsize Try.prog 38 = some 20 ∧ tbytes Try.prog 38 = some 480 ∧ tagg Try.prog 38 = some true ∧ zcells Try.prog 38 = some [AV.nils, AV.nils, AV.nils, AV.nils, AV.nils, AV.nils, AV.nils, AV.nils, AV.nils, AV.nils, AV.nils, AV.nils, AV.nils, AV.nils, AV.nils, AV.nils, AV.nils, AV.nils, AV.nils, AV.nils] ∧ telem Try.prog 38 = none ∧ tnotIface Try.prog 38 = true ∧ foff Try.prog 38 0 = some (0, 27) ∧ foff Try.prog 38 1 = some (1, 27) ∧ foff Try.prog 38 2 = some (2, 28) ∧ foff Try.prog 38 3 = some (3, 28) ∧ foff Try.prog 38 4 = some (4, 29) ∧ foff Try.prog 38 5 = some (5, 29) ∧ foff Try.prog 38 6 = some (6, 30) ∧ foff Try.prog 38 7 = some (7, 30) ∧ foff Try.prog 38 8 = some (8, 31) ∧ foff Try.prog 38 9 = some (9, 31) ∧ foff Try.prog 38 10 = some (10, 32) ∧ foff Try.prog 38 11 = some (11, 32) ∧ foff Try.prog 38 12 = some (12, 33) ∧ foff Try.prog 38 13 = some (13, 33) ∧ foff Try.prog 38 14 = some (14, 34) ∧ foff Try.prog 38 15 = some (15, 34) ∧ foff Try.prog 38 16 = some (16, 35) ∧ foff Try.prog 38 17 = some (17, 35) ∧ foff Try.prog 38 18 = some (18, 36) ∧ foff Try.prog 38 19 = some (19, 36) ∧ fplaces Try.prog 38 = some [(0, 1), (1, 1), (2, 1), (3, 1), (4, 1), (5, 1), (6, 1), (7, 1), (8, 1), (9, 1), (10, 1), (11, 1), (12, 1), (13, 1), (14, 1), (15, 1), (16, 1), (17, 1), (18, 1), (19, 1)] := ⟨by kernel_rfl, by kernel_rfl, by kernel_rfl, by kernel_rfl, by kernel_rfl, by kernel_rfl, by kernel_rfl, by kernel_rfl, by kernel_rfl, by kernel_rfl, by kernel_rfl, by kernel_rfl, by kernel_rfl, by kernel_rfl, by kernel_rfl, by kernel_rfl, by kernel_rfl, by kernel_rfl, by kernel_rfl, by kernel_rfl, by kernel_rfl, by kernel_rfl, by kernel_rfl, by kernel_rfl, by kernel_rfl, by kernel_rfl, by kernel_rfl⟩
theorem ft45 : tsize Try.prog 45 = some 4 ∧ tbytes Try.prog 45 = some 64 ∧ tagg Try.prog 45 = some true ∧ zcells Try.prog 45 = some [AV.int .i64 0, AV.int .i64 0, AV.nils, AV.nils] ∧ telem Try.prog 45 = none ∧ tnotIface Try.prog 45 = true ∧ foff Try.prog 45 0 = some (0, 3) ∧ foff Try.prog 45 1 = some (1, 3) ∧ foff Try.prog 45 2 = some (2, 23) ∧ foff Try.prog 45 3 = some (3, 23) ∧ fplaces Try.prog 45 = some [(0, 1), (1, 1), (2, 1), (3, 1)] := ⟨by kernel_rfl, by kernel_rfl, by kernel_rfl, by kernel_rfl, by kernel_rfl, by kernel_rfl, by kernel_rfl, by kernel_rfl, by kernel_rfl, by kernel_rfl, by kernel_rfl⟩
theorem ft52 : tsize Try.prog 52 = some 1 ∧ tbytes Try.prog 52 = some 24 ∧ tagg Try.prog 52 = some false ∧ zcells Try.prog 52 = some [AV.nils] ∧ telem Try.prog 52 = some 4 ∧ tnotIface Try.prog 52 = true := ⟨by kernel_rfl, by kernel_rfl, by kernel_rfl, by kernel_rfl, by kernel_rfl, by kernel_rfl⟩
theorem ft53 : tsize Try.prog 53 = some 1 ∧ tbytes Try.prog 53 = some 8 ∧ tagg Try.prog 53 = some false ∧ zcells Try.prog 53 = some [AV.int .i64 0] ∧ telem Try.prog 53 = none ∧ tint Try.prog 53 = some .i64 ∧ tnotIface Try.prog 53 = true := ⟨by kernel_rfl, by kernel_rfl, by kernel_rfl, by kernel_rfl, by kernel_rfl, by kernel_rfl, by kernel_rfl⟩
theorem ft77 : tsize Try.prog 77 = some 1 ∧ tbytes Try.prog 77 = some 8 ∧ tagg Try.prog 77 = some false ∧ zcells Try.prog 77 = some [AV.int .i64 0] ∧ telem Try.prog 77 = none ∧ tint Try.prog 77 = some .i64 ∧ tnotIface Try.prog 77 = true := ⟨by kernel_rfl, by kernel_rfl, by kernel_rfl, by kernel_rfl, by kernel_rfl, by kernel_rfl, by kernel_rfl⟩
theorem ft78 : tsize Try.prog 78 = some 1 ∧ tbytes Try.prog 78 = some 24 ∧ tagg Try.prog 78 = some false ∧ zcells Try.prog 78 = some [AV.nils] ∧ telem Try.prog 78 = some 115 ∧ tnotIface Try.prog 78 = true := ⟨by kernel_rfl, by kernel_rfl, by kernel_rfl, by kernel_rfl, by kernel_rfl, by kernel_rfl⟩
theorem ft79 : tsize Try.prog 79 = some 1 ∧ tbytes Try.prog 79 = some 24 ∧ tagg Try.prog 79 = some false ∧ zcells Try.prog 79 = some [AV.nils] ∧ telem Try.prog 79 = some 115 ∧ tnotIface Try.prog 79 = true := ⟨by kernel_rfl, by kernel_rfl, by kernel_rfl, by kernel_rfl, by kernel_rfl, by kernel_rfl⟩
theorem ft81 : tsize Try.prog 81 = some 3 ∧ tbytes Try.prog 81 = some 56 ∧ tagg Try.prog 81 = some true ∧ zcells Try.prog 81 = some [AV.bool false, AV.nils, AV.nils] ∧ telem Try.prog 81 = none ∧ tnotIface Try.prog 81 = true ∧ foff Try.prog 81 0 = some (0, 4) ∧ foff Try.prog 81 1 = some (1, 79) ∧ foff Try.prog 81 2 = some (2, 79) ∧ fplaces Try.prog 81 = some [(0, 1), (1, 1), (2, 1)] := ⟨by kernel_rfl, by kernel_rfl, by kernel_rfl, by kernel_rfl, by kernel_rfl, by kernel_rfl, by kernel_rfl, by kernel_rfl, by kernel_rfl, by kernel_rfl⟩
theorem ft83 : tsize Try.prog 83 = some 7 ∧ tbytes Try.prog 83 = some 88 ∧ tagg Try.prog 83 = some true ∧ zcells Try.prog 83 = some [AV.int .i64 0, AV.int .i64 0, AV.int .i64 0, AV.int .i64 0, AV.bool false, AV.nils, AV.nils] ∧ telem Try.prog 83 = none ∧ tnotIface Try.prog 83 = true ∧ foff Try.prog 83 0 = some (0, 77) ∧ foff Try.prog 83 1 = some (1, 3) ∧ foff Try.prog 83 2 = some (2, 3) ∧ foff Try.prog 83 3 = some (3, 3) ∧ foff Try.prog 83 4 = some (4, 81) ∧ fplaces Try.prog 83 = some [(0, 1), (1, 1), (2, 1), (3, 1), (4, 3)] := ⟨by kernel_rfl, by kernel_rfl, by kernel_rfl, by kernel_rfl, by kernel_rfl, by kernel_rfl, by kernel_rfl, by kernel_rfl, by kernel_rfl, by kernel_rfl, by kernel_rfl, by kernel_rfl⟩
theorem ft87 : tsize Try.prog 87 = some 1 ∧ tbytes Try.prog 87 = some 24 ∧ tagg Try.prog 87 = some false ∧ zcells Try.prog 87 = some [AV.nils] ∧ telem Try.prog 87 = some 116 ∧ tnotIface Try.prog 87 = true := ⟨by kernel_rfl, by kernel_rfl, by kernel_rfl, by kernel_rfl, by kernel_rfl, by kernel_rfl⟩
theorem ft89 : tsize Try.prog 89 = some 1 ∧ tbytes Try.prog 89 = some 24 ∧ tagg Try.prog 89 = some false ∧ zcells Try.prog 89 = some [AV.nils] ∧ telem Try.prog 89 = some 9 ∧ tnotIface Try.prog 89 = true := ⟨by kernel_rfl, by kernel_rfl, by kernel_rfl, by kernel_rfl, by kernel_rfl, by kernel_rfl⟩
theorem ft91 : tsize Try.prog 91 = some 1 ∧ tbytes Try.prog 91 = some 24 ∧ tagg Try.prog 91 = some false ∧ zcells Try.prog 91 = some [AV.nils] ∧ telem Try.prog 91 = some 81 ∧ tnotIface Try.prog 91 = true := ⟨by kernel_rfl, by kernel_rfl, by kernel_rfl, by kernel_rfl, by kernel_rfl, by kernel_rfl⟩
theorem ft108 : tsize Try.prog 108 = some 1 ∧ tbytes Try.prog 108 = some 24 ∧ tagg Try.prog 108 = some false ∧ zcells Try.prog 108 = some [AV.nils] ∧ telem Try.prog 108 = some 25 ∧ tnotIface Try.prog 108 = true := ⟨by kernel_rfl, by kernel_rfl, by kernel_rfl, by kernel_rfl, by kernel_rfl, by kernel_rfl⟩
theorem ft115 : tsize Try.prog 115 = some 1 ∧ tbytes Try.prog 115 = some 4 ∧ tagg Try.prog 115 = some false ∧ zcells Try.prog 115 = some [AV.int .u32 0] ∧ telem Try.prog 115 = none ∧ tint Try.prog 115 = some .u32 ∧ tnotIface Try.prog 115 = true := ⟨by kernel_rfl, by kernel_rfl, by kernel_rfl, by kernel_rfl, by kernel_rfl, by kernel_rfl, by kernel_rfl⟩
theorem ft116 : tsize Try.prog 116 = some 1 ∧ tbytes Try.prog 116 = some 8 ∧ tagg Try.prog 116 = some false ∧ zcells Try.prog 116 = some [AV.int .u64 0] ∧ telem Try.prog 116 = none ∧ tint Try.prog 116 = some .u64 ∧ tnotIface Try.prog 116 = true := ⟨by kernel_rfl, by kernel_rfl, by kernel_rfl, by kernel_rfl, by kernel_rfl, by kernel_rfl, by kernel_rfl⟩
theorem ft119 : tsize Try.prog 119 = some 1 ∧ tbytes Try.prog 119 = some 24 ∧ tagg Try.prog 119 = some false ∧ zcells Try.prog 119 = some [AV.nils] ∧ telem Try.prog 119 = some 143 ∧ tnotIface Try.prog 119 = true := ⟨by kernel_rfl, by kernel_rfl, by kernel_rfl, by kernel_rfl, by kernel_rfl, by kernel_rfl⟩
theorem ft121 : tsize Try.prog 121 = some 2 ∧ tbytes Try.prog 121 = some 32 ∧ tagg Try.prog 121 = some true ∧ zcells Try.prog 121 = some [AV.int .i64 0, AV.nils] ∧ telem Try.prog 121 = none ∧ tnotIface Try.prog 121 = true ∧ foff Try.prog 121 0 = some (0, 3) ∧ foff Try.prog 121 1 = some (1, 119) ∧ fplaces Try.prog 121 = some [(0, 1), (1, 1)] := ⟨by kernel_rfl, by kernel_rfl, by kernel_rfl, by kernel_rfl, by kernel_rfl, by kernel_rfl, by kernel_rfl, by kernel_rfl, by kernel_rfl⟩
theorem ft122 : tsize Try.prog 122 = some 1 ∧ tbytes Try.prog 122 = some 24 ∧ tagg Try.prog 122 = some false ∧ zcells Try.prog 122 = some [AV.nils] ∧ telem Try.prog 122 = some 45 ∧ tnotIface Try.prog 122 = true := ⟨by kernel_rfl, by kernel_rfl, by kernel_rfl, by kernel_rfl, by kernel_rfl, by kernel_rfl⟩
theorem ft124 : tsize Try.prog 124 = some 1 ∧ tbytes Try.prog 124 = some 24 ∧ tagg Try.prog 124 = some false ∧ zcells Try.prog 124 = some [AV.nils] ∧ telem Try.prog 124 = some 145 ∧ tnotIface Try.prog 124 = true := ⟨by kernel_rfl, by kernel_rfl, by kernel_rfl, by kernel_rfl, by kernel_rfl, by kernel_rfl⟩
theorem ft125 : tsize Try.prog 125 = some 1 ∧ tbytes Try.prog 125 = some 24 ∧ tagg Try.prog 125 = some false ∧ zcells Try.prog 125 = some [AV.nils] ∧ telem Try.prog 125 = some 147 ∧ tnotIface Try.prog 125 = true := ⟨by kernel_rfl, by kernel_rfl, by kernel_rfl, by kernel_rfl, by kernel_rfl, by kernel_rfl⟩
theorem ft126 : tsize Try.prog 126 = some 1 ∧ tbytes Try.prog 126 = some 24 ∧ tagg Try.prog 126 = some false ∧ zcells Try.prog 126 = some [AV.nils] ∧ telem Try.prog 126 = some 150 ∧ tnotIface Try.prog 126 = true := ⟨by kernel_rfl, by kernel_rfl, by kernel_rfl, by kernel_rfl, by kernel_rfl, by kernel_rfl⟩
theorem ft128 : tsize Try.prog 128 = some 5 ∧ tbytes Try.prog 128 = some 120 ∧ tagg Try.prog 128 = some true ∧ zcells Try.prog 128 = some [AV.nils, AV.nils, AV.nils, AV.nils, AV.nils] ∧ telem Try.prog 128 = none ∧ tnotIface Try.prog 128 = true ∧ foff Try.prog 128 0 = some (0, 89) ∧ foff Try.prog 128 1 = some (1, 124) ∧ foff Try.prog 128 2 = some (2, 125) ∧ foff Try.prog 128 3 = some (3, 23) ∧ foff Try.prog 128 4 = some (4, 126) ∧ fplaces Try.prog 128 = some [(0, 1), (1, 1), (2, 1), (3, 1), (4, 1)] := ⟨by kernel_rfl, by kernel_rfl, by kernel_rfl, by kernel_rfl, by kernel_rfl, by kernel_rfl, by kernel_rfl, by kernel_rfl, by kernel_rfl, by kernel_rfl, by kernel_rfl, by kernel_rfl⟩
theorem ft136 : tsize Try.prog 136 = some 128 ∧ tbytes Try.prog 136 = some 128 ∧ tagg Try.prog 136 = some true ∧ zcells Try.prog 136 = some (List.map AV.bool (List.replicate 128 false)) ∧ telem Try.prog 136 = none ∧ tarr Try.prog 136 = some (128, 4) ∧ tnotIface Try.prog 136 = true := ⟨by kernel_rfl, by kernel_rfl, by kernel_rfl, by kernel_rfl, by kernel_rfl, by kernel_rfl, by kernel_rfl⟩
theorem ft143 : tsize Try.prog 143 = some 2 ∧ tbytes Try.prog 143 = some 32 ∧ tagg Try.prog 143 = some true ∧ zcells Try.prog 143 = some [AV.int .i64 0, AV.nils] ∧ telem Try.prog 143 = none ∧ tnotIface Try.prog 143 = true ∧ foff Try.prog 143 0 = some (0, 3) ∧ foff Try.prog 143 1 = some (1, 87) ∧ fplaces Try.prog 143 = some [(0, 1), (1, 1)] := ⟨by kernel_rfl, by kernel_rfl, by kernel_rfl, by kernel_rfl, by kernel_rfl, by kernel_rfl, by kernel_rfl, by kernel_rfl, by kernel_rfl⟩
theorem ft145 : tsize Try.prog 145 = some 3 ∧ tbytes Try.prog 145 = some 48 ∧ tagg Try.prog 145 = some true ∧ zcells Try.prog 145 = some [AV.str ⟨#[]⟩, AV.nils, AV.int .i64 0] ∧ telem Try.prog 145 = none ∧ tnotIface Try.prog 145 = true ∧ foff Try.prog 145 0 = some (0, 9) ∧ foff Try.prog 145 1 = some (1, 89) ∧ foff Try.prog 145 2 = some (2, 3) ∧ fplaces Try.prog 145 = some [(0, 1), (1, 1), (2, 1)] := ⟨by kernel_rfl, by kernel_rfl, by kernel_rfl, by kernel_rfl, by kernel_rfl, by kernel_rfl, by kernel_rfl, by kernel_rfl, by kernel_rfl, by kernel_rfl⟩
theorem ft147 : tsize Try.prog 147 = some 2 ∧ tbytes Try.prog 147 = some 24 ∧ tagg Try.prog 147 = some true ∧ zcells Try.prog 147 = some [AV.str ⟨#[]⟩, AV.int .i64 0] ∧ telem Try.prog 147 = none ∧ tnotIface Try.prog 147 = true ∧ foff Try.prog 147 0 = some (0, 9) ∧ foff Try.prog 147 1 = some (1, 3) ∧ fplaces Try.prog 147 = some [(0, 1), (1, 1)] := ⟨by kernel_rfl, by kernel_rfl, by kernel_rfl, by kernel_rfl, by kernel_rfl, by kernel_rfl, by kernel_rfl, by kernel_rfl, by kernel_rfl⟩
theorem ft148 : tsize Try.prog 148 = some 1 ∧ tbytes Try.prog 148 = some 8 ∧ tagg Try.prog 148 = some false ∧ zcells Try.prog 148 = some [AV.int .i64 0] ∧ telem Try.prog 148 = none ∧ tint Try.prog 148 = some .i64 ∧ tnotIface Try.prog 148 = true := ⟨by kernel_rfl, by kernel_rfl, by kernel_rfl, by kernel_rfl, by kernel_rfl, by kernel_rfl, by kernel_rfl⟩
theorem ft150 : tsize Try.prog 150 = some 7 ∧ tbytes Try.prog 150 = some 112 ∧ tagg Try.prog 150 = some true ∧ zcells Try.prog 150 = some [AV.int .i64 0, AV.str ⟨#[]⟩, AV.bool false, AV.nils, AV.nils, AV.int .i64 0, AV.nils] ∧ telem Try.prog 150 = none ∧ tnotIface Try.prog 150 = true ∧ foff Try.prog 150 0 = some (0, 148) ∧ foff Try.prog 150 1 = some (1, 9) ∧ foff Try.prog 150 2 = some (2, 81) ∧ foff Try.prog 150 3 = some (5, 3) ∧ foff Try.prog 150 4 = some (6, 23) ∧ fplaces Try.prog 150 = some [(0, 1), (1, 1), (2, 3), (5, 1), (6, 1)] := ⟨by kernel_rfl, by kernel_rfl, by kernel_rfl, by kernel_rfl, by kernel_rfl, by kernel_rfl, by kernel_rfl, by kernel_rfl, by kernel_rfl, by kernel_rfl, by kernel_rfl, by kernel_rfl⟩
theorem ft170 : tsize Try.prog 170 = some 1 ∧ tbytes Try.prog 170 = some 24 ∧ tagg Try.prog 170 = some false ∧ zcells Try.prog 170 = some [AV.nils] ∧ telem Try.prog 170 = some 115 ∧ tnotIface Try.prog 170 = true := ⟨by kernel_rfl, by kernel_rfl, by kernel_rfl, by kernel_rfl, by kernel_rfl, by kernel_rfl⟩
theorem ft173 : tsize Try.prog 173 = some 1 ∧ tbytes Try.prog 173 = some 8 ∧ tagg Try.prog 173 = some false ∧ zcells Try.prog 173 = some [AV.int .u64 0] ∧ telem Try.prog 173 = none ∧ tint Try.prog 173 = some .u64 ∧ tnotIface Try.prog 173 = true := ⟨by kernel_rfl, by kernel_rfl, by kernel_rfl, by kernel_rfl, by kernel_rfl, by kernel_rfl, by kernel_rfl⟩
theorem ft206 : tsize Try.prog 206 = some 1 ∧ tbytes Try.prog 206 = some 16 ∧ tagg Try.prog 206 = some false ∧ zcells Try.prog 206 = some [AV.nili] ∧ telem Try.prog 206 = none := ⟨by kernel_rfl, by kernel_rfl, by kernel_rfl, by kernel_rfl, by kernel_rfl⟩
theorem ft210 : tsize Try.prog 210 = some 4 ∧ tbytes Try.prog 210 = some 40 ∧ tagg Try.prog 210 = some true ∧ zcells Try.prog 210 = some [AV.nilp, AV.nilp, AV.nilp, AV.str ⟨#[]⟩] ∧ telem Try.prog 210 = none ∧ tnotIface Try.prog 210 = true ∧ foff Try.prog 210 0 = some (0, 17) ∧ foff Try.prog 210 1 = some (1, 17) ∧ foff Try.prog 210 2 = some (2, 17) ∧ foff Try.prog 210 3 = some (3, 9) ∧ fplaces Try.prog 210 = some [(0, 1), (1, 1), (2, 1), (3, 1)] := ⟨by kernel_rfl, by kernel_rfl, by kernel_rfl, by kernel_rfl, by kernel_rfl, by kernel_rfl, by kernel_rfl, by kernel_rfl, by kernel_rfl, by kernel_rfl, by kernel_rfl⟩
theorem ft213 : tsize Try.prog 213 = some 0 ∧ tbytes Try.prog 213 = some 0 ∧ tagg Try.prog 213 = some true ∧ zcells Try.prog 213 = some [] ∧ telem Try.prog 213 = none ∧ tnotIface Try.prog 213 = true ∧ fplaces Try.prog 213 = some [(0, 0)] := ⟨by kernel_rfl, by kernel_rfl, by kernel_rfl, by kernel_rfl, by kernel_rfl, by kernel_rfl, by kernel_rfl⟩
theorem ft222 : tsize Try.prog 222 = some 11 ∧ tbytes Try.prog 222 = some 48 ∧ tagg Try.prog 222 = some true ∧ zcells Try.prog 222 = some [AV.int .u64 0, AV.int .u64 0, AV.int .u32 0, AV.int .u8 0, AV.int .u8 0, AV.int .u8 0, AV.int .u8 0, AV.nilf, AV.nilp, AV.int .i32 0, AV.int .i32 0] ∧ telem Try.prog 222 = none ∧ tnotIface Try.prog 222 = true ∧ foff Try.prog 222 0 = some (0, 12) ∧ foff Try.prog 222 1 = some (1, 12) ∧ foff Try.prog 222 2 = some (2, 115) ∧ foff Try.prog 222 3 = some (3, 215) ∧ foff Try.prog 222 4 = some (4, 5) ∧ foff Try.prog 222 5 = some (5, 5) ∧ foff Try.prog 222 6 = some (6, 216) ∧ foff Try.prog 222 7 = some (7, 217) ∧ foff Try.prog 222 8 = some (8, 218) ∧ foff Try.prog 222 9 = some (9, 219) ∧ foff Try.prog 222 10 = some (10, 220) ∧ fplaces Try.prog 222 = some [(0, 1), (1, 1), (2, 1), (3, 1), (4, 1), (5, 1), (6, 1), (7, 1), (8, 1), (9, 1), (10, 1)] := ⟨by kernel_rfl, by kernel_rfl, by kernel_rfl, by kernel_rfl, by kernel_rfl, by kernel_rfl, by kernel_rfl, by kernel_rfl, by kernel_rfl, by kernel_rfl, by kernel_rfl, by kernel_rfl, by kernel_rfl, by kernel_rfl, by kernel_rfl, by kernel_rfl, by kernel_rfl, by kernel_rfl⟩
theorem ft1 : tfun Try.prog 1 = true ∧ telem Try.prog 1 = none := ⟨by kernel_rfl, by kernel_rfl⟩
end Go.Proofs.Ytgdlkhgfehclpaa
end

section
/- Plans of the regions that draw their order, and what the loaded program's functions are. By a program (gen.py). No condition. -/
namespace Go.Proofs.Ytgdlkhgfehclpaa
open Go.AL

/- 3 slope/slopelaw17.EngineComposes -/
def pl3 : Nat → Plan := fun | 2 => [(0, false, []), (1, false, []), (3, false, []), (4, true, []), (6, true, []), (7, true, []), (2, false, [4, 6, 7]), (5, false, [6, 7]), (8, false, []), (9, false, []), (10, false, []), (11, false, []), (12, false, []), (13, false, [])] | _ => []
noncomputable def body3 : Code := (Try.f3.body).getD .skip
theorem chk3 : codeChk pl3 body3 = true := by kernel_rfl
theorem good3 : good Try.prog 3 = true := by kernel_rfl
theorem isb3 : Try.f3.body = some body3 := by kernel_rfl
theorem wp3 {args : List AV} {h : Heap} {Q : AV → Heap → Prop} {c : Code} (hb : Try.f3.body = some c) (hn : Nat.ble args.length 21 = true) (hk : asx Try.prog 21 pl3 c (bodyQ Try.prog [.tmp 4] Q) (fr0 args) h) : ACalls Try.prog 3 args h Q := by
  have e := isb3.symm.trans hb; cases e; exact acalls_of_body mixed Try.func3 isb3 good3 (Nat.le_of_ble_eq_true hn) pl3 chk3 hk
/- 12 slope/slopelaw17.composes -/
def pl12 : Nat → Plan := fun | _ => []
noncomputable def body12 : Code := (Try.f12.body).getD .skip
theorem chk12 : codeChk pl12 body12 = true := by kernel_rfl
theorem good12 : good Try.prog 12 = true := by kernel_rfl
theorem isb12 : Try.f12.body = some body12 := by kernel_rfl
theorem wp12 {args : List AV} {h : Heap} {Q : AV → Heap → Prop} {c : Code} (hb : Try.f12.body = some c) (hn : Nat.ble args.length 70 = true) (hk : asx Try.prog 70 pl12 c (bodyQ Try.prog [.tmp 8] Q) (fr0 args) h) : ACalls Try.prog 12 args h Q := by
  have e := isb12.symm.trans hb; cases e; exact acalls_of_body mixed Try.func12 isb12 good12 (Nat.le_of_ble_eq_true hn) pl12 chk12 hk
/- 13 (*slope/slopeplain.Given).Tape -/
def pl13 : Nat → Plan := fun | 9 => [(0, false, []), (1, false, []), (2, false, []), (3, false, []), (4, true, []), (5, false, []), (6, false, []), (7, false, [4]), (8, false, []), (9, false, [4]), (10, false, []), (11, false, []), (12, false, []), (13, false, [])] | 10 => [(0, false, []), (1, true, []), (2, false, []), (3, false, []), (4, true, []), (5, false, []), (6, false, []), (7, false, []), (8, false, []), (9, false, []), (10, false, [1, 4]), (11, false, []), (12, false, [])] | _ => []
noncomputable def body13 : Code := (Try.f13.body).getD .skip
theorem chk13 : codeChk pl13 body13 = true := by kernel_rfl
theorem good13 : good Try.prog 13 = true := by kernel_rfl
theorem isb13 : Try.f13.body = some body13 := by kernel_rfl
theorem wp13 {args : List AV} {h : Heap} {Q : AV → Heap → Prop} {c : Code} (hb : Try.f13.body = some c) (hn : Nat.ble args.length 83 = true) (hk : asx Try.prog 83 pl13 c (bodyQ Try.prog [.cell 4 25] Q) (fr0 args) h) : ACalls Try.prog 13 args h Q := by
  have e := isb13.symm.trans hb; cases e; exact acalls_of_body mixed Try.func13 isb13 good13 (Nat.le_of_ble_eq_true hn) pl13 chk13 hk
/- 14 (*slope/slopeplain.Given).Intact -/
def pl14 : Nat → Plan := fun | 4 => [(0, false, []), (1, false, []), (2, false, []), (3, false, []), (4, false, []), (5, false, []), (6, false, []), (7, false, []), (8, false, []), (9, false, []), (10, false, []), (11, false, []), (12, false, []), (13, false, []), (14, false, []), (15, false, [])] | 9 => [(0, false, []), (1, false, []), (2, false, []), (3, false, []), (4, false, []), (5, false, []), (6, false, []), (7, false, []), (8, false, []), (9, false, []), (10, false, []), (11, false, []), (12, false, []), (13, false, []), (14, false, []), (15, false, [])] | 14 => [(0, false, []), (1, false, []), (2, false, []), (3, false, []), (4, false, []), (5, false, []), (6, false, []), (7, false, []), (8, false, []), (9, false, []), (10, false, []), (11, false, []), (12, false, []), (13, false, []), (14, false, []), (15, false, [])] | 19 => [(0, false, []), (1, false, []), (2, false, []), (3, false, []), (4, false, []), (5, false, []), (6, false, []), (7, false, []), (8, false, []), (9, false, []), (10, false, []), (11, false, []), (12, false, []), (13, false, []), (14, false, []), (15, false, [])] | 24 => [(0, false, []), (1, false, []), (2, false, []), (3, false, []), (4, false, []), (5, false, []), (6, false, []), (7, false, []), (8, false, []), (9, false, []), (10, false, []), (11, false, []), (12, false, []), (13, false, []), (14, false, []), (15, false, [])] | 29 => [(0, false, []), (1, false, []), (2, false, []), (3, false, []), (4, false, []), (5, false, []), (6, false, []), (7, false, []), (8, false, []), (9, false, []), (10, false, []), (11, false, []), (12, false, []), (13, false, []), (14, false, []), (15, false, [])] | _ => []
noncomputable def body14 : Code := (Try.f14.body).getD .skip
theorem chk14 : codeChk pl14 body14 = true := by kernel_rfl
theorem good14 : good Try.prog 14 = true := by kernel_rfl
theorem isb14 : Try.f14.body = some body14 := by kernel_rfl
theorem wp14 {args : List AV} {h : Heap} {Q : AV → Heap → Prop} {c : Code} (hb : Try.f14.body = some c) (hn : Nat.ble args.length 161 = true) (hk : asx Try.prog 161 pl14 c (bodyQ Try.prog [.tmp 2] Q) (fr0 args) h) : ACalls Try.prog 14 args h Q := by
  have e := isb14.symm.trans hb; cases e; exact acalls_of_body mixed Try.func14 isb14 good14 (Nat.le_of_ble_eq_true hn) pl14 chk14 hk
/- 17 (*slope/slopeplain.Given).Ints -/
def pl17 : Nat → Plan := fun | 4 => [(0, false, []), (1, false, []), (2, false, []), (3, false, []), (4, true, []), (5, false, []), (6, false, [4]), (7, false, [4]), (8, false, []), (9, false, []), (10, false, []), (11, false, [])] | _ => []
noncomputable def body17 : Code := (Try.f17.body).getD .skip
theorem chk17 : codeChk pl17 body17 = true := by kernel_rfl
theorem good17 : good Try.prog 17 = true := by kernel_rfl
theorem isb17 : Try.f17.body = some body17 := by kernel_rfl
theorem wp17 {args : List AV} {h : Heap} {Q : AV → Heap → Prop} {c : Code} (hb : Try.f17.body = some c) (hn : Nat.ble args.length 36 = true) (hk : asx Try.prog 36 pl17 c (bodyQ Try.prog [.tmp 4] Q) (fr0 args) h) : ACalls Try.prog 17 args h Q := by
  have e := isb17.symm.trans hb; cases e; exact acalls_of_body mixed Try.func17 isb17 good17 (Nat.le_of_ble_eq_true hn) pl17 chk17 hk
/- 25 slope/sloperef11.Check -/
def pl25 : Nat → Plan := fun | _ => []
noncomputable def body25 : Code := (Try.f25.body).getD .skip
theorem chk25 : codeChk pl25 body25 = true := by kernel_rfl
theorem good25 : good Try.prog 25 = true := by kernel_rfl
theorem isb25 : Try.f25.body = some body25 := by kernel_rfl
theorem wp25 {args : List AV} {h : Heap} {Q : AV → Heap → Prop} {c : Code} (hb : Try.f25.body = some c) (hn : Nat.ble args.length 52 = true) (hk : asx Try.prog 52 pl25 c (bodyQ Try.prog [.tmp 4] Q) (fr0 args) h) : ACalls Try.prog 25 args h Q := by
  have e := isb25.symm.trans hb; cases e; exact acalls_of_body mixed Try.func25 isb25 good25 (Nat.le_of_ble_eq_true hn) pl25 chk25 hk
/- 54 slope/order.Check -/
def pl54 : Nat → Plan := fun | _ => []
noncomputable def body54 : Code := (Try.f54.body).getD .skip
theorem chk54 : codeChk pl54 body54 = true := by kernel_rfl
theorem good54 : good Try.prog 54 = true := by kernel_rfl
theorem isb54 : Try.f54.body = some body54 := by kernel_rfl
theorem wp54 {args : List AV} {h : Heap} {Q : AV → Heap → Prop} {c : Code} (hb : Try.f54.body = some c) (hn : Nat.ble args.length 39 = true) (hk : asx Try.prog 39 pl54 c (bodyQ Try.prog [.tmp 4] Q) (fr0 args) h) : ACalls Try.prog 54 args h Q := by
  have e := isb54.symm.trans hb; cases e; exact acalls_of_body mixed Try.func54 isb54 good54 (Nat.le_of_ble_eq_true hn) pl54 chk54 hk
/- 31 slope/slopeplain.SameInts -/
def pl31 : Nat → Plan := fun | 6 => [(0, false, []), (1, false, []), (2, false, []), (3, false, []), (4, false, []), (5, false, []), (6, false, []), (7, false, []), (8, false, [])] | _ => []
noncomputable def body31 : Code := (Try.f31.body).getD .skip
theorem chk31 : codeChk pl31 body31 = true := by kernel_rfl
theorem good31 : good Try.prog 31 = true := by kernel_rfl
theorem isb31 : Try.f31.body = some body31 := by kernel_rfl
theorem wp31 {args : List AV} {h : Heap} {Q : AV → Heap → Prop} {c : Code} (hb : Try.f31.body = some c) (hn : Nat.ble args.length 26 = true) (hk : asx Try.prog 26 pl31 c (bodyQ Try.prog [.tmp 4] Q) (fr0 args) h) : ACalls Try.prog 31 args h Q := by
  have e := isb31.symm.trans hb; cases e; exact acalls_of_body mixed Try.func31 isb31 good31 (Nat.le_of_ble_eq_true hn) pl31 chk31 hk
/- 35 slope/engine.Compose -/
def pl35 : Nat → Plan := fun | _ => []
noncomputable def body35 : Code := (Try.f35.body).getD .skip
theorem chk35 : codeChk pl35 body35 = true := by kernel_rfl
theorem good35 : good Try.prog 35 = true := by kernel_rfl
theorem isb35 : Try.f35.body = some body35 := by kernel_rfl
theorem wp35 {args : List AV} {h : Heap} {Q : AV → Heap → Prop} {c : Code} (hb : Try.f35.body = some c) (hn : Nat.ble args.length 147 = true) (hk : asx Try.prog 147 pl35 c (bodyQ Try.prog [.cell 4 25, .tmp 5, .tmp 6] Q) (fr0 args) h) : ACalls Try.prog 35 args h Q := by
  have e := isb35.symm.trans hb; cases e; exact acalls_of_body mixed Try.func35 isb35 good35 (Nat.le_of_ble_eq_true hn) pl35 chk35 hk
/- 36 slope/sloperef17.Compose -/
def pl36 : Nat → Plan := fun | 32 => [(0, false, []), (1, true, []), (2, false, []), (3, false, []), (4, false, []), (5, false, []), (6, false, []), (7, false, []), (8, false, []), (9, false, [1]), (10, false, []), (11, false, []), (12, false, [])] | _ => []
noncomputable def body36 : Code := (Try.f36.body).getD .skip
theorem chk36 : codeChk pl36 body36 = true := by kernel_rfl
theorem good36 : good Try.prog 36 = true := by kernel_rfl
theorem isb36 : Try.f36.body = some body36 := by kernel_rfl
theorem wp36 {args : List AV} {h : Heap} {Q : AV → Heap → Prop} {c : Code} (hb : Try.f36.body = some c) (hn : Nat.ble args.length 127 = true) (hk : asx Try.prog 127 pl36 c (bodyQ Try.prog [.cell 4 25, .tmp 5, .tmp 6] Q) (fr0 args) h) : ACalls Try.prog 36 args h Q := by
  have e := isb36.symm.trans hb; cases e; exact acalls_of_body mixed Try.func36 isb36 good36 (Nat.le_of_ble_eq_true hn) pl36 chk36 hk
/- 37 slope/slopeplain.SameTape -/
def pl37 : Nat → Plan := fun | 6 => [(0, false, []), (1, false, []), (2, false, []), (3, false, []), (4, false, []), (5, false, []), (6, false, []), (7, false, []), (8, false, []), (9, false, []), (10, false, []), (11, false, [])] | _ => []
noncomputable def body37 : Code := (Try.f37.body).getD .skip
theorem chk37 : codeChk pl37 body37 = true := by kernel_rfl
theorem good37 : good Try.prog 37 = true := by kernel_rfl
theorem isb37 : Try.f37.body = some body37 := by kernel_rfl
theorem wp37 {args : List AV} {h : Heap} {Q : AV → Heap → Prop} {c : Code} (hb : Try.f37.body = some c) (hn : Nat.ble args.length 47 = true) (hk : asx Try.prog 47 pl37 c (bodyQ Try.prog [.tmp 4] Q) (fr0 args) h) : ACalls Try.prog 37 args h Q := by
  have e := isb37.symm.trans hb; cases e; exact acalls_of_body mixed Try.func37 isb37 good37 (Nat.le_of_ble_eq_true hn) pl37 chk37 hk
/- 38 (*slope/slopeplain.Given).Rat -/
def pl38 : Nat → Plan := fun | 1 => [(0, false, []), (1, true, []), (2, false, []), (3, false, []), (4, false, []), (6, false, []), (7, false, []), (8, true, []), (5, false, [1, 8]), (9, false, [1]), (10, false, []), (11, false, [])] | _ => []
noncomputable def body38 : Code := (Try.f38.body).getD .skip
theorem chk38 : codeChk pl38 body38 = true := by kernel_rfl
theorem good38 : good Try.prog 38 = true := by kernel_rfl
theorem isb38 : Try.f38.body = some body38 := by kernel_rfl
theorem wp38 {args : List AV} {h : Heap} {Q : AV → Heap → Prop} {c : Code} (hb : Try.f38.body = some c) (hn : Nat.ble args.length 16 = true) (hk : asx Try.prog 16 pl38 c (bodyQ Try.prog [.cell 4 81] Q) (fr0 args) h) : ACalls Try.prog 38 args h Q := by
  have e := isb38.symm.trans hb; cases e; exact acalls_of_body mixed Try.func38 isb38 good38 (Nat.le_of_ble_eq_true hn) pl38 chk38 hk
/- 39 slope/slopeplain.CopyTape -/
def pl39 : Nat → Plan := fun | 7 => [(0, false, []), (1, true, []), (2, false, []), (3, false, []), (4, false, []), (5, false, [1]), (6, false, []), (7, false, [])] | _ => []
noncomputable def body39 : Code := (Try.f39.body).getD .skip
theorem chk39 : codeChk pl39 body39 = true := by kernel_rfl
theorem good39 : good Try.prog 39 = true := by kernel_rfl
theorem isb39 : Try.f39.body = some body39 := by kernel_rfl
theorem wp39 {args : List AV} {h : Heap} {Q : AV → Heap → Prop} {c : Code} (hb : Try.f39.body = some c) (hn : Nat.ble args.length 46 = true) (hk : asx Try.prog 46 pl39 c (bodyQ Try.prog [.cell 2 25] Q) (fr0 args) h) : ACalls Try.prog 39 args h Q := by
  have e := isb39.symm.trans hb; cases e; exact acalls_of_body mixed Try.func39 isb39 good39 (Nat.le_of_ble_eq_true hn) pl39 chk39 hk
/- 40 slope/slopeplain.SameNat -/
def pl40 : Nat → Plan := fun | 6 => [(0, false, []), (1, false, []), (2, false, []), (3, false, []), (4, false, []), (5, false, []), (6, false, []), (7, false, []), (8, false, [])] | _ => []
noncomputable def body40 : Code := (Try.f40.body).getD .skip
theorem chk40 : codeChk pl40 body40 = true := by kernel_rfl
theorem good40 : good Try.prog 40 = true := by kernel_rfl
theorem isb40 : Try.f40.body = some body40 := by kernel_rfl
theorem wp40 {args : List AV} {h : Heap} {Q : AV → Heap → Prop} {c : Code} (hb : Try.f40.body = some c) (hn : Nat.ble args.length 26 = true) (hk : asx Try.prog 26 pl40 c (bodyQ Try.prog [.tmp 4] Q) (fr0 args) h) : ACalls Try.prog 40 args h Q := by
  have e := isb40.symm.trans hb; cases e; exact acalls_of_body mixed Try.func40 isb40 good40 (Nat.le_of_ble_eq_true hn) pl40 chk40 hk
/- 41 slope/slopeplain.SameWords -/
def pl41 : Nat → Plan := fun | 6 => [(0, false, []), (1, false, []), (2, false, []), (3, false, []), (4, false, []), (5, false, []), (6, false, []), (7, false, []), (8, false, [])] | _ => []
noncomputable def body41 : Code := (Try.f41.body).getD .skip
theorem chk41 : codeChk pl41 body41 = true := by kernel_rfl
theorem good41 : good Try.prog 41 = true := by kernel_rfl
theorem isb41 : Try.f41.body = some body41 := by kernel_rfl
theorem wp41 {args : List AV} {h : Heap} {Q : AV → Heap → Prop} {c : Code} (hb : Try.f41.body = some c) (hn : Nat.ble args.length 26 = true) (hk : asx Try.prog 26 pl41 c (bodyQ Try.prog [.tmp 4] Q) (fr0 args) h) : ACalls Try.prog 41 args h Q := by
  have e := isb41.symm.trans hb; cases e; exact acalls_of_body mixed Try.func41 isb41 good41 (Nat.le_of_ble_eq_true hn) pl41 chk41 hk
/- 42 slope/slopeplain.SameTexts -/
def pl42 : Nat → Plan := fun | 6 => [(0, false, []), (1, false, []), (2, false, []), (3, false, []), (4, false, []), (5, false, []), (6, false, []), (7, false, []), (8, false, [])] | _ => []
noncomputable def body42 : Code := (Try.f42.body).getD .skip
theorem chk42 : codeChk pl42 body42 = true := by kernel_rfl
theorem good42 : good Try.prog 42 = true := by kernel_rfl
theorem isb42 : Try.f42.body = some body42 := by kernel_rfl
theorem wp42 {args : List AV} {h : Heap} {Q : AV → Heap → Prop} {c : Code} (hb : Try.f42.body = some c) (hn : Nat.ble args.length 26 = true) (hk : asx Try.prog 26 pl42 c (bodyQ Try.prog [.tmp 4] Q) (fr0 args) h) : ACalls Try.prog 42 args h Q := by
  have e := isb42.symm.trans hb; cases e; exact acalls_of_body mixed Try.func42 isb42 good42 (Nat.le_of_ble_eq_true hn) pl42 chk42 hk
/- 43 slope/slopeplain.SameRats -/
def pl43 : Nat → Plan := fun | 6 => [(0, false, []), (1, false, []), (2, false, []), (3, false, []), (4, false, []), (5, false, []), (6, false, []), (7, false, []), (8, false, []), (9, false, [])] | _ => []
noncomputable def body43 : Code := (Try.f43.body).getD .skip
theorem chk43 : codeChk pl43 body43 = true := by kernel_rfl
theorem good43 : good Try.prog 43 = true := by kernel_rfl
theorem isb43 : Try.f43.body = some body43 := by kernel_rfl
theorem wp43 {args : List AV} {h : Heap} {Q : AV → Heap → Prop} {c : Code} (hb : Try.f43.body = some c) (hn : Nat.ble args.length 27 = true) (hk : asx Try.prog 27 pl43 c (bodyQ Try.prog [.tmp 4] Q) (fr0 args) h) : ACalls Try.prog 43 args h Q := by
  have e := isb43.symm.trans hb; cases e; exact acalls_of_body mixed Try.func43 isb43 good43 (Nat.le_of_ble_eq_true hn) pl43 chk43 hk
/- 44 slope/slopeplain.SameRows -/
def pl44 : Nat → Plan := fun | 6 => [(0, false, []), (1, false, []), (2, false, []), (3, false, []), (4, false, []), (5, false, []), (6, false, []), (7, false, []), (8, false, []), (9, false, [])] | _ => []
noncomputable def body44 : Code := (Try.f44.body).getD .skip
theorem chk44 : codeChk pl44 body44 = true := by kernel_rfl
theorem good44 : good Try.prog 44 = true := by kernel_rfl
theorem isb44 : Try.f44.body = some body44 := by kernel_rfl
theorem wp44 {args : List AV} {h : Heap} {Q : AV → Heap → Prop} {c : Code} (hb : Try.f44.body = some c) (hn : Nat.ble args.length 27 = true) (hk : asx Try.prog 27 pl44 c (bodyQ Try.prog [.tmp 4] Q) (fr0 args) h) : ACalls Try.prog 44 args h Q := by
  have e := isb44.symm.trans hb; cases e; exact acalls_of_body mixed Try.func44 isb44 good44 (Nat.le_of_ble_eq_true hn) pl44 chk44 hk
/- 45 (*slope/slopeplain.Given).whole -/
def pl45 : Nat → Plan := fun | 4 => [(0, false, []), (1, false, []), (2, false, []), (3, false, []), (4, false, []), (5, false, []), (6, false, []), (7, false, []), (8, false, []), (9, false, []), (10, false, []), (11, false, []), (12, false, []), (13, false, []), (14, false, []), (15, false, []), (16, false, []), (17, false, [])] | 9 => [(0, false, []), (1, false, []), (2, false, []), (3, false, []), (4, false, []), (5, false, []), (6, false, []), (7, false, []), (8, false, []), (9, false, []), (10, false, []), (11, false, []), (12, false, []), (13, false, []), (14, false, []), (15, false, []), (16, false, []), (17, false, [])] | 18 => [(0, false, []), (1, false, []), (2, false, []), (3, false, []), (4, false, []), (5, false, []), (6, false, []), (7, false, []), (8, false, []), (9, false, []), (10, false, []), (11, false, []), (12, false, []), (13, false, []), (14, false, []), (15, false, []), (16, false, []), (17, false, []), (18, false, []), (19, false, []), (20, false, []), (21, false, [])] | 28 => [(0, false, []), (1, false, []), (2, false, []), (3, false, []), (4, false, []), (5, false, []), (6, false, []), (7, false, []), (8, false, []), (9, false, []), (10, false, []), (11, false, []), (12, false, []), (13, false, []), (14, false, []), (15, false, [])] | _ => []
noncomputable def body45 : Code := (Try.f45.body).getD .skip
theorem chk45 : codeChk pl45 body45 = true := by kernel_rfl
theorem good45 : good Try.prog 45 = true := by kernel_rfl
theorem isb45 : Try.f45.body = some body45 := by kernel_rfl
theorem wp45 {args : List AV} {h : Heap} {Q : AV → Heap → Prop} {c : Code} (hb : Try.f45.body = some c) (hn : Nat.ble args.length 156 = true) (hk : asx Try.prog 156 pl45 c (bodyQ Try.prog [.tmp 2] Q) (fr0 args) h) : ACalls Try.prog 45 args h Q := by
  have e := isb45.symm.trans hb; cases e; exact acalls_of_body mixed Try.func45 isb45 good45 (Nat.le_of_ble_eq_true hn) pl45 chk45 hk
/- 47 slope/slopeplain.CopyInts -/
def pl47 : Nat → Plan := fun | _ => []
noncomputable def body47 : Code := (Try.f47.body).getD .skip
theorem chk47 : codeChk pl47 body47 = true := by kernel_rfl
theorem good47 : good Try.prog 47 = true := by kernel_rfl
theorem isb47 : Try.f47.body = some body47 := by kernel_rfl
theorem wp47 {args : List AV} {h : Heap} {Q : AV → Heap → Prop} {c : Code} (hb : Try.f47.body = some c) (hn : Nat.ble args.length 25 = true) (hk : asx Try.prog 25 pl47 c (bodyQ Try.prog [.tmp 2] Q) (fr0 args) h) : ACalls Try.prog 47 args h Q := by
  have e := isb47.symm.trans hb; cases e; exact acalls_of_body mixed Try.func47 isb47 good47 (Nat.le_of_ble_eq_true hn) pl47 chk47 hk
/- 58 slope/tape.Check -/
def pl58 : Nat → Plan := fun | _ => []
noncomputable def body58 : Code := (Try.f58.body).getD .skip
theorem chk58 : codeChk pl58 body58 = true := by kernel_rfl
theorem good58 : good Try.prog 58 = true := by kernel_rfl
theorem isb58 : Try.f58.body = some body58 := by kernel_rfl
theorem wp58 {args : List AV} {h : Heap} {Q : AV → Heap → Prop} {c : Code} (hb : Try.f58.body = some c) (hn : Nat.ble args.length 75 = true) (hk : asx Try.prog 75 pl58 c (bodyQ Try.prog [.tmp 2, .tmp 3] Q) (fr0 args) h) : ACalls Try.prog 58 args h Q := by
  have e := isb58.symm.trans hb; cases e; exact acalls_of_body mixed Try.func58 isb58 good58 (Nat.le_of_ble_eq_true hn) pl58 chk58 hk
/- 59 slope/engine.own -/
def pl59 : Nat → Plan := fun | 1 => [(0, false, []), (1, true, []), (2, false, []), (3, false, []), (5, false, []), (6, true, []), (4, false, [1, 6]), (7, false, [1]), (8, false, []), (9, false, [])] | _ => []
noncomputable def body59 : Code := (Try.f59.body).getD .skip
theorem chk59 : codeChk pl59 body59 = true := by kernel_rfl
theorem good59 : good Try.prog 59 = true := by kernel_rfl
theorem isb59 : Try.f59.body = some body59 := by kernel_rfl
theorem wp59 {args : List AV} {h : Heap} {Q : AV → Heap → Prop} {c : Code} (hb : Try.f59.body = some c) (hn : Nat.ble args.length 12 = true) (hk : asx Try.prog 12 pl59 c (bodyQ Try.prog [.cell 2 81] Q) (fr0 args) h) : ACalls Try.prog 59 args h Q := by
  have e := isb59.symm.trans hb; cases e; exact acalls_of_body mixed Try.func59 isb59 good59 (Nat.le_of_ble_eq_true hn) pl59 chk59 hk
/- 60 slope/sloperef5.Check -/
def pl60 : Nat → Plan := fun | 10 => [(0, false, []), (1, false, []), (2, false, []), (3, false, []), (4, false, []), (5, false, []), (6, false, []), (7, false, []), (8, false, []), (9, false, [])] | 16 => [(0, false, []), (1, false, []), (2, false, []), (3, false, []), (4, false, []), (5, false, []), (6, false, []), (7, false, []), (8, false, []), (9, false, []), (10, false, []), (11, false, []), (12, false, []), (13, false, []), (14, false, []), (15, false, []), (16, false, [])] | _ => []
noncomputable def body60 : Code := (Try.f60.body).getD .skip
theorem chk60 : codeChk pl60 body60 = true := by kernel_rfl
theorem good60 : good Try.prog 60 = true := by kernel_rfl
theorem isb60 : Try.f60.body = some body60 := by kernel_rfl
theorem wp60 {args : List AV} {h : Heap} {Q : AV → Heap → Prop} {c : Code} (hb : Try.f60.body = some c) (hn : Nat.ble args.length 78 = true) (hk : asx Try.prog 78 pl60 c (bodyQ Try.prog [.tmp 2, .tmp 3] Q) (fr0 args) h) : ACalls Try.prog 60 args h Q := by
  have e := isb60.symm.trans hb; cases e; exact acalls_of_body mixed Try.func60 isb60 good60 (Nat.le_of_ble_eq_true hn) pl60 chk60 hk
/- 61 slope/slopeplain.CopyRat -/
def pl61 : Nat → Plan := fun | 1 => [(0, false, []), (1, true, []), (2, false, []), (3, false, []), (5, false, []), (6, true, []), (4, false, [1, 6]), (7, false, [1]), (8, false, []), (9, false, [])] | _ => []
noncomputable def body61 : Code := (Try.f61.body).getD .skip
theorem chk61 : codeChk pl61 body61 = true := by kernel_rfl
theorem good61 : good Try.prog 61 = true := by kernel_rfl
theorem isb61 : Try.f61.body = some body61 := by kernel_rfl
theorem wp61 {args : List AV} {h : Heap} {Q : AV → Heap → Prop} {c : Code} (hb : Try.f61.body = some c) (hn : Nat.ble args.length 12 = true) (hk : asx Try.prog 12 pl61 c (bodyQ Try.prog [.cell 2 81] Q) (fr0 args) h) : ACalls Try.prog 61 args h Q := by
  have e := isb61.symm.trans hb; cases e; exact acalls_of_body mixed Try.func61 isb61 good61 (Nat.le_of_ble_eq_true hn) pl61 chk61 hk
/- 62 slope/slopeplain.SameOp -/
def pl62 : Nat → Plan := fun | _ => []
noncomputable def body62 : Code := (Try.f62.body).getD .skip
theorem chk62 : codeChk pl62 body62 = true := by kernel_rfl
theorem good62 : good Try.prog 62 = true := by kernel_rfl
theorem isb62 : Try.f62.body = some body62 := by kernel_rfl
theorem wp62 {args : List AV} {h : Heap} {Q : AV → Heap → Prop} {c : Code} (hb : Try.f62.body = some c) (hn : Nat.ble args.length 38 = true) (hk : asx Try.prog 38 pl62 c (bodyQ Try.prog [.tmp 4] Q) (fr0 args) h) : ACalls Try.prog 62 args h Q := by
  have e := isb62.symm.trans hb; cases e; exact acalls_of_body mixed Try.func62 isb62 good62 (Nat.le_of_ble_eq_true hn) pl62 chk62 hk
/- 63 (*slope/slopeplain.Given).Nat -/
def pl63 : Nat → Plan := fun | 4 => [(0, false, []), (1, false, []), (2, false, []), (3, false, []), (4, true, []), (5, false, []), (6, false, [4]), (7, false, [4]), (8, false, []), (9, false, []), (10, false, []), (11, false, [])] | _ => []
noncomputable def body63 : Code := (Try.f63.body).getD .skip
theorem chk63 : codeChk pl63 body63 = true := by kernel_rfl
theorem good63 : good Try.prog 63 = true := by kernel_rfl
theorem isb63 : Try.f63.body = some body63 := by kernel_rfl
theorem wp63 {args : List AV} {h : Heap} {Q : AV → Heap → Prop} {c : Code} (hb : Try.f63.body = some c) (hn : Nat.ble args.length 36 = true) (hk : asx Try.prog 36 pl63 c (bodyQ Try.prog [.tmp 4] Q) (fr0 args) h) : ACalls Try.prog 63 args h Q := by
  have e := isb63.symm.trans hb; cases e; exact acalls_of_body mixed Try.func63 isb63 good63 (Nat.le_of_ble_eq_true hn) pl63 chk63 hk
/- 64 slope/slopeplain.SameRat -/
def pl64 : Nat → Plan := fun | _ => []
noncomputable def body64 : Code := (Try.f64.body).getD .skip
theorem chk64 : codeChk pl64 body64 = true := by kernel_rfl
theorem good64 : good Try.prog 64 = true := by kernel_rfl
theorem isb64 : Try.f64.body = some body64 := by kernel_rfl
theorem wp64 {args : List AV} {h : Heap} {Q : AV → Heap → Prop} {c : Code} (hb : Try.f64.body = some c) (hn : Nat.ble args.length 24 = true) (hk : asx Try.prog 24 pl64 c (bodyQ Try.prog [.tmp 4] Q) (fr0 args) h) : ACalls Try.prog 64 args h Q := by
  have e := isb64.symm.trans hb; cases e; exact acalls_of_body mixed Try.func64 isb64 good64 (Nat.le_of_ble_eq_true hn) pl64 chk64 hk
/- 65 slope/slopeplain.SameTable -/
def pl65 : Nat → Plan := fun | 6 => [(0, false, []), (1, false, []), (2, false, []), (3, false, []), (4, false, []), (5, false, []), (6, false, []), (7, false, []), (8, false, []), (9, false, []), (10, false, []), (11, false, [])] | _ => []
noncomputable def body65 : Code := (Try.f65.body).getD .skip
theorem chk65 : codeChk pl65 body65 = true := by kernel_rfl
theorem good65 : good Try.prog 65 = true := by kernel_rfl
theorem isb65 : Try.f65.body = some body65 := by kernel_rfl
theorem wp65 {args : List AV} {h : Heap} {Q : AV → Heap → Prop} {c : Code} (hb : Try.f65.body = some c) (hn : Nat.ble args.length 39 = true) (hk : asx Try.prog 39 pl65 c (bodyQ Try.prog [.tmp 4] Q) (fr0 args) h) : ACalls Try.prog 65 args h Q := by
  have e := isb65.symm.trans hb; cases e; exact acalls_of_body mixed Try.func65 isb65 good65 (Nat.le_of_ble_eq_true hn) pl65 chk65 hk
/- 66 slope/slopeplain.SamePattern -/
def pl66 : Nat → Plan := fun | _ => []
noncomputable def body66 : Code := (Try.f66.body).getD .skip
theorem chk66 : codeChk pl66 body66 = true := by kernel_rfl
theorem good66 : good Try.prog 66 = true := by kernel_rfl
theorem isb66 : Try.f66.body = some body66 := by kernel_rfl
theorem wp66 {args : List AV} {h : Heap} {Q : AV → Heap → Prop} {c : Code} (hb : Try.f66.body = some c) (hn : Nat.ble args.length 31 = true) (hk : asx Try.prog 31 pl66 c (bodyQ Try.prog [.tmp 4] Q) (fr0 args) h) : ACalls Try.prog 66 args h Q := by
  have e := isb66.symm.trans hb; cases e; exact acalls_of_body mixed Try.func66 isb66 good66 (Nat.le_of_ble_eq_true hn) pl66 chk66 hk
/- 67 slope/slopeplain.SameModel -/
def pl67 : Nat → Plan := fun | 6 => [(0, false, []), (1, false, []), (2, false, []), (3, false, []), (4, false, []), (5, false, []), (6, false, []), (7, false, []), (8, false, []), (9, false, []), (10, false, []), (11, false, []), (12, false, []), (13, false, []), (14, false, []), (15, false, []), (16, false, []), (17, false, []), (18, false, []), (19, false, []), (20, false, []), (21, false, []), (22, false, []), (23, false, []), (24, false, []), (25, false, []), (26, false, []), (27, false, []), (28, false, []), (29, false, []), (30, false, []), (31, false, []), (32, false, []), (33, false, []), (34, false, []), (35, false, []), (36, false, []), (37, false, []), (38, false, []), (39, false, []), (40, false, []), (41, false, []), (42, false, []), (43, false, [])] | 11 => [(0, false, []), (1, false, []), (2, false, []), (3, false, []), (4, false, []), (5, false, []), (6, false, []), (7, false, []), (8, false, []), (9, false, []), (10, false, [])] | 16 => [(1000000, false, [10, 4]), (0, false, []), (1, true, []), (2, false, []), (3, false, []), (4, true, []), (5, false, []), (6, true, []), (7, false, []), (8, false, []), (9, true, []), (10, false, [1, 4, 6, 9]), (11, false, [1, 4, 6, 9]), (12, false, [6, 9]), (13, false, []), (11, false, [1, 4, 6, 9]), (10, false, [1, 4, 6, 9]), (12, false, [6, 9]), (13, false, [])] | _ => []
noncomputable def body67 : Code := (Try.f67.body).getD .skip
theorem chk67 : codeChk pl67 body67 = true := by kernel_rfl
theorem good67 : good Try.prog 67 = true := by kernel_rfl
theorem isb67 : Try.f67.body = some body67 := by kernel_rfl
theorem wp67 {args : List AV} {h : Heap} {Q : AV → Heap → Prop} {c : Code} (hb : Try.f67.body = some c) (hn : Nat.ble args.length 172 = true) (hk : asx Try.prog 172 pl67 c (bodyQ Try.prog [.tmp 4] Q) (fr0 args) h) : ACalls Try.prog 67 args h Q := by
  have e := isb67.symm.trans hb; cases e; exact acalls_of_body mixed Try.func67 isb67 good67 (Nat.le_of_ble_eq_true hn) pl67 chk67 hk
/- 88 slope/tape.check -/
def pl88 : Nat → Plan := fun | _ => []
noncomputable def body88 : Code := (Try.f88.body).getD .skip
theorem chk88 : codeChk pl88 body88 = true := by kernel_rfl
theorem good88 : good Try.prog 88 = true := by kernel_rfl
theorem isb88 : Try.f88.body = some body88 := by kernel_rfl
theorem wp88 {args : List AV} {h : Heap} {Q : AV → Heap → Prop} {c : Code} (hb : Try.f88.body = some c) (hn : Nat.ble args.length 65 = true) (hk : asx Try.prog 65 pl88 c (bodyQ Try.prog [.tmp 6] Q) (fr0 args) h) : ACalls Try.prog 88 args h Q := by
  have e := isb88.symm.trans hb; cases e; exact acalls_of_body mixed Try.func88 isb88 good88 (Nat.le_of_ble_eq_true hn) pl88 chk88 hk
/- 89 slope/sloperef5.node -/
def pl89 : Nat → Plan := fun | _ => []
noncomputable def body89 : Code := (Try.f89.body).getD .skip
theorem chk89 : codeChk pl89 body89 = true := by kernel_rfl
theorem good89 : good Try.prog 89 = true := by kernel_rfl
theorem isb89 : Try.f89.body = some body89 := by kernel_rfl
theorem wp89 {args : List AV} {h : Heap} {Q : AV → Heap → Prop} {c : Code} (hb : Try.f89.body = some c) (hn : Nat.ble args.length 81 = true) (hk : asx Try.prog 81 pl89 c (bodyQ Try.prog [.tmp 6] Q) (fr0 args) h) : ACalls Try.prog 89 args h Q := by
  have e := isb89.symm.trans hb; cases e; exact acalls_of_body mixed Try.func89 isb89 good89 (Nat.le_of_ble_eq_true hn) pl89 chk89 hk
/- 90 slope/slopeplain.CopyNat -/
def pl90 : Nat → Plan := fun | _ => []
noncomputable def body90 : Code := (Try.f90.body).getD .skip
theorem chk90 : codeChk pl90 body90 = true := by kernel_rfl
theorem good90 : good Try.prog 90 = true := by kernel_rfl
theorem isb90 : Try.f90.body = some body90 := by kernel_rfl
theorem wp90 {args : List AV} {h : Heap} {Q : AV → Heap → Prop} {c : Code} (hb : Try.f90.body = some c) (hn : Nat.ble args.length 25 = true) (hk : asx Try.prog 25 pl90 c (bodyQ Try.prog [.tmp 2] Q) (fr0 args) h) : ACalls Try.prog 90 args h Q := by
  have e := isb90.symm.trans hb; cases e; exact acalls_of_body mixed Try.func90 isb90 good90 (Nat.le_of_ble_eq_true hn) pl90 chk90 hk
/- 91 slope/slopeplain.SameSet -/
def pl91 : Nat → Plan := fun | _ => []
noncomputable def body91 : Code := (Try.f91.body).getD .skip
theorem chk91 : codeChk pl91 body91 = true := by kernel_rfl
theorem good91 : good Try.prog 91 = true := by kernel_rfl
theorem isb91 : Try.f91.body = some body91 := by kernel_rfl
theorem wp91 {args : List AV} {h : Heap} {Q : AV → Heap → Prop} {c : Code} (hb : Try.f91.body = some c) (hn : Nat.ble args.length 17 = true) (hk : asx Try.prog 17 pl91 c (bodyQ Try.prog [.tmp 4] Q) (fr0 args) h) : ACalls Try.prog 91 args h Q := by
  have e := isb91.symm.trans hb; cases e; exact acalls_of_body mixed Try.func91 isb91 good91 (Nat.le_of_ble_eq_true hn) pl91 chk91 hk
/- 106 slope/tape.check$1 -/
def pl106 : Nat → Plan := fun | _ => []
noncomputable def body106 : Code := (Try.f106.body).getD .skip
theorem chk106 : codeChk pl106 body106 = true := by kernel_rfl
theorem good106 : good Try.prog 106 = true := by kernel_rfl
theorem isb106 : Try.f106.body = some body106 := by kernel_rfl
theorem wp106 {args : List AV} {h : Heap} {Q : AV → Heap → Prop} {c : Code} (hb : Try.f106.body = some c) (hn : Nat.ble args.length 11 = true) (hk : asx Try.prog 11 pl106 c (bodyQ Try.prog [.tmp 3] Q) (fr0 args) h) : ACalls Try.prog 106 args h Q := by
  have e := isb106.symm.trans hb; cases e; exact acalls_of_body mixed Try.func106 isb106 good106 (Nat.le_of_ble_eq_true hn) pl106 chk106 hk
/- 107 slope/tape.spare -/
def pl107 : Nat → Plan := fun | _ => []
noncomputable def body107 : Code := (Try.f107.body).getD .skip
theorem chk107 : codeChk pl107 body107 = true := by kernel_rfl
theorem good107 : good Try.prog 107 = true := by kernel_rfl
theorem isb107 : Try.f107.body = some body107 := by kernel_rfl
theorem wp107 {args : List AV} {h : Heap} {Q : AV → Heap → Prop} {c : Code} (hb : Try.f107.body = some c) (hn : Nat.ble args.length 62 = true) (hk : asx Try.prog 62 pl107 c (bodyQ Try.prog [.tmp 2] Q) (fr0 args) h) : ACalls Try.prog 107 args h Q := by
  have e := isb107.symm.trans hb; cases e; exact acalls_of_body mixed Try.func107 isb107 good107 (Nat.le_of_ble_eq_true hn) pl107 chk107 hk
/- 108 slope/rational.May -/
def pl108 : Nat → Plan := fun | _ => []
noncomputable def body108 : Code := (Try.f108.body).getD .skip
theorem chk108 : codeChk pl108 body108 = true := by kernel_rfl
theorem good108 : good Try.prog 108 = true := by kernel_rfl
theorem isb108 : Try.f108.body = some body108 := by kernel_rfl
theorem wp108 {args : List AV} {h : Heap} {Q : AV → Heap → Prop} {c : Code} (hb : Try.f108.body = some c) (hn : Nat.ble args.length 42 = true) (hk : asx Try.prog 42 pl108 c (bodyQ Try.prog [.tmp 2] Q) (fr0 args) h) : ACalls Try.prog 108 args h Q := by
  have e := isb108.symm.trans hb; cases e; exact acalls_of_body mixed Try.func108 isb108 good108 (Nat.le_of_ble_eq_true hn) pl108 chk108 hk
/- 109 slope/tape.twofold -/
def pl109 : Nat → Plan := fun | _ => []
noncomputable def body109 : Code := (Try.f109.body).getD .skip
theorem chk109 : codeChk pl109 body109 = true := by kernel_rfl
theorem good109 : good Try.prog 109 = true := by kernel_rfl
theorem isb109 : Try.f109.body = some body109 := by kernel_rfl
theorem wp109 {args : List AV} {h : Heap} {Q : AV → Heap → Prop} {c : Code} (hb : Try.f109.body = some c) (hn : Nat.ble args.length 17 = true) (hk : asx Try.prog 17 pl109 c (bodyQ Try.prog [.tmp 2] Q) (fr0 args) h) : ACalls Try.prog 109 args h Q := by
  have e := isb109.symm.trans hb; cases e; exact acalls_of_body mixed Try.func109 isb109 good109 (Nat.le_of_ble_eq_true hn) pl109 chk109 hk
/- 110 slope/sloperef5.unused -/
def pl110 : Nat → Plan := fun | _ => []
noncomputable def body110 : Code := (Try.f110.body).getD .skip
theorem chk110 : codeChk pl110 body110 = true := by kernel_rfl
theorem good110 : good Try.prog 110 = true := by kernel_rfl
theorem isb110 : Try.f110.body = some body110 := by kernel_rfl
theorem wp110 {args : List AV} {h : Heap} {Q : AV → Heap → Prop} {c : Code} (hb : Try.f110.body = some c) (hn : Nat.ble args.length 37 = true) (hk : asx Try.prog 37 pl110 c (bodyQ Try.prog [.tmp 2] Q) (fr0 args) h) : ACalls Try.prog 110 args h Q := by
  have e := isb110.symm.trans hb; cases e; exact acalls_of_body mixed Try.func110 isb110 good110 (Nat.le_of_ble_eq_true hn) pl110 chk110 hk
/- 111 slope/sloperef2.May -/
def pl111 : Nat → Plan := fun | _ => []
noncomputable def body111 : Code := (Try.f111.body).getD .skip
theorem chk111 : codeChk pl111 body111 = true := by kernel_rfl
theorem good111 : good Try.prog 111 = true := by kernel_rfl
theorem isb111 : Try.f111.body = some body111 := by kernel_rfl
theorem wp111 {args : List AV} {h : Heap} {Q : AV → Heap → Prop} {c : Code} (hb : Try.f111.body = some c) (hn : Nat.ble args.length 54 = true) (hk : asx Try.prog 54 pl111 c (bodyQ Try.prog [.tmp 2] Q) (fr0 args) h) : ACalls Try.prog 111 args h Q := by
  have e := isb111.symm.trans hb; cases e; exact acalls_of_body mixed Try.func111 isb111 good111 (Nat.le_of_ble_eq_true hn) pl111 chk111 hk
/- 112 slope/sloperef5.Onefold -/
def pl112 : Nat → Plan := fun | _ => []
noncomputable def body112 : Code := (Try.f112.body).getD .skip
theorem chk112 : codeChk pl112 body112 = true := by kernel_rfl
theorem good112 : good Try.prog 112 = true := by kernel_rfl
theorem isb112 : Try.f112.body = some body112 := by kernel_rfl
theorem wp112 {args : List AV} {h : Heap} {Q : AV → Heap → Prop} {c : Code} (hb : Try.f112.body = some c) (hn : Nat.ble args.length 9 = true) (hk : asx Try.prog 9 pl112 c (bodyQ Try.prog [.tmp 2] Q) (fr0 args) h) : ACalls Try.prog 112 args h Q := by
  have e := isb112.symm.trans hb; cases e; exact acalls_of_body mixed Try.func112 isb112 good112 (Nat.le_of_ble_eq_true hn) pl112 chk112 hk
/- 113 slope/sloperef5.Twofold -/
def pl113 : Nat → Plan := fun | _ => []
noncomputable def body113 : Code := (Try.f113.body).getD .skip
theorem chk113 : codeChk pl113 body113 = true := by kernel_rfl
theorem good113 : good Try.prog 113 = true := by kernel_rfl
theorem isb113 : Try.f113.body = some body113 := by kernel_rfl
theorem wp113 {args : List AV} {h : Heap} {Q : AV → Heap → Prop} {c : Code} (hb : Try.f113.body = some c) (hn : Nat.ble args.length 17 = true) (hk : asx Try.prog 17 pl113 c (bodyQ Try.prog [.tmp 2] Q) (fr0 args) h) : ACalls Try.prog 113 args h Q := by
  have e := isb113.symm.trans hb; cases e; exact acalls_of_body mixed Try.func113 isb113 good113 (Nat.le_of_ble_eq_true hn) pl113 chk113 hk
/- 118 slope/natural.May -/
def pl118 : Nat → Plan := fun | _ => []
noncomputable def body118 : Code := (Try.f118.body).getD .skip
theorem chk118 : codeChk pl118 body118 = true := by kernel_rfl
theorem good118 : good Try.prog 118 = true := by kernel_rfl
theorem isb118 : Try.f118.body = some body118 := by kernel_rfl
theorem wp118 {args : List AV} {h : Heap} {Q : AV → Heap → Prop} {c : Code} (hb : Try.f118.body = some c) (hn : Nat.ble args.length 20 = true) (hk : asx Try.prog 20 pl118 c (bodyQ Try.prog [.tmp 2] Q) (fr0 args) h) : ACalls Try.prog 118 args h Q := by
  have e := isb118.symm.trans hb; cases e; exact acalls_of_body mixed Try.func118 isb118 good118 (Nat.le_of_ble_eq_true hn) pl118 chk118 hk
/- 119 slope/whole.One -/
def pl119 : Nat → Plan := fun | _ => []
noncomputable def body119 : Code := (Try.f119.body).getD .skip
theorem chk119 : codeChk pl119 body119 = true := by kernel_rfl
theorem good119 : good Try.prog 119 = true := by kernel_rfl
theorem isb119 : Try.f119.body = some body119 := by kernel_rfl
theorem wp119 {args : List AV} {h : Heap} {Q : AV → Heap → Prop} {c : Code} (hb : Try.f119.body = some c) (hn : Nat.ble args.length 12 = true) (hk : asx Try.prog 12 pl119 c (bodyQ Try.prog [.tmp 2] Q) (fr0 args) h) : ACalls Try.prog 119 args h Q := by
  have e := isb119.symm.trans hb; cases e; exact acalls_of_body mixed Try.func119 isb119 good119 (Nat.le_of_ble_eq_true hn) pl119 chk119 hk
/- 120 slope/whole.Gcd -/
def pl120 : Nat → Plan := fun | 14 => [(0, false, []), (1, false, []), (2, false, []), (3, false, []), (4, false, []), (5, false, [])] | _ => []
noncomputable def body120 : Code := (Try.f120.body).getD .skip
theorem chk120 : codeChk pl120 body120 = true := by kernel_rfl
theorem good120 : good Try.prog 120 = true := by kernel_rfl
theorem isb120 : Try.f120.body = some body120 := by kernel_rfl
theorem wp120 {args : List AV} {h : Heap} {Q : AV → Heap → Prop} {c : Code} (hb : Try.f120.body = some c) (hn : Nat.ble args.length 75 = true) (hk : asx Try.prog 75 pl120 c (bodyQ Try.prog [.tmp 4] Q) (fr0 args) h) : ACalls Try.prog 120 args h Q := by
  have e := isb120.symm.trans hb; cases e; exact acalls_of_body mixed Try.func120 isb120 good120 (Nat.le_of_ble_eq_true hn) pl120 chk120 hk
/- 121 slope/sloperef5.none -/
def pl121 : Nat → Plan := fun | _ => []
noncomputable def body121 : Code := (Try.f121.body).getD .skip
theorem chk121 : codeChk pl121 body121 = true := by kernel_rfl
theorem good121 : good Try.prog 121 = true := by kernel_rfl
theorem isb121 : Try.f121.body = some body121 := by kernel_rfl
theorem wp121 {args : List AV} {h : Heap} {Q : AV → Heap → Prop} {c : Code} (hb : Try.f121.body = some c) (hn : Nat.ble args.length 18 = true) (hk : asx Try.prog 18 pl121 c (bodyQ Try.prog [.tmp 2] Q) (fr0 args) h) : ACalls Try.prog 121 args h Q := by
  have e := isb121.symm.trans hb; cases e; exact acalls_of_body mixed Try.func121 isb121 good121 (Nat.le_of_ble_eq_true hn) pl121 chk121 hk
/- 122 slope/sloperef2.MayNat -/
def pl122 : Nat → Plan := fun | _ => []
noncomputable def body122 : Code := (Try.f122.body).getD .skip
theorem chk122 : codeChk pl122 body122 = true := by kernel_rfl
theorem good122 : good Try.prog 122 = true := by kernel_rfl
theorem isb122 : Try.f122.body = some body122 := by kernel_rfl
theorem wp122 {args : List AV} {h : Heap} {Q : AV → Heap → Prop} {c : Code} (hb : Try.f122.body = some c) (hn : Nat.ble args.length 20 = true) (hk : asx Try.prog 20 pl122 c (bodyQ Try.prog [.tmp 2] Q) (fr0 args) h) : ACalls Try.prog 122 args h Q := by
  have e := isb122.symm.trans hb; cases e; exact acalls_of_body mixed Try.func122 isb122 good122 (Nat.le_of_ble_eq_true hn) pl122 chk122 hk
/- 123 slope/sloperef2.GcdWhole -/
def pl123 : Nat → Plan := fun | _ => []
noncomputable def body123 : Code := (Try.f123.body).getD .skip
theorem chk123 : codeChk pl123 body123 = true := by kernel_rfl
theorem good123 : good Try.prog 123 = true := by kernel_rfl
theorem isb123 : Try.f123.body = some body123 := by kernel_rfl
theorem wp123 {args : List AV} {h : Heap} {Q : AV → Heap → Prop} {c : Code} (hb : Try.f123.body = some c) (hn : Nat.ble args.length 71 = true) (hk : asx Try.prog 71 pl123 c (bodyQ Try.prog [.tmp 4] Q) (fr0 args) h) : ACalls Try.prog 123 args h Q := by
  have e := isb123.symm.trans hb; cases e; exact acalls_of_body mixed Try.func123 isb123 good123 (Nat.le_of_ble_eq_true hn) pl123 chk123 hk
/- 127 slope/whole.Cmp -/
def pl127 : Nat → Plan := fun | 8 => [(0, false, []), (1, false, []), (2, false, []), (3, false, []), (4, false, []), (5, false, []), (6, false, []), (7, false, []), (8, false, []), (9, false, [])] | 10 => [(0, false, []), (1, false, []), (2, false, []), (3, false, []), (4, false, []), (5, false, []), (6, false, []), (7, false, []), (8, false, []), (9, false, [])] | _ => []
noncomputable def body127 : Code := (Try.f127.body).getD .skip
theorem chk127 : codeChk pl127 body127 = true := by kernel_rfl
theorem good127 : good Try.prog 127 = true := by kernel_rfl
theorem isb127 : Try.f127.body = some body127 := by kernel_rfl
theorem wp127 {args : List AV} {h : Heap} {Q : AV → Heap → Prop} {c : Code} (hb : Try.f127.body = some c) (hn : Nat.ble args.length 45 = true) (hk : asx Try.prog 45 pl127 c (bodyQ Try.prog [.tmp 4] Q) (fr0 args) h) : ACalls Try.prog 127 args h Q := by
  have e := isb127.symm.trans hb; cases e; exact acalls_of_body mixed Try.func127 isb127 good127 (Nat.le_of_ble_eq_true hn) pl127 chk127 hk
/- 128 slope/whole.steps -/
def pl128 : Nat → Plan := fun | _ => []
noncomputable def body128 : Code := (Try.f128.body).getD .skip
theorem chk128 : codeChk pl128 body128 = true := by kernel_rfl
theorem good128 : good Try.prog 128 = true := by kernel_rfl
theorem isb128 : Try.f128.body = some body128 := by kernel_rfl
theorem wp128 {args : List AV} {h : Heap} {Q : AV → Heap → Prop} {c : Code} (hb : Try.f128.body = some c) (hn : Nat.ble args.length 86 = true) (hk : asx Try.prog 86 pl128 c (bodyQ Try.prog [.tmp 4, .tmp 5, .tmp 6, .tmp 7] Q) (fr0 args) h) : ACalls Try.prog 128 args h Q := by
  have e := isb128.symm.trans hb; cases e; exact acalls_of_body mixed Try.func128 isb128 good128 (Nat.le_of_ble_eq_true hn) pl128 chk128 hk
/- 129 slope/whole.DivMod -/
def pl129 : Nat → Plan := fun | 17 => [(0, false, []), (2, false, []), (3, false, []), (4, false, []), (6, false, []), (1, false, []), (5, false, []), (7, false, []), (8, false, []), (9, false, [])] | _ => []
noncomputable def body129 : Code := (Try.f129.body).getD .skip
theorem chk129 : codeChk pl129 body129 = true := by kernel_rfl
theorem good129 : good Try.prog 129 = true := by kernel_rfl
theorem isb129 : Try.f129.body = some body129 := by kernel_rfl
theorem wp129 {args : List AV} {h : Heap} {Q : AV → Heap → Prop} {c : Code} (hb : Try.f129.body = some c) (hn : Nat.ble args.length 94 = true) (hk : asx Try.prog 94 pl129 c (bodyQ Try.prog [.tmp 4, .tmp 5] Q) (fr0 args) h) : ACalls Try.prog 129 args h Q := by
  have e := isb129.symm.trans hb; cases e; exact acalls_of_body mixed Try.func129 isb129 good129 (Nat.le_of_ble_eq_true hn) pl129 chk129 hk
/- 130 slope/whole.mixed -/
def pl130 : Nat → Plan := fun | _ => []
noncomputable def body130 : Code := (Try.f130.body).getD .skip
theorem chk130 : codeChk pl130 body130 = true := by kernel_rfl
theorem good130 : good Try.prog 130 = true := by kernel_rfl
theorem isb130 : Try.f130.body = some body130 := by kernel_rfl
theorem wp130 {args : List AV} {h : Heap} {Q : AV → Heap → Prop} {c : Code} (hb : Try.f130.body = some c) (hn : Nat.ble args.length 60 = true) (hk : asx Try.prog 60 pl130 c (bodyQ Try.prog [.tmp 8] Q) (fr0 args) h) : ACalls Try.prog 130 args h Q := by
  have e := isb130.symm.trans hb; cases e; exact acalls_of_body mixed Try.func130 isb130 good130 (Nat.le_of_ble_eq_true hn) pl130 chk130 hk
/- 131 slope/whole.low -/
def pl131 : Nat → Plan := fun | _ => []
noncomputable def body131 : Code := (Try.f131.body).getD .skip
theorem chk131 : codeChk pl131 body131 = true := by kernel_rfl
theorem good131 : good Try.prog 131 = true := by kernel_rfl
theorem isb131 : Try.f131.body = some body131 := by kernel_rfl
theorem wp131 {args : List AV} {h : Heap} {Q : AV → Heap → Prop} {c : Code} (hb : Try.f131.body = some c) (hn : Nat.ble args.length 21 = true) (hk : asx Try.prog 21 pl131 c (bodyQ Try.prog [.tmp 2] Q) (fr0 args) h) : ACalls Try.prog 131 args h Q := by
  have e := isb131.symm.trans hb; cases e; exact acalls_of_body mixed Try.func131 isb131 good131 (Nat.le_of_ble_eq_true hn) pl131 chk131 hk
/- 132 slope/whole.Of -/
def pl132 : Nat → Plan := fun | _ => []
noncomputable def body132 : Code := (Try.f132.body).getD .skip
theorem chk132 : codeChk pl132 body132 = true := by kernel_rfl
theorem good132 : good Try.prog 132 = true := by kernel_rfl
theorem isb132 : Try.f132.body = some body132 := by kernel_rfl
theorem wp132 {args : List AV} {h : Heap} {Q : AV → Heap → Prop} {c : Code} (hb : Try.f132.body = some c) (hn : Nat.ble args.length 10 = true) (hk : asx Try.prog 10 pl132 c (bodyQ Try.prog [.tmp 2] Q) (fr0 args) h) : ACalls Try.prog 132 args h Q := by
  have e := isb132.symm.trans hb; cases e; exact acalls_of_body mixed Try.func132 isb132 good132 (Nat.le_of_ble_eq_true hn) pl132 chk132 hk
/- 133 slope/sloperef2.copied -/
def pl133 : Nat → Plan := fun | _ => []
noncomputable def body133 : Code := (Try.f133.body).getD .skip
theorem chk133 : codeChk pl133 body133 = true := by kernel_rfl
theorem good133 : good Try.prog 133 = true := by kernel_rfl
theorem isb133 : Try.f133.body = some body133 := by kernel_rfl
theorem wp133 {args : List AV} {h : Heap} {Q : AV → Heap → Prop} {c : Code} (hb : Try.f133.body = some c) (hn : Nat.ble args.length 7 = true) (hk : asx Try.prog 7 pl133 c (bodyQ Try.prog [.tmp 2] Q) (fr0 args) h) : ACalls Try.prog 133 args h Q := by
  have e := isb133.symm.trans hb; cases e; exact acalls_of_body mixed Try.func133 isb133 good133 (Nat.le_of_ble_eq_true hn) pl133 chk133 hk
/- 134 slope/sloperef2.stripped -/
def pl134 : Nat → Plan := fun | _ => []
noncomputable def body134 : Code := (Try.f134.body).getD .skip
theorem chk134 : codeChk pl134 body134 = true := by kernel_rfl
theorem good134 : good Try.prog 134 = true := by kernel_rfl
theorem isb134 : Try.f134.body = some body134 := by kernel_rfl
theorem wp134 {args : List AV} {h : Heap} {Q : AV → Heap → Prop} {c : Code} (hb : Try.f134.body = some c) (hn : Nat.ble args.length 21 = true) (hk : asx Try.prog 21 pl134 c (bodyQ Try.prog [.tmp 2, .tmp 3] Q) (fr0 args) h) : ACalls Try.prog 134 args h Q := by
  have e := isb134.symm.trans hb; cases e; exact acalls_of_body mixed Try.func134 isb134 good134 (Nat.le_of_ble_eq_true hn) pl134 chk134 hk
/- 135 slope/sloperef2.raised -/
def pl135 : Nat → Plan := fun | _ => []
noncomputable def body135 : Code := (Try.f135.body).getD .skip
theorem chk135 : codeChk pl135 body135 = true := by kernel_rfl
theorem good135 : good Try.prog 135 = true := by kernel_rfl
theorem isb135 : Try.f135.body = some body135 := by kernel_rfl
theorem wp135 {args : List AV} {h : Heap} {Q : AV → Heap → Prop} {c : Code} (hb : Try.f135.body = some c) (hn : Nat.ble args.length 47 = true) (hk : asx Try.prog 47 pl135 c (bodyQ Try.prog [.tmp 4] Q) (fr0 args) h) : ACalls Try.prog 135 args h Q := by
  have e := isb135.symm.trans hb; cases e; exact acalls_of_body mixed Try.func135 isb135 good135 (Nat.le_of_ble_eq_true hn) pl135 chk135 hk
/- 136 slope/sloperef2.Limbs -/
def pl136 : Nat → Plan := fun | _ => []
noncomputable def body136 : Code := (Try.f136.body).getD .skip
theorem chk136 : codeChk pl136 body136 = true := by kernel_rfl
theorem good136 : good Try.prog 136 = true := by kernel_rfl
theorem isb136 : Try.f136.body = some body136 := by kernel_rfl
theorem wp136 {args : List AV} {h : Heap} {Q : AV → Heap → Prop} {c : Code} (hb : Try.f136.body = some c) (hn : Nat.ble args.length 10 = true) (hk : asx Try.prog 10 pl136 c (bodyQ Try.prog [.tmp 2] Q) (fr0 args) h) : ACalls Try.prog 136 args h Q := by
  have e := isb136.symm.trans hb; cases e; exact acalls_of_body mixed Try.func136 isb136 good136 (Nat.le_of_ble_eq_true hn) pl136 chk136 hk
/- 137 slope/sloperef2.euclid -/
def pl137 : Nat → Plan := fun | _ => []
noncomputable def body137 : Code := (Try.f137.body).getD .skip
theorem chk137 : codeChk pl137 body137 = true := by kernel_rfl
theorem good137 : good Try.prog 137 = true := by kernel_rfl
theorem isb137 : Try.f137.body = some body137 := by kernel_rfl
theorem wp137 {args : List AV} {h : Heap} {Q : AV → Heap → Prop} {c : Code} (hb : Try.f137.body = some c) (hn : Nat.ble args.length 14 = true) (hk : asx Try.prog 14 pl137 c (bodyQ Try.prog [.tmp 4] Q) (fr0 args) h) : ACalls Try.prog 137 args h Q := by
  have e := isb137.symm.trans hb; cases e; exact acalls_of_body mixed Try.func137 isb137 good137 (Nat.le_of_ble_eq_true hn) pl137 chk137 hk
/- 138 slope/sloperef2.small -/
def pl138 : Nat → Plan := fun | _ => []
noncomputable def body138 : Code := (Try.f138.body).getD .skip
theorem chk138 : codeChk pl138 body138 = true := by kernel_rfl
theorem good138 : good Try.prog 138 = true := by kernel_rfl
theorem isb138 : Try.f138.body = some body138 := by kernel_rfl
theorem wp138 {args : List AV} {h : Heap} {Q : AV → Heap → Prop} {c : Code} (hb : Try.f138.body = some c) (hn : Nat.ble args.length 21 = true) (hk : asx Try.prog 21 pl138 c (bodyQ Try.prog [.tmp 2] Q) (fr0 args) h) : ACalls Try.prog 138 args h Q := by
  have e := isb138.symm.trans hb; cases e; exact acalls_of_body mixed Try.func138 isb138 good138 (Nat.le_of_ble_eq_true hn) pl138 chk138 hk
/- 139 slope/sloperef2.CmpWhole -/
def pl139 : Nat → Plan := fun | 6 => [(0, false, []), (1, false, []), (2, false, []), (3, false, []), (4, false, []), (5, false, []), (6, false, []), (7, false, []), (8, false, [])] | 8 => [(0, false, []), (1, false, []), (2, false, []), (3, false, []), (4, false, []), (5, false, []), (6, false, []), (7, false, []), (8, false, [])] | _ => []
noncomputable def body139 : Code := (Try.f139.body).getD .skip
theorem chk139 : codeChk pl139 body139 = true := by kernel_rfl
theorem good139 : good Try.prog 139 = true := by kernel_rfl
theorem isb139 : Try.f139.body = some body139 := by kernel_rfl
theorem wp139 {args : List AV} {h : Heap} {Q : AV → Heap → Prop} {c : Code} (hb : Try.f139.body = some c) (hn : Nat.ble args.length 42 = true) (hk : asx Try.prog 42 pl139 c (bodyQ Try.prog [.tmp 4] Q) (fr0 args) h) : ACalls Try.prog 139 args h Q := by
  have e := isb139.symm.trans hb; cases e; exact acalls_of_body mixed Try.func139 isb139 good139 (Nat.le_of_ble_eq_true hn) pl139 chk139 hk
/- 140 slope/sloperef2.take -/
def pl140 : Nat → Plan := fun | _ => []
noncomputable def body140 : Code := (Try.f140.body).getD .skip
theorem chk140 : codeChk pl140 body140 = true := by kernel_rfl
theorem good140 : good Try.prog 140 = true := by kernel_rfl
theorem isb140 : Try.f140.body = some body140 := by kernel_rfl
theorem wp140 {args : List AV} {h : Heap} {Q : AV → Heap → Prop} {c : Code} (hb : Try.f140.body = some c) (hn : Nat.ble args.length 40 = true) (hk : asx Try.prog 40 pl140 c (bodyQ Try.prog [.tmp 4] Q) (fr0 args) h) : ACalls Try.prog 140 args h Q := by
  have e := isb140.symm.trans hb; cases e; exact acalls_of_body mixed Try.func140 isb140 good140 (Nat.le_of_ble_eq_true hn) pl140 chk140 hk
/- 142 slope/whole.Bits -/
def pl142 : Nat → Plan := fun | _ => []
noncomputable def body142 : Code := (Try.f142.body).getD .skip
theorem chk142 : codeChk pl142 body142 = true := by kernel_rfl
theorem good142 : good Try.prog 142 = true := by kernel_rfl
theorem isb142 : Try.f142.body = some body142 := by kernel_rfl
theorem wp142 {args : List AV} {h : Heap} {Q : AV → Heap → Prop} {c : Code} (hb : Try.f142.body = some c) (hn : Nat.ble args.length 18 = true) (hk : asx Try.prog 18 pl142 c (bodyQ Try.prog [.tmp 2] Q) (fr0 args) h) : ACalls Try.prog 142 args h Q := by
  have e := isb142.symm.trans hb; cases e; exact acalls_of_body mixed Try.func142 isb142 good142 (Nat.le_of_ble_eq_true hn) pl142 chk142 hk
/- 143 slope/whole.head -/
def pl143 : Nat → Plan := fun | _ => []
noncomputable def body143 : Code := (Try.f143.body).getD .skip
theorem chk143 : codeChk pl143 body143 = true := by kernel_rfl
theorem good143 : good Try.prog 143 = true := by kernel_rfl
theorem isb143 : Try.f143.body = some body143 := by kernel_rfl
theorem wp143 {args : List AV} {h : Heap} {Q : AV → Heap → Prop} {c : Code} (hb : Try.f143.body = some c) (hn : Nat.ble args.length 51 = true) (hk : asx Try.prog 51 pl143 c (bodyQ Try.prog [.tmp 4] Q) (fr0 args) h) : ACalls Try.prog 143 args h Q := by
  have e := isb143.symm.trans hb; cases e; exact acalls_of_body mixed Try.func143 isb143 good143 (Nat.le_of_ble_eq_true hn) pl143 chk143 hk
/- 144 slope/whole.Small -/
def pl144 : Nat → Plan := fun | _ => []
noncomputable def body144 : Code := (Try.f144.body).getD .skip
theorem chk144 : codeChk pl144 body144 = true := by kernel_rfl
theorem good144 : good Try.prog 144 = true := by kernel_rfl
theorem isb144 : Try.f144.body = some body144 := by kernel_rfl
theorem wp144 {args : List AV} {h : Heap} {Q : AV → Heap → Prop} {c : Code} (hb : Try.f144.body = some c) (hn : Nat.ble args.length 35 = true) (hk : asx Try.prog 35 pl144 c (bodyQ Try.prog [.tmp 4, .tmp 5] Q) (fr0 args) h) : ACalls Try.prog 144 args h Q := by
  have e := isb144.symm.trans hb; cases e; exact acalls_of_body mixed Try.func144 isb144 good144 (Nat.le_of_ble_eq_true hn) pl144 chk144 hk
/- 145 math/bits.LeadingZeros32 -/
def pl145 : Nat → Plan := fun | _ => []
noncomputable def body145 : Code := (Try.f145.body).getD .skip
theorem chk145 : codeChk pl145 body145 = true := by kernel_rfl
theorem good145 : good Try.prog 145 = true := by kernel_rfl
theorem isb145 : Try.f145.body = some body145 := by kernel_rfl
theorem wp145 {args : List AV} {h : Heap} {Q : AV → Heap → Prop} {c : Code} (hb : Try.f145.body = some c) (hn : Nat.ble args.length 6 = true) (hk : asx Try.prog 6 pl145 c (bodyQ Try.prog [.tmp 2] Q) (fr0 args) h) : ACalls Try.prog 145 args h Q := by
  have e := isb145.symm.trans hb; cases e; exact acalls_of_body mixed Try.func145 isb145 good145 (Nat.le_of_ble_eq_true hn) pl145 chk145 hk
/- 146 slope/whole.Shl -/
def pl146 : Nat → Plan := fun | _ => []
noncomputable def body146 : Code := (Try.f146.body).getD .skip
theorem chk146 : codeChk pl146 body146 = true := by kernel_rfl
theorem good146 : good Try.prog 146 = true := by kernel_rfl
theorem isb146 : Try.f146.body = some body146 := by kernel_rfl
theorem wp146 {args : List AV} {h : Heap} {Q : AV → Heap → Prop} {c : Code} (hb : Try.f146.body = some c) (hn : Nat.ble args.length 55 = true) (hk : asx Try.prog 55 pl146 c (bodyQ Try.prog [.tmp 4] Q) (fr0 args) h) : ACalls Try.prog 146 args h Q := by
  have e := isb146.symm.trans hb; cases e; exact acalls_of_body mixed Try.func146 isb146 good146 (Nat.le_of_ble_eq_true hn) pl146 chk146 hk
/- 147 slope/whole.digit -/
def pl147 : Nat → Plan := fun | 2 => [(0, false, []), (1, false, []), (2, false, []), (3, false, []), (4, false, []), (5, false, []), (6, false, []), (7, false, []), (8, false, []), (9, false, []), (10, false, []), (11, false, []), (12, false, []), (13, false, [])] | 4 => [(0, false, []), (1, false, []), (2, false, []), (3, false, []), (4, false, []), (5, false, []), (6, false, []), (7, false, []), (8, false, []), (9, false, [])] | 5 => [(0, false, []), (1, false, []), (2, false, []), (3, false, []), (4, false, []), (5, false, []), (6, false, []), (7, false, []), (8, false, []), (9, false, []), (10, false, []), (11, false, []), (12, false, []), (13, false, []), (14, false, []), (15, false, []), (16, false, []), (17, false, [])] | 7 => [(0, false, []), (1, false, []), (2, false, []), (3, false, []), (4, false, []), (5, false, []), (6, false, []), (7, false, []), (8, false, []), (9, false, []), (10, false, []), (11, false, []), (12, false, []), (13, false, []), (14, false, []), (15, false, []), (16, false, []), (17, false, []), (18, false, []), (19, false, []), (20, false, []), (21, false, [])] | _ => []
noncomputable def body147 : Code := (Try.f147.body).getD .skip
theorem chk147 : codeChk pl147 body147 = true := by kernel_rfl
theorem good147 : good Try.prog 147 = true := by kernel_rfl
theorem isb147 : Try.f147.body = some body147 := by kernel_rfl
theorem wp147 {args : List AV} {h : Heap} {Q : AV → Heap → Prop} {c : Code} (hb : Try.f147.body = some c) (hn : Nat.ble args.length 179 = true) (hk : asx Try.prog 179 pl147 c (bodyQ Try.prog [.tmp 4] Q) (fr0 args) h) : ACalls Try.prog 147 args h Q := by
  have e := isb147.symm.trans hb; cases e; exact acalls_of_body mixed Try.func147 isb147 good147 (Nat.le_of_ble_eq_true hn) pl147 chk147 hk
/- 148 slope/whole.trim -/
def pl148 : Nat → Plan := fun | _ => []
noncomputable def body148 : Code := (Try.f148.body).getD .skip
theorem chk148 : codeChk pl148 body148 = true := by kernel_rfl
theorem good148 : good Try.prog 148 = true := by kernel_rfl
theorem isb148 : Try.f148.body = some body148 := by kernel_rfl
theorem wp148 {args : List AV} {h : Heap} {Q : AV → Heap → Prop} {c : Code} (hb : Try.f148.body = some c) (hn : Nat.ble args.length 21 = true) (hk : asx Try.prog 21 pl148 c (bodyQ Try.prog [.tmp 2] Q) (fr0 args) h) : ACalls Try.prog 148 args h Q := by
  have e := isb148.symm.trans hb; cases e; exact acalls_of_body mixed Try.func148 isb148 good148 (Nat.le_of_ble_eq_true hn) pl148 chk148 hk
/- 149 slope/whole.half -/
def pl149 : Nat → Plan := fun | 7 => [(0, false, []), (1, false, []), (2, false, []), (3, false, []), (4, false, []), (5, false, []), (6, false, []), (7, false, []), (8, false, []), (9, false, []), (10, false, []), (11, false, []), (12, false, []), (13, false, []), (14, false, [])] | _ => []
noncomputable def body149 : Code := (Try.f149.body).getD .skip
theorem chk149 : codeChk pl149 body149 = true := by kernel_rfl
theorem good149 : good Try.prog 149 = true := by kernel_rfl
theorem isb149 : Try.f149.body = some body149 := by kernel_rfl
theorem wp149 {args : List AV} {h : Heap} {Q : AV → Heap → Prop} {c : Code} (hb : Try.f149.body = some c) (hn : Nat.ble args.length 50 = true) (hk : asx Try.prog 50 pl149 c (bodyQ Try.prog [.tmp 4] Q) (fr0 args) h) : ACalls Try.prog 149 args h Q := by
  have e := isb149.symm.trans hb; cases e; exact acalls_of_body mixed Try.func149 isb149 good149 (Nat.le_of_ble_eq_true hn) pl149 chk149 hk
/- 150 slope/sloperef2.odd -/
def pl150 : Nat → Plan := fun | _ => []
noncomputable def body150 : Code := (Try.f150.body).getD .skip
theorem chk150 : codeChk pl150 body150 = true := by kernel_rfl
theorem good150 : good Try.prog 150 = true := by kernel_rfl
theorem isb150 : Try.f150.body = some body150 := by kernel_rfl
theorem wp150 {args : List AV} {h : Heap} {Q : AV → Heap → Prop} {c : Code} (hb : Try.f150.body = some c) (hn : Nat.ble args.length 83 = true) (hk : asx Try.prog 83 pl150 c (bodyQ Try.prog [.tmp 2, .tmp 3, .tmp 4] Q) (fr0 args) h) : ACalls Try.prog 150 args h Q := by
  have e := isb150.symm.trans hb; cases e; exact acalls_of_body mixed Try.func150 isb150 good150 (Nat.le_of_ble_eq_true hn) pl150 chk150 hk
/- 151 slope/sloperef2.norm -/
def pl151 : Nat → Plan := fun | _ => []
noncomputable def body151 : Code := (Try.f151.body).getD .skip
theorem chk151 : codeChk pl151 body151 = true := by kernel_rfl
theorem good151 : good Try.prog 151 = true := by kernel_rfl
theorem isb151 : Try.f151.body = some body151 := by kernel_rfl
theorem wp151 {args : List AV} {h : Heap} {Q : AV → Heap → Prop} {c : Code} (hb : Try.f151.body = some c) (hn : Nat.ble args.length 21 = true) (hk : asx Try.prog 21 pl151 c (bodyQ Try.prog [.tmp 2] Q) (fr0 args) h) : ACalls Try.prog 151 args h Q := by
  have e := isb151.symm.trans hb; cases e; exact acalls_of_body mixed Try.func151 isb151 good151 (Nat.le_of_ble_eq_true hn) pl151 chk151 hk
/- 152 slope/sloperef2.sign -/
def pl152 : Nat → Plan := fun | _ => []
noncomputable def body152 : Code := (Try.f152.body).getD .skip
theorem chk152 : codeChk pl152 body152 = true := by kernel_rfl
theorem good152 : good Try.prog 152 = true := by kernel_rfl
theorem isb152 : Try.f152.body = some body152 := by kernel_rfl
theorem wp152 {args : List AV} {h : Heap} {Q : AV → Heap → Prop} {c : Code} (hb : Try.f152.body = some c) (hn : Nat.ble args.length 7 = true) (hk : asx Try.prog 7 pl152 c (bodyQ Try.prog [.tmp 2] Q) (fr0 args) h) : ACalls Try.prog 152 args h Q := by
  have e := isb152.symm.trans hb; cases e; exact acalls_of_body mixed Try.func152 isb152 good152 (Nat.le_of_ble_eq_true hn) pl152 chk152 hk
/- 154 math/bits.Len32 -/
def pl154 : Nat → Plan := fun | _ => []
noncomputable def body154 : Code := (Try.f154.body).getD .skip
theorem chk154 : codeChk pl154 body154 = true := by kernel_rfl
theorem good154 : good Try.prog 154 = true := by kernel_rfl
theorem isb154 : Try.f154.body = some body154 := by kernel_rfl
theorem wp154 {args : List AV} {h : Heap} {Q : AV → Heap → Prop} {c : Code} (hb : Try.f154.body = some c) (hn : Nat.ble args.length 19 = true) (hk : asx Try.prog 19 pl154 c (bodyQ Try.prog [.tmp 2] Q) (fr0 args) h) : ACalls Try.prog 154 args h Q := by
  have e := isb154.symm.trans hb; cases e; exact acalls_of_body mixed Try.func154 isb154 good154 (Nat.le_of_ble_eq_true hn) pl154 chk154 hk
/- 155 math/bits.Div32 -/
def pl155 : Nat → Plan := fun | 4 => [(0, false, []), (1, false, []), (2, false, []), (3, false, []), (4, false, []), (5, false, []), (6, false, []), (7, false, []), (8, false, []), (9, false, []), (10, false, []), (11, false, [])] | _ => []
noncomputable def body155 : Code := (Try.f155.body).getD .skip
theorem chk155 : codeChk pl155 body155 = true := by kernel_rfl
theorem good155 : good Try.prog 155 = true := by kernel_rfl
theorem isb155 : Try.f155.body = some body155 := by kernel_rfl
theorem wp155 {args : List AV} {h : Heap} {Q : AV → Heap → Prop} {c : Code} (hb : Try.f155.body = some c) (hn : Nat.ble args.length 33 = true) (hk : asx Try.prog 33 pl155 c (bodyQ Try.prog [.tmp 6, .tmp 7] Q) (fr0 args) h) : ACalls Try.prog 155 args h Q := by
  have e := isb155.symm.trans hb; cases e; exact acalls_of_body mixed Try.func155 isb155 good155 (Nat.le_of_ble_eq_true hn) pl155 chk155 hk
/- 156 math/bits.Sub32 -/
def pl156 : Nat → Plan := fun | _ => []
noncomputable def body156 : Code := (Try.f156.body).getD .skip
theorem chk156 : codeChk pl156 body156 = true := by kernel_rfl
theorem good156 : good Try.prog 156 = true := by kernel_rfl
theorem isb156 : Try.f156.body = some body156 := by kernel_rfl
theorem wp156 {args : List AV} {h : Heap} {Q : AV → Heap → Prop} {c : Code} (hb : Try.f156.body = some c) (hn : Nat.ble args.length 25 = true) (hk : asx Try.prog 25 pl156 c (bodyQ Try.prog [.tmp 6, .tmp 7] Q) (fr0 args) h) : ACalls Try.prog 156 args h Q := by
  have e := isb156.symm.trans hb; cases e; exact acalls_of_body mixed Try.func156 isb156 good156 (Nat.le_of_ble_eq_true hn) pl156 chk156 hk
/- 157 math/bits.Add32 -/
def pl157 : Nat → Plan := fun | _ => []
noncomputable def body157 : Code := (Try.f157.body).getD .skip
theorem chk157 : codeChk pl157 body157 = true := by kernel_rfl
theorem good157 : good Try.prog 157 = true := by kernel_rfl
theorem isb157 : Try.f157.body = some body157 := by kernel_rfl
theorem wp157 {args : List AV} {h : Heap} {Q : AV → Heap → Prop} {c : Code} (hb : Try.f157.body = some c) (hn : Nat.ble args.length 22 = true) (hk : asx Try.prog 22 pl157 c (bodyQ Try.prog [.tmp 6, .tmp 7] Q) (fr0 args) h) : ACalls Try.prog 157 args h Q := by
  have e := isb157.symm.trans hb; cases e; exact acalls_of_body mixed Try.func157 isb157 good157 (Nat.le_of_ble_eq_true hn) pl157 chk157 hk
end Go.Proofs.Ytgdlkhgfehclpaa
end

section
/- The step rules of the small logic, bound together. No condition. -/
namespace Go.AL
theorem packA0 : type_of% (And.intro @asx_skip (And.intro @asx_text (And.intro @asx_draw (And.intro @asx_seq (And.intro @asx_cond (And.intro @asx_block (And.intro @asx_loop (And.intro @asx_exit (And.intro @asx_ret (And.intro @asx_label (And.intro @then_normal (And.intro @then_ret (And.intro @then_exit (And.intro @block_normal (And.intro @block_ret (And.intro @block_exit (And.intro @aops_nil (And.intro @aops_one (And.intro @aops_if (And.intro @guK_zero (And.intro @guK_succ (And.intro @guK_some (And.intro @atK_zero (And.intro @atK_succ (And.intro @adrD_nil (And.intro @adrD_none (And.intro @adrD_one (And.intro @adrD_more (And.intro @adrD_two (And.intro @adrX_nil (And.intro @adrX_cons (And.intro @adrXG_one (And.intro @adrXG_if (And.intro @keep0_true (And.intro @keep0_false (And.intro @adr_nil (And.intro @adr_cons (And.intro @adrG_one (And.intro @adrG_if (@adrK_eq)))))))))))))))))))))))))))))))))))))))) := And.intro @asx_skip (And.intro @asx_text (And.intro @asx_draw (And.intro @asx_seq (And.intro @asx_cond (And.intro @asx_block (And.intro @asx_loop (And.intro @asx_exit (And.intro @asx_ret (And.intro @asx_label (And.intro @then_normal (And.intro @then_ret (And.intro @then_exit (And.intro @block_normal (And.intro @block_ret (And.intro @block_exit (And.intro @aops_nil (And.intro @aops_one (And.intro @aops_if (And.intro @guK_zero (And.intro @guK_succ (And.intro @guK_some (And.intro @atK_zero (And.intro @atK_succ (And.intro @adrD_nil (And.intro @adrD_none (And.intro @adrD_one (And.intro @adrD_more (And.intro @adrD_two (And.intro @adrX_nil (And.intro @adrX_cons (And.intro @adrXG_one (And.intro @adrXG_if (And.intro @keep0_true (And.intro @keep0_false (And.intro @adr_nil (And.intro @adr_cons (And.intro @adrG_one (And.intro @adrG_if (@adrK_eq)))))))))))))))))))))))))))))))))))))))
theorem packA1 : type_of% (And.intro @reK_nil (And.intro @reK_cons (And.intro @atT_zero (And.intro @atT_succ (And.intro @doneK_hit (And.intro @keepL_true (And.intro @keepL_false (And.intro @evK_tmp (And.intro @evK_int (And.intro @evK_bool (And.intro @evK_str (And.intro @evK_flt (And.intro @evK_nilp (And.intro @evK_nils (And.intro @evK_nilf (And.intro @evK_nili (And.intro @evK_nilm (And.intro @evK_undef (And.intro @evK_func (And.intro @evsK_nil (And.intro @evsK_cons (And.intro @evpK_nil (And.intro @evpK_cons (And.intro @evoK_none (And.intro @evoK_some (And.intro @aop_move (And.intro @aop_assign (And.intro @aop_pick (And.intro @aop_alloc (And.intro @aop_box (And.intro @aop_build (And.intro @aop_buildSlice (And.intro @aop_load (And.intro @aop_store (And.intro @aop_nilCheck (And.intro @aop_bin (And.intro @aop_un (And.intro @aop_convert (And.intro @aop_makeFunc (@aop_makeInterface)))))))))))))))))))))))))))))))))))))))) := And.intro @reK_nil (And.intro @reK_cons (And.intro @atT_zero (And.intro @atT_succ (And.intro @doneK_hit (And.intro @keepL_true (And.intro @keepL_false (And.intro @evK_tmp (And.intro @evK_int (And.intro @evK_bool (And.intro @evK_str (And.intro @evK_flt (And.intro @evK_nilp (And.intro @evK_nils (And.intro @evK_nilf (And.intro @evK_nili (And.intro @evK_nilm (And.intro @evK_undef (And.intro @evK_func (And.intro @evsK_nil (And.intro @evsK_cons (And.intro @evpK_nil (And.intro @evpK_cons (And.intro @evoK_none (And.intro @evoK_some (And.intro @aop_move (And.intro @aop_assign (And.intro @aop_pick (And.intro @aop_alloc (And.intro @aop_box (And.intro @aop_build (And.intro @aop_buildSlice (And.intro @aop_load (And.intro @aop_store (And.intro @aop_nilCheck (And.intro @aop_bin (And.intro @aop_un (And.intro @aop_convert (And.intro @aop_makeFunc (@aop_makeInterface)))))))))))))))))))))))))))))))))))))))
theorem packA2 : type_of% (And.intro @aop_makeSlice (And.intro @aop_slice (And.intro @aop_fieldAddr (And.intro @aop_field (And.intro @aop_indexAddr (And.intro @aop_index (And.intro @aop_extract (And.intro @aop_call (And.intro @aop_len (And.intro @aop_cap (And.intro @aop_min (And.intro @aop_max (And.intro @aop_append (And.intro @aop_clear (And.intro @resK_nil (And.intro @resK_tmp (And.intro @resK_cell (And.intro @bodyQ_normal (And.intro @bodyQ_ret (@putK_none)))))))))))))))))))) := And.intro @aop_makeSlice (And.intro @aop_slice (And.intro @aop_fieldAddr (And.intro @aop_field (And.intro @aop_indexAddr (And.intro @aop_index (And.intro @aop_extract (And.intro @aop_call (And.intro @aop_len (And.intro @aop_cap (And.intro @aop_min (And.intro @aop_max (And.intro @aop_append (And.intro @aop_clear (And.intro @resK_nil (And.intro @resK_tmp (And.intro @resK_cell (And.intro @bodyQ_normal (And.intro @bodyQ_ret (@putK_none)))))))))))))))))))
theorem packB0 : type_of% (And.intro @mk_eq (And.intro @gdK_true (And.intro @gdK_false (And.intro @gdK_undef (And.intro @optK_some (And.intro @condK_true (And.intro @condK_false (And.intro @condK_dec (And.intro @condK_not (And.intro @condK_beq (And.intro @condK_bne (And.intro @condK_getD (And.intro @decide_eq_true_eq (And.intro @decide_eq_false_iff_not (And.intro @beq_iff_eq.{0} (And.intro @beq_eq_false_iff_ne.{0} (And.intro @bne_iff_ne.{0} (And.intro @bne_eq_false_iff_eq.{0} (And.intro @Bool.not_eq_true' (And.intro @Bool.not_eq_false' (And.intro @Bool.not_not (And.intro @Nat.mul_one (And.intro @Nat.one_mul (And.intro @block_exit' (And.intro @putK_some (And.intro @exK_and (And.intro @exK_eq (And.intro @doneK_miss (And.intro @quK_true (And.intro @quK_false (And.intro @upd_same (And.intro @upd_ne (And.intro @letH_eq (And.intro @fitK_i64 (And.intro @fitK_u64 (And.intro @fitK_u32 (And.intro @fitK_u8 (And.intro @fitK_i32 (And.intro @ldX_cell (@ldX_agg)))))))))))))))))))))))))))))))))))))))) := And.intro @mk_eq (And.intro @gdK_true (And.intro @gdK_false (And.intro @gdK_undef (And.intro @optK_some (And.intro @condK_true (And.intro @condK_false (And.intro @condK_dec (And.intro @condK_not (And.intro @condK_beq (And.intro @condK_bne (And.intro @condK_getD (And.intro @decide_eq_true_eq (And.intro @decide_eq_false_iff_not (And.intro @beq_iff_eq.{0} (And.intro @beq_eq_false_iff_ne.{0} (And.intro @bne_iff_ne.{0} (And.intro @bne_eq_false_iff_eq.{0} (And.intro @Bool.not_eq_true' (And.intro @Bool.not_eq_false' (And.intro @Bool.not_not (And.intro @Nat.mul_one (And.intro @Nat.one_mul (And.intro @block_exit' (And.intro @putK_some (And.intro @exK_and (And.intro @exK_eq (And.intro @doneK_miss (And.intro @quK_true (And.intro @quK_false (And.intro @upd_same (And.intro @upd_ne (And.intro @letH_eq (And.intro @fitK_i64 (And.intro @fitK_u64 (And.intro @fitK_u32 (And.intro @fitK_u8 (And.intro @fitK_i32 (And.intro @ldX_cell (@ldX_agg)))))))))))))))))))))))))))))))))))))))
theorem packB1 : type_of% (And.intro @objK_some (And.intro @loadK_ip (And.intro @loadK_op (And.intro @faK_ip (And.intro @faK_op (And.intro @fieldAddrK_eq (And.intro @fdK_agg (And.intro @fieldK_eq (And.intro @optK_map (And.intro @elK_eq (And.intro @indexAddrK_isl (And.intro @indexAddrK_osl (And.intro @arK_eq (And.intro @indexAddrK_ip (And.intro @indexAddrK_op (And.intro @indexK_str (And.intro @indexK_agg (And.intro @clearK_nils (And.intro @clearK_osl (And.intro @bin_add (And.intro @bin_sub (And.intro @bin_mul (And.intro @bin_quo (And.intro @bin_rem (And.intro @bin_eql (And.intro @bin_neq (And.intro @bin_lss (And.intro @bin_leq (And.intro @bin_gtr (And.intro @bin_geq (And.intro @bin_shl (And.intro @bin_shr (And.intro @bin_beql (And.intro @bin_bneq (And.intro @bin_nils (And.intro @eqK_eql (And.intro @eqK_neq (And.intro @unK_not (And.intro @unK_neg (@convK_int)))))))))))))))))))))))))))))))))))))))) := And.intro @objK_some (And.intro @loadK_ip (And.intro @loadK_op (And.intro @faK_ip (And.intro @faK_op (And.intro @fieldAddrK_eq (And.intro @fdK_agg (And.intro @fieldK_eq (And.intro @optK_map (And.intro @elK_eq (And.intro @indexAddrK_isl (And.intro @indexAddrK_osl (And.intro @arK_eq (And.intro @indexAddrK_ip (And.intro @indexAddrK_op (And.intro @indexK_str (And.intro @indexK_agg (And.intro @clearK_nils (And.intro @clearK_osl (And.intro @bin_add (And.intro @bin_sub (And.intro @bin_mul (And.intro @bin_quo (And.intro @bin_rem (And.intro @bin_eql (And.intro @bin_neq (And.intro @bin_lss (And.intro @bin_leq (And.intro @bin_gtr (And.intro @bin_geq (And.intro @bin_shl (And.intro @bin_shr (And.intro @bin_beql (And.intro @bin_bneq (And.intro @bin_nils (And.intro @eqK_eql (And.intro @eqK_neq (And.intro @unK_not (And.intro @unK_neg (@convK_int)))))))))))))))))))))))))))))))))))))))
theorem packB2 : type_of% (And.intro @convK_str (And.intro @extK_tup (And.intro @lenK_isl (And.intro @lenK_osl (And.intro @lenK_nils (And.intro @lenK_str (And.intro @nilCheckK_ip (And.intro @nilCheckK_op (And.intro @pickK_eq (And.intro @bdK_none (And.intro @bdK_some (And.intro @slK_eq (And.intro @sliceAll_isl (And.intro @sliceAll_osl (And.intro @sliceAll_nils (And.intro @storeK_op (And.intro @obxK_some (And.intro @makeSliceK_int (And.intro @fillK_nil (And.intro @fillK_cons (And.intro @fillRK_nil (And.intro @fillRK_cons (And.intro @callK_fn (And.intro @elemsK_nils (And.intro @elemsK_isl (And.intro @elemsK_osl (And.intro @appendK_eq (And.intro @apK_nils (And.intro @apK_osl (And.intro @oneK_one (And.intro @oneK_none (And.intro @oneK_two (And.intro @ren_osl (And.intro @ren_op (And.intro @ren_int (And.intro @ren_bool (And.intro @ren_nils (And.intro @ren_tup (And.intro @ren_agg (@ren_isl)))))))))))))))))))))))))))))))))))))))) := And.intro @convK_str (And.intro @extK_tup (And.intro @lenK_isl (And.intro @lenK_osl (And.intro @lenK_nils (And.intro @lenK_str (And.intro @nilCheckK_ip (And.intro @nilCheckK_op (And.intro @pickK_eq (And.intro @bdK_none (And.intro @bdK_some (And.intro @slK_eq (And.intro @sliceAll_isl (And.intro @sliceAll_osl (And.intro @sliceAll_nils (And.intro @storeK_op (And.intro @obxK_some (And.intro @makeSliceK_int (And.intro @fillK_nil (And.intro @fillK_cons (And.intro @fillRK_nil (And.intro @fillRK_cons (And.intro @callK_fn (And.intro @elemsK_nils (And.intro @elemsK_isl (And.intro @elemsK_osl (And.intro @appendK_eq (And.intro @apK_nils (And.intro @apK_osl (And.intro @oneK_one (And.intro @oneK_none (And.intro @oneK_two (And.intro @ren_osl (And.intro @ren_op (And.intro @ren_int (And.intro @ren_bool (And.intro @ren_nils (And.intro @ren_tup (And.intro @ren_agg (@ren_isl)))))))))))))))))))))))))))))))))))))))
theorem packB3 : type_of% (And.intro @rens_nil (And.intro @rens_cons (And.intro @ren_intEs (And.intro @ren_boolEs (And.intro @behind_eq (And.intro @map_one (And.intro @patch_one (And.intro @patch_two (And.intro @repl_zero (And.intro @repl_succ (And.intro @intE_eq (And.intro @boolE_eq (And.intro @rep_intE (And.intro @rep_boolE (And.intro @set_intE (And.intro @set_boolE (And.intro @set_bools (And.intro @app_intE (And.intro @app_intE3 (And.intro @take_app (And.intro @drop_app3 (And.intro @take_map_all (And.intro @AV.int.injEq (And.intro @AV.bool.injEq (And.intro @List.getElem?_cons_zero.{0} (And.intro @List.getElem?_cons_succ.{0} (And.intro @List.getElem?_nil.{0} (And.intro @List.length_cons.{0} (And.intro @List.length_nil.{0} (And.intro @List.length_map.{0, 0} (And.intro @List.length_replicate.{0} (And.intro @List.length_append.{0} (And.intro @List.length_set.{0} (And.intro @List.drop_succ_cons.{0} (And.intro @List.drop_zero.{0} (And.intro @List.take_succ_cons.{0} (And.intro @List.take_zero.{0} (And.intro @List.set_cons_zero.{0} (And.intro @List.set_cons_succ.{0} (@List.nil_append.{0})))))))))))))))))))))))))))))))))))))))) := And.intro @rens_nil (And.intro @rens_cons (And.intro @ren_intEs (And.intro @ren_boolEs (And.intro @behind_eq (And.intro @map_one (And.intro @patch_one (And.intro @patch_two (And.intro @repl_zero (And.intro @repl_succ (And.intro @intE_eq (And.intro @boolE_eq (And.intro @rep_intE (And.intro @rep_boolE (And.intro @set_intE (And.intro @set_boolE (And.intro @set_bools (And.intro @app_intE (And.intro @app_intE3 (And.intro @take_app (And.intro @drop_app3 (And.intro @take_map_all (And.intro @AV.int.injEq (And.intro @AV.bool.injEq (And.intro @List.getElem?_cons_zero.{0} (And.intro @List.getElem?_cons_succ.{0} (And.intro @List.getElem?_nil.{0} (And.intro @List.length_cons.{0} (And.intro @List.length_nil.{0} (And.intro @List.length_map.{0, 0} (And.intro @List.length_replicate.{0} (And.intro @List.length_append.{0} (And.intro @List.length_set.{0} (And.intro @List.drop_succ_cons.{0} (And.intro @List.drop_zero.{0} (And.intro @List.take_succ_cons.{0} (And.intro @List.take_zero.{0} (And.intro @List.set_cons_zero.{0} (And.intro @List.set_cons_succ.{0} (@List.nil_append.{0})))))))))))))))))))))))))))))))))))))))
theorem packB4 : type_of% (And.intro @List.append_nil.{0} (And.intro @List.cons_append.{0} (And.intro @Nat.not_succ_le_self (And.intro @Option.some.injEq.{0} (And.intro @Option.isSome_some.{0} (And.intro @and_true (And.intro @true_and (And.intro @and_self (And.intro @true_or (And.intro @or_true (And.intro @or_self (And.intro @true_implies (And.intro @false_implies (And.intro @not_true_eq_false (And.intro @not_false_eq_true (And.intro @Bool.not_true (And.intro @Bool.not_false (And.intro @Bool.true_or (And.intro @Bool.or_true (And.intro @Bool.false_or (And.intro @Bool.or_false (And.intro @beq_self_eq_true.{0} (And.intro @decide_true (And.intro @decide_false (And.intro @Nat.add_zero (And.intro @Nat.zero_add (And.intro @Nat.lt_add_one (And.intro @Int.toNat_zero (And.intro @Int.toNat_natCast (And.intro @tn1 (And.intro @tn3 (And.intro @tn2 (And.intro @Nat.zero_le (And.intro @Nat.le_refl (And.intro @Nat.one_ne_zero (And.intro @Nat.sub_zero (And.intro @Nat.zero_lt_one (@Nat.zero_lt_succ)))))))))))))))))))))))))))))))))))))) := And.intro @List.append_nil.{0} (And.intro @List.cons_append.{0} (And.intro @Nat.not_succ_le_self (And.intro @Option.some.injEq.{0} (And.intro @Option.isSome_some.{0} (And.intro @and_true (And.intro @true_and (And.intro @and_self (And.intro @true_or (And.intro @or_true (And.intro @or_self (And.intro @true_implies (And.intro @false_implies (And.intro @not_true_eq_false (And.intro @not_false_eq_true (And.intro @Bool.not_true (And.intro @Bool.not_false (And.intro @Bool.true_or (And.intro @Bool.or_true (And.intro @Bool.false_or (And.intro @Bool.or_false (And.intro @beq_self_eq_true.{0} (And.intro @decide_true (And.intro @decide_false (And.intro @Nat.add_zero (And.intro @Nat.zero_add (And.intro @Nat.lt_add_one (And.intro @Int.toNat_zero (And.intro @Int.toNat_natCast (And.intro @tn1 (And.intro @tn3 (And.intro @tn2 (And.intro @Nat.zero_le (And.intro @Nat.le_refl (And.intro @Nat.one_ne_zero (And.intro @Nat.sub_zero (And.intro @Nat.zero_lt_one (@Nat.zero_lt_succ)))))))))))))))))))))))))))))))))))))
theorem packA : type_of% (And.intro packA0 (And.intro packA1 packA2)) := And.intro packA0 (And.intro packA1 packA2)
theorem packB : type_of% (And.intro packB0 (And.intro packB1 (And.intro packB2 (And.intro packB3 (And.intro packB4 (And.intro @growK_eq (And.intro @Option.getD_some.{0} @Option.getD_none.{0}))))))) :=
  And.intro packB0 (And.intro packB1 (And.intro packB2 (And.intro packB3 (And.intro packB4 (And.intro @growK_eq (And.intro @Option.getD_some.{0} @Option.getD_none.{0}))))))
end Go.AL
end

section
/- Lists of limbs. No condition. -/
namespace Go.Proofs.Ytgdlkhgfehclpaa
open Go Go.AL
set_option linter.unusedVariables false
set_option linter.unusedSimpArgs false
def u32E (x : Int) : List AV := [AV.int .u32 x]
def lims (l : List Int) : AV := .isl 1 (List.map u32E l)
theorem u32E_eq {x : Int} : u32E x = [AV.int .u32 x] := (rfl)
theorem rep_u32E {m : Nat} : List.replicate m [AV.int .u32 0] = List.map u32E (List.replicate m 0) := by simp [u32E]
theorem set_u32E {xs : List Int} {i : Nat} {y : Int} : (List.map u32E xs).set i [AV.int .u32 y] = List.map u32E (xs.set i y) := by rw [List.map_set]; rfl
theorem app_u32E {xs : List Int} {y : Int} : List.map u32E xs ++ [[AV.int .u32 y]] = List.map u32E (xs ++ [y]) := by rw [List.map_append]; rfl
theorem app_u32Es {xs ys : List Int} : List.map u32E xs ++ List.map u32E ys = List.map u32E (xs ++ ys) := List.map_append.symm
theorem one_u32E {y : Int} : [[AV.int .u32 y]] = List.map u32E [y] := rfl
theorem two_u32E {x y : Int} : [[AV.int .u32 x], [AV.int .u32 y]] = List.map u32E [x, y] := rfl
theorem bin_and {P : Program} {K : AV → Prop} {t : TypeId} {k : IntKind} {x y : Int} : binAll P .and t (.int k x) (.int k y) K = K (.int k (k.wrap ((BitVec.ofInt k.bits x &&& BitVec.ofInt k.bits y).toNat))) := by simp [binAll, iK]
theorem bin_or {P : Program} {K : AV → Prop} {t : TypeId} {k : IntKind} {x y : Int} : binAll P .or t (.int k x) (.int k y) K = K (.int k (k.wrap ((BitVec.ofInt k.bits x ||| BitVec.ofInt k.bits y).toNat))) := by simp [binAll, iK]
/-- The rules for limbs. -/
theorem limR : type_of% (And.intro @u32E_eq (And.intro @rep_u32E (And.intro @set_u32E (And.intro @app_u32E (And.intro @bin_and @bin_or))))) := And.intro @u32E_eq (And.intro @rep_u32E (And.intro @set_u32E (And.intro @app_u32E (And.intro @bin_and @bin_or))))
def LI (l : List Int) : Prop := ∀ x, x ∈ l → 0 ≤ x ∧ x < 4294967296
theorem LI.get {l : List Int} (h : LI l) {i : Nat} : 0 ≤ l.getD i default ∧ l.getD i default < 4294967296 := by
  rw [List.getD_eq_getElem?_getD]
  cases hx : l[i]? with
  | none => simp
  | some x => exact h x (List.mem_of_getElem? hx)
theorem LI.take {l : List Int} (h : LI l) (n : Nat) : LI (l.take n) := fun x hx => h x (List.mem_of_mem_take hx)
theorem LI.drop {l : List Int} (h : LI l) (n : Nat) : LI (l.drop n) := fun x hx => h x (List.mem_of_mem_drop hx)
theorem LI.app {l r : List Int} (h : LI l) (h' : LI r) : LI (l ++ r) := fun x hx => (List.mem_append.1 hx).elim (h x) (h' x)
theorem LI.set {l : List Int} (h : LI l) {i : Nat} {y : Int} (hy : 0 ≤ y ∧ y < 4294967296) : LI (l.set i y) := fun x hx => by
  rcases List.mem_or_eq_of_mem_set hx with h1 | h1
  · exact h x h1
  · rw [h1]; exact hy
theorem LI.rep {n : Nat} : LI (List.replicate n 0) := fun x hx => by rw [List.eq_of_mem_replicate hx]; omega
theorem LI.nil : LI [] := fun x hx => by cases hx
theorem LI.cons {x : Int} {l : List Int} (hx : 0 ≤ x ∧ x < 4294967296) (h : LI l) : LI (x :: l) := fun y hy => by
  rcases List.mem_cons.1 hy with rfl | h1
  · exact hx
  · exact h y h1
/-- What a list of limbs is worth. -/
def val : List Int → Int
  | [] => 0
  | x :: r => x + 4294967296 * val r
theorem val_app : ∀ {l r : List Int}, val (l ++ r) = val l + 4294967296 ^ l.length * val r
  | [], r => by simp [val]
  | x :: l, r => by
    rw [List.cons_append, val, val, val_app (l := l), List.length_cons, Int.pow_succ, Int.mul_add, ← Int.mul_assoc, ← Int.add_assoc, Int.mul_comm 4294967296 (4294967296 ^ l.length)]
theorem val_one {x : Int} : val [x] = x := by simp [val]
theorem val_snoc {l : List Int} {x : Int} : val (l ++ [x]) = val l + 4294967296 ^ l.length * x := by rw [val_app, val_one]
theorem val_rep {n : Nat} : val (List.replicate n 0) = 0 := by
  induction n with
  | zero => rfl
  | succ n ih => rw [List.replicate_succ, val, ih]; rfl
theorem bpos {n : Nat} : (0 : Int) < 4294967296 ^ n := Int.pow_pos (by decide)
theorem bmono {m n : Nat} (h : m ≤ n) : (4294967296 : Int) ^ m ≤ 4294967296 ^ n := by
  obtain ⟨d, rfl⟩ := Nat.exists_eq_add_of_le h
  rw [Int.pow_add]
  have h1 : (0 : Int) < 4294967296 ^ d := bpos
  have h2 : (4294967296 : Int) ^ m * 1 ≤ 4294967296 ^ m * 4294967296 ^ d := Int.mul_le_mul_of_nonneg_left (by omega) (Int.le_of_lt bpos)
  rwa [Int.mul_one] at h2
theorem val_bound {l : List Int} (h : LI l) : 0 ≤ val l ∧ val l < 4294967296 ^ l.length := by
  induction l with
  | nil => simp [val]
  | cons x r ih =>
    have h1 := h x (by simp)
    have h2 := ih (fun y hy => h y (List.mem_cons_of_mem _ hy))
    rw [val, List.length_cons, Int.pow_succ]
    constructor
    · omega
    · omega
theorem val_take_succ {l : List Int} {k : Nat} (hk : k < l.length) : val (l.take (k + 1)) = val (l.take k) + 4294967296 ^ k * l.getD k default := by
  rw [List.take_add_one, List.getElem?_eq_getElem hk, Option.toList_some, val_snoc, List.length_take, Nat.min_eq_left (by omega), List.getD_eq_getElem?_getD, List.getElem?_eq_getElem hk]
  rfl
theorem val_split {l : List Int} (k : Nat) (hk : k ≤ l.length) : val l = val (l.take k) + 4294967296 ^ k * val (l.drop k) := by
  have := val_app (l := l.take k) (r := l.drop k)
  rw [List.take_append_drop, List.length_take, Nat.min_eq_left hk] at this
  exact this
/-- How long a list is without the zeros on top of its first n. -/
def trmN (l : List Int) : Nat → Nat
  | 0 => 0
  | n + 1 => if l.getD n default = 0 then trmN l n else n + 1
theorem trmN_le {l : List Int} : ∀ n, trmN l n ≤ n
  | 0 => Nat.le_refl _
  | n + 1 => by
    have := trmN_le (l := l) n
    rw [trmN]; split <;> omega
theorem trmN_val {l : List Int} : ∀ n, n ≤ l.length → val (l.take (trmN l n)) = val (l.take n)
  | 0, _ => rfl
  | n + 1, h => by
    rw [trmN]
    split
    · rename_i c
      rw [trmN_val n (by omega), val_take_succ (by omega), c, Int.mul_zero, Int.add_zero]
    · rfl
theorem trmN_top {l : List Int} : ∀ n, 0 < trmN l n → l.getD (trmN l n - 1) default ≠ 0
  | 0, h => by simp [trmN] at h
  | n + 1, h => by
    rw [trmN] at h ⊢
    split
    · rename_i c
      rw [if_pos c] at h
      exact trmN_top n h
    · rename_i c
      exact c
/-- Limbs without a zero on top. -/
structure Norm (l : List Int) : Prop where
  li : LI l
  top : 0 < l.length → l.getD (l.length - 1) default ≠ 0
theorem Norm.nil : Norm [] := ⟨LI.nil, fun h => absurd h (by simp)⟩
theorem norm_take {l : List Int} (h : LI l) {n : Nat} (hn : n ≤ l.length) : Norm (l.take (trmN l n)) := by
  have hl := trmN_le (l := l) n
  have e : (l.take (trmN l n)).length = trmN l n := by rw [List.length_take]; omega
  refine ⟨h.take _, fun h0 => ?_⟩
  rw [e] at h0 ⊢
  have := trmN_top n h0
  rw [List.getD_eq_getElem?_getD, List.getElem?_take_of_lt (by omega), ← List.getD_eq_getElem?_getD]
  exact this
theorem Norm.lower {l : List Int} (h : Norm l) (h0 : 0 < l.length) : 4294967296 ^ (l.length - 1) ≤ val l := by
  have h1 := val_take_succ (l := l) (k := l.length - 1) (by omega)
  rw [show l.length - 1 + 1 = l.length by omega, List.take_length] at h1
  have h2 := (val_bound (h.li.take (l.length - 1))).1
  have h3 := h.li.get (i := l.length - 1)
  have h4 := h.top h0
  have h5 : (4294967296 : Int) ^ (l.length - 1) * 1 ≤ 4294967296 ^ (l.length - 1) * l.getD (l.length - 1) default := Int.mul_le_mul_of_nonneg_left (by omega) (Int.le_of_lt bpos)
  omega
theorem Norm.pos {l : List Int} (h : Norm l) (h0 : 0 < l.length) : 0 < val l := Int.lt_of_lt_of_le bpos (h.lower h0)
theorem Norm.len_le {a b : List Int} (ha : Norm a) (hb : LI b) (h : val a ≤ val b) : a.length ≤ b.length := by
  rcases Nat.lt_or_ge b.length a.length with c | c
  · have h1 := ha.lower (by omega)
    have h2 := (val_bound hb).2
    have h3 : (4294967296 : Int) ^ b.length ≤ 4294967296 ^ (a.length - 1) := bmono (by omega)
    omega
  · exact c
theorem val_inj {a b : List Int} (ha : LI a) (hb : LI b) (hl : a.length = b.length) (h : val a = val b) : a = b := by
  induction a generalizing b with
  | nil => exact (List.length_eq_zero_iff.1 (by simpa using hl.symm)).symm
  | cons x r ih =>
    match b, hl with
    | y :: s, hl =>
      rw [val, val] at h
      have h1 := ha x (by simp)
      have h2 := hb y (by simp)
      have hr := ih (b := s) (fun z hz => ha z (List.mem_cons_of_mem _ hz)) (fun z hz => hb z (List.mem_cons_of_mem _ hz)) (by simpa using hl) (by omega)
      rw [hr] at h ⊢
      congr 1
      omega
theorem Norm.inj {a b : List Int} (ha : Norm a) (hb : Norm b) (h : val a = val b) : a = b :=
  val_inj ha.li hb.li (Nat.le_antisymm (ha.len_le hb.li (by omega)) (hb.len_le ha.li (by omega))) h
/-- Two lists of one length, compared from the top. -/
theorem val_lt {a b : List Int} (ha : LI a) (hb : LI b) (hl : a.length = b.length) {i : Nat} (hi : i < a.length) (hx : a.getD i default < b.getD i default) (ht : a.drop (i + 1) = b.drop (i + 1)) : val a < val b := by
  rw [val_split (l := a) (i + 1) (by omega), val_split (l := b) (i + 1) (by omega), ht, val_take_succ hi, val_take_succ (by omega)]
  have h1 := (val_bound (ha.take i)).2
  have h2 := (val_bound (hb.take i)).1
  rw [List.length_take, Nat.min_eq_left (by omega)] at h1
  have h3 : (4294967296 : Int) ^ i * (a.getD i default + 1) ≤ 4294967296 ^ i * b.getD i default := Int.mul_le_mul_of_nonneg_left (by omega) (Int.le_of_lt bpos)
  rw [Int.mul_add, Int.mul_one] at h3
  omega
end Go.Proofs.Ytgdlkhgfehclpaa
end
