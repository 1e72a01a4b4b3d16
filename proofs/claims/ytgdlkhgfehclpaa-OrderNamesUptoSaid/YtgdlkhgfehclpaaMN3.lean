/- Texts of one claim bound together: ALka, ALl, ALm, ALn, ALo, ALp, ALq, ALr, ALs, PZa. -/
import Derived.Test.YtgdlkhgfehclpaaMN2
import Derived.Deep.LoopGhost
import Derived.Test.YtgdlkhgfehclpaaRows
import Derived.ProofKit
import Derived.OpenShut
import Derived.JoinedCond

section
/- The small logic's heaps, objects renamed, the forgotten left out. No condition. -/
namespace Go.AL
set_option linter.unusedVariables false
set_option linter.unusedSimpArgs false
mutual
/-- A value with its objects renamed; of one that is left out nothing is known. -/
def AV.ren (ρ : Nat → Option Nat) : AV → AV
  | .op id k e off => match ρ id with | some j => .op j k e off | none => .any
  | .osl id k i len cap ex => match ρ id with | some j => .osl j k i len cap ex | none => .any
  | .om id => match ρ id with | some j => .om j | none => .any
  | .fn f fs cs => .fn f (rens ρ fs) (rens ρ cs)
  | .ifc t v => .ifc t (v.ren ρ)
  | .agg cs => .agg (rens ρ cs)
  | .tup cs => .tup (rens ρ cs)
  | .int k n => .int k n
  | .bool b => .bool b
  | .str s => .str s
  | .flt k n => .flt k n
  | .nilp => .nilp
  | .nils => .nils
  | .nilf => .nilf
  | .nili => .nili
  | .nilm => .nilm
  | .ip c o => .ip c o
  | .isl k es => .isl k es
  | .any => .any
def rens (ρ : Nat → Option Nat) : List AV → List AV
  | [] => []
  | v :: r => v.ren ρ :: rens ρ r
end
theorem rens_length (ρ : Nat → Option Nat) : ∀ l, (rens ρ l).length = l.length
  | [] => rfl
  | v :: r => by simp [rens, rens_length ρ r]
theorem rens_get {ρ : Nat → Option Nat} : ∀ {l : List AV} {j : Nat} {u : AV}, (rens ρ l)[j]? = some u → ∃ u0, l[j]? = some u0 ∧ u = u0.ren ρ
  | [], j, u, h => by simp [rens] at h
  | v :: r, 0, u, h => by simp [rens] at h; exact ⟨v, rfl, h.symm⟩
  | v :: r, j + 1, u, h => by simp [rens] at h; obtain ⟨u0, h1, h2⟩ := rens_get h; exact ⟨u0, by simpa using h1, h2⟩
def Ob.ren (ρ : Nat → Option Nat) : Ob → Ob
  | .dead => .dead
  | .arr k es ex => .arr k (es.map (rens ρ)) ex
  | .map es c => .map (es.map fun x => (x.1.ren ρ, x.2.1.ren ρ, x.2.2)) c

section
variable {I : Nat → Prop} {β β' : Nat → Nat} {N N' : Nat} {w : World} {ρ : Nat → Option Nat}
theorem IRel.ren {u : AV} {v : Value} (h : IRel I w u v) : IRel I w (u.ren ρ) v := by
  induction h with
  | int k n => exact .int k n
  | bool b => exact .bool b
  | str s => exact .str s
  | flt k n => exact .flt k n
  | nilp => exact .nilp
  | nils => exact .nils
  | nilf => exact .nilf
  | nili => exact .nili
  | nilm => exact .nilm
  | ip cells off b o vs hb hl hc h1 hr ih => exact .ip cells off b o vs hb hl hc h1 hr
  | isl0 k A c => exact .isl0 k A c
  | isl k es b o c f hne hl hb hk hc ho hr ih => exact .isl k es b o c f hne hl hb hk hc ho hr
  | fn f fs cs fs' cs' h1 h2 _ _ ih1 ih2 =>
    refine .fn f _ _ fs' cs' (by rw [rens_length]; exact h1) (by rw [rens_length]; exact h2) (fun j u v hu hv => ?_) (fun j u v hu hv => ?_)
    · obtain ⟨u0, h3, rfl⟩ := rens_get hu; exact ih1 j u0 v h3 hv
    · obtain ⟨u0, h3, rfl⟩ := rens_get hu; exact ih2 j u0 v h3 hv
  | ifc t u v _ ih => exact .ifc t _ v ih
  | agg cs cs' h1 h2 _ ih =>
    refine .agg _ cs' (by rw [rens_length]; exact h1) h2 (fun j u v hu hv => ?_)
    obtain ⟨u0, h3, rfl⟩ := rens_get hu; exact ih j u0 v h3 hv
  | tup cs cs' h1 _ ih =>
    refine .tup _ cs' (by rw [rens_length]; exact h1) (fun j u v hu hv => ?_)
    obtain ⟨u0, h3, rfl⟩ := rens_get hu; exact ih j u0 v h3 hv
theorem VRel.ren {u : AV} {v : Value} (h : VRel I β N w u v) (hρ : ∀ id j, id < N → ρ id = some j → j < N' ∧ β' j = β id) : VRel I β' N' w (u.ren ρ) v := by
  induction h with
  | imm u v h => exact .imm _ _ h.ren
  | any v => exact .any v
  | op id k e off h =>
    simp only [AV.ren]
    cases hr : ρ id with
    | none => exact .any _
    | some j => obtain ⟨h1, h2⟩ := hρ id j h hr; rw [← h2]; exact .op j k e off h1
  | osl id k i len cap ex c n h h0 h1 h2 h3 h4 =>
    simp only [AV.ren]
    cases hr : ρ id with
    | none => exact .any _
    | some j => obtain ⟨q1, q2⟩ := hρ id j h hr; rw [← q2]; exact .osl j k i len cap ex c n q1 h0 h1 h2 (by rw [q2]; exact h3) h4
  | om id h =>
    simp only [AV.ren]
    cases hr : ρ id with
    | none => exact .any _
    | some j => obtain ⟨h1, h2⟩ := hρ id j h hr; rw [← h2]; exact .om j h1
  | fn f fs cs fs' cs' h1 h2 _ _ ih1 ih2 =>
    refine .fn f _ _ fs' cs' (by rw [rens_length]; exact h1) (by rw [rens_length]; exact h2) (fun j u v hu hv => ?_) (fun j u v hu hv => ?_)
    · obtain ⟨u0, h3, rfl⟩ := rens_get hu; exact ih1 j u0 v h3 hv
    · obtain ⟨u0, h3, rfl⟩ := rens_get hu; exact ih2 j u0 v h3 hv
  | ifc t u v _ ih => exact .ifc t _ v ih
  | agg cs cs' h1 h2 _ ih =>
    refine .agg _ cs' (by rw [rens_length]; exact h1) h2 (fun j u v hu hv => ?_)
    obtain ⟨u0, h3, rfl⟩ := rens_get hu; exact ih j u0 v h3 hv
  | tup cs cs' h1 _ ih =>
    refine .tup _ cs' (by rw [rens_length]; exact h1) (fun j u v hu hv => ?_)
    obtain ⟨u0, h3, rfl⟩ := rens_get hu; exact ih j u0 v h3 hv
theorem ORel.ren {o : Ob} {x : Option Obj} (h : ORel I β N w o x) (hρ : ∀ id j, id < N → ρ id = some j → j < N' ∧ β' j = β id) : ORel I β' N' w (o.ren ρ) x := by
  cases o with
  | dead => trivial
  | arr k es ex =>
    obtain ⟨cur, t, h1, h2, h3, h4, h5⟩ := h
    refine ⟨cur, t, h1, fun i e he => ?_, by simpa using h3, by simpa using h4, fun i e j u he hu => ?_⟩
    · rw [List.getElem?_map] at he
      cases hes : es[i]? with
      | none => rw [hes] at he; simp at he
      | some e0 => rw [hes] at he; simp at he; subst he; rw [rens_length]; exact h2 i e0 hes
    · rw [List.getElem?_map] at he
      cases hes : es[i]? with
      | none => rw [hes] at he; simp at he
      | some e0 =>
        rw [hes] at he; simp at he; subst he
        obtain ⟨u0, hu0, rfl⟩ := rens_get hu
        obtain ⟨v, h6, h7, h8⟩ := h5 i e0 j u0 hes hu0
        exact ⟨v, h6, h7.ren hρ, h8⟩
  | map es c =>
    obtain ⟨es', h1, h2, h3⟩ := h
    refine ⟨es', h1, by simpa using h2, fun j x y hx hy => ?_⟩
    rw [List.getElem?_map] at hx
    cases hes : es[j]? with
    | none => rw [hes] at hx; simp at hx
    | some x0 =>
      rw [hes] at hx; simp at hx; subst hx
      obtain ⟨q1, q2, q3⟩ := h3 j x0 y hes hy
      exact ⟨q1.ren hρ, q2.ren hρ, q3⟩
theorem Ob.ren_dead {o : Ob} (h : o.ren ρ ≠ .dead) : o ≠ .dead := by rintro rfl; exact h rfl
end

/-! ### leaving out -/
def posOf : List Nat → Nat → Option Nat
  | [], _ => none
  | x :: r, id => if x = id then some 0 else (posOf r id).map (· + 1)
theorem posOf_get : ∀ {ids : List Nat} {id j : Nat}, posOf ids id = some j → ids[j]? = some id
  | [], id, j, h => by simp [posOf] at h
  | x :: r, id, j, h => by
    unfold posOf at h
    split at h
    · rename_i e; simp at h; subst h; simp [e]
    · cases hp : posOf r id with
      | none => rw [hp] at h; simp at h
      | some j' => rw [hp] at h; simp at h; subst h; simpa using posOf_get hp
def gcH (ids : List Nat) (h : Heap) : Heap := ids.map fun id => (match h[id]? with | some o => o.ren (posOf ids) | none => .dead)
def gcF (ids : List Nat) (a : Fr) : Fr := fun t => (a t).ren (posOf ids)
def gcB (ids : List Nat) (β : Nat → Nat) : Nat → Nat := fun i => β (ids.getD i 0)
theorem gc_hρ {ids : List Nat} {β : Nat → Nat} {N : Nat} (id j : Nat) (hid : id < N) (h : posOf ids id = some j) : j < ids.length ∧ gcB ids β j = β id := by
  have h1 := posOf_get h
  exact ⟨(List.getElem?_eq_some_iff.1 h1).1, by simp [gcB, List.getD_eq_getElem?_getD, h1]⟩
theorem nodup_get : ∀ {l : List Nat} {i j x : Nat}, l.Nodup → l[i]? = some x → l[j]? = some x → i = j
  | [], i, j, x, _, h, _ => by simp at h
  | y :: r, 0, 0, x, _, _, _ => rfl
  | y :: r, 0, j + 1, x, hn, h, h' => by
    simp at h h'; subst h
    exact absurd (List.mem_of_getElem? h') (List.nodup_cons.1 hn).1
  | y :: r, i + 1, 0, x, hn, h, h' => by
    simp at h h'; subst h'
    exact absurd (List.mem_of_getElem? h) (List.nodup_cons.1 hn).1
  | y :: r, i + 1, j + 1, x, hn, h, h' => by
    simp at h h'
    rw [nodup_get (List.nodup_cons.1 hn).2 h h']
theorem gcH_length {ids : List Nat} {h : Heap} : (gcH ids h).length = ids.length := by simp [gcH]
theorem gcH_get {ids : List Nat} {h : Heap} {i : Nat} {o : Ob} (ho : (gcH ids h)[i]? = some o) (hd : o ≠ .dead) : ∃ id o0, ids[i]? = some id ∧ h[id]? = some o0 ∧ o = o0.ren (posOf ids) ∧ o0 ≠ .dead := by
  unfold gcH at ho
  rw [List.getElem?_map] at ho
  cases hi : ids[i]? with
  | none => rw [hi] at ho; simp at ho
  | some id =>
    rw [hi] at ho
    simp only [Option.map_some, Option.some.injEq] at ho
    cases hh : h[id]? with
    | none => rw [hh] at ho; exact absurd ho.symm hd
    | some o0 =>
      rw [hh] at ho
      have ho' : o0.ren (posOf ids) = o := ho
      exact ⟨id, o0, rfl, hh, ho'.symm, Ob.ren_dead (ρ := posOf ids) (by rw [ho']; exact hd)⟩
theorem gcB_get {ids : List Nat} {β : Nat → Nat} {i id : Nat} (h : ids[i]? = some id) : gcB ids β i = β id := by simp [gcB, List.getD_eq_getElem?_getD, h]
section
variable {I : Nat → Prop} {β : Nat → Nat} {h : Heap} {w : World} {ids : List Nat}
theorem Rel.gc (r : Rel I β h w) (hn : ids.Nodup) : Rel I (gcB ids β) (gcH ids h) w := by
  refine ⟨r.imm, fun i o ho hd => ?_, fun i i' o o' ho hd ho' hd' hb => ?_⟩
  · obtain ⟨id, o0, h1, h2, rfl, h3⟩ := gcH_get ho hd
    obtain ⟨q1, q2, q3⟩ := r.obj id o0 h2 h3
    rw [gcB_get h1]
    refine ⟨q1, q2, ?_⟩
    rw [gcH_length]
    exact q3.ren fun id j hid hj => gc_hρ id j hid hj
  · obtain ⟨id, o0, h1, h2, rfl, h3⟩ := gcH_get ho hd
    obtain ⟨id', o0', h1', h2', rfl, h3'⟩ := gcH_get ho' hd'
    rw [gcB_get h1, gcB_get h1'] at hb
    have := r.inj id id' o0 o0' h2 h3 h2' h3' hb
    subst this
    exact nodup_get hn h1 h1'
theorem VRel.gc {u : AV} {v : Value} (f : VRel I β h.length w u v) : VRel I (gcB ids β) (gcH ids h).length w (u.ren (posOf ids)) v := by
  rw [gcH_length]
  exact f.ren fun id j hid hj => gc_hρ id j hid hj
theorem FRel.gc {n : Nat} {a : Fr} {c : Act} (f : FRel I β h.length w n a c) : FRel I (gcB ids β) (gcH ids h).length w n (gcF ids a) c := ⟨fun t => (f.val t).gc, f.size, f.defers⟩
theorem Ext.gc {I0 : Nat → Prop} {β0 : Nat → Nat} {h0 : Heap} {w0 : World} (x : Ext I0 β0 h0 w0 I β h w) (hb : ids.take h0.length = List.range h0.length) : Ext I0 β0 h0 w0 I (gcB ids β) (gcH ids h) w := by
  have hl : h0.length ≤ ids.length := by
    have := congrArg List.length hb
    simp at this
    omega
  have hg : ∀ id, id < h0.length → ids[id]? = some id := fun id hid => by
    have : (ids.take h0.length)[id]? = some id := by rw [hb]; simp [hid]
    rwa [List.getElem?_take_of_lt hid] at this
  refine ⟨x.os, x.tape, x.output, x.size, by rw [gcH_length]; exact hl, fun id hid => by rw [gcB_get (hg id hid)]; exact x.beta id hid, x.sub, x.immnew, fun b hb' => ?_, x.keep, x.bs⟩
  obtain ⟨i, o, ho, hd, rfl⟩ := hb'
  obtain ⟨id, o0, h1, h2, rfl, h3⟩ := gcH_get ho hd
  rw [gcB_get h1]
  exact x.own _ ⟨id, o0, h2, h3, rfl⟩
end
/-- Objects left out: those of 'ids' stay, in this order; the first N are the first N. -/
def GcK (N : Nat) (a : Fr) (h : Heap) (K : Fr → Heap → Prop) : Prop := ∃ ids : List Nat, (ids.Nodup ∧ ids.take N = List.range N) ∧ K (gcF ids a) (gcH ids h)
end Go.AL
end

section
/- Bodies in the small logic: sequences, branches, loops; what a function's body owes; functions of values alone. No condition. -/
namespace Go.AL
set_option linter.unusedVariables false
set_option linter.unusedSimpArgs false
set_option linter.unnecessarySimpa false

def thenK (next : Fr → Heap → Prop) (Q : Exit → Fr → Heap → Prop) : Exit → Fr → Heap → Prop
  | .normal, a, h => next a h
  | e, a, h => Q e a h
def blockK (id : Nat) (Q : Exit → Fr → Heap → Prop) : Exit → Fr → Heap → Prop
  | .exit j, a, h => if j = id then Q .normal a h else Q (.exit j) a h
  | e, a, h => Q e a h

/-- A loop: what holds ahead of each round, and a number that each round lowers. -/
def LoopK (body : (Exit → Fr → Heap → Prop) → Fr → Heap → Prop) (Q : Exit → Fr → Heap → Prop) (a : Fr) (h : Heap) : Prop :=
  ∃ J : Nat → Fr → Heap → Prop, (∃ m, J m a h) ∧ ∀ m a1 h1, J m a1 h1 → body (thenK (fun a2 h2 => (∃ m', m' < m ∧ J m' a2 h2) ∨ GcK h.length a2 h2 fun a3 h3 => ∃ m', m' < m ∧ J m' a3 h3) Q) a1 h1
theorem LoopK.intro {body : (Exit → Fr → Heap → Prop) → Fr → Heap → Prop} {Q : Exit → Fr → Heap → Prop} {a : Fr} {h : Heap} (J : Nat → Fr → Heap → Prop) (m : Nat) (h0 : J m a h)
    (hr : ∀ m a1 h1, J m a1 h1 → body (thenK (fun a2 h2 => (∃ m', m' < m ∧ J m' a2 h2) ∨ GcK h.length a2 h2 fun a3 h3 => ∃ m', m' < m ∧ J m' a3 h3) Q) a1 h1) : LoopK body Q a h := ⟨J, ⟨m, h0⟩, hr⟩
theorem LoopK_congr {body : (Exit → Fr → Heap → Prop) → Fr → Heap → Prop} {Q : Exit → Fr → Heap → Prop} {a : Fr} {h h' : Heap} (e : h = h') : LoopK body Q a h = LoopK body Q a h' := by rw [e]

/-- WHAT A PIECE OF CODE OWES. A loop: what holds ahead of each round, and a number that each round lowers. -/
def asx (P : Program) (n : Nat) (pl : Nat → Plan) : Code → (Exit → Fr → Heap → Prop) → Fr → Heap → Prop
  | .skip, Q, a, h => Q .normal a h
  | .region id ops draw, Q, a, h => (match draw with
    | false => aops P n ops.toList ops.toList a h fun a h => Q .normal a h
    | true => adrD P n ops.toList (pl id) a h fun a h => Q .normal a h)
  | .seq x y, Q, a, h => asx P n pl x (thenK (asx P n pl y Q) Q) a h
  | .cond c x y, Q, a, h => evK a c fun v => match v with | .bool b => (b = true → asx P n pl x Q a h) ∧ (b = false → asx P n pl y Q a h) | _ => False
  | .block id c, Q, a, h => asx P n pl c (blockK id Q) a h
  | .loop c, Q, a, h => LoopK (asx P n pl c) Q a h
  | .exit id, Q, a, h => Q (.exit id) a h
  | .ret, Q, a, h => Q .ret a h
  | .label _, Q, a, h => Q .normal a h
  | _, _, _, _ => False

def codeChk (pl : Nat → Plan) : Code → Bool
  | .region id ops true => drawChkD ops.toList (pl id)
  | .seq x y => codeChk pl x && codeChk pl y
  | .cond _ x y => codeChk pl x && codeChk pl y
  | .block _ c => codeChk pl c
  | .loop c => codeChk pl c
  | _ => true

section
variable {P : Program} {n : Nat} {pl : Nat → Plan}

theorem aop_imp_quiet {op : Op} : True := trivial

theorem asx_sound (hm : P.follows .mixedOrders = true) : ∀ (c : Code), codeChk pl c = true → ∀ (Q : Exit → Fr → Heap → Prop) (a : Fr) (h : Heap), asx P n pl c Q a h → ∀ (I : Nat → Prop) (β : Nat → Nat) (w : World) (ac : Act), Rel I β h w → FRel I β h.length w n a ac →
    ∀ Q' : Exit → Act → World → Prop, (∀ e a' h' I' β' c' w', Q e a' h' → Ext I β h w I' β' h' w' → Rel I' β' h' w' → FRel I' β' h'.length w' n a' c' → Q' e c' w') → c.wp P Q' ac w := by
  intro c
  induction c with
  | skip => intro _ Q a h hk I β w ac r f Q' hQ; exact wp_skip (hQ _ _ _ _ _ _ _ hk (.refl _ _ _ _) r f)
  | region id ops draw =>
    intro hc Q a h hk I β w ac r f Q' hQ
    cases draw with
    | false =>
      refine wp_region ?_
      have := aops_sound (P := P) (n := n) (ops := ops) (Q := Q') ops.toList 0 (fun j => by simp) a h _ I β w ac r f hk (fun a' h' I' β' c' w' hk' => hQ _ a' h' I' β' c' w' hk')
      rwa [Array.length_toList, ← List.range_eq_range'] at this
    | true => exact drawD_sound hm hc r f hk (fun a' h' I' β' c' w' hk' => hQ _ a' h' I' β' c' w' hk')
  | seq x y ihx ihy =>
    intro hc Q a h hk I β w ac r f Q' hQ
    simp only [codeChk, Bool.and_eq_true] at hc
    refine wp_seq (ihx hc.1 _ a h hk I β w ac r f _ (fun e a' h' I' β' c' w' hk' he hr hf => ?_))
    cases e with
    | normal => exact ihy hc.2 Q a' h' hk' I' β' w' c' hr hf _ (fun e2 a2 h2 I2 β2 c2 w2 hk2 he2 => hQ e2 a2 h2 I2 β2 c2 w2 hk2 (he.trans he2))
    | exit j => exact hQ _ _ _ _ _ _ _ hk' he hr hf
    | goto l => exact hQ _ _ _ _ _ _ _ hk' he hr hf
    | ret => exact hQ _ _ _ _ _ _ _ hk' he hr hf
    | panic ch => exact hQ _ _ _ _ _ _ _ hk' he hr hf
    | outgrown => exact hQ _ _ _ _ _ _ _ hk' he hr hf
  | cond x thn els iht ihe =>
    intro hc Q a h hk I β w ac r f Q' hQ
    simp only [codeChk, Bool.and_eq_true] at hc
    obtain ⟨u, hu, hk⟩ := evK_sound f hk
    cases u with
    | bool b =>
      refine wp_cond_split hu.bool_inv (fun e => ?_) (fun e => ?_)
      · exact iht hc.1 Q a h (hk.1 e) I β w ac r f Q' hQ
      · exact ihe hc.2 Q a h (hk.2 e) I β w ac r f Q' hQ
    | _ => exact hk.elim
  | block id c ih =>
    intro hc Q a h hk I β w ac r f Q' hQ
    refine wp_block (ih hc _ a h hk I β w ac r f _ (fun e a' h' I' β' c' w' hk' he hr hf => ?_))
    cases e with
    | exit j =>
      simp only [blockK, Exit.inBlock] at hk' ⊢
      split at hk'
      · rename_i hj; rw [if_pos hj]; exact hQ _ _ _ _ _ _ _ hk' he hr hf
      · rename_i hj; rw [if_neg hj]; exact hQ _ _ _ _ _ _ _ hk' he hr hf
    | normal => exact hQ _ _ _ _ _ _ _ hk' he hr hf
    | goto l => exact hQ _ _ _ _ _ _ _ hk' he hr hf
    | ret => exact hQ _ _ _ _ _ _ _ hk' he hr hf
    | panic ch => exact hQ _ _ _ _ _ _ _ hk' he hr hf
    | outgrown => exact hQ _ _ _ _ _ _ _ hk' he hr hf
  | loop c ih =>
    intro hc Q a h hk I β w ac r f Q' hQ
    obtain ⟨J, ⟨m0, hJ0⟩, hround⟩ := hk
    refine wp_loop_ghost (fun m ac' w' => ∃ I' β' a' h', J m a' h' ∧ Ext I β h w I' β' h' w' ∧ Rel I' β' h' w' ∧ FRel I' β' h'.length w' n a' ac') m0 ⟨I, β, a, h, hJ0, .refl _ _ _ _, r, f⟩ ?_
    rintro m ac' w' ⟨I', β', a', h', hJ, he, hr, hf⟩
    refine ih hc _ a' h' (hround m a' h' hJ) I' β' w' ac' hr hf _ (fun e a2 h2 I2 β2 c2 w2 hk2 he2 hr2 hf2 => ?_)
    cases e with
    | normal =>
      rcases hk2 with ⟨m', hlt, hJ'⟩ | ⟨ids, ⟨hnd, hids⟩, m', hlt, hJ'⟩
      · exact ⟨m', hlt, I2, β2, a2, h2, hJ', he.trans he2, hr2, hf2⟩
      · exact ⟨m', hlt, I2, _, _, _, hJ', (he.trans he2).gc hids, hr2.gc hnd, hf2.gc⟩
    | exit j => exact hQ _ _ _ _ _ _ _ hk2 (he.trans he2) hr2 hf2
    | goto l => exact hQ _ _ _ _ _ _ _ hk2 (he.trans he2) hr2 hf2
    | ret => exact hQ _ _ _ _ _ _ _ hk2 (he.trans he2) hr2 hf2
    | panic ch => exact hQ _ _ _ _ _ _ _ hk2 (he.trans he2) hr2 hf2
    | outgrown => exact hQ _ _ _ _ _ _ _ hk2 (he.trans he2) hr2 hf2
  | exit id => intro _ Q a h hk I β w ac r f Q' hQ; exact wp_exit (hQ _ _ _ _ _ _ _ hk (.refl _ _ _ _) r f)
  | ret => intro _ Q a h hk I β w ac r f Q' hQ; exact wp_ret (hQ _ _ _ _ _ _ _ hk (.refl _ _ _ _) r f)
  | label l => intro _ Q a h hk I β w ac r f Q' hQ; exact wp_label (hQ _ _ _ _ _ _ _ hk (.refl _ _ _ _) r f)
  | rangeFunc _ _ _ _ _ _ => intro _ Q a h hk; exact hk.elim
  | scope _ _ => intro _ Q a h hk; exact hk.elim
  | goto _ => intro _ Q a h hk; exact hk.elim
  | refuse _ => intro _ Q a h hk; exact hk.elim

/-! ### results -/
def resK (P : Program) (a : Fr) (h : Heap) : List ResultVar → (List AV → Prop) → Prop
  | [], K => K []
  | .tmp t :: r, K => resK P a h r fun us => K (a t :: us)
  | .cell p t :: r, K => loadK P t h (a p) fun u => resK P a h r fun us => K (u :: us)
def oneK (us : List AV) (K : AV → Prop) : Prop := match us with | [u] => K u | us => K (.tup us)
def bodyQ (P : Program) (rs : List ResultVar) (Q : AV → Heap → Prop) : Exit → Fr → Heap → Prop
  | .normal, a, h => resK P a h rs fun us => oneK us fun u => Q u h
  | .ret, a, h => resK P a h rs fun us => oneK us fun u => Q u h
  | _, _, _ => False
def fr0 (args : List AV) : Fr := fun t => (args[t]?).getD .undef

def resF (tmps : Array Value) : ResultVar → Sem Value
  | .tmp t => Pure.pure (tmps.getD t undef)
  | .cell a t => do loadVar t (← asAddr (tmps.getD a undef))
theorem results_eq (fn : Func) (tmps : Array Value) : results fn tmps = (do
    let vs ← fn.results.mapM (resF tmps)
    Pure.pure (if h : vs.size = 1 then vs[0] else .tuple vs)) := by
  unfold results
  congr 2

theorem resK_sound {I : Nat → Prop} {β : Nat → Nat} {h : Heap} {w : World} {a : Fr} {c : Act} (r : Rel I β h w) (f : FRel I β h.length w n a c) : ∀ (rs : List ResultVar) (K : List AV → Prop), resK P a h rs K →
    ∃ vs us, (rs.mapM (m := Sem) (resF c.tmps)).run P w = .ok vs w ∧ VRels I β h.length w us vs ∧ K us
  | [], K, hk => ⟨[], [], rfl, .nil, hk⟩
  | .tmp t :: rs, K, hk => by
    obtain ⟨vs, us, h1, h2, h3⟩ := resK_sound r f rs _ hk
    refine ⟨c.tmps.getD t undef :: vs, a t :: us, ?_, .cons (f.val t) h2, h3⟩
    simp only [List.mapM_cons, resF, Sem.run_bind, Sem.run_pure, Result.andThen_ok, h1]
  | .cell p t :: rs, K, hk => by
    obtain ⟨cv, u, e1, hk, e3⟩ := load_ok (P := P) r (f.val p) hk
    obtain ⟨vs, us, h1, h2, h3⟩ := resK_sound r f rs _ hk
    refine ⟨cv :: vs, u :: us, ?_, .cons e3 h2, h3⟩
    have e4 : (do loadVar t (← asAddr (c.tmps.getD p undef)) : Sem Value).run P w = .ok cv w := by
      generalize c.tmps.getD p undef = v at e1
      unfold Instr.loadAt at e1
      cases v with
      | pointer q =>
        cases q with
        | none => simp [Instr.sureAddr] at e1
        | some q => simpa [Instr.sureAddr, asAddr] using e1
      | _ => simp [Instr.sureAddr] at e1
    simp only [List.mapM_cons, resF, Sem.run_bind, Sem.run_pure, Result.andThen_ok]
    simp only [Sem.run_bind] at e4
    rw [e4]
    simp only [Result.andThen_ok, h1]

/-- WHAT A FUNCTION OWES, OUT OF ITS BODY. -/
theorem acalls_of_body (hm : P.follows .mixedOrders = true) {f : FuncId} {fn : Func} {c : Code} {args : List AV} {h : Heap} {Q : AV → Heap → Prop} (hf : P.funcs[f]? = some fn) (hb : fn.body = some c) (hg : good P f = true) (hn : args.length ≤ fn.ntmps) (pl : Nat → Plan) (hc : codeChk pl c = true)
    (hk : asx P fn.ntmps pl c (bodyQ P fn.results.toList Q) (fr0 args) h) : ACalls P f args h Q := by
  refine ⟨hg, fun I β w vs r hv => calls_of_wp hf hb ?_⟩
  have hl : vs.length = args.length := hv.1.symm
  refine asx_sound (n := fn.ntmps) hm c hc _ _ _ hk I β w _ r ⟨fun t => ?_, by simp; omega, rfl⟩ _ (fun e a' h' I' β' c' w' hk' he hr hf => ?_)
  · simp only [fr0, Array.getD_eq_getD_getElem?]
    by_cases ht : t < args.length
    · rw [List.getElem?_eq_getElem ht, Array.getElem?_append_left (by simp; omega)]
      have ht' : t < vs.length := by omega
      simp only [List.getElem?_toArray, List.getElem?_eq_getElem ht', Option.getD_some]
      exact hv.2 t _ _ (List.getElem?_eq_getElem ht) (List.getElem?_eq_getElem ht')
    · rw [List.getElem?_eq_none (by omega), Array.getElem?_append_right (by simp; omega)]
      simp only [Option.getD_none, Array.getElem?_replicate]
      split
      · exact .imm _ _ (.undef _ _)
      · exact .imm _ _ (.undef _ _)
  · have key : resK P a' h' fn.results.toList (fun us => oneK us fun u => Q u h') → bodyPost P fn (fun e w'' => ∃ cv u I'' β'' h'', e = .returned cv ∧ Q u h'' ∧ Ext I β h w I'' β'' h'' w'' ∧ Rel I'' β'' h'' w'' ∧ VRel I'' β'' h''.length w'' u cv) .ret c' w' := by
      intro hk'
      obtain ⟨vs', us, h1, h2, h3⟩ := resK_sound hr hf _ _ hk'
      have hmm : (fn.results.mapM (m := Sem) (resF c'.tmps)).run P w' = .ok vs'.toArray w' := by
        have : fn.results = fn.results.toList.toArray := by simp
        rw [this, List.mapM_toArray, Sem.run_map, h1]
        rfl
      refine ⟨hf.defers, (if h : vs'.toArray.size = 1 then vs'.toArray[0] else .tuple vs'.toArray), ?_, ?_⟩
      · rw [results_eq]
        simp only [Sem.run_bind]
        rw [hmm]
        rfl
      · cases us with
        | nil =>
          have := h2.none
          subst this
          exact ⟨_, _, I', β', h', rfl, h3, he, hr, .tup [] #[] rfl (fun j u v h => by simp at h)⟩
        | cons u us =>
          obtain ⟨v, vs2, rfl, h4, h5⟩ := h2.head
          cases us with
          | nil =>
            have := h5.none
            subst this
            exact ⟨_, _, I', β', h', rfl, h3, he, hr, by simpa using h4⟩
          | cons u2 us =>
            obtain ⟨v2, vs3, rfl, h6, h7⟩ := h5.head
            refine ⟨_, _, I', β', h', rfl, h3, he, hr, ?_⟩
            have h8 := VRels.cons h4 (VRels.cons h6 h7)
            simp only [List.size_toArray, List.length_cons]
            rw [dif_neg (by omega)]
            exact .tup _ _ (by simp [h7.1]) (fun j u v hu hv => h8.2 j u v hu (by simpa using hv))
    cases e with
    | normal => exact key hk'
    | ret => exact key hk'
    | _ => exact hk'.elim

end
end Go.AL
end

section
/- Functions of values alone: what they owe without a heap; what is handed back is frozen; calls of such functions, with what one owns lent to them. No condition. -/
namespace Go.AL
set_option linter.unusedVariables false
set_option linter.unusedSimpArgs false
set_option linter.unnecessarySimpa false

mutual
/-- Nothing of the heap in it. -/
def AV.pure : AV → Bool
  | .op .. => false
  | .osl .. => false
  | .om _ => false
  | .fn _ fs cs => pures fs && pures cs
  | .ifc _ v => v.pure
  | .agg cs => pures cs
  | .tup cs => pures cs
  | .int .. => true
  | .bool _ => true
  | .str _ => true
  | .flt .. => true
  | .nilp => true
  | .nils => true
  | .nilf => true
  | .nili => true
  | .nilm => true
  | .ip .. => true
  | .isl .. => true
  | .any => false
def pures : List AV → Bool
  | [] => true
  | v :: r => v.pure && pures r
end

theorem pures_get {l : List AV} (h : pures l = true) {j : Nat} {u : AV} (hj : l[j]? = some u) : u.pure = true := by
  induction l generalizing j with
  | nil => simp at hj
  | cons v r ih =>
    simp only [pures, Bool.and_eq_true] at h
    cases j with
    | zero => simp at hj; subst hj; exact h.1
    | succ j => simp at hj; exact ih h.2 hj
theorem pures_of {l : List AV} (h : ∀ u, u ∈ l → u.pure = true) : pures l = true := by
  induction l with
  | nil => rfl
  | cons v r ih => simp only [pures, Bool.and_eq_true]; exact ⟨h v (by simp), ih fun u hu => h u (by simp [hu])⟩

theorem VRel.toI {I : Nat → Prop} {β : Nat → Nat} {N : Nat} {w : World} {u : AV} {v : Value} (h : VRel I β N w u v) (hp : u.pure = true) : IRel I w u v := by
  induction h with
  | imm u v h => exact h
  | any _ => simp [AV.pure] at hp
  | op _ _ _ _ _ => simp [AV.pure] at hp
  | osl _ _ _ _ _ _ _ _ _ => simp [AV.pure] at hp
  | om _ _ => simp [AV.pure] at hp
  | fn f fs cs fs' cs' h1 h2 _ _ ih1 ih2 =>
    simp only [AV.pure, Bool.and_eq_true] at hp
    exact .fn f fs cs fs' cs' h1 h2 (fun j u v hu hv => ih1 j u v hu hv (pures_get hp.1 hu)) (fun j u v hu hv => ih2 j u v hu hv (pures_get hp.2 hu))
  | ifc t u v _ ih => exact .ifc t u v (ih (by simpa [AV.pure] using hp))
  | agg cs cs' h1 h2 _ ih => exact .agg cs cs' h1 h2 (fun j u v hu hv => ih j u v hu hv (pures_get (by simpa [AV.pure] using hp) hu))
  | tup cs cs' h1 _ ih => exact .tup cs cs' h1 (fun j u v hu hv => ih j u v hu hv (pures_get (by simpa [AV.pure] using hp) hu))

/-- What an own value is, once nobody writes what it leads to. -/
inductive Frz (h : Heap) : AV → AV → Prop
  | pure (u : AV) : u.pure = true → Frz h u u
  | nils (k : Nat) : Frz h .nils (.isl k [])
  | osl (id k i len cap : Nat) (ex ex' : Bool) (es es' : List (List AV)) : h[id]? = some (.arr k es ex') → i + len ≤ es.length → es'.length = len →
      (∀ (j : Nat) (e e' : List AV), es[i + j]? = some e → es'[j]? = some e' → e'.length = e.length) →
      (∀ (j : Nat) (e e' : List AV) (q : Nat) (u u' : AV), es[i + j]? = some e → es'[j]? = some e' → e[q]? = some u → e'[q]? = some u' → Frz h u u') → Frz h (.osl id k i len cap ex) (.isl k es')
  | op (id k e off : Nat) (ex' : Bool) (es : List (List AV)) (c c' : List AV) : h[id]? = some (.arr k es ex') → es[e]? = some c → c'.length = c.length →
      (∀ (q : Nat) (u u' : AV), c[q]? = some u → c'[q]? = some u' → Frz h u u') → Frz h (.op id k e off) (.ip c' off)
  | fn (f : Fn) (fs cs fs' cs' : List AV) : fs'.length = fs.length → cs'.length = cs.length → (∀ (q : Nat) (u u' : AV), fs[q]? = some u → fs'[q]? = some u' → Frz h u u') → (∀ (q : Nat) (u u' : AV), cs[q]? = some u → cs'[q]? = some u' → Frz h u u') →
      Frz h (.fn f fs cs) (.fn f fs' cs')
  | ifc (t : TypeId) (u u' : AV) : Frz h u u' → Frz h (.ifc t u) (.ifc t u')
  | agg (cs cs' : List AV) : cs'.length = cs.length → (∀ (q : Nat) (u u' : AV), cs[q]? = some u → cs'[q]? = some u' → Frz h u u') → Frz h (.agg cs) (.agg cs')
  | tup (cs cs' : List AV) : cs'.length = cs.length → (∀ (q : Nat) (u u' : AV), cs[q]? = some u → cs'[q]? = some u' → Frz h u u') → Frz h (.tup cs) (.tup cs')

/-- All that the heap holds, too. -/
def IO (I : Nat → Prop) (β : Nat → Nat) (h : Heap) : Nat → Prop := fun b => I b ∨ Own h β b

theorem getElem?_lt {α : Type} {l l' : List α} (h : l'.length = l.length) {j : Nat} {u : α} (hj : l'[j]? = some u) : ∃ v, l[j]? = some v := by
  have := (List.getElem?_eq_some_iff.1 hj).1
  exact ⟨l[j]'(by omega), List.getElem?_eq_getElem (by omega)⟩

theorem Frz.rel {I : Nat → Prop} {β : Nat → Nat} {h : Heap} {w : World} (r : Rel I β h w) {u u' : AV} (hf : Frz h u u') : ∀ {v : Value}, VRel I β h.length w u v → IRel (IO I β h) w u' v := by
  induction hf with
  | pure u hp => intro v hv; exact (hv.toI hp).mono (fun b hb => .inl hb) (fun _ _ => rfl)
  | nils k => intro v hv; rw [hv.nils_inv]; exact .isl0 k none 0
  | osl id k i len cap ex ex' es es' hid hle hl hlen _ ih =>
    intro v hv
    obtain ⟨c, n, rfl, hidl, h1, h2, h3, h4, h5⟩ := hv.osl_inv
    obtain ⟨q1, q2, cur, t, hb, hk, hs, _, hcell⟩ := r.obj id _ hid (by simp)
    cases es' with
    | nil => simp at hl; subst hl; exact .isl0 _ _ _
    | cons e0 es0 =>
      rw [← hl]
      refine .isl k (e0 :: es0) (β id) (i * k) c (fun j q => (cur[(i + j) * k + q]?).getD undef) (by simp) (by omega) (.inr ⟨id, _, hid, by simp, rfl⟩) (fun j e' he' => ?_) (fun j e' q u' he' hu' => ?_) (fun j e' q u' he' hu' => ?_) (fun j e' q u' he' hu' => ?_)
      all_goals
        have hj := (List.getElem?_eq_some_iff.1 he').1
        have he : es[i + j]? = some (es[i + j]'(by omega)) := List.getElem?_eq_getElem (by omega)
        have hll := hlen j _ e' he he'
      · rw [hll]; exact hk _ _ he
      all_goals
        have hq := (List.getElem?_eq_some_iff.1 hu').1
        have hu : (es[i + j]'(by omega))[q]? = some ((es[i + j]'(by omega))[q]'(by omega)) := List.getElem?_eq_getElem (by omega)
        obtain ⟨v, e1, e2, e3⟩ := hcell _ _ q _ he hu
      · rw [cell_of_block hb, show i * k + (j * k + q) = (i + j) * k + q by rw [Nat.add_mul]; omega, e1]; rfl
      · simp only [e1, Option.getD_some]; exact e3
      · simp only [e1, Option.getD_some]; exact ih j _ e' q _ u' he he' hu hu' e2
  | op id k e off ex' es c c' hid he hl _ ih =>
    intro v hv
    obtain ⟨rfl, hidl⟩ := hv.op_inv
    obtain ⟨vs, hvl, hc, h1, hr⟩ := elem_cells r hid he
    refine .ip c' off (β id) (e * k) vs (.inr ⟨id, _, hid, by simp, rfl⟩) (by omega) hc h1 (fun j u' v hu' hv => ?_)
    obtain ⟨u, hu⟩ := getElem?_lt hl hu'
    exact ih j u u' hu hu' (hr j u v hu hv)
  | fn f fs cs fs' cs' h1 h2 _ _ ih1 ih2 =>
    intro v hv
    obtain ⟨xs, ys, rfl, h3, h4⟩ := hv.fn_inv
    refine .fn f fs' cs' xs ys (by have := h3.1; simp at this; omega) (by have := h4.1; simp at this; omega) (fun j u' v hu' hv => ?_) (fun j u' v hu' hv => ?_)
    · obtain ⟨u, hu⟩ := getElem?_lt h1 hu'
      exact ih1 j u u' hu hu' (h3.2 j u v hu (by simpa using hv))
    · obtain ⟨u, hu⟩ := getElem?_lt h2 hu'
      exact ih2 j u u' hu hu' (h4.2 j u v hu (by simpa using hv))
  | ifc t u u' _ ih =>
    intro v hv
    obtain ⟨v', rfl, hv'⟩ := hv.ifc_inv
    exact .ifc t u' v' (ih hv')
  | agg cs cs' h1 _ ih =>
    intro v hv
    obtain ⟨xs, rfl, h2, h3, h4⟩ := hv.agg_inv
    refine .agg cs' xs (by omega) h3 (fun j u' v hu' hv => ?_)
    obtain ⟨u, hu⟩ := getElem?_lt h1 hu'
    exact ih j u u' hu hu' (h4 j u v hu hv)
  | tup cs cs' h1 _ ih =>
    intro v hv
    obtain ⟨xs, rfl, h2, h4⟩ := hv.tup_inv
    refine .tup cs' xs (by omega) (fun j u' v hu' hv => ?_)
    obtain ⟨u, hu⟩ := getElem?_lt h1 hu'
    exact ih j u u' hu hu' (h4 j u v hu hv)

/-- Pure cells: as they are. -/
theorem Frz.flat {h : Heap} {id k i len cap : Nat} {ex ex' : Bool} {es : List (List AV)} (hid : h[id]? = some (.arr k es ex')) (hle : i + len ≤ es.length) (hp : ∀ e, e ∈ es → pures e = true) : Frz h (.osl id k i len cap ex) (.isl k ((es.drop i).take len)) := by
  have key : ∀ (j : Nat) (e e' : List AV), es[i + j]? = some e → ((es.drop i).take len)[j]? = some e' → e' = e := by
    intro j e e' h1 h2
    rw [List.getElem?_take] at h2
    split at h2
    · rw [List.getElem?_drop, h1] at h2; injection h2 with h2; exact h2.symm
    · cases h2
  refine .osl id k i len cap ex ex' es _ hid hle (by simp; omega) (fun j e e' h1 h2 => by rw [key j e e' h1 h2]) (fun j e e' q u u' h1 h2 h3 h4 => ?_)
  have := key j e e' h1 h2
  subst this
  rw [h3] at h4
  injection h4 with h4
  subst h4
  exact .pure _ (pures_get (hp _ (List.mem_of_getElem? h1)) h3)
theorem Frz.whole {h : Heap} {id k cap : Nat} {ex ex' : Bool} {es : List (List AV)} (hid : h[id]? = some (.arr k es ex')) (hp : ∀ e, e ∈ es → pures e = true) {len : Nat} (hl : len = es.length) : Frz h (.osl id k 0 len cap ex) (.isl k es) := by
  subst hl
  have := Frz.flat (h := h) (id := id) (k := k) (i := 0) (len := es.length) (cap := cap) (ex := ex) (ex' := ex') hid (by simp) hp
  simpa using this
theorem Frz.ptr {h : Heap} {id k e off : Nat} {ex' : Bool} {es : List (List AV)} {c : List AV} (hid : h[id]? = some (.arr k es ex')) (he : es[e]? = some c) (hp : pures c = true) : Frz h (.op id k e off) (.ip c off) :=
  .op id k e off ex' es c c hid he rfl (fun q u u' h1 h2 => by rw [h1] at h2; injection h2 with h2; subst h2; exact .pure _ (pures_get hp h1))

/-! ### functions of values alone -/
def IRels (I : Nat → Prop) (w : World) (us : List AV) (vs : List Value) : Prop :=
  us.length = vs.length ∧ ∀ (j : Nat) (u : AV) (v : Value), us[j]? = some u → vs[j]? = some v → IRel I w u v

structure PExt (I : Nat → Prop) (w : World) (I' : Nat → Prop) (w' : World) : Prop where
  os : w'.os = w.os
  tape : w'.tape = w.tape
  output : w'.output = w.output
  size : w.heap.size ≤ w'.heap.size
  keep : ∀ b, b < w.heap.size → w'.heap[b]? = w.heap[b]?
  sub : ∀ b, I b → I' b
  new : ∀ b, I' b → I b ∨ w.heap.size ≤ b
  lt : ∀ b, I' b → b < w'.heap.size

/-- f at these values hands back r, whatever lies in memory; nothing of what lay there turns. -/
def APure (P : Program) (f : FuncId) (args : List AV) (r : AV) : Prop :=
  good P f = true ∧ ∀ (I : Nat → Prop) (w : World) (vs : List Value), (∀ b, I b → b < w.heap.size) → IRels I w args vs →
    Calls P f vs.toArray w fun e w' => ∃ cv I', e = .returned cv ∧ PExt I w I' w' ∧ IRel I' w' r cv

section
variable {P : Program}

theorem own_nil {β : Nat → Nat} {b : Nat} : ¬ Own [] β b := fun ⟨id, o, h, _⟩ => by simp at h

theorem apure_of {f : FuncId} {args : List AV} {r : AV} (h : ACalls P f args [] fun v h' => Frz h' v r) : APure P f args r := by
  refine ⟨h.1, fun I w vs hI hv => ?_⟩
  refine (h.2 I (fun _ => 0) w vs ⟨hI, fun id o h => by simp at h, fun id id' o o' h => by simp at h⟩ ⟨hv.1, fun j u v hu hv' => .imm _ _ (hv.2 j u v hu hv')⟩).mono ?_
  rintro e w' ⟨cv, u, I', β', h', rfl, hf, he, hr, hvr⟩
  refine ⟨cv, IO I' β' h', rfl, ⟨he.os, he.tape, he.output, he.size, fun b hb => he.keep b hb own_nil, fun b hb => .inl (he.sub b hb), fun b hb => ?_, fun b hb => ?_⟩, hf.rel hr hvr⟩
  · rcases hb with hb | hb
    · rcases he.immnew b hb with h1 | h1 | h1
      · exact .inl h1
      · exact absurd h1 own_nil
      · exact .inr h1
    · rcases he.own b hb with h1 | h1
      · exact absurd h1 own_nil
      · exact .inr h1
  · rcases hb with hb | ⟨id, o, h1, h2, rfl⟩
    · exact hr.imm b hb
    · exact (hr.obj id o h1 h2).1

theorem Rel.pext {I I' : Nat → Prop} {β : Nat → Nat} {h : Heap} {w w' : World} (r : Rel I β h w) {J : Nat → Prop} (hJ : ∀ b, J b → b < w.heap.size) (hp : PExt J w I' w') :
    (∀ b, I b → J b) → Ext I β h w (fun b => I b ∨ (I' b ∧ w.heap.size ≤ b)) β h w' ∧ Rel (fun b => I b ∨ (I' b ∧ w.heap.size ≤ b)) β h w' := by
  intro hIJ
  have hbs : ∀ b n, bsize w b = some n → bsize w' b = some n := fun b n hb => by
    have hlt : b < w.heap.size := by
      unfold bsize at hb
      split at hb
      · rename_i h1; exact (Array.getElem?_eq_some_iff.1 h1).1
      · simp at hb
    rw [bsize_of_heap (hp.keep b hlt)]
    exact hb
  have hm : ∀ u v, VRel I β h.length w u v → VRel (fun b => I b ∨ (I' b ∧ w.heap.size ≤ b)) β h.length w' u v := fun u v hv =>
    hv.mono (fun _ x => .inl x) (fun b hb => hp.keep b (r.imm b hb)) (Nat.le_refl _) (fun _ _ => rfl) hbs
  refine ⟨⟨hp.os, hp.tape, hp.output, hp.size, Nat.le_refl _, fun _ _ => rfl, fun _ x => .inl x, fun b hb => hb.imp id (fun h => .inr h.2), fun _ x => .inl x, fun b hb _ => hp.keep b hb, hbs⟩, ⟨fun b hb => ?_, fun id o h1 h2 => ?_, r.inj⟩⟩
  · rcases hb with hb | hb
    · have := r.imm b hb; have := hp.size; omega
    · exact hp.lt b hb.1
  · obtain ⟨q1, q2, q3⟩ := r.obj id o h1 h2
    refine ⟨by have := hp.size; omega, ?_, by rw [hp.keep _ q1]; exact q3.mono hm⟩
    rintro (h | h)
    · exact q2 h
    · omega

/-- A call of a function of values alone. -/
theorem acalls_pure {f : FuncId} {args : List AV} {r : AV} (hp : APure P f args r) (ha : pures args = true) {h : Heap} {Q : AV → Heap → Prop} (hq : Q r h) : ACalls P f args h Q := by
  refine ⟨hp.1, fun I β w vs rr hv => ?_⟩
  refine (hp.2 I w vs rr.imm ⟨hv.1, fun j u v hu hv' => (hv.2 j u v hu hv').toI (pures_get ha hu)⟩).mono ?_
  rintro e w' ⟨cv, I', rfl, he, hr⟩
  obtain ⟨h1, h2⟩ := rr.pext rr.imm he (fun _ x => x)
  refine ⟨cv, r, _, β, h, rfl, hq, h1, h2, .imm _ _ (hr.mono (fun b hb => ?_) (fun _ _ => rfl))⟩
  rcases he.new b hb with h3 | h3
  · exact .inl h3
  · exact .inr ⟨hb, h3⟩

mutual
/-- No memory in it. -/
def AV.flat : AV → Bool
  | .int .. => true
  | .bool _ => true
  | .str _ => true
  | .flt .. => true
  | .nilp => true
  | .nils => true
  | .nilf => true
  | .nili => true
  | .nilm => true
  | .tup cs => flats cs
  | .agg cs => flats cs
  | .ip .. => false
  | .isl .. => false
  | .op .. => false
  | .osl .. => false
  | .om _ => false
  | .fn .. => false
  | .ifc .. => false
  | .any => false
def flats : List AV → Bool
  | [] => true
  | v :: r => v.flat && flats r
end
theorem flats_get {l : List AV} (h : flats l = true) {j : Nat} {u : AV} (hj : l[j]? = some u) : u.flat = true := by
  induction l generalizing j with
  | nil => simp at hj
  | cons v r ih =>
    simp only [flats, Bool.and_eq_true] at h
    cases j with
    | zero => simp at hj; subst hj; exact h.1
    | succ j => simp at hj; exact ih h.2 hj
theorem IRel.flat {I I' : Nat → Prop} {w w' : World} {u : AV} {v : Value} (h : IRel I w u v) (hf : u.flat = true) : IRel I' w' u v := by
  induction h with
  | int k n => exact .int k n
  | bool b => exact .bool b
  | str s => exact .str s
  | flt k n => exact .flt k n
  | nilp => exact .nilp
  | nils => exact .nils
  | nilf => exact .nilf
  | nili => exact .nili
  | nilm => exact .nilm
  | agg cs cs' h1 h2 _ ih => exact .agg cs cs' h1 h2 (fun j u v hu hv => ih j u v hu hv (flats_get (by simpa [AV.flat] using hf) hu))
  | tup cs cs' h1 _ ih => exact .tup cs cs' h1 (fun j u v hu hv => ih j u v hu hv (flats_get (by simpa [AV.flat] using hf) hu))
  | _ => simp [AV.flat] at hf

def Frzs (h : Heap) (us us' : List AV) : Prop := us'.length = us.length ∧ ∀ (q : Nat) (u u' : AV), us[q]? = some u → us'[q]? = some u' → Frz h u u'
theorem Frzs.nil {h : Heap} : Frzs h [] [] := ⟨rfl, fun q u u' h => by simp at h⟩
theorem Frzs.cons {h : Heap} {u u' : AV} {us us' : List AV} (h1 : Frz h u u') (h2 : Frzs h us us') : Frzs h (u :: us) (u' :: us') := by
  refine ⟨by simp [h2.1], fun q x x' hx hx' => ?_⟩
  cases q with
  | zero => simp at hx hx'; subst hx hx'; exact h1
  | succ q => simp at hx hx'; exact h2.2 q x x' hx hx'

/-- What one owns is lent to a function of values alone that hands back no memory. -/
theorem acalls_lend {f : FuncId} {args args' : List AV} {r : AV} {h : Heap} (hp : APure P f args' r) (ha : Frzs h args args') (hr : r.flat = true) {Q : AV → Heap → Prop} (hq : Q r h) : ACalls P f args h Q := by
  refine ⟨hp.1, fun I β w vs rr hv => ?_⟩
  have hJ : ∀ b, IO I β h b → b < w.heap.size := by
    rintro b (hb | ⟨id, o, h1, h2, rfl⟩)
    · exact rr.imm b hb
    · exact (rr.obj id o h1 h2).1
  refine (hp.2 (IO I β h) w vs hJ ⟨by rw [ha.1]; exact hv.1, fun j u' v hu hv' => ?_⟩).mono ?_
  · obtain ⟨u, hu0⟩ := getElem?_lt ha.1 hu
    exact (ha.2 j u u' hu0 hu).rel rr (hv.2 j u v hu0 hv')
  · rintro e w' ⟨cv, I', rfl, he, hrr⟩
    obtain ⟨h1, h2⟩ := rr.pext hJ he (fun _ x => .inl x)
    exact ⟨cv, r, _, β, h, rfl, hq, h1, h2, .imm _ _ (hrr.flat hr)⟩
end
end Go.AL
end

section
/- The small logic's steps as rules for simp, and where simp is not to look. No condition. -/
namespace Go.AL
set_option linter.unusedVariables false
set_option linter.unusedSimpArgs false

/-- A mark: simp works at what is marked, and at nothing beside it. -/
def mk {α : Type} (x : α) : α := x
theorem mk_eq {α : Type} (x : α) : mk x = x := Eq.trans (Eq.refl x) (Eq.refl x)
def optK {α : Type} (o : Option α) (K : α → Prop) : Prop := match o with | some x => K x | none => False
theorem optK_some {α : Type} {x : α} {K : α → Prop} : optK (some x) K = K x := (rfl)
theorem optK_eq {α : Type} {o : Option α} {K : α → Prop} : (∃ x, o = some x ∧ K x) = optK o K := by
  cases o <;> simp [optK]
/-- A pair of conditions: the first ahead. -/
def condK (v : AV) (T E : Prop) : Prop := match v with | .bool b => (b = true → T) ∧ (b = false → E) | _ => False
theorem condK_bool {b : Bool} {T E : Prop} : condK (.bool b) T E = ((b = true → T) ∧ (b = false → E)) := (rfl)
theorem condK_true {T E : Prop} : condK (.bool true) T E = T := by simp [condK]
theorem condK_false {T E : Prop} : condK (.bool false) T E = E := by simp [condK]
theorem condK_dec {p : Prop} [Decidable p] {T E : Prop} : condK (.bool (decide p)) T E = ((p → T) ∧ (¬ p → E)) := by simp [condK]
theorem condK_not {b : Bool} {T E : Prop} : condK (.bool (!b)) T E = condK (.bool b) E T := by cases b <;> simp [condK]
theorem condK_beq {α : Type} [BEq α] [LawfulBEq α] {x y : α} {T E : Prop} : condK (.bool (x == y)) T E = ((x = y → T) ∧ (x ≠ y → E)) := by simp [condK]
theorem condK_bne {α : Type} [BEq α] [LawfulBEq α] {x y : α} {T E : Prop} : condK (.bool (x != y)) T E = ((x ≠ y → T) ∧ (x = y → E)) := by simp [condK]
theorem condK_getD {l : List Bool} {i : Nat} {d : Bool} {T E : Prop} : condK (.bool (l.getD i d)) T E = ((l.getD i d = true → T) ∧ (l.getD i d = false → E)) := (rfl)
theorem decide_gt {x y : Int} : decide (x > y) = decide (y < x) := (rfl)
theorem decide_ge {x y : Int} : decide (x ≥ y) = decide (y ≤ x) := (rfl)

section
variable {P : Program} {n : Nat} {pl : Nat → Plan} {Q : Exit → Fr → Heap → Prop} {a : Fr} {h : Heap}

/-! ### code -/
theorem asx_skip : asx P n pl .skip Q a h = Q .normal a h := (rfl)
theorem asx_text {id : Nat} {l : List Oper} : asx P n pl (.region id l.toArray false) Q a h = aops P n l l a h fun a h => Q .normal a h := (rfl)
theorem asx_draw {id : Nat} {l : List Oper} : asx P n pl (.region id l.toArray true) Q a h = adrD P n l (pl id) a h fun a h => Q .normal a h := (rfl)
theorem asx_seq {x y : Code} : asx P n pl (.seq x y) Q a h = asx P n pl x (thenK (asx P n pl y Q) Q) a h := (rfl)
theorem asx_cond {c : Operand} {x y : Code} : asx P n pl (.cond c x y) Q a h = evK a c fun v => condK v (asx P n pl x Q a h) (asx P n pl y Q a h) := (rfl)
theorem asx_block {id : Nat} {c : Code} : asx P n pl (.block id c) Q a h = asx P n pl c (blockK id Q) a h := (rfl)
theorem asx_loop {c : Code} : asx P n pl (.loop c) Q a h = LoopK (asx P n pl c) Q a h := (rfl)
theorem asx_exit {id : Nat} : asx P n pl (.exit id) Q a h = Q (.exit id) a h := (rfl)
theorem asx_ret : asx P n pl .ret Q a h = Q .ret a h := (rfl)
theorem asx_label {l : Nat} : asx P n pl (.label l) Q a h = Q .normal a h := (rfl)
theorem then_normal {K : Fr → Heap → Prop} : thenK K Q .normal a h = K a h := (rfl)
theorem then_ret {K : Fr → Heap → Prop} : thenK K Q .ret a h = Q .ret a h := (rfl)
theorem then_exit {K : Fr → Heap → Prop} {j : Nat} : thenK K Q (.exit j) a h = Q (.exit j) a h := (rfl)
theorem block_normal {id : Nat} : blockK id Q .normal a h = Q .normal a h := (rfl)
theorem block_ret {id : Nat} : blockK id Q .ret a h = Q .ret a h := (rfl)
theorem block_exit {id : Nat} : blockK id Q (.exit id) a h = Q .normal a h := by simp [blockK]
theorem block_exit' {id j : Nat} (e : (j == id) = false) : blockK id Q (.exit j) a h = Q (.exit j) a h := by
  have : j ≠ id := by simpa using e
  simp [blockK, this]

/-! ### operations in line -/
variable {all rest : List Oper} {K : Fr → Heap → Prop} {op : Op} {ty : TypeId} {pos : String} {af : Array Edge} {dst : Option Tmp}
theorem aops_nil : aops P n all [] a h K = K a h := (rfl)
theorem aops_one : aops P n all (⟨dst, op, ty, pos, af, none⟩ :: rest) a h K = aop P op a h fun v h' => putK n dst a v fun a' => aops P n all rest a' h' K := (rfl)
/-- A guard's two ways: the value that is asked; what was left out says no. -/
def gdK (v : AV) (want : Bool) (T E : Prop) : Prop := match v with | .bool b => (match want with | true => condK (.bool b) T E | false => condK (.bool b) E T) | .tup [] => E | _ => False
@[congr] theorem gdK_cg {v v' : AV} {want : Bool} {T E : Prop} (e : mk v = v') : gdK v want T E = gdK v' want T E := by rw [← e]; rfl
theorem gdK_true {b : Bool} {T E : Prop} : gdK (.bool b) true T E = condK (.bool b) T E := (rfl)
theorem gdK_false {b : Bool} {T E : Prop} : gdK (.bool b) false T E = condK (.bool b) E T := (rfl)
theorem gdK_undef {want : Bool} {T E : Prop} : gdK .undef want T E = E := (rfl)
def guK (o : Option Tmp) (want : Bool) (a : Fr) (T E : Prop) : Prop := match o with | some t => gdK (a t) want T E | none => False
theorem guK_some {t : Tmp} {want : Bool} {T E : Prop} : guK (some t) want a T E = gdK (a t) want T E := (rfl)
theorem guardK_eq {j : Nat} {want : Bool} {T : Bool → Prop} : guardK all (some (j, want)) a T = guK (gslot all j) want a (T true) (T false) := by
  unfold guardK guK gdK
  simp only
  cases gslot all j with
  | none => rfl
  | some t =>
    simp only [condK]
    cases a t with
    | bool b => cases b <;> cases want <;> simp
    | tup l => cases l <;> rfl
    | _ => cases want <;> rfl
theorem guK_zero {t : Tmp} {g : Option (Nat × Bool)} {want : Bool} {T E : Prop} : guK (gslot (⟨some t, op, ty, pos, af, g⟩ :: rest) 0) want a T E = guK (some t) want a T E := (rfl)
theorem guK_succ {o : Oper} {j : Nat} {want : Bool} {T E : Prop} : guK (gslot (o :: rest) (j + 1)) want a T E = guK (gslot rest j) want a T E := (rfl)
theorem aops_if {j : Nat} {want : Bool} : aops P n all (⟨dst, op, ty, pos, af, some (j, want)⟩ :: rest) a h K = guK (gslot all j) want a (aop P op a h fun v h' => putK n dst a v fun a' => aops P n all rest a' h' K) (putK n dst a .undef fun a' => aops P n all rest a' h K) :=
  guardK_eq (T := fun run => match run with | true => aop P op a h fun v h' => putK n dst a v fun a' => aops P n all rest a' h' K | false => putK n dst a .undef fun a' => aops P n all rest a' h K)
theorem putK_none {v : AV} {K : Fr → Prop} : putK n none a v K = K a := (rfl)
theorem putK_some {d : Nat} {v : AV} {K : Fr → Prop} (e : d < n) : putK n (some d) a v K = K (upd a d v) := by
  simp [putK, e]
@[congr] theorem putK_cg {v v' : AV} {K : Fr → Prop} (e : mk v = v') : putK n dst a v K = putK n dst a v' K := by rw [← e]; rfl
@[congr] theorem condK_cg {v v' : AV} {T E : Prop} (e : mk v = v') : condK v T E = condK v' T E := by rw [← e]; rfl
@[congr] theorem optK_cg {α : Type} {o o' : Option α} {K : α → Prop} (e : mk o = o') : optK o K = optK o' K := by rw [← e]; rfl

/-! ### drawn regions -/
def exK (T : AV → Prop) (K : AV → Prop) : Prop := ∃ v, T v ∧ K v
@[congr] theorem exK_cg {T T' : AV → Prop} {K : AV → Prop} (e : mk T = T') : exK T K = exK T' K := by rw [← e]; rfl
theorem exK_and {A : Prop} {T K : AV → Prop} : exK (fun v => A ∧ T v) K = (A ∧ exK T K) := by simp [exK, and_assoc]
theorem exK_ex {α : Type} {T : α → AV → Prop} {K : AV → Prop} : exK (fun v => ∃ c, T c v) K = ∃ c, exK (T c) K := by
  apply propext
  constructor
  · rintro ⟨v, ⟨c, h⟩, k⟩; exact ⟨c, v, h, k⟩
  · rintro ⟨c, v, h, k⟩; exact ⟨v, ⟨c, h⟩, k⟩
theorem exK_eq {u : AV} {K : AV → Prop} : exK (fun v => u = v) K = K u := by simp [exK]
def atK (l : List Oper) (i : Nat) (K : Oper → Prop) : Prop := match l[i]? with | some o => K o | none => False
theorem atK_zero {o : Oper} {K : Oper → Prop} : atK (o :: rest) 0 K = K o := (rfl)
theorem atK_succ {o : Oper} {i : Nat} {K : Oper → Prop} : atK (o :: rest) (i + 1) K = atK rest i K := (rfl)
def quK (q : Bool) (T E : Prop) : Prop := match q with | true => T | false => E
theorem quK_true {T E : Prop} : quK true T E = T := (rfl)
theorem quK_false {T E : Prop} : quK false T E = E := (rfl)
@[congr] theorem quK_cg {q q' : Bool} {T E : Prop} (e : mk q = q') : quK q T E = quK q' T E := by rw [← e]; rfl
def keepL (keep : Bool) (x : Nat × Fr × AV) (l : List (Nat × Fr × AV)) : List (Nat × Fr × AV) := match keep with | true => x :: l | false => l
def adrK (P : Program) (n : Nat) (all : List Oper) (i : Nat) (keep : Bool) (rs : List Nat) (rest : Plan) (a : Fr) (h : Heap) (done : List (Nat × Fr × AV)) (K : Fr → Heap → Prop) (dst : Option Tmp) (op : Op) : Prop :=
  quK (pureOp op) (exK (fun v => aop P op a h fun v' h' => v' = v ∧ h' = h) fun v => putK n dst a v fun a' => adr P n all rest a' h (keepL keep (i, a, v) done) K)
    (aop P op a h fun v h' => reK P all done h' rs ∧ putK n dst a v fun a' => adr P n all rest a' h' done K)
def adrG (P : Program) (n : Nat) (all : List Oper) (i : Nat) (keep : Bool) (rs : List Nat) (rest : Plan) (a : Fr) (h : Heap) (done : List (Nat × Fr × AV)) (K : Fr → Heap → Prop) (o : Oper) : Prop :=
  match o with
  | ⟨dst, op, _, _, _, none⟩ => adrK P n all i keep rs rest a h done K dst op
  | ⟨dst, op, _, _, _, some (j, want)⟩ => guK (gslot all j) want a (adrK P n all i keep rs rest a h done K dst op) (putK n dst a .undef fun a' => adr P n all rest a' h done K)
@[congr] theorem adr_cg {pl pl' : Plan} {done : List (Nat × Fr × AV)} (e : mk pl = pl') : adr P n all pl a h done K = adr P n all pl' a h done K := by rw [← e]; rfl
theorem adrD_nil : adrD P n all [] a h K = K a h := (rfl)
theorem adrD_none {i : Nat} {keep : Bool} {rest : Plan} : adrD P n all ((i, keep, []) :: rest) a h K = adr P n all ((i, keep, []) :: rest) a h [] K := (rfl)
theorem adrD_one {i x : Nat} {keep : Bool} {rest : Plan} : adrD P n all ((i, keep, [x]) :: rest) a h K = adr P n all ((i, keep, [x]) :: rest) a h [] K := (rfl)
theorem adrD_more {i x y z : Nat} {l : List Nat} {keep : Bool} {rest : Plan} : adrD P n all ((i, keep, x :: y :: z :: l) :: rest) a h K = adr P n all ((i, keep, x :: y :: z :: l) :: rest) a h [] K := (rfl)
theorem adrD_two {p q : Nat} {keep : Bool} {rest : Plan} : adrD P n all ((1000000, keep, [p, q]) :: rest) a h K = adrX P n all (rest.take p) a h [] fun a' d => adr P n all ((rest.drop p).take q) a' h d K ∧ adr P n all (rest.drop (p + q)) a' h d K := (rfl)
@[congr] theorem adrX_cg {pl pl' : Plan} {done : List (Nat × Fr × AV)} {K : Fr → List (Nat × Fr × AV) → Prop} (e : mk pl = pl') : adrX P n all pl a h done K = adrX P n all pl' a h done K := by rw [← e]; rfl
theorem adrX_nil {done : List (Nat × Fr × AV)} {K : Fr → List (Nat × Fr × AV) → Prop} : adrX P n all [] a h done K = K a done := (rfl)
def adrXG (P : Program) (n : Nat) (all : List Oper) (i : Nat) (keep : Bool) (rest : Plan) (a : Fr) (h : Heap) (done : List (Nat × Fr × AV)) (K : Fr → List (Nat × Fr × AV) → Prop) (o : Oper) : Prop :=
  match o with
  | ⟨dst, op, _, _, _, none⟩ => exK (fun v => aop P op a h fun v' h' => v' = v ∧ h' = h) fun v => putK n dst a v fun a' => adrX P n all rest a' h (keep0 keep (i, a, v) done) K
  | ⟨dst, op, _, _, _, some (j, want)⟩ => guK (gslot all j) want a (exK (fun v => aop P op a h fun v' h' => v' = v ∧ h' = h) fun v => putK n dst a v fun a' => adrX P n all rest a' h (keep0 keep (i, a, v) done) K) (putK n dst a .undef fun a' => adrX P n all rest a' h done K)
theorem adrX_cons {done : List (Nat × Fr × AV)} {i : Nat} {keep : Bool} {rs : List Nat} {rest : Plan} {K : Fr → List (Nat × Fr × AV) → Prop} : adrX P n all ((i, keep, rs) :: rest) a h done K = atK all i (adrXG P n all i keep rest a h done K) := by
  unfold atK adrX
  cases all[i]? with
  | none => rfl
  | some o =>
    obtain ⟨dst, op, ty, pos, af, g⟩ := o
    cases g with
    | none =>
      simp only [adrXG, guardK, exK]
    | some g =>
      obtain ⟨j, want⟩ := g
      simp only [adrXG]
      rw [guardK_eq]
      simp only [exK]
theorem adrXG_one {done : List (Nat × Fr × AV)} {i : Nat} {keep : Bool} {rest : Plan} {K : Fr → List (Nat × Fr × AV) → Prop} : adrXG P n all i keep rest a h done K ⟨dst, op, ty, pos, af, none⟩ = exK (fun v => aop P op a h fun v' h' => v' = v ∧ h' = h) fun v => putK n dst a v fun a' => adrX P n all rest a' h (keep0 keep (i, a, v) done) K := (rfl)
theorem adrXG_if {done : List (Nat × Fr × AV)} {i j : Nat} {keep want : Bool} {rest : Plan} {K : Fr → List (Nat × Fr × AV) → Prop} : adrXG P n all i keep rest a h done K ⟨dst, op, ty, pos, af, some (j, want)⟩ = guK (gslot all j) want a (exK (fun v => aop P op a h fun v' h' => v' = v ∧ h' = h) fun v => putK n dst a v fun a' => adrX P n all rest a' h (keep0 keep (i, a, v) done) K) (putK n dst a .undef fun a' => adrX P n all rest a' h done K) := (rfl)
theorem keep0_true {x : Nat × Fr × AV} {l : List (Nat × Fr × AV)} : keep0 true x l = x :: l := (rfl)
theorem keep0_false {x : Nat × Fr × AV} {l : List (Nat × Fr × AV)} : keep0 false x l = l := (rfl)
theorem adr_nil {done : List (Nat × Fr × AV)} : adr P n all [] a h done K = K a h := (rfl)
theorem adr_cons {done : List (Nat × Fr × AV)} {i : Nat} {keep : Bool} {rs : List Nat} {rest : Plan} : adr P n all ((i, keep, rs) :: rest) a h done K = atK all i (adrG P n all i keep rs rest a h done K) := by
  unfold atK adr
  cases all[i]? with
  | none => rfl
  | some o =>
    obtain ⟨dst, op, ty, pos, af, g⟩ := o
    cases g with
    | none =>
      simp only [adrG, adrK, guardK, quK, exK]
      cases pureOp op <;> cases keep <;> rfl
    | some g =>
      obtain ⟨j, want⟩ := g
      simp only [adrG, adrK]
      rw [guardK_eq]
      simp only [quK, exK]
      cases pureOp op <;> cases keep <;> rfl
theorem adrG_one {done : List (Nat × Fr × AV)} {i : Nat} {keep : Bool} {rs : List Nat} {rest : Plan} : adrG P n all i keep rs rest a h done K ⟨dst, op, ty, pos, af, none⟩ = adrK P n all i keep rs rest a h done K dst op := (rfl)
theorem adrG_if {done : List (Nat × Fr × AV)} {i j : Nat} {keep want : Bool} {rs : List Nat} {rest : Plan} : adrG P n all i keep rs rest a h done K ⟨dst, op, ty, pos, af, some (j, want)⟩ = guK (gslot all j) want a (adrK P n all i keep rs rest a h done K dst op) (putK n dst a .undef fun a' => adr P n all rest a' h done K) := (rfl)
theorem adrK_eq {done : List (Nat × Fr × AV)} {i : Nat} {keep : Bool} {rs : List Nat} {rest : Plan} : adrK P n all i keep rs rest a h done K dst op = quK (pureOp op) (exK (fun v => aop P op a h fun v' h' => v' = v ∧ h' = h) fun v => putK n dst a v fun a' => adr P n all rest a' h (keepL keep (i, a, v) done) K)
    (aop P op a h fun v h' => reK P all done h' rs ∧ putK n dst a v fun a' => adr P n all rest a' h' done K) := rfl
theorem keepL_true {x : Nat × Fr × AV} {l : List (Nat × Fr × AV)} : keepL true x l = x :: l := (rfl)
theorem keepL_false {x : Nat × Fr × AV} {l : List (Nat × Fr × AV)} : keepL false x l = l := (rfl)
def doneK (done : List (Nat × Fr × AV)) (j : Nat) (K : Fr → AV → Prop) : Prop := match done.find? (fun x => x.1 == j) with | some (_, a, v) => K a v | none => True
theorem doneK_hit {done : List (Nat × Fr × AV)} {j : Nat} {v : AV} {K : Fr → AV → Prop} : doneK ((j, a, v) :: done) j K = K a v := by simp [doneK]
theorem doneK_miss {done : List (Nat × Fr × AV)} {i j : Nat} {v : AV} {K : Fr → AV → Prop} (e : (i == j) = false) : doneK ((i, a, v) :: done) j K = doneK done j K := by simp [doneK, List.find?_cons, e]
def atT (l : List Oper) (i : Nat) (K : Oper → Prop) : Prop := match l[i]? with | some o => K o | none => True
theorem atT_zero {o : Oper} {K : Oper → Prop} : atT (o :: rest) 0 K = K o := (rfl)
theorem atT_succ {o : Oper} {i : Nat} {K : Oper → Prop} : atT (o :: rest) (i + 1) K = atT rest i K := (rfl)
theorem reK_cons {done : List (Nat × Fr × AV)} {j : Nat} {r : List Nat} : reK P all done h (j :: r) = (doneK done j (fun a v => atT all j fun o => aop P o.op a h fun v' h' => v' = v ∧ h' = h) ∧ reK P all done h r) := by
  show ((match done.find? (fun x => x.1 == j), all[j]? with | some (_, a, v), some o => aop P o.op a h fun v' h' => v' = v ∧ h' = h | _, _ => True) ∧ reK P all done h r) = _
  unfold doneK atT
  cases done.find? (fun x => x.1 == j) with
  | none => rfl
  | some x => cases all[j]? <;> rfl
theorem reK_nil {done : List (Nat × Fr × AV)} : reK P all done h [] = True := (rfl)
end
end Go.AL
end

section
/- The small logic's rules for simp: what each operation does with values. No condition. -/
namespace Go.AL
set_option linter.unusedVariables false
set_option linter.unusedSimpArgs false
section
variable {P : Program} {n : Nat} {a : Fr} {h : Heap}

/-! ### operands -/
section
variable {K : AV → Prop}
theorem evK_tmp {t : Tmp} : evK a (.tmp t) K = K (a t) := (rfl)
theorem evK_int {k : IntKind} {m : Int} : evK a (.const (.int k m)) K = K (.int k m) := (rfl)
theorem evK_bool {b : Bool} : evK a (.const (.bool b)) K = K (.bool b) := (rfl)
theorem evK_str {s : ByteArray} : evK a (.const (.string s)) K = K (.str s) := (rfl)
theorem evK_flt {k : FloatKind} {m : Nat} : evK a (.const (.float k m)) K = K (.flt k m) := (rfl)
theorem evK_nilp : evK a (.const (.pointer none)) K = K .nilp := (rfl)
theorem evK_nils : evK a (.const (.slice none 0 0)) K = K .nils := (rfl)
theorem evK_nilf : evK a (.const .nilFunc) K = K .nilf := (rfl)
theorem evK_nili : evK a (.const .nilIface) K = K .nili := (rfl)
theorem evK_nilm : evK a (.const (.map none)) K = K .nilm := (rfl)
theorem evK_undef : evK a (.const (.tuple #[])) K = K .undef := (rfl)
theorem evK_func {f : FuncId} : evK a (.func f) K = K (.fn (.func f) [] []) := (rfl)
theorem evsK_nil {K : List AV → Prop} : evsK a [] K = K [] := (rfl)
theorem evsK_cons {x : Operand} {r : List Operand} {K : List AV → Prop} : evsK a (x :: r) K = evK a x fun u => evsK a r fun us => K (u :: us) := (rfl)
theorem evpK_nil {K : List (Nat × AV) → Prop} : evpK a [] K = K [] := (rfl)
theorem evpK_cons {i : Nat} {x : Operand} {r : List (Nat × Operand)} {K : List (Nat × AV) → Prop} : evpK a ((i, x) :: r) K = evK a x fun u => evpK a r fun us => K ((i, u) :: us) := (rfl)
theorem evoK_none {K : Option AV → Prop} : evoK a none K = K none := (rfl)
theorem evoK_some {x : Operand} {K : Option AV → Prop} : evoK a (some x) K = evK a x fun u => K (some u) := (rfl)
end

/-! ### which operation -/
section
variable {K : AV → Heap → Prop}
/-- The heap, worked at first. -/
def letH (h : Heap) (K : Heap → Prop) : Prop := K h
@[congr] theorem letH_cg {h h' : Heap} {K : Heap → Prop} (e : mk h = h') : letH h K = letH h' K := by rw [← e]; rfl
theorem letH_eq {K : Heap → Prop} : letH h K = K h := (rfl)
theorem aop_move {x : Operand} : aop P (.move x) a h K = evK a x fun u => K u h := (rfl)
theorem aop_assign {x : Operand} : aop P (.assign x) a h K = evK a x fun u => K u h := (rfl)
theorem aop_pick {c x y : Operand} : aop P (.pick c x y) a h K = evK a c fun c => evK a x fun x => evK a y fun y => pickK c x y fun u => K u h := (rfl)
theorem aop_alloc {t : TypeId} : aop P (.alloc t) a h K = optK (zcells P t) fun cs => letH (h ++ [.arr cs.length [cs] true]) (K (.op h.length cs.length 0 0)) := by
  simp only [aop, optK_eq, letH]
theorem aop_box {t : TypeId} {x : Operand} : aop P (.box t x) a h K = evK a x fun u => cellsK u fun cs => letH (h ++ [.arr cs.length [cs] true]) (K (.op h.length cs.length 0 0)) := (rfl)
theorem aop_build {t : TypeId} {parts : List (Nat × Operand)} : aop P (.build t parts.toArray) a h K = evpK a parts fun us => optK (zcells P t) fun z => optK (fplaces P t) fun pl => fillK (fun i => pl[i]?) us z fun cs => K (.agg cs) h := by
  simp only [aop, optK_eq]
  congr 1
  funext us
  cases zcells P t <;> cases fplaces P t <;> simp [optK]
def repl {α : Type} : Nat → α → List α | 0, _ => [] | n + 1, x => x :: repl n x
theorem repl_zero {α : Type} {x : α} : repl 0 x = [] := (rfl)
theorem repl_succ {α : Type} {m : Nat} {x : α} : repl (m + 1) x = x :: repl m x := (rfl)
theorem repl_eq {α : Type} {x : α} : ∀ {m : Nat}, List.replicate m x = repl m x
  | 0 => rfl
  | m + 1 => by rw [List.replicate_succ, repl_succ, repl_eq]
theorem aop_buildSlice {t : TypeId} {len : Nat} {parts : List (Nat × Operand)} : aop P (.buildSlice t len parts.toArray) a h K = evpK a parts fun us => optK (telem P t) fun e => optK (zcells P e) fun z => len * z.length ≤ 16777216 ∧
      fillRK z.length us (repl len z) fun es => letH (h ++ [.arr z.length es true]) (K (.osl h.length z.length 0 len len true)) := by
  simp only [aop, letH, repl_eq]
  congr 1
  funext us
  cases he : telem P t with
  | none => simp [optK]
  | some e => cases hz : zcells P e <;> simp [optK, hz]
theorem aop_load {t : TypeId} {x : Operand} : aop P (.load t x) a h K = evK a x fun p => loadK P t h p fun u => K u h := (rfl)
theorem aop_store {t : TypeId} {p x : Operand} : aop P (.store t p x) a h K = evK a p fun p => evK a x fun u => storeK P t h p u fun h' => K .undef h' := (rfl)
theorem aop_nilCheck {x : Operand} : aop P (.nilCheck x) a h K = evK a x fun u => nilCheckK u fun u => K u h := (rfl)
theorem aop_bin {op : BinOp} {t t' : TypeId} {x y : Operand} : aop P (.binOp op t x y t') a h K = evK a x fun u => evK a y fun v => binAll P op t u v fun u => K u h := (rfl)
theorem aop_un {op : UnOp} {t : TypeId} {x : Operand} : aop P (.unOp op t x) a h K = evK a x fun u => unK op u fun u => K u h := (rfl)
theorem aop_convert {s d : TypeId} {x : Operand} : aop P (.convert s d x) a h K = evK a x fun u => convK P s d u fun u => K u h := (rfl)
theorem aop_makeFunc {f : Fn} {fs cs : List Operand} : aop P (.makeFunc f fs.toArray cs.toArray) a h K = evsK a fs fun fs => evsK a cs fun cs => K (.fn f fs cs) h := (rfl)
theorem aop_makeInterface {t : TypeId} {x : Operand} : aop P (.makeInterface t x) a h K = (tnotIface P t = true ∧ evK a x fun u => K (.ifc t u) h) := (rfl)
theorem aop_makeSlice {t : TypeId} {l c : Operand} : aop P (.makeSlice t l c) a h K = evK a l fun l => evK a c fun c => makeSliceK P t h l c K := (rfl)
theorem aop_slice {t : TypeId} {x : Operand} {lo hi : Option Operand} : aop P (.slice t x lo hi none) a h K = evK a x fun x => evoK a lo fun lo => evoK a hi fun hi => sliceAll P t x lo hi fun u => K u h := (rfl)
theorem aop_fieldAddr {s f : Nat} {x : Operand} : aop P (.fieldAddr s x f) a h K = evK a x fun p => fieldAddrK P s f p fun u => K u h := (rfl)
theorem aop_field {t f : Nat} {x : Operand} : aop P (.field t x f) a h K = evK a x fun u => fieldK P t f u fun u => K u h := (rfl)
theorem aop_indexAddr {t : TypeId} {x i : Operand} : aop P (.indexAddr t x i) a h K = evK a x fun x => evK a i fun i => indexAddrK P t x i fun u => K u h := (rfl)
theorem aop_index {t : TypeId} {x i : Operand} : aop P (.index t x i) a h K = evK a x fun u => evK a i fun i => indexK P t u i fun u => K u h := (rfl)
theorem aop_extract {x : Operand} {i : Nat} : aop P (.extract x i) a h K = evK a x fun u => extK u i fun u => K u h := (rfl)
theorem aop_call {f : Operand} {xs : List Operand} {ts : Array TypeId} : aop P (.call ⟨.value f, xs.toArray, ts⟩) a h K = evK a f fun f => evsK a xs fun us => callK P f us h K := (rfl)
theorem aop_len {x : Operand} {t : TypeId} : aop P (.call ⟨.builtin .len, #[x], #[t]⟩) a h K = evK a x fun u => lenK P t u fun u => K u h := (rfl)
theorem aop_cap {x : Operand} {t : TypeId} : aop P (.call ⟨.builtin .cap, #[x], #[t]⟩) a h K = evK a x fun u => capK P t u fun u => K u h := (rfl)
theorem aop_min {xs : List Operand} {ts : Array TypeId} : aop P (.call ⟨.builtin .min, xs.toArray, ts⟩) a h K = evsK a xs fun us => minK imin us fun u => K u h := (rfl)
theorem aop_max {xs : List Operand} {ts : Array TypeId} : aop P (.call ⟨.builtin .max, xs.toArray, ts⟩) a h K = evsK a xs fun us => minK imax us fun u => K u h := (rfl)
theorem aop_clear {x : Operand} {t : TypeId} : aop P (.call ⟨.builtin .clear, #[x], #[t]⟩) a h K = evK a x fun u => clearK P t h u fun h' => K .undef h' := (rfl)
theorem aop_append {s x : Operand} {t t' : TypeId} : aop P (.call ⟨.builtin .append, #[s, x], #[t, t']⟩) a h K = evK a s fun s => evK a x fun x => appendK P t t' h s x K := (rfl)
end

/-! ### values -/
section
variable {K : AV → Prop}
theorem fitK_i64 {z : Int} : fitK .i64 z K = ((-9223372036854775808 ≤ z ∧ z ≤ 9223372036854775807) ∧ K (.int .i64 z)) := (rfl)
theorem fitK_u64 {z : Int} : fitK .u64 z K = K (.int .u64 (IntKind.u64.wrap z)) := (rfl)
theorem fitK_u32 {z : Int} : fitK .u32 z K = K (.int .u32 (IntKind.u32.wrap z)) := (rfl)
theorem fitK_u8 {z : Int} : fitK .u8 z K = K (.int .u8 (IntKind.u8.wrap z)) := (rfl)
theorem fitK_i32 {z : Int} : fitK .i32 z K = K (.int .i32 (IntKind.i32.wrap z)) := (rfl)
def ldX (g : Option Bool) (s : Option Nat) (cells : List AV) (off : Nat) (K : AV → Prop) : Prop :=
  match g with
  | some true => optK s fun n => off + n ≤ cells.length ∧ K (.agg ((cells.drop off).take n))
  | some false => optK cells[off]? K
  | none => False
@[congr] theorem ldX_cg {g g' : Option Bool} {s s' : Option Nat} {cells cells' : List AV} {off off' : Nat} (e1 : mk g = g') (e2 : mk s = s') (e3 : mk cells = cells') (e4 : mk off = off') : ldX g s cells off K = ldX g' s' cells' off' K := by rw [← e1, ← e2, ← e3, ← e4]; rfl
theorem ldX_cell {s : Option Nat} {cells : List AV} {off : Nat} : ldX (some false) s cells off K = optK cells[off]? K := (rfl)
theorem ldX_agg {m : Nat} {cells : List AV} {off : Nat} : ldX (some true) (some m) cells off K = (off + m ≤ cells.length ∧ K (.agg ((cells.drop off).take m))) := (rfl)
theorem ldK_eq {t : TypeId} {cells : List AV} {off : Nat} : ldK P t cells off K = ldX (tagg P t) (tsize P t) cells off K := by
  unfold ldK ldX
  cases tagg P t with
  | none => rfl
  | some b => cases b <;> simp only [optK_eq]
theorem partK_eq {t : TypeId} {cells : List AV} {off : Nat} : partK P t cells off K = ldX (tagg P t) (tsize P t) cells off K := by
  unfold partK ldX
  cases tagg P t with
  | none => rfl
  | some b => cases b <;> simp only [optK_eq]
/-- An object's elements. -/
def objK (k : Nat) (o : Option Ob) (K : List (List AV) → Prop) : Prop := match o with | some (.arr k' es _) => k' = k ∧ K es | _ => False
@[congr] theorem objK_cg {k : Nat} {o o' : Option Ob} {K : List (List AV) → Prop} (e : mk o = o') : objK k o K = objK k o' K := by rw [← e]; rfl
theorem objK_some {k : Nat} {es : List (List AV)} {ex : Bool} {K : List (List AV) → Prop} : objK k (some (.arr k es ex)) K = K es := by simp [objK]
@[congr] theorem loadK_cg {t : TypeId} {h h' : Heap} {p p' : AV} (e1 : mk h = h') (e2 : mk p = p') : loadK P t h p K = loadK P t h' p' K := by rw [← e1, ← e2]; rfl
theorem loadK_ip {t : TypeId} {cells : List AV} {off : Nat} : loadK P t h (.ip cells off) K = ldX (tagg P t) (tsize P t) cells off K := ldK_eq
theorem objK_ex {k : Nat} {o : Option Ob} {K : List (List AV) → Prop} : (∃ es ex, o = some (.arr k es ex) ∧ K es) = objK k o K := by
  apply propext
  constructor
  · rintro ⟨es, ex, rfl, hk⟩; exact ⟨rfl, hk⟩
  · intro hk
    cases o with
    | none => exact hk.elim
    | some o =>
      cases o with
      | arr k' es ex => obtain ⟨rfl, hk⟩ := hk; exact ⟨es, ex, rfl, hk⟩
      | _ => exact hk.elim
theorem loadK_op {t : TypeId} {id k e off : Nat} : loadK P t h (.op id k e off) K = objK k h[id]? fun es => optK es[e]? fun c => ldX (tagg P t) (tsize P t) c off K := by
  unfold loadK
  simp only [optK_eq, ldK_eq]
  exact objK_ex
def faK (o : Nat) (p : AV) (K : AV → Prop) : Prop := match p with | .ip cells off => K (.ip cells (off + o)) | .op id k e off => K (.op id k e (off + o)) | _ => False
@[congr] theorem faK_cg {o : Nat} {p p' : AV} (e : mk p = p') : faK o p K = faK o p' K := by rw [← e]; rfl
theorem faK_ip {o off : Nat} {cells : List AV} : faK o (.ip cells off) K = K (.ip cells (off + o)) := (rfl)
theorem faK_op {o off id k e : Nat} : faK o (.op id k e off) K = K (.op id k e (off + o)) := (rfl)
theorem fieldAddrK_eq {s f : Nat} {p : AV} : fieldAddrK P s f p K = optK (foff P s f) fun x => faK x.1 p K := by
  unfold fieldAddrK
  rw [← optK_eq]
  apply propext
  constructor
  · rintro ⟨o, ft, h1, h2⟩; exact ⟨(o, ft), h1, by cases p <;> exact h2⟩
  · rintro ⟨⟨o, ft⟩, h1, h2⟩; exact ⟨o, ft, h1, by cases p <;> exact h2⟩
def fdK (P : Program) (o : Nat) (t : TypeId) (p : AV) (K : AV → Prop) : Prop := match p with | .agg cs => ldX (tagg P t) (tsize P t) cs o K | _ => False
@[congr] theorem fdK_cg {o t : Nat} {p p' : AV} (e : mk p = p') : fdK P o t p K = fdK P o t p' K := by rw [← e]; rfl
theorem fdK_agg {o t : Nat} {cs : List AV} : fdK P o t (.agg cs) K = ldX (tagg P t) (tsize P t) cs o K := (rfl)
theorem fieldK_eq {t f : Nat} {p : AV} : fieldK P t f p K = optK (foff P t f) fun x => fdK P x.1 x.2 p K := by
  unfold fieldK
  rw [← optK_eq]
  apply propext
  constructor
  · rintro ⟨o, ft, h1, h2⟩; exact ⟨(o, ft), h1, by cases p <;> first | exact h2.elim | (simp only [fdK]; rw [← partK_eq]; exact h2)⟩
  · rintro ⟨⟨o, ft⟩, h1, h2⟩; exact ⟨o, ft, h1, by cases p <;> first | exact h2.elim | (simp only [fdK] at h2; rw [← partK_eq] at h2; exact h2)⟩
theorem optK_map {α β : Type} [Inhabited α] {f : α → β} {xs : List α} {i : Nat} {K : β → Prop} : optK (List.map f xs)[i]? K = (i < xs.length ∧ K (f (xs.getD i default))) := by
  rw [List.getElem?_map]
  by_cases hi : i < xs.length
  · simp [optK, hi, List.getD_eq_getElem?_getD, List.getElem?_eq_getElem hi]
  · simp [optK, hi, List.getElem?_eq_none (Nat.le_of_not_lt hi)]
/-- What a slice's elements take. -/
def elK (P : Program) (t : TypeId) (k : Nat) : Prop := optK (telem P t) fun e => optK (tsize P e) fun s => s = k
theorem elK_eq {t : TypeId} {k : Nat} : elK P t k = optK (telem P t) fun e => optK (tsize P e) fun s => s = k := (rfl)
theorem elK_ex {t : TypeId} {k : Nat} : (∃ e, telem P t = some e ∧ tsize P e = some k) = elK P t k := by
  unfold elK
  rw [optK_eq]
  congr 1
  funext e
  cases tsize P e <;> simp [optK]
@[congr] theorem indexAddrK_cg {t : TypeId} {x x' i i' : AV} (e1 : mk x = x') (e2 : mk i = i') : indexAddrK P t x i K = indexAddrK P t x' i' K := by rw [← e1, ← e2]; rfl
theorem indexAddrK_isl {t : TypeId} {k : Nat} {es : List (List AV)} {kk : IntKind} {m : Int} : indexAddrK P t (.isl k es) (.int kk m) K = (0 ≤ m ∧ elK P t k ∧ optK es[m.toNat]? fun c => K (.ip c 0)) := by
  simp only [indexAddrK, elK_ex, ← optK_eq]
  apply propext
  constructor
  · rintro ⟨h1, h2, h3, h4⟩; exact ⟨h1, h3, h4⟩
  · rintro ⟨h1, h2, h3⟩
    refine ⟨h1, ?_, h2, h3⟩
    obtain ⟨c, hc, _⟩ := h3
    have := (List.getElem?_eq_some_iff.1 hc).1
    omega
theorem indexAddrK_osl {t : TypeId} {id k i0 len cap : Nat} {ex : Bool} {kk : IntKind} {m : Int} : indexAddrK P t (.osl id k i0 len cap ex) (.int kk m) K = ((0 ≤ m ∧ m < len) ∧ elK P t k ∧ K (.op id k (i0 + m.toNat) 0)) := by
  simp only [indexAddrK, elK_ex, and_assoc]
def arK (P : Program) (t : TypeId) (m : Int) (K : Nat → Prop) : Prop := optK (tarr P t) fun x => optK (tsize P x.2) fun s => (0 ≤ m ∧ m < x.1) ∧ K (m.toNat * s)
theorem arK_eq {t : TypeId} {m : Int} {K : Nat → Prop} : arK P t m K = optK (tarr P t) fun x => optK (tsize P x.2) fun s => (0 ≤ m ∧ m < x.1) ∧ K (m.toNat * s) := (rfl)
theorem arK_ex {t : TypeId} {z : Int} {K : Nat → Prop} : (∃ m e s, tarr P t = some (m, e) ∧ tsize P e = some s ∧ 0 ≤ z ∧ z < (m : Nat) ∧ K (z.toNat * s)) = arK P t z K := by
  unfold arK
  cases tarr P t with
  | none => simp [optK]
  | some x =>
    obtain ⟨m, e⟩ := x
    simp only [optK, Option.some.injEq, Prod.mk.injEq]
    cases hs : tsize P e with
    | none => apply propext; constructor
              · rintro ⟨_, _, _, ⟨rfl, rfl⟩, h2, _⟩; rw [hs] at h2; cases h2
              · intro h; exact h.elim
    | some s =>
      apply propext
      constructor
      · rintro ⟨_, _, _, ⟨rfl, rfl⟩, h2, h3, h4, h5⟩; rw [hs] at h2; cases h2; exact ⟨⟨h3, h4⟩, h5⟩
      · rintro ⟨⟨h3, h4⟩, h5⟩; exact ⟨_, _, s, ⟨rfl, rfl⟩, hs, h3, h4, h5⟩
theorem indexAddrK_ip {t : TypeId} {cells : List AV} {off : Nat} {kk : IntKind} {m : Int} : indexAddrK P t (.ip cells off) (.int kk m) K = arK P t m fun d => K (.ip cells (off + d)) := by
  rw [← arK_ex]; rfl
theorem indexAddrK_op {t : TypeId} {id k e off : Nat} {kk : IntKind} {m : Int} : indexAddrK P t (.op id k e off) (.int kk m) K = arK P t m fun d => K (.op id k e (off + d)) := by
  rw [← arK_ex]; rfl
@[congr] theorem indexK_cg {t : TypeId} {x x' i i' : AV} (e1 : mk x = x') (e2 : mk i = i') : indexK P t x i K = indexK P t x' i' K := by rw [← e1, ← e2]; rfl
theorem indexK_agg {t : TypeId} {cs : List AV} {kk : IntKind} {m : Int} : indexK P t (.agg cs) (.int kk m) K = optK (tarr P t) fun x => optK (tsize P x.2) fun s => (0 ≤ m ∧ m < x.1) ∧ ldX (tagg P x.2) (tsize P x.2) cs (m.toNat * s) K := by
  simp only [indexK, partK_eq, ← optK_eq]
  apply propext
  constructor
  · rintro ⟨m', e, s, h1, h2, h3, h4, h5⟩; exact ⟨(m', e), h1, s, h2, ⟨h3, h4⟩, h5⟩
  · rintro ⟨⟨m', e⟩, h1, s, h2, ⟨h3, h4⟩, h5⟩; exact ⟨m', e, s, h1, h2, h3, h4, h5⟩
theorem indexK_str {t : TypeId} {s : ByteArray} {kk : IntKind} {m : Int} : indexK P t (.str s) (.int kk m) K = (tstring P t = true ∧ 0 ≤ m ∧ m < s.size ∧ K (.int .u8 (bt s m.toNat))) := (rfl)

@[congr] theorem binAll_cg {op : BinOp} {t : TypeId} {x x' i i' : AV} (e1 : mk x = x') (e2 : mk i = i') : binAll P op t x i K = binAll P op t x' i' K := by rw [← e1, ← e2]; rfl
section
variable {t : TypeId} {k : IntKind} {x y : Int}
theorem bin_add : binAll P .add t (.int k x) (.int k y) K = fitK k (x + y) K := by simp [binAll, iK]
theorem bin_sub : binAll P .sub t (.int k x) (.int k y) K = fitK k (x - y) K := by simp [binAll, iK]
theorem bin_mul : binAll P .mul t (.int k x) (.int k y) K = fitK k (x * y) K := by simp [binAll, iK]
theorem bin_quo : binAll P .quo t (.int k x) (.int k y) K = (y ≠ 0 ∧ K (.int k (k.wrap (x.tdiv y)))) := by simp [binAll, iK]
theorem bin_rem : binAll P .rem t (.int k x) (.int k y) K = (y ≠ 0 ∧ K (.int k (x.tmod y))) := by simp [binAll, iK]
theorem bin_eql : binAll P .eql t (.int k x) (.int k y) K = K (.bool (x == y)) := by simp [binAll, iK]
theorem bin_neq : binAll P .neq t (.int k x) (.int k y) K = K (.bool (x != y)) := by simp [binAll, iK]
theorem bin_lss : binAll P .lss t (.int k x) (.int k y) K = K (.bool (decide (x < y))) := by simp [binAll, iK]
theorem bin_leq : binAll P .leq t (.int k x) (.int k y) K = K (.bool (decide (x ≤ y))) := by simp [binAll, iK]
theorem bin_gtr : binAll P .gtr t (.int k x) (.int k y) K = K (.bool (decide (y < x))) := by simp [binAll, iK]
theorem bin_geq : binAll P .geq t (.int k x) (.int k y) K = K (.bool (decide (y ≤ x))) := by simp [binAll, iK]
theorem bin_shl {k' : IntKind} : binAll P .shl t (.int k x) (.int k' y) K = (0 ≤ y ∧ K (.int k (k.wrap (x * 2 ^ (min y.toNat k.bits))))) := by simp [binAll, iK]
theorem bin_shr {k' : IntKind} : binAll P .shr t (.int k x) (.int k' y) K = (0 ≤ y ∧ K (.int k (x.fdiv (2 ^ (min y.toNat k.bits))))) := by simp [binAll, iK]
theorem bin_beql {b c : Bool} : binAll P .eql t (.bool b) (.bool c) K = (tbool P t = true ∧ K (.bool (b == c))) := (rfl)
theorem bin_bneq {b c : Bool} : binAll P .neq t (.bool b) (.bool c) K = (tbool P t = true ∧ K (.bool (b != c))) := (rfl)
theorem bin_nils {op : BinOp} {u : AV} : binAll P op t u .nils K = ((telem P t).isSome = true ∧ (match u with | .isl _ es => (es = [] → eqK op true K) ∧ eqK op false K | .nils => eqK op true K | .osl .. => eqK op false K | _ => False)) := (rfl)
end
theorem eqK_eql {b : Bool} : eqK .eql b K = K (.bool b) := (rfl)
theorem eqK_neq {b : Bool} : eqK .neq b K = K (.bool (!b)) := (rfl)
@[congr] theorem unK_cg {op : UnOp} {x x' : AV} (e1 : mk x = x') : unK op x K = unK op x' K := by rw [← e1]; rfl
theorem unK_not {b : Bool} : unK .not (.bool b) K = K (.bool (!b)) := (rfl)
theorem unK_neg {k : IntKind} {z : Int} : unK .neg (.int k z) K = fitK k (0 - z) K := (rfl)
@[congr] theorem convK_cg {s d : TypeId} {x x' : AV} (e1 : mk x = x') : convK P s d x K = convK P s d x' K := by rw [← e1]; rfl
theorem convK_int {s d : TypeId} {k : IntKind} {z : Int} : convK P s d (.int k z) K = ((tint P s).isSome = true ∧ optK (tint P d) fun k => fitK k z K) := by
  simp only [convK, optK_eq, Option.isSome_iff_exists]
theorem convK_str {s d : TypeId} {b : ByteArray} : convK P s d (.str b) K = (tstring P s = true ∧ tstring P d = true ∧ K (.str b)) := (rfl)
@[congr] theorem extK_cg {i : Nat} {x x' : AV} (e1 : mk x = x') : extK x i K = extK x' i K := by rw [← e1]; rfl
theorem extK_tup {i : Nat} {vs : List AV} : extK (.tup vs) i K = optK vs[i]? K := optK_eq
@[congr] theorem lenK_cg {t : TypeId} {x x' : AV} (e1 : mk x = x') : lenK P t x K = lenK P t x' K := by rw [← e1]; rfl
theorem lenK_isl {t : TypeId} {k : Nat} {es : List (List AV)} : lenK P t (.isl k es) K = ((telem P t).isSome = true ∧ K (.int .i64 es.length)) := (rfl)
theorem lenK_osl {t : TypeId} {id k i len cap : Nat} {ex : Bool} : lenK P t (.osl id k i len cap ex) K = ((telem P t).isSome = true ∧ K (.int .i64 len)) := (rfl)
theorem lenK_nils {t : TypeId} : lenK P t .nils K = ((telem P t).isSome = true ∧ K (.int .i64 0)) := (rfl)
theorem lenK_str {t : TypeId} {s : ByteArray} : lenK P t (.str s) K = (tstring P t = true ∧ K (.int .i64 s.size)) := (rfl)
@[congr] theorem nilCheckK_cg {x x' : AV} (e1 : mk x = x') : nilCheckK x K = nilCheckK x' K := by rw [← e1]; rfl
theorem nilCheckK_ip {c : List AV} {o : Nat} : nilCheckK (.ip c o) K = K (.ip c o) := (rfl)
theorem nilCheckK_op {a b c d : Nat} : nilCheckK (.op a b c d) K = K (.op a b c d) := (rfl)
@[congr] theorem pickK_cg {c c' x y : AV} (e1 : mk c = c') : pickK c x y K = pickK c' x y K := by rw [← e1]; rfl
theorem pickK_eq {c x y : AV} : pickK c x y K = condK c (K x) (K y) := by cases c <;> rfl
@[congr] theorem sliceAll_cg {t : TypeId} {x x' : AV} {lo lo' hi hi' : Option AV} (e1 : mk x = x') (e2 : mk lo = lo') (e3 : mk hi = hi') : sliceAll P t x lo hi K = sliceAll P t x' lo' hi' K := by rw [← e1, ← e2, ← e3]; rfl
/-- A bound. -/
def bdK (d : Nat) (x : Option AV) (K : Nat → Prop) : Prop := match x with | none => K d | some (.int _ z) => 0 ≤ z ∧ K z.toNat | _ => False
theorem bdK_none {d : Nat} {K : Nat → Prop} : bdK d none K = K d := (rfl)
theorem bdK_some {d : Nat} {k : IntKind} {z : Int} {K : Nat → Prop} : bdK d (some (.int k z)) K = (0 ≤ z ∧ K z.toNat) := (rfl)
theorem loK_eq {x : Option AV} {K : Nat → Prop} : loK x K = bdK 0 x K := by cases x with | none => rfl | some u => cases u <;> rfl
theorem hiK_eq {d : Nat} {x : Option AV} {K : Nat → Prop} : hiK d x K = bdK d x K := by cases x with | none => rfl | some u => cases u <;> rfl
@[congr] theorem bdK_cg {d : Nat} {x x' : Option AV} {K : Nat → Prop} (e1 : mk x = x') : bdK d x K = bdK d x' K := by rw [← e1]; rfl
def slK (P : Program) (t : TypeId) (k : Nat) (es : List (List AV)) : Prop := optK (telem P t) fun e => optK (tsize P e) fun s => es ≠ [] → s = k
theorem slK_eq {t : TypeId} {k : Nat} {es : List (List AV)} : slK P t k es = optK (telem P t) fun e => optK (tsize P e) fun s => es ≠ [] → s = k := (rfl)
theorem sliceAll_isl {t : TypeId} {k : Nat} {es : List (List AV)} {lo hi : Option AV} : sliceAll P t (.isl k es) lo hi K = (slK P t k es ∧ bdK 0 lo fun l => bdK es.length hi fun m => (l ≤ m ∧ m ≤ es.length) ∧ K (.isl k ((es.drop l).take (m - l)))) := by
  simp only [sliceAll, sliceK, loK_eq, hiK_eq, ← and_assoc]
  congr 1
  · unfold slK
    cases telem P t with
    | none => simp [optK]
    | some e =>
      cases hs : tsize P e with
      | none => simp [optK, hs]
      | some s => simp [optK, hs]
theorem sliceAll_osl {t : TypeId} {id k i len cap : Nat} {ex : Bool} {lo hi : Option AV} : sliceAll P t (.osl id k i len cap ex) lo hi K = (elK P t k ∧ bdK 0 lo fun l => bdK len hi fun m => (l ≤ m ∧ m ≤ cap) ∧ if l < cap ∨ l = 0 then K (.osl id k (i + l) (m - l) (cap - l) ex) else ex = true ∧ K (.osl id k i 0 0 ex)) := by
  simp only [sliceAll, sliceK, loK_eq, hiK_eq, elK_ex, and_assoc]
  apply propext
  constructor
  · exact fun h => h.2
  · intro h
    refine ⟨?_, h⟩
    have := h.1
    rw [← elK_ex] at this
    obtain ⟨e, h1, h2⟩ := this
    exact ⟨e, k, h1, h2⟩
theorem sliceAll_nils {t : TypeId} {lo hi : Option AV} : sliceAll P t .nils lo hi K = (slK P t 0 [] ∧ bdK 0 lo fun l => bdK 0 hi fun m => (l = 0 ∧ m = 0) ∧ K .nils) := by
  simp only [sliceAll, sliceK, loK_eq, hiK_eq, and_assoc]
  apply propext
  constructor
  · rintro ⟨⟨e, s, h1, h2⟩, _, h3⟩; exact ⟨by simp [slK, h1, h2, optK], h3⟩
  · rintro ⟨h1, h2⟩
    unfold slK at h1
    cases he : telem P t with
    | none => simp [he, optK] at h1
    | some e =>
      cases hs : tsize P e with
      | none => simp [he, hs, optK] at h1
      | some s => exact ⟨⟨e, s, rfl, hs⟩, ⟨e, rfl⟩, h2⟩
end
end
end Go.AL
end

section
/- The small logic's rules for simp: stores, new objects, append, calls, what a function answers. No condition. -/
namespace Go.AL
set_option linter.unusedVariables false
set_option linter.unusedSimpArgs false
section
variable {P : Program} {n : Nat} {a : Fr} {h : Heap}
@[congr] theorem cellsK_cg {u u' : AV} {K : List AV → Prop} (e : mk u = u') : cellsK u K = cellsK u' K := by rw [← e]; rfl
@[congr] theorem storeK_cg {t : TypeId} {h h' : Heap} {p p' u u' : AV} {K : Heap → Prop} (e1 : mk h = h') (e2 : mk p = p') (e3 : mk u = u') : storeK P t h p u K = storeK P t h' p' u' K := by rw [← e1, ← e2, ← e3]; rfl
/-- An object, to be written. -/
def obxK (k : Nat) (o : Option Ob) (K : List (List AV) → Bool → Prop) : Prop := match o with | some (.arr k' es ex) => k' = k ∧ K es ex | _ => False
@[congr] theorem obxK_cg {k : Nat} {o o' : Option Ob} {K : List (List AV) → Bool → Prop} (e : mk o = o') : obxK k o K = obxK k o' K := by rw [← e]; rfl
theorem obxK_some {k : Nat} {es : List (List AV)} {ex : Bool} {K : List (List AV) → Bool → Prop} : obxK k (some (.arr k es ex)) K = K es ex := by simp [obxK]
theorem obxK_ex {k : Nat} {o : Option Ob} {K : List (List AV) → Bool → Prop} : (∃ es ex, o = some (.arr k es ex) ∧ K es ex) = obxK k o K := by
  apply propext
  constructor
  · rintro ⟨es, ex, rfl, hk⟩; exact ⟨rfl, hk⟩
  · intro hk
    cases o with
    | none => exact hk.elim
    | some o =>
      cases o with
      | arr k' es ex => obtain ⟨rfl, hk⟩ := hk; exact ⟨es, ex, rfl, hk⟩
      | _ => exact hk.elim
/-- Cells written over. -/
def patch' (c : List AV) (off : Nat) (cs : List AV) : List AV := match cs with | [v] => c.set off v | _ => patch c off cs
theorem patch_one {c : List AV} {off : Nat} {v : AV} : patch' c off [v] = c.set off v := (rfl)
theorem patch_none {c : List AV} {off : Nat} : patch' c off [] = patch c off [] := (rfl)
theorem patch_two {c : List AV} {off : Nat} {v v' : AV} {r : List AV} : patch' c off (v :: v' :: r) = c.take off ++ (v :: v' :: r) ++ c.drop (off + (v :: v' :: r).length) := (rfl)
theorem patch_eq {c : List AV} {off : Nat} {cs : List AV} (h : off + cs.length ≤ c.length) : patch c off cs = patch' c off cs := by
  match cs with
  | [] => rfl
  | [v] =>
    simp only [List.length_singleton] at h
    apply List.ext_getElem?
    intro i
    simp only [patch, patch', List.length_singleton, List.getElem?_set]
    by_cases h1 : i < off
    · rw [List.append_assoc, List.getElem?_append_left (by simp; omega), List.getElem?_take_of_lt h1, if_neg (by omega)]
    · by_cases h2 : i = off
      · subst h2
        rw [if_pos rfl, if_pos (by omega), List.append_assoc, List.getElem?_append_right (by simp; omega)]
        simp [Nat.min_eq_left (show i ≤ c.length by omega)]
      · rw [if_neg (by omega), List.getElem?_append_right (by simp; omega)]
        simp only [List.length_append, List.length_take, List.length_singleton, List.getElem?_drop, Nat.min_eq_left (show off ≤ c.length by omega)]
        congr 1
        omega
  | v :: v' :: r => rfl
theorem storeK_op {t : TypeId} {id k e off : Nat} {u : AV} {K : Heap → Prop} : storeK P t h (.op id k e off) u K = cellsK u fun cs => optK (tsize P t) fun s => s = cs.length ∧ obxK k h[id]? fun es ex => optK es[e]? fun c => off + cs.length ≤ c.length ∧ letH (h.set id (.arr k (es.set e (patch' c off cs)) ex)) K := by
  unfold storeK
  simp only [letH]
  congr 1
  funext cs
  rw [← optK_eq]
  simp only [← optK_eq (α := List AV), ← obxK_ex]
  apply propext
  constructor
  · rintro ⟨h1, es, ex, h2, c, h3, h4, h5⟩; rw [patch_eq h4] at h5; exact ⟨_, h1, rfl, es, ex, h2, c, h3, h4, h5⟩
  · rintro ⟨_, h1, rfl, es, ex, h2, c, h3, h4, h5⟩; rw [← patch_eq h4] at h5; exact ⟨h1, es, ex, h2, c, h3, h4, h5⟩
@[congr] theorem makeSliceK_cg {t : TypeId} {h h' : Heap} {l l' c c' : AV} {K : AV → Heap → Prop} (e1 : mk h = h') (e2 : mk l = l') (e3 : mk c = c') : makeSliceK P t h l c K = makeSliceK P t h' l' c' K := by rw [← e1, ← e2, ← e3]; rfl
theorem makeSliceK_int {t : TypeId} {k k' : IntKind} {l c : Int} {K : AV → Heap → Prop} : makeSliceK P t h (.int k l) (.int k' c) K = optK (telem P t) fun e => optK (zcells P e) fun z => optK (tbytes P e) fun b => (0 ≤ l ∧ l ≤ c ∧ b * c ≤ 281474976710656 ∧ c ≤ 9223372036854775807) ∧
    letH (h ++ [.arr z.length (List.replicate c.toNat z) true]) (K (.osl h.length z.length 0 l.toNat c.toNat true)) := by
  unfold makeSliceK
  simp only [letH, and_assoc]
  cases telem P t with
  | none => simp [optK]
  | some e =>
    cases hz : zcells P e with
    | none => simp [optK, hz]
    | some z =>
      cases hb : tbytes P e with
      | none => simp [optK, hz, hb]
      | some b => simp [optK, hz, hb]
theorem fillK_nil {pl : Nat → Option (Nat × Nat)} {cs : List AV} {K : List AV → Prop} : fillK pl [] cs K = K cs := (rfl)
theorem fillK_cons {pl : List (Nat × Nat)} {i : Nat} {u : AV} {r : List (Nat × AV)} {cs : List AV} {K : List AV → Prop} : fillK (fun i => pl[i]?) ((i, u) :: r) cs K = cellsK u fun us => optK pl[i]? fun x => x.2 = us.length ∧ x.1 + us.length ≤ cs.length ∧ fillK (fun i => pl[i]?) r (patch cs x.1 us) K := by
  show (cellsK u fun us => ∃ off, pl[i]? = some (off, us.length) ∧ off + us.length ≤ cs.length ∧ fillK (fun i => pl[i]?) r (patch cs off us) K) = _
  congr 1
  funext us
  rw [← optK_eq]
  apply propext
  constructor
  · rintro ⟨off, h1, h2⟩; exact ⟨_, h1, rfl, h2⟩
  · rintro ⟨⟨off, m⟩, h1, h0, h2⟩; cases h0; exact ⟨off, h1, h2⟩
@[congr] theorem fillK_cg {pl : Nat → Option (Nat × Nat)} {us us' : List (Nat × AV)} {cs cs' : List AV} {K : List AV → Prop} (e1 : mk us = us') (e2 : mk cs = cs') : fillK pl us cs K = fillK pl us' cs' K := by rw [← e1, ← e2]; rfl
theorem fillRK_nil {k : Nat} {es : List (List AV)} {K : List (List AV) → Prop} : fillRK k [] es K = K es := (rfl)
theorem fillRK_cons {k i : Nat} {u : AV} {r : List (Nat × AV)} {es : List (List AV)} {K : List (List AV) → Prop} : fillRK k ((i, u) :: r) es K = cellsK u fun us => us.length = k ∧ i < es.length ∧ fillRK k r (es.set i us) K := (rfl)
@[congr] theorem fillRK_cg {k k' : Nat} {us us' : List (Nat × AV)} {cs cs' : List (List AV)} {K : List (List AV) → Prop} (e0 : mk k = k') (e1 : mk us = us') (e2 : mk cs = cs') : fillRK k us cs K = fillRK k' us' cs' K := by rw [← e0, ← e1, ← e2]; rfl
@[congr] theorem callK_cg {f f' : AV} {us us' : List AV} {h h' : Heap} {K : AV → Heap → Prop} (e0 : mk f = f') (e1 : mk us = us') (e2 : mk h = h') : callK P f us h K = callK P f' us' h' K := by rw [← e0, ← e1, ← e2]; rfl
theorem callK_fn {g : FuncId} {first cap us : List AV} {K : AV → Heap → Prop} : callK P (.fn (.func g) first cap) us h K = ACalls P g (first ++ us ++ cap) h K := (rfl)
@[congr] theorem ACalls_cg {f : FuncId} {us us' : List AV} {h h' : Heap} {K : AV → Heap → Prop} (e1 : mk us = us') (e2 : mk h = h') : ACalls P f us h K = ACalls P f us' h' K := by rw [← e1, ← e2]; rfl
@[congr] theorem LoopK_cg {body : (Exit → Fr → Heap → Prop) → Fr → Heap → Prop} {Q : Exit → Fr → Heap → Prop} {a : Fr} {h h' : Heap} (e : mk h = h') : LoopK body Q a h = LoopK body Q a h' := by rw [← e]; rfl
@[congr] theorem GcK_cg {N N' : Nat} {a : Fr} {h : Heap} {K : Fr → Heap → Prop} (e : mk N = N') : GcK N a h K = GcK N' a h K := by rw [← e]; rfl
@[congr] theorem elemsK_cg {k k' : Nat} {x x' : AV} {h h' : Heap} {K : List (List AV) → Prop} (e0 : mk k = k') (e1 : mk x = x') (e2 : mk h = h') : elemsK h k x K = elemsK h' k' x' K := by rw [← e0, ← e1, ← e2]; rfl
theorem elemsK_nils {k : Nat} {K : List (List AV) → Prop} : elemsK h k .nils K = K [] := (rfl)
theorem elemsK_isl {k : Nat} {es : List (List AV)} {K : List (List AV) → Prop} : elemsK h k (.isl k es) K = K es := by simp [elemsK]
theorem elemsK_osl {id k i len cap : Nat} {ex : Bool} {K : List (List AV) → Prop} : elemsK h k (.osl id k i len cap ex) K = objK k h[id]? fun es => i + len ≤ es.length ∧ K ((es.drop i).take len) := by
  simp only [elemsK, true_and]
  exact objK_ex
/-- Append to a slice of an own object. -/
def apK (k : Nat) (b : Nat) (h : Heap) (s : AV) (xs : List (List AV)) (K : AV → Heap → Prop) : Prop :=
  match s with
  | .nils => xs.length * b ≤ 140737488355328 ∧ (xs = [] → K .nils h) ∧ (xs ≠ [] → K (.osl h.length k 0 xs.length xs.length false) (h ++ [.arr k xs false]))
  | .osl id k' i len cap ex => k' = k ∧ (len + xs.length) * b ≤ 140737488355328 ∧ ∃ es ex', h[id]? = some (.arr k' es ex') ∧ i + len ≤ es.length ∧
        (len + xs.length ≤ cap → i + len + xs.length ≤ es.length ∧ K (.osl id k' i (len + xs.length) cap ex) (h.set id (.arr k' (es.take (i + len) ++ xs ++ es.drop (i + len + xs.length)) ex'))) ∧
        (¬ len + xs.length ≤ cap → match ex with
          | true => K (.osl h.length k' 0 (len + xs.length) (len + xs.length) false) (h ++ [.arr k' ((es.drop i).take len ++ xs) false])
          | false => i = 0 ∧ K (.osl h.length k' 0 (len + xs.length) (len + xs.length) false) (h.set id .dead ++ [.arr k' (es.take len ++ xs) false]))
  | _ => False
theorem appendK_ap {t t' : TypeId} {s x : AV} {K : AV → Heap → Prop} : appendK P t t' h s x K = ∃ e z b, telem P t = some e ∧ (telem P t').isSome = true ∧ zcells P e = some z ∧ tbytes P e = some b ∧ 0 < b ∧ elemsK h z.length x fun xs => apK z.length b h s xs K := by
  unfold appendK
  cases s <;> rfl
theorem appendK_eq {t t' : TypeId} {s x : AV} {K : AV → Heap → Prop} : appendK P t t' h s x K = ((telem P t').isSome = true ∧ optK (telem P t) fun e => optK (zcells P e) fun z => optK (tbytes P e) fun b => 0 < b ∧ elemsK h z.length x fun xs => apK z.length b h s xs K) := by
  rw [appendK_ap]
  simp only [← optK_eq]
  apply propext
  constructor
  · rintro ⟨e, z, b, h1, h2, h3, h4, h5⟩; exact ⟨h2, e, h1, z, h3, b, h4, h5⟩
  · rintro ⟨h2, e, h1, z, h3, b, h4, h5⟩; exact ⟨e, z, b, h1, h2, h3, h4, h5⟩
@[congr] theorem appendK_cg {t t' : TypeId} {h h' : Heap} {s s' x x' : AV} {K : AV → Heap → Prop} (e1 : mk h = h') (e2 : mk s = s') (e3 : mk x = x') : appendK P t t' h s x K = appendK P t t' h' s' x' K := by rw [← e1, ← e2, ← e3]; rfl
@[congr] theorem apK_cg {k k' b : Nat} {h h' : Heap} {s s' : AV} {xs xs' : List (List AV)} {K : AV → Heap → Prop} (e0 : mk k = k') (e1 : mk h = h') (e2 : mk s = s') (e3 : mk xs = xs') : apK k b h s xs K = apK k' b h' s' xs' K := by rw [← e0, ← e1, ← e2, ← e3]; rfl
theorem apK_nils {k b : Nat} {x : List AV} {xs : List (List AV)} {K : AV → Heap → Prop} : apK k b h .nils (x :: xs) K = ((x :: xs).length * b ≤ 140737488355328 ∧ letH (h ++ [.arr k (x :: xs) false]) (K (.osl h.length k 0 (x :: xs).length (x :: xs).length false))) := by
  simp [apK, letH]
theorem apK_osl {k b id i len cap : Nat} {ex : Bool} {xs : List (List AV)} {K : AV → Heap → Prop} : apK k b h (.osl id k i len cap ex) xs K = ((len + xs.length) * b ≤ 140737488355328 ∧ obxK k h[id]? fun es ex' => i + len ≤ es.length ∧
        (len + xs.length ≤ cap → i + len + xs.length ≤ es.length ∧ letH (h.set id (.arr k (es.take (i + len) ++ xs ++ es.drop (i + len + xs.length)) ex')) (K (.osl id k i (len + xs.length) cap ex))) ∧
        (¬ len + xs.length ≤ cap → condK (.bool ex) (letH (h ++ [.arr k ((es.drop i).take len ++ xs) false]) (K (.osl h.length k 0 (len + xs.length) (len + xs.length) false)))
          (i = 0 ∧ letH (h.set id .dead ++ [.arr k (es.take len ++ xs) false]) (K (.osl h.length k 0 (len + xs.length) (len + xs.length) false))))) := by
  simp only [apK, ← obxK_ex, true_and, letH]
  cases ex <;> simp [condK]

@[congr] theorem clearK_cg {t : TypeId} {h h' : Heap} {x x' : AV} {K : Heap → Prop} (e1 : mk h = h') (e2 : mk x = x') : clearK P t h x K = clearK P t h' x' K := by rw [← e1, ← e2]; rfl
theorem clearK_nils {t : TypeId} {K : Heap → Prop} : clearK P t h .nils K = ((telem P t).isSome = true ∧ K h) := (rfl)
theorem clearK_osl {t : TypeId} {id k i len cap : Nat} {ex : Bool} {K : Heap → Prop} : clearK P t h (.osl id k i len cap ex) K = optK (telem P t) fun e => optK (zcells P e) fun z => k = z.length ∧ obxK k h[id]? fun es ex' => i + len ≤ es.length ∧ letH (h.set id (.arr k (es.take i ++ List.replicate len z ++ es.drop (i + len)) ex')) K := by
  simp only [clearK, ← optK_eq, ← obxK_ex, letH]
  apply propext
  constructor
  · rintro ⟨e, z, h1, h2, h3⟩; exact ⟨e, h1, z, h2, h3⟩
  · rintro ⟨e, h1, z, h2, h3⟩; exact ⟨e, z, h1, h2, h3⟩

/-! ### what a function answers -/
variable {K : List AV → Prop} {Q : AV → Heap → Prop}
theorem resK_nil : resK P a h [] K = K [] := (rfl)
theorem resK_tmp {t : Tmp} {r : List ResultVar} : resK P a h (.tmp t :: r) K = resK P a h r fun us => K (a t :: us) := (rfl)
theorem resK_cell {p t : Nat} {r : List ResultVar} : resK P a h (.cell p t :: r) K = loadK P t h (a p) fun u => resK P a h r fun us => K (u :: us) := (rfl)
theorem oneK_one {u : AV} {K : AV → Prop} : oneK [u] K = K u := (rfl)
theorem oneK_none {K : AV → Prop} : oneK [] K = K (.tup []) := (rfl)
theorem oneK_two {u v : AV} {us : List AV} {K : AV → Prop} : oneK (u :: v :: us) K = K (.tup (u :: v :: us)) := (rfl)
theorem bodyQ_normal {rs : List ResultVar} : bodyQ P rs Q .normal a h = resK P a h rs fun us => oneK us fun u => Q u h := (rfl)
theorem bodyQ_ret {rs : List ResultVar} : bodyQ P rs Q .ret a h = resK P a h rs fun us => oneK us fun u => Q u h := (rfl)

/-! ### lists of numbers, of truths -/
theorem tn1 {k : Nat} : ((k : Int) + 1).toNat = k + 1 := by omega
theorem tn2 {k : Nat} : ((k : Int) + 2).toNat = k + 2 := by omega
theorem tn3 {k : Nat} : ((k : Int) + 3).toNat = k + 3 := by omega
def intE (x : Int) : List AV := [AV.int .i64 x]
def boolE (x : Bool) : List AV := [AV.bool x]
theorem intE_eq {x : Int} : intE x = [AV.int .i64 x] := (rfl)
theorem boolE_eq {x : Bool} : boolE x = [AV.bool x] := (rfl)
theorem rep_intE {m : Nat} : List.replicate m [AV.int .i64 0] = List.map intE (List.replicate m 0) := by simp [intE]
theorem rep_boolE {m : Nat} : List.replicate m [AV.bool false] = List.map boolE (List.replicate m false) := by simp [boolE]
theorem set_intE {xs : List Int} {i : Nat} {y : Int} : (List.map intE xs).set i [AV.int .i64 y] = List.map intE (xs.set i y) := by rw [List.map_set]; rfl
theorem set_boolE {xs : List Bool} {i : Nat} {y : Bool} : (List.map boolE xs).set i [AV.bool y] = List.map boolE (xs.set i y) := by rw [List.map_set]; rfl
theorem set_bools {xs : List Bool} {i : Nat} {y : Bool} : (List.map AV.bool xs).set i (AV.bool y) = List.map AV.bool (xs.set i y) := by rw [List.map_set]
theorem app_intE {xs : List Int} {y : Int} : List.map intE xs ++ [[AV.int .i64 y]] = List.map intE (xs ++ [y]) := by rw [List.map_append]; rfl
theorem app_intE3 {xs : List Int} {a b c : Int} : List.map intE xs ++ [[AV.int .i64 a], [AV.int .i64 b], [AV.int .i64 c]] = List.map intE (xs ++ [a, b, c]) := by rw [List.map_append]; rfl
theorem take_app {xs ys : List Int} : List.take xs.length (List.map intE (xs ++ ys)) = List.map intE xs := by rw [List.map_append, List.take_append_of_le_length (by simp), List.take_of_length_le (by simp)]
theorem drop_app3 {xs : List Int} {a b c : Int} : List.drop (xs.length + 3) (List.map intE (xs ++ [a, b, c])) = [] := by apply List.drop_of_length_le; simp
theorem take_map_all {α β : Type} {f : α → β} {xs : List α} : List.take xs.length (List.map f xs) = List.map f xs := by
  rw [List.take_of_length_le (by simp)]
end
end Go.AL
end

section
/- The small logic's calls: objects left out; a function's own objects laid behind the caller's; fresh answers; loops told round by round; cuts. No condition. -/
namespace Go.AL
set_option linter.unusedVariables false
set_option linter.unusedSimpArgs false
section
variable {P : Program}

theorem ACalls.mono' {f : FuncId} {args : List AV} {h : Heap} {Q Q' : AV → Heap → Prop} (hc : ACalls P f args h Q) (hq : ∀ u h', Q u h' → Q' u h') : ACalls P f args h Q' := by
  refine ⟨hc.1, fun I β w vs r hv => (hc.2 I β w vs r hv).mono ?_⟩
  rintro e w' ⟨cv, u, I', β', h', h1, h2, h3⟩
  exact ⟨cv, u, I', β', h', h1, hq _ _ h2, h3⟩
theorem acalls_gc {f : FuncId} {args : List AV} {h : Heap} {Q : AV → Heap → Prop} (hc : ACalls P f args h fun u h' => ∃ ids : List Nat, (ids.Nodup ∧ ids.take h.length = List.range h.length) ∧ Q (u.ren (posOf ids)) (gcH ids h')) : ACalls P f args h Q := by
  refine ⟨hc.1, fun I β w vs r hv => (hc.2 I β w vs r hv).mono ?_⟩
  rintro e w' ⟨cv, u, I', β', h', h1, ⟨ids, ⟨h2, h3⟩, h4⟩, h5, h6, h7⟩
  exact ⟨cv, _, I', _, _, h1, h4, h5.gc h3, h6.gc h2, h7.gc⟩

/-! ### objects laid behind -/
def sh (N : Nat) : Nat → Option Nat := fun id => some (id + N)
def behind (h h0 : Heap) : Heap := h ++ h0.map (Ob.ren (sh h.length))
mutual
/-- Nothing in it lies in memory that is not its own. -/
def AV.lean : AV → Bool
  | .ip .. => false
  | .isl .. => false
  | .fn _ fs cs => leans fs && leans cs
  | .ifc _ v => v.lean
  | .agg cs => leans cs
  | .tup cs => leans cs
  | .int .. => true
  | .bool _ => true
  | .str _ => true
  | .flt .. => true
  | .nilp => true
  | .nils => true
  | .nilf => true
  | .nili => true
  | .nilm => true
  | .op .. => true
  | .osl .. => true
  | .om _ => true
  | .any => true
def leans : List AV → Bool
  | [] => true
  | v :: r => v.lean && leans r
end
theorem leans_get {l : List AV} (h : leans l = true) {j : Nat} {u : AV} (hj : l[j]? = some u) : u.lean = true := by
  induction l generalizing j with
  | nil => simp at hj
  | cons v r ih =>
    simp only [leans, Bool.and_eq_true] at h
    cases j with
    | zero => simp at hj; subst hj; exact h.1
    | succ j => simp at hj; exact ih h.2 hj
def Ob.lean : Ob → Bool
  | .dead => true
  | .arr _ es _ => es.all leans
  | .map es _ => es.all fun x => x.1.lean && x.2.1.lean
section
variable {I I' : Nat → Prop} {β : Nat → Nat} {N : Nat} {w : World}
theorem IRel.lean {u : AV} {v : Value} (h : IRel I w u v) (hl : u.lean = true) : IRel I' w u v := by
  induction h with
  | int k n => exact .int k n
  | bool b => exact .bool b
  | str s => exact .str s
  | flt k n => exact .flt k n
  | nilp => exact .nilp
  | nils => exact .nils
  | nilf => exact .nilf
  | nili => exact .nili
  | nilm => exact .nilm
  | ip _ _ _ _ _ _ _ _ _ _ _ => simp [AV.lean] at hl
  | isl0 _ _ _ => simp [AV.lean] at hl
  | isl _ _ _ _ _ _ _ _ _ _ _ _ _ _ => simp [AV.lean] at hl
  | fn f fs cs fs' cs' h1 h2 _ _ ih1 ih2 =>
    simp only [AV.lean, Bool.and_eq_true] at hl
    exact .fn f fs cs fs' cs' h1 h2 (fun j u v hu hv => ih1 j u v hu hv (leans_get hl.1 hu)) (fun j u v hu hv => ih2 j u v hu hv (leans_get hl.2 hu))
  | ifc t u v _ ih => exact .ifc t u v (ih (by simpa [AV.lean] using hl))
  | agg cs cs' h1 h2 _ ih => exact .agg cs cs' h1 h2 (fun j u v hu hv => ih j u v hu hv (leans_get (by simpa [AV.lean] using hl) hu))
  | tup cs cs' h1 _ ih => exact .tup cs cs' h1 (fun j u v hu hv => ih j u v hu hv (leans_get (by simpa [AV.lean] using hl) hu))
theorem VRel.lean {u : AV} {v : Value} (h : VRel I β N w u v) (hl : u.lean = true) : VRel I' β N w u v := by
  induction h with
  | imm u v h => exact .imm u v (h.lean hl)
  | any v => exact .any v
  | op id k e off h => exact .op id k e off h
  | osl id k i len cap ex c n h h0 h1 h2 h3 h4 => exact .osl id k i len cap ex c n h h0 h1 h2 h3 h4
  | om id h => exact .om id h
  | fn f fs cs fs' cs' h1 h2 _ _ ih1 ih2 =>
    simp only [AV.lean, Bool.and_eq_true] at hl
    exact .fn f fs cs fs' cs' h1 h2 (fun j u v hu hv => ih1 j u v hu hv (leans_get hl.1 hu)) (fun j u v hu hv => ih2 j u v hu hv (leans_get hl.2 hu))
  | ifc t u v _ ih => exact .ifc t u v (ih (by simpa [AV.lean] using hl))
  | agg cs cs' h1 h2 _ ih => exact .agg cs cs' h1 h2 (fun j u v hu hv => ih j u v hu hv (leans_get (by simpa [AV.lean] using hl) hu))
  | tup cs cs' h1 _ ih => exact .tup cs cs' h1 (fun j u v hu hv => ih j u v hu hv (leans_get (by simpa [AV.lean] using hl) hu))
theorem ORel.lean {o : Ob} {x : Option Obj} (h : ORel I β N w o x) (hl : o.lean = true) : ORel I' β N w o x := by
  cases o with
  | dead => trivial
  | arr k es ex =>
    obtain ⟨cur, t, h1, h2, h3, h4, h5⟩ := h
    refine ⟨cur, t, h1, h2, h3, h4, fun i e j u he hu => ?_⟩
    obtain ⟨v, h6, h7, h8⟩ := h5 i e j u he hu
    simp only [Ob.lean, List.all_eq_true] at hl
    exact ⟨v, h6, h7.lean (leans_get (hl e (List.mem_of_getElem? he)) hu), h8⟩
  | map es c =>
    obtain ⟨es', h1, h2, h3⟩ := h
    refine ⟨es', h1, h2, fun j x y hx hy => ?_⟩
    obtain ⟨q1, q2, q3⟩ := h3 j x y hx hy
    simp only [Ob.lean, List.all_eq_true, Bool.and_eq_true] at hl
    have := hl x (List.mem_of_getElem? hx)
    exact ⟨q1.lean this.1, q2.lean this.2, q3⟩
end

def joinB (N : Nat) (β β' : Nat → Nat) : Nat → Nat := fun id => if id < N then β id else β' (id - N)
theorem behind_length {h h0 : Heap} : (behind h h0).length = h.length + h0.length := by simp [behind]
theorem behind_get {h h0 : Heap} {id : Nat} {o : Ob} (ho : (behind h h0)[id]? = some o) : (id < h.length ∧ h[id]? = some o) ∨ (h.length ≤ id ∧ ∃ o0, h0[id - h.length]? = some o0 ∧ o = o0.ren (sh h.length)) := by
  unfold behind at ho
  by_cases hid : id < h.length
  · rw [List.getElem?_append_left hid] at ho; exact .inl ⟨hid, ho⟩
  · rw [List.getElem?_append_right (by omega), List.getElem?_map] at ho
    cases hh : h0[id - h.length]? with
    | none => rw [hh] at ho; simp at ho
    | some o0 => rw [hh] at ho; simp at ho; exact .inr ⟨by omega, o0, rfl, ho.symm⟩

theorem shift_core {I I' : Nat → Prop} {β β' : Nat → Nat} {h h0 : Heap} {w w' : World} (r : Rel I β h w) (hos : w'.os = w.os) (htp : w'.tape = w.tape) (hout : w'.output = w.output) (hsz : w.heap.size ≤ w'.heap.size)
    (hkeep : ∀ b, b < w.heap.size → w'.heap[b]? = w.heap[b]?) (hown : ∀ b, Own h0 β' b → w.heap.size ≤ b) (r0 : Rel I' β' h0 w') (hI : ∀ b, I b → I' b) (hnew : ∀ b, I' b → I b ∨ w.heap.size ≤ b) :
    Ext I β h w I' (joinB h.length β β') (behind h h0) w' ∧ Rel I' (joinB h.length β β') (behind h h0) w' ∧ ∀ u v, VRel I' β' h0.length w' u v → VRel I' (joinB h.length β β') (behind h h0).length w' (u.ren (sh h.length)) v := by
  have hbs : ∀ b n, bsize w b = some n → bsize w' b = some n := fun b n hb => by
    have hlt : b < w.heap.size := by
      unfold bsize at hb
      split at hb
      · rename_i h1; exact (Array.getElem?_eq_some_iff.1 h1).1
      · simp at hb
    rw [bsize_of_heap (hkeep b hlt)]
    exact hb
  have hj1 : ∀ id, id < h.length → joinB h.length β β' id = β id := fun id hid => by simp [joinB, hid]
  have hj2 : ∀ id, joinB h.length β β' (id + h.length) = β' id := fun id => by unfold joinB; rw [if_neg (by omega), Nat.add_sub_cancel]
  have hρ : ∀ id j, id < h0.length → sh h.length id = some j → j < (behind h h0).length ∧ joinB h.length β β' j = β' id := fun id j hid hj => by
    simp only [sh, Option.some.injEq] at hj
    subst hj
    exact ⟨by rw [behind_length]; omega, hj2 id⟩
  have hm : ∀ u v, VRel I β h.length w u v → VRel I' (joinB h.length β β') (behind h h0).length w' u v := fun u v hv =>
    hv.mono hI (fun b hb => hkeep b (r.imm b hb)) (by rw [behind_length]; omega) (fun id hid => hj1 id hid) hbs
  refine ⟨⟨hos, htp, hout, hsz, by rw [behind_length]; omega, fun id hid => hj1 id hid, hI, fun b hb => (hnew b hb).imp id .inr, fun b hb => ?_, fun b hb _ => hkeep b hb, hbs⟩, ⟨r0.imm, fun id o ho hd => ?_, fun id id' o o' ho hd ho' hd' hb => ?_⟩, fun u v hv => hv.ren hρ⟩
  · obtain ⟨id, o, ho, hd, rfl⟩ := hb
    rcases behind_get ho with ⟨h1, h2⟩ | ⟨h1, o0, h2, rfl⟩
    · rw [hj1 id h1]; exact .inl ⟨id, o, h2, hd, rfl⟩
    · obtain ⟨j, rfl⟩ : ∃ j, id = j + h.length := ⟨id - h.length, by omega⟩
      rw [hj2]
      exact .inr (hown _ ⟨j, o0, by simpa using h2, Ob.ren_dead hd, rfl⟩)
  · rcases behind_get ho with ⟨h1, h2⟩ | ⟨h1, o0, h2, rfl⟩
    · rw [hj1 id h1]
      obtain ⟨q1, q2, q3⟩ := r.obj id o h2 hd
      refine ⟨by omega, fun hi => ?_, by rw [hkeep _ q1]; exact q3.mono hm⟩
      rcases hnew _ hi with h3 | h3
      · exact q2 h3
      · omega
    · obtain ⟨j, rfl⟩ : ∃ j, id = j + h.length := ⟨id - h.length, by omega⟩
      rw [hj2]
      obtain ⟨q1, q2, q3⟩ := r0.obj j o0 (by simpa using h2) (Ob.ren_dead hd)
      exact ⟨q1, q2, q3.ren hρ⟩
  · rcases behind_get ho with ⟨h1, h2⟩ | ⟨h1, o0, h2, rfl⟩ <;> rcases behind_get ho' with ⟨h1', h2'⟩ | ⟨h1', o0', h2', rfl⟩
    · rw [hj1 id h1, hj1 id' h1'] at hb; exact r.inj id id' o o' h2 hd h2' hd' hb
    · obtain ⟨j, rfl⟩ : ∃ j, id' = j + h.length := ⟨id' - h.length, by omega⟩
      rw [hj1 id h1, hj2] at hb
      have q := hown _ ⟨j, o0', by simpa using h2', Ob.ren_dead hd', rfl⟩
      have q' := (r.obj id o h2 hd).1
      omega
    · obtain ⟨j, rfl⟩ : ∃ j, id = j + h.length := ⟨id - h.length, by omega⟩
      rw [hj1 id' h1', hj2] at hb
      have q := hown _ ⟨j, o0, by simpa using h2, Ob.ren_dead hd, rfl⟩
      have q' := (r.obj id' o' h2' hd').1
      omega
    · obtain ⟨j, rfl⟩ : ∃ j, id = j + h.length := ⟨id - h.length, by omega⟩
      obtain ⟨j', rfl⟩ : ∃ j, id' = j + h.length := ⟨id' - h.length, by omega⟩
      rw [hj2, hj2] at hb
      rw [r0.inj j j' o0 o0' (by simpa using h2) (Ob.ren_dead hd) (by simpa using h2') (Ob.ren_dead hd') hb]

/-- A function that was walked from an empty heap, called with values alone. -/
theorem acalls_shift {f : FuncId} {args : List AV} {h : Heap} {R Q : AV → Heap → Prop} (hc : ACalls P f args [] R) (ha : pures args = true) (hq : ∀ u h0, R u h0 → Q (u.ren (sh h.length)) (behind h h0)) : ACalls P f args h Q := by
  refine ⟨hc.1, fun I β w vs r hv => ?_⟩
  have hv' : VRels I (fun _ => 0) 0 w args vs := ⟨hv.1, fun j u v hu hv' => .imm _ _ ((hv.2 j u v hu hv').toI (pures_get ha hu))⟩
  refine (hc.2 I (fun _ => 0) w vs ⟨r.imm, fun id o h => by simp at h, fun id id' o o' h => by simp at h⟩ hv').mono ?_
  rintro e w' ⟨cv, u, I', β', h0, rfl, hr, he, r0, hvr⟩
  obtain ⟨h1, h2, h3⟩ := shift_core r he.os he.tape he.output he.size (fun b hb => he.keep b hb own_nil) (fun b hb => (he.own b hb).elim (fun x => absurd x own_nil) id) r0 he.sub
    (fun b hb => (he.immnew b hb).elim .inl fun x => x.elim (fun x => absurd x own_nil) .inr)
  exact ⟨cv, _, I', _, _, rfl, hq _ _ hr, h1, h2, h3 _ _ hvr⟩

/-- The same, what one owns lent to it; what it hands back is its own. -/
theorem acalls_lend_shift {f : FuncId} {args args' : List AV} {h : Heap} {R Q : AV → Heap → Prop} (hc : ACalls P f args' [] R) (ha : Frzs h args args') (hq : ∀ u h0, R u h0 → (u.lean = true ∧ ∀ o, o ∈ h0 → o.lean = true) ∧ Q (u.ren (sh h.length)) (behind h h0)) : ACalls P f args h Q := by
  refine ⟨hc.1, fun I β w vs r hv => ?_⟩
  have hJ : ∀ b, IO I β h b → b < w.heap.size := by
    rintro b (hb | ⟨id, o, h1, h2, rfl⟩)
    · exact r.imm b hb
    · exact (r.obj id o h1 h2).1
  have hv' : VRels (IO I β h) (fun _ => 0) 0 w args' vs := ⟨by rw [ha.1]; exact hv.1, fun j u' v hu hv' => by
    obtain ⟨u, hu0⟩ := getElem?_lt ha.1 hu
    exact .imm _ _ ((ha.2 j u u' hu0 hu).rel r (hv.2 j u v hu0 hv'))⟩
  refine (hc.2 (IO I β h) (fun _ => 0) w vs ⟨hJ, fun id o h => by simp at h, fun id id' o o' h => by simp at h⟩ hv').mono ?_
  rintro e w' ⟨cv, u, I', β', h0, rfl, hr, he, r0, hvr⟩
  obtain ⟨⟨hl1, hl2⟩, hqq⟩ := hq _ _ hr
  have r0' : Rel (fun b => I b ∨ (I' b ∧ w.heap.size ≤ b)) β' h0 w' := by
    refine ⟨fun b hb => ?_, fun id o h1 h2 => ?_, r0.inj⟩
    · rcases hb with hb | hb
      · have := r.imm b hb; have := he.size; omega
      · exact r0.imm b hb.1
    · obtain ⟨q1, q2, q3⟩ := r0.obj id o h1 h2
      refine ⟨q1, fun hx => q2 ?_, q3.lean (hl2 o (List.mem_of_getElem? h1))⟩
      rcases hx with hx | hx
      · exact he.sub _ (.inl hx)
      · exact hx.1
  obtain ⟨h1, h2, h3⟩ := shift_core r he.os he.tape he.output he.size (fun b hb => he.keep b hb own_nil) (fun b hb => (he.own b hb).elim (fun x => absurd x own_nil) id) r0' (fun b hb => .inl hb) (fun b hb => hb.imp id fun x => x.2)
  exact ⟨cv, _, _, _, _, rfl, hqq, h1, h2, h3 _ _ (hvr.lean hl1)⟩

/-- What is told of an own value once nobody writes it any more, and nothing of it lies elsewhere. -/
inductive OFz (h : Heap) : AV → AV → Prop
  | flat (u : AV) : u.flat = true → OFz h u u
  | nils (k : Nat) : OFz h .nils (.isl k [])
  | osl (id k i len cap : Nat) (ex ex' : Bool) (es : List (List AV)) : h[id]? = some (.arr k es ex') → i + len ≤ es.length → (∀ e, e ∈ es → flats e = true) → OFz h (.osl id k i len cap ex) (.isl k ((es.drop i).take len))
  | tup (cs cs' : List AV) : cs'.length = cs.length → (∀ (q : Nat) (u u' : AV), cs[q]? = some u → cs'[q]? = some u' → OFz h u u') → OFz h (.tup cs) (.tup cs')
  | agg (cs cs' : List AV) : cs'.length = cs.length → (∀ (q : Nat) (u u' : AV), cs[q]? = some u → cs'[q]? = some u' → OFz h u u') → OFz h (.agg cs) (.agg cs')
theorem OFz.two {h : Heap} {u v u' v' : AV} (h1 : OFz h u u') (h2 : OFz h v v') : OFz h (.tup [u, v]) (.tup [u', v']) := by
  refine .tup _ _ rfl fun q x x' hx hx' => ?_
  match q with
  | 0 => simp at hx hx'; subst hx hx'; exact h1
  | 1 => simp at hx hx'; subst hx hx'; exact h2
  | q + 2 => simp at hx
theorem OFz.three {h : Heap} {u v t u' v' t' : AV} (h1 : OFz h u u') (h2 : OFz h v v') (h3 : OFz h t t') : OFz h (.tup [u, v, t]) (.tup [u', v', t']) := by
  refine .tup _ _ rfl fun q x x' hx hx' => ?_
  match q with
  | 0 => simp at hx hx'; subst hx hx'; exact h1
  | 1 => simp at hx hx'; subst hx hx'; exact h2
  | 2 => simp at hx hx'; subst hx hx'; exact h3
  | q + 3 => simp at hx
mutual
theorem flat_pure : ∀ (u : AV), u.flat = true → u.pure = true
  | .agg cs, h => by simpa [AV.pure] using flat_pures cs (by simpa [AV.flat] using h)
  | .tup cs, h => by simpa [AV.pure] using flat_pures cs (by simpa [AV.flat] using h)
  | .int .., _ => rfl
  | .bool _, _ => rfl
  | .str _, _ => rfl
  | .flt .., _ => rfl
  | .nilp, _ => rfl
  | .nils, _ => rfl
  | .nilf, _ => rfl
  | .nili, _ => rfl
  | .nilm, _ => rfl
  | .ip .., h => by simp [AV.flat] at h
  | .isl .., h => by simp [AV.flat] at h
  | .op .., h => by simp [AV.flat] at h
  | .osl .., h => by simp [AV.flat] at h
  | .om _, h => by simp [AV.flat] at h
  | .fn .., h => by simp [AV.flat] at h
  | .ifc .., h => by simp [AV.flat] at h
  | .any, h => by simp [AV.flat] at h
theorem flat_pures : ∀ (l : List AV), flats l = true → pures l = true
  | [], _ => rfl
  | a :: l, h => by
    simp only [flats, pures, Bool.and_eq_true] at h ⊢
    exact ⟨flat_pure a h.1, flat_pures l h.2⟩
end
theorem OFz.rel {I : Nat → Prop} {β : Nat → Nat} {h : Heap} {w : World} (r : Rel I β h w) {u u' : AV} (hf : OFz h u u') : ∀ {v : Value}, VRel I β h.length w u v → IRel (Own h β) w u' v := by
  induction hf with
  | flat u hp => intro v hv; exact (hv.toI (flat_pure u hp)).flat hp
  | nils k => intro v hv; rw [hv.nils_inv]; exact .isl0 k none 0
  | osl id k i len cap ex ex' es hid hle hp =>
    intro v hv
    have h1 := (Frz.flat (cap := cap) (ex := ex) hid hle (fun e he => flat_pures e (hp e he))).rel r hv
    have hp' : ∀ e, e ∈ (es.drop i).take len → flats e = true := fun e he => hp e (List.mem_of_mem_drop (List.mem_of_mem_take he))
    obtain ⟨cc, n, hv2, hidl, _⟩ := hv.osl_inv
    generalize (es.drop i).take len = X at h1 hp'
    cases h1 with
    | isl0 k A c => exact .isl0 k A c
    | isl k es' b o c f hne hl hb hk hc ho hr =>
      simp only [Value.slice.injEq, Option.some.injEq, Addr.mk.injEq] at hv2
      exact .isl k _ b o c f hne hl ⟨id, _, hid, by simp, hv2.1.1.symm⟩ hk hc ho (fun j e q u he hu => (hr j e q u he hu).flat (flats_get (hp' e (List.mem_of_getElem? he)) hu))
  | tup cs cs' hl _ ih =>
    intro v hv
    obtain ⟨vs, rfl, h1, h2⟩ := hv.tup_inv
    refine .tup _ _ (by omega) fun j u' v' hu hv' => ?_
    obtain ⟨u, hu0⟩ := getElem?_lt hl hu
    exact ih j u u' hu0 hu (h2 j u v' hu0 hv')
  | agg cs cs' hl _ ih =>
    intro v hv
    obtain ⟨vs, rfl, h1, h2, h3⟩ := hv.agg_inv
    refine .agg _ _ (by omega) h2 fun j u' v' hu hv' => ?_
    obtain ⟨u, hu0⟩ := getElem?_lt hl hu
    exact ih j u u' hu0 hu (h3 j u v' hu0 hv')

/-- A FRESH ANSWER: what one owns lent to a function; what it hands back lies in memory that nobody writes, and the heap stays. -/
theorem acalls_fresh {f : FuncId} {args args' : List AV} {h : Heap} {R Q : AV → Heap → Prop} (hc : ACalls P f args' [] R) (ha : Frzs h args args') (hq : ∀ u h0, R u h0 → ∃ r, OFz h0 u r ∧ Q r h) : ACalls P f args h Q := by
  refine ⟨hc.1, fun I β w vs r hv => ?_⟩
  have hJ : ∀ b, IO I β h b → b < w.heap.size := by
    rintro b (hb | ⟨id, o, h1, h2, rfl⟩)
    · exact r.imm b hb
    · exact (r.obj id o h1 h2).1
  have hv' : VRels (IO I β h) (fun _ => 0) 0 w args' vs := ⟨by rw [ha.1]; exact hv.1, fun j u' v hu hv' => by
    obtain ⟨u, hu0⟩ := getElem?_lt ha.1 hu
    exact .imm _ _ ((ha.2 j u u' hu0 hu).rel r (hv.2 j u v hu0 hv'))⟩
  refine (hc.2 (IO I β h) (fun _ => 0) w vs ⟨hJ, fun id o h => by simp at h, fun id id' o o' h => by simp at h⟩ hv').mono ?_
  rintro e w' ⟨cv, u, I', β', h0, rfl, hr, he, r0, hvr⟩
  obtain ⟨rr, hz, hqq⟩ := hq _ _ hr
  have hown : ∀ b, Own h0 β' b → w.heap.size ≤ b := fun b hb => (he.own b hb).elim (fun x => absurd x own_nil) id
  have hlt : ∀ b, I b ∨ Own h0 β' b → b < w'.heap.size := fun b hb => by
    rcases hb with hb | ⟨id, o, h1, h2, rfl⟩
    · have := r.imm b hb; have := he.size; omega
    · exact (r0.obj id o h1 h2).1
  obtain ⟨h1, h2⟩ := r.pext (J := I) (I' := fun b => I b ∨ Own h0 β' b) (w' := w') r.imm ⟨he.os, he.tape, he.output, he.size, fun b hb => he.keep b hb own_nil, fun b hb => .inl hb, fun b hb => hb.imp id (hown b), hlt⟩ (fun _ x => x)
  exact ⟨cv, rr, _, β, h, rfl, hqq, h1, h2, .imm _ _ ((hz.rel r0 hvr).mono (fun b hb => .inr ⟨.inr hb, hown b hb⟩) (fun _ _ => rfl))⟩
end
end Go.AL
end

section
/- The small logic holds on: of more, where it holds of less; loops told round by round; cuts. No condition. -/
namespace Go.AL
set_option linter.unusedVariables false
set_option linter.unusedSimpArgs false
section
variable {P : Program} {a : Fr} {h : Heap}
theorem storeK_imp {t : TypeId} {p u : AV} {K K' : Heap → Prop} (hK : ∀ h, K h → K' h) (hk : storeK P t h p u K) : storeK P t h p u K' := by
  cases p with
  | op id k e off => exact cellsK_imp (fun cs ⟨h1, es, ex, h2, c, h3, h4, h5⟩ => ⟨h1, es, ex, h2, c, h3, h4, hK _ h5⟩) hk
  | _ => exact hk.elim
theorem makeSliceK_imp {t : TypeId} {l c : AV} {K K' : AV → Heap → Prop} (hK : ∀ u h, K u h → K' u h) (hk : makeSliceK P t h l c K) : makeSliceK P t h l c K' := by
  cases l with
  | int k l => cases c with
    | int k' c => obtain ⟨e, z, b, h1, h2, h3, h4, h5, h6, h7, h8⟩ := hk; exact ⟨e, z, b, h1, h2, h3, h4, h5, h6, h7, hK _ _ h8⟩
    | _ => exact hk.elim
  | _ => exact hk.elim
theorem elemsK_imp {k : Nat} {x : AV} {K K' : List (List AV) → Prop} (hK : ∀ es, K es → K' es) (hk : elemsK h k x K) : elemsK h k x K' := by
  cases x with
  | nils => exact hK _ hk
  | isl k' es => exact ⟨hk.1, hK _ hk.2⟩
  | osl id k' i len cap ex => obtain ⟨h1, es, ex', h2, h3, h4⟩ := hk; exact ⟨h1, es, ex', h2, h3, hK _ h4⟩
  | _ => exact hk.elim
theorem apK_imp {k b : Nat} {s : AV} {xs : List (List AV)} {K K' : AV → Heap → Prop} (hK : ∀ u h, K u h → K' u h) (hk : apK k b h s xs K) : apK k b h s xs K' := by
  cases s with
  | nils => exact ⟨hk.1, fun e => hK _ _ (hk.2.1 e), fun e => hK _ _ (hk.2.2 e)⟩
  | osl id k' i len cap ex =>
    obtain ⟨h1, h2, es, ex', h3, h4, h5, h6⟩ := hk
    refine ⟨h1, h2, es, ex', h3, h4, fun e => ⟨(h5 e).1, hK _ _ (h5 e).2⟩, fun e => ?_⟩
    have := h6 e
    cases ex with
    | true => exact hK _ _ this
    | false => exact ⟨this.1, hK _ _ this.2⟩
  | _ => exact hk.elim
theorem appendK_imp {t t' : TypeId} {s x : AV} {K K' : AV → Heap → Prop} (hK : ∀ u h, K u h → K' u h) (hk : appendK P t t' h s x K) : appendK P t t' h s x K' := by
  rw [appendK_ap] at hk ⊢
  obtain ⟨e, z, b, h1, h2, h3, h4, h5, h6⟩ := hk
  exact ⟨e, z, b, h1, h2, h3, h4, h5, elemsK_imp (fun _ => apK_imp hK) h6⟩
theorem clearK_imp {t : TypeId} {x : AV} {K K' : Heap → Prop} (hK : ∀ h, K h → K' h) (hk : clearK P t h x K) : clearK P t h x K' := by
  cases x with
  | nils => exact ⟨hk.1, hK _ hk.2⟩
  | osl id k i len cap ex => obtain ⟨e, z, h1, h2, h3, es, ex', h4, h5, h6⟩ := hk; exact ⟨e, z, h1, h2, h3, es, ex', h4, h5, hK _ h6⟩
  | _ => exact hk.elim
theorem callK_imp {f : AV} {us : List AV} {K K' : AV → Heap → Prop} (hK : ∀ u h, K u h → K' u h) (hk : callK P f us h K) : callK P f us h K' := by
  cases f with
  | fn g first cap => cases g with
    | func g => exact ACalls.mono' hk hK
    | _ => exact hk.elim
  | _ => exact hk.elim
theorem aop_imp {op : Op} {K K' : AV → Heap → Prop} (hK : ∀ u h, K u h → K' u h) (hk : aop P op a h K) : aop P op a h K' := by
  by_cases hq : quietOp op = true
  · exact aop_quiet hq (fun u => hK u h) hk
  cases op with
  | alloc t => obtain ⟨cs, h1, h2⟩ := hk; exact ⟨cs, h1, hK _ _ h2⟩
  | box t x => simp only [aop] at hk ⊢; exact evK_imp' (fun _ => cellsK_imp fun _ h => hK _ _ h) hk
  | buildSlice t len parts => simp only [aop] at hk ⊢; exact evpK_imp' (fun us ⟨e, z, h1, h2, h3, h4⟩ => ⟨e, z, h1, h2, h3, fillRK_imp (fun _ h => hK _ _ h) h4⟩) hk
  | load t x => simp only [aop] at hk ⊢; exact evK_imp' (fun _ => loadK_imp fun _ h => hK _ _ h) hk
  | store t p x => simp only [aop] at hk ⊢; exact evK_imp' (fun _ => evK_imp' fun _ => storeK_imp fun _ h => hK _ _ h) hk
  | makeSlice t l c => simp only [aop] at hk ⊢; exact evK_imp' (fun _ => evK_imp' fun _ => makeSliceK_imp hK) hk
  | call c =>
    obtain ⟨callee, args, ts⟩ := c
    cases callee with
    | value f => simp only [aop] at hk ⊢; exact evK_imp' (fun _ => evsK_imp' fun _ => callK_imp hK) hk
    | builtin b =>
      cases b with
      | clear =>
        simp only [aop, builtinK] at hk ⊢
        split at hk
        · exact evK_imp' (fun _ => clearK_imp fun h => hK _ h) hk
        · exact hk.elim
      | append =>
        simp only [aop, builtinK] at hk ⊢
        split at hk
        · exact evK_imp' (fun _ => evK_imp' fun _ => appendK_imp hK) hk
        · exact hk.elim
      | _ => first | exact absurd rfl hq | exact hk.elim
    | invoke r m => exact hk.elim
  | _ => first | exact absurd rfl hq | exact hk.elim

variable {n : Nat}
theorem putK_imp {dst : Option Tmp} {v : AV} {K K' : Fr → Prop} (hK : ∀ a, K a → K' a) (hk : putK n dst a v K) : putK n dst a v K' := by
  cases dst with
  | none => exact hK _ hk
  | some d => exact ⟨hk.1, hK _ hk.2⟩
theorem guardK_imp {ops : List Oper} {g : Option (Nat × Bool)} {K K' : Bool → Prop} (hK : ∀ b, K b → K' b) (hk : guardK ops g a K) : guardK ops g a K' := by
  cases g with
  | none => exact hK _ hk
  | some x =>
    obtain ⟨j, want⟩ := x
    simp only [guardK] at hk ⊢
    cases hs : gslot ops j with
    | none => simp [hs] at hk
    | some t =>
      simp only [hs] at hk ⊢
      cases ha : a t with
      | bool b => simp only [ha] at hk ⊢; exact ⟨fun e => hK _ (hk.1 e), fun e => hK _ (hk.2 e)⟩
      | tup l => cases l with
        | nil => simp only [ha] at hk ⊢; exact hK _ hk
        | cons _ _ => simp [ha] at hk
      | _ => simp [ha] at hk
theorem aops_imp {all : List Oper} : ∀ {l : List Oper} {a : Fr} {h : Heap} {K K' : Fr → Heap → Prop}, (∀ a h, K a h → K' a h) → aops P n all l a h K → aops P n all l a h K'
  | [], a, h, K, K', hK, hk => hK _ _ hk
  | o :: l, a, h, K, K', hK, hk => by
    unfold aops at hk ⊢
    refine guardK_imp (fun b hb => ?_) hk
    cases b with
    | true => exact aop_imp (fun u h => putK_imp fun a => aops_imp hK) hb
    | false => exact putK_imp (fun a => aops_imp hK) hb
theorem adr_imp {all : List Oper} : ∀ {pl : Plan} {a : Fr} {h : Heap} {done : List (Nat × Fr × AV)} {K K' : Fr → Heap → Prop}, (∀ a h, K a h → K' a h) → adr P n all pl a h done K → adr P n all pl a h done K'
  | [], a, h, done, K, K', hK, hk => hK _ _ hk
  | (i, keep, rs) :: rest, a, h, done, K, K', hK, hk => by
    unfold adr at hk ⊢
    cases ho : all[i]? with
    | none => rw [ho] at hk; exact hk.elim
    | some o =>
      rw [ho] at hk
      refine guardK_imp (fun b hb => ?_) hk
      cases b with
      | true =>
        simp only at hb ⊢
        cases hp : pureOp o.op with
        | true => rw [hp] at hb; obtain ⟨v, h1, h2⟩ := hb; exact ⟨v, h1, putK_imp (fun a => adr_imp hK) h2⟩
        | false => rw [hp] at hb; exact aop_imp (fun u h ⟨h1, h2⟩ => ⟨h1, putK_imp (fun a => adr_imp hK) h2⟩) hb
      | false => exact putK_imp (fun a => adr_imp hK) hb
theorem adrD_imp {all : List Oper} {pl : Plan} {a : Fr} {h : Heap} {K K' : Fr → Heap → Prop} (hK : ∀ a h, K a h → K' a h) (hk : adrD P n all pl a h K) : adrD P n all pl a h K' := by
  unfold adrD at hk ⊢
  cases ht : twoOf pl with
  | none => rw [ht] at hk; exact adr_imp hK hk
  | some x => obtain ⟨p, t1, t2⟩ := x; rw [ht] at hk; exact adrX_mono (fun a d hh => ⟨adr_imp hK hh.1, adr_imp hK hh.2⟩) _ _ _ hk
variable {pl : Nat → Plan}
theorem thenK_imp {K K' : Fr → Heap → Prop} {Q Q' : Exit → Fr → Heap → Prop} (hK : ∀ a h, K a h → K' a h) (hQ : ∀ e a h, Q e a h → Q' e a h) : ∀ e a h, thenK K Q e a h → thenK K' Q' e a h := fun e a h hk => by
  cases e <;> first | exact hK _ _ hk | exact hQ _ _ _ hk
theorem blockK_imp {id : Nat} {Q Q' : Exit → Fr → Heap → Prop} (hQ : ∀ e a h, Q e a h → Q' e a h) : ∀ e a h, blockK id Q e a h → blockK id Q' e a h := fun e a h hk => by
  cases e with
  | exit j =>
    simp only [blockK] at hk ⊢
    by_cases hj : j = id
    · rw [if_pos hj] at hk ⊢; exact hQ _ _ _ hk
    · rw [if_neg hj] at hk ⊢; exact hQ _ _ _ hk
  | _ => exact hQ _ _ _ hk
theorem asx_imp : ∀ {c : Code} {a : Fr} {h : Heap} {Q Q' : Exit → Fr → Heap → Prop}, (∀ e a h, Q e a h → Q' e a h) → asx P n pl c Q a h → asx P n pl c Q' a h := by
  intro c
  induction c with
  | skip => intro a h Q Q' hQ hk; exact hQ _ _ _ hk
  | region id ops draw =>
    intro a h Q Q' hQ hk
    cases draw with
    | false => exact aops_imp (K := fun a h => Q .normal a h) (K' := fun a h => Q' .normal a h) (fun a h => hQ _ a h) hk
    | true => exact adrD_imp (K := fun a h => Q .normal a h) (K' := fun a h => Q' .normal a h) (fun a h => hQ _ a h) hk
  | seq x y ihx ihy => intro a h Q Q' hQ hk; exact ihx (thenK_imp (fun a h => ihy hQ) hQ) hk
  | cond x t e iht ihe =>
    intro a h Q Q' hQ hk
    refine evK_imp' (fun u hu => ?_) hk
    cases u with
    | bool b => exact ⟨fun e => iht hQ (hu.1 e), fun e => ihe hQ (hu.2 e)⟩
    | _ => exact hu.elim
  | block id c ih => intro a h Q Q' hQ hk; exact ih (blockK_imp hQ) hk
  | loop c ih =>
    intro a h Q Q' hQ hk
    obtain ⟨J, h0, hr⟩ := hk
    exact ⟨J, h0, fun m a1 h1 hj => ih (thenK_imp (fun _ _ x => x) hQ) (hr m a1 h1 hj)⟩
  | exit id => intro a h Q Q' hQ hk; exact hQ _ _ _ hk
  | ret => intro a h Q Q' hQ hk; exact hQ _ _ _ hk
  | label l => intro a h Q Q' hQ hk; exact hQ _ _ _ hk
  | _ => intro a h Q Q' hQ hk; exact hk.elim

/-- A join: what holds ahead of the second part. -/
theorem asx_cut {x y : Code} {Q : Exit → Fr → Heap → Prop} (M : Fr → Heap → Prop) (hx : asx P n pl x (thenK M Q) a h) (hy : ∀ a h, M a h → asx P n pl y Q a h) : asx P n pl (.seq x y) Q a h := by
  unfold asx
  exact asx_imp (thenK_imp hy fun _ _ _ hq => hq) hx

/-- A loop, round by round: at most m of them. -/
def LoopN (P : Program) (n : Nat) (pl : Nat → Plan) (c : Code) (Q : Exit → Fr → Heap → Prop) : Nat → Fr → Heap → Prop
  | 0, _, _ => False
  | m + 1, a, h => asx P n pl c (thenK (LoopN P n pl c Q m) Q) a h
theorem LoopN.loop {c : Code} {Q : Exit → Fr → Heap → Prop} (m : Nat) (hl : LoopN P n pl c Q m a h) : LoopK (asx P n pl c) Q a h := by
  refine LoopK.intro (fun m a h => LoopN P n pl c Q m a h) m hl fun m a1 h1 hj => ?_
  cases m with
  | zero => exact hj.elim
  | succ m => exact asx_imp (thenK_imp (fun a h hk => .inl ⟨m, Nat.lt_succ_self m, hk⟩) fun _ _ _ hq => hq) hj
theorem LoopN_succ {c : Code} {Q : Exit → Fr → Heap → Prop} {m : Nat} : LoopN P n pl c Q (m + 1) a h = asx P n pl c (thenK (LoopN P n pl c Q m) Q) a h := rfl
end
end Go.AL
end

section
/- The small logic's calls, for simp: renamed values and objects; lists of numbers lent. No condition. -/
namespace Go.AL
set_option linter.unusedVariables false
set_option linter.unusedSimpArgs false
def ints (xs : List Int) : AV := .isl 1 (List.map intE xs)
theorem ren_osl {N id k i len cap : Nat} {ex : Bool} : AV.ren (sh N) (.osl id k i len cap ex) = .osl (id + N) k i len cap ex := (rfl)
theorem ren_op {N id k e off : Nat} : AV.ren (sh N) (.op id k e off) = .op (id + N) k e off := (rfl)
theorem ren_int {ρ : Nat → Option Nat} {k : IntKind} {n : Int} : AV.ren ρ (.int k n) = .int k n := (rfl)
theorem ren_bool {ρ : Nat → Option Nat} {b : Bool} : AV.ren ρ (.bool b) = .bool b := (rfl)
theorem ren_nils {ρ : Nat → Option Nat} : AV.ren ρ .nils = .nils := (rfl)
theorem ren_tup {ρ : Nat → Option Nat} {vs : List AV} : AV.ren ρ (.tup vs) = .tup (rens ρ vs) := (rfl)
theorem ren_agg {ρ : Nat → Option Nat} {vs : List AV} : AV.ren ρ (.agg vs) = .agg (rens ρ vs) := (rfl)
theorem ren_isl {ρ : Nat → Option Nat} {k : Nat} {es : List (List AV)} : AV.ren ρ (.isl k es) = .isl k es := (rfl)
theorem rens_nil {ρ : Nat → Option Nat} : rens ρ [] = [] := (rfl)
theorem rens_cons {ρ : Nat → Option Nat} {v : AV} {r : List AV} : rens ρ (v :: r) = v.ren ρ :: rens ρ r := (rfl)
theorem ren_intEs {ρ : Nat → Option Nat} {xs : List Int} {ex : Bool} : Ob.ren ρ (.arr 1 (List.map intE xs) ex) = .arr 1 (List.map intE xs) ex := by
  simp only [Ob.ren, List.map_map]
  congr 1
theorem ren_boolEs {ρ : Nat → Option Nat} {xs : List Bool} {ex : Bool} : Ob.ren ρ (.arr 1 (List.map boolE xs) ex) = .arr 1 (List.map boolE xs) ex := by
  simp only [Ob.ren, List.map_map]
  congr 1
theorem behind_eq {h h0 : Heap} : behind h h0 = h ++ h0.map (Ob.ren (sh h.length)) := (rfl)
theorem map_one {α β : Type} {f : α → β} {x : α} : List.map f [x] = [f x] := (rfl)
theorem lean_intEs {xs : List Int} {ex : Bool} : (Ob.arr 1 (List.map intE xs) ex).lean = true := by
  simp [Ob.lean, leans, intE, AV.lean]
/-- A list of numbers of one's own, lent. -/
theorem frz_ints {h : Heap} {id len cap : Nat} {ex ex' : Bool} {l l' : List Int} (hid : h[id]? = some (.arr 1 (List.map intE l') ex')) (hl : l'.take len = l) (hn : l.length = len) : Frz h (.osl id 1 0 len cap ex) (ints l) := by
  have h1 : len ≤ l'.length := by
    have := congrArg List.length hl
    rw [List.length_take] at this
    omega
  have := Frz.flat (h := h) (id := id) (k := 1) (i := 0) (len := len) (cap := cap) (ex := ex) hid (by simpa using h1) (fun e he => by
    obtain ⟨x, _, rfl⟩ := List.mem_map.1 he; rfl)
  rw [List.drop_zero, ← List.map_take, hl] at this
  exact this
theorem frz_isl {h : Heap} {l : List Int} : Frz h (.isl 1 (List.map intE l)) (ints l) := .pure _ rfl
theorem ofz_ints {h : Heap} {id len cap : Nat} {ex ex' : Bool} {l : List Int} (hid : h[id]? = some (.arr 1 (List.map intE l) ex')) (hl : len = l.length) : OFz h (.osl id 1 0 len cap ex) (ints l) := by
  have := OFz.osl (h := h) id 1 0 len cap ex ex' (List.map intE l) hid (by simp; omega) (fun e he => by
    obtain ⟨x, _, rfl⟩ := List.mem_map.1 he; rfl)
  rw [List.drop_zero, List.take_of_length_le (by simp; omega)] at this
  exact this
end Go.AL
end

section
/- From what the small logic shows of a law to the statement: the arguments as trees, what the call leaves. No condition. -/
namespace Go.Proofs.Ytgdlkhgfehclpaa
open Go Go.AL Go.ChangeShapes Go.WideShapes Go.ChangeAt Go.RowKit
set_option linter.unusedVariables false
set_option linter.unusedSimpArgs false
theorem zOwn : ownKnob Try.prog.godebug = none := by kernel_rfl
theorem zLaidOut : laidOutB Try.prog = true := by kernel_rfl

/-! ### the bound -/
theorem bulk_one {H : Type} (d : DataW H) : 1 ≤ Rows.uptoBulk d := by
  cases d with
  | lit l => cases l <;> simp [Rows.uptoBulk]
  | _ => simp [Rows.uptoBulk]
theorem bulk_len {H : Type} (l : List (DataW H)) : l.length ≤ Rows.uptoBulkAll l := by
  induction l with
  | nil => simp
  | cons x r ih => have := bulk_one x; simp only [Rows.uptoBulkAll, List.length_cons]; omega
theorem bulk_part {H : Type} {d : DataW H} : ∀ {l : List (DataW H)}, d ∈ l → Rows.uptoBulk d ≤ Rows.uptoBulkAll l
  | x :: r, h => by
    simp only [Rows.uptoBulkAll]
    rcases List.mem_cons.1 h with e | e
    · subst e; omega
    · have := bulk_part e; omega
theorem bulk_slice {H : Type} (elems spare : List (DataW H)) : elems.length ≤ Rows.uptoBulk (.slice elems spare) := by
  have h1 := bulk_len elems
  simp only [Rows.uptoBulk]
  omega
theorem bulk_agg {H : Type} (parts : List (DataW H)) : Rows.uptoBulkAll parts ≤ Rows.uptoBulk (.agg parts) := by
  simp only [Rows.uptoBulk]
  omega
theorem bulk_ok {H : Type} {l : List (DataW H)} (hk : Rows.uptoSmall H l = true) : Rows.uptoBulkAll l ≤ 1048576 := by
  simpa [Rows.uptoSmall] using hk

/-! ### the arguments -/
abbrev allOf (W : World) : Nat → Prop := fun b => b < W.heap.size
theorem cell_lt {W : World} {a : Addr} {v : Value} (h : W.cell? a = some v) : a.block < W.heap.size := by
  unfold World.cell? at h
  rcases Nat.lt_or_ge a.block W.heap.size with hlt | hge
  · exact hlt
  · rw [Array.getElem?_eq_none hge] at h
    simp at h
theorem irel_ints {W : World} {a : Addr} {len cap : Nat} {zs : List Int} (hl : len ≤ zs.length) (hc : len ≤ cap) (hcell : ∀ i, i < zs.length → W.cell? (a.add i) = some (.int .i64 (zs.getD i 0))) :
    IRel (allOf W) W (ints (zs.take len)) (.slice (some a) len cap) := by
  rcases Nat.eq_zero_or_pos len with h0 | h0
  · subst h0
    exact .isl0 1 _ _
  · obtain ⟨b, off, rfl, hx⟩ := ints_at hcell (by omega)
    have hlen : (List.map intE (zs.take len)).length = len := by simp; omega
    have key : ∀ (i : Nat) (e : List AV), (List.map intE (zs.take len))[i]? = some e → i < zs.length ∧ e = [AV.int .i64 (zs.getD i 0)] := by
      intro i e hi
      have hlt := (List.getElem?_eq_some_iff.1 hi).1
      rw [hlen] at hlt
      rw [List.getElem?_map, List.getElem?_take, if_pos hlt, List.getElem?_eq_getElem (by omega)] at hi
      simp only [Option.map_some, Option.some.injEq] at hi
      refine ⟨by omega, ?_⟩
      rw [← hi]
      simp [intE, List.getD_eq_getElem?_getD, List.getElem?_eq_getElem (show i < zs.length by omega)]
    have hr := IRel.isl (I := allOf W) (w := W) 1 (List.map intE (zs.take len)) b off cap (fun i _ => .int .i64 (zs.getD i 0)) (by intro e; rw [e] at hlen; simp at hlen; omega) (by rw [hlen]; exact hc) (by have := cell_lt (hx 0 (by omega)); exact this)
      (fun i e hi => by rw [(key i e hi).2]; rfl) (fun i e j u hi hj => by
        obtain ⟨h1, h2⟩ := key i e hi
        subst h2
        have hj0 : j = 0 := by
          have := (List.getElem?_eq_some_iff.1 hj).1
          simp at this
          exact this
        subst hj0
        rw [show off + (i * 1 + 0) = off + i by omega]
        exact hx i h1) (fun i e j u hi hj => rfl) (fun i e j u hi hj => by
        obtain ⟨h1, h2⟩ := key i e hi
        subst h2
        have hj0 : j = 0 := by
          have := (List.getElem?_eq_some_iff.1 hj).1
          simp at this
          exact this
        subst hj0
        simp at hj
        rw [← hj]
        exact .int _ _)
    rw [hlen] at hr
    exact hr
/-- An argument that is a list of numbers. -/
theorem open_list {H : Type} {enc : TypeId × Value → H} {W : World} {t e : TypeId} {fuel : Nat} {v : Value} {d : DataW H} {p : List MemPlace} (ht : Try.prog.underlying t = some (.slice e)) (he : Try.prog.underlying e = some (.int .i64)) (hc : Try.prog.cellsOf e = 1)
    (hv : ∃ a len cap, v = .slice a len cap) (h : DataW.trod enc Try.prog W 0 (fun _ => true) true fuel t v.cells.toList = some (d, p)) : ∃ xs : List Int, IRel (allOf W) W (ints xs) v ∧ xs.length ≤ Rows.uptoBulk d := by
  obtain ⟨a0, len0, cap0, rfl⟩ := hv
  rcases open_ints ht he hc h with ⟨hcs, hx⟩ | ⟨a, len, cap, zs, hcs, _, hl, hm, hz, hx, hcell, _⟩
  · simp [Value.cells] at hcs
    obtain ⟨rfl, rfl, rfl⟩ := hcs
    exact ⟨[], .isl0 1 _ _, by simp⟩
  · simp [Value.cells] at hcs
    obtain ⟨rfl, rfl, rfl⟩ := hcs
    simp only [Prod.mk.injEq] at hx
    obtain ⟨rfl, _⟩ := hx
    simp only [if_true] at hz
    refine ⟨zs.take len0, irel_ints (by omega) hl hcell, ?_⟩
    refine Nat.le_trans ?_ (bulk_slice _ _)
    simp [lits]

/-! ### the call -/
theorem calls_true {f : FuncId} {us : List AV} {vs : List Value} {W : World} (hc : ACalls Try.prog f us [] fun v h => OFz h v (.bool true)) (hl : vs.length = us.length) (hv : ∀ (j : Nat) (u : AV) (v : Value), us[j]? = some u → vs[j]? = some v → IRel (allOf W) W u v) :
    Calls Try.prog f vs.toArray W fun e W' => e = .returned (.bool true) ∧ Below W.heap.size W W' := by
  refine (hc.2 (allOf W) (fun _ => 0) W vs ⟨fun b hb => hb, fun id o h => by simp at h, fun id id' o o' h => by simp at h⟩ ⟨hl.symm, fun j u v hu hv' => .imm _ _ (hv j u v hu hv')⟩).mono ?_
  rintro e w' ⟨cv, u, I', β', h', rfl, hq, hE, hR, hv'⟩
  refine ⟨?_, ⟨hE.os, hE.tape, hE.output, hE.size, fun k hk => hE.keep k hk (fun ⟨id, o, h1, _⟩ => by simp at h1)⟩⟩
  have hu : u = .bool true := by
    cases hq
    rfl
  subst hu
  cases hv' with
  | imm _ _ hi => cases hi; rfl
theorem trodAll_stays {H : Type} {enc : TypeId × Value → H} {W W' : World} {sp : Nat → Bool} (hb : Below W.heap.size W W') : ∀ {ts : List TypeId} {vs : List Value} {ds : List (DataW H)} {ps : List MemPlace}, (∀ t ∈ ts, Try.prog.readableRec t = true ∧ t < Try.prog.types.size) →
    DataW.TrodAll enc Try.prog W 0 (fun _ => true) true ts vs ds ps → (∀ x ∈ ps, x.block < W.heap.size) → (∀ x ∈ ps, sp x.block = true) → DataW.TrodAll enc Try.prog W' 0 sp true ts vs ds ps
  | [], [], [], _, _, h, _, _ => h
  | _ :: _, _ :: _, _ :: _, _, hT, ⟨p, q, h1, h2, e⟩, hlt, hs => by
    subst e
    exact ⟨p, q, WideElems.Trod_stays zLaidOut (hT _ List.mem_cons_self).1 (hT _ List.mem_cons_self).2 h1 (fun x hx => hb.same (hlt x (List.mem_append_left _ hx))) (fun x hx => hs x (List.mem_append_left _ hx)),
      trodAll_stays hb (fun t ht => hT t (List.mem_cons_of_mem _ ht)) h2 (fun x hx => hlt x (List.mem_append_right _ hx)) (fun x hx => hs x (List.mem_append_right _ hx)), rfl⟩
/-- 'post' of a law that came out true and wrote nothing of what was there. -/
theorem post_true {H : Type} {enc : TypeId × Value → H} {f : Func} {s : ChangeSpec} {W W' : World} {args : Array Value} {ds : List (DataW H)} {p : List MemPlace} (hW : DataW.Whole enc Try.prog f.params.toList s.vars false W args.toList ds [] (p ++ []))
    (hA : DataW.TrodAll enc Try.prog W 0 (fun _ => true) true f.params.toList args.toList ds p) (hT : ∀ t ∈ f.params.toList, Try.prog.readableRec t = true ∧ t < Try.prog.types.size) (hr : f.resultTypes = #[4]) (hs : s.fn H (ds ++ []) = { results := [.lit (.bool true)], args := ds }) (hv : s.vars = [])
    (hb : Below W.heap.size W W') : s.post enc Try.prog f false true false false W args (.bool true) W' := by
  have hlt : ∀ x ∈ p, x.block < W.heap.size := fun x hx => hW.lt x (List.mem_append_left _ hx)
  refine ⟨ds, [], p ++ [], [], p, [], hW, ?_, ?_, ?_, ?_, fun h => by cases h⟩
  · rw [hr, hs]
    exact trodAll_cons_mk (shut_bool Try.underlying4 _) trodAll_mk0
  · rw [hs]
    exact trodAll_stays hb hT hA hlt (fun x hx => by simpa using hlt x hx)
  · rw [hs, hv]
    rfl
  · exact hb.frame _
end Go.Proofs.Ytgdlkhgfehclpaa
end
