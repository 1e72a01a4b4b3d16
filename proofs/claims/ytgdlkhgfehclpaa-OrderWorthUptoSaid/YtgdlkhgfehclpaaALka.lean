/- The small logic's heaps, objects renamed, the forgotten left out. No condition. -/
import Derived.Test.YtgdlkhgfehclpaaALkb
namespace Go.AL
set_option linter.unusedVariables false
set_option linter.unusedSimpArgs false
mutual
/-- A value with its objects renamed; of one that is left out nothing is known. -/
def AV.ren (ρ : Nat → Option Nat) : AV → AV
  | .op id k e off => match ρ id with | some j => .op j k e off | none => .any
  | .osl id k i len cap ex => match ρ id with | some j => .osl j k i len cap ex | none => .any
  | .om id => match ρ id with | some j => .om j | none => .any
  | .fn f fs cs => .fn f (rens ρ fs) (rens ρ cs)
  | .ifc t v => .ifc t (v.ren ρ)
  | .agg cs => .agg (rens ρ cs)
  | .tup cs => .tup (rens ρ cs)
  | .int k n => .int k n
  | .bool b => .bool b
  | .str s => .str s
  | .flt k n => .flt k n
  | .nilp => .nilp
  | .nils => .nils
  | .nilf => .nilf
  | .nili => .nili
  | .nilm => .nilm
  | .ip c o => .ip c o
  | .isl k es => .isl k es
  | .any => .any
def rens (ρ : Nat → Option Nat) : List AV → List AV
  | [] => []
  | v :: r => v.ren ρ :: rens ρ r
end
theorem rens_length (ρ : Nat → Option Nat) : ∀ l, (rens ρ l).length = l.length
  | [] => rfl
  | v :: r => by simp [rens, rens_length ρ r]
theorem rens_get {ρ : Nat → Option Nat} : ∀ {l : List AV} {j : Nat} {u : AV}, (rens ρ l)[j]? = some u → ∃ u0, l[j]? = some u0 ∧ u = u0.ren ρ
  | [], j, u, h => by simp [rens] at h
  | v :: r, 0, u, h => by simp [rens] at h; exact ⟨v, rfl, h.symm⟩
  | v :: r, j + 1, u, h => by simp [rens] at h; obtain ⟨u0, h1, h2⟩ := rens_get h; exact ⟨u0, by simpa using h1, h2⟩
def Ob.ren (ρ : Nat → Option Nat) : Ob → Ob
  | .dead => .dead
  | .arr k es ex => .arr k (es.map (rens ρ)) ex
  | .map es c => .map (es.map fun x => (x.1.ren ρ, x.2.1.ren ρ, x.2.2)) c

section
variable {I : Nat → Prop} {β β' : Nat → Nat} {N N' : Nat} {w : World} {ρ : Nat → Option Nat}
theorem IRel.ren {u : AV} {v : Value} (h : IRel I w u v) : IRel I w (u.ren ρ) v := by
  induction h with
  | int k n => exact .int k n
  | bool b => exact .bool b
  | str s => exact .str s
  | flt k n => exact .flt k n
  | nilp => exact .nilp
  | nils => exact .nils
  | nilf => exact .nilf
  | nili => exact .nili
  | nilm => exact .nilm
  | ip cells off b o vs hb hl hc h1 hr ih => exact .ip cells off b o vs hb hl hc h1 hr
  | isl0 k A c => exact .isl0 k A c
  | isl k es b o c f hne hl hb hk hc ho hr ih => exact .isl k es b o c f hne hl hb hk hc ho hr
  | fn f fs cs fs' cs' h1 h2 _ _ ih1 ih2 =>
    refine .fn f _ _ fs' cs' (by rw [rens_length]; exact h1) (by rw [rens_length]; exact h2) (fun j u v hu hv => ?_) (fun j u v hu hv => ?_)
    · obtain ⟨u0, h3, rfl⟩ := rens_get hu; exact ih1 j u0 v h3 hv
    · obtain ⟨u0, h3, rfl⟩ := rens_get hu; exact ih2 j u0 v h3 hv
  | ifc t u v _ ih => exact .ifc t _ v ih
  | agg cs cs' h1 h2 _ ih =>
    refine .agg _ cs' (by rw [rens_length]; exact h1) h2 (fun j u v hu hv => ?_)
    obtain ⟨u0, h3, rfl⟩ := rens_get hu; exact ih j u0 v h3 hv
  | tup cs cs' h1 _ ih =>
    refine .tup _ cs' (by rw [rens_length]; exact h1) (fun j u v hu hv => ?_)
    obtain ⟨u0, h3, rfl⟩ := rens_get hu; exact ih j u0 v h3 hv
theorem VRel.ren {u : AV} {v : Value} (h : VRel I β N w u v) (hρ : ∀ id j, id < N → ρ id = some j → j < N' ∧ β' j = β id) : VRel I β' N' w (u.ren ρ) v := by
  induction h with
  | imm u v h => exact .imm _ _ h.ren
  | any v => exact .any v
  | op id k e off h =>
    simp only [AV.ren]
    cases hr : ρ id with
    | none => exact .any _
    | some j => obtain ⟨h1, h2⟩ := hρ id j h hr; rw [← h2]; exact .op j k e off h1
  | osl id k i len cap ex c n h h0 h1 h2 h3 h4 =>
    simp only [AV.ren]
    cases hr : ρ id with
    | none => exact .any _
    | some j => obtain ⟨q1, q2⟩ := hρ id j h hr; rw [← q2]; exact .osl j k i len cap ex c n q1 h0 h1 h2 (by rw [q2]; exact h3) h4
  | om id h =>
    simp only [AV.ren]
    cases hr : ρ id with
    | none => exact .any _
    | some j => obtain ⟨h1, h2⟩ := hρ id j h hr; rw [← h2]; exact .om j h1
  | fn f fs cs fs' cs' h1 h2 _ _ ih1 ih2 =>
    refine .fn f _ _ fs' cs' (by rw [rens_length]; exact h1) (by rw [rens_length]; exact h2) (fun j u v hu hv => ?_) (fun j u v hu hv => ?_)
    · obtain ⟨u0, h3, rfl⟩ := rens_get hu; exact ih1 j u0 v h3 hv
    · obtain ⟨u0, h3, rfl⟩ := rens_get hu; exact ih2 j u0 v h3 hv
  | ifc t u v _ ih => exact .ifc t _ v ih
  | agg cs cs' h1 h2 _ ih =>
    refine .agg _ cs' (by rw [rens_length]; exact h1) h2 (fun j u v hu hv => ?_)
    obtain ⟨u0, h3, rfl⟩ := rens_get hu; exact ih j u0 v h3 hv
  | tup cs cs' h1 _ ih =>
    refine .tup _ cs' (by rw [rens_length]; exact h1) (fun j u v hu hv => ?_)
    obtain ⟨u0, h3, rfl⟩ := rens_get hu; exact ih j u0 v h3 hv
theorem ORel.ren {o : Ob} {x : Option Obj} (h : ORel I β N w o x) (hρ : ∀ id j, id < N → ρ id = some j → j < N' ∧ β' j = β id) : ORel I β' N' w (o.ren ρ) x := by
  cases o with
  | dead => trivial
  | arr k es ex =>
    obtain ⟨cur, t, h1, h2, h3, h4, h5⟩ := h
    refine ⟨cur, t, h1, fun i e he => ?_, by simpa using h3, by simpa using h4, fun i e j u he hu => ?_⟩
    · rw [List.getElem?_map] at he
      cases hes : es[i]? with
      | none => rw [hes] at he; simp at he
      | some e0 => rw [hes] at he; simp at he; subst he; rw [rens_length]; exact h2 i e0 hes
    · rw [List.getElem?_map] at he
      cases hes : es[i]? with
      | none => rw [hes] at he; simp at he
      | some e0 =>
        rw [hes] at he; simp at he; subst he
        obtain ⟨u0, hu0, rfl⟩ := rens_get hu
        obtain ⟨v, h6, h7, h8⟩ := h5 i e0 j u0 hes hu0
        exact ⟨v, h6, h7.ren hρ, h8⟩
  | map es c =>
    obtain ⟨es', h1, h2, h3⟩ := h
    refine ⟨es', h1, by simpa using h2, fun j x y hx hy => ?_⟩
    rw [List.getElem?_map] at hx
    cases hes : es[j]? with
    | none => rw [hes] at hx; simp at hx
    | some x0 =>
      rw [hes] at hx; simp at hx; subst hx
      obtain ⟨q1, q2, q3⟩ := h3 j x0 y hes hy
      exact ⟨q1.ren hρ, q2.ren hρ, q3⟩
theorem Ob.ren_dead {o : Ob} (h : o.ren ρ ≠ .dead) : o ≠ .dead := by rintro rfl; exact h rfl
end

/-! ### leaving out -/
def posOf : List Nat → Nat → Option Nat
  | [], _ => none
  | x :: r, id => if x = id then some 0 else (posOf r id).map (· + 1)
theorem posOf_get : ∀ {ids : List Nat} {id j : Nat}, posOf ids id = some j → ids[j]? = some id
  | [], id, j, h => by simp [posOf] at h
  | x :: r, id, j, h => by
    unfold posOf at h
    split at h
    · rename_i e; simp at h; subst h; simp [e]
    · cases hp : posOf r id with
      | none => rw [hp] at h; simp at h
      | some j' => rw [hp] at h; simp at h; subst h; simpa using posOf_get hp
def gcH (ids : List Nat) (h : Heap) : Heap := ids.map fun id => (match h[id]? with | some o => o.ren (posOf ids) | none => .dead)
def gcF (ids : List Nat) (a : Fr) : Fr := fun t => (a t).ren (posOf ids)
def gcB (ids : List Nat) (β : Nat → Nat) : Nat → Nat := fun i => β (ids.getD i 0)
theorem gc_hρ {ids : List Nat} {β : Nat → Nat} {N : Nat} (id j : Nat) (hid : id < N) (h : posOf ids id = some j) : j < ids.length ∧ gcB ids β j = β id := by
  have h1 := posOf_get h
  exact ⟨(List.getElem?_eq_some_iff.1 h1).1, by simp [gcB, List.getD_eq_getElem?_getD, h1]⟩
theorem nodup_get : ∀ {l : List Nat} {i j x : Nat}, l.Nodup → l[i]? = some x → l[j]? = some x → i = j
  | [], i, j, x, _, h, _ => by simp at h
  | y :: r, 0, 0, x, _, _, _ => rfl
  | y :: r, 0, j + 1, x, hn, h, h' => by
    simp at h h'; subst h
    exact absurd (List.mem_of_getElem? h') (List.nodup_cons.1 hn).1
  | y :: r, i + 1, 0, x, hn, h, h' => by
    simp at h h'; subst h'
    exact absurd (List.mem_of_getElem? h) (List.nodup_cons.1 hn).1
  | y :: r, i + 1, j + 1, x, hn, h, h' => by
    simp at h h'
    rw [nodup_get (List.nodup_cons.1 hn).2 h h']
theorem gcH_length {ids : List Nat} {h : Heap} : (gcH ids h).length = ids.length := by simp [gcH]
theorem gcH_get {ids : List Nat} {h : Heap} {i : Nat} {o : Ob} (ho : (gcH ids h)[i]? = some o) (hd : o ≠ .dead) : ∃ id o0, ids[i]? = some id ∧ h[id]? = some o0 ∧ o = o0.ren (posOf ids) ∧ o0 ≠ .dead := by
  unfold gcH at ho
  rw [List.getElem?_map] at ho
  cases hi : ids[i]? with
  | none => rw [hi] at ho; simp at ho
  | some id =>
    rw [hi] at ho
    simp only [Option.map_some, Option.some.injEq] at ho
    cases hh : h[id]? with
    | none => rw [hh] at ho; exact absurd ho.symm hd
    | some o0 =>
      rw [hh] at ho
      have ho' : o0.ren (posOf ids) = o := ho
      exact ⟨id, o0, rfl, hh, ho'.symm, Ob.ren_dead (ρ := posOf ids) (by rw [ho']; exact hd)⟩
theorem gcB_get {ids : List Nat} {β : Nat → Nat} {i id : Nat} (h : ids[i]? = some id) : gcB ids β i = β id := by simp [gcB, List.getD_eq_getElem?_getD, h]
section
variable {I : Nat → Prop} {β : Nat → Nat} {h : Heap} {w : World} {ids : List Nat}
theorem Rel.gc (r : Rel I β h w) (hn : ids.Nodup) : Rel I (gcB ids β) (gcH ids h) w := by
  refine ⟨r.imm, fun i o ho hd => ?_, fun i i' o o' ho hd ho' hd' hb => ?_⟩
  · obtain ⟨id, o0, h1, h2, rfl, h3⟩ := gcH_get ho hd
    obtain ⟨q1, q2, q3⟩ := r.obj id o0 h2 h3
    rw [gcB_get h1]
    refine ⟨q1, q2, ?_⟩
    rw [gcH_length]
    exact q3.ren fun id j hid hj => gc_hρ id j hid hj
  · obtain ⟨id, o0, h1, h2, rfl, h3⟩ := gcH_get ho hd
    obtain ⟨id', o0', h1', h2', rfl, h3'⟩ := gcH_get ho' hd'
    rw [gcB_get h1, gcB_get h1'] at hb
    have := r.inj id id' o0 o0' h2 h3 h2' h3' hb
    subst this
    exact nodup_get hn h1 h1'
theorem VRel.gc {u : AV} {v : Value} (f : VRel I β h.length w u v) : VRel I (gcB ids β) (gcH ids h).length w (u.ren (posOf ids)) v := by
  rw [gcH_length]
  exact f.ren fun id j hid hj => gc_hρ id j hid hj
theorem FRel.gc {n : Nat} {a : Fr} {c : Act} (f : FRel I β h.length w n a c) : FRel I (gcB ids β) (gcH ids h).length w n (gcF ids a) c := ⟨fun t => (f.val t).gc, f.size, f.defers⟩
theorem Ext.gc {I0 : Nat → Prop} {β0 : Nat → Nat} {h0 : Heap} {w0 : World} (x : Ext I0 β0 h0 w0 I β h w) (hb : ids.take h0.length = List.range h0.length) : Ext I0 β0 h0 w0 I (gcB ids β) (gcH ids h) w := by
  have hl : h0.length ≤ ids.length := by
    have := congrArg List.length hb
    simp at this
    omega
  have hg : ∀ id, id < h0.length → ids[id]? = some id := fun id hid => by
    have : (ids.take h0.length)[id]? = some id := by rw [hb]; simp [hid]
    rwa [List.getElem?_take_of_lt hid] at this
  refine ⟨x.os, x.tape, x.output, x.size, by rw [gcH_length]; exact hl, fun id hid => by rw [gcB_get (hg id hid)]; exact x.beta id hid, x.sub, x.immnew, fun b hb' => ?_, x.keep, x.bs⟩
  obtain ⟨i, o, ho, hd, rfl⟩ := hb'
  obtain ⟨id, o0, h1, h2, rfl, h3⟩ := gcH_get ho hd
  rw [gcB_get h1]
  exact x.own _ ⟨id, o0, h2, h3, rfl⟩
end
/-- Objects left out: those of 'ids' stay, in this order; the first N are the first N. -/
def GcK (N : Nat) (a : Fr) (h : Heap) (K : Fr → Heap → Prop) : Prop := ∃ ids : List Nat, (ids.Nodup ∧ ids.take N = List.range N) ∧ K (gcF ids a) (gcH ids h)
end Go.AL
