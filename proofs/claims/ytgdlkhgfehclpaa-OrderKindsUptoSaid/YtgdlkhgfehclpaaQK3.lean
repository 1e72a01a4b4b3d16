/- Texts of one claim bound together: ALq, ALr, ALs, PZa, Facts, Fns. -/
import Derived.Test.YtgdlkhgfehclpaaQK2
import Derived.Test.YtgdlkhgfehclpaaRows
import Derived.ProofKit
import Derived.OpenShut
import Derived.JoinedCond
import Derived.Test.YtgdlkhgfehclpaaProg
import Derived.KernelRfl

section
/- The small logic's calls: objects left out; a function's own objects laid behind the caller's; fresh answers; loops told round by round; cuts. No condition. -/
namespace Go.AL
set_option linter.unusedVariables false
set_option linter.unusedSimpArgs false
section
variable {P : Program}

theorem ACalls.mono' {f : FuncId} {args : List AV} {h : Heap} {Q Q' : AV → Heap → Prop} (hc : ACalls P f args h Q) (hq : ∀ u h', Q u h' → Q' u h') : ACalls P f args h Q' := by
  refine ⟨hc.1, fun I β w vs r hv => (hc.2 I β w vs r hv).mono ?_⟩
  rintro e w' ⟨cv, u, I', β', h', h1, h2, h3⟩
  exact ⟨cv, u, I', β', h', h1, hq _ _ h2, h3⟩
theorem acalls_gc {f : FuncId} {args : List AV} {h : Heap} {Q : AV → Heap → Prop} (hc : ACalls P f args h fun u h' => ∃ ids : List Nat, (ids.Nodup ∧ ids.take h.length = List.range h.length) ∧ Q (u.ren (posOf ids)) (gcH ids h')) : ACalls P f args h Q := by
  refine ⟨hc.1, fun I β w vs r hv => (hc.2 I β w vs r hv).mono ?_⟩
  rintro e w' ⟨cv, u, I', β', h', h1, ⟨ids, ⟨h2, h3⟩, h4⟩, h5, h6, h7⟩
  exact ⟨cv, _, I', _, _, h1, h4, h5.gc h3, h6.gc h2, h7.gc⟩

/-! ### objects laid behind -/
def sh (N : Nat) : Nat → Option Nat := fun id => some (id + N)
def behind (h h0 : Heap) : Heap := h ++ h0.map (Ob.ren (sh h.length))
mutual
/-- Nothing in it lies in memory that is not its own. -/
def AV.lean : AV → Bool
  | .ip .. => false
  | .isl .. => false
  | .fn _ fs cs => leans fs && leans cs
  | .ifc _ v => v.lean
  | .agg cs => leans cs
  | .tup cs => leans cs
  | .int .. => true
  | .bool _ => true
  | .str _ => true
  | .flt .. => true
  | .nilp => true
  | .nils => true
  | .nilf => true
  | .nili => true
  | .nilm => true
  | .op .. => true
  | .osl .. => true
  | .om _ => true
  | .any => true
def leans : List AV → Bool
  | [] => true
  | v :: r => v.lean && leans r
end
theorem leans_get {l : List AV} (h : leans l = true) {j : Nat} {u : AV} (hj : l[j]? = some u) : u.lean = true := by
  induction l generalizing j with
  | nil => simp at hj
  | cons v r ih =>
    simp only [leans, Bool.and_eq_true] at h
    cases j with
    | zero => simp at hj; subst hj; exact h.1
    | succ j => simp at hj; exact ih h.2 hj
def Ob.lean : Ob → Bool
  | .dead => true
  | .arr _ es _ => es.all leans
  | .map es _ => es.all fun x => x.1.lean && x.2.1.lean
section
variable {I I' : Nat → Prop} {β : Nat → Nat} {N : Nat} {w : World}
theorem IRel.lean {u : AV} {v : Value} (h : IRel I w u v) (hl : u.lean = true) : IRel I' w u v := by
  induction h with
  | int k n => exact .int k n
  | bool b => exact .bool b
  | str s => exact .str s
  | flt k n => exact .flt k n
  | nilp => exact .nilp
  | nils => exact .nils
  | nilf => exact .nilf
  | nili => exact .nili
  | nilm => exact .nilm
  | ip _ _ _ _ _ _ _ _ _ _ _ => simp [AV.lean] at hl
  | isl0 _ _ _ => simp [AV.lean] at hl
  | isl _ _ _ _ _ _ _ _ _ _ _ _ _ _ => simp [AV.lean] at hl
  | fn f fs cs fs' cs' h1 h2 _ _ ih1 ih2 =>
    simp only [AV.lean, Bool.and_eq_true] at hl
    exact .fn f fs cs fs' cs' h1 h2 (fun j u v hu hv => ih1 j u v hu hv (leans_get hl.1 hu)) (fun j u v hu hv => ih2 j u v hu hv (leans_get hl.2 hu))
  | ifc t u v _ ih => exact .ifc t u v (ih (by simpa [AV.lean] using hl))
  | agg cs cs' h1 h2 _ ih => exact .agg cs cs' h1 h2 (fun j u v hu hv => ih j u v hu hv (leans_get (by simpa [AV.lean] using hl) hu))
  | tup cs cs' h1 _ ih => exact .tup cs cs' h1 (fun j u v hu hv => ih j u v hu hv (leans_get (by simpa [AV.lean] using hl) hu))
theorem VRel.lean {u : AV} {v : Value} (h : VRel I β N w u v) (hl : u.lean = true) : VRel I' β N w u v := by
  induction h with
  | imm u v h => exact .imm u v (h.lean hl)
  | any v => exact .any v
  | op id k e off h => exact .op id k e off h
  | osl id k i len cap ex c n h h0 h1 h2 h3 h4 => exact .osl id k i len cap ex c n h h0 h1 h2 h3 h4
  | om id h => exact .om id h
  | fn f fs cs fs' cs' h1 h2 _ _ ih1 ih2 =>
    simp only [AV.lean, Bool.and_eq_true] at hl
    exact .fn f fs cs fs' cs' h1 h2 (fun j u v hu hv => ih1 j u v hu hv (leans_get hl.1 hu)) (fun j u v hu hv => ih2 j u v hu hv (leans_get hl.2 hu))
  | ifc t u v _ ih => exact .ifc t u v (ih (by simpa [AV.lean] using hl))
  | agg cs cs' h1 h2 _ ih => exact .agg cs cs' h1 h2 (fun j u v hu hv => ih j u v hu hv (leans_get (by simpa [AV.lean] using hl) hu))
  | tup cs cs' h1 _ ih => exact .tup cs cs' h1 (fun j u v hu hv => ih j u v hu hv (leans_get (by simpa [AV.lean] using hl) hu))
theorem ORel.lean {o : Ob} {x : Option Obj} (h : ORel I β N w o x) (hl : o.lean = true) : ORel I' β N w o x := by
  cases o with
  | dead => trivial
  | arr k es ex =>
    obtain ⟨cur, t, h1, h2, h3, h4, h5⟩ := h
    refine ⟨cur, t, h1, h2, h3, h4, fun i e j u he hu => ?_⟩
    obtain ⟨v, h6, h7, h8⟩ := h5 i e j u he hu
    simp only [Ob.lean, List.all_eq_true] at hl
    exact ⟨v, h6, h7.lean (leans_get (hl e (List.mem_of_getElem? he)) hu), h8⟩
  | map es c =>
    obtain ⟨es', h1, h2, h3⟩ := h
    refine ⟨es', h1, h2, fun j x y hx hy => ?_⟩
    obtain ⟨q1, q2, q3⟩ := h3 j x y hx hy
    simp only [Ob.lean, List.all_eq_true, Bool.and_eq_true] at hl
    have := hl x (List.mem_of_getElem? hx)
    exact ⟨q1.lean this.1, q2.lean this.2, q3⟩
end

def joinB (N : Nat) (β β' : Nat → Nat) : Nat → Nat := fun id => if id < N then β id else β' (id - N)
theorem behind_length {h h0 : Heap} : (behind h h0).length = h.length + h0.length := by simp [behind]
theorem behind_get {h h0 : Heap} {id : Nat} {o : Ob} (ho : (behind h h0)[id]? = some o) : (id < h.length ∧ h[id]? = some o) ∨ (h.length ≤ id ∧ ∃ o0, h0[id - h.length]? = some o0 ∧ o = o0.ren (sh h.length)) := by
  unfold behind at ho
  by_cases hid : id < h.length
  · rw [List.getElem?_append_left hid] at ho; exact .inl ⟨hid, ho⟩
  · rw [List.getElem?_append_right (by omega), List.getElem?_map] at ho
    cases hh : h0[id - h.length]? with
    | none => rw [hh] at ho; simp at ho
    | some o0 => rw [hh] at ho; simp at ho; exact .inr ⟨by omega, o0, rfl, ho.symm⟩

theorem shift_core {I I' : Nat → Prop} {β β' : Nat → Nat} {h h0 : Heap} {w w' : World} (r : Rel I β h w) (hos : w'.os = w.os) (htp : w'.tape = w.tape) (hout : w'.output = w.output) (hsz : w.heap.size ≤ w'.heap.size)
    (hkeep : ∀ b, b < w.heap.size → w'.heap[b]? = w.heap[b]?) (hown : ∀ b, Own h0 β' b → w.heap.size ≤ b) (r0 : Rel I' β' h0 w') (hI : ∀ b, I b → I' b) (hnew : ∀ b, I' b → I b ∨ w.heap.size ≤ b) :
    Ext I β h w I' (joinB h.length β β') (behind h h0) w' ∧ Rel I' (joinB h.length β β') (behind h h0) w' ∧ ∀ u v, VRel I' β' h0.length w' u v → VRel I' (joinB h.length β β') (behind h h0).length w' (u.ren (sh h.length)) v := by
  have hbs : ∀ b n, bsize w b = some n → bsize w' b = some n := fun b n hb => by
    have hlt : b < w.heap.size := by
      unfold bsize at hb
      split at hb
      · rename_i h1; exact (Array.getElem?_eq_some_iff.1 h1).1
      · simp at hb
    rw [bsize_of_heap (hkeep b hlt)]
    exact hb
  have hj1 : ∀ id, id < h.length → joinB h.length β β' id = β id := fun id hid => by simp [joinB, hid]
  have hj2 : ∀ id, joinB h.length β β' (id + h.length) = β' id := fun id => by unfold joinB; rw [if_neg (by omega), Nat.add_sub_cancel]
  have hρ : ∀ id j, id < h0.length → sh h.length id = some j → j < (behind h h0).length ∧ joinB h.length β β' j = β' id := fun id j hid hj => by
    simp only [sh, Option.some.injEq] at hj
    subst hj
    exact ⟨by rw [behind_length]; omega, hj2 id⟩
  have hm : ∀ u v, VRel I β h.length w u v → VRel I' (joinB h.length β β') (behind h h0).length w' u v := fun u v hv =>
    hv.mono hI (fun b hb => hkeep b (r.imm b hb)) (by rw [behind_length]; omega) (fun id hid => hj1 id hid) hbs
  refine ⟨⟨hos, htp, hout, hsz, by rw [behind_length]; omega, fun id hid => hj1 id hid, hI, fun b hb => (hnew b hb).imp id .inr, fun b hb => ?_, fun b hb _ => hkeep b hb, hbs⟩, ⟨r0.imm, fun id o ho hd => ?_, fun id id' o o' ho hd ho' hd' hb => ?_⟩, fun u v hv => hv.ren hρ⟩
  · obtain ⟨id, o, ho, hd, rfl⟩ := hb
    rcases behind_get ho with ⟨h1, h2⟩ | ⟨h1, o0, h2, rfl⟩
    · rw [hj1 id h1]; exact .inl ⟨id, o, h2, hd, rfl⟩
    · obtain ⟨j, rfl⟩ : ∃ j, id = j + h.length := ⟨id - h.length, by omega⟩
      rw [hj2]
      exact .inr (hown _ ⟨j, o0, by simpa using h2, Ob.ren_dead hd, rfl⟩)
  · rcases behind_get ho with ⟨h1, h2⟩ | ⟨h1, o0, h2, rfl⟩
    · rw [hj1 id h1]
      obtain ⟨q1, q2, q3⟩ := r.obj id o h2 hd
      refine ⟨by omega, fun hi => ?_, by rw [hkeep _ q1]; exact q3.mono hm⟩
      rcases hnew _ hi with h3 | h3
      · exact q2 h3
      · omega
    · obtain ⟨j, rfl⟩ : ∃ j, id = j + h.length := ⟨id - h.length, by omega⟩
      rw [hj2]
      obtain ⟨q1, q2, q3⟩ := r0.obj j o0 (by simpa using h2) (Ob.ren_dead hd)
      exact ⟨q1, q2, q3.ren hρ⟩
  · rcases behind_get ho with ⟨h1, h2⟩ | ⟨h1, o0, h2, rfl⟩ <;> rcases behind_get ho' with ⟨h1', h2'⟩ | ⟨h1', o0', h2', rfl⟩
    · rw [hj1 id h1, hj1 id' h1'] at hb; exact r.inj id id' o o' h2 hd h2' hd' hb
    · obtain ⟨j, rfl⟩ : ∃ j, id' = j + h.length := ⟨id' - h.length, by omega⟩
      rw [hj1 id h1, hj2] at hb
      have q := hown _ ⟨j, o0', by simpa using h2', Ob.ren_dead hd', rfl⟩
      have q' := (r.obj id o h2 hd).1
      omega
    · obtain ⟨j, rfl⟩ : ∃ j, id = j + h.length := ⟨id - h.length, by omega⟩
      rw [hj1 id' h1', hj2] at hb
      have q := hown _ ⟨j, o0, by simpa using h2, Ob.ren_dead hd, rfl⟩
      have q' := (r.obj id' o' h2' hd').1
      omega
    · obtain ⟨j, rfl⟩ : ∃ j, id = j + h.length := ⟨id - h.length, by omega⟩
      obtain ⟨j', rfl⟩ : ∃ j, id' = j + h.length := ⟨id' - h.length, by omega⟩
      rw [hj2, hj2] at hb
      rw [r0.inj j j' o0 o0' (by simpa using h2) (Ob.ren_dead hd) (by simpa using h2') (Ob.ren_dead hd') hb]

/-- A function that was walked from an empty heap, called with values alone. -/
theorem acalls_shift {f : FuncId} {args : List AV} {h : Heap} {R Q : AV → Heap → Prop} (hc : ACalls P f args [] R) (ha : pures args = true) (hq : ∀ u h0, R u h0 → Q (u.ren (sh h.length)) (behind h h0)) : ACalls P f args h Q := by
  refine ⟨hc.1, fun I β w vs r hv => ?_⟩
  have hv' : VRels I (fun _ => 0) 0 w args vs := ⟨hv.1, fun j u v hu hv' => .imm _ _ ((hv.2 j u v hu hv').toI (pures_get ha hu))⟩
  refine (hc.2 I (fun _ => 0) w vs ⟨r.imm, fun id o h => by simp at h, fun id id' o o' h => by simp at h⟩ hv').mono ?_
  rintro e w' ⟨cv, u, I', β', h0, rfl, hr, he, r0, hvr⟩
  obtain ⟨h1, h2, h3⟩ := shift_core r he.os he.tape he.output he.size (fun b hb => he.keep b hb own_nil) (fun b hb => (he.own b hb).elim (fun x => absurd x own_nil) id) r0 he.sub
    (fun b hb => (he.immnew b hb).elim .inl fun x => x.elim (fun x => absurd x own_nil) .inr)
  exact ⟨cv, _, I', _, _, rfl, hq _ _ hr, h1, h2, h3 _ _ hvr⟩

/-- The same, what one owns lent to it; what it hands back is its own. -/
theorem acalls_lend_shift {f : FuncId} {args args' : List AV} {h : Heap} {R Q : AV → Heap → Prop} (hc : ACalls P f args' [] R) (ha : Frzs h args args') (hq : ∀ u h0, R u h0 → (u.lean = true ∧ ∀ o, o ∈ h0 → o.lean = true) ∧ Q (u.ren (sh h.length)) (behind h h0)) : ACalls P f args h Q := by
  refine ⟨hc.1, fun I β w vs r hv => ?_⟩
  have hJ : ∀ b, IO I β h b → b < w.heap.size := by
    rintro b (hb | ⟨id, o, h1, h2, rfl⟩)
    · exact r.imm b hb
    · exact (r.obj id o h1 h2).1
  have hv' : VRels (IO I β h) (fun _ => 0) 0 w args' vs := ⟨by rw [ha.1]; exact hv.1, fun j u' v hu hv' => by
    obtain ⟨u, hu0⟩ := getElem?_lt ha.1 hu
    exact .imm _ _ ((ha.2 j u u' hu0 hu).rel r (hv.2 j u v hu0 hv'))⟩
  refine (hc.2 (IO I β h) (fun _ => 0) w vs ⟨hJ, fun id o h => by simp at h, fun id id' o o' h => by simp at h⟩ hv').mono ?_
  rintro e w' ⟨cv, u, I', β', h0, rfl, hr, he, r0, hvr⟩
  obtain ⟨⟨hl1, hl2⟩, hqq⟩ := hq _ _ hr
  have r0' : Rel (fun b => I b ∨ (I' b ∧ w.heap.size ≤ b)) β' h0 w' := by
    refine ⟨fun b hb => ?_, fun id o h1 h2 => ?_, r0.inj⟩
    · rcases hb with hb | hb
      · have := r.imm b hb; have := he.size; omega
      · exact r0.imm b hb.1
    · obtain ⟨q1, q2, q3⟩ := r0.obj id o h1 h2
      refine ⟨q1, fun hx => q2 ?_, q3.lean (hl2 o (List.mem_of_getElem? h1))⟩
      rcases hx with hx | hx
      · exact he.sub _ (.inl hx)
      · exact hx.1
  obtain ⟨h1, h2, h3⟩ := shift_core r he.os he.tape he.output he.size (fun b hb => he.keep b hb own_nil) (fun b hb => (he.own b hb).elim (fun x => absurd x own_nil) id) r0' (fun b hb => .inl hb) (fun b hb => hb.imp id fun x => x.2)
  exact ⟨cv, _, _, _, _, rfl, hqq, h1, h2, h3 _ _ (hvr.lean hl1)⟩

/-- What is told of an own value once nobody writes it any more, and nothing of it lies elsewhere. -/
inductive OFz (h : Heap) : AV → AV → Prop
  | flat (u : AV) : u.flat = true → OFz h u u
  | nils (k : Nat) : OFz h .nils (.isl k [])
  | osl (id k i len cap : Nat) (ex ex' : Bool) (es : List (List AV)) : h[id]? = some (.arr k es ex') → i + len ≤ es.length → (∀ e, e ∈ es → flats e = true) → OFz h (.osl id k i len cap ex) (.isl k ((es.drop i).take len))
  | tup (cs cs' : List AV) : cs'.length = cs.length → (∀ (q : Nat) (u u' : AV), cs[q]? = some u → cs'[q]? = some u' → OFz h u u') → OFz h (.tup cs) (.tup cs')
  | agg (cs cs' : List AV) : cs'.length = cs.length → (∀ (q : Nat) (u u' : AV), cs[q]? = some u → cs'[q]? = some u' → OFz h u u') → OFz h (.agg cs) (.agg cs')
theorem OFz.two {h : Heap} {u v u' v' : AV} (h1 : OFz h u u') (h2 : OFz h v v') : OFz h (.tup [u, v]) (.tup [u', v']) := by
  refine .tup _ _ rfl fun q x x' hx hx' => ?_
  match q with
  | 0 => simp at hx hx'; subst hx hx'; exact h1
  | 1 => simp at hx hx'; subst hx hx'; exact h2
  | q + 2 => simp at hx
theorem OFz.three {h : Heap} {u v t u' v' t' : AV} (h1 : OFz h u u') (h2 : OFz h v v') (h3 : OFz h t t') : OFz h (.tup [u, v, t]) (.tup [u', v', t']) := by
  refine .tup _ _ rfl fun q x x' hx hx' => ?_
  match q with
  | 0 => simp at hx hx'; subst hx hx'; exact h1
  | 1 => simp at hx hx'; subst hx hx'; exact h2
  | 2 => simp at hx hx'; subst hx hx'; exact h3
  | q + 3 => simp at hx
mutual
theorem flat_pure : ∀ (u : AV), u.flat = true → u.pure = true
  | .agg cs, h => by simpa [AV.pure] using flat_pures cs (by simpa [AV.flat] using h)
  | .tup cs, h => by simpa [AV.pure] using flat_pures cs (by simpa [AV.flat] using h)
  | .int .., _ => rfl
  | .bool _, _ => rfl
  | .str _, _ => rfl
  | .flt .., _ => rfl
  | .nilp, _ => rfl
  | .nils, _ => rfl
  | .nilf, _ => rfl
  | .nili, _ => rfl
  | .nilm, _ => rfl
  | .ip .., h => by simp [AV.flat] at h
  | .isl .., h => by simp [AV.flat] at h
  | .op .., h => by simp [AV.flat] at h
  | .osl .., h => by simp [AV.flat] at h
  | .om _, h => by simp [AV.flat] at h
  | .fn .., h => by simp [AV.flat] at h
  | .ifc .., h => by simp [AV.flat] at h
  | .any, h => by simp [AV.flat] at h
theorem flat_pures : ∀ (l : List AV), flats l = true → pures l = true
  | [], _ => rfl
  | a :: l, h => by
    simp only [flats, pures, Bool.and_eq_true] at h ⊢
    exact ⟨flat_pure a h.1, flat_pures l h.2⟩
end
theorem OFz.rel {I : Nat → Prop} {β : Nat → Nat} {h : Heap} {w : World} (r : Rel I β h w) {u u' : AV} (hf : OFz h u u') : ∀ {v : Value}, VRel I β h.length w u v → IRel (Own h β) w u' v := by
  induction hf with
  | flat u hp => intro v hv; exact (hv.toI (flat_pure u hp)).flat hp
  | nils k => intro v hv; rw [hv.nils_inv]; exact .isl0 k none 0
  | osl id k i len cap ex ex' es hid hle hp =>
    intro v hv
    have h1 := (Frz.flat (cap := cap) (ex := ex) hid hle (fun e he => flat_pures e (hp e he))).rel r hv
    have hp' : ∀ e, e ∈ (es.drop i).take len → flats e = true := fun e he => hp e (List.mem_of_mem_drop (List.mem_of_mem_take he))
    obtain ⟨cc, n, hv2, hidl, _⟩ := hv.osl_inv
    generalize (es.drop i).take len = X at h1 hp'
    cases h1 with
    | isl0 k A c => exact .isl0 k A c
    | isl k es' b o c f hne hl hb hk hc ho hr =>
      simp only [Value.slice.injEq, Option.some.injEq, Addr.mk.injEq] at hv2
      exact .isl k _ b o c f hne hl ⟨id, _, hid, by simp, hv2.1.1.symm⟩ hk hc ho (fun j e q u he hu => (hr j e q u he hu).flat (flats_get (hp' e (List.mem_of_getElem? he)) hu))
  | tup cs cs' hl _ ih =>
    intro v hv
    obtain ⟨vs, rfl, h1, h2⟩ := hv.tup_inv
    refine .tup _ _ (by omega) fun j u' v' hu hv' => ?_
    obtain ⟨u, hu0⟩ := getElem?_lt hl hu
    exact ih j u u' hu0 hu (h2 j u v' hu0 hv')
  | agg cs cs' hl _ ih =>
    intro v hv
    obtain ⟨vs, rfl, h1, h2, h3⟩ := hv.agg_inv
    refine .agg _ _ (by omega) h2 fun j u' v' hu hv' => ?_
    obtain ⟨u, hu0⟩ := getElem?_lt hl hu
    exact ih j u u' hu0 hu (h3 j u v' hu0 hv')

/-- A FRESH ANSWER: what one owns lent to a function; what it hands back lies in memory that nobody writes, and the heap stays. -/
theorem acalls_fresh {f : FuncId} {args args' : List AV} {h : Heap} {R Q : AV → Heap → Prop} (hc : ACalls P f args' [] R) (ha : Frzs h args args') (hq : ∀ u h0, R u h0 → ∃ r, OFz h0 u r ∧ Q r h) : ACalls P f args h Q := by
  refine ⟨hc.1, fun I β w vs r hv => ?_⟩
  have hJ : ∀ b, IO I β h b → b < w.heap.size := by
    rintro b (hb | ⟨id, o, h1, h2, rfl⟩)
    · exact r.imm b hb
    · exact (r.obj id o h1 h2).1
  have hv' : VRels (IO I β h) (fun _ => 0) 0 w args' vs := ⟨by rw [ha.1]; exact hv.1, fun j u' v hu hv' => by
    obtain ⟨u, hu0⟩ := getElem?_lt ha.1 hu
    exact .imm _ _ ((ha.2 j u u' hu0 hu).rel r (hv.2 j u v hu0 hv'))⟩
  refine (hc.2 (IO I β h) (fun _ => 0) w vs ⟨hJ, fun id o h => by simp at h, fun id id' o o' h => by simp at h⟩ hv').mono ?_
  rintro e w' ⟨cv, u, I', β', h0, rfl, hr, he, r0, hvr⟩
  obtain ⟨rr, hz, hqq⟩ := hq _ _ hr
  have hown : ∀ b, Own h0 β' b → w.heap.size ≤ b := fun b hb => (he.own b hb).elim (fun x => absurd x own_nil) id
  have hlt : ∀ b, I b ∨ Own h0 β' b → b < w'.heap.size := fun b hb => by
    rcases hb with hb | ⟨id, o, h1, h2, rfl⟩
    · have := r.imm b hb; have := he.size; omega
    · exact (r0.obj id o h1 h2).1
  obtain ⟨h1, h2⟩ := r.pext (J := I) (I' := fun b => I b ∨ Own h0 β' b) (w' := w') r.imm ⟨he.os, he.tape, he.output, he.size, fun b hb => he.keep b hb own_nil, fun b hb => .inl hb, fun b hb => hb.imp id (hown b), hlt⟩ (fun _ x => x)
  exact ⟨cv, rr, _, β, h, rfl, hqq, h1, h2, .imm _ _ ((hz.rel r0 hvr).mono (fun b hb => .inr ⟨.inr hb, hown b hb⟩) (fun _ _ => rfl))⟩
end
end Go.AL
end

section
/- The small logic holds on: of more, where it holds of less; loops told round by round; cuts. No condition. -/
namespace Go.AL
set_option linter.unusedVariables false
set_option linter.unusedSimpArgs false
section
variable {P : Program} {a : Fr} {h : Heap}
theorem storeK_imp {t : TypeId} {p u : AV} {K K' : Heap → Prop} (hK : ∀ h, K h → K' h) (hk : storeK P t h p u K) : storeK P t h p u K' := by
  cases p with
  | op id k e off => exact cellsK_imp (fun cs ⟨h1, es, ex, h2, c, h3, h4, h5⟩ => ⟨h1, es, ex, h2, c, h3, h4, hK _ h5⟩) hk
  | _ => exact hk.elim
theorem makeSliceK_imp {t : TypeId} {l c : AV} {K K' : AV → Heap → Prop} (hK : ∀ u h, K u h → K' u h) (hk : makeSliceK P t h l c K) : makeSliceK P t h l c K' := by
  cases l with
  | int k l => cases c with
    | int k' c => obtain ⟨e, z, b, h1, h2, h3, h4, h5, h6, h7, h8⟩ := hk; exact ⟨e, z, b, h1, h2, h3, h4, h5, h6, h7, hK _ _ h8⟩
    | _ => exact hk.elim
  | _ => exact hk.elim
theorem elemsK_imp {k : Nat} {x : AV} {K K' : List (List AV) → Prop} (hK : ∀ es, K es → K' es) (hk : elemsK h k x K) : elemsK h k x K' := by
  cases x with
  | nils => exact hK _ hk
  | isl k' es => exact ⟨hk.1, hK _ hk.2⟩
  | osl id k' i len cap ex => obtain ⟨h1, es, ex', h2, h3, h4⟩ := hk; exact ⟨h1, es, ex', h2, h3, hK _ h4⟩
  | _ => exact hk.elim
theorem apK_imp {k b : Nat} {s : AV} {xs : List (List AV)} {K K' : AV → Heap → Prop} (hK : ∀ u h, K u h → K' u h) (hk : apK k b h s xs K) : apK k b h s xs K' := by
  cases s with
  | nils => exact ⟨hk.1, fun e => hK _ _ (hk.2.1 e), fun e => hK _ _ (hk.2.2 e)⟩
  | osl id k' i len cap ex =>
    obtain ⟨h1, h2, es, ex', h3, h4, h5, h6⟩ := hk
    refine ⟨h1, h2, es, ex', h3, h4, fun e => ⟨(h5 e).1, hK _ _ (h5 e).2⟩, fun e => ?_⟩
    have := h6 e
    cases ex with
    | true => exact hK _ _ this
    | false => exact ⟨this.1, hK _ _ this.2⟩
  | _ => exact hk.elim
theorem appendK_imp {t t' : TypeId} {s x : AV} {K K' : AV → Heap → Prop} (hK : ∀ u h, K u h → K' u h) (hk : appendK P t t' h s x K) : appendK P t t' h s x K' := by
  rw [appendK_ap] at hk ⊢
  obtain ⟨e, z, b, h1, h2, h3, h4, h5, h6⟩ := hk
  exact ⟨e, z, b, h1, h2, h3, h4, h5, elemsK_imp (fun _ => apK_imp hK) h6⟩
theorem clearK_imp {t : TypeId} {x : AV} {K K' : Heap → Prop} (hK : ∀ h, K h → K' h) (hk : clearK P t h x K) : clearK P t h x K' := by
  cases x with
  | nils => exact ⟨hk.1, hK _ hk.2⟩
  | osl id k i len cap ex => obtain ⟨e, z, h1, h2, h3, es, ex', h4, h5, h6⟩ := hk; exact ⟨e, z, h1, h2, h3, es, ex', h4, h5, hK _ h6⟩
  | _ => exact hk.elim
theorem callK_imp {f : AV} {us : List AV} {K K' : AV → Heap → Prop} (hK : ∀ u h, K u h → K' u h) (hk : callK P f us h K) : callK P f us h K' := by
  cases f with
  | fn g first cap => cases g with
    | func g => exact ACalls.mono' hk hK
    | _ => exact hk.elim
  | _ => exact hk.elim
theorem aop_imp {op : Op} {K K' : AV → Heap → Prop} (hK : ∀ u h, K u h → K' u h) (hk : aop P op a h K) : aop P op a h K' := by
  by_cases hq : quietOp op = true
  · exact aop_quiet hq (fun u => hK u h) hk
  cases op with
  | alloc t => obtain ⟨cs, h1, h2⟩ := hk; exact ⟨cs, h1, hK _ _ h2⟩
  | box t x => simp only [aop] at hk ⊢; exact evK_imp' (fun _ => cellsK_imp fun _ h => hK _ _ h) hk
  | buildSlice t len parts => simp only [aop] at hk ⊢; exact evpK_imp' (fun us ⟨e, z, h1, h2, h3, h4⟩ => ⟨e, z, h1, h2, h3, fillRK_imp (fun _ h => hK _ _ h) h4⟩) hk
  | load t x => simp only [aop] at hk ⊢; exact evK_imp' (fun _ => loadK_imp fun _ h => hK _ _ h) hk
  | store t p x => simp only [aop] at hk ⊢; exact evK_imp' (fun _ => evK_imp' fun _ => storeK_imp fun _ h => hK _ _ h) hk
  | makeSlice t l c => simp only [aop] at hk ⊢; exact evK_imp' (fun _ => evK_imp' fun _ => makeSliceK_imp hK) hk
  | call c =>
    obtain ⟨callee, args, ts⟩ := c
    cases callee with
    | value f => simp only [aop] at hk ⊢; exact evK_imp' (fun _ => evsK_imp' fun _ => callK_imp hK) hk
    | builtin b =>
      cases b with
      | clear =>
        simp only [aop, builtinK] at hk ⊢
        split at hk
        · exact evK_imp' (fun _ => clearK_imp fun h => hK _ h) hk
        · exact hk.elim
      | append =>
        simp only [aop, builtinK] at hk ⊢
        split at hk
        · exact evK_imp' (fun _ => evK_imp' fun _ => appendK_imp hK) hk
        · exact hk.elim
      | _ => first | exact absurd rfl hq | exact hk.elim
    | invoke r m => exact hk.elim
  | _ => first | exact absurd rfl hq | exact hk.elim

variable {n : Nat}
theorem putK_imp {dst : Option Tmp} {v : AV} {K K' : Fr → Prop} (hK : ∀ a, K a → K' a) (hk : putK n dst a v K) : putK n dst a v K' := by
  cases dst with
  | none => exact hK _ hk
  | some d => exact ⟨hk.1, hK _ hk.2⟩
theorem guardK_imp {ops : List Oper} {g : Option (Nat × Bool)} {K K' : Bool → Prop} (hK : ∀ b, K b → K' b) (hk : guardK ops g a K) : guardK ops g a K' := by
  cases g with
  | none => exact hK _ hk
  | some x =>
    obtain ⟨j, want⟩ := x
    simp only [guardK] at hk ⊢
    cases hs : gslot ops j with
    | none => simp [hs] at hk
    | some t =>
      simp only [hs] at hk ⊢
      cases ha : a t with
      | bool b => simp only [ha] at hk ⊢; exact ⟨fun e => hK _ (hk.1 e), fun e => hK _ (hk.2 e)⟩
      | tup l => cases l with
        | nil => simp only [ha] at hk ⊢; exact hK _ hk
        | cons _ _ => simp [ha] at hk
      | _ => simp [ha] at hk
theorem aops_imp {all : List Oper} : ∀ {l : List Oper} {a : Fr} {h : Heap} {K K' : Fr → Heap → Prop}, (∀ a h, K a h → K' a h) → aops P n all l a h K → aops P n all l a h K'
  | [], a, h, K, K', hK, hk => hK _ _ hk
  | o :: l, a, h, K, K', hK, hk => by
    unfold aops at hk ⊢
    refine guardK_imp (fun b hb => ?_) hk
    cases b with
    | true => exact aop_imp (fun u h => putK_imp fun a => aops_imp hK) hb
    | false => exact putK_imp (fun a => aops_imp hK) hb
theorem adr_imp {all : List Oper} : ∀ {pl : Plan} {a : Fr} {h : Heap} {done : List (Nat × Fr × AV)} {K K' : Fr → Heap → Prop}, (∀ a h, K a h → K' a h) → adr P n all pl a h done K → adr P n all pl a h done K'
  | [], a, h, done, K, K', hK, hk => hK _ _ hk
  | (i, keep, rs) :: rest, a, h, done, K, K', hK, hk => by
    unfold adr at hk ⊢
    cases ho : all[i]? with
    | none => rw [ho] at hk; exact hk.elim
    | some o =>
      rw [ho] at hk
      refine guardK_imp (fun b hb => ?_) hk
      cases b with
      | true =>
        simp only at hb ⊢
        cases hp : pureOp o.op with
        | true => rw [hp] at hb; obtain ⟨v, h1, h2⟩ := hb; exact ⟨v, h1, putK_imp (fun a => adr_imp hK) h2⟩
        | false => rw [hp] at hb; exact aop_imp (fun u h ⟨h1, h2⟩ => ⟨h1, putK_imp (fun a => adr_imp hK) h2⟩) hb
      | false => exact putK_imp (fun a => adr_imp hK) hb
theorem adrD_imp {all : List Oper} {pl : Plan} {a : Fr} {h : Heap} {K K' : Fr → Heap → Prop} (hK : ∀ a h, K a h → K' a h) (hk : adrD P n all pl a h K) : adrD P n all pl a h K' := by
  unfold adrD at hk ⊢
  cases ht : twoOf pl with
  | none => rw [ht] at hk; exact adr_imp hK hk
  | some x => obtain ⟨p, t1, t2⟩ := x; rw [ht] at hk; exact adrX_mono (fun a d hh => ⟨adr_imp hK hh.1, adr_imp hK hh.2⟩) _ _ _ hk
variable {pl : Nat → Plan}
theorem thenK_imp {K K' : Fr → Heap → Prop} {Q Q' : Exit → Fr → Heap → Prop} (hK : ∀ a h, K a h → K' a h) (hQ : ∀ e a h, Q e a h → Q' e a h) : ∀ e a h, thenK K Q e a h → thenK K' Q' e a h := fun e a h hk => by
  cases e <;> first | exact hK _ _ hk | exact hQ _ _ _ hk
theorem blockK_imp {id : Nat} {Q Q' : Exit → Fr → Heap → Prop} (hQ : ∀ e a h, Q e a h → Q' e a h) : ∀ e a h, blockK id Q e a h → blockK id Q' e a h := fun e a h hk => by
  cases e with
  | exit j =>
    simp only [blockK] at hk ⊢
    by_cases hj : j = id
    · rw [if_pos hj] at hk ⊢; exact hQ _ _ _ hk
    · rw [if_neg hj] at hk ⊢; exact hQ _ _ _ hk
  | _ => exact hQ _ _ _ hk
theorem asx_imp : ∀ {c : Code} {a : Fr} {h : Heap} {Q Q' : Exit → Fr → Heap → Prop}, (∀ e a h, Q e a h → Q' e a h) → asx P n pl c Q a h → asx P n pl c Q' a h := by
  intro c
  induction c with
  | skip => intro a h Q Q' hQ hk; exact hQ _ _ _ hk
  | region id ops draw =>
    intro a h Q Q' hQ hk
    cases draw with
    | false => exact aops_imp (K := fun a h => Q .normal a h) (K' := fun a h => Q' .normal a h) (fun a h => hQ _ a h) hk
    | true => exact adrD_imp (K := fun a h => Q .normal a h) (K' := fun a h => Q' .normal a h) (fun a h => hQ _ a h) hk
  | seq x y ihx ihy => intro a h Q Q' hQ hk; exact ihx (thenK_imp (fun a h => ihy hQ) hQ) hk
  | cond x t e iht ihe =>
    intro a h Q Q' hQ hk
    refine evK_imp' (fun u hu => ?_) hk
    cases u with
    | bool b => exact ⟨fun e => iht hQ (hu.1 e), fun e => ihe hQ (hu.2 e)⟩
    | _ => exact hu.elim
  | block id c ih => intro a h Q Q' hQ hk; exact ih (blockK_imp hQ) hk
  | loop c ih =>
    intro a h Q Q' hQ hk
    obtain ⟨J, h0, hr⟩ := hk
    exact ⟨J, h0, fun m a1 h1 hj => ih (thenK_imp (fun _ _ x => x) hQ) (hr m a1 h1 hj)⟩
  | exit id => intro a h Q Q' hQ hk; exact hQ _ _ _ hk
  | ret => intro a h Q Q' hQ hk; exact hQ _ _ _ hk
  | label l => intro a h Q Q' hQ hk; exact hQ _ _ _ hk
  | _ => intro a h Q Q' hQ hk; exact hk.elim

/-- A join: what holds ahead of the second part. -/
theorem asx_cut {x y : Code} {Q : Exit → Fr → Heap → Prop} (M : Fr → Heap → Prop) (hx : asx P n pl x (thenK M Q) a h) (hy : ∀ a h, M a h → asx P n pl y Q a h) : asx P n pl (.seq x y) Q a h := by
  unfold asx
  exact asx_imp (thenK_imp hy fun _ _ _ hq => hq) hx

/-- A loop, round by round: at most m of them. -/
def LoopN (P : Program) (n : Nat) (pl : Nat → Plan) (c : Code) (Q : Exit → Fr → Heap → Prop) : Nat → Fr → Heap → Prop
  | 0, _, _ => False
  | m + 1, a, h => asx P n pl c (thenK (LoopN P n pl c Q m) Q) a h
theorem LoopN.loop {c : Code} {Q : Exit → Fr → Heap → Prop} (m : Nat) (hl : LoopN P n pl c Q m a h) : LoopK (asx P n pl c) Q a h := by
  refine LoopK.intro (fun m a h => LoopN P n pl c Q m a h) m hl fun m a1 h1 hj => ?_
  cases m with
  | zero => exact hj.elim
  | succ m => exact asx_imp (thenK_imp (fun a h hk => .inl ⟨m, Nat.lt_succ_self m, hk⟩) fun _ _ _ hq => hq) hj
theorem LoopN_succ {c : Code} {Q : Exit → Fr → Heap → Prop} {m : Nat} : LoopN P n pl c Q (m + 1) a h = asx P n pl c (thenK (LoopN P n pl c Q m) Q) a h := rfl
end
end Go.AL
end

section
/- The small logic's calls, for simp: renamed values and objects; lists of numbers lent. No condition. -/
namespace Go.AL
set_option linter.unusedVariables false
set_option linter.unusedSimpArgs false
def ints (xs : List Int) : AV := .isl 1 (List.map intE xs)
theorem ren_osl {N id k i len cap : Nat} {ex : Bool} : AV.ren (sh N) (.osl id k i len cap ex) = .osl (id + N) k i len cap ex := (rfl)
theorem ren_op {N id k e off : Nat} : AV.ren (sh N) (.op id k e off) = .op (id + N) k e off := (rfl)
theorem ren_int {ρ : Nat → Option Nat} {k : IntKind} {n : Int} : AV.ren ρ (.int k n) = .int k n := (rfl)
theorem ren_bool {ρ : Nat → Option Nat} {b : Bool} : AV.ren ρ (.bool b) = .bool b := (rfl)
theorem ren_nils {ρ : Nat → Option Nat} : AV.ren ρ .nils = .nils := (rfl)
theorem ren_tup {ρ : Nat → Option Nat} {vs : List AV} : AV.ren ρ (.tup vs) = .tup (rens ρ vs) := (rfl)
theorem ren_agg {ρ : Nat → Option Nat} {vs : List AV} : AV.ren ρ (.agg vs) = .agg (rens ρ vs) := (rfl)
theorem ren_isl {ρ : Nat → Option Nat} {k : Nat} {es : List (List AV)} : AV.ren ρ (.isl k es) = .isl k es := (rfl)
theorem rens_nil {ρ : Nat → Option Nat} : rens ρ [] = [] := (rfl)
theorem rens_cons {ρ : Nat → Option Nat} {v : AV} {r : List AV} : rens ρ (v :: r) = v.ren ρ :: rens ρ r := (rfl)
theorem ren_intEs {ρ : Nat → Option Nat} {xs : List Int} {ex : Bool} : Ob.ren ρ (.arr 1 (List.map intE xs) ex) = .arr 1 (List.map intE xs) ex := by
  simp only [Ob.ren, List.map_map]
  congr 1
theorem ren_boolEs {ρ : Nat → Option Nat} {xs : List Bool} {ex : Bool} : Ob.ren ρ (.arr 1 (List.map boolE xs) ex) = .arr 1 (List.map boolE xs) ex := by
  simp only [Ob.ren, List.map_map]
  congr 1
theorem behind_eq {h h0 : Heap} : behind h h0 = h ++ h0.map (Ob.ren (sh h.length)) := (rfl)
theorem map_one {α β : Type} {f : α → β} {x : α} : List.map f [x] = [f x] := (rfl)
theorem lean_intEs {xs : List Int} {ex : Bool} : (Ob.arr 1 (List.map intE xs) ex).lean = true := by
  simp [Ob.lean, leans, intE, AV.lean]
/-- A list of numbers of one's own, lent. -/
theorem frz_ints {h : Heap} {id len cap : Nat} {ex ex' : Bool} {l l' : List Int} (hid : h[id]? = some (.arr 1 (List.map intE l') ex')) (hl : l'.take len = l) (hn : l.length = len) : Frz h (.osl id 1 0 len cap ex) (ints l) := by
  have h1 : len ≤ l'.length := by
    have := congrArg List.length hl
    rw [List.length_take] at this
    omega
  have := Frz.flat (h := h) (id := id) (k := 1) (i := 0) (len := len) (cap := cap) (ex := ex) hid (by simpa using h1) (fun e he => by
    obtain ⟨x, _, rfl⟩ := List.mem_map.1 he; rfl)
  rw [List.drop_zero, ← List.map_take, hl] at this
  exact this
theorem frz_isl {h : Heap} {l : List Int} : Frz h (.isl 1 (List.map intE l)) (ints l) := .pure _ rfl
theorem ofz_ints {h : Heap} {id len cap : Nat} {ex ex' : Bool} {l : List Int} (hid : h[id]? = some (.arr 1 (List.map intE l) ex')) (hl : len = l.length) : OFz h (.osl id 1 0 len cap ex) (ints l) := by
  have := OFz.osl (h := h) id 1 0 len cap ex ex' (List.map intE l) hid (by simp; omega) (fun e he => by
    obtain ⟨x, _, rfl⟩ := List.mem_map.1 he; rfl)
  rw [List.drop_zero, List.take_of_length_le (by simp; omega)] at this
  exact this
end Go.AL
end

section
/- From what the small logic shows of a law to the statement: the arguments as trees, what the call leaves. No condition. -/
namespace Go.Proofs.Ytgdlkhgfehclpaa
open Go Go.AL Go.ChangeShapes Go.WideShapes Go.ChangeAt Go.RowKit
set_option linter.unusedVariables false
set_option linter.unusedSimpArgs false
theorem zOwn : ownKnob Try.prog.godebug = none := by kernel_rfl
theorem zLaidOut : laidOutB Try.prog = true := by kernel_rfl

/-! ### the bound -/
theorem bulk_one {H : Type} (d : DataW H) : 1 ≤ Rows.uptoBulk d := by
  cases d with
  | lit l => cases l <;> simp [Rows.uptoBulk]
  | _ => simp [Rows.uptoBulk]
theorem bulk_len {H : Type} (l : List (DataW H)) : l.length ≤ Rows.uptoBulkAll l := by
  induction l with
  | nil => simp
  | cons x r ih => have := bulk_one x; simp only [Rows.uptoBulkAll, List.length_cons]; omega
theorem bulk_part {H : Type} {d : DataW H} : ∀ {l : List (DataW H)}, d ∈ l → Rows.uptoBulk d ≤ Rows.uptoBulkAll l
  | x :: r, h => by
    simp only [Rows.uptoBulkAll]
    rcases List.mem_cons.1 h with e | e
    · subst e; omega
    · have := bulk_part e; omega
theorem bulk_slice {H : Type} (elems spare : List (DataW H)) : elems.length ≤ Rows.uptoBulk (.slice elems spare) := by
  have h1 := bulk_len elems
  simp only [Rows.uptoBulk]
  omega
theorem bulk_agg {H : Type} (parts : List (DataW H)) : Rows.uptoBulkAll parts ≤ Rows.uptoBulk (.agg parts) := by
  simp only [Rows.uptoBulk]
  omega
theorem bulk_ok {H : Type} {l : List (DataW H)} (hk : Rows.uptoSmall H l = true) : Rows.uptoBulkAll l ≤ 1048576 := by
  simpa [Rows.uptoSmall] using hk

/-! ### the arguments -/
abbrev allOf (W : World) : Nat → Prop := fun b => b < W.heap.size
theorem cell_lt {W : World} {a : Addr} {v : Value} (h : W.cell? a = some v) : a.block < W.heap.size := by
  unfold World.cell? at h
  rcases Nat.lt_or_ge a.block W.heap.size with hlt | hge
  · exact hlt
  · rw [Array.getElem?_eq_none hge] at h
    simp at h
theorem irel_ints {W : World} {a : Addr} {len cap : Nat} {zs : List Int} (hl : len ≤ zs.length) (hc : len ≤ cap) (hcell : ∀ i, i < zs.length → W.cell? (a.add i) = some (.int .i64 (zs.getD i 0))) :
    IRel (allOf W) W (ints (zs.take len)) (.slice (some a) len cap) := by
  rcases Nat.eq_zero_or_pos len with h0 | h0
  · subst h0
    exact .isl0 1 _ _
  · obtain ⟨b, off, rfl, hx⟩ := ints_at hcell (by omega)
    have hlen : (List.map intE (zs.take len)).length = len := by simp; omega
    have key : ∀ (i : Nat) (e : List AV), (List.map intE (zs.take len))[i]? = some e → i < zs.length ∧ e = [AV.int .i64 (zs.getD i 0)] := by
      intro i e hi
      have hlt := (List.getElem?_eq_some_iff.1 hi).1
      rw [hlen] at hlt
      rw [List.getElem?_map, List.getElem?_take, if_pos hlt, List.getElem?_eq_getElem (by omega)] at hi
      simp only [Option.map_some, Option.some.injEq] at hi
      refine ⟨by omega, ?_⟩
      rw [← hi]
      simp [intE, List.getD_eq_getElem?_getD, List.getElem?_eq_getElem (show i < zs.length by omega)]
    have hr := IRel.isl (I := allOf W) (w := W) 1 (List.map intE (zs.take len)) b off cap (fun i _ => .int .i64 (zs.getD i 0)) (by intro e; rw [e] at hlen; simp at hlen; omega) (by rw [hlen]; exact hc) (by have := cell_lt (hx 0 (by omega)); exact this)
      (fun i e hi => by rw [(key i e hi).2]; rfl) (fun i e j u hi hj => by
        obtain ⟨h1, h2⟩ := key i e hi
        subst h2
        have hj0 : j = 0 := by
          have := (List.getElem?_eq_some_iff.1 hj).1
          simp at this
          exact this
        subst hj0
        rw [show off + (i * 1 + 0) = off + i by omega]
        exact hx i h1) (fun i e j u hi hj => rfl) (fun i e j u hi hj => by
        obtain ⟨h1, h2⟩ := key i e hi
        subst h2
        have hj0 : j = 0 := by
          have := (List.getElem?_eq_some_iff.1 hj).1
          simp at this
          exact this
        subst hj0
        simp at hj
        rw [← hj]
        exact .int _ _)
    rw [hlen] at hr
    exact hr
/-- An argument that is a list of numbers. -/
theorem open_list {H : Type} {enc : TypeId × Value → H} {W : World} {t e : TypeId} {fuel : Nat} {v : Value} {d : DataW H} {p : List MemPlace} (ht : Try.prog.underlying t = some (.slice e)) (he : Try.prog.underlying e = some (.int .i64)) (hc : Try.prog.cellsOf e = 1)
    (hv : ∃ a len cap, v = .slice a len cap) (h : DataW.trod enc Try.prog W 0 (fun _ => true) true fuel t v.cells.toList = some (d, p)) : ∃ xs : List Int, IRel (allOf W) W (ints xs) v ∧ xs.length ≤ Rows.uptoBulk d := by
  obtain ⟨a0, len0, cap0, rfl⟩ := hv
  rcases open_ints ht he hc h with ⟨hcs, hx⟩ | ⟨a, len, cap, zs, hcs, _, hl, hm, hz, hx, hcell, _⟩
  · simp [Value.cells] at hcs
    obtain ⟨rfl, rfl, rfl⟩ := hcs
    exact ⟨[], .isl0 1 _ _, by simp⟩
  · simp [Value.cells] at hcs
    obtain ⟨rfl, rfl, rfl⟩ := hcs
    simp only [Prod.mk.injEq] at hx
    obtain ⟨rfl, _⟩ := hx
    simp only [if_true] at hz
    refine ⟨zs.take len0, irel_ints (by omega) hl hcell, ?_⟩
    refine Nat.le_trans ?_ (bulk_slice _ _)
    simp [lits]

/-! ### the call -/
theorem calls_true {f : FuncId} {us : List AV} {vs : List Value} {W : World} (hc : ACalls Try.prog f us [] fun v h => OFz h v (.bool true)) (hl : vs.length = us.length) (hv : ∀ (j : Nat) (u : AV) (v : Value), us[j]? = some u → vs[j]? = some v → IRel (allOf W) W u v) :
    Calls Try.prog f vs.toArray W fun e W' => e = .returned (.bool true) ∧ Below W.heap.size W W' := by
  refine (hc.2 (allOf W) (fun _ => 0) W vs ⟨fun b hb => hb, fun id o h => by simp at h, fun id id' o o' h => by simp at h⟩ ⟨hl.symm, fun j u v hu hv' => .imm _ _ (hv j u v hu hv')⟩).mono ?_
  rintro e w' ⟨cv, u, I', β', h', rfl, hq, hE, hR, hv'⟩
  refine ⟨?_, ⟨hE.os, hE.tape, hE.output, hE.size, fun k hk => hE.keep k hk (fun ⟨id, o, h1, _⟩ => by simp at h1)⟩⟩
  have hu : u = .bool true := by
    cases hq
    rfl
  subst hu
  cases hv' with
  | imm _ _ hi => cases hi; rfl
theorem trodAll_stays {H : Type} {enc : TypeId × Value → H} {W W' : World} {sp : Nat → Bool} (hb : Below W.heap.size W W') : ∀ {ts : List TypeId} {vs : List Value} {ds : List (DataW H)} {ps : List MemPlace}, (∀ t ∈ ts, Try.prog.readableRec t = true ∧ t < Try.prog.types.size) →
    DataW.TrodAll enc Try.prog W 0 (fun _ => true) true ts vs ds ps → (∀ x ∈ ps, x.block < W.heap.size) → (∀ x ∈ ps, sp x.block = true) → DataW.TrodAll enc Try.prog W' 0 sp true ts vs ds ps
  | [], [], [], _, _, h, _, _ => h
  | _ :: _, _ :: _, _ :: _, _, hT, ⟨p, q, h1, h2, e⟩, hlt, hs => by
    subst e
    exact ⟨p, q, WideElems.Trod_stays zLaidOut (hT _ List.mem_cons_self).1 (hT _ List.mem_cons_self).2 h1 (fun x hx => hb.same (hlt x (List.mem_append_left _ hx))) (fun x hx => hs x (List.mem_append_left _ hx)),
      trodAll_stays hb (fun t ht => hT t (List.mem_cons_of_mem _ ht)) h2 (fun x hx => hlt x (List.mem_append_right _ hx)) (fun x hx => hs x (List.mem_append_right _ hx)), rfl⟩
/-- 'post' of a law that came out true and wrote nothing of what was there. -/
theorem post_true {H : Type} {enc : TypeId × Value → H} {f : Func} {s : ChangeSpec} {W W' : World} {args : Array Value} {ds : List (DataW H)} {p : List MemPlace} (hW : DataW.Whole enc Try.prog f.params.toList s.vars false W args.toList ds [] (p ++ []))
    (hA : DataW.TrodAll enc Try.prog W 0 (fun _ => true) true f.params.toList args.toList ds p) (hT : ∀ t ∈ f.params.toList, Try.prog.readableRec t = true ∧ t < Try.prog.types.size) (hr : f.resultTypes = #[4]) (hs : s.fn H (ds ++ []) = { results := [.lit (.bool true)], args := ds }) (hv : s.vars = [])
    (hb : Below W.heap.size W W') : s.post enc Try.prog f false true false false W args (.bool true) W' := by
  have hlt : ∀ x ∈ p, x.block < W.heap.size := fun x hx => hW.lt x (List.mem_append_left _ hx)
  refine ⟨ds, [], p ++ [], [], p, [], hW, ?_, ?_, ?_, ?_, fun h => by cases h⟩
  · rw [hr, hs]
    exact trodAll_cons_mk (shut_bool Try.underlying4 _) trodAll_mk0
  · rw [hs]
    exact trodAll_stays hb hT hA hlt (fun x hx => by simpa using hlt x hx)
  · rw [hs, hv]
    rfl
  · exact hb.frame _
end Go.Proofs.Ytgdlkhgfehclpaa
end

section
/- What the program's types are, for the small logic: read off the loaded program by the kernel. By a program (gen.py). No condition. -/
namespace Go.Proofs.Ytgdlkhgfehclpaa
open Go.AL

theorem mixed : Try.prog.follows .mixedOrders = true := by kernel_rfl
theorem tsize_2 : tsize Try.prog 2 = some 1 := by kernel_rfl
theorem tbytes_2 : tbytes Try.prog 2 = some 8 := by kernel_rfl
theorem tagg_2 : tagg Try.prog 2 = some false := by kernel_rfl
theorem zcells_2 : zcells Try.prog 2 = some [AV.int .i64 0] := by kernel_rfl
theorem telem_2 : telem Try.prog 2 = none := by kernel_rfl
theorem tint_2 : tint Try.prog 2 = some .i64 := by kernel_rfl
theorem tnotIface_2 : tnotIface Try.prog 2 = true := by kernel_rfl
theorem tsize_3 : tsize Try.prog 3 = some 1 := by kernel_rfl
theorem tbytes_3 : tbytes Try.prog 3 = some 8 := by kernel_rfl
theorem tagg_3 : tagg Try.prog 3 = some false := by kernel_rfl
theorem zcells_3 : zcells Try.prog 3 = some [AV.int .i64 0] := by kernel_rfl
theorem telem_3 : telem Try.prog 3 = none := by kernel_rfl
theorem tint_3 : tint Try.prog 3 = some .i64 := by kernel_rfl
theorem tnotIface_3 : tnotIface Try.prog 3 = true := by kernel_rfl
theorem tsize_4 : tsize Try.prog 4 = some 1 := by kernel_rfl
theorem tbytes_4 : tbytes Try.prog 4 = some 1 := by kernel_rfl
theorem tagg_4 : tagg Try.prog 4 = some false := by kernel_rfl
theorem zcells_4 : zcells Try.prog 4 = some [AV.bool false] := by kernel_rfl
theorem telem_4 : telem Try.prog 4 = none := by kernel_rfl
theorem tbool_4 : tbool Try.prog 4 = true := by kernel_rfl
theorem tnotIface_4 : tnotIface Try.prog 4 = true := by kernel_rfl
theorem tsize_5 : tsize Try.prog 5 = some 1 := by kernel_rfl
theorem tbytes_5 : tbytes Try.prog 5 = some 1 := by kernel_rfl
theorem tagg_5 : tagg Try.prog 5 = some false := by kernel_rfl
theorem zcells_5 : zcells Try.prog 5 = some [AV.int .u8 0] := by kernel_rfl
theorem telem_5 : telem Try.prog 5 = none := by kernel_rfl
theorem tint_5 : tint Try.prog 5 = some .u8 := by kernel_rfl
theorem tnotIface_5 : tnotIface Try.prog 5 = true := by kernel_rfl
theorem tsize_6 : tsize Try.prog 6 = some 1 := by kernel_rfl
theorem tbytes_6 : tbytes Try.prog 6 = some 1 := by kernel_rfl
theorem tagg_6 : tagg Try.prog 6 = some false := by kernel_rfl
theorem zcells_6 : zcells Try.prog 6 = some [AV.int .u8 0] := by kernel_rfl
theorem telem_6 : telem Try.prog 6 = none := by kernel_rfl
theorem tint_6 : tint Try.prog 6 = some .u8 := by kernel_rfl
theorem tnotIface_6 : tnotIface Try.prog 6 = true := by kernel_rfl
theorem tsize_7 : tsize Try.prog 7 = some 4 := by kernel_rfl
theorem tbytes_7 : tbytes Try.prog 7 = some 24 := by kernel_rfl
theorem tagg_7 : tagg Try.prog 7 = some true := by kernel_rfl
theorem zcells_7 : zcells Try.prog 7 = some [AV.int .i64 0, AV.int .i64 0, AV.bool false, AV.int .u8 0] := by kernel_rfl
theorem telem_7 : telem Try.prog 7 = none := by kernel_rfl
theorem tnotIface_7 : tnotIface Try.prog 7 = true := by kernel_rfl
theorem foff_7_0 : foff Try.prog 7 0 = some (0, 2) := by kernel_rfl
theorem foff_7_1 : foff Try.prog 7 1 = some (1, 3) := by kernel_rfl
theorem foff_7_2 : foff Try.prog 7 2 = some (2, 4) := by kernel_rfl
theorem foff_7_3 : foff Try.prog 7 3 = some (3, 6) := by kernel_rfl
theorem fplaces_7 : fplaces Try.prog 7 = some [(0, 1), (1, 1), (2, 1), (3, 1)] := by kernel_rfl
theorem tsize_8 : tsize Try.prog 8 = some 4 := by kernel_rfl
theorem tbytes_8 : tbytes Try.prog 8 = some 24 := by kernel_rfl
theorem tagg_8 : tagg Try.prog 8 = some true := by kernel_rfl
theorem zcells_8 : zcells Try.prog 8 = some [AV.int .i64 0, AV.int .i64 0, AV.bool false, AV.int .u8 0] := by kernel_rfl
theorem telem_8 : telem Try.prog 8 = none := by kernel_rfl
theorem tnotIface_8 : tnotIface Try.prog 8 = true := by kernel_rfl
theorem foff_8_0 : foff Try.prog 8 0 = some (0, 2) := by kernel_rfl
theorem foff_8_1 : foff Try.prog 8 1 = some (1, 3) := by kernel_rfl
theorem foff_8_2 : foff Try.prog 8 2 = some (2, 4) := by kernel_rfl
theorem foff_8_3 : foff Try.prog 8 3 = some (3, 6) := by kernel_rfl
theorem fplaces_8 : fplaces Try.prog 8 = some [(0, 1), (1, 1), (2, 1), (3, 1)] := by kernel_rfl
theorem tsize_9 : tsize Try.prog 9 = some 1 := by kernel_rfl
theorem tbytes_9 : tbytes Try.prog 9 = some 16 := by kernel_rfl
theorem tagg_9 : tagg Try.prog 9 = some false := by kernel_rfl
theorem zcells_9 : zcells Try.prog 9 = some [AV.str ⟨#[]⟩] := by kernel_rfl
theorem telem_9 : telem Try.prog 9 = none := by kernel_rfl
theorem tstring_9 : tstring Try.prog 9 = true := by kernel_rfl
theorem tnotIface_9 : tnotIface Try.prog 9 = true := by kernel_rfl
theorem tsize_10 : tsize Try.prog 10 = some 1 := by kernel_rfl
theorem tbytes_10 : tbytes Try.prog 10 = some 16 := by kernel_rfl
theorem tagg_10 : tagg Try.prog 10 = some false := by kernel_rfl
theorem zcells_10 : zcells Try.prog 10 = some [AV.str ⟨#[]⟩] := by kernel_rfl
theorem telem_10 : telem Try.prog 10 = none := by kernel_rfl
theorem tstring_10 : tstring Try.prog 10 = true := by kernel_rfl
theorem tnotIface_10 : tnotIface Try.prog 10 = true := by kernel_rfl
theorem tsize_11 : tsize Try.prog 11 = some 1 := by kernel_rfl
theorem tbytes_11 : tbytes Try.prog 11 = some 16 := by kernel_rfl
theorem tagg_11 : tagg Try.prog 11 = some false := by kernel_rfl
theorem zcells_11 : zcells Try.prog 11 = some [AV.str ⟨#[]⟩] := by kernel_rfl
theorem telem_11 : telem Try.prog 11 = none := by kernel_rfl
theorem tstring_11 : tstring Try.prog 11 = true := by kernel_rfl
theorem tnotIface_11 : tnotIface Try.prog 11 = true := by kernel_rfl
theorem tsize_12 : tsize Try.prog 12 = some 1 := by kernel_rfl
theorem tbytes_12 : tbytes Try.prog 12 = some 8 := by kernel_rfl
theorem tagg_12 : tagg Try.prog 12 = some false := by kernel_rfl
theorem zcells_12 : zcells Try.prog 12 = some [AV.int .u64 0] := by kernel_rfl
theorem telem_12 : telem Try.prog 12 = none := by kernel_rfl
theorem tint_12 : tint Try.prog 12 = some .u64 := by kernel_rfl
theorem tnotIface_12 : tnotIface Try.prog 12 = true := by kernel_rfl
theorem tsize_13 : tsize Try.prog 13 = some 2 := by kernel_rfl
theorem tbytes_13 : tbytes Try.prog 13 = some 24 := by kernel_rfl
theorem tagg_13 : tagg Try.prog 13 = some true := by kernel_rfl
theorem zcells_13 : zcells Try.prog 13 = some [AV.str ⟨#[]⟩, AV.int .u64 0] := by kernel_rfl
theorem telem_13 : telem Try.prog 13 = none := by kernel_rfl
theorem tnotIface_13 : tnotIface Try.prog 13 = true := by kernel_rfl
theorem foff_13_0 : foff Try.prog 13 0 = some (0, 9) := by kernel_rfl
theorem foff_13_1 : foff Try.prog 13 1 = some (1, 12) := by kernel_rfl
theorem fplaces_13 : fplaces Try.prog 13 = some [(0, 1), (1, 1)] := by kernel_rfl
theorem tsize_14 : tsize Try.prog 14 = some 2 := by kernel_rfl
theorem tbytes_14 : tbytes Try.prog 14 = some 24 := by kernel_rfl
theorem tagg_14 : tagg Try.prog 14 = some true := by kernel_rfl
theorem zcells_14 : zcells Try.prog 14 = some [AV.str ⟨#[]⟩, AV.int .u64 0] := by kernel_rfl
theorem telem_14 : telem Try.prog 14 = none := by kernel_rfl
theorem tnotIface_14 : tnotIface Try.prog 14 = true := by kernel_rfl
theorem foff_14_0 : foff Try.prog 14 0 = some (0, 9) := by kernel_rfl
theorem foff_14_1 : foff Try.prog 14 1 = some (1, 12) := by kernel_rfl
theorem fplaces_14 : fplaces Try.prog 14 = some [(0, 1), (1, 1)] := by kernel_rfl
theorem tsize_15 : tsize Try.prog 15 = some 1 := by kernel_rfl
theorem tbytes_15 : tbytes Try.prog 15 = some 8 := by kernel_rfl
theorem tagg_15 : tagg Try.prog 15 = some false := by kernel_rfl
theorem zcells_15 : zcells Try.prog 15 = some [AV.nilp] := by kernel_rfl
theorem telem_15 : telem Try.prog 15 = none := by kernel_rfl
theorem tptr_15 : tptr Try.prog 15 = true := by kernel_rfl
theorem tnotIface_15 : tnotIface Try.prog 15 = true := by kernel_rfl
theorem tsize_16 : tsize Try.prog 16 = some 1 := by kernel_rfl
theorem tbytes_16 : tbytes Try.prog 16 = some 8 := by kernel_rfl
theorem tagg_16 : tagg Try.prog 16 = some false := by kernel_rfl
theorem zcells_16 : zcells Try.prog 16 = some [AV.nilp] := by kernel_rfl
theorem telem_16 : telem Try.prog 16 = none := by kernel_rfl
theorem tptr_16 : tptr Try.prog 16 = true := by kernel_rfl
theorem tnotIface_16 : tnotIface Try.prog 16 = true := by kernel_rfl
theorem tsize_17 : tsize Try.prog 17 = some 1 := by kernel_rfl
theorem tbytes_17 : tbytes Try.prog 17 = some 8 := by kernel_rfl
theorem tagg_17 : tagg Try.prog 17 = some false := by kernel_rfl
theorem zcells_17 : zcells Try.prog 17 = some [AV.nilp] := by kernel_rfl
theorem telem_17 : telem Try.prog 17 = none := by kernel_rfl
theorem tptr_17 : tptr Try.prog 17 = true := by kernel_rfl
theorem tnotIface_17 : tnotIface Try.prog 17 = true := by kernel_rfl
theorem tsize_18 : tsize Try.prog 18 = some 1 := by kernel_rfl
theorem tbytes_18 : tbytes Try.prog 18 = some 8 := by kernel_rfl
theorem tagg_18 : tagg Try.prog 18 = some true := by kernel_rfl
theorem zcells_18 : zcells Try.prog 18 = some [AV.nilp] := by kernel_rfl
theorem telem_18 : telem Try.prog 18 = none := by kernel_rfl
theorem tnotIface_18 : tnotIface Try.prog 18 = true := by kernel_rfl
theorem foff_18_0 : foff Try.prog 18 0 = some (0, 17) := by kernel_rfl
theorem fplaces_18 : fplaces Try.prog 18 = some [(0, 1)] := by kernel_rfl
theorem tsize_19 : tsize Try.prog 19 = some 1 := by kernel_rfl
theorem tbytes_19 : tbytes Try.prog 19 = some 8 := by kernel_rfl
theorem tagg_19 : tagg Try.prog 19 = some true := by kernel_rfl
theorem zcells_19 : zcells Try.prog 19 = some [AV.nilp] := by kernel_rfl
theorem telem_19 : telem Try.prog 19 = none := by kernel_rfl
theorem tnotIface_19 : tnotIface Try.prog 19 = true := by kernel_rfl
theorem foff_19_0 : foff Try.prog 19 0 = some (0, 17) := by kernel_rfl
theorem fplaces_19 : fplaces Try.prog 19 = some [(0, 1)] := by kernel_rfl
theorem tsize_20 : tsize Try.prog 20 = some 1 := by kernel_rfl
theorem tbytes_20 : tbytes Try.prog 20 = some 16 := by kernel_rfl
theorem tagg_20 : tagg Try.prog 20 = some false := by kernel_rfl
theorem zcells_20 : zcells Try.prog 20 = some [AV.nili] := by kernel_rfl
theorem telem_20 : telem Try.prog 20 = none := by kernel_rfl
theorem tsize_21 : tsize Try.prog 21 = some 1 := by kernel_rfl
theorem tbytes_21 : tbytes Try.prog 21 = some 4 := by kernel_rfl
theorem tagg_21 : tagg Try.prog 21 = some false := by kernel_rfl
theorem zcells_21 : zcells Try.prog 21 = some [AV.int .i32 0] := by kernel_rfl
theorem telem_21 : telem Try.prog 21 = none := by kernel_rfl
theorem tint_21 : tint Try.prog 21 = some .i32 := by kernel_rfl
theorem tnotIface_21 : tnotIface Try.prog 21 = true := by kernel_rfl
theorem tsize_22 : tsize Try.prog 22 = some 1 := by kernel_rfl
theorem tbytes_22 : tbytes Try.prog 22 = some 24 := by kernel_rfl
theorem tagg_22 : tagg Try.prog 22 = some false := by kernel_rfl
theorem zcells_22 : zcells Try.prog 22 = some [AV.nils] := by kernel_rfl
theorem telem_22 : telem Try.prog 22 = some 83 := by kernel_rfl
theorem tnotIface_22 : tnotIface Try.prog 22 = true := by kernel_rfl
theorem tsize_23 : tsize Try.prog 23 = some 1 := by kernel_rfl
theorem tbytes_23 : tbytes Try.prog 23 = some 24 := by kernel_rfl
theorem tagg_23 : tagg Try.prog 23 = some false := by kernel_rfl
theorem zcells_23 : zcells Try.prog 23 = some [AV.nils] := by kernel_rfl
theorem telem_23 : telem Try.prog 23 = some 3 := by kernel_rfl
theorem tnotIface_23 : tnotIface Try.prog 23 = true := by kernel_rfl
theorem tsize_24 : tsize Try.prog 24 = some 3 := by kernel_rfl
theorem tbytes_24 : tbytes Try.prog 24 = some 56 := by kernel_rfl
theorem tagg_24 : tagg Try.prog 24 = some true := by kernel_rfl
theorem zcells_24 : zcells Try.prog 24 = some [AV.int .i64 0, AV.nils, AV.nils] := by kernel_rfl
theorem telem_24 : telem Try.prog 24 = none := by kernel_rfl
theorem tnotIface_24 : tnotIface Try.prog 24 = true := by kernel_rfl
theorem foff_24_0 : foff Try.prog 24 0 = some (0, 3) := by kernel_rfl
theorem foff_24_1 : foff Try.prog 24 1 = some (1, 22) := by kernel_rfl
theorem foff_24_2 : foff Try.prog 24 2 = some (2, 23) := by kernel_rfl
theorem fplaces_24 : fplaces Try.prog 24 = some [(0, 1), (1, 1), (2, 1)] := by kernel_rfl
theorem tsize_25 : tsize Try.prog 25 = some 3 := by kernel_rfl
theorem tbytes_25 : tbytes Try.prog 25 = some 56 := by kernel_rfl
theorem tagg_25 : tagg Try.prog 25 = some true := by kernel_rfl
theorem zcells_25 : zcells Try.prog 25 = some [AV.int .i64 0, AV.nils, AV.nils] := by kernel_rfl
theorem telem_25 : telem Try.prog 25 = none := by kernel_rfl
theorem tnotIface_25 : tnotIface Try.prog 25 = true := by kernel_rfl
theorem foff_25_0 : foff Try.prog 25 0 = some (0, 3) := by kernel_rfl
theorem foff_25_1 : foff Try.prog 25 1 = some (1, 22) := by kernel_rfl
theorem foff_25_2 : foff Try.prog 25 2 = some (2, 23) := by kernel_rfl
theorem fplaces_25 : fplaces Try.prog 25 = some [(0, 1), (1, 1), (2, 1)] := by kernel_rfl
theorem tsize_26 : tsize Try.prog 26 = some 1 := by kernel_rfl
theorem tbytes_26 : tbytes Try.prog 26 = some 8 := by kernel_rfl
theorem tagg_26 : tagg Try.prog 26 = some false := by kernel_rfl
theorem zcells_26 : zcells Try.prog 26 = some [AV.nilp] := by kernel_rfl
theorem telem_26 : telem Try.prog 26 = none := by kernel_rfl
theorem tptr_26 : tptr Try.prog 26 = true := by kernel_rfl
theorem tnotIface_26 : tnotIface Try.prog 26 = true := by kernel_rfl
theorem tsize_27 : tsize Try.prog 27 = some 1 := by kernel_rfl
theorem tbytes_27 : tbytes Try.prog 27 = some 24 := by kernel_rfl
theorem tagg_27 : tagg Try.prog 27 = some false := by kernel_rfl
theorem zcells_27 : zcells Try.prog 27 = some [AV.nils] := by kernel_rfl
theorem telem_27 : telem Try.prog 27 = some 78 := by kernel_rfl
theorem tnotIface_27 : tnotIface Try.prog 27 = true := by kernel_rfl
theorem tsize_28 : tsize Try.prog 28 = some 1 := by kernel_rfl
theorem tbytes_28 : tbytes Try.prog 28 = some 24 := by kernel_rfl
theorem tagg_28 : tagg Try.prog 28 = some false := by kernel_rfl
theorem zcells_28 : zcells Try.prog 28 = some [AV.nils] := by kernel_rfl
theorem telem_28 : telem Try.prog 28 = some 87 := by kernel_rfl
theorem tnotIface_28 : tnotIface Try.prog 28 = true := by kernel_rfl
theorem tsize_29 : tsize Try.prog 29 = some 1 := by kernel_rfl
theorem tbytes_29 : tbytes Try.prog 29 = some 24 := by kernel_rfl
theorem tagg_29 : tagg Try.prog 29 = some false := by kernel_rfl
theorem zcells_29 : zcells Try.prog 29 = some [AV.nils] := by kernel_rfl
theorem telem_29 : telem Try.prog 29 = some 23 := by kernel_rfl
theorem tnotIface_29 : tnotIface Try.prog 29 = true := by kernel_rfl
theorem tsize_30 : tsize Try.prog 30 = some 1 := by kernel_rfl
theorem tbytes_30 : tbytes Try.prog 30 = some 24 := by kernel_rfl
theorem tagg_30 : tagg Try.prog 30 = some false := by kernel_rfl
theorem zcells_30 : zcells Try.prog 30 = some [AV.nils] := by kernel_rfl
theorem telem_30 : telem Try.prog 30 = some 89 := by kernel_rfl
theorem tnotIface_30 : tnotIface Try.prog 30 = true := by kernel_rfl
theorem tsize_31 : tsize Try.prog 31 = some 1 := by kernel_rfl
theorem tbytes_31 : tbytes Try.prog 31 = some 24 := by kernel_rfl
theorem tagg_31 : tagg Try.prog 31 = some false := by kernel_rfl
theorem zcells_31 : zcells Try.prog 31 = some [AV.nils] := by kernel_rfl
theorem telem_31 : telem Try.prog 31 = some 91 := by kernel_rfl
theorem tnotIface_31 : tnotIface Try.prog 31 = true := by kernel_rfl
theorem tsize_32 : tsize Try.prog 32 = some 1 := by kernel_rfl
theorem tbytes_32 : tbytes Try.prog 32 = some 24 := by kernel_rfl
theorem tagg_32 : tagg Try.prog 32 = some false := by kernel_rfl
theorem zcells_32 : zcells Try.prog 32 = some [AV.nils] := by kernel_rfl
theorem telem_32 : telem Try.prog 32 = some 31 := by kernel_rfl
theorem tnotIface_32 : tnotIface Try.prog 32 = true := by kernel_rfl
theorem tsize_33 : tsize Try.prog 33 = some 1 := by kernel_rfl
theorem tbytes_33 : tbytes Try.prog 33 = some 24 := by kernel_rfl
theorem tagg_33 : tagg Try.prog 33 = some false := by kernel_rfl
theorem zcells_33 : zcells Try.prog 33 = some [AV.nils] := by kernel_rfl
theorem telem_33 : telem Try.prog 33 = some 119 := by kernel_rfl
theorem tnotIface_33 : tnotIface Try.prog 33 = true := by kernel_rfl
theorem tsize_34 : tsize Try.prog 34 = some 1 := by kernel_rfl
theorem tbytes_34 : tbytes Try.prog 34 = some 24 := by kernel_rfl
theorem tagg_34 : tagg Try.prog 34 = some false := by kernel_rfl
theorem zcells_34 : zcells Try.prog 34 = some [AV.nils] := by kernel_rfl
theorem telem_34 : telem Try.prog 34 = some 22 := by kernel_rfl
theorem tnotIface_34 : tnotIface Try.prog 34 = true := by kernel_rfl
theorem tsize_35 : tsize Try.prog 35 = some 1 := by kernel_rfl
theorem tbytes_35 : tbytes Try.prog 35 = some 24 := by kernel_rfl
theorem tagg_35 : tagg Try.prog 35 = some false := by kernel_rfl
theorem zcells_35 : zcells Try.prog 35 = some [AV.nils] := by kernel_rfl
theorem telem_35 : telem Try.prog 35 = some 122 := by kernel_rfl
theorem tnotIface_35 : tnotIface Try.prog 35 = true := by kernel_rfl
theorem tsize_36 : tsize Try.prog 36 = some 1 := by kernel_rfl
theorem tbytes_36 : tbytes Try.prog 36 = some 24 := by kernel_rfl
theorem tagg_36 : tagg Try.prog 36 = some false := by kernel_rfl
theorem zcells_36 : zcells Try.prog 36 = some [AV.nils] := by kernel_rfl
theorem telem_36 : telem Try.prog 36 = some 128 := by kernel_rfl
theorem tnotIface_36 : tnotIface Try.prog 36 = true := by kernel_rfl
theorem tsize_37 : tsize Try.prog 37 = some 20 := by kernel_rfl
theorem tbytes_37 : tbytes Try.prog 37 = some 480 := by kernel_rfl
theorem tagg_37 : tagg Try.prog 37 = some true := by kernel_rfl
theorem zcells_37 : zcells Try.prog 37 = some [AV.nils, AV.nils, AV.nils, AV.nils, AV.nils, AV.nils, AV.nils, AV.nils, AV.nils, AV.nils, AV.nils, AV.nils, AV.nils, AV.nils, AV.nils, AV.nils, AV.nils, AV.nils, AV.nils, AV.nils] := by kernel_rfl
theorem telem_37 : telem Try.prog 37 = none := by kernel_rfl
theorem tnotIface_37 : tnotIface Try.prog 37 = true := by kernel_rfl
theorem foff_37_0 : foff Try.prog 37 0 = some (0, 27) := by kernel_rfl
theorem foff_37_1 : foff Try.prog 37 1 = some (1, 27) := by kernel_rfl
theorem foff_37_2 : foff Try.prog 37 2 = some (2, 28) := by kernel_rfl
theorem foff_37_3 : foff Try.prog 37 3 = some (3, 28) := by kernel_rfl
theorem foff_37_4 : foff Try.prog 37 4 = some (4, 29) := by kernel_rfl
theorem foff_37_5 : foff Try.prog 37 5 = some (5, 29) := by kernel_rfl
theorem foff_37_6 : foff Try.prog 37 6 = some (6, 30) := by kernel_rfl
theorem foff_37_7 : foff Try.prog 37 7 = some (7, 30) := by kernel_rfl
theorem foff_37_8 : foff Try.prog 37 8 = some (8, 31) := by kernel_rfl
theorem foff_37_9 : foff Try.prog 37 9 = some (9, 31) := by kernel_rfl
theorem foff_37_10 : foff Try.prog 37 10 = some (10, 32) := by kernel_rfl
theorem foff_37_11 : foff Try.prog 37 11 = some (11, 32) := by kernel_rfl
theorem foff_37_12 : foff Try.prog 37 12 = some (12, 33) := by kernel_rfl
theorem foff_37_13 : foff Try.prog 37 13 = some (13, 33) := by kernel_rfl
theorem foff_37_14 : foff Try.prog 37 14 = some (14, 34) := by kernel_rfl
theorem foff_37_15 : foff Try.prog 37 15 = some (15, 34) := by kernel_rfl
theorem foff_37_16 : foff Try.prog 37 16 = some (16, 35) := by kernel_rfl
theorem foff_37_17 : foff Try.prog 37 17 = some (17, 35) := by kernel_rfl
theorem foff_37_18 : foff Try.prog 37 18 = some (18, 36) := by kernel_rfl
theorem foff_37_19 : foff Try.prog 37 19 = some (19, 36) := by kernel_rfl
theorem fplaces_37 : fplaces Try.prog 37 = some [(0, 1), (1, 1), (2, 1), (3, 1), (4, 1), (5, 1), (6, 1), (7, 1), (8, 1), (9, 1), (10, 1), (11, 1), (12, 1), (13, 1), (14, 1), (15, 1), (16, 1), (17, 1), (18, 1), (19, 1)] := by kernel_rfl
theorem tsize_38 : tsize Try.prog 38 = some 20 := by kernel_rfl
theorem tbytes_38 : tbytes Try.prog 38 = some 480 := by kernel_rfl
theorem tagg_38 : tagg Try.prog 38 = some true := by kernel_rfl
theorem zcells_38 : zcells Try.prog 38 = some [AV.nils, AV.nils, AV.nils, AV.nils, AV.nils, AV.nils, AV.nils, AV.nils, AV.nils, AV.nils, AV.nils, AV.nils, AV.nils, AV.nils, AV.nils, AV.nils, AV.nils, AV.nils, AV.nils, AV.nils] := by kernel_rfl
theorem telem_38 : telem Try.prog 38 = none := by kernel_rfl
theorem tnotIface_38 : tnotIface Try.prog 38 = true := by kernel_rfl
theorem foff_38_0 : foff Try.prog 38 0 = some (0, 27) := by kernel_rfl
theorem foff_38_1 : foff Try.prog 38 1 = some (1, 27) := by kernel_rfl
theorem foff_38_2 : foff Try.prog 38 2 = some (2, 28) := by kernel_rfl
theorem foff_38_3 : foff Try.prog 38 3 = some (3, 28) := by kernel_rfl
theorem foff_38_4 : foff Try.prog 38 4 = some (4, 29) := by kernel_rfl
theorem foff_38_5 : foff Try.prog 38 5 = some (5, 29) := by kernel_rfl
theorem foff_38_6 : foff Try.prog 38 6 = some (6, 30) := by kernel_rfl
theorem foff_38_7 : foff Try.prog 38 7 = some (7, 30) := by kernel_rfl
theorem foff_38_8 : foff Try.prog 38 8 = some (8, 31) := by kernel_rfl
theorem foff_38_9 : foff Try.prog 38 9 = some (9, 31) := by kernel_rfl
theorem foff_38_10 : foff Try.prog 38 10 = some (10, 32) := by kernel_rfl
theorem foff_38_11 : foff Try.prog 38 11 = some (11, 32) := by kernel_rfl
theorem foff_38_12 : foff Try.prog 38 12 = some (12, 33) := by kernel_rfl
theorem foff_38_13 : foff Try.prog 38 13 = some (13, 33) := by kernel_rfl
theorem foff_38_14 : foff Try.prog 38 14 = some (14, 34) := by kernel_rfl
theorem foff_38_15 : foff Try.prog 38 15 = some (15, 34) := by kernel_rfl
theorem foff_38_16 : foff Try.prog 38 16 = some (16, 35) := by kernel_rfl
theorem foff_38_17 : foff Try.prog 38 17 = some (17, 35) := by kernel_rfl
theorem foff_38_18 : foff Try.prog 38 18 = some (18, 36) := by kernel_rfl
theorem foff_38_19 : foff Try.prog 38 19 = some (19, 36) := by kernel_rfl
theorem fplaces_38 : fplaces Try.prog 38 = some [(0, 1), (1, 1), (2, 1), (3, 1), (4, 1), (5, 1), (6, 1), (7, 1), (8, 1), (9, 1), (10, 1), (11, 1), (12, 1), (13, 1), (14, 1), (15, 1), (16, 1), (17, 1), (18, 1), (19, 1)] := by kernel_rfl
theorem tsize_43 : tsize Try.prog 43 = some 1 := by kernel_rfl
theorem tbytes_43 : tbytes Try.prog 43 = some 8 := by kernel_rfl
theorem tagg_43 : tagg Try.prog 43 = some false := by kernel_rfl
theorem zcells_43 : zcells Try.prog 43 = some [AV.int .i64 0] := by kernel_rfl
theorem telem_43 : telem Try.prog 43 = none := by kernel_rfl
theorem tint_43 : tint Try.prog 43 = some .i64 := by kernel_rfl
theorem tnotIface_43 : tnotIface Try.prog 43 = true := by kernel_rfl
theorem tsize_44 : tsize Try.prog 44 = some 4 := by kernel_rfl
theorem tbytes_44 : tbytes Try.prog 44 = some 64 := by kernel_rfl
theorem tagg_44 : tagg Try.prog 44 = some true := by kernel_rfl
theorem zcells_44 : zcells Try.prog 44 = some [AV.int .i64 0, AV.int .i64 0, AV.nils, AV.nils] := by kernel_rfl
theorem telem_44 : telem Try.prog 44 = none := by kernel_rfl
theorem tnotIface_44 : tnotIface Try.prog 44 = true := by kernel_rfl
theorem foff_44_0 : foff Try.prog 44 0 = some (0, 3) := by kernel_rfl
theorem foff_44_1 : foff Try.prog 44 1 = some (1, 3) := by kernel_rfl
theorem foff_44_2 : foff Try.prog 44 2 = some (2, 23) := by kernel_rfl
theorem foff_44_3 : foff Try.prog 44 3 = some (3, 23) := by kernel_rfl
theorem fplaces_44 : fplaces Try.prog 44 = some [(0, 1), (1, 1), (2, 1), (3, 1)] := by kernel_rfl
theorem tsize_45 : tsize Try.prog 45 = some 4 := by kernel_rfl
theorem tbytes_45 : tbytes Try.prog 45 = some 64 := by kernel_rfl
theorem tagg_45 : tagg Try.prog 45 = some true := by kernel_rfl
theorem zcells_45 : zcells Try.prog 45 = some [AV.int .i64 0, AV.int .i64 0, AV.nils, AV.nils] := by kernel_rfl
theorem telem_45 : telem Try.prog 45 = none := by kernel_rfl
theorem tnotIface_45 : tnotIface Try.prog 45 = true := by kernel_rfl
theorem foff_45_0 : foff Try.prog 45 0 = some (0, 3) := by kernel_rfl
theorem foff_45_1 : foff Try.prog 45 1 = some (1, 3) := by kernel_rfl
theorem foff_45_2 : foff Try.prog 45 2 = some (2, 23) := by kernel_rfl
theorem foff_45_3 : foff Try.prog 45 3 = some (3, 23) := by kernel_rfl
theorem fplaces_45 : fplaces Try.prog 45 = some [(0, 1), (1, 1), (2, 1), (3, 1)] := by kernel_rfl
theorem tsize_52 : tsize Try.prog 52 = some 1 := by kernel_rfl
theorem tbytes_52 : tbytes Try.prog 52 = some 24 := by kernel_rfl
theorem tagg_52 : tagg Try.prog 52 = some false := by kernel_rfl
theorem zcells_52 : zcells Try.prog 52 = some [AV.nils] := by kernel_rfl
theorem telem_52 : telem Try.prog 52 = some 4 := by kernel_rfl
theorem tnotIface_52 : tnotIface Try.prog 52 = true := by kernel_rfl
theorem tsize_53 : tsize Try.prog 53 = some 1 := by kernel_rfl
theorem tbytes_53 : tbytes Try.prog 53 = some 8 := by kernel_rfl
theorem tagg_53 : tagg Try.prog 53 = some false := by kernel_rfl
theorem zcells_53 : zcells Try.prog 53 = some [AV.int .i64 0] := by kernel_rfl
theorem telem_53 : telem Try.prog 53 = none := by kernel_rfl
theorem tint_53 : tint Try.prog 53 = some .i64 := by kernel_rfl
theorem tnotIface_53 : tnotIface Try.prog 53 = true := by kernel_rfl
theorem tsize_77 : tsize Try.prog 77 = some 1 := by kernel_rfl
theorem tbytes_77 : tbytes Try.prog 77 = some 8 := by kernel_rfl
theorem tagg_77 : tagg Try.prog 77 = some false := by kernel_rfl
theorem zcells_77 : zcells Try.prog 77 = some [AV.int .i64 0] := by kernel_rfl
theorem telem_77 : telem Try.prog 77 = none := by kernel_rfl
theorem tint_77 : tint Try.prog 77 = some .i64 := by kernel_rfl
theorem tnotIface_77 : tnotIface Try.prog 77 = true := by kernel_rfl
theorem tsize_78 : tsize Try.prog 78 = some 1 := by kernel_rfl
theorem tbytes_78 : tbytes Try.prog 78 = some 24 := by kernel_rfl
theorem tagg_78 : tagg Try.prog 78 = some false := by kernel_rfl
theorem zcells_78 : zcells Try.prog 78 = some [AV.nils] := by kernel_rfl
theorem telem_78 : telem Try.prog 78 = some 115 := by kernel_rfl
theorem tnotIface_78 : tnotIface Try.prog 78 = true := by kernel_rfl
theorem tsize_79 : tsize Try.prog 79 = some 1 := by kernel_rfl
theorem tbytes_79 : tbytes Try.prog 79 = some 24 := by kernel_rfl
theorem tagg_79 : tagg Try.prog 79 = some false := by kernel_rfl
theorem zcells_79 : zcells Try.prog 79 = some [AV.nils] := by kernel_rfl
theorem telem_79 : telem Try.prog 79 = some 115 := by kernel_rfl
theorem tnotIface_79 : tnotIface Try.prog 79 = true := by kernel_rfl
theorem tsize_80 : tsize Try.prog 80 = some 3 := by kernel_rfl
theorem tbytes_80 : tbytes Try.prog 80 = some 56 := by kernel_rfl
theorem tagg_80 : tagg Try.prog 80 = some true := by kernel_rfl
theorem zcells_80 : zcells Try.prog 80 = some [AV.bool false, AV.nils, AV.nils] := by kernel_rfl
theorem telem_80 : telem Try.prog 80 = none := by kernel_rfl
theorem tnotIface_80 : tnotIface Try.prog 80 = true := by kernel_rfl
theorem foff_80_0 : foff Try.prog 80 0 = some (0, 4) := by kernel_rfl
theorem foff_80_1 : foff Try.prog 80 1 = some (1, 79) := by kernel_rfl
theorem foff_80_2 : foff Try.prog 80 2 = some (2, 79) := by kernel_rfl
theorem fplaces_80 : fplaces Try.prog 80 = some [(0, 1), (1, 1), (2, 1)] := by kernel_rfl
theorem tsize_81 : tsize Try.prog 81 = some 3 := by kernel_rfl
theorem tbytes_81 : tbytes Try.prog 81 = some 56 := by kernel_rfl
theorem tagg_81 : tagg Try.prog 81 = some true := by kernel_rfl
theorem zcells_81 : zcells Try.prog 81 = some [AV.bool false, AV.nils, AV.nils] := by kernel_rfl
theorem telem_81 : telem Try.prog 81 = none := by kernel_rfl
theorem tnotIface_81 : tnotIface Try.prog 81 = true := by kernel_rfl
theorem foff_81_0 : foff Try.prog 81 0 = some (0, 4) := by kernel_rfl
theorem foff_81_1 : foff Try.prog 81 1 = some (1, 79) := by kernel_rfl
theorem foff_81_2 : foff Try.prog 81 2 = some (2, 79) := by kernel_rfl
theorem fplaces_81 : fplaces Try.prog 81 = some [(0, 1), (1, 1), (2, 1)] := by kernel_rfl
theorem tsize_82 : tsize Try.prog 82 = some 7 := by kernel_rfl
theorem tbytes_82 : tbytes Try.prog 82 = some 88 := by kernel_rfl
theorem tagg_82 : tagg Try.prog 82 = some true := by kernel_rfl
theorem zcells_82 : zcells Try.prog 82 = some [AV.int .i64 0, AV.int .i64 0, AV.int .i64 0, AV.int .i64 0, AV.bool false, AV.nils, AV.nils] := by kernel_rfl
theorem telem_82 : telem Try.prog 82 = none := by kernel_rfl
theorem tnotIface_82 : tnotIface Try.prog 82 = true := by kernel_rfl
theorem foff_82_0 : foff Try.prog 82 0 = some (0, 77) := by kernel_rfl
theorem foff_82_1 : foff Try.prog 82 1 = some (1, 3) := by kernel_rfl
theorem foff_82_2 : foff Try.prog 82 2 = some (2, 3) := by kernel_rfl
theorem foff_82_3 : foff Try.prog 82 3 = some (3, 3) := by kernel_rfl
theorem foff_82_4 : foff Try.prog 82 4 = some (4, 81) := by kernel_rfl
theorem fplaces_82 : fplaces Try.prog 82 = some [(0, 1), (1, 1), (2, 1), (3, 1), (4, 3)] := by kernel_rfl
theorem tsize_83 : tsize Try.prog 83 = some 7 := by kernel_rfl
theorem tbytes_83 : tbytes Try.prog 83 = some 88 := by kernel_rfl
theorem tagg_83 : tagg Try.prog 83 = some true := by kernel_rfl
theorem zcells_83 : zcells Try.prog 83 = some [AV.int .i64 0, AV.int .i64 0, AV.int .i64 0, AV.int .i64 0, AV.bool false, AV.nils, AV.nils] := by kernel_rfl
theorem telem_83 : telem Try.prog 83 = none := by kernel_rfl
theorem tnotIface_83 : tnotIface Try.prog 83 = true := by kernel_rfl
theorem foff_83_0 : foff Try.prog 83 0 = some (0, 77) := by kernel_rfl
theorem foff_83_1 : foff Try.prog 83 1 = some (1, 3) := by kernel_rfl
theorem foff_83_2 : foff Try.prog 83 2 = some (2, 3) := by kernel_rfl
theorem foff_83_3 : foff Try.prog 83 3 = some (3, 3) := by kernel_rfl
theorem foff_83_4 : foff Try.prog 83 4 = some (4, 81) := by kernel_rfl
theorem fplaces_83 : fplaces Try.prog 83 = some [(0, 1), (1, 1), (2, 1), (3, 1), (4, 3)] := by kernel_rfl
theorem tsize_87 : tsize Try.prog 87 = some 1 := by kernel_rfl
theorem tbytes_87 : tbytes Try.prog 87 = some 24 := by kernel_rfl
theorem tagg_87 : tagg Try.prog 87 = some false := by kernel_rfl
theorem zcells_87 : zcells Try.prog 87 = some [AV.nils] := by kernel_rfl
theorem telem_87 : telem Try.prog 87 = some 116 := by kernel_rfl
theorem tnotIface_87 : tnotIface Try.prog 87 = true := by kernel_rfl
theorem tsize_89 : tsize Try.prog 89 = some 1 := by kernel_rfl
theorem tbytes_89 : tbytes Try.prog 89 = some 24 := by kernel_rfl
theorem tagg_89 : tagg Try.prog 89 = some false := by kernel_rfl
theorem zcells_89 : zcells Try.prog 89 = some [AV.nils] := by kernel_rfl
theorem telem_89 : telem Try.prog 89 = some 9 := by kernel_rfl
theorem tnotIface_89 : tnotIface Try.prog 89 = true := by kernel_rfl
theorem tsize_91 : tsize Try.prog 91 = some 1 := by kernel_rfl
theorem tbytes_91 : tbytes Try.prog 91 = some 24 := by kernel_rfl
theorem tagg_91 : tagg Try.prog 91 = some false := by kernel_rfl
theorem zcells_91 : zcells Try.prog 91 = some [AV.nils] := by kernel_rfl
theorem telem_91 : telem Try.prog 91 = some 81 := by kernel_rfl
theorem tnotIface_91 : tnotIface Try.prog 91 = true := by kernel_rfl
theorem tsize_100 : tsize Try.prog 100 = some 1 := by kernel_rfl
theorem tbytes_100 : tbytes Try.prog 100 = some 8 := by kernel_rfl
theorem tagg_100 : tagg Try.prog 100 = some true := by kernel_rfl
theorem zcells_100 : zcells Try.prog 100 = some [AV.nilf] := by kernel_rfl
theorem telem_100 : telem Try.prog 100 = none := by kernel_rfl
theorem tnotIface_100 : tnotIface Try.prog 100 = true := by kernel_rfl
theorem foff_100_0 : foff Try.prog 100 0 = some (0, 99) := by kernel_rfl
theorem fplaces_100 : fplaces Try.prog 100 = some [(0, 1)] := by kernel_rfl
theorem tsize_101 : tsize Try.prog 101 = some 1 := by kernel_rfl
theorem tbytes_101 : tbytes Try.prog 101 = some 8 := by kernel_rfl
theorem tagg_101 : tagg Try.prog 101 = some true := by kernel_rfl
theorem zcells_101 : zcells Try.prog 101 = some [AV.nilf] := by kernel_rfl
theorem telem_101 : telem Try.prog 101 = none := by kernel_rfl
theorem tnotIface_101 : tnotIface Try.prog 101 = true := by kernel_rfl
theorem foff_101_0 : foff Try.prog 101 0 = some (0, 99) := by kernel_rfl
theorem fplaces_101 : fplaces Try.prog 101 = some [(0, 1)] := by kernel_rfl
theorem tsize_102 : tsize Try.prog 102 = some 6 := by kernel_rfl
theorem tbytes_102 : tbytes Try.prog 102 = some 48 := by kernel_rfl
theorem tagg_102 : tagg Try.prog 102 = some true := by kernel_rfl
theorem zcells_102 : zcells Try.prog 102 = some [AV.nilf, AV.nilf, AV.nilf, AV.nilf, AV.nilf, AV.nilf] := by kernel_rfl
theorem telem_102 : telem Try.prog 102 = none := by kernel_rfl
theorem tarr_102 : tarr Try.prog 102 = some (6, 101) := by kernel_rfl
theorem tnotIface_102 : tnotIface Try.prog 102 = true := by kernel_rfl
theorem tsize_108 : tsize Try.prog 108 = some 1 := by kernel_rfl
theorem tbytes_108 : tbytes Try.prog 108 = some 24 := by kernel_rfl
theorem tagg_108 : tagg Try.prog 108 = some false := by kernel_rfl
theorem zcells_108 : zcells Try.prog 108 = some [AV.nils] := by kernel_rfl
theorem telem_108 : telem Try.prog 108 = some 25 := by kernel_rfl
theorem tnotIface_108 : tnotIface Try.prog 108 = true := by kernel_rfl
theorem tsize_115 : tsize Try.prog 115 = some 1 := by kernel_rfl
theorem tbytes_115 : tbytes Try.prog 115 = some 4 := by kernel_rfl
theorem tagg_115 : tagg Try.prog 115 = some false := by kernel_rfl
theorem zcells_115 : zcells Try.prog 115 = some [AV.int .u32 0] := by kernel_rfl
theorem telem_115 : telem Try.prog 115 = none := by kernel_rfl
theorem tint_115 : tint Try.prog 115 = some .u32 := by kernel_rfl
theorem tnotIface_115 : tnotIface Try.prog 115 = true := by kernel_rfl
theorem tsize_116 : tsize Try.prog 116 = some 1 := by kernel_rfl
theorem tbytes_116 : tbytes Try.prog 116 = some 8 := by kernel_rfl
theorem tagg_116 : tagg Try.prog 116 = some false := by kernel_rfl
theorem zcells_116 : zcells Try.prog 116 = some [AV.int .u64 0] := by kernel_rfl
theorem telem_116 : telem Try.prog 116 = none := by kernel_rfl
theorem tint_116 : tint Try.prog 116 = some .u64 := by kernel_rfl
theorem tnotIface_116 : tnotIface Try.prog 116 = true := by kernel_rfl
theorem tsize_119 : tsize Try.prog 119 = some 1 := by kernel_rfl
theorem tbytes_119 : tbytes Try.prog 119 = some 24 := by kernel_rfl
theorem tagg_119 : tagg Try.prog 119 = some false := by kernel_rfl
theorem zcells_119 : zcells Try.prog 119 = some [AV.nils] := by kernel_rfl
theorem telem_119 : telem Try.prog 119 = some 143 := by kernel_rfl
theorem tnotIface_119 : tnotIface Try.prog 119 = true := by kernel_rfl
theorem tsize_120 : tsize Try.prog 120 = some 2 := by kernel_rfl
theorem tbytes_120 : tbytes Try.prog 120 = some 32 := by kernel_rfl
theorem tagg_120 : tagg Try.prog 120 = some true := by kernel_rfl
theorem zcells_120 : zcells Try.prog 120 = some [AV.int .i64 0, AV.nils] := by kernel_rfl
theorem telem_120 : telem Try.prog 120 = none := by kernel_rfl
theorem tnotIface_120 : tnotIface Try.prog 120 = true := by kernel_rfl
theorem foff_120_0 : foff Try.prog 120 0 = some (0, 3) := by kernel_rfl
theorem foff_120_1 : foff Try.prog 120 1 = some (1, 119) := by kernel_rfl
theorem fplaces_120 : fplaces Try.prog 120 = some [(0, 1), (1, 1)] := by kernel_rfl
theorem tsize_121 : tsize Try.prog 121 = some 2 := by kernel_rfl
theorem tbytes_121 : tbytes Try.prog 121 = some 32 := by kernel_rfl
theorem tagg_121 : tagg Try.prog 121 = some true := by kernel_rfl
theorem zcells_121 : zcells Try.prog 121 = some [AV.int .i64 0, AV.nils] := by kernel_rfl
theorem telem_121 : telem Try.prog 121 = none := by kernel_rfl
theorem tnotIface_121 : tnotIface Try.prog 121 = true := by kernel_rfl
theorem foff_121_0 : foff Try.prog 121 0 = some (0, 3) := by kernel_rfl
theorem foff_121_1 : foff Try.prog 121 1 = some (1, 119) := by kernel_rfl
theorem fplaces_121 : fplaces Try.prog 121 = some [(0, 1), (1, 1)] := by kernel_rfl
theorem tsize_122 : tsize Try.prog 122 = some 1 := by kernel_rfl
theorem tbytes_122 : tbytes Try.prog 122 = some 24 := by kernel_rfl
theorem tagg_122 : tagg Try.prog 122 = some false := by kernel_rfl
theorem zcells_122 : zcells Try.prog 122 = some [AV.nils] := by kernel_rfl
theorem telem_122 : telem Try.prog 122 = some 45 := by kernel_rfl
theorem tnotIface_122 : tnotIface Try.prog 122 = true := by kernel_rfl
theorem tsize_124 : tsize Try.prog 124 = some 1 := by kernel_rfl
theorem tbytes_124 : tbytes Try.prog 124 = some 24 := by kernel_rfl
theorem tagg_124 : tagg Try.prog 124 = some false := by kernel_rfl
theorem zcells_124 : zcells Try.prog 124 = some [AV.nils] := by kernel_rfl
theorem telem_124 : telem Try.prog 124 = some 145 := by kernel_rfl
theorem tnotIface_124 : tnotIface Try.prog 124 = true := by kernel_rfl
theorem tsize_125 : tsize Try.prog 125 = some 1 := by kernel_rfl
theorem tbytes_125 : tbytes Try.prog 125 = some 24 := by kernel_rfl
theorem tagg_125 : tagg Try.prog 125 = some false := by kernel_rfl
theorem zcells_125 : zcells Try.prog 125 = some [AV.nils] := by kernel_rfl
theorem telem_125 : telem Try.prog 125 = some 147 := by kernel_rfl
theorem tnotIface_125 : tnotIface Try.prog 125 = true := by kernel_rfl
theorem tsize_126 : tsize Try.prog 126 = some 1 := by kernel_rfl
theorem tbytes_126 : tbytes Try.prog 126 = some 24 := by kernel_rfl
theorem tagg_126 : tagg Try.prog 126 = some false := by kernel_rfl
theorem zcells_126 : zcells Try.prog 126 = some [AV.nils] := by kernel_rfl
theorem telem_126 : telem Try.prog 126 = some 150 := by kernel_rfl
theorem tnotIface_126 : tnotIface Try.prog 126 = true := by kernel_rfl
theorem tsize_127 : tsize Try.prog 127 = some 5 := by kernel_rfl
theorem tbytes_127 : tbytes Try.prog 127 = some 120 := by kernel_rfl
theorem tagg_127 : tagg Try.prog 127 = some true := by kernel_rfl
theorem zcells_127 : zcells Try.prog 127 = some [AV.nils, AV.nils, AV.nils, AV.nils, AV.nils] := by kernel_rfl
theorem telem_127 : telem Try.prog 127 = none := by kernel_rfl
theorem tnotIface_127 : tnotIface Try.prog 127 = true := by kernel_rfl
theorem foff_127_0 : foff Try.prog 127 0 = some (0, 89) := by kernel_rfl
theorem foff_127_1 : foff Try.prog 127 1 = some (1, 124) := by kernel_rfl
theorem foff_127_2 : foff Try.prog 127 2 = some (2, 125) := by kernel_rfl
theorem foff_127_3 : foff Try.prog 127 3 = some (3, 23) := by kernel_rfl
theorem foff_127_4 : foff Try.prog 127 4 = some (4, 126) := by kernel_rfl
theorem fplaces_127 : fplaces Try.prog 127 = some [(0, 1), (1, 1), (2, 1), (3, 1), (4, 1)] := by kernel_rfl
theorem tsize_128 : tsize Try.prog 128 = some 5 := by kernel_rfl
theorem tbytes_128 : tbytes Try.prog 128 = some 120 := by kernel_rfl
theorem tagg_128 : tagg Try.prog 128 = some true := by kernel_rfl
theorem zcells_128 : zcells Try.prog 128 = some [AV.nils, AV.nils, AV.nils, AV.nils, AV.nils] := by kernel_rfl
theorem telem_128 : telem Try.prog 128 = none := by kernel_rfl
theorem tnotIface_128 : tnotIface Try.prog 128 = true := by kernel_rfl
theorem foff_128_0 : foff Try.prog 128 0 = some (0, 89) := by kernel_rfl
theorem foff_128_1 : foff Try.prog 128 1 = some (1, 124) := by kernel_rfl
theorem foff_128_2 : foff Try.prog 128 2 = some (2, 125) := by kernel_rfl
theorem foff_128_3 : foff Try.prog 128 3 = some (3, 23) := by kernel_rfl
theorem foff_128_4 : foff Try.prog 128 4 = some (4, 126) := by kernel_rfl
theorem fplaces_128 : fplaces Try.prog 128 = some [(0, 1), (1, 1), (2, 1), (3, 1), (4, 1)] := by kernel_rfl
theorem tsize_136 : tsize Try.prog 136 = some 128 := by kernel_rfl
theorem tbytes_136 : tbytes Try.prog 136 = some 128 := by kernel_rfl
theorem tagg_136 : tagg Try.prog 136 = some true := by kernel_rfl
theorem zcells_136 : zcells Try.prog 136 = some (List.map AV.bool (List.replicate 128 false)) := by kernel_rfl
theorem telem_136 : telem Try.prog 136 = none := by kernel_rfl
theorem tarr_136 : tarr Try.prog 136 = some (128, 4) := by kernel_rfl
theorem tnotIface_136 : tnotIface Try.prog 136 = true := by kernel_rfl
theorem tsize_142 : tsize Try.prog 142 = some 2 := by kernel_rfl
theorem tbytes_142 : tbytes Try.prog 142 = some 32 := by kernel_rfl
theorem tagg_142 : tagg Try.prog 142 = some true := by kernel_rfl
theorem zcells_142 : zcells Try.prog 142 = some [AV.int .i64 0, AV.nils] := by kernel_rfl
theorem telem_142 : telem Try.prog 142 = none := by kernel_rfl
theorem tnotIface_142 : tnotIface Try.prog 142 = true := by kernel_rfl
theorem foff_142_0 : foff Try.prog 142 0 = some (0, 3) := by kernel_rfl
theorem foff_142_1 : foff Try.prog 142 1 = some (1, 87) := by kernel_rfl
theorem fplaces_142 : fplaces Try.prog 142 = some [(0, 1), (1, 1)] := by kernel_rfl
theorem tsize_143 : tsize Try.prog 143 = some 2 := by kernel_rfl
theorem tbytes_143 : tbytes Try.prog 143 = some 32 := by kernel_rfl
theorem tagg_143 : tagg Try.prog 143 = some true := by kernel_rfl
theorem zcells_143 : zcells Try.prog 143 = some [AV.int .i64 0, AV.nils] := by kernel_rfl
theorem telem_143 : telem Try.prog 143 = none := by kernel_rfl
theorem tnotIface_143 : tnotIface Try.prog 143 = true := by kernel_rfl
theorem foff_143_0 : foff Try.prog 143 0 = some (0, 3) := by kernel_rfl
theorem foff_143_1 : foff Try.prog 143 1 = some (1, 87) := by kernel_rfl
theorem fplaces_143 : fplaces Try.prog 143 = some [(0, 1), (1, 1)] := by kernel_rfl
theorem tsize_144 : tsize Try.prog 144 = some 3 := by kernel_rfl
theorem tbytes_144 : tbytes Try.prog 144 = some 48 := by kernel_rfl
theorem tagg_144 : tagg Try.prog 144 = some true := by kernel_rfl
theorem zcells_144 : zcells Try.prog 144 = some [AV.str ⟨#[]⟩, AV.nils, AV.int .i64 0] := by kernel_rfl
theorem telem_144 : telem Try.prog 144 = none := by kernel_rfl
theorem tnotIface_144 : tnotIface Try.prog 144 = true := by kernel_rfl
theorem foff_144_0 : foff Try.prog 144 0 = some (0, 9) := by kernel_rfl
theorem foff_144_1 : foff Try.prog 144 1 = some (1, 89) := by kernel_rfl
theorem foff_144_2 : foff Try.prog 144 2 = some (2, 3) := by kernel_rfl
theorem fplaces_144 : fplaces Try.prog 144 = some [(0, 1), (1, 1), (2, 1)] := by kernel_rfl
theorem tsize_145 : tsize Try.prog 145 = some 3 := by kernel_rfl
theorem tbytes_145 : tbytes Try.prog 145 = some 48 := by kernel_rfl
theorem tagg_145 : tagg Try.prog 145 = some true := by kernel_rfl
theorem zcells_145 : zcells Try.prog 145 = some [AV.str ⟨#[]⟩, AV.nils, AV.int .i64 0] := by kernel_rfl
theorem telem_145 : telem Try.prog 145 = none := by kernel_rfl
theorem tnotIface_145 : tnotIface Try.prog 145 = true := by kernel_rfl
theorem foff_145_0 : foff Try.prog 145 0 = some (0, 9) := by kernel_rfl
theorem foff_145_1 : foff Try.prog 145 1 = some (1, 89) := by kernel_rfl
theorem foff_145_2 : foff Try.prog 145 2 = some (2, 3) := by kernel_rfl
theorem fplaces_145 : fplaces Try.prog 145 = some [(0, 1), (1, 1), (2, 1)] := by kernel_rfl
theorem tsize_146 : tsize Try.prog 146 = some 2 := by kernel_rfl
theorem tbytes_146 : tbytes Try.prog 146 = some 24 := by kernel_rfl
theorem tagg_146 : tagg Try.prog 146 = some true := by kernel_rfl
theorem zcells_146 : zcells Try.prog 146 = some [AV.str ⟨#[]⟩, AV.int .i64 0] := by kernel_rfl
theorem telem_146 : telem Try.prog 146 = none := by kernel_rfl
theorem tnotIface_146 : tnotIface Try.prog 146 = true := by kernel_rfl
theorem foff_146_0 : foff Try.prog 146 0 = some (0, 9) := by kernel_rfl
theorem foff_146_1 : foff Try.prog 146 1 = some (1, 3) := by kernel_rfl
theorem fplaces_146 : fplaces Try.prog 146 = some [(0, 1), (1, 1)] := by kernel_rfl
theorem tsize_147 : tsize Try.prog 147 = some 2 := by kernel_rfl
theorem tbytes_147 : tbytes Try.prog 147 = some 24 := by kernel_rfl
theorem tagg_147 : tagg Try.prog 147 = some true := by kernel_rfl
theorem zcells_147 : zcells Try.prog 147 = some [AV.str ⟨#[]⟩, AV.int .i64 0] := by kernel_rfl
theorem telem_147 : telem Try.prog 147 = none := by kernel_rfl
theorem tnotIface_147 : tnotIface Try.prog 147 = true := by kernel_rfl
theorem foff_147_0 : foff Try.prog 147 0 = some (0, 9) := by kernel_rfl
theorem foff_147_1 : foff Try.prog 147 1 = some (1, 3) := by kernel_rfl
theorem fplaces_147 : fplaces Try.prog 147 = some [(0, 1), (1, 1)] := by kernel_rfl
theorem tsize_148 : tsize Try.prog 148 = some 1 := by kernel_rfl
theorem tbytes_148 : tbytes Try.prog 148 = some 8 := by kernel_rfl
theorem tagg_148 : tagg Try.prog 148 = some false := by kernel_rfl
theorem zcells_148 : zcells Try.prog 148 = some [AV.int .i64 0] := by kernel_rfl
theorem telem_148 : telem Try.prog 148 = none := by kernel_rfl
theorem tint_148 : tint Try.prog 148 = some .i64 := by kernel_rfl
theorem tnotIface_148 : tnotIface Try.prog 148 = true := by kernel_rfl
theorem tsize_149 : tsize Try.prog 149 = some 7 := by kernel_rfl
theorem tbytes_149 : tbytes Try.prog 149 = some 112 := by kernel_rfl
theorem tagg_149 : tagg Try.prog 149 = some true := by kernel_rfl
theorem zcells_149 : zcells Try.prog 149 = some [AV.int .i64 0, AV.str ⟨#[]⟩, AV.bool false, AV.nils, AV.nils, AV.int .i64 0, AV.nils] := by kernel_rfl
theorem telem_149 : telem Try.prog 149 = none := by kernel_rfl
theorem tnotIface_149 : tnotIface Try.prog 149 = true := by kernel_rfl
theorem foff_149_0 : foff Try.prog 149 0 = some (0, 148) := by kernel_rfl
theorem foff_149_1 : foff Try.prog 149 1 = some (1, 9) := by kernel_rfl
theorem foff_149_2 : foff Try.prog 149 2 = some (2, 81) := by kernel_rfl
theorem foff_149_3 : foff Try.prog 149 3 = some (5, 3) := by kernel_rfl
theorem foff_149_4 : foff Try.prog 149 4 = some (6, 23) := by kernel_rfl
theorem fplaces_149 : fplaces Try.prog 149 = some [(0, 1), (1, 1), (2, 3), (5, 1), (6, 1)] := by kernel_rfl
theorem tsize_150 : tsize Try.prog 150 = some 7 := by kernel_rfl
theorem tbytes_150 : tbytes Try.prog 150 = some 112 := by kernel_rfl
theorem tagg_150 : tagg Try.prog 150 = some true := by kernel_rfl
theorem zcells_150 : zcells Try.prog 150 = some [AV.int .i64 0, AV.str ⟨#[]⟩, AV.bool false, AV.nils, AV.nils, AV.int .i64 0, AV.nils] := by kernel_rfl
theorem telem_150 : telem Try.prog 150 = none := by kernel_rfl
theorem tnotIface_150 : tnotIface Try.prog 150 = true := by kernel_rfl
theorem foff_150_0 : foff Try.prog 150 0 = some (0, 148) := by kernel_rfl
theorem foff_150_1 : foff Try.prog 150 1 = some (1, 9) := by kernel_rfl
theorem foff_150_2 : foff Try.prog 150 2 = some (2, 81) := by kernel_rfl
theorem foff_150_3 : foff Try.prog 150 3 = some (5, 3) := by kernel_rfl
theorem foff_150_4 : foff Try.prog 150 4 = some (6, 23) := by kernel_rfl
theorem fplaces_150 : fplaces Try.prog 150 = some [(0, 1), (1, 1), (2, 3), (5, 1), (6, 1)] := by kernel_rfl
theorem tsize_170 : tsize Try.prog 170 = some 1 := by kernel_rfl
theorem tbytes_170 : tbytes Try.prog 170 = some 24 := by kernel_rfl
theorem tagg_170 : tagg Try.prog 170 = some false := by kernel_rfl
theorem zcells_170 : zcells Try.prog 170 = some [AV.nils] := by kernel_rfl
theorem telem_170 : telem Try.prog 170 = some 115 := by kernel_rfl
theorem tnotIface_170 : tnotIface Try.prog 170 = true := by kernel_rfl
theorem tsize_173 : tsize Try.prog 173 = some 1 := by kernel_rfl
theorem tbytes_173 : tbytes Try.prog 173 = some 8 := by kernel_rfl
theorem tagg_173 : tagg Try.prog 173 = some false := by kernel_rfl
theorem zcells_173 : zcells Try.prog 173 = some [AV.int .u64 0] := by kernel_rfl
theorem telem_173 : telem Try.prog 173 = none := by kernel_rfl
theorem tint_173 : tint Try.prog 173 = some .u64 := by kernel_rfl
theorem tnotIface_173 : tnotIface Try.prog 173 = true := by kernel_rfl
theorem tsize_205 : tsize Try.prog 205 = some 1 := by kernel_rfl
theorem tbytes_205 : tbytes Try.prog 205 = some 16 := by kernel_rfl
theorem tagg_205 : tagg Try.prog 205 = some false := by kernel_rfl
theorem zcells_205 : zcells Try.prog 205 = some [AV.nili] := by kernel_rfl
theorem telem_205 : telem Try.prog 205 = none := by kernel_rfl
theorem tsize_206 : tsize Try.prog 206 = some 1 := by kernel_rfl
theorem tbytes_206 : tbytes Try.prog 206 = some 16 := by kernel_rfl
theorem tagg_206 : tagg Try.prog 206 = some false := by kernel_rfl
theorem zcells_206 : zcells Try.prog 206 = some [AV.nili] := by kernel_rfl
theorem telem_206 : telem Try.prog 206 = none := by kernel_rfl
theorem tsize_207 : tsize Try.prog 207 = some 1 := by kernel_rfl
theorem tbytes_207 : tbytes Try.prog 207 = some 8 := by kernel_rfl
theorem tagg_207 : tagg Try.prog 207 = some false := by kernel_rfl
theorem zcells_207 : zcells Try.prog 207 = some [AV.nilp] := by kernel_rfl
theorem telem_207 : telem Try.prog 207 = none := by kernel_rfl
theorem tptr_207 : tptr Try.prog 207 = true := by kernel_rfl
theorem tnotIface_207 : tnotIface Try.prog 207 = true := by kernel_rfl
theorem tsize_209 : tsize Try.prog 209 = some 4 := by kernel_rfl
theorem tbytes_209 : tbytes Try.prog 209 = some 40 := by kernel_rfl
theorem tagg_209 : tagg Try.prog 209 = some true := by kernel_rfl
theorem zcells_209 : zcells Try.prog 209 = some [AV.nilp, AV.nilp, AV.nilp, AV.str ⟨#[]⟩] := by kernel_rfl
theorem telem_209 : telem Try.prog 209 = none := by kernel_rfl
theorem tnotIface_209 : tnotIface Try.prog 209 = true := by kernel_rfl
theorem foff_209_0 : foff Try.prog 209 0 = some (0, 17) := by kernel_rfl
theorem foff_209_1 : foff Try.prog 209 1 = some (1, 17) := by kernel_rfl
theorem foff_209_2 : foff Try.prog 209 2 = some (2, 17) := by kernel_rfl
theorem foff_209_3 : foff Try.prog 209 3 = some (3, 9) := by kernel_rfl
theorem fplaces_209 : fplaces Try.prog 209 = some [(0, 1), (1, 1), (2, 1), (3, 1)] := by kernel_rfl
theorem tsize_210 : tsize Try.prog 210 = some 4 := by kernel_rfl
theorem tbytes_210 : tbytes Try.prog 210 = some 40 := by kernel_rfl
theorem tagg_210 : tagg Try.prog 210 = some true := by kernel_rfl
theorem zcells_210 : zcells Try.prog 210 = some [AV.nilp, AV.nilp, AV.nilp, AV.str ⟨#[]⟩] := by kernel_rfl
theorem telem_210 : telem Try.prog 210 = none := by kernel_rfl
theorem tnotIface_210 : tnotIface Try.prog 210 = true := by kernel_rfl
theorem foff_210_0 : foff Try.prog 210 0 = some (0, 17) := by kernel_rfl
theorem foff_210_1 : foff Try.prog 210 1 = some (1, 17) := by kernel_rfl
theorem foff_210_2 : foff Try.prog 210 2 = some (2, 17) := by kernel_rfl
theorem foff_210_3 : foff Try.prog 210 3 = some (3, 9) := by kernel_rfl
theorem fplaces_210 : fplaces Try.prog 210 = some [(0, 1), (1, 1), (2, 1), (3, 1)] := by kernel_rfl
theorem tsize_211 : tsize Try.prog 211 = some 0 := by kernel_rfl
theorem tbytes_211 : tbytes Try.prog 211 = some 0 := by kernel_rfl
theorem tagg_211 : tagg Try.prog 211 = some true := by kernel_rfl
theorem zcells_211 : zcells Try.prog 211 = some [] := by kernel_rfl
theorem telem_211 : telem Try.prog 211 = none := by kernel_rfl
theorem tarr_211 : tarr Try.prog 211 = some (0, 16) := by kernel_rfl
theorem tnotIface_211 : tnotIface Try.prog 211 = true := by kernel_rfl
theorem tsize_212 : tsize Try.prog 212 = some 0 := by kernel_rfl
theorem tbytes_212 : tbytes Try.prog 212 = some 0 := by kernel_rfl
theorem tagg_212 : tagg Try.prog 212 = some true := by kernel_rfl
theorem zcells_212 : zcells Try.prog 212 = some [] := by kernel_rfl
theorem telem_212 : telem Try.prog 212 = none := by kernel_rfl
theorem tnotIface_212 : tnotIface Try.prog 212 = true := by kernel_rfl
theorem fplaces_212 : fplaces Try.prog 212 = some [(0, 0)] := by kernel_rfl
theorem tsize_213 : tsize Try.prog 213 = some 0 := by kernel_rfl
theorem tbytes_213 : tbytes Try.prog 213 = some 0 := by kernel_rfl
theorem tagg_213 : tagg Try.prog 213 = some true := by kernel_rfl
theorem zcells_213 : zcells Try.prog 213 = some [] := by kernel_rfl
theorem telem_213 : telem Try.prog 213 = none := by kernel_rfl
theorem tnotIface_213 : tnotIface Try.prog 213 = true := by kernel_rfl
theorem fplaces_213 : fplaces Try.prog 213 = some [(0, 0)] := by kernel_rfl
theorem tsize_215 : tsize Try.prog 215 = some 1 := by kernel_rfl
theorem tbytes_215 : tbytes Try.prog 215 = some 1 := by kernel_rfl
theorem tagg_215 : tagg Try.prog 215 = some false := by kernel_rfl
theorem zcells_215 : zcells Try.prog 215 = some [AV.int .u8 0] := by kernel_rfl
theorem telem_215 : telem Try.prog 215 = none := by kernel_rfl
theorem tint_215 : tint Try.prog 215 = some .u8 := by kernel_rfl
theorem tnotIface_215 : tnotIface Try.prog 215 = true := by kernel_rfl
theorem tsize_216 : tsize Try.prog 216 = some 1 := by kernel_rfl
theorem tbytes_216 : tbytes Try.prog 216 = some 1 := by kernel_rfl
theorem tagg_216 : tagg Try.prog 216 = some false := by kernel_rfl
theorem zcells_216 : zcells Try.prog 216 = some [AV.int .u8 0] := by kernel_rfl
theorem telem_216 : telem Try.prog 216 = none := by kernel_rfl
theorem tint_216 : tint Try.prog 216 = some .u8 := by kernel_rfl
theorem tnotIface_216 : tnotIface Try.prog 216 = true := by kernel_rfl
theorem tsize_218 : tsize Try.prog 218 = some 1 := by kernel_rfl
theorem tbytes_218 : tbytes Try.prog 218 = some 8 := by kernel_rfl
theorem tagg_218 : tagg Try.prog 218 = some false := by kernel_rfl
theorem zcells_218 : zcells Try.prog 218 = some [AV.nilp] := by kernel_rfl
theorem telem_218 : telem Try.prog 218 = none := by kernel_rfl
theorem tptr_218 : tptr Try.prog 218 = true := by kernel_rfl
theorem tnotIface_218 : tnotIface Try.prog 218 = true := by kernel_rfl
theorem tsize_219 : tsize Try.prog 219 = some 1 := by kernel_rfl
theorem tbytes_219 : tbytes Try.prog 219 = some 4 := by kernel_rfl
theorem tagg_219 : tagg Try.prog 219 = some false := by kernel_rfl
theorem zcells_219 : zcells Try.prog 219 = some [AV.int .i32 0] := by kernel_rfl
theorem telem_219 : telem Try.prog 219 = none := by kernel_rfl
theorem tint_219 : tint Try.prog 219 = some .i32 := by kernel_rfl
theorem tnotIface_219 : tnotIface Try.prog 219 = true := by kernel_rfl
theorem tsize_220 : tsize Try.prog 220 = some 1 := by kernel_rfl
theorem tbytes_220 : tbytes Try.prog 220 = some 4 := by kernel_rfl
theorem tagg_220 : tagg Try.prog 220 = some false := by kernel_rfl
theorem zcells_220 : zcells Try.prog 220 = some [AV.int .i32 0] := by kernel_rfl
theorem telem_220 : telem Try.prog 220 = none := by kernel_rfl
theorem tint_220 : tint Try.prog 220 = some .i32 := by kernel_rfl
theorem tnotIface_220 : tnotIface Try.prog 220 = true := by kernel_rfl
theorem tsize_221 : tsize Try.prog 221 = some 11 := by kernel_rfl
theorem tbytes_221 : tbytes Try.prog 221 = some 48 := by kernel_rfl
theorem tagg_221 : tagg Try.prog 221 = some true := by kernel_rfl
theorem zcells_221 : zcells Try.prog 221 = some [AV.int .u64 0, AV.int .u64 0, AV.int .u32 0, AV.int .u8 0, AV.int .u8 0, AV.int .u8 0, AV.int .u8 0, AV.nilf, AV.nilp, AV.int .i32 0, AV.int .i32 0] := by kernel_rfl
theorem telem_221 : telem Try.prog 221 = none := by kernel_rfl
theorem tnotIface_221 : tnotIface Try.prog 221 = true := by kernel_rfl
theorem foff_221_0 : foff Try.prog 221 0 = some (0, 12) := by kernel_rfl
theorem foff_221_1 : foff Try.prog 221 1 = some (1, 12) := by kernel_rfl
theorem foff_221_2 : foff Try.prog 221 2 = some (2, 115) := by kernel_rfl
theorem foff_221_3 : foff Try.prog 221 3 = some (3, 215) := by kernel_rfl
theorem foff_221_4 : foff Try.prog 221 4 = some (4, 5) := by kernel_rfl
theorem foff_221_5 : foff Try.prog 221 5 = some (5, 5) := by kernel_rfl
theorem foff_221_6 : foff Try.prog 221 6 = some (6, 216) := by kernel_rfl
theorem foff_221_7 : foff Try.prog 221 7 = some (7, 217) := by kernel_rfl
theorem foff_221_8 : foff Try.prog 221 8 = some (8, 218) := by kernel_rfl
theorem foff_221_9 : foff Try.prog 221 9 = some (9, 219) := by kernel_rfl
theorem foff_221_10 : foff Try.prog 221 10 = some (10, 220) := by kernel_rfl
theorem fplaces_221 : fplaces Try.prog 221 = some [(0, 1), (1, 1), (2, 1), (3, 1), (4, 1), (5, 1), (6, 1), (7, 1), (8, 1), (9, 1), (10, 1)] := by kernel_rfl
theorem tsize_222 : tsize Try.prog 222 = some 11 := by kernel_rfl
theorem tbytes_222 : tbytes Try.prog 222 = some 48 := by kernel_rfl
theorem tagg_222 : tagg Try.prog 222 = some true := by kernel_rfl
theorem zcells_222 : zcells Try.prog 222 = some [AV.int .u64 0, AV.int .u64 0, AV.int .u32 0, AV.int .u8 0, AV.int .u8 0, AV.int .u8 0, AV.int .u8 0, AV.nilf, AV.nilp, AV.int .i32 0, AV.int .i32 0] := by kernel_rfl
theorem telem_222 : telem Try.prog 222 = none := by kernel_rfl
theorem tnotIface_222 : tnotIface Try.prog 222 = true := by kernel_rfl
theorem foff_222_0 : foff Try.prog 222 0 = some (0, 12) := by kernel_rfl
theorem foff_222_1 : foff Try.prog 222 1 = some (1, 12) := by kernel_rfl
theorem foff_222_2 : foff Try.prog 222 2 = some (2, 115) := by kernel_rfl
theorem foff_222_3 : foff Try.prog 222 3 = some (3, 215) := by kernel_rfl
theorem foff_222_4 : foff Try.prog 222 4 = some (4, 5) := by kernel_rfl
theorem foff_222_5 : foff Try.prog 222 5 = some (5, 5) := by kernel_rfl
theorem foff_222_6 : foff Try.prog 222 6 = some (6, 216) := by kernel_rfl
theorem foff_222_7 : foff Try.prog 222 7 = some (7, 217) := by kernel_rfl
theorem foff_222_8 : foff Try.prog 222 8 = some (8, 218) := by kernel_rfl
theorem foff_222_9 : foff Try.prog 222 9 = some (9, 219) := by kernel_rfl
theorem foff_222_10 : foff Try.prog 222 10 = some (10, 220) := by kernel_rfl
theorem fplaces_222 : fplaces Try.prog 222 = some [(0, 1), (1, 1), (2, 1), (3, 1), (4, 1), (5, 1), (6, 1), (7, 1), (8, 1), (9, 1), (10, 1)] := by kernel_rfl
theorem tsize_223 : tsize Try.prog 223 = some 1 := by kernel_rfl
theorem tbytes_223 : tbytes Try.prog 223 = some 16 := by kernel_rfl
theorem tagg_223 : tagg Try.prog 223 = some true := by kernel_rfl
theorem zcells_223 : zcells Try.prog 223 = some [AV.str ⟨#[]⟩] := by kernel_rfl
theorem telem_223 : telem Try.prog 223 = none := by kernel_rfl
theorem tnotIface_223 : tnotIface Try.prog 223 = true := by kernel_rfl
theorem foff_223_0 : foff Try.prog 223 0 = some (0, 9) := by kernel_rfl
theorem fplaces_223 : fplaces Try.prog 223 = some [(0, 1)] := by kernel_rfl
theorem tsize_224 : tsize Try.prog 224 = some 1 := by kernel_rfl
theorem tbytes_224 : tbytes Try.prog 224 = some 16 := by kernel_rfl
theorem tagg_224 : tagg Try.prog 224 = some true := by kernel_rfl
theorem zcells_224 : zcells Try.prog 224 = some [AV.str ⟨#[]⟩] := by kernel_rfl
theorem telem_224 : telem Try.prog 224 = none := by kernel_rfl
theorem tnotIface_224 : tnotIface Try.prog 224 = true := by kernel_rfl
theorem foff_224_0 : foff Try.prog 224 0 = some (0, 9) := by kernel_rfl
theorem fplaces_224 : fplaces Try.prog 224 = some [(0, 1)] := by kernel_rfl
theorem tsize_225 : tsize Try.prog 225 = some 1 := by kernel_rfl
theorem tbytes_225 : tbytes Try.prog 225 = some 8 := by kernel_rfl
theorem tagg_225 : tagg Try.prog 225 = some false := by kernel_rfl
theorem zcells_225 : zcells Try.prog 225 = some [AV.nilp] := by kernel_rfl
theorem telem_225 : telem Try.prog 225 = none := by kernel_rfl
theorem tnotIface_225 : tnotIface Try.prog 225 = true := by kernel_rfl
theorem tfun_1 : tfun Try.prog 1 = true := by kernel_rfl
theorem telem_1 : telem Try.prog 1 = none := by kernel_rfl
theorem tfun_39 : tfun Try.prog 39 = true := by kernel_rfl
theorem telem_39 : telem Try.prog 39 = none := by kernel_rfl
theorem tfun_40 : tfun Try.prog 40 = true := by kernel_rfl
theorem telem_40 : telem Try.prog 40 = none := by kernel_rfl
theorem tfun_41 : tfun Try.prog 41 = true := by kernel_rfl
theorem telem_41 : telem Try.prog 41 = none := by kernel_rfl
theorem tfun_42 : tfun Try.prog 42 = true := by kernel_rfl
theorem telem_42 : telem Try.prog 42 = none := by kernel_rfl
theorem tfun_46 : tfun Try.prog 46 = true := by kernel_rfl
theorem telem_46 : telem Try.prog 46 = none := by kernel_rfl
theorem tfun_47 : tfun Try.prog 47 = true := by kernel_rfl
theorem telem_47 : telem Try.prog 47 = none := by kernel_rfl
theorem tfun_48 : tfun Try.prog 48 = true := by kernel_rfl
theorem telem_48 : telem Try.prog 48 = none := by kernel_rfl
theorem tfun_49 : tfun Try.prog 49 = true := by kernel_rfl
theorem telem_49 : telem Try.prog 49 = none := by kernel_rfl
theorem tfun_50 : tfun Try.prog 50 = true := by kernel_rfl
theorem telem_50 : telem Try.prog 50 = none := by kernel_rfl
theorem tfun_51 : tfun Try.prog 51 = true := by kernel_rfl
theorem telem_51 : telem Try.prog 51 = none := by kernel_rfl
theorem tfun_55 : tfun Try.prog 55 = true := by kernel_rfl
theorem telem_55 : telem Try.prog 55 = none := by kernel_rfl
theorem tfun_56 : tfun Try.prog 56 = true := by kernel_rfl
theorem telem_56 : telem Try.prog 56 = none := by kernel_rfl
theorem tfun_57 : tfun Try.prog 57 = true := by kernel_rfl
theorem telem_57 : telem Try.prog 57 = none := by kernel_rfl
theorem tfun_58 : tfun Try.prog 58 = true := by kernel_rfl
theorem telem_58 : telem Try.prog 58 = none := by kernel_rfl
theorem tfun_60 : tfun Try.prog 60 = true := by kernel_rfl
theorem telem_60 : telem Try.prog 60 = none := by kernel_rfl
theorem tfun_61 : tfun Try.prog 61 = true := by kernel_rfl
theorem telem_61 : telem Try.prog 61 = none := by kernel_rfl
theorem tfun_62 : tfun Try.prog 62 = true := by kernel_rfl
theorem telem_62 : telem Try.prog 62 = none := by kernel_rfl
theorem tfun_63 : tfun Try.prog 63 = true := by kernel_rfl
theorem telem_63 : telem Try.prog 63 = none := by kernel_rfl
theorem tfun_64 : tfun Try.prog 64 = true := by kernel_rfl
theorem telem_64 : telem Try.prog 64 = none := by kernel_rfl
theorem tfun_65 : tfun Try.prog 65 = true := by kernel_rfl
theorem telem_65 : telem Try.prog 65 = none := by kernel_rfl
theorem tfun_66 : tfun Try.prog 66 = true := by kernel_rfl
theorem telem_66 : telem Try.prog 66 = none := by kernel_rfl
theorem tfun_67 : tfun Try.prog 67 = true := by kernel_rfl
theorem telem_67 : telem Try.prog 67 = none := by kernel_rfl
theorem tfun_68 : tfun Try.prog 68 = true := by kernel_rfl
theorem telem_68 : telem Try.prog 68 = none := by kernel_rfl
theorem tfun_69 : tfun Try.prog 69 = true := by kernel_rfl
theorem telem_69 : telem Try.prog 69 = none := by kernel_rfl
theorem tfun_70 : tfun Try.prog 70 = true := by kernel_rfl
theorem telem_70 : telem Try.prog 70 = none := by kernel_rfl
theorem tfun_71 : tfun Try.prog 71 = true := by kernel_rfl
theorem telem_71 : telem Try.prog 71 = none := by kernel_rfl
theorem tfun_72 : tfun Try.prog 72 = true := by kernel_rfl
theorem telem_72 : telem Try.prog 72 = none := by kernel_rfl
theorem tfun_74 : tfun Try.prog 74 = true := by kernel_rfl
theorem telem_74 : telem Try.prog 74 = none := by kernel_rfl
theorem tfun_76 : tfun Try.prog 76 = true := by kernel_rfl
theorem telem_76 : telem Try.prog 76 = none := by kernel_rfl
theorem tfun_84 : tfun Try.prog 84 = true := by kernel_rfl
theorem telem_84 : telem Try.prog 84 = none := by kernel_rfl
theorem tfun_85 : tfun Try.prog 85 = true := by kernel_rfl
theorem telem_85 : telem Try.prog 85 = none := by kernel_rfl
theorem tfun_86 : tfun Try.prog 86 = true := by kernel_rfl
theorem telem_86 : telem Try.prog 86 = none := by kernel_rfl
theorem tfun_88 : tfun Try.prog 88 = true := by kernel_rfl
theorem telem_88 : telem Try.prog 88 = none := by kernel_rfl
theorem tfun_90 : tfun Try.prog 90 = true := by kernel_rfl
theorem telem_90 : telem Try.prog 90 = none := by kernel_rfl
theorem tfun_92 : tfun Try.prog 92 = true := by kernel_rfl
theorem telem_92 : telem Try.prog 92 = none := by kernel_rfl
theorem tfun_94 : tfun Try.prog 94 = true := by kernel_rfl
theorem telem_94 : telem Try.prog 94 = none := by kernel_rfl
theorem tfun_96 : tfun Try.prog 96 = true := by kernel_rfl
theorem telem_96 : telem Try.prog 96 = none := by kernel_rfl
theorem tfun_98 : tfun Try.prog 98 = true := by kernel_rfl
theorem telem_98 : telem Try.prog 98 = none := by kernel_rfl
theorem tfun_99 : tfun Try.prog 99 = true := by kernel_rfl
theorem telem_99 : telem Try.prog 99 = none := by kernel_rfl
theorem tfun_103 : tfun Try.prog 103 = true := by kernel_rfl
theorem telem_103 : telem Try.prog 103 = none := by kernel_rfl
theorem tfun_104 : tfun Try.prog 104 = true := by kernel_rfl
theorem telem_104 : telem Try.prog 104 = none := by kernel_rfl
theorem tfun_105 : tfun Try.prog 105 = true := by kernel_rfl
theorem telem_105 : telem Try.prog 105 = none := by kernel_rfl
theorem tfun_106 : tfun Try.prog 106 = true := by kernel_rfl
theorem telem_106 : telem Try.prog 106 = none := by kernel_rfl
theorem tfun_107 : tfun Try.prog 107 = true := by kernel_rfl
theorem telem_107 : telem Try.prog 107 = none := by kernel_rfl
theorem tfun_110 : tfun Try.prog 110 = true := by kernel_rfl
theorem telem_110 : telem Try.prog 110 = none := by kernel_rfl
theorem tfun_112 : tfun Try.prog 112 = true := by kernel_rfl
theorem telem_112 : telem Try.prog 112 = none := by kernel_rfl
theorem tfun_113 : tfun Try.prog 113 = true := by kernel_rfl
theorem telem_113 : telem Try.prog 113 = none := by kernel_rfl
theorem tfun_114 : tfun Try.prog 114 = true := by kernel_rfl
theorem telem_114 : telem Try.prog 114 = none := by kernel_rfl
theorem tfun_117 : tfun Try.prog 117 = true := by kernel_rfl
theorem telem_117 : telem Try.prog 117 = none := by kernel_rfl
theorem tfun_118 : tfun Try.prog 118 = true := by kernel_rfl
theorem telem_118 : telem Try.prog 118 = none := by kernel_rfl
theorem tfun_123 : tfun Try.prog 123 = true := by kernel_rfl
theorem telem_123 : telem Try.prog 123 = none := by kernel_rfl
theorem tfun_129 : tfun Try.prog 129 = true := by kernel_rfl
theorem telem_129 : telem Try.prog 129 = none := by kernel_rfl
theorem tfun_130 : tfun Try.prog 130 = true := by kernel_rfl
theorem telem_130 : telem Try.prog 130 = none := by kernel_rfl
theorem tfun_131 : tfun Try.prog 131 = true := by kernel_rfl
theorem telem_131 : telem Try.prog 131 = none := by kernel_rfl
theorem tfun_132 : tfun Try.prog 132 = true := by kernel_rfl
theorem telem_132 : telem Try.prog 132 = none := by kernel_rfl
theorem tfun_133 : tfun Try.prog 133 = true := by kernel_rfl
theorem telem_133 : telem Try.prog 133 = none := by kernel_rfl
theorem tfun_134 : tfun Try.prog 134 = true := by kernel_rfl
theorem telem_134 : telem Try.prog 134 = none := by kernel_rfl
theorem tfun_135 : tfun Try.prog 135 = true := by kernel_rfl
theorem telem_135 : telem Try.prog 135 = none := by kernel_rfl
theorem tfun_138 : tfun Try.prog 138 = true := by kernel_rfl
theorem telem_138 : telem Try.prog 138 = none := by kernel_rfl
theorem tfun_139 : tfun Try.prog 139 = true := by kernel_rfl
theorem telem_139 : telem Try.prog 139 = none := by kernel_rfl
theorem tfun_140 : tfun Try.prog 140 = true := by kernel_rfl
theorem telem_140 : telem Try.prog 140 = none := by kernel_rfl
theorem tfun_141 : tfun Try.prog 141 = true := by kernel_rfl
theorem telem_141 : telem Try.prog 141 = none := by kernel_rfl
theorem tfun_151 : tfun Try.prog 151 = true := by kernel_rfl
theorem telem_151 : telem Try.prog 151 = none := by kernel_rfl
theorem tfun_152 : tfun Try.prog 152 = true := by kernel_rfl
theorem telem_152 : telem Try.prog 152 = none := by kernel_rfl
theorem tfun_153 : tfun Try.prog 153 = true := by kernel_rfl
theorem telem_153 : telem Try.prog 153 = none := by kernel_rfl
theorem tfun_154 : tfun Try.prog 154 = true := by kernel_rfl
theorem telem_154 : telem Try.prog 154 = none := by kernel_rfl
theorem tfun_156 : tfun Try.prog 156 = true := by kernel_rfl
theorem telem_156 : telem Try.prog 156 = none := by kernel_rfl
theorem tfun_157 : tfun Try.prog 157 = true := by kernel_rfl
theorem telem_157 : telem Try.prog 157 = none := by kernel_rfl
theorem tfun_158 : tfun Try.prog 158 = true := by kernel_rfl
theorem telem_158 : telem Try.prog 158 = none := by kernel_rfl
theorem tfun_159 : tfun Try.prog 159 = true := by kernel_rfl
theorem telem_159 : telem Try.prog 159 = none := by kernel_rfl
theorem tfun_160 : tfun Try.prog 160 = true := by kernel_rfl
theorem telem_160 : telem Try.prog 160 = none := by kernel_rfl
theorem tfun_161 : tfun Try.prog 161 = true := by kernel_rfl
theorem telem_161 : telem Try.prog 161 = none := by kernel_rfl
theorem tfun_162 : tfun Try.prog 162 = true := by kernel_rfl
theorem telem_162 : telem Try.prog 162 = none := by kernel_rfl
theorem tfun_163 : tfun Try.prog 163 = true := by kernel_rfl
theorem telem_163 : telem Try.prog 163 = none := by kernel_rfl
theorem tfun_164 : tfun Try.prog 164 = true := by kernel_rfl
theorem telem_164 : telem Try.prog 164 = none := by kernel_rfl
theorem tfun_165 : tfun Try.prog 165 = true := by kernel_rfl
theorem telem_165 : telem Try.prog 165 = none := by kernel_rfl
theorem tfun_166 : tfun Try.prog 166 = true := by kernel_rfl
theorem telem_166 : telem Try.prog 166 = none := by kernel_rfl
theorem tfun_167 : tfun Try.prog 167 = true := by kernel_rfl
theorem telem_167 : telem Try.prog 167 = none := by kernel_rfl
theorem tfun_168 : tfun Try.prog 168 = true := by kernel_rfl
theorem telem_168 : telem Try.prog 168 = none := by kernel_rfl
theorem tfun_169 : tfun Try.prog 169 = true := by kernel_rfl
theorem telem_169 : telem Try.prog 169 = none := by kernel_rfl
theorem tfun_171 : tfun Try.prog 171 = true := by kernel_rfl
theorem telem_171 : telem Try.prog 171 = none := by kernel_rfl
theorem tfun_172 : tfun Try.prog 172 = true := by kernel_rfl
theorem telem_172 : telem Try.prog 172 = none := by kernel_rfl
theorem tfun_174 : tfun Try.prog 174 = true := by kernel_rfl
theorem telem_174 : telem Try.prog 174 = none := by kernel_rfl
theorem tfun_175 : tfun Try.prog 175 = true := by kernel_rfl
theorem telem_175 : telem Try.prog 175 = none := by kernel_rfl
theorem tfun_176 : tfun Try.prog 176 = true := by kernel_rfl
theorem telem_176 : telem Try.prog 176 = none := by kernel_rfl
theorem tfun_178 : tfun Try.prog 178 = true := by kernel_rfl
theorem telem_178 : telem Try.prog 178 = none := by kernel_rfl
theorem tfun_180 : tfun Try.prog 180 = true := by kernel_rfl
theorem telem_180 : telem Try.prog 180 = none := by kernel_rfl
theorem tfun_181 : tfun Try.prog 181 = true := by kernel_rfl
theorem telem_181 : telem Try.prog 181 = none := by kernel_rfl
theorem tfun_182 : tfun Try.prog 182 = true := by kernel_rfl
theorem telem_182 : telem Try.prog 182 = none := by kernel_rfl
theorem tfun_183 : tfun Try.prog 183 = true := by kernel_rfl
theorem telem_183 : telem Try.prog 183 = none := by kernel_rfl
theorem tfun_184 : tfun Try.prog 184 = true := by kernel_rfl
theorem telem_184 : telem Try.prog 184 = none := by kernel_rfl
theorem tfun_186 : tfun Try.prog 186 = true := by kernel_rfl
theorem telem_186 : telem Try.prog 186 = none := by kernel_rfl
theorem tfun_187 : tfun Try.prog 187 = true := by kernel_rfl
theorem telem_187 : telem Try.prog 187 = none := by kernel_rfl
theorem tfun_188 : tfun Try.prog 188 = true := by kernel_rfl
theorem telem_188 : telem Try.prog 188 = none := by kernel_rfl
theorem tfun_189 : tfun Try.prog 189 = true := by kernel_rfl
theorem telem_189 : telem Try.prog 189 = none := by kernel_rfl
theorem tfun_190 : tfun Try.prog 190 = true := by kernel_rfl
theorem telem_190 : telem Try.prog 190 = none := by kernel_rfl
theorem tfun_191 : tfun Try.prog 191 = true := by kernel_rfl
theorem telem_191 : telem Try.prog 191 = none := by kernel_rfl
theorem tfun_192 : tfun Try.prog 192 = true := by kernel_rfl
theorem telem_192 : telem Try.prog 192 = none := by kernel_rfl
theorem tfun_193 : tfun Try.prog 193 = true := by kernel_rfl
theorem telem_193 : telem Try.prog 193 = none := by kernel_rfl
theorem tfun_195 : tfun Try.prog 195 = true := by kernel_rfl
theorem telem_195 : telem Try.prog 195 = none := by kernel_rfl
theorem tfun_196 : tfun Try.prog 196 = true := by kernel_rfl
theorem telem_196 : telem Try.prog 196 = none := by kernel_rfl
theorem tfun_197 : tfun Try.prog 197 = true := by kernel_rfl
theorem telem_197 : telem Try.prog 197 = none := by kernel_rfl
theorem tfun_198 : tfun Try.prog 198 = true := by kernel_rfl
theorem telem_198 : telem Try.prog 198 = none := by kernel_rfl
theorem tfun_199 : tfun Try.prog 199 = true := by kernel_rfl
theorem telem_199 : telem Try.prog 199 = none := by kernel_rfl
theorem tfun_201 : tfun Try.prog 201 = true := by kernel_rfl
theorem telem_201 : telem Try.prog 201 = none := by kernel_rfl
theorem tfun_202 : tfun Try.prog 202 = true := by kernel_rfl
theorem telem_202 : telem Try.prog 202 = none := by kernel_rfl
theorem tfun_204 : tfun Try.prog 204 = true := by kernel_rfl
theorem telem_204 : telem Try.prog 204 = none := by kernel_rfl
theorem tfun_208 : tfun Try.prog 208 = true := by kernel_rfl
theorem telem_208 : telem Try.prog 208 = none := by kernel_rfl
theorem tfun_214 : tfun Try.prog 214 = true := by kernel_rfl
theorem telem_214 : telem Try.prog 214 = none := by kernel_rfl
theorem tfun_217 : tfun Try.prog 217 = true := by kernel_rfl
theorem telem_217 : telem Try.prog 217 = none := by kernel_rfl
end Go.Proofs.Ytgdlkhgfehclpaa
end

section
/- Plans of the regions that draw their order, and what the loaded program's functions are. By a program (gen.py). No condition. -/
namespace Go.Proofs.Ytgdlkhgfehclpaa
open Go.AL

/- 4 slope/slopelaw11.OrderOrders -/
def pl4 : Nat → Plan := fun | 2 => [(0, false, []), (1, false, []), (2, false, []), (4, false, []), (5, false, []), (7, true, []), (8, false, []), (3, false, [7]), (6, false, [7]), (9, false, []), (10, false, []), (11, false, []), (12, false, []), (13, false, []), (14, false, []), (15, false, []), (16, false, []), (17, false, [])] | _ => []
noncomputable def body4 : Code := (Try.f4.body).getD .skip
theorem chk4 : codeChk pl4 body4 = true := by kernel_rfl
theorem good4 : good Try.prog 4 = true := by kernel_rfl
theorem isb4 : Try.f4.body = some body4 := by kernel_rfl
theorem wp4 {args : List AV} {h : Heap} {Q : AV → Heap → Prop} {c : Code} (hb : Try.f4.body = some c) (hn : Nat.ble args.length 27 = true) (hk : asx Try.prog 27 pl4 c (bodyQ Try.prog [.tmp 6] Q) (fr0 args) h) : ACalls Try.prog 4 args h Q := by
  have e := isb4.symm.trans hb; cases e; exact acalls_of_body mixed Try.func4 isb4 good4 (Nat.le_of_ble_eq_true hn) pl4 chk4 hk
/- 5 slope/slopelaw11.OrderCores -/
def pl5 : Nat → Plan := fun | 2 => [(0, false, []), (1, false, []), (3, true, []), (2, false, [3]), (4, false, []), (5, false, []), (6, false, []), (7, false, []), (8, false, []), (9, false, []), (10, false, []), (11, false, []), (12, false, [])] | _ => []
noncomputable def body5 : Code := (Try.f5.body).getD .skip
theorem chk5 : codeChk pl5 body5 = true := by kernel_rfl
theorem good5 : good Try.prog 5 = true := by kernel_rfl
theorem isb5 : Try.f5.body = some body5 := by kernel_rfl
theorem wp5 {args : List AV} {h : Heap} {Q : AV → Heap → Prop} {c : Code} (hb : Try.f5.body = some c) (hn : Nat.ble args.length 18 = true) (hk : asx Try.prog 18 pl5 c (bodyQ Try.prog [.tmp 2] Q) (fr0 args) h) : ACalls Try.prog 5 args h Q := by
  have e := isb5.symm.trans hb; cases e; exact acalls_of_body mixed Try.func5 isb5 good5 (Nat.le_of_ble_eq_true hn) pl5 chk5 hk
/- 6 slope/slopelaw11.OrderSets -/
def pl6 : Nat → Plan := fun | 3 => [(0, false, []), (3, true, []), (1, false, [3]), (2, false, []), (4, false, []), (5, false, []), (6, false, []), (7, false, []), (8, false, []), (9, false, [])] | _ => []
noncomputable def body6 : Code := (Try.f6.body).getD .skip
theorem chk6 : codeChk pl6 body6 = true := by kernel_rfl
theorem good6 : good Try.prog 6 = true := by kernel_rfl
theorem isb6 : Try.f6.body = some body6 := by kernel_rfl
theorem wp6 {args : List AV} {h : Heap} {Q : AV → Heap → Prop} {c : Code} (hb : Try.f6.body = some c) (hn : Nat.ble args.length 137 = true) (hk : asx Try.prog 137 pl6 c (bodyQ Try.prog [.tmp 6] Q) (fr0 args) h) : ACalls Try.prog 6 args h Q := by
  have e := isb6.symm.trans hb; cases e; exact acalls_of_body mixed Try.func6 isb6 good6 (Nat.le_of_ble_eq_true hn) pl6 chk6 hk
/- 7 slope/slopelaw11.OrderKinds -/
def pl7 : Nat → Plan := fun | 17 => [(0, false, []), (1, false, []), (2, false, []), (3, false, []), (4, false, []), (5, false, []), (6, false, []), (7, false, []), (8, false, [])] | _ => []
noncomputable def body7 : Code := (Try.f7.body).getD .skip
theorem chk7 : codeChk pl7 body7 = true := by kernel_rfl
theorem good7 : good Try.prog 7 = true := by kernel_rfl
theorem isb7 : Try.f7.body = some body7 := by kernel_rfl
theorem wp7 {args : List AV} {h : Heap} {Q : AV → Heap → Prop} {c : Code} (hb : Try.f7.body = some c) (hn : Nat.ble args.length 113 = true) (hk : asx Try.prog 113 pl7 c (bodyQ Try.prog [.tmp 2] Q) (fr0 args) h) : ACalls Try.prog 7 args h Q := by
  have e := isb7.symm.trans hb; cases e; exact acalls_of_body mixed Try.func7 isb7 good7 (Nat.le_of_ble_eq_true hn) pl7 chk7 hk
/- 8 slope/slopelaw11.OrderChecks -/
def pl8 : Nat → Plan := fun | _ => []
noncomputable def body8 : Code := (Try.f8.body).getD .skip
theorem chk8 : codeChk pl8 body8 = true := by kernel_rfl
theorem good8 : good Try.prog 8 = true := by kernel_rfl
theorem isb8 : Try.f8.body = some body8 := by kernel_rfl
theorem wp8 {args : List AV} {h : Heap} {Q : AV → Heap → Prop} {c : Code} (hb : Try.f8.body = some c) (hn : Nat.ble args.length 51 = true) (hk : asx Try.prog 51 pl8 c (bodyQ Try.prog [.tmp 4] Q) (fr0 args) h) : ACalls Try.prog 8 args h Q := by
  have e := isb8.symm.trans hb; cases e; exact acalls_of_body mixed Try.func8 isb8 good8 (Nat.le_of_ble_eq_true hn) pl8 chk8 hk
/- 9 slope/slopelaw11.OrderBacks -/
def pl9 : Nat → Plan := fun | 2 => [(0, false, []), (1, false, []), (3, false, []), (4, false, []), (6, true, []), (7, false, []), (2, false, [6]), (5, false, [6]), (8, false, []), (9, false, []), (10, false, []), (11, false, []), (12, false, []), (13, false, []), (14, false, []), (15, false, []), (16, false, [])] | _ => []
noncomputable def body9 : Code := (Try.f9.body).getD .skip
theorem chk9 : codeChk pl9 body9 = true := by kernel_rfl
theorem good9 : good Try.prog 9 = true := by kernel_rfl
theorem isb9 : Try.f9.body = some body9 := by kernel_rfl
theorem wp9 {args : List AV} {h : Heap} {Q : AV → Heap → Prop} {c : Code} (hb : Try.f9.body = some c) (hn : Nat.ble args.length 24 = true) (hk : asx Try.prog 24 pl9 c (bodyQ Try.prog [.tmp 4] Q) (fr0 args) h) : ACalls Try.prog 9 args h Q := by
  have e := isb9.symm.trans hb; cases e; exact acalls_of_body mixed Try.func9 isb9 good9 (Nat.le_of_ble_eq_true hn) pl9 chk9 hk
/- 10 slope/slopelaw11.OrderWorth -/
def pl10 : Nat → Plan := fun | _ => []
noncomputable def body10 : Code := (Try.f10.body).getD .skip
theorem chk10 : codeChk pl10 body10 = true := by kernel_rfl
theorem good10 : good Try.prog 10 = true := by kernel_rfl
theorem isb10 : Try.f10.body = some body10 := by kernel_rfl
theorem wp10 {args : List AV} {h : Heap} {Q : AV → Heap → Prop} {c : Code} (hb : Try.f10.body = some c) (hn : Nat.ble args.length 119 = true) (hk : asx Try.prog 119 pl10 c (bodyQ Try.prog [.tmp 4] Q) (fr0 args) h) : ACalls Try.prog 10 args h Q := by
  have e := isb10.symm.trans hb; cases e; exact acalls_of_body mixed Try.func10 isb10 good10 (Nat.le_of_ble_eq_true hn) pl10 chk10 hk
/- 11 slope/slopelaw11.OrderNames -/
def pl11 : Nat → Plan := fun | 12 => [(0, false, []), (1, false, []), (2, false, []), (3, false, []), (4, false, []), (5, false, []), (6, false, []), (7, false, []), (8, false, []), (9, false, []), (10, false, []), (11, false, [])] | 22 => [(0, false, []), (1, false, []), (2, false, []), (3, false, []), (4, false, []), (5, false, []), (6, false, []), (7, false, []), (8, false, []), (9, false, []), (10, false, []), (11, false, [])] | _ => []
noncomputable def body11 : Code := (Try.f11.body).getD .skip
theorem chk11 : codeChk pl11 body11 = true := by kernel_rfl
theorem good11 : good Try.prog 11 = true := by kernel_rfl
theorem isb11 : Try.f11.body = some body11 := by kernel_rfl
theorem wp11 {args : List AV} {h : Heap} {Q : AV → Heap → Prop} {c : Code} (hb : Try.f11.body = some c) (hn : Nat.ble args.length 170 = true) (hk : asx Try.prog 170 pl11 c (bodyQ Try.prog [.tmp 6] Q) (fr0 args) h) : ACalls Try.prog 11 args h Q := by
  have e := isb11.symm.trans hb; cases e; exact acalls_of_body mixed Try.func11 isb11 good11 (Nat.le_of_ble_eq_true hn) pl11 chk11 hk
/- 14 (*slope/slopeplain.Given).Intact -/
def pl14 : Nat → Plan := fun | 4 => [(0, false, []), (1, false, []), (2, false, []), (3, false, []), (4, false, []), (5, false, []), (6, false, []), (7, false, []), (8, false, []), (9, false, []), (10, false, []), (11, false, []), (12, false, []), (13, false, []), (14, false, []), (15, false, [])] | 9 => [(0, false, []), (1, false, []), (2, false, []), (3, false, []), (4, false, []), (5, false, []), (6, false, []), (7, false, []), (8, false, []), (9, false, []), (10, false, []), (11, false, []), (12, false, []), (13, false, []), (14, false, []), (15, false, [])] | 14 => [(0, false, []), (1, false, []), (2, false, []), (3, false, []), (4, false, []), (5, false, []), (6, false, []), (7, false, []), (8, false, []), (9, false, []), (10, false, []), (11, false, []), (12, false, []), (13, false, []), (14, false, []), (15, false, [])] | 19 => [(0, false, []), (1, false, []), (2, false, []), (3, false, []), (4, false, []), (5, false, []), (6, false, []), (7, false, []), (8, false, []), (9, false, []), (10, false, []), (11, false, []), (12, false, []), (13, false, []), (14, false, []), (15, false, [])] | 24 => [(0, false, []), (1, false, []), (2, false, []), (3, false, []), (4, false, []), (5, false, []), (6, false, []), (7, false, []), (8, false, []), (9, false, []), (10, false, []), (11, false, []), (12, false, []), (13, false, []), (14, false, []), (15, false, [])] | 29 => [(0, false, []), (1, false, []), (2, false, []), (3, false, []), (4, false, []), (5, false, []), (6, false, []), (7, false, []), (8, false, []), (9, false, []), (10, false, []), (11, false, []), (12, false, []), (13, false, []), (14, false, []), (15, false, [])] | _ => []
noncomputable def body14 : Code := (Try.f14.body).getD .skip
theorem chk14 : codeChk pl14 body14 = true := by kernel_rfl
theorem good14 : good Try.prog 14 = true := by kernel_rfl
theorem isb14 : Try.f14.body = some body14 := by kernel_rfl
theorem wp14 {args : List AV} {h : Heap} {Q : AV → Heap → Prop} {c : Code} (hb : Try.f14.body = some c) (hn : Nat.ble args.length 161 = true) (hk : asx Try.prog 161 pl14 c (bodyQ Try.prog [.tmp 2] Q) (fr0 args) h) : ACalls Try.prog 14 args h Q := by
  have e := isb14.symm.trans hb; cases e; exact acalls_of_body mixed Try.func14 isb14 good14 (Nat.le_of_ble_eq_true hn) pl14 chk14 hk
/- 15 slope/slopelaw11.orders -/
def pl15 : Nat → Plan := fun | _ => []
noncomputable def body15 : Code := (Try.f15.body).getD .skip
theorem chk15 : codeChk pl15 body15 = true := by kernel_rfl
theorem good15 : good Try.prog 15 = true := by kernel_rfl
theorem isb15 : Try.f15.body = some body15 := by kernel_rfl
theorem wp15 {args : List AV} {h : Heap} {Q : AV → Heap → Prop} {c : Code} (hb : Try.f15.body = some c) (hn : Nat.ble args.length 38 = true) (hk : asx Try.prog 38 pl15 c (bodyQ Try.prog [.tmp 10] Q) (fr0 args) h) : ACalls Try.prog 15 args h Q := by
  have e := isb15.symm.trans hb; cases e; exact acalls_of_body mixed Try.func15 isb15 good15 (Nat.le_of_ble_eq_true hn) pl15 chk15 hk
/- 16 (*slope/slopeplain.Given).Pattern -/
def pl16 : Nat → Plan := fun | 1 => [(0, false, []), (1, true, []), (2, false, []), (3, true, []), (4, false, []), (5, false, []), (6, false, []), (8, false, []), (9, false, []), (10, true, []), (7, false, [1, 3, 10]), (11, false, [1, 3]), (12, false, []), (13, false, [])] | _ => []
noncomputable def body16 : Code := (Try.f16.body).getD .skip
theorem chk16 : codeChk pl16 body16 = true := by kernel_rfl
theorem good16 : good Try.prog 16 = true := by kernel_rfl
theorem isb16 : Try.f16.body = some body16 := by kernel_rfl
theorem wp16 {args : List AV} {h : Heap} {Q : AV → Heap → Prop} {c : Code} (hb : Try.f16.body = some c) (hn : Nat.ble args.length 18 = true) (hk : asx Try.prog 18 pl16 c (bodyQ Try.prog [.cell 4 45] Q) (fr0 args) h) : ACalls Try.prog 16 args h Q := by
  have e := isb16.symm.trans hb; cases e; exact acalls_of_body mixed Try.func16 isb16 good16 (Nat.le_of_ble_eq_true hn) pl16 chk16 hk
/- 17 (*slope/slopeplain.Given).Ints -/
def pl17 : Nat → Plan := fun | 4 => [(0, false, []), (1, false, []), (2, false, []), (3, false, []), (4, true, []), (5, false, []), (6, false, [4]), (7, false, [4]), (8, false, []), (9, false, []), (10, false, []), (11, false, [])] | _ => []
noncomputable def body17 : Code := (Try.f17.body).getD .skip
theorem chk17 : codeChk pl17 body17 = true := by kernel_rfl
theorem good17 : good Try.prog 17 = true := by kernel_rfl
theorem isb17 : Try.f17.body = some body17 := by kernel_rfl
theorem wp17 {args : List AV} {h : Heap} {Q : AV → Heap → Prop} {c : Code} (hb : Try.f17.body = some c) (hn : Nat.ble args.length 36 = true) (hk : asx Try.prog 36 pl17 c (bodyQ Try.prog [.tmp 4] Q) (fr0 args) h) : ACalls Try.prog 17 args h Q := by
  have e := isb17.symm.trans hb; cases e; exact acalls_of_body mixed Try.func17 isb17 good17 (Nat.le_of_ble_eq_true hn) pl17 chk17 hk
/- 18 slope/slopelaw11.alive -/
def pl18 : Nat → Plan := fun | _ => []
noncomputable def body18 : Code := (Try.f18.body).getD .skip
theorem chk18 : codeChk pl18 body18 = true := by kernel_rfl
theorem good18 : good Try.prog 18 = true := by kernel_rfl
theorem isb18 : Try.f18.body = some body18 := by kernel_rfl
theorem wp18 {args : List AV} {h : Heap} {Q : AV → Heap → Prop} {c : Code} (hb : Try.f18.body = some c) (hn : Nat.ble args.length 43 = true) (hk : asx Try.prog 43 pl18 c (bodyQ Try.prog [.tmp 0] Q) (fr0 args) h) : ACalls Try.prog 18 args h Q := by
  have e := isb18.symm.trans hb; cases e; exact acalls_of_body mixed Try.func18 isb18 good18 (Nat.le_of_ble_eq_true hn) pl18 chk18 hk
/- 19 slope/slopelaw11.degeneracies -/
def pl19 : Nat → Plan := fun | _ => []
noncomputable def body19 : Code := (Try.f19.body).getD .skip
theorem chk19 : codeChk pl19 body19 = true := by kernel_rfl
theorem good19 : good Try.prog 19 = true := by kernel_rfl
theorem isb19 : Try.f19.body = some body19 := by kernel_rfl
theorem wp19 {args : List AV} {h : Heap} {Q : AV → Heap → Prop} {c : Code} (hb : Try.f19.body = some c) (hn : Nat.ble args.length 37 = true) (hk : asx Try.prog 37 pl19 c (bodyQ Try.prog [.tmp 4] Q) (fr0 args) h) : ACalls Try.prog 19 args h Q := by
  have e := isb19.symm.trans hb; cases e; exact acalls_of_body mixed Try.func19 isb19 good19 (Nat.le_of_ble_eq_true hn) pl19 chk19 hk
/- 20 slope/order.Degeneracy -/
def pl20 : Nat → Plan := fun | _ => []
noncomputable def body20 : Code := (Try.f20.body).getD .skip
theorem chk20 : codeChk pl20 body20 = true := by kernel_rfl
theorem good20 : good Try.prog 20 = true := by kernel_rfl
theorem isb20 : Try.f20.body = some body20 := by kernel_rfl
theorem wp20 {args : List AV} {h : Heap} {Q : AV → Heap → Prop} {c : Code} (hb : Try.f20.body = some c) (hn : Nat.ble args.length 30 = true) (hk : asx Try.prog 30 pl20 c (bodyQ Try.prog [.tmp 2, .tmp 3, .tmp 4] Q) (fr0 args) h) : ACalls Try.prog 20 args h Q := by
  have e := isb20.symm.trans hb; cases e; exact acalls_of_body mixed Try.func20 isb20 good20 (Nat.le_of_ble_eq_true hn) pl20 chk20 hk
/- 21 slope/slopelaw11.wrong -/
def pl21 : Nat → Plan := fun | _ => []
noncomputable def body21 : Code := (Try.f21.body).getD .skip
theorem chk21 : codeChk pl21 body21 = true := by kernel_rfl
theorem good21 : good Try.prog 21 = true := by kernel_rfl
theorem isb21 : Try.f21.body = some body21 := by kernel_rfl
theorem wp21 {args : List AV} {h : Heap} {Q : AV → Heap → Prop} {c : Code} (hb : Try.f21.body = some c) (hn : Nat.ble args.length 6 = true) (hk : asx Try.prog 6 pl21 c (bodyQ Try.prog [.tmp 2] Q) (fr0 args) h) : ACalls Try.prog 21 args h Q := by
  have e := isb21.symm.trans hb; cases e; exact acalls_of_body mixed Try.func21 isb21 good21 (Nat.le_of_ble_eq_true hn) pl21 chk21 hk
/- 22 slope/slopelaw11.num -/
def pl22 : Nat → Plan := fun | _ => []
noncomputable def body22 : Code := (Try.f22.body).getD .skip
theorem chk22 : codeChk pl22 body22 = true := by kernel_rfl
theorem good22 : good Try.prog 22 = true := by kernel_rfl
theorem isb22 : Try.f22.body = some body22 := by kernel_rfl
theorem wp22 {args : List AV} {h : Heap} {Q : AV → Heap → Prop} {c : Code} (hb : Try.f22.body = some c) (hn : Nat.ble args.length 4 = true) (hk : asx Try.prog 4 pl22 c (bodyQ Try.prog [.tmp 2] Q) (fr0 args) h) : ACalls Try.prog 22 args h Q := by
  have e := isb22.symm.trans hb; cases e; exact acalls_of_body mixed Try.func22 isb22 good22 (Nat.le_of_ble_eq_true hn) pl22 chk22 hk
/- 23 slope/slopelaw11.inside -/
def pl23 : Nat → Plan := fun | _ => []
noncomputable def body23 : Code := (Try.f23.body).getD .skip
theorem chk23 : codeChk pl23 body23 = true := by kernel_rfl
theorem good23 : good Try.prog 23 = true := by kernel_rfl
theorem isb23 : Try.f23.body = some body23 := by kernel_rfl
theorem wp23 {args : List AV} {h : Heap} {Q : AV → Heap → Prop} {c : Code} (hb : Try.f23.body = some c) (hn : Nat.ble args.length 38 = true) (hk : asx Try.prog 38 pl23 c (bodyQ Try.prog [.tmp 6] Q) (fr0 args) h) : ACalls Try.prog 23 args h Q := by
  have e := isb23.symm.trans hb; cases e; exact acalls_of_body mixed Try.func23 isb23 good23 (Nat.le_of_ble_eq_true hn) pl23 chk23 hk
/- 24 slope/order.Order -/
def pl24 : Nat → Plan := fun | 5 => [(1, false, []), (4, true, []), (5, false, []), (0, false, [4]), (2, false, []), (3, false, []), (6, false, []), (7, false, []), (8, false, []), (9, false, []), (10, false, [])] | _ => []
noncomputable def body24 : Code := (Try.f24.body).getD .skip
theorem chk24 : codeChk pl24 body24 = true := by kernel_rfl
theorem good24 : good Try.prog 24 = true := by kernel_rfl
theorem isb24 : Try.f24.body = some body24 := by kernel_rfl
theorem wp24 {args : List AV} {h : Heap} {Q : AV → Heap → Prop} {c : Code} (hb : Try.f24.body = some c) (hn : Nat.ble args.length 28 = true) (hk : asx Try.prog 28 pl24 c (bodyQ Try.prog [.tmp 6, .tmp 7] Q) (fr0 args) h) : ACalls Try.prog 24 args h Q := by
  have e := isb24.symm.trans hb; cases e; exact acalls_of_body mixed Try.func24 isb24 good24 (Nat.le_of_ble_eq_true hn) pl24 chk24 hk
/- 25 slope/sloperef11.Check -/
def pl25 : Nat → Plan := fun | _ => []
noncomputable def body25 : Code := (Try.f25.body).getD .skip
theorem chk25 : codeChk pl25 body25 = true := by kernel_rfl
theorem good25 : good Try.prog 25 = true := by kernel_rfl
theorem isb25 : Try.f25.body = some body25 := by kernel_rfl
theorem wp25 {args : List AV} {h : Heap} {Q : AV → Heap → Prop} {c : Code} (hb : Try.f25.body = some c) (hn : Nat.ble args.length 52 = true) (hk : asx Try.prog 52 pl25 c (bodyQ Try.prog [.tmp 4] Q) (fr0 args) h) : ACalls Try.prog 25 args h Q := by
  have e := isb25.symm.trans hb; cases e; exact acalls_of_body mixed Try.func25 isb25 good25 (Nat.le_of_ble_eq_true hn) pl25 chk25 hk
/- 26 slope/sloperef11.Neighbours -/
def pl26 : Nat → Plan := fun | 1 => [(0, false, []), (1, false, []), (2, false, []), (3, false, []), (4, false, []), (5, false, []), (6, false, []), (7, false, []), (8, false, []), (9, false, []), (10, false, []), (11, false, []), (12, false, []), (13, false, []), (14, false, [])] | _ => []
noncomputable def body26 : Code := (Try.f26.body).getD .skip
theorem chk26 : codeChk pl26 body26 = true := by kernel_rfl
theorem good26 : good Try.prog 26 = true := by kernel_rfl
theorem isb26 : Try.f26.body = some body26 := by kernel_rfl
theorem wp26 {args : List AV} {h : Heap} {Q : AV → Heap → Prop} {c : Code} (hb : Try.f26.body = some c) (hn : Nat.ble args.length 19 = true) (hk : asx Try.prog 19 pl26 c (bodyQ Try.prog [.tmp 4] Q) (fr0 args) h) : ACalls Try.prog 26 args h Q := by
  have e := isb26.symm.trans hb; cases e; exact acalls_of_body mixed Try.func26 isb26 good26 (Nat.le_of_ble_eq_true hn) pl26 chk26 hk
/- 27 slope/slopelaw11.most -/
def pl27 : Nat → Plan := fun | 4 => [(0, false, []), (1, false, []), (2, false, []), (3, false, []), (4, false, []), (5, false, []), (7, true, []), (8, false, []), (9, false, []), (10, false, []), (11, true, []), (12, false, []), (6, false, [7, 11]), (13, false, []), (14, false, [])] | _ => []
noncomputable def body27 : Code := (Try.f27.body).getD .skip
theorem chk27 : codeChk pl27 body27 = true := by kernel_rfl
theorem good27 : good Try.prog 27 = true := by kernel_rfl
theorem isb27 : Try.f27.body = some body27 := by kernel_rfl
theorem wp27 {args : List AV} {h : Heap} {Q : AV → Heap → Prop} {c : Code} (hb : Try.f27.body = some c) (hn : Nat.ble args.length 33 = true) (hk : asx Try.prog 33 pl27 c (bodyQ Try.prog [.tmp 8] Q) (fr0 args) h) : ACalls Try.prog 27 args h Q := by
  have e := isb27.symm.trans hb; cases e; exact acalls_of_body mixed Try.func27 isb27 good27 (Nat.le_of_ble_eq_true hn) pl27 chk27 hk
/- 28 slope/slopelaw11.fewest -/
def pl28 : Nat → Plan := fun | 4 => [(0, false, []), (1, false, []), (2, false, []), (3, false, []), (4, false, []), (5, false, []), (7, true, []), (8, false, []), (9, false, []), (10, false, []), (11, true, []), (12, false, []), (6, false, [7, 11]), (13, false, []), (14, false, [])] | _ => []
noncomputable def body28 : Code := (Try.f28.body).getD .skip
theorem chk28 : codeChk pl28 body28 = true := by kernel_rfl
theorem good28 : good Try.prog 28 = true := by kernel_rfl
theorem isb28 : Try.f28.body = some body28 := by kernel_rfl
theorem wp28 {args : List AV} {h : Heap} {Q : AV → Heap → Prop} {c : Code} (hb : Try.f28.body = some c) (hn : Nat.ble args.length 30 = true) (hk : asx Try.prog 30 pl28 c (bodyQ Try.prog [.tmp 8] Q) (fr0 args) h) : ACalls Try.prog 28 args h Q := by
  have e := isb28.symm.trans hb; cases e; exact acalls_of_body mixed Try.func28 isb28 good28 (Nat.le_of_ble_eq_true hn) pl28 chk28 hk
/- 29 slope/slopelaw11.checks -/
def pl29 : Nat → Plan := fun | _ => []
noncomputable def body29 : Code := (Try.f29.body).getD .skip
theorem chk29 : codeChk pl29 body29 = true := by kernel_rfl
theorem good29 : good Try.prog 29 = true := by kernel_rfl
theorem isb29 : Try.f29.body = some body29 := by kernel_rfl
theorem wp29 {args : List AV} {h : Heap} {Q : AV → Heap → Prop} {c : Code} (hb : Try.f29.body = some c) (hn : Nat.ble args.length 40 = true) (hk : asx Try.prog 40 pl29 c (bodyQ Try.prog [.tmp 6] Q) (fr0 args) h) : ACalls Try.prog 29 args h Q := by
  have e := isb29.symm.trans hb; cases e; exact acalls_of_body mixed Try.func29 isb29 good29 (Nat.le_of_ble_eq_true hn) pl29 chk29 hk
/- 30 slope/order.Inverse -/
def pl30 : Nat → Plan := fun | _ => []
noncomputable def body30 : Code := (Try.f30.body).getD .skip
theorem chk30 : codeChk pl30 body30 = true := by kernel_rfl
theorem good30 : good Try.prog 30 = true := by kernel_rfl
theorem isb30 : Try.f30.body = some body30 := by kernel_rfl
theorem wp30 {args : List AV} {h : Heap} {Q : AV → Heap → Prop} {c : Code} (hb : Try.f30.body = some c) (hn : Nat.ble args.length 28 = true) (hk : asx Try.prog 28 pl30 c (bodyQ Try.prog [.tmp 2, .tmp 3] Q) (fr0 args) h) : ACalls Try.prog 30 args h Q := by
  have e := isb30.symm.trans hb; cases e; exact acalls_of_body mixed Try.func30 isb30 good30 (Nat.le_of_ble_eq_true hn) pl30 chk30 hk
/- 31 slope/slopeplain.SameInts -/
def pl31 : Nat → Plan := fun | 6 => [(0, false, []), (1, false, []), (2, false, []), (3, false, []), (4, false, []), (5, false, []), (6, false, []), (7, false, []), (8, false, [])] | _ => []
noncomputable def body31 : Code := (Try.f31.body).getD .skip
theorem chk31 : codeChk pl31 body31 = true := by kernel_rfl
theorem good31 : good Try.prog 31 = true := by kernel_rfl
theorem isb31 : Try.f31.body = some body31 := by kernel_rfl
theorem wp31 {args : List AV} {h : Heap} {Q : AV → Heap → Prop} {c : Code} (hb : Try.f31.body = some c) (hn : Nat.ble args.length 26 = true) (hk : asx Try.prog 26 pl31 c (bodyQ Try.prog [.tmp 4] Q) (fr0 args) h) : ACalls Try.prog 31 args h Q := by
  have e := isb31.symm.trans hb; cases e; exact acalls_of_body mixed Try.func31 isb31 good31 (Nat.le_of_ble_eq_true hn) pl31 chk31 hk
/- 32 slope/slopelaw11.backs -/
def pl32 : Nat → Plan := fun | _ => []
noncomputable def body32 : Code := (Try.f32.body).getD .skip
theorem chk32 : codeChk pl32 body32 = true := by kernel_rfl
theorem good32 : good Try.prog 32 = true := by kernel_rfl
theorem isb32 : Try.f32.body = some body32 := by kernel_rfl
theorem wp32 {args : List AV} {h : Heap} {Q : AV → Heap → Prop} {c : Code} (hb : Try.f32.body = some c) (hn : Nat.ble args.length 43 = true) (hk : asx Try.prog 43 pl32 c (bodyQ Try.prog [.tmp 8] Q) (fr0 args) h) : ACalls Try.prog 32 args h Q := by
  have e := isb32.symm.trans hb; cases e; exact acalls_of_body mixed Try.func32 isb32 good32 (Nat.le_of_ble_eq_true hn) pl32 chk32 hk
/- 33 slope/order.Back -/
def pl33 : Nat → Plan := fun | 6 => [(0, false, []), (1, false, []), (3, false, []), (2, false, []), (4, false, [])] | 13 => [(0, false, []), (1, false, []), (2, false, []), (3, false, []), (4, false, []), (5, false, []), (6, false, []), (7, false, []), (8, false, [])] | _ => []
noncomputable def body33 : Code := (Try.f33.body).getD .skip
theorem chk33 : codeChk pl33 body33 = true := by kernel_rfl
theorem good33 : good Try.prog 33 = true := by kernel_rfl
theorem isb33 : Try.f33.body = some body33 := by kernel_rfl
theorem wp33 {args : List AV} {h : Heap} {Q : AV → Heap → Prop} {c : Code} (hb : Try.f33.body = some c) (hn : Nat.ble args.length 68 = true) (hk : asx Try.prog 68 pl33 c (bodyQ Try.prog [.tmp 4, .tmp 5, .tmp 6] Q) (fr0 args) h) : ACalls Try.prog 33 args h Q := by
  have e := isb33.symm.trans hb; cases e; exact acalls_of_body mixed Try.func33 isb33 good33 (Nat.le_of_ble_eq_true hn) pl33 chk33 hk
/- 34 slope/slopelaw11.renamed -/
def pl34 : Nat → Plan := fun | 8 => [(0, false, []), (1, false, []), (2, false, []), (3, false, []), (4, false, []), (5, false, []), (6, false, []), (7, false, []), (8, false, []), (9, false, [])] | _ => []
noncomputable def body34 : Code := (Try.f34.body).getD .skip
theorem chk34 : codeChk pl34 body34 = true := by kernel_rfl
theorem good34 : good Try.prog 34 = true := by kernel_rfl
theorem isb34 : Try.f34.body = some body34 := by kernel_rfl
theorem wp34 {args : List AV} {h : Heap} {Q : AV → Heap → Prop} {c : Code} (hb : Try.f34.body = some c) (hn : Nat.ble args.length 51 = true) (hk : asx Try.prog 51 pl34 c (bodyQ Try.prog [.cell 4 45] Q) (fr0 args) h) : ACalls Try.prog 34 args h Q := by
  have e := isb34.symm.trans hb; cases e; exact acalls_of_body mixed Try.func34 isb34 good34 (Nat.le_of_ble_eq_true hn) pl34 chk34 hk
/- 45 (*slope/slopeplain.Given).whole -/
def pl45 : Nat → Plan := fun | 4 => [(0, false, []), (1, false, []), (2, false, []), (3, false, []), (4, false, []), (5, false, []), (6, false, []), (7, false, []), (8, false, []), (9, false, []), (10, false, []), (11, false, []), (12, false, []), (13, false, []), (14, false, []), (15, false, []), (16, false, []), (17, false, [])] | 9 => [(0, false, []), (1, false, []), (2, false, []), (3, false, []), (4, false, []), (5, false, []), (6, false, []), (7, false, []), (8, false, []), (9, false, []), (10, false, []), (11, false, []), (12, false, []), (13, false, []), (14, false, []), (15, false, []), (16, false, []), (17, false, [])] | 18 => [(0, false, []), (1, false, []), (2, false, []), (3, false, []), (4, false, []), (5, false, []), (6, false, []), (7, false, []), (8, false, []), (9, false, []), (10, false, []), (11, false, []), (12, false, []), (13, false, []), (14, false, []), (15, false, []), (16, false, []), (17, false, []), (18, false, []), (19, false, []), (20, false, []), (21, false, [])] | 28 => [(0, false, []), (1, false, []), (2, false, []), (3, false, []), (4, false, []), (5, false, []), (6, false, []), (7, false, []), (8, false, []), (9, false, []), (10, false, []), (11, false, []), (12, false, []), (13, false, []), (14, false, []), (15, false, [])] | _ => []
noncomputable def body45 : Code := (Try.f45.body).getD .skip
theorem chk45 : codeChk pl45 body45 = true := by kernel_rfl
theorem good45 : good Try.prog 45 = true := by kernel_rfl
theorem isb45 : Try.f45.body = some body45 := by kernel_rfl
theorem wp45 {args : List AV} {h : Heap} {Q : AV → Heap → Prop} {c : Code} (hb : Try.f45.body = some c) (hn : Nat.ble args.length 156 = true) (hk : asx Try.prog 156 pl45 c (bodyQ Try.prog [.tmp 2] Q) (fr0 args) h) : ACalls Try.prog 45 args h Q := by
  have e := isb45.symm.trans hb; cases e; exact acalls_of_body mixed Try.func45 isb45 good45 (Nat.le_of_ble_eq_true hn) pl45 chk45 hk
/- 46 slope/sloperef11.Order -/
def pl46 : Nat → Plan := fun | _ => []
noncomputable def body46 : Code := (Try.f46.body).getD .skip
theorem chk46 : codeChk pl46 body46 = true := by kernel_rfl
theorem good46 : good Try.prog 46 = true := by kernel_rfl
theorem isb46 : Try.f46.body = some body46 := by kernel_rfl
theorem wp46 {args : List AV} {h : Heap} {Q : AV → Heap → Prop} {c : Code} (hb : Try.f46.body = some c) (hn : Nat.ble args.length 44 = true) (hk : asx Try.prog 44 pl46 c (bodyQ Try.prog [.tmp 6, .tmp 7] Q) (fr0 args) h) : ACalls Try.prog 46 args h Q := by
  have e := isb46.symm.trans hb; cases e; exact acalls_of_body mixed Try.func46 isb46 good46 (Nat.le_of_ble_eq_true hn) pl46 chk46 hk
/- 47 slope/slopeplain.CopyInts -/
def pl47 : Nat → Plan := fun | _ => []
noncomputable def body47 : Code := (Try.f47.body).getD .skip
theorem chk47 : codeChk pl47 body47 = true := by kernel_rfl
theorem good47 : good Try.prog 47 = true := by kernel_rfl
theorem isb47 : Try.f47.body = some body47 := by kernel_rfl
theorem wp47 {args : List AV} {h : Heap} {Q : AV → Heap → Prop} {c : Code} (hb : Try.f47.body = some c) (hn : Nat.ble args.length 25 = true) (hk : asx Try.prog 25 pl47 c (bodyQ Try.prog [.tmp 2] Q) (fr0 args) h) : ACalls Try.prog 47 args h Q := by
  have e := isb47.symm.trans hb; cases e; exact acalls_of_body mixed Try.func47 isb47 good47 (Nat.le_of_ble_eq_true hn) pl47 chk47 hk
/- 48 slope/sloperef11.Degeneracy -/
def pl48 : Nat → Plan := fun | _ => []
noncomputable def body48 : Code := (Try.f48.body).getD .skip
theorem chk48 : codeChk pl48 body48 = true := by kernel_rfl
theorem good48 : good Try.prog 48 = true := by kernel_rfl
theorem isb48 : Try.f48.body = some body48 := by kernel_rfl
theorem wp48 {args : List AV} {h : Heap} {Q : AV → Heap → Prop} {c : Code} (hb : Try.f48.body = some c) (hn : Nat.ble args.length 42 = true) (hk : asx Try.prog 42 pl48 c (bodyQ Try.prog [.tmp 2, .tmp 3, .tmp 4] Q) (fr0 args) h) : ACalls Try.prog 48 args h Q := by
  have e := isb48.symm.trans hb; cases e; exact acalls_of_body mixed Try.func48 isb48 good48 (Nat.le_of_ble_eq_true hn) pl48 chk48 hk
/- 49 slope/order.graph -/
def pl49 : Nat → Plan := fun | _ => []
noncomputable def body49 : Code := (Try.f49.body).getD .skip
theorem chk49 : codeChk pl49 body49 = true := by kernel_rfl
theorem good49 : good Try.prog 49 = true := by kernel_rfl
theorem isb49 : Try.f49.body = some body49 := by kernel_rfl
theorem wp49 {args : List AV} {h : Heap} {Q : AV → Heap → Prop} {c : Code} (hb : Try.f49.body = some c) (hn : Nat.ble args.length 22 = true) (hk : asx Try.prog 22 pl49 c (bodyQ Try.prog [.tmp 2] Q) (fr0 args) h) : ACalls Try.prog 49 args h Q := by
  have e := isb49.symm.trans hb; cases e; exact acalls_of_body mixed Try.func49 isb49 good49 (Nat.le_of_ble_eq_true hn) pl49 chk49 hk
/- 50 slope/order.peel -/
def pl50 : Nat → Plan := fun | 7 => [(0, false, []), (1, false, []), (2, false, []), (3, false, []), (4, true, []), (5, false, []), (6, false, []), (7, false, []), (8, false, []), (9, true, []), (10, false, []), (11, true, []), (12, false, []), (13, false, [4, 9, 11]), (14, false, [4]), (15, false, []), (16, false, [])] | 9 => [(1000000, false, [4, 4]), (0, false, []), (1, true, []), (3, false, []), (4, true, []), (2, false, [4]), (6, false, []), (5, false, [1]), (7, false, []), (5, false, [1]), (2, false, [4]), (6, false, []), (7, false, [])] | 19 => [(0, false, []), (1, false, []), (2, false, []), (3, true, []), (4, false, []), (5, true, []), (6, false, []), (7, false, []), (8, false, []), (9, false, [3, 5]), (10, false, []), (11, false, [5]), (12, false, []), (13, false, [])] | 24 => [(0, false, []), (1, false, []), (2, true, []), (3, false, []), (4, true, []), (5, false, []), (6, false, []), (7, false, []), (8, false, []), (9, false, []), (10, false, []), (11, false, []), (12, false, []), (13, false, [2, 4]), (14, false, []), (15, false, [])] | 26 => [(0, false, []), (1, false, []), (2, true, []), (3, false, []), (4, true, []), (5, false, []), (6, false, []), (7, true, []), (8, false, []), (9, true, []), (10, false, []), (11, true, []), (12, false, []), (13, false, [2, 4, 7, 9, 11]), (14, false, [2, 4]), (15, false, []), (16, false, [])] | _ => []
noncomputable def body50 : Code := (Try.f50.body).getD .skip
theorem chk50 : codeChk pl50 body50 = true := by kernel_rfl
theorem good50 : good Try.prog 50 = true := by kernel_rfl
theorem isb50 : Try.f50.body = some body50 := by kernel_rfl
theorem wp50 {args : List AV} {h : Heap} {Q : AV → Heap → Prop} {c : Code} (hb : Try.f50.body = some c) (hn : Nat.ble args.length 155 = true) (hk : asx Try.prog 155 pl50 c (bodyQ Try.prog [.tmp 2, .tmp 3] Q) (fr0 args) h) : ACalls Try.prog 50 args h Q := by
  have e := isb50.symm.trans hb; cases e; exact acalls_of_body mixed Try.func50 isb50 good50 (Nat.le_of_ble_eq_true hn) pl50 chk50 hk
/- 51 slope/sloperef11.Graph -/
def pl51 : Nat → Plan := fun | 9 => [(0, false, []), (1, false, []), (2, false, []), (3, false, []), (4, false, []), (5, false, []), (6, false, []), (7, false, []), (8, false, []), (9, false, []), (10, false, []), (11, false, []), (12, false, []), (13, false, []), (14, false, []), (15, false, []), (16, false, []), (17, false, [])] | _ => []
noncomputable def body51 : Code := (Try.f51.body).getD .skip
theorem chk51 : codeChk pl51 body51 = true := by kernel_rfl
theorem good51 : good Try.prog 51 = true := by kernel_rfl
theorem isb51 : Try.f51.body = some body51 := by kernel_rfl
theorem wp51 {args : List AV} {h : Heap} {Q : AV → Heap → Prop} {c : Code} (hb : Try.f51.body = some c) (hn : Nat.ble args.length 54 = true) (hk : asx Try.prog 54 pl51 c (bodyQ Try.prog [.tmp 2] Q) (fr0 args) h) : ACalls Try.prog 51 args h Q := by
  have e := isb51.symm.trans hb; cases e; exact acalls_of_body mixed Try.func51 isb51 good51 (Nat.le_of_ble_eq_true hn) pl51 chk51 hk
/- 52 slope/order.makers -/
def pl52 : Nat → Plan := fun | _ => []
noncomputable def body52 : Code := (Try.f52.body).getD .skip
theorem chk52 : codeChk pl52 body52 = true := by kernel_rfl
theorem good52 : good Try.prog 52 = true := by kernel_rfl
theorem isb52 : Try.f52.body = some body52 := by kernel_rfl
theorem wp52 {args : List AV} {h : Heap} {Q : AV → Heap → Prop} {c : Code} (hb : Try.f52.body = some c) (hn : Nat.ble args.length 7 = true) (hk : asx Try.prog 7 pl52 c (bodyQ Try.prog [.cell 0 102] Q) (fr0 args) h) : ACalls Try.prog 52 args h Q := by
  have e := isb52.symm.trans hb; cases e; exact acalls_of_body mixed Try.func52 isb52 good52 (Nat.le_of_ble_eq_true hn) pl52 chk52 hk
/- 53 slope/sloperef11.Inverse -/
def pl53 : Nat → Plan := fun | _ => []
noncomputable def body53 : Code := (Try.f53.body).getD .skip
theorem chk53 : codeChk pl53 body53 = true := by kernel_rfl
theorem good53 : good Try.prog 53 = true := by kernel_rfl
theorem isb53 : Try.f53.body = some body53 := by kernel_rfl
theorem wp53 {args : List AV} {h : Heap} {Q : AV → Heap → Prop} {c : Code} (hb : Try.f53.body = some c) (hn : Nat.ble args.length 33 = true) (hk : asx Try.prog 33 pl53 c (bodyQ Try.prog [.tmp 2, .tmp 3] Q) (fr0 args) h) : ACalls Try.prog 53 args h Q := by
  have e := isb53.symm.trans hb; cases e; exact acalls_of_body mixed Try.func53 isb53 good53 (Nat.le_of_ble_eq_true hn) pl53 chk53 hk
/- 54 slope/order.Check -/
def pl54 : Nat → Plan := fun | _ => []
noncomputable def body54 : Code := (Try.f54.body).getD .skip
theorem chk54 : codeChk pl54 body54 = true := by kernel_rfl
theorem good54 : good Try.prog 54 = true := by kernel_rfl
theorem isb54 : Try.f54.body = some body54 := by kernel_rfl
theorem wp54 {args : List AV} {h : Heap} {Q : AV → Heap → Prop} {c : Code} (hb : Try.f54.body = some c) (hn : Nat.ble args.length 39 = true) (hk : asx Try.prog 39 pl54 c (bodyQ Try.prog [.tmp 4] Q) (fr0 args) h) : ACalls Try.prog 54 args h Q := by
  have e := isb54.symm.trans hb; cases e; exact acalls_of_body mixed Try.func54 isb54 good54 (Nat.le_of_ble_eq_true hn) pl54 chk54 hk
/- 55 slope/sloperef11.Back -/
def pl55 : Nat → Plan := fun | _ => []
noncomputable def body55 : Code := (Try.f55.body).getD .skip
theorem chk55 : codeChk pl55 body55 = true := by kernel_rfl
theorem good55 : good Try.prog 55 = true := by kernel_rfl
theorem isb55 : Try.f55.body = some body55 := by kernel_rfl
theorem wp55 {args : List AV} {h : Heap} {Q : AV → Heap → Prop} {c : Code} (hb : Try.f55.body = some c) (hn : Nat.ble args.length 25 = true) (hk : asx Try.prog 25 pl55 c (bodyQ Try.prog [.tmp 4, .tmp 5, .tmp 6] Q) (fr0 args) h) : ACalls Try.prog 55 args h Q := by
  have e := isb55.symm.trans hb; cases e; exact acalls_of_body mixed Try.func55 isb55 good55 (Nat.le_of_ble_eq_true hn) pl55 chk55 hk
/- 56 slope/order.neighbours -/
def pl56 : Nat → Plan := fun | 1 => [(0, false, []), (1, false, []), (2, false, []), (3, false, []), (4, false, []), (5, false, []), (6, false, []), (7, false, []), (8, false, []), (9, false, []), (10, false, []), (11, false, []), (12, false, []), (13, false, []), (14, false, [])] | _ => []
noncomputable def body56 : Code := (Try.f56.body).getD .skip
theorem chk56 : codeChk pl56 body56 = true := by kernel_rfl
theorem good56 : good Try.prog 56 = true := by kernel_rfl
theorem isb56 : Try.f56.body = some body56 := by kernel_rfl
theorem wp56 {args : List AV} {h : Heap} {Q : AV → Heap → Prop} {c : Code} (hb : Try.f56.body = some c) (hn : Nat.ble args.length 19 = true) (hk : asx Try.prog 19 pl56 c (bodyQ Try.prog [.tmp 4] Q) (fr0 args) h) : ACalls Try.prog 56 args h Q := by
  have e := isb56.symm.trans hb; cases e; exact acalls_of_body mixed Try.func56 isb56 good56 (Nat.le_of_ble_eq_true hn) pl56 chk56 hk
/- 57 slope/sloperef11.Has -/
def pl57 : Nat → Plan := fun | _ => []
noncomputable def body57 : Code := (Try.f57.body).getD .skip
theorem chk57 : codeChk pl57 body57 = true := by kernel_rfl
theorem good57 : good Try.prog 57 = true := by kernel_rfl
theorem isb57 : Try.f57.body = some body57 := by kernel_rfl
theorem wp57 {args : List AV} {h : Heap} {Q : AV → Heap → Prop} {c : Code} (hb : Try.f57.body = some c) (hn : Nat.ble args.length 30 = true) (hk : asx Try.prog 30 pl57 c (bodyQ Try.prog [.tmp 6] Q) (fr0 args) h) : ACalls Try.prog 57 args h Q := by
  have e := isb57.symm.trans hb; cases e; exact acalls_of_body mixed Try.func57 isb57 good57 (Nat.le_of_ble_eq_true hn) pl57 chk57 hk
/- 66 slope/slopeplain.SamePattern -/
def pl66 : Nat → Plan := fun | _ => []
noncomputable def body66 : Code := (Try.f66.body).getD .skip
theorem chk66 : codeChk pl66 body66 = true := by kernel_rfl
theorem good66 : good Try.prog 66 = true := by kernel_rfl
theorem isb66 : Try.f66.body = some body66 := by kernel_rfl
theorem wp66 {args : List AV} {h : Heap} {Q : AV → Heap → Prop} {c : Code} (hb : Try.f66.body = some c) (hn : Nat.ble args.length 31 = true) (hk : asx Try.prog 31 pl66 c (bodyQ Try.prog [.tmp 4] Q) (fr0 args) h) : ACalls Try.prog 66 args h Q := by
  have e := isb66.symm.trans hb; cases e; exact acalls_of_body mixed Try.func66 isb66 good66 (Nat.le_of_ble_eq_true hn) pl66 chk66 hk
/- 68 slope/sloperef11.natural -/
def pl68 : Nat → Plan := fun | _ => []
noncomputable def body68 : Code := (Try.f68.body).getD .skip
theorem chk68 : codeChk pl68 body68 = true := by kernel_rfl
theorem good68 : good Try.prog 68 = true := by kernel_rfl
theorem isb68 : Try.f68.body = some body68 := by kernel_rfl
theorem wp68 {args : List AV} {h : Heap} {Q : AV → Heap → Prop} {c : Code} (hb : Try.f68.body = some c) (hn : Nat.ble args.length 15 = true) (hk : asx Try.prog 15 pl68 c (bodyQ Try.prog [.tmp 2] Q) (fr0 args) h) : ACalls Try.prog 68 args h Q := by
  have e := isb68.symm.trans hb; cases e; exact acalls_of_body mixed Try.func68 isb68 good68 (Nat.le_of_ble_eq_true hn) pl68 chk68 hk
/- 69 slope/sloperef11.largest -/
def pl69 : Nat → Plan := fun | _ => []
noncomputable def body69 : Code := (Try.f69.body).getD .skip
theorem chk69 : codeChk pl69 body69 = true := by kernel_rfl
theorem good69 : good Try.prog 69 = true := by kernel_rfl
theorem isb69 : Try.f69.body = some body69 := by kernel_rfl
theorem wp69 {args : List AV} {h : Heap} {Q : AV → Heap → Prop} {c : Code} (hb : Try.f69.body = some c) (hn : Nat.ble args.length 29 = true) (hk : asx Try.prog 29 pl69 c (bodyQ Try.prog [.tmp 2] Q) (fr0 args) h) : ACalls Try.prog 69 args h Q := by
  have e := isb69.symm.trans hb; cases e; exact acalls_of_body mixed Try.func69 isb69 good69 (Nat.le_of_ble_eq_true hn) pl69 chk69 hk
/- 70 slope/sloperef11.Smallest -/
def pl70 : Nat → Plan := fun | 11 => [(0, false, []), (1, false, []), (2, false, []), (3, false, []), (4, false, []), (5, false, []), (6, false, []), (7, false, []), (8, false, []), (9, false, []), (10, false, []), (12, true, []), (13, false, []), (14, false, []), (11, false, [12]), (15, false, []), (16, false, []), (17, false, []), (18, false, [])] | _ => []
noncomputable def body70 : Code := (Try.f70.body).getD .skip
theorem chk70 : codeChk pl70 body70 = true := by kernel_rfl
theorem good70 : good Try.prog 70 = true := by kernel_rfl
theorem isb70 : Try.f70.body = some body70 := by kernel_rfl
theorem wp70 {args : List AV} {h : Heap} {Q : AV → Heap → Prop} {c : Code} (hb : Try.f70.body = some c) (hn : Nat.ble args.length 68 = true) (hk : asx Try.prog 68 pl70 c (bodyQ Try.prog [.tmp 2, .tmp 3] Q) (fr0 args) h) : ACalls Try.prog 70 args h Q := by
  have e := isb70.symm.trans hb; cases e; exact acalls_of_body mixed Try.func70 isb70 good70 (Nat.le_of_ble_eq_true hn) pl70 chk70 hk
/- 71 slope/sloperef11.incidence -/
def pl71 : Nat → Plan := fun | _ => []
noncomputable def body71 : Code := (Try.f71.body).getD .skip
theorem chk71 : codeChk pl71 body71 = true := by kernel_rfl
theorem good71 : good Try.prog 71 = true := by kernel_rfl
theorem isb71 : Try.f71.body = some body71 := by kernel_rfl
theorem wp71 {args : List AV} {h : Heap} {Q : AV → Heap → Prop} {c : Code} (hb : Try.f71.body = some c) (hn : Nat.ble args.length 46 = true) (hk : asx Try.prog 46 pl71 c (bodyQ Try.prog [.tmp 2] Q) (fr0 args) h) : ACalls Try.prog 71 args h Q := by
  have e := isb71.symm.trans hb; cases e; exact acalls_of_body mixed Try.func71 isb71 good71 (Nat.le_of_ble_eq_true hn) pl71 chk71 hk
/- 72 slope/sloperef11.core -/
def pl72 : Nat → Plan := fun | _ => []
noncomputable def body72 : Code := (Try.f72.body).getD .skip
theorem chk72 : codeChk pl72 body72 = true := by kernel_rfl
theorem good72 : good Try.prog 72 = true := by kernel_rfl
theorem isb72 : Try.f72.body = some body72 := by kernel_rfl
theorem wp72 {args : List AV} {h : Heap} {Q : AV → Heap → Prop} {c : Code} (hb : Try.f72.body = some c) (hn : Nat.ble args.length 34 = true) (hk : asx Try.prog 34 pl72 c (bodyQ Try.prog [.tmp 4] Q) (fr0 args) h) : ACalls Try.prog 72 args h Q := by
  have e := isb72.symm.trans hb; cases e; exact acalls_of_body mixed Try.func72 isb72 good72 (Nat.le_of_ble_eq_true hn) pl72 chk72 hk
/- 73 slope/sparse.May -/
def pl73 : Nat → Plan := fun | 1 => [(0, false, []), (1, false, []), (2, false, []), (3, false, []), (4, false, []), (5, false, []), (6, false, []), (7, false, []), (8, false, []), (9, false, []), (10, false, []), (11, false, []), (12, false, []), (13, false, []), (14, false, []), (15, false, []), (16, false, []), (17, false, []), (18, false, []), (19, false, []), (20, false, []), (21, false, []), (22, false, []), (23, false, []), (24, false, []), (25, false, []), (26, false, []), (27, false, []), (28, false, []), (29, false, []), (30, false, []), (31, false, []), (32, false, []), (33, false, []), (34, false, []), (35, false, []), (36, false, []), (37, false, []), (38, false, []), (39, false, []), (40, false, []), (41, false, []), (42, false, []), (43, false, [])] | 7 => [(0, false, []), (1, false, []), (2, false, []), (3, false, []), (4, false, []), (5, false, []), (6, false, []), (7, false, []), (8, false, []), (9, false, []), (10, false, []), (11, false, []), (12, false, []), (13, false, []), (14, false, []), (15, false, [])] | _ => []
noncomputable def body73 : Code := (Try.f73.body).getD .skip
theorem chk73 : codeChk pl73 body73 = true := by kernel_rfl
theorem good73 : good Try.prog 73 = true := by kernel_rfl
theorem isb73 : Try.f73.body = some body73 := by kernel_rfl
theorem wp73 {args : List AV} {h : Heap} {Q : AV → Heap → Prop} {c : Code} (hb : Try.f73.body = some c) (hn : Nat.ble args.length 87 = true) (hk : asx Try.prog 87 pl73 c (bodyQ Try.prog [.tmp 2] Q) (fr0 args) h) : ACalls Try.prog 73 args h Q := by
  have e := isb73.symm.trans hb; cases e; exact acalls_of_body mixed Try.func73 isb73 good73 (Nat.le_of_ble_eq_true hn) pl73 chk73 hk
/- 74 slope/sparse.Symmetric -/
def pl74 : Nat → Plan := fun | _ => []
noncomputable def body74 : Code := (Try.f74.body).getD .skip
theorem chk74 : codeChk pl74 body74 = true := by kernel_rfl
theorem good74 : good Try.prog 74 = true := by kernel_rfl
theorem isb74 : Try.f74.body = some body74 := by kernel_rfl
theorem wp74 {args : List AV} {h : Heap} {Q : AV → Heap → Prop} {c : Code} (hb : Try.f74.body = some c) (hn : Nat.ble args.length 18 = true) (hk : asx Try.prog 18 pl74 c (bodyQ Try.prog [.tmp 2] Q) (fr0 args) h) : ACalls Try.prog 74 args h Q := by
  have e := isb74.symm.trans hb; cases e; exact acalls_of_body mixed Try.func74 isb74 good74 (Nat.le_of_ble_eq_true hn) pl74 chk74 hk
/- 75 slope/sparse.Has -/
def pl75 : Nat → Plan := fun | _ => []
noncomputable def body75 : Code := (Try.f75.body).getD .skip
theorem chk75 : codeChk pl75 body75 = true := by kernel_rfl
theorem good75 : good Try.prog 75 = true := by kernel_rfl
theorem isb75 : Try.f75.body = some body75 := by kernel_rfl
theorem wp75 {args : List AV} {h : Heap} {Q : AV → Heap → Prop} {c : Code} (hb : Try.f75.body = some c) (hn : Nat.ble args.length 20 = true) (hk : asx Try.prog 20 pl75 c (bodyQ Try.prog [.tmp 6] Q) (fr0 args) h) : ACalls Try.prog 75 args h Q := by
  have e := isb75.symm.trans hb; cases e; exact acalls_of_body mixed Try.func75 isb75 good75 (Nat.le_of_ble_eq_true hn) pl75 chk75 hk
/- 76 slope/order.degree -/
def pl76 : Nat → Plan := fun | _ => []
noncomputable def body76 : Code := (Try.f76.body).getD .skip
theorem chk76 : codeChk pl76 body76 = true := by kernel_rfl
theorem good76 : good Try.prog 76 = true := by kernel_rfl
theorem isb76 : Try.f76.body = some body76 := by kernel_rfl
theorem wp76 {args : List AV} {h : Heap} {Q : AV → Heap → Prop} {c : Code} (hb : Try.f76.body = some c) (hn : Nat.ble args.length 9 = true) (hk : asx Try.prog 9 pl76 c (bodyQ Try.prog [.tmp 4] Q) (fr0 args) h) : ACalls Try.prog 76 args h Q := by
  have e := isb76.symm.trans hb; cases e; exact acalls_of_body mixed Try.func76 isb76 good76 (Nat.le_of_ble_eq_true hn) pl76 chk76 hk
/- 77 slices.Max[[]int,int] -/
def pl77 : Nat → Plan := fun | _ => []
noncomputable def body77 : Code := (Try.f77.body).getD .skip
theorem chk77 : codeChk pl77 body77 = true := by kernel_rfl
theorem good77 : good Try.prog 77 = true := by kernel_rfl
theorem isb77 : Try.f77.body = some body77 := by kernel_rfl
theorem wp77 {args : List AV} {h : Heap} {Q : AV → Heap → Prop} {c : Code} (hb : Try.f77.body = some c) (hn : Nat.ble args.length 25 = true) (hk : asx Try.prog 25 pl77 c (bodyQ Try.prog [.tmp 2] Q) (fr0 args) h) : ACalls Try.prog 77 args h Q := by
  have e := isb77.symm.trans hb; cases e; exact acalls_of_body mixed Try.func77 isb77 good77 (Nat.le_of_ble_eq_true hn) pl77 chk77 hk
/- 78 slices.DeleteFunc[[]int,int] -/
def pl78 : Nat → Plan := fun | _ => []
noncomputable def body78 : Code := (Try.f78.body).getD .skip
theorem chk78 : codeChk pl78 body78 = true := by kernel_rfl
theorem good78 : good Try.prog 78 = true := by kernel_rfl
theorem isb78 : Try.f78.body = some body78 := by kernel_rfl
theorem wp78 {args : List AV} {h : Heap} {Q : AV → Heap → Prop} {c : Code} (hb : Try.f78.body = some c) (hn : Nat.ble args.length 42 = true) (hk : asx Try.prog 42 pl78 c (bodyQ Try.prog [.tmp 4] Q) (fr0 args) h) : ACalls Try.prog 78 args h Q := by
  have e := isb78.symm.trans hb; cases e; exact acalls_of_body mixed Try.func78 isb78 good78 (Nat.le_of_ble_eq_true hn) pl78 chk78 hk
/- 79 slope/order.peel$1 -/
def pl79 : Nat → Plan := fun | _ => []
noncomputable def body79 : Code := (Try.f79.body).getD .skip
theorem chk79 : codeChk pl79 body79 = true := by kernel_rfl
theorem good79 : good Try.prog 79 = true := by kernel_rfl
theorem isb79 : Try.f79.body = some body79 := by kernel_rfl
theorem wp79 {args : List AV} {h : Heap} {Q : AV → Heap → Prop} {c : Code} (hb : Try.f79.body = some c) (hn : Nat.ble args.length 7 = true) (hk : asx Try.prog 7 pl79 c (bodyQ Try.prog [.tmp 3] Q) (fr0 args) h) : ACalls Try.prog 79 args h Q := by
  have e := isb79.symm.trans hb; cases e; exact acalls_of_body mixed Try.func79 isb79 good79 (Nat.le_of_ble_eq_true hn) pl79 chk79 hk
/- 80 slope/order.peel$2 -/
def pl80 : Nat → Plan := fun | _ => []
noncomputable def body80 : Code := (Try.f80.body).getD .skip
theorem chk80 : codeChk pl80 body80 = true := by kernel_rfl
theorem good80 : good Try.prog 80 = true := by kernel_rfl
theorem isb80 : Try.f80.body = some body80 := by kernel_rfl
theorem wp80 {args : List AV} {h : Heap} {Q : AV → Heap → Prop} {c : Code} (hb : Try.f80.body = some c) (hn : Nat.ble args.length 7 = true) (hk : asx Try.prog 7 pl80 c (bodyQ Try.prog [.tmp 3] Q) (fr0 args) h) : ACalls Try.prog 80 args h Q := by
  have e := isb80.symm.trans hb; cases e; exact acalls_of_body mixed Try.func80 isb80 good80 (Nat.le_of_ble_eq_true hn) pl80 chk80 hk
/- 81 slope/sloperef11.May -/
def pl81 : Nat → Plan := fun | 1 => [(0, false, []), (1, false, []), (2, false, []), (3, false, []), (4, false, []), (5, false, []), (6, false, []), (7, false, []), (8, false, []), (9, false, []), (10, false, []), (11, false, []), (12, false, []), (13, false, []), (14, false, []), (15, false, []), (16, false, []), (17, false, []), (18, false, []), (19, false, []), (20, false, []), (21, false, []), (22, false, []), (23, false, []), (24, false, []), (25, false, []), (26, false, []), (27, false, []), (28, false, []), (29, false, []), (30, false, []), (31, false, []), (32, false, []), (33, false, []), (34, false, []), (35, false, []), (36, false, []), (37, false, []), (38, false, []), (39, false, []), (40, false, []), (41, false, []), (42, false, []), (43, false, []), (44, false, []), (45, false, [])] | 6 => [(0, false, []), (1, false, []), (2, false, []), (3, false, []), (4, false, []), (5, false, []), (6, false, []), (7, false, []), (8, false, []), (9, false, []), (10, false, []), (11, false, []), (12, false, []), (13, false, []), (14, false, []), (15, false, []), (16, false, []), (17, false, []), (18, false, []), (19, false, []), (20, false, []), (21, false, []), (22, false, []), (23, false, [])] | 11 => [(0, false, []), (1, false, []), (2, false, []), (3, false, []), (4, false, []), (5, false, []), (6, false, []), (7, false, []), (8, false, []), (9, false, []), (10, false, []), (11, false, []), (12, false, []), (13, false, []), (14, false, []), (15, false, []), (16, false, []), (17, false, []), (18, false, []), (19, false, []), (20, false, []), (21, false, []), (22, false, []), (23, false, []), (24, false, []), (25, false, []), (26, false, []), (27, false, []), (28, false, []), (29, false, []), (30, false, []), (31, false, []), (32, false, []), (33, false, []), (34, false, []), (35, false, []), (36, false, []), (37, false, []), (38, false, [])] | _ => []
noncomputable def body81 : Code := (Try.f81.body).getD .skip
theorem chk81 : codeChk pl81 body81 = true := by kernel_rfl
theorem good81 : good Try.prog 81 = true := by kernel_rfl
theorem isb81 : Try.f81.body = some body81 := by kernel_rfl
theorem wp81 {args : List AV} {h : Heap} {Q : AV → Heap → Prop} {c : Code} (hb : Try.f81.body = some c) (hn : Nat.ble args.length 135 = true) (hk : asx Try.prog 135 pl81 c (bodyQ Try.prog [.tmp 2] Q) (fr0 args) h) : ACalls Try.prog 81 args h Q := by
  have e := isb81.symm.trans hb; cases e; exact acalls_of_body mixed Try.func81 isb81 good81 (Nat.le_of_ble_eq_true hn) pl81 chk81 hk
/- 82 slope/order.natural -/
def pl82 : Nat → Plan := fun | _ => []
noncomputable def body82 : Code := (Try.f82.body).getD .skip
theorem chk82 : codeChk pl82 body82 = true := by kernel_rfl
theorem good82 : good Try.prog 82 = true := by kernel_rfl
theorem isb82 : Try.f82.body = some body82 := by kernel_rfl
theorem wp82 {args : List AV} {h : Heap} {Q : AV → Heap → Prop} {c : Code} (hb : Try.f82.body = some c) (hn : Nat.ble args.length 19 = true) (hk : asx Try.prog 19 pl82 c (bodyQ Try.prog [.tmp 4, .tmp 5] Q) (fr0 args) h) : ACalls Try.prog 82 args h Q := by
  have e := isb82.symm.trans hb; cases e; exact acalls_of_body mixed Try.func82 isb82 good82 (Nat.le_of_ble_eq_true hn) pl82 chk82 hk
/- 83 slope/order.largest -/
def pl83 : Nat → Plan := fun | _ => []
noncomputable def body83 : Code := (Try.f83.body).getD .skip
theorem chk83 : codeChk pl83 body83 = true := by kernel_rfl
theorem good83 : good Try.prog 83 = true := by kernel_rfl
theorem isb83 : Try.f83.body = some body83 := by kernel_rfl
theorem wp83 {args : List AV} {h : Heap} {Q : AV → Heap → Prop} {c : Code} (hb : Try.f83.body = some c) (hn : Nat.ble args.length 17 = true) (hk : asx Try.prog 17 pl83 c (bodyQ Try.prog [.tmp 4, .tmp 5] Q) (fr0 args) h) : ACalls Try.prog 83 args h Q := by
  have e := isb83.symm.trans hb; cases e; exact acalls_of_body mixed Try.func83 isb83 good83 (Nat.le_of_ble_eq_true hn) pl83 chk83 hk
/- 84 slope/order.smallest -/
def pl84 : Nat → Plan := fun | _ => []
noncomputable def body84 : Code := (Try.f84.body).getD .skip
theorem chk84 : codeChk pl84 body84 = true := by kernel_rfl
theorem good84 : good Try.prog 84 = true := by kernel_rfl
theorem isb84 : Try.f84.body = some body84 := by kernel_rfl
theorem wp84 {args : List AV} {h : Heap} {Q : AV → Heap → Prop} {c : Code} (hb : Try.f84.body = some c) (hn : Nat.ble args.length 14 = true) (hk : asx Try.prog 14 pl84 c (bodyQ Try.prog [.tmp 4, .tmp 5] Q) (fr0 args) h) : ACalls Try.prog 84 args h Q := by
  have e := isb84.symm.trans hb; cases e; exact acalls_of_body mixed Try.func84 isb84 good84 (Nat.le_of_ble_eq_true hn) pl84 chk84 hk
/- 85 slope/order.incidence -/
def pl85 : Nat → Plan := fun | 10 => [(0, false, []), (1, false, []), (2, false, []), (3, false, []), (4, false, []), (5, false, []), (6, false, []), (7, false, []), (8, false, []), (9, false, []), (10, false, []), (11, false, []), (12, false, []), (13, false, []), (14, false, []), (15, false, []), (16, false, []), (18, true, []), (19, false, []), (21, true, []), (22, false, []), (17, false, [18, 21]), (20, false, [21]), (23, false, []), (24, false, []), (25, false, []), (26, false, []), (27, false, []), (28, false, []), (29, false, [])] | _ => []
noncomputable def body85 : Code := (Try.f85.body).getD .skip
theorem chk85 : codeChk pl85 body85 = true := by kernel_rfl
theorem good85 : good Try.prog 85 = true := by kernel_rfl
theorem isb85 : Try.f85.body = some body85 := by kernel_rfl
theorem wp85 {args : List AV} {h : Heap} {Q : AV → Heap → Prop} {c : Code} (hb : Try.f85.body = some c) (hn : Nat.ble args.length 84 = true) (hk : asx Try.prog 84 pl85 c (bodyQ Try.prog [.tmp 4, .tmp 5] Q) (fr0 args) h) : ACalls Try.prog 85 args h Q := by
  have e := isb85.symm.trans hb; cases e; exact acalls_of_body mixed Try.func85 isb85 good85 (Nat.le_of_ble_eq_true hn) pl85 chk85 hk
/- 86 slope/order.scripted -/
def pl86 : Nat → Plan := fun | _ => []
noncomputable def body86 : Code := (Try.f86.body).getD .skip
theorem chk86 : codeChk pl86 body86 = true := by kernel_rfl
theorem good86 : good Try.prog 86 = true := by kernel_rfl
theorem isb86 : Try.f86.body = some body86 := by kernel_rfl
theorem wp86 {args : List AV} {h : Heap} {Q : AV → Heap → Prop} {c : Code} (hb : Try.f86.body = some c) (hn : Nat.ble args.length 16 = true) (hk : asx Try.prog 16 pl86 c (bodyQ Try.prog [.tmp 4, .tmp 5] Q) (fr0 args) h) : ACalls Try.prog 86 args h Q := by
  have e := isb86.symm.trans hb; cases e; exact acalls_of_body mixed Try.func86 isb86 good86 (Nat.le_of_ble_eq_true hn) pl86 chk86 hk
/- 87 slope/sloperef11.BackOf -/
def pl87 : Nat → Plan := fun | _ => []
noncomputable def body87 : Code := (Try.f87.body).getD .skip
theorem chk87 : codeChk pl87 body87 = true := by kernel_rfl
theorem good87 : good Try.prog 87 = true := by kernel_rfl
theorem isb87 : Try.f87.body = some body87 := by kernel_rfl
theorem wp87 {args : List AV} {h : Heap} {Q : AV → Heap → Prop} {c : Code} (hb : Try.f87.body = some c) (hn : Nat.ble args.length 49 = true) (hk : asx Try.prog 49 pl87 c (bodyQ Try.prog [.tmp 4, .tmp 5] Q) (fr0 args) h) : ACalls Try.prog 87 args h Q := by
  have e := isb87.symm.trans hb; cases e; exact acalls_of_body mixed Try.func87 isb87 good87 (Nat.le_of_ble_eq_true hn) pl87 chk87 hk
/- 92 slope/sloperef11.full -/
def pl92 : Nat → Plan := fun | _ => []
noncomputable def body92 : Code := (Try.f92.body).getD .skip
theorem chk92 : codeChk pl92 body92 = true := by kernel_rfl
theorem good92 : good Try.prog 92 = true := by kernel_rfl
theorem isb92 : Try.f92.body = some body92 := by kernel_rfl
theorem wp92 {args : List AV} {h : Heap} {Q : AV → Heap → Prop} {c : Code} (hb : Try.f92.body = some c) (hn : Nat.ble args.length 16 = true) (hk : asx Try.prog 16 pl92 c (bodyQ Try.prog [.tmp 2] Q) (fr0 args) h) : ACalls Try.prog 92 args h Q := by
  have e := isb92.symm.trans hb; cases e; exact acalls_of_body mixed Try.func92 isb92 good92 (Nat.le_of_ble_eq_true hn) pl92 chk92 hk
/- 93 slope/sloperef11.among -/
def pl93 : Nat → Plan := fun | _ => []
noncomputable def body93 : Code := (Try.f93.body).getD .skip
theorem chk93 : codeChk pl93 body93 = true := by kernel_rfl
theorem good93 : good Try.prog 93 = true := by kernel_rfl
theorem isb93 : Try.f93.body = some body93 := by kernel_rfl
theorem wp93 {args : List AV} {h : Heap} {Q : AV → Heap → Prop} {c : Code} (hb : Try.f93.body = some c) (hn : Nat.ble args.length 29 = true) (hk : asx Try.prog 29 pl93 c (bodyQ Try.prog [.tmp 6] Q) (fr0 args) h) : ACalls Try.prog 93 args h Q := by
  have e := isb93.symm.trans hb; cases e; exact acalls_of_body mixed Try.func93 isb93 good93 (Nat.le_of_ble_eq_true hn) pl93 chk93 hk
/- 94 slope/sloperef11.ahead -/
def pl94 : Nat → Plan := fun | 3 => [(0, false, []), (1, false, []), (2, false, []), (3, false, []), (4, false, []), (5, false, []), (6, false, []), (7, false, []), (8, false, []), (9, false, []), (12, true, []), (13, false, []), (10, false, [12]), (11, false, []), (14, false, []), (15, false, []), (16, false, []), (17, false, []), (18, false, []), (19, false, [])] | _ => []
noncomputable def body94 : Code := (Try.f94.body).getD .skip
theorem chk94 : codeChk pl94 body94 = true := by kernel_rfl
theorem good94 : good Try.prog 94 = true := by kernel_rfl
theorem isb94 : Try.f94.body = some body94 := by kernel_rfl
theorem wp94 {args : List AV} {h : Heap} {Q : AV → Heap → Prop} {c : Code} (hb : Try.f94.body = some c) (hn : Nat.ble args.length 38 = true) (hk : asx Try.prog 38 pl94 c (bodyQ Try.prog [.tmp 8] Q) (fr0 args) h) : ACalls Try.prog 94 args h Q := by
  have e := isb94.symm.trans hb; cases e; exact acalls_of_body mixed Try.func94 isb94 good94 (Nat.le_of_ble_eq_true hn) pl94 chk94 hk
/- 95 slope/sparse.side -/
def pl95 : Nat → Plan := fun | _ => []
noncomputable def body95 : Code := (Try.f95.body).getD .skip
theorem chk95 : codeChk pl95 body95 = true := by kernel_rfl
theorem good95 : good Try.prog 95 = true := by kernel_rfl
theorem isb95 : Try.f95.body = some body95 := by kernel_rfl
theorem wp95 {args : List AV} {h : Heap} {Q : AV → Heap → Prop} {c : Code} (hb : Try.f95.body = some c) (hn : Nat.ble args.length 9 = true) (hk : asx Try.prog 9 pl95 c (bodyQ Try.prog [.tmp 2] Q) (fr0 args) h) : ACalls Try.prog 95 args h Q := by
  have e := isb95.symm.trans hb; cases e; exact acalls_of_body mixed Try.func95 isb95 good95 (Nat.le_of_ble_eq_true hn) pl95 chk95 hk
/- 96 slices.IsSorted[[]int,int] -/
def pl96 : Nat → Plan := fun | 4 => [(0, false, []), (1, false, []), (2, false, []), (3, false, []), (4, false, []), (5, false, []), (6, false, []), (7, false, []), (8, false, []), (9, false, [])] | _ => []
noncomputable def body96 : Code := (Try.f96.body).getD .skip
theorem chk96 : codeChk pl96 body96 = true := by kernel_rfl
theorem good96 : good Try.prog 96 = true := by kernel_rfl
theorem isb96 : Try.f96.body = some body96 := by kernel_rfl
theorem wp96 {args : List AV} {h : Heap} {Q : AV → Heap → Prop} {c : Code} (hb : Try.f96.body = some c) (hn : Nat.ble args.length 21 = true) (hk : asx Try.prog 21 pl96 c (bodyQ Try.prog [.tmp 2] Q) (fr0 args) h) : ACalls Try.prog 96 args h Q := by
  have e := isb96.symm.trans hb; cases e; exact acalls_of_body mixed Try.func96 isb96 good96 (Nat.le_of_ble_eq_true hn) pl96 chk96 hk
/- 97 slope/sparse.each -/
def pl97 : Nat → Plan := fun | _ => []
noncomputable def body97 : Code := (Try.f97.body).getD .skip
theorem chk97 : codeChk pl97 body97 = true := by kernel_rfl
theorem good97 : good Try.prog 97 = true := by kernel_rfl
theorem isb97 : Try.f97.body = some body97 := by kernel_rfl
theorem wp97 {args : List AV} {h : Heap} {Q : AV → Heap → Prop} {c : Code} (hb : Try.f97.body = some c) (hn : Nat.ble args.length 36 = true) (hk : asx Try.prog 36 pl97 c (bodyQ Try.prog [] Q) (fr0 args) h) : ACalls Try.prog 97 args h Q := by
  have e := isb97.symm.trans hb; cases e; exact acalls_of_body mixed Try.func97 isb97 good97 (Nat.le_of_ble_eq_true hn) pl97 chk97 hk
/- 98 slope/sparse.Symmetric$1 -/
def pl98 : Nat → Plan := fun | _ => []
noncomputable def body98 : Code := (Try.f98.body).getD .skip
theorem chk98 : codeChk pl98 body98 = true := by kernel_rfl
theorem good98 : good Try.prog 98 = true := by kernel_rfl
theorem isb98 : Try.f98.body = some body98 := by kernel_rfl
theorem wp98 {args : List AV} {h : Heap} {Q : AV → Heap → Prop} {c : Code} (hb : Try.f98.body = some c) (hn : Nat.ble args.length 21 = true) (hk : asx Try.prog 21 pl98 c (bodyQ Try.prog [] Q) (fr0 args) h) : ACalls Try.prog 98 args h Q := by
  have e := isb98.symm.trans hb; cases e; exact acalls_of_body mixed Try.func98 isb98 good98 (Nat.le_of_ble_eq_true hn) pl98 chk98 hk
/- 99 slope/sparse.find -/
def pl99 : Nat → Plan := fun | 3 => [(0, false, []), (1, false, []), (2, false, []), (3, false, []), (4, false, []), (5, false, []), (6, false, []), (7, false, []), (8, false, []), (9, false, []), (10, false, []), (11, false, []), (12, false, []), (13, false, []), (14, false, []), (15, false, []), (16, false, []), (17, false, []), (18, false, []), (19, false, []), (20, false, [])] | _ => []
noncomputable def body99 : Code := (Try.f99.body).getD .skip
theorem chk99 : codeChk pl99 body99 = true := by kernel_rfl
theorem good99 : good Try.prog 99 = true := by kernel_rfl
theorem isb99 : Try.f99.body = some body99 := by kernel_rfl
theorem wp99 {args : List AV} {h : Heap} {Q : AV → Heap → Prop} {c : Code} (hb : Try.f99.body = some c) (hn : Nat.ble args.length 45 = true) (hk : asx Try.prog 45 pl99 c (bodyQ Try.prog [.tmp 6, .tmp 7] Q) (fr0 args) h) : ACalls Try.prog 99 args h Q := by
  have e := isb99.symm.trans hb; cases e; exact acalls_of_body mixed Try.func99 isb99 good99 (Nat.le_of_ble_eq_true hn) pl99 chk99 hk
/- 100 slices.IndexFunc[[]int,int] -/
def pl100 : Nat → Plan := fun | _ => []
noncomputable def body100 : Code := (Try.f100.body).getD .skip
theorem chk100 : codeChk pl100 body100 = true := by kernel_rfl
theorem good100 : good Try.prog 100 = true := by kernel_rfl
theorem isb100 : Try.f100.body = some body100 := by kernel_rfl
theorem wp100 {args : List AV} {h : Heap} {Q : AV → Heap → Prop} {c : Code} (hb : Try.f100.body = some c) (hn : Nat.ble args.length 19 = true) (hk : asx Try.prog 19 pl100 c (bodyQ Try.prog [.tmp 4] Q) (fr0 args) h) : ACalls Try.prog 100 args h Q := by
  have e := isb100.symm.trans hb; cases e; exact acalls_of_body mixed Try.func100 isb100 good100 (Nat.le_of_ble_eq_true hn) pl100 chk100 hk
/- 101 slices.SortStableFunc[[]int,int] -/
def pl101 : Nat → Plan := fun | _ => []
noncomputable def body101 : Code := (Try.f101.body).getD .skip
theorem chk101 : codeChk pl101 body101 = true := by kernel_rfl
theorem good101 : good Try.prog 101 = true := by kernel_rfl
theorem isb101 : Try.f101.body = some body101 := by kernel_rfl
theorem wp101 {args : List AV} {h : Heap} {Q : AV → Heap → Prop} {c : Code} (hb : Try.f101.body = some c) (hn : Nat.ble args.length 9 = true) (hk : asx Try.prog 9 pl101 c (bodyQ Try.prog [] Q) (fr0 args) h) : ACalls Try.prog 101 args h Q := by
  have e := isb101.symm.trans hb; cases e; exact acalls_of_body mixed Try.func101 isb101 good101 (Nat.le_of_ble_eq_true hn) pl101 chk101 hk
/- 102 slope/order.largest$1 -/
def pl102 : Nat → Plan := fun | 1 => [(0, false, []), (1, false, []), (3, true, []), (4, false, []), (2, false, [3]), (5, false, []), (6, false, []), (7, false, [])] | _ => []
noncomputable def body102 : Code := (Try.f102.body).getD .skip
theorem chk102 : codeChk pl102 body102 = true := by kernel_rfl
theorem good102 : good Try.prog 102 = true := by kernel_rfl
theorem isb102 : Try.f102.body = some body102 := by kernel_rfl
theorem wp102 {args : List AV} {h : Heap} {Q : AV → Heap → Prop} {c : Code} (hb : Try.f102.body = some c) (hn : Nat.ble args.length 13 = true) (hk : asx Try.prog 13 pl102 c (bodyQ Try.prog [.tmp 5] Q) (fr0 args) h) : ACalls Try.prog 102 args h Q := by
  have e := isb102.symm.trans hb; cases e; exact acalls_of_body mixed Try.func102 isb102 good102 (Nat.le_of_ble_eq_true hn) pl102 chk102 hk
/- 103 cmp.Compare[int] -/
def pl103 : Nat → Plan := fun | _ => []
noncomputable def body103 : Code := (Try.f103.body).getD .skip
theorem chk103 : codeChk pl103 body103 = true := by kernel_rfl
theorem good103 : good Try.prog 103 = true := by kernel_rfl
theorem isb103 : Try.f103.body = some body103 := by kernel_rfl
theorem wp103 {args : List AV} {h : Heap} {Q : AV → Heap → Prop} {c : Code} (hb : Try.f103.body = some c) (hn : Nat.ble args.length 20 = true) (hk : asx Try.prog 20 pl103 c (bodyQ Try.prog [.tmp 4] Q) (fr0 args) h) : ACalls Try.prog 103 args h Q := by
  have e := isb103.symm.trans hb; cases e; exact acalls_of_body mixed Try.func103 isb103 good103 (Nat.le_of_ble_eq_true hn) pl103 chk103 hk
/- 104 cmp.Or[int] -/
def pl104 : Nat → Plan := fun | _ => []
noncomputable def body104 : Code := (Try.f104.body).getD .skip
theorem chk104 : codeChk pl104 body104 = true := by kernel_rfl
theorem good104 : good Try.prog 104 = true := by kernel_rfl
theorem isb104 : Try.f104.body = some body104 := by kernel_rfl
theorem wp104 {args : List AV} {h : Heap} {Q : AV → Heap → Prop} {c : Code} (hb : Try.f104.body = some c) (hn : Nat.ble args.length 18 = true) (hk : asx Try.prog 18 pl104 c (bodyQ Try.prog [.tmp 2] Q) (fr0 args) h) : ACalls Try.prog 104 args h Q := by
  have e := isb104.symm.trans hb; cases e; exact acalls_of_body mixed Try.func104 isb104 good104 (Nat.le_of_ble_eq_true hn) pl104 chk104 hk
/- 105 slices.Clone[[]int,int] -/
def pl105 : Nat → Plan := fun | _ => []
noncomputable def body105 : Code := (Try.f105.body).getD .skip
theorem chk105 : codeChk pl105 body105 = true := by kernel_rfl
theorem good105 : good Try.prog 105 = true := by kernel_rfl
theorem isb105 : Try.f105.body = some body105 := by kernel_rfl
theorem wp105 {args : List AV} {h : Heap} {Q : AV → Heap → Prop} {c : Code} (hb : Try.f105.body = some c) (hn : Nat.ble args.length 8 = true) (hk : asx Try.prog 8 pl105 c (bodyQ Try.prog [.tmp 2] Q) (fr0 args) h) : ACalls Try.prog 105 args h Q := by
  have e := isb105.symm.trans hb; cases e; exact acalls_of_body mixed Try.func105 isb105 good105 (Nat.le_of_ble_eq_true hn) pl105 chk105 hk
/- 114 cmp.Less[int] -/
def pl114 : Nat → Plan := fun | _ => []
noncomputable def body114 : Code := (Try.f114.body).getD .skip
theorem chk114 : codeChk pl114 body114 = true := by kernel_rfl
theorem good114 : good Try.prog 114 = true := by kernel_rfl
theorem isb114 : Try.f114.body = some body114 := by kernel_rfl
theorem wp114 {args : List AV} {h : Heap} {Q : AV → Heap → Prop} {c : Code} (hb : Try.f114.body = some c) (hn : Nat.ble args.length 17 = true) (hk : asx Try.prog 17 pl114 c (bodyQ Try.prog [.tmp 4] Q) (fr0 args) h) : ACalls Try.prog 114 args h Q := by
  have e := isb114.symm.trans hb; cases e; exact acalls_of_body mixed Try.func114 isb114 good114 (Nat.le_of_ble_eq_true hn) pl114 chk114 hk
/- 115 slices.BinarySearch[[]int,int] -/
def pl115 : Nat → Plan := fun | _ => []
noncomputable def body115 : Code := (Try.f115.body).getD .skip
theorem chk115 : codeChk pl115 body115 = true := by kernel_rfl
theorem good115 : good Try.prog 115 = true := by kernel_rfl
theorem isb115 : Try.f115.body = some body115 := by kernel_rfl
theorem wp115 {args : List AV} {h : Heap} {Q : AV → Heap → Prop} {c : Code} (hb : Try.f115.body = some c) (hn : Nat.ble args.length 54 = true) (hk : asx Try.prog 54 pl115 c (bodyQ Try.prog [.tmp 4, .tmp 5] Q) (fr0 args) h) : ACalls Try.prog 115 args h Q := by
  have e := isb115.symm.trans hb; cases e; exact acalls_of_body mixed Try.func115 isb115 good115 (Nat.le_of_ble_eq_true hn) pl115 chk115 hk
/- 116 slices.stableCmpFunc[int] -/
def pl116 : Nat → Plan := fun | _ => []
noncomputable def body116 : Code := (Try.f116.body).getD .skip
theorem chk116 : codeChk pl116 body116 = true := by kernel_rfl
theorem good116 : good Try.prog 116 = true := by kernel_rfl
theorem isb116 : Try.f116.body = some body116 := by kernel_rfl
theorem wp116 {args : List AV} {h : Heap} {Q : AV → Heap → Prop} {c : Code} (hb : Try.f116.body = some c) (hn : Nat.ble args.length 63 = true) (hk : asx Try.prog 63 pl116 c (bodyQ Try.prog [] Q) (fr0 args) h) : ACalls Try.prog 116 args h Q := by
  have e := isb116.symm.trans hb; cases e; exact acalls_of_body mixed Try.func116 isb116 good116 (Nat.le_of_ble_eq_true hn) pl116 chk116 hk
/- 117 cmp.isNaN[int] -/
def pl117 : Nat → Plan := fun | _ => []
noncomputable def body117 : Code := (Try.f117.body).getD .skip
theorem chk117 : codeChk pl117 body117 = true := by kernel_rfl
theorem good117 : good Try.prog 117 = true := by kernel_rfl
theorem isb117 : Try.f117.body = some body117 := by kernel_rfl
theorem wp117 {args : List AV} {h : Heap} {Q : AV → Heap → Prop} {c : Code} (hb : Try.f117.body = some c) (hn : Nat.ble args.length 6 = true) (hk : asx Try.prog 6 pl117 c (bodyQ Try.prog [.tmp 2] Q) (fr0 args) h) : ACalls Try.prog 117 args h Q := by
  have e := isb117.symm.trans hb; cases e; exact acalls_of_body mixed Try.func117 isb117 good117 (Nat.le_of_ble_eq_true hn) pl117 chk117 hk
/- 124 slices.isNaN[int] -/
def pl124 : Nat → Plan := fun | _ => []
noncomputable def body124 : Code := (Try.f124.body).getD .skip
theorem chk124 : codeChk pl124 body124 = true := by kernel_rfl
theorem good124 : good Try.prog 124 = true := by kernel_rfl
theorem isb124 : Try.f124.body = some body124 := by kernel_rfl
theorem wp124 {args : List AV} {h : Heap} {Q : AV → Heap → Prop} {c : Code} (hb : Try.f124.body = some c) (hn : Nat.ble args.length 6 = true) (hk : asx Try.prog 6 pl124 c (bodyQ Try.prog [.tmp 2] Q) (fr0 args) h) : ACalls Try.prog 124 args h Q := by
  have e := isb124.symm.trans hb; cases e; exact acalls_of_body mixed Try.func124 isb124 good124 (Nat.le_of_ble_eq_true hn) pl124 chk124 hk
/- 125 slices.insertionSortCmpFunc[int] -/
def pl125 : Nat → Plan := fun | 4 => [(0, false, []), (1, false, []), (2, false, []), (3, false, []), (4, false, []), (5, false, []), (6, false, []), (7, false, []), (8, false, []), (9, false, []), (10, false, []), (11, false, []), (12, false, []), (13, false, []), (14, false, []), (15, false, []), (16, false, [])] | 6 => [(0, false, []), (1, false, []), (2, false, []), (3, false, []), (4, false, []), (5, false, []), (6, false, []), (7, false, []), (8, false, []), (9, false, []), (10, false, []), (11, false, []), (12, false, []), (13, false, []), (14, false, []), (15, false, []), (16, false, []), (17, false, [])] | _ => []
noncomputable def body125 : Code := (Try.f125.body).getD .skip
theorem chk125 : codeChk pl125 body125 = true := by kernel_rfl
theorem good125 : good Try.prog 125 = true := by kernel_rfl
theorem isb125 : Try.f125.body = some body125 := by kernel_rfl
theorem wp125 {args : List AV} {h : Heap} {Q : AV → Heap → Prop} {c : Code} (hb : Try.f125.body = some c) (hn : Nat.ble args.length 53 = true) (hk : asx Try.prog 53 pl125 c (bodyQ Try.prog [] Q) (fr0 args) h) : ACalls Try.prog 125 args h Q := by
  have e := isb125.symm.trans hb; cases e; exact acalls_of_body mixed Try.func125 isb125 good125 (Nat.le_of_ble_eq_true hn) pl125 chk125 hk
/- 126 slices.symMergeCmpFunc[int] -/
def pl126 : Nat → Plan := fun | 5 => [(0, false, []), (1, false, []), (2, false, []), (3, false, []), (4, false, []), (5, false, []), (6, false, []), (7, false, []), (8, false, []), (9, false, []), (10, false, [])] | 11 => [(0, false, []), (1, false, []), (2, false, []), (3, false, []), (4, false, []), (5, false, []), (6, false, []), (7, false, []), (8, false, []), (9, false, []), (10, false, []), (11, false, []), (12, false, []), (13, false, []), (14, false, []), (15, false, []), (16, false, []), (17, false, [])] | 17 => [(0, false, []), (1, false, []), (2, false, []), (3, false, []), (4, false, []), (5, false, []), (6, false, []), (7, false, []), (8, false, []), (9, false, []), (10, false, []), (11, false, [])] | 23 => [(0, false, []), (1, false, []), (2, false, []), (3, false, []), (4, false, []), (5, false, []), (6, false, []), (7, false, []), (8, false, []), (9, false, []), (10, false, []), (11, false, []), (12, false, []), (13, false, []), (14, false, []), (15, false, []), (16, false, []), (17, false, [])] | 35 => [(0, false, []), (1, false, []), (2, false, []), (3, false, []), (4, false, []), (5, false, []), (6, false, []), (7, false, []), (8, false, []), (9, false, []), (10, false, []), (11, false, []), (12, false, []), (13, false, [])] | _ => []
noncomputable def body126 : Code := (Try.f126.body).getD .skip
theorem chk126 : codeChk pl126 body126 = true := by kernel_rfl
theorem good126 : good Try.prog 126 = true := by kernel_rfl
theorem isb126 : Try.f126.body = some body126 := by kernel_rfl
theorem wp126 {args : List AV} {h : Heap} {Q : AV → Heap → Prop} {c : Code} (hb : Try.f126.body = some c) (hn : Nat.ble args.length 220 = true) (hk : asx Try.prog 220 pl126 c (bodyQ Try.prog [] Q) (fr0 args) h) : ACalls Try.prog 126 args h Q := by
  have e := isb126.symm.trans hb; cases e; exact acalls_of_body mixed Try.func126 isb126 good126 (Nat.le_of_ble_eq_true hn) pl126 chk126 hk
/- 141 slices.rotateCmpFunc[int] -/
def pl141 : Nat → Plan := fun | _ => []
noncomputable def body141 : Code := (Try.f141.body).getD .skip
theorem chk141 : codeChk pl141 body141 = true := by kernel_rfl
theorem good141 : good Try.prog 141 = true := by kernel_rfl
theorem isb141 : Try.f141.body = some body141 := by kernel_rfl
theorem wp141 {args : List AV} {h : Heap} {Q : AV → Heap → Prop} {c : Code} (hb : Try.f141.body = some c) (hn : Nat.ble args.length 58 = true) (hk : asx Try.prog 58 pl141 c (bodyQ Try.prog [] Q) (fr0 args) h) : ACalls Try.prog 141 args h Q := by
  have e := isb141.symm.trans hb; cases e; exact acalls_of_body mixed Try.func141 isb141 good141 (Nat.le_of_ble_eq_true hn) pl141 chk141 hk
/- 153 slices.swapRangeCmpFunc[int] -/
def pl153 : Nat → Plan := fun | 3 => [(0, false, []), (1, false, []), (2, false, []), (3, false, []), (4, false, []), (5, false, []), (6, false, []), (7, false, []), (8, false, []), (9, false, []), (10, false, []), (11, false, []), (12, false, []), (13, false, []), (14, false, []), (15, false, []), (16, false, []), (17, false, []), (18, false, []), (19, false, []), (20, false, []), (21, false, []), (22, false, []), (23, false, [])] | _ => []
noncomputable def body153 : Code := (Try.f153.body).getD .skip
theorem chk153 : codeChk pl153 body153 = true := by kernel_rfl
theorem good153 : good Try.prog 153 = true := by kernel_rfl
theorem isb153 : Try.f153.body = some body153 := by kernel_rfl
theorem wp153 {args : List AV} {h : Heap} {Q : AV → Heap → Prop} {c : Code} (hb : Try.f153.body = some c) (hn : Nat.ble args.length 38 = true) (hk : asx Try.prog 38 pl153 c (bodyQ Try.prog [] Q) (fr0 args) h) : ACalls Try.prog 153 args h Q := by
  have e := isb153.symm.trans hb; cases e; exact acalls_of_body mixed Try.func153 isb153 good153 (Nat.le_of_ble_eq_true hn) pl153 chk153 hk
end Go.Proofs.Ytgdlkhgfehclpaa
end
