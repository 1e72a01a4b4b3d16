/- Texts of one claim bound together: ALq, ALr, ALs, PZa, Facts, Fns, ALt, POa. -/
import Derived.Test.YtgdlkhgfehclpaaGreatQW2
import Derived.Test.YtgdlkhgfehclpaaGreatRows
import Derived.ProofKit
import Derived.OpenShut
import Derived.JoinedCond
import Derived.Test.YtgdlkhgfehclpaaGreatProg
import Derived.KernelRfl

section
/- The small logic's calls: objects left out; a function's own objects laid behind the caller's; fresh answers; loops told round by round; cuts. No condition. -/
namespace Go.AL
set_option linter.unusedVariables false
set_option linter.unusedSimpArgs false
section
variable {P : Program}

theorem ACalls.mono' {f : FuncId} {args : List AV} {h : Heap} {Q Q' : AV → Heap → Prop} (hc : ACalls P f args h Q) (hq : ∀ u h', Q u h' → Q' u h') : ACalls P f args h Q' := by
  refine ⟨hc.1, fun I β w vs r hv => (hc.2 I β w vs r hv).mono ?_⟩
  rintro e w' ⟨cv, u, I', β', h', h1, h2, h3⟩
  exact ⟨cv, u, I', β', h', h1, hq _ _ h2, h3⟩
theorem acalls_gc {f : FuncId} {args : List AV} {h : Heap} {Q : AV → Heap → Prop} (hc : ACalls P f args h fun u h' => ∃ ids : List Nat, (ids.Nodup ∧ ids.take h.length = List.range h.length) ∧ Q (u.ren (posOf ids)) (gcH ids h')) : ACalls P f args h Q := by
  refine ⟨hc.1, fun I β w vs r hv => (hc.2 I β w vs r hv).mono ?_⟩
  rintro e w' ⟨cv, u, I', β', h', h1, ⟨ids, ⟨h2, h3⟩, h4⟩, h5, h6, h7⟩
  exact ⟨cv, _, I', _, _, h1, h4, h5.gc h3, h6.gc h2, h7.gc⟩

/-! ### objects laid behind -/
def sh (N : Nat) : Nat → Option Nat := fun id => some (id + N)
def behind (h h0 : Heap) : Heap := h ++ h0.map (Ob.ren (sh h.length))
mutual
/-- Nothing in it lies in memory that is not its own. -/
def AV.lean : AV → Bool
  | .ip .. => false
  | .isl .. => false
  | .fn _ fs cs => leans fs && leans cs
  | .ifc _ v => v.lean
  | .agg cs => leans cs
  | .tup cs => leans cs
  | .int .. => true
  | .bool _ => true
  | .str _ => true
  | .flt .. => true
  | .nilp => true
  | .nils => true
  | .nilf => true
  | .nili => true
  | .nilm => true
  | .op .. => true
  | .osl .. => true
  | .om _ => true
  | .any => true
def leans : List AV → Bool
  | [] => true
  | v :: r => v.lean && leans r
end
theorem leans_get {l : List AV} (h : leans l = true) {j : Nat} {u : AV} (hj : l[j]? = some u) : u.lean = true := by
  induction l generalizing j with
  | nil => simp at hj
  | cons v r ih =>
    simp only [leans, Bool.and_eq_true] at h
    cases j with
    | zero => simp at hj; subst hj; exact h.1
    | succ j => simp at hj; exact ih h.2 hj
def Ob.lean : Ob → Bool
  | .dead => true
  | .arr _ es _ => es.all leans
  | .map es _ => es.all fun x => x.1.lean && x.2.1.lean
section
variable {I I' : Nat → Prop} {β : Nat → Nat} {N : Nat} {w : World}
theorem IRel.lean {u : AV} {v : Value} (h : IRel I w u v) (hl : u.lean = true) : IRel I' w u v := by
  induction h with
  | int k n => exact .int k n
  | bool b => exact .bool b
  | str s => exact .str s
  | flt k n => exact .flt k n
  | nilp => exact .nilp
  | nils => exact .nils
  | nilf => exact .nilf
  | nili => exact .nili
  | nilm => exact .nilm
  | ip _ _ _ _ _ _ _ _ _ _ _ => simp [AV.lean] at hl
  | isl0 _ _ _ => simp [AV.lean] at hl
  | isl _ _ _ _ _ _ _ _ _ _ _ _ _ _ => simp [AV.lean] at hl
  | fn f fs cs fs' cs' h1 h2 _ _ ih1 ih2 =>
    simp only [AV.lean, Bool.and_eq_true] at hl
    exact .fn f fs cs fs' cs' h1 h2 (fun j u v hu hv => ih1 j u v hu hv (leans_get hl.1 hu)) (fun j u v hu hv => ih2 j u v hu hv (leans_get hl.2 hu))
  | ifc t u v _ ih => exact .ifc t u v (ih (by simpa [AV.lean] using hl))
  | agg cs cs' h1 h2 _ ih => exact .agg cs cs' h1 h2 (fun j u v hu hv => ih j u v hu hv (leans_get (by simpa [AV.lean] using hl) hu))
  | tup cs cs' h1 _ ih => exact .tup cs cs' h1 (fun j u v hu hv => ih j u v hu hv (leans_get (by simpa [AV.lean] using hl) hu))
theorem VRel.lean {u : AV} {v : Value} (h : VRel I β N w u v) (hl : u.lean = true) : VRel I' β N w u v := by
  induction h with
  | imm u v h => exact .imm u v (h.lean hl)
  | any v => exact .any v
  | op id k e off h => exact .op id k e off h
  | osl id k i len cap ex c n h h0 h1 h2 h3 h4 => exact .osl id k i len cap ex c n h h0 h1 h2 h3 h4
  | om id h => exact .om id h
  | fn f fs cs fs' cs' h1 h2 _ _ ih1 ih2 =>
    simp only [AV.lean, Bool.and_eq_true] at hl
    exact .fn f fs cs fs' cs' h1 h2 (fun j u v hu hv => ih1 j u v hu hv (leans_get hl.1 hu)) (fun j u v hu hv => ih2 j u v hu hv (leans_get hl.2 hu))
  | ifc t u v _ ih => exact .ifc t u v (ih (by simpa [AV.lean] using hl))
  | agg cs cs' h1 h2 _ ih => exact .agg cs cs' h1 h2 (fun j u v hu hv => ih j u v hu hv (leans_get (by simpa [AV.lean] using hl) hu))
  | tup cs cs' h1 _ ih => exact .tup cs cs' h1 (fun j u v hu hv => ih j u v hu hv (leans_get (by simpa [AV.lean] using hl) hu))
theorem ORel.lean {o : Ob} {x : Option Obj} (h : ORel I β N w o x) (hl : o.lean = true) : ORel I' β N w o x := by
  cases o with
  | dead => trivial
  | arr k es ex =>
    obtain ⟨cur, t, h1, h2, h3, h4, h5⟩ := h
    refine ⟨cur, t, h1, h2, h3, h4, fun i e j u he hu => ?_⟩
    obtain ⟨v, h6, h7, h8⟩ := h5 i e j u he hu
    simp only [Ob.lean, List.all_eq_true] at hl
    exact ⟨v, h6, h7.lean (leans_get (hl e (List.mem_of_getElem? he)) hu), h8⟩
  | map es c =>
    obtain ⟨es', h1, h2, h3⟩ := h
    refine ⟨es', h1, h2, fun j x y hx hy => ?_⟩
    obtain ⟨q1, q2, q3⟩ := h3 j x y hx hy
    simp only [Ob.lean, List.all_eq_true, Bool.and_eq_true] at hl
    have := hl x (List.mem_of_getElem? hx)
    exact ⟨q1.lean this.1, q2.lean this.2, q3⟩
end

def joinB (N : Nat) (β β' : Nat → Nat) : Nat → Nat := fun id => if id < N then β id else β' (id - N)
theorem behind_length {h h0 : Heap} : (behind h h0).length = h.length + h0.length := by simp [behind]
theorem behind_get {h h0 : Heap} {id : Nat} {o : Ob} (ho : (behind h h0)[id]? = some o) : (id < h.length ∧ h[id]? = some o) ∨ (h.length ≤ id ∧ ∃ o0, h0[id - h.length]? = some o0 ∧ o = o0.ren (sh h.length)) := by
  unfold behind at ho
  by_cases hid : id < h.length
  · rw [List.getElem?_append_left hid] at ho; exact .inl ⟨hid, ho⟩
  · rw [List.getElem?_append_right (by omega), List.getElem?_map] at ho
    cases hh : h0[id - h.length]? with
    | none => rw [hh] at ho; simp at ho
    | some o0 => rw [hh] at ho; simp at ho; exact .inr ⟨by omega, o0, rfl, ho.symm⟩

theorem shift_core {I I' : Nat → Prop} {β β' : Nat → Nat} {h h0 : Heap} {w w' : World} (r : Rel I β h w) (hos : w'.os = w.os) (htp : w'.tape = w.tape) (hout : w'.output = w.output) (hsz : w.heap.size ≤ w'.heap.size)
    (hkeep : ∀ b, b < w.heap.size → w'.heap[b]? = w.heap[b]?) (hown : ∀ b, Own h0 β' b → w.heap.size ≤ b) (r0 : Rel I' β' h0 w') (hI : ∀ b, I b → I' b) (hnew : ∀ b, I' b → I b ∨ w.heap.size ≤ b) :
    Ext I β h w I' (joinB h.length β β') (behind h h0) w' ∧ Rel I' (joinB h.length β β') (behind h h0) w' ∧ ∀ u v, VRel I' β' h0.length w' u v → VRel I' (joinB h.length β β') (behind h h0).length w' (u.ren (sh h.length)) v := by
  have hbs : ∀ b n, bsize w b = some n → bsize w' b = some n := fun b n hb => by
    have hlt : b < w.heap.size := by
      unfold bsize at hb
      split at hb
      · rename_i h1; exact (Array.getElem?_eq_some_iff.1 h1).1
      · simp at hb
    rw [bsize_of_heap (hkeep b hlt)]
    exact hb
  have hj1 : ∀ id, id < h.length → joinB h.length β β' id = β id := fun id hid => by simp [joinB, hid]
  have hj2 : ∀ id, joinB h.length β β' (id + h.length) = β' id := fun id => by unfold joinB; rw [if_neg (by omega), Nat.add_sub_cancel]
  have hρ : ∀ id j, id < h0.length → sh h.length id = some j → j < (behind h h0).length ∧ joinB h.length β β' j = β' id := fun id j hid hj => by
    simp only [sh, Option.some.injEq] at hj
    subst hj
    exact ⟨by rw [behind_length]; omega, hj2 id⟩
  have hm : ∀ u v, VRel I β h.length w u v → VRel I' (joinB h.length β β') (behind h h0).length w' u v := fun u v hv =>
    hv.mono hI (fun b hb => hkeep b (r.imm b hb)) (by rw [behind_length]; omega) (fun id hid => hj1 id hid) hbs
  refine ⟨⟨hos, htp, hout, hsz, by rw [behind_length]; omega, fun id hid => hj1 id hid, hI, fun b hb => (hnew b hb).imp id .inr, fun b hb => ?_, fun b hb _ => hkeep b hb, hbs⟩, ⟨r0.imm, fun id o ho hd => ?_, fun id id' o o' ho hd ho' hd' hb => ?_⟩, fun u v hv => hv.ren hρ⟩
  · obtain ⟨id, o, ho, hd, rfl⟩ := hb
    rcases behind_get ho with ⟨h1, h2⟩ | ⟨h1, o0, h2, rfl⟩
    · rw [hj1 id h1]; exact .inl ⟨id, o, h2, hd, rfl⟩
    · obtain ⟨j, rfl⟩ : ∃ j, id = j + h.length := ⟨id - h.length, by omega⟩
      rw [hj2]
      exact .inr (hown _ ⟨j, o0, by simpa using h2, Ob.ren_dead hd, rfl⟩)
  · rcases behind_get ho with ⟨h1, h2⟩ | ⟨h1, o0, h2, rfl⟩
    · rw [hj1 id h1]
      obtain ⟨q1, q2, q3⟩ := r.obj id o h2 hd
      refine ⟨by omega, fun hi => ?_, by rw [hkeep _ q1]; exact q3.mono hm⟩
      rcases hnew _ hi with h3 | h3
      · exact q2 h3
      · omega
    · obtain ⟨j, rfl⟩ : ∃ j, id = j + h.length := ⟨id - h.length, by omega⟩
      rw [hj2]
      obtain ⟨q1, q2, q3⟩ := r0.obj j o0 (by simpa using h2) (Ob.ren_dead hd)
      exact ⟨q1, q2, q3.ren hρ⟩
  · rcases behind_get ho with ⟨h1, h2⟩ | ⟨h1, o0, h2, rfl⟩ <;> rcases behind_get ho' with ⟨h1', h2'⟩ | ⟨h1', o0', h2', rfl⟩
    · rw [hj1 id h1, hj1 id' h1'] at hb; exact r.inj id id' o o' h2 hd h2' hd' hb
    · obtain ⟨j, rfl⟩ : ∃ j, id' = j + h.length := ⟨id' - h.length, by omega⟩
      rw [hj1 id h1, hj2] at hb
      have q := hown _ ⟨j, o0', by simpa using h2', Ob.ren_dead hd', rfl⟩
      have q' := (r.obj id o h2 hd).1
      omega
    · obtain ⟨j, rfl⟩ : ∃ j, id = j + h.length := ⟨id - h.length, by omega⟩
      rw [hj1 id' h1', hj2] at hb
      have q := hown _ ⟨j, o0, by simpa using h2, Ob.ren_dead hd, rfl⟩
      have q' := (r.obj id' o' h2' hd').1
      omega
    · obtain ⟨j, rfl⟩ : ∃ j, id = j + h.length := ⟨id - h.length, by omega⟩
      obtain ⟨j', rfl⟩ : ∃ j, id' = j + h.length := ⟨id' - h.length, by omega⟩
      rw [hj2, hj2] at hb
      rw [r0.inj j j' o0 o0' (by simpa using h2) (Ob.ren_dead hd) (by simpa using h2') (Ob.ren_dead hd') hb]

/-- A function that was walked from an empty heap, called with values alone. -/
theorem acalls_shift {f : FuncId} {args : List AV} {h : Heap} {R Q : AV → Heap → Prop} (hc : ACalls P f args [] R) (ha : pures args = true) (hq : ∀ u h0, R u h0 → Q (u.ren (sh h.length)) (behind h h0)) : ACalls P f args h Q := by
  refine ⟨hc.1, fun I β w vs r hv => ?_⟩
  have hv' : VRels I (fun _ => 0) 0 w args vs := ⟨hv.1, fun j u v hu hv' => .imm _ _ ((hv.2 j u v hu hv').toI (pures_get ha hu))⟩
  refine (hc.2 I (fun _ => 0) w vs ⟨r.imm, fun id o h => by simp at h, fun id id' o o' h => by simp at h⟩ hv').mono ?_
  rintro e w' ⟨cv, u, I', β', h0, rfl, hr, he, r0, hvr⟩
  obtain ⟨h1, h2, h3⟩ := shift_core r he.os he.tape he.output he.size (fun b hb => he.keep b hb own_nil) (fun b hb => (he.own b hb).elim (fun x => absurd x own_nil) id) r0 he.sub
    (fun b hb => (he.immnew b hb).elim .inl fun x => x.elim (fun x => absurd x own_nil) .inr)
  exact ⟨cv, _, I', _, _, rfl, hq _ _ hr, h1, h2, h3 _ _ hvr⟩

/-- The same, what one owns lent to it; what it hands back is its own. -/
theorem acalls_lend_shift {f : FuncId} {args args' : List AV} {h : Heap} {R Q : AV → Heap → Prop} (hc : ACalls P f args' [] R) (ha : Frzs h args args') (hq : ∀ u h0, R u h0 → (u.lean = true ∧ ∀ o, o ∈ h0 → o.lean = true) ∧ Q (u.ren (sh h.length)) (behind h h0)) : ACalls P f args h Q := by
  refine ⟨hc.1, fun I β w vs r hv => ?_⟩
  have hJ : ∀ b, IO I β h b → b < w.heap.size := by
    rintro b (hb | ⟨id, o, h1, h2, rfl⟩)
    · exact r.imm b hb
    · exact (r.obj id o h1 h2).1
  have hv' : VRels (IO I β h) (fun _ => 0) 0 w args' vs := ⟨by rw [ha.1]; exact hv.1, fun j u' v hu hv' => by
    obtain ⟨u, hu0⟩ := getElem?_lt ha.1 hu
    exact .imm _ _ ((ha.2 j u u' hu0 hu).rel r (hv.2 j u v hu0 hv'))⟩
  refine (hc.2 (IO I β h) (fun _ => 0) w vs ⟨hJ, fun id o h => by simp at h, fun id id' o o' h => by simp at h⟩ hv').mono ?_
  rintro e w' ⟨cv, u, I', β', h0, rfl, hr, he, r0, hvr⟩
  obtain ⟨⟨hl1, hl2⟩, hqq⟩ := hq _ _ hr
  have r0' : Rel (fun b => I b ∨ (I' b ∧ w.heap.size ≤ b)) β' h0 w' := by
    refine ⟨fun b hb => ?_, fun id o h1 h2 => ?_, r0.inj⟩
    · rcases hb with hb | hb
      · have := r.imm b hb; have := he.size; omega
      · exact r0.imm b hb.1
    · obtain ⟨q1, q2, q3⟩ := r0.obj id o h1 h2
      refine ⟨q1, fun hx => q2 ?_, q3.lean (hl2 o (List.mem_of_getElem? h1))⟩
      rcases hx with hx | hx
      · exact he.sub _ (.inl hx)
      · exact hx.1
  obtain ⟨h1, h2, h3⟩ := shift_core r he.os he.tape he.output he.size (fun b hb => he.keep b hb own_nil) (fun b hb => (he.own b hb).elim (fun x => absurd x own_nil) id) r0' (fun b hb => .inl hb) (fun b hb => hb.imp id fun x => x.2)
  exact ⟨cv, _, _, _, _, rfl, hqq, h1, h2, h3 _ _ (hvr.lean hl1)⟩

/-- What is told of an own value once nobody writes it any more, and nothing of it lies elsewhere. -/
inductive OFz (h : Heap) : AV → AV → Prop
  | flat (u : AV) : u.flat = true → OFz h u u
  | nils (k : Nat) : OFz h .nils (.isl k [])
  | osl (id k i len cap : Nat) (ex ex' : Bool) (es : List (List AV)) : h[id]? = some (.arr k es ex') → i + len ≤ es.length → (∀ e, e ∈ es → flats e = true) → OFz h (.osl id k i len cap ex) (.isl k ((es.drop i).take len))
  | tup (cs cs' : List AV) : cs'.length = cs.length → (∀ (q : Nat) (u u' : AV), cs[q]? = some u → cs'[q]? = some u' → OFz h u u') → OFz h (.tup cs) (.tup cs')
  | agg (cs cs' : List AV) : cs'.length = cs.length → (∀ (q : Nat) (u u' : AV), cs[q]? = some u → cs'[q]? = some u' → OFz h u u') → OFz h (.agg cs) (.agg cs')
theorem OFz.two {h : Heap} {u v u' v' : AV} (h1 : OFz h u u') (h2 : OFz h v v') : OFz h (.tup [u, v]) (.tup [u', v']) := by
  refine .tup _ _ rfl fun q x x' hx hx' => ?_
  match q with
  | 0 => simp at hx hx'; subst hx hx'; exact h1
  | 1 => simp at hx hx'; subst hx hx'; exact h2
  | q + 2 => simp at hx
theorem OFz.three {h : Heap} {u v t u' v' t' : AV} (h1 : OFz h u u') (h2 : OFz h v v') (h3 : OFz h t t') : OFz h (.tup [u, v, t]) (.tup [u', v', t']) := by
  refine .tup _ _ rfl fun q x x' hx hx' => ?_
  match q with
  | 0 => simp at hx hx'; subst hx hx'; exact h1
  | 1 => simp at hx hx'; subst hx hx'; exact h2
  | 2 => simp at hx hx'; subst hx hx'; exact h3
  | q + 3 => simp at hx
mutual
theorem flat_pure : ∀ (u : AV), u.flat = true → u.pure = true
  | .agg cs, h => by simpa [AV.pure] using flat_pures cs (by simpa [AV.flat] using h)
  | .tup cs, h => by simpa [AV.pure] using flat_pures cs (by simpa [AV.flat] using h)
  | .int .., _ => rfl
  | .bool _, _ => rfl
  | .str _, _ => rfl
  | .flt .., _ => rfl
  | .nilp, _ => rfl
  | .nils, _ => rfl
  | .nilf, _ => rfl
  | .nili, _ => rfl
  | .nilm, _ => rfl
  | .ip .., h => by simp [AV.flat] at h
  | .isl .., h => by simp [AV.flat] at h
  | .op .., h => by simp [AV.flat] at h
  | .osl .., h => by simp [AV.flat] at h
  | .om _, h => by simp [AV.flat] at h
  | .fn .., h => by simp [AV.flat] at h
  | .ifc .., h => by simp [AV.flat] at h
  | .any, h => by simp [AV.flat] at h
theorem flat_pures : ∀ (l : List AV), flats l = true → pures l = true
  | [], _ => rfl
  | a :: l, h => by
    simp only [flats, pures, Bool.and_eq_true] at h ⊢
    exact ⟨flat_pure a h.1, flat_pures l h.2⟩
end
theorem OFz.rel {I : Nat → Prop} {β : Nat → Nat} {h : Heap} {w : World} (r : Rel I β h w) {u u' : AV} (hf : OFz h u u') : ∀ {v : Value}, VRel I β h.length w u v → IRel (Own h β) w u' v := by
  induction hf with
  | flat u hp => intro v hv; exact (hv.toI (flat_pure u hp)).flat hp
  | nils k => intro v hv; rw [hv.nils_inv]; exact .isl0 k none 0
  | osl id k i len cap ex ex' es hid hle hp =>
    intro v hv
    have h1 := (Frz.flat (cap := cap) (ex := ex) hid hle (fun e he => flat_pures e (hp e he))).rel r hv
    have hp' : ∀ e, e ∈ (es.drop i).take len → flats e = true := fun e he => hp e (List.mem_of_mem_drop (List.mem_of_mem_take he))
    obtain ⟨cc, n, hv2, hidl, _⟩ := hv.osl_inv
    generalize (es.drop i).take len = X at h1 hp'
    cases h1 with
    | isl0 k A c => exact .isl0 k A c
    | isl k es' b o c f hne hl hb hk hc ho hr =>
      simp only [Value.slice.injEq, Option.some.injEq, Addr.mk.injEq] at hv2
      exact .isl k _ b o c f hne hl ⟨id, _, hid, by simp, hv2.1.1.symm⟩ hk hc ho (fun j e q u he hu => (hr j e q u he hu).flat (flats_get (hp' e (List.mem_of_getElem? he)) hu))
  | tup cs cs' hl _ ih =>
    intro v hv
    obtain ⟨vs, rfl, h1, h2⟩ := hv.tup_inv
    refine .tup _ _ (by omega) fun j u' v' hu hv' => ?_
    obtain ⟨u, hu0⟩ := getElem?_lt hl hu
    exact ih j u u' hu0 hu (h2 j u v' hu0 hv')
  | agg cs cs' hl _ ih =>
    intro v hv
    obtain ⟨vs, rfl, h1, h2, h3⟩ := hv.agg_inv
    refine .agg _ _ (by omega) h2 fun j u' v' hu hv' => ?_
    obtain ⟨u, hu0⟩ := getElem?_lt hl hu
    exact ih j u u' hu0 hu (h3 j u v' hu0 hv')

/-- A FRESH ANSWER: what one owns lent to a function; what it hands back lies in memory that nobody writes, and the heap stays. -/
theorem acalls_fresh {f : FuncId} {args args' : List AV} {h : Heap} {R Q : AV → Heap → Prop} (hc : ACalls P f args' [] R) (ha : Frzs h args args') (hq : ∀ u h0, R u h0 → ∃ r, OFz h0 u r ∧ Q r h) : ACalls P f args h Q := by
  refine ⟨hc.1, fun I β w vs r hv => ?_⟩
  have hJ : ∀ b, IO I β h b → b < w.heap.size := by
    rintro b (hb | ⟨id, o, h1, h2, rfl⟩)
    · exact r.imm b hb
    · exact (r.obj id o h1 h2).1
  have hv' : VRels (IO I β h) (fun _ => 0) 0 w args' vs := ⟨by rw [ha.1]; exact hv.1, fun j u' v hu hv' => by
    obtain ⟨u, hu0⟩ := getElem?_lt ha.1 hu
    exact .imm _ _ ((ha.2 j u u' hu0 hu).rel r (hv.2 j u v hu0 hv'))⟩
  refine (hc.2 (IO I β h) (fun _ => 0) w vs ⟨hJ, fun id o h => by simp at h, fun id id' o o' h => by simp at h⟩ hv').mono ?_
  rintro e w' ⟨cv, u, I', β', h0, rfl, hr, he, r0, hvr⟩
  obtain ⟨rr, hz, hqq⟩ := hq _ _ hr
  have hown : ∀ b, Own h0 β' b → w.heap.size ≤ b := fun b hb => (he.own b hb).elim (fun x => absurd x own_nil) id
  have hlt : ∀ b, I b ∨ Own h0 β' b → b < w'.heap.size := fun b hb => by
    rcases hb with hb | ⟨id, o, h1, h2, rfl⟩
    · have := r.imm b hb; have := he.size; omega
    · exact (r0.obj id o h1 h2).1
  obtain ⟨h1, h2⟩ := r.pext (J := I) (I' := fun b => I b ∨ Own h0 β' b) (w' := w') r.imm ⟨he.os, he.tape, he.output, he.size, fun b hb => he.keep b hb own_nil, fun b hb => .inl hb, fun b hb => hb.imp id (hown b), hlt⟩ (fun _ x => x)
  exact ⟨cv, rr, _, β, h, rfl, hqq, h1, h2, .imm _ _ ((hz.rel r0 hvr).mono (fun b hb => .inr ⟨.inr hb, hown b hb⟩) (fun _ _ => rfl))⟩
end
end Go.AL
end

section
/- The small logic holds on: of more, where it holds of less; loops told round by round; cuts. No condition. -/
namespace Go.AL
set_option linter.unusedVariables false
set_option linter.unusedSimpArgs false
section
variable {P : Program} {a : Fr} {h : Heap}
theorem storeK_imp {t : TypeId} {p u : AV} {K K' : Heap → Prop} (hK : ∀ h, K h → K' h) (hk : storeK P t h p u K) : storeK P t h p u K' := by
  cases p with
  | op id k e off => exact cellsK_imp (fun cs ⟨h1, es, ex, h2, c, h3, h4, h5⟩ => ⟨h1, es, ex, h2, c, h3, h4, hK _ h5⟩) hk
  | _ => exact hk.elim
theorem makeSliceK_imp {t : TypeId} {l c : AV} {K K' : AV → Heap → Prop} (hK : ∀ u h, K u h → K' u h) (hk : makeSliceK P t h l c K) : makeSliceK P t h l c K' := by
  cases l with
  | int k l => cases c with
    | int k' c => obtain ⟨e, z, b, h1, h2, h3, h4, h5, h6, h7, h8⟩ := hk; exact ⟨e, z, b, h1, h2, h3, h4, h5, h6, h7, hK _ _ h8⟩
    | _ => exact hk.elim
  | _ => exact hk.elim
theorem elemsK_imp {k : Nat} {x : AV} {K K' : List (List AV) → Prop} (hK : ∀ es, K es → K' es) (hk : elemsK h k x K) : elemsK h k x K' := by
  cases x with
  | nils => exact hK _ hk
  | isl k' es => exact ⟨hk.1, hK _ hk.2⟩
  | osl id k' i len cap ex => obtain ⟨h1, es, ex', h2, h3, h4⟩ := hk; exact ⟨h1, es, ex', h2, h3, hK _ h4⟩
  | _ => exact hk.elim
theorem growK_imp {k b : Nat} {z : List AV} {N : Nat} {g : Heap} {es : List (List AV)} {K K' : AV → Heap → Prop} (hK : ∀ u h, K u h → K' u h) (hk : growK k b z N g es K) : growK k b z N g es K' := by
  unfold growK at hk ⊢
  split
  · rename_i c; rw [if_pos c] at hk; exact fun c h => hK _ _ (hk c h)
  · rename_i c; rw [if_neg c] at hk; exact hK _ _ hk
theorem apK_imp {z : List AV} {b : Nat} {s : AV} {xs : List (List AV)} {K K' : AV → Heap → Prop} (hK : ∀ u h, K u h → K' u h) (hk : apK z b h s xs K) : apK z b h s xs K' := by
  cases s with
  | nils => exact ⟨hk.1, fun e => hK _ _ (hk.2.1 e), fun e => growK_imp hK (hk.2.2 e)⟩
  | osl id k' i len cap ex =>
    obtain ⟨h1, h2, es, ex', h3, h4, h5, h6⟩ := hk
    refine ⟨h1, h2, es, ex', h3, h4, fun e => ⟨(h5 e).1, hK _ _ (h5 e).2⟩, fun e => ?_⟩
    have := h6 e
    cases ex with
    | true => exact growK_imp hK this
    | false => exact ⟨this.1, hK _ _ this.2⟩
  | _ => exact hk.elim
theorem appendK_imp {t t' : TypeId} {s x : AV} {K K' : AV → Heap → Prop} (hK : ∀ u h, K u h → K' u h) (hk : appendK P t t' h s x K) : appendK P t t' h s x K' := by
  rw [appendK_ap] at hk ⊢
  obtain ⟨e, z, b, h1, h2, h3, h4, h5, h6⟩ := hk
  exact ⟨e, z, b, h1, h2, h3, h4, h5, elemsK_imp (fun _ => apK_imp hK) h6⟩
theorem clearK_imp {t : TypeId} {x : AV} {K K' : Heap → Prop} (hK : ∀ h, K h → K' h) (hk : clearK P t h x K) : clearK P t h x K' := by
  cases x with
  | nils => exact ⟨hk.1, hK _ hk.2⟩
  | osl id k i len cap ex => obtain ⟨e, z, h1, h2, h3, es, ex', h4, h5, h6⟩ := hk; exact ⟨e, z, h1, h2, h3, es, ex', h4, h5, hK _ h6⟩
  | _ => exact hk.elim
theorem callK_imp {f : AV} {us : List AV} {K K' : AV → Heap → Prop} (hK : ∀ u h, K u h → K' u h) (hk : callK P f us h K) : callK P f us h K' := by
  cases f with
  | fn g first cap => cases g with
    | func g => exact ACalls.mono' hk hK
    | _ => exact hk.elim
  | _ => exact hk.elim
theorem aop_imp {op : Op} {K K' : AV → Heap → Prop} (hK : ∀ u h, K u h → K' u h) (hk : aop P op a h K) : aop P op a h K' := by
  by_cases hq : quietOp op = true
  · exact aop_quiet hq (fun u => hK u h) hk
  cases op with
  | alloc t => obtain ⟨cs, h1, h2⟩ := hk; exact ⟨cs, h1, hK _ _ h2⟩
  | box t x => simp only [aop] at hk ⊢; exact evK_imp' (fun _ => cellsK_imp fun _ h => hK _ _ h) hk
  | buildSlice t len parts => simp only [aop] at hk ⊢; exact evpK_imp' (fun us ⟨e, z, h1, h2, h3, h4⟩ => ⟨e, z, h1, h2, h3, fillRK_imp (fun _ h => hK _ _ h) h4⟩) hk
  | load t x => simp only [aop] at hk ⊢; exact evK_imp' (fun _ => loadK_imp fun _ h => hK _ _ h) hk
  | store t p x => simp only [aop] at hk ⊢; exact evK_imp' (fun _ => evK_imp' fun _ => storeK_imp fun _ h => hK _ _ h) hk
  | makeSlice t l c => simp only [aop] at hk ⊢; exact evK_imp' (fun _ => evK_imp' fun _ => makeSliceK_imp hK) hk
  | call c =>
    obtain ⟨callee, args, ts⟩ := c
    cases callee with
    | value f => simp only [aop] at hk ⊢; exact evK_imp' (fun _ => evsK_imp' fun _ => callK_imp hK) hk
    | builtin b =>
      cases b with
      | clear =>
        simp only [aop, builtinK] at hk ⊢
        split at hk
        · exact evK_imp' (fun _ => clearK_imp fun h => hK _ h) hk
        · exact hk.elim
      | append =>
        simp only [aop, builtinK] at hk ⊢
        split at hk
        · exact evK_imp' (fun _ => evK_imp' fun _ => appendK_imp hK) hk
        · exact hk.elim
      | _ => first | exact absurd rfl hq | exact hk.elim
    | invoke r m => exact hk.elim
  | _ => first | exact absurd rfl hq | exact hk.elim

variable {n : Nat}
theorem putK_imp {dst : Option Tmp} {v : AV} {K K' : Fr → Prop} (hK : ∀ a, K a → K' a) (hk : putK n dst a v K) : putK n dst a v K' := by
  cases dst with
  | none => exact hK _ hk
  | some d => exact ⟨hk.1, hK _ hk.2⟩
theorem guardK_imp {ops : List Oper} {g : Option (Nat × Bool)} {K K' : Bool → Prop} (hK : ∀ b, K b → K' b) (hk : guardK ops g a K) : guardK ops g a K' := by
  cases g with
  | none => exact hK _ hk
  | some x =>
    obtain ⟨j, want⟩ := x
    simp only [guardK] at hk ⊢
    cases hs : gslot ops j with
    | none => simp [hs] at hk
    | some t =>
      simp only [hs] at hk ⊢
      cases ha : a t with
      | bool b => simp only [ha] at hk ⊢; exact ⟨fun e => hK _ (hk.1 e), fun e => hK _ (hk.2 e)⟩
      | tup l => cases l with
        | nil => simp only [ha] at hk ⊢; exact hK _ hk
        | cons _ _ => simp [ha] at hk
      | _ => simp [ha] at hk
theorem aops_imp {all : List Oper} : ∀ {l : List Oper} {a : Fr} {h : Heap} {K K' : Fr → Heap → Prop}, (∀ a h, K a h → K' a h) → aops P n all l a h K → aops P n all l a h K'
  | [], a, h, K, K', hK, hk => hK _ _ hk
  | o :: l, a, h, K, K', hK, hk => by
    unfold aops at hk ⊢
    refine guardK_imp (fun b hb => ?_) hk
    cases b with
    | true => exact aop_imp (fun u h => putK_imp fun a => aops_imp hK) hb
    | false => exact putK_imp (fun a => aops_imp hK) hb
theorem adr_imp {all : List Oper} : ∀ {pl : Plan} {a : Fr} {h : Heap} {done : List (Nat × Fr × AV)} {K K' : Fr → Heap → Prop}, (∀ a h, K a h → K' a h) → adr P n all pl a h done K → adr P n all pl a h done K'
  | [], a, h, done, K, K', hK, hk => hK _ _ hk
  | (i, keep, rs) :: rest, a, h, done, K, K', hK, hk => by
    unfold adr at hk ⊢
    cases ho : all[i]? with
    | none => rw [ho] at hk; exact hk.elim
    | some o =>
      rw [ho] at hk
      refine guardK_imp (fun b hb => ?_) hk
      cases b with
      | true =>
        simp only at hb ⊢
        cases hp : pureOp o.op with
        | true => rw [hp] at hb; obtain ⟨v, h1, h2⟩ := hb; exact ⟨v, h1, putK_imp (fun a => adr_imp hK) h2⟩
        | false => rw [hp] at hb; exact aop_imp (fun u h ⟨h1, h2⟩ => ⟨h1, putK_imp (fun a => adr_imp hK) h2⟩) hb
      | false => exact putK_imp (fun a => adr_imp hK) hb
theorem adrD_imp {all : List Oper} {pl : Plan} {a : Fr} {h : Heap} {K K' : Fr → Heap → Prop} (hK : ∀ a h, K a h → K' a h) (hk : adrD P n all pl a h K) : adrD P n all pl a h K' := by
  unfold adrD at hk ⊢
  cases ht : twoOf pl with
  | none => rw [ht] at hk; exact adr_imp hK hk
  | some x => obtain ⟨p, t1, t2⟩ := x; rw [ht] at hk; exact adrX_mono (fun a d hh => ⟨adr_imp hK hh.1, adr_imp hK hh.2⟩) _ _ _ hk
variable {pl : Nat → Plan}
theorem thenK_imp {K K' : Fr → Heap → Prop} {Q Q' : Exit → Fr → Heap → Prop} (hK : ∀ a h, K a h → K' a h) (hQ : ∀ e a h, Q e a h → Q' e a h) : ∀ e a h, thenK K Q e a h → thenK K' Q' e a h := fun e a h hk => by
  cases e <;> first | exact hK _ _ hk | exact hQ _ _ _ hk
theorem blockK_imp {id : Nat} {Q Q' : Exit → Fr → Heap → Prop} (hQ : ∀ e a h, Q e a h → Q' e a h) : ∀ e a h, blockK id Q e a h → blockK id Q' e a h := fun e a h hk => by
  cases e with
  | exit j =>
    simp only [blockK] at hk ⊢
    by_cases hj : j = id
    · rw [if_pos hj] at hk ⊢; exact hQ _ _ _ hk
    · rw [if_neg hj] at hk ⊢; exact hQ _ _ _ hk
  | _ => exact hQ _ _ _ hk
theorem asx_imp : ∀ {c : Code} {a : Fr} {h : Heap} {Q Q' : Exit → Fr → Heap → Prop}, (∀ e a h, Q e a h → Q' e a h) → asx P n pl c Q a h → asx P n pl c Q' a h := by
  intro c
  induction c with
  | skip => intro a h Q Q' hQ hk; exact hQ _ _ _ hk
  | region id ops draw =>
    intro a h Q Q' hQ hk
    cases draw with
    | false => exact aops_imp (K := fun a h => Q .normal a h) (K' := fun a h => Q' .normal a h) (fun a h => hQ _ a h) hk
    | true => exact adrD_imp (K := fun a h => Q .normal a h) (K' := fun a h => Q' .normal a h) (fun a h => hQ _ a h) hk
  | seq x y ihx ihy => intro a h Q Q' hQ hk; exact ihx (thenK_imp (fun a h => ihy hQ) hQ) hk
  | cond x t e iht ihe =>
    intro a h Q Q' hQ hk
    refine evK_imp' (fun u hu => ?_) hk
    cases u with
    | bool b => exact ⟨fun e => iht hQ (hu.1 e), fun e => ihe hQ (hu.2 e)⟩
    | _ => exact hu.elim
  | block id c ih => intro a h Q Q' hQ hk; exact ih (blockK_imp hQ) hk
  | loop c ih =>
    intro a h Q Q' hQ hk
    obtain ⟨J, h0, hr⟩ := hk
    exact ⟨J, h0, fun m a1 h1 hj => ih (thenK_imp (fun _ _ x => x) hQ) (hr m a1 h1 hj)⟩
  | exit id => intro a h Q Q' hQ hk; exact hQ _ _ _ hk
  | ret => intro a h Q Q' hQ hk; exact hQ _ _ _ hk
  | label l => intro a h Q Q' hQ hk; exact hQ _ _ _ hk
  | _ => intro a h Q Q' hQ hk; exact hk.elim

/-- A join: what holds ahead of the second part. -/
theorem asx_cut {x y : Code} {Q : Exit → Fr → Heap → Prop} (M : Fr → Heap → Prop) (hx : asx P n pl x (thenK M Q) a h) (hy : ∀ a h, M a h → asx P n pl y Q a h) : asx P n pl (.seq x y) Q a h := by
  unfold asx
  exact asx_imp (thenK_imp hy fun _ _ _ hq => hq) hx

/-- A loop, round by round: at most m of them. -/
def LoopN (P : Program) (n : Nat) (pl : Nat → Plan) (c : Code) (Q : Exit → Fr → Heap → Prop) : Nat → Fr → Heap → Prop
  | 0, _, _ => False
  | m + 1, a, h => asx P n pl c (thenK (LoopN P n pl c Q m) Q) a h
theorem LoopN.loop {c : Code} {Q : Exit → Fr → Heap → Prop} (m : Nat) (hl : LoopN P n pl c Q m a h) : LoopK (asx P n pl c) Q a h := by
  refine LoopK.intro (fun m a h => LoopN P n pl c Q m a h) m hl fun m a1 h1 hj => ?_
  cases m with
  | zero => exact hj.elim
  | succ m => exact asx_imp (thenK_imp (fun a h hk => .inl ⟨m, Nat.lt_succ_self m, hk⟩) fun _ _ _ hq => hq) hj
theorem LoopN_succ {c : Code} {Q : Exit → Fr → Heap → Prop} {m : Nat} : LoopN P n pl c Q (m + 1) a h = asx P n pl c (thenK (LoopN P n pl c Q m) Q) a h := rfl
end
end Go.AL
end

section
/- The small logic's calls, for simp: renamed values and objects; lists of numbers lent. No condition. -/
namespace Go.AL
set_option linter.unusedVariables false
set_option linter.unusedSimpArgs false
def ints (xs : List Int) : AV := .isl 1 (List.map intE xs)
theorem ren_osl {N id k i len cap : Nat} {ex : Bool} : AV.ren (sh N) (.osl id k i len cap ex) = .osl (id + N) k i len cap ex := (rfl)
theorem ren_op {N id k e off : Nat} : AV.ren (sh N) (.op id k e off) = .op (id + N) k e off := (rfl)
theorem ren_int {ρ : Nat → Option Nat} {k : IntKind} {n : Int} : AV.ren ρ (.int k n) = .int k n := (rfl)
theorem ren_bool {ρ : Nat → Option Nat} {b : Bool} : AV.ren ρ (.bool b) = .bool b := (rfl)
theorem ren_nils {ρ : Nat → Option Nat} : AV.ren ρ .nils = .nils := (rfl)
theorem ren_tup {ρ : Nat → Option Nat} {vs : List AV} : AV.ren ρ (.tup vs) = .tup (rens ρ vs) := (rfl)
theorem ren_agg {ρ : Nat → Option Nat} {vs : List AV} : AV.ren ρ (.agg vs) = .agg (rens ρ vs) := (rfl)
theorem ren_isl {ρ : Nat → Option Nat} {k : Nat} {es : List (List AV)} : AV.ren ρ (.isl k es) = .isl k es := (rfl)
theorem rens_nil {ρ : Nat → Option Nat} : rens ρ [] = [] := (rfl)
theorem rens_cons {ρ : Nat → Option Nat} {v : AV} {r : List AV} : rens ρ (v :: r) = v.ren ρ :: rens ρ r := (rfl)
theorem ren_intEs {ρ : Nat → Option Nat} {xs : List Int} {ex : Bool} : Ob.ren ρ (.arr 1 (List.map intE xs) ex) = .arr 1 (List.map intE xs) ex := by
  simp only [Ob.ren, List.map_map]
  congr 1
theorem ren_boolEs {ρ : Nat → Option Nat} {xs : List Bool} {ex : Bool} : Ob.ren ρ (.arr 1 (List.map boolE xs) ex) = .arr 1 (List.map boolE xs) ex := by
  simp only [Ob.ren, List.map_map]
  congr 1
theorem behind_eq {h h0 : Heap} : behind h h0 = h ++ h0.map (Ob.ren (sh h.length)) := (rfl)
theorem map_one {α β : Type} {f : α → β} {x : α} : List.map f [x] = [f x] := (rfl)
theorem lean_intEs {xs : List Int} {ex : Bool} : (Ob.arr 1 (List.map intE xs) ex).lean = true := by
  simp [Ob.lean, leans, intE, AV.lean]
/-- A list of numbers of one's own, lent. -/
theorem frz_ints {h : Heap} {id len cap : Nat} {ex ex' : Bool} {l l' : List Int} (hid : h[id]? = some (.arr 1 (List.map intE l') ex')) (hl : l'.take len = l) (hn : l.length = len) : Frz h (.osl id 1 0 len cap ex) (ints l) := by
  have h1 : len ≤ l'.length := by
    have := congrArg List.length hl
    rw [List.length_take] at this
    omega
  have := Frz.flat (h := h) (id := id) (k := 1) (i := 0) (len := len) (cap := cap) (ex := ex) hid (by simpa using h1) (fun e he => by
    obtain ⟨x, _, rfl⟩ := List.mem_map.1 he; rfl)
  rw [List.drop_zero, ← List.map_take, hl] at this
  exact this
theorem frz_isl {h : Heap} {l : List Int} : Frz h (.isl 1 (List.map intE l)) (ints l) := .pure _ rfl
theorem ofz_ints {h : Heap} {id len cap : Nat} {ex ex' : Bool} {l : List Int} (hid : h[id]? = some (.arr 1 (List.map intE l) ex')) (hl : len = l.length) : OFz h (.osl id 1 0 len cap ex) (ints l) := by
  have := OFz.osl (h := h) id 1 0 len cap ex ex' (List.map intE l) hid (by simp; omega) (fun e he => by
    obtain ⟨x, _, rfl⟩ := List.mem_map.1 he; rfl)
  rw [List.drop_zero, List.take_of_length_le (by simp; omega)] at this
  exact this
end Go.AL
end

section
/- From what the small logic shows of a law to the statement: the arguments as trees, what the call leaves. No condition. -/
namespace Go.Proofs.YtgdlkhgfehclpaaGreat
open Go Go.AL Go.ChangeShapes Go.WideShapes Go.ChangeAt Go.RowKit
set_option linter.unusedVariables false
set_option linter.unusedSimpArgs false
theorem zOwn : ownKnob Tryz.prog.godebug = none := by kernel_rfl
theorem zLaidOut : laidOutB Tryz.prog = true := by kernel_rfl

/-! ### the bound -/
theorem bulk_one {H : Type} (d : DataW H) : 1 ≤ Rows.uptoBulk d := by
  cases d with
  | lit l => cases l <;> simp [Rows.uptoBulk]
  | _ => simp [Rows.uptoBulk]
theorem bulk_len {H : Type} (l : List (DataW H)) : l.length ≤ Rows.uptoBulkAll l := by
  induction l with
  | nil => simp
  | cons x r ih => have := bulk_one x; simp only [Rows.uptoBulkAll, List.length_cons]; omega
theorem bulk_part {H : Type} {d : DataW H} : ∀ {l : List (DataW H)}, d ∈ l → Rows.uptoBulk d ≤ Rows.uptoBulkAll l
  | x :: r, h => by
    simp only [Rows.uptoBulkAll]
    rcases List.mem_cons.1 h with e | e
    · subst e; omega
    · have := bulk_part e; omega
theorem bulk_slice {H : Type} (elems spare : List (DataW H)) : elems.length ≤ Rows.uptoBulk (.slice elems spare) := by
  have h1 := bulk_len elems
  simp only [Rows.uptoBulk]
  omega
theorem bulk_agg {H : Type} (parts : List (DataW H)) : Rows.uptoBulkAll parts ≤ Rows.uptoBulk (.agg parts) := by
  simp only [Rows.uptoBulk]
  omega
theorem bulk_ok {H : Type} {l : List (DataW H)} (hk : Rows.uptoSmall H l = true) : Rows.uptoBulkAll l ≤ 1048576 := by
  simpa [Rows.uptoSmall] using hk

/-! ### the arguments -/
abbrev allOf (W : World) : Nat → Prop := fun b => b < W.heap.size
theorem cell_lt {W : World} {a : Addr} {v : Value} (h : W.cell? a = some v) : a.block < W.heap.size := by
  unfold World.cell? at h
  rcases Nat.lt_or_ge a.block W.heap.size with hlt | hge
  · exact hlt
  · rw [Array.getElem?_eq_none hge] at h
    simp at h
theorem irel_ints {W : World} {a : Addr} {len cap : Nat} {zs : List Int} (hl : len ≤ zs.length) (hc : len ≤ cap) (hcell : ∀ i, i < zs.length → W.cell? (a.add i) = some (.int .i64 (zs.getD i 0))) :
    IRel (allOf W) W (ints (zs.take len)) (.slice (some a) len cap) := by
  rcases Nat.eq_zero_or_pos len with h0 | h0
  · subst h0
    exact .isl0 1 _ _
  · obtain ⟨b, off, rfl, hx⟩ := ints_at hcell (by omega)
    have hlen : (List.map intE (zs.take len)).length = len := by simp; omega
    have key : ∀ (i : Nat) (e : List AV), (List.map intE (zs.take len))[i]? = some e → i < zs.length ∧ e = [AV.int .i64 (zs.getD i 0)] := by
      intro i e hi
      have hlt := (List.getElem?_eq_some_iff.1 hi).1
      rw [hlen] at hlt
      rw [List.getElem?_map, List.getElem?_take, if_pos hlt, List.getElem?_eq_getElem (by omega)] at hi
      simp only [Option.map_some, Option.some.injEq] at hi
      refine ⟨by omega, ?_⟩
      rw [← hi]
      simp [intE, List.getD_eq_getElem?_getD, List.getElem?_eq_getElem (show i < zs.length by omega)]
    have hr := IRel.isl (I := allOf W) (w := W) 1 (List.map intE (zs.take len)) b off cap (fun i _ => .int .i64 (zs.getD i 0)) (by intro e; rw [e] at hlen; simp at hlen; omega) (by rw [hlen]; exact hc) (by have := cell_lt (hx 0 (by omega)); exact this)
      (fun i e hi => by rw [(key i e hi).2]; rfl) (fun i e j u hi hj => by
        obtain ⟨h1, h2⟩ := key i e hi
        subst h2
        have hj0 : j = 0 := by
          have := (List.getElem?_eq_some_iff.1 hj).1
          simp at this
          exact this
        subst hj0
        rw [show off + (i * 1 + 0) = off + i by omega]
        exact hx i h1) (fun i e j u hi hj => rfl) (fun i e j u hi hj => by
        obtain ⟨h1, h2⟩ := key i e hi
        subst h2
        have hj0 : j = 0 := by
          have := (List.getElem?_eq_some_iff.1 hj).1
          simp at this
          exact this
        subst hj0
        simp at hj
        rw [← hj]
        exact .int _ _)
    rw [hlen] at hr
    exact hr
/-- An argument that is a list of numbers. -/
theorem open_list {H : Type} {enc : TypeId × Value → H} {W : World} {t e : TypeId} {fuel : Nat} {v : Value} {d : DataW H} {p : List MemPlace} (ht : Tryz.prog.underlying t = some (.slice e)) (he : Tryz.prog.underlying e = some (.int .i64)) (hc : Tryz.prog.cellsOf e = 1)
    (hv : ∃ a len cap, v = .slice a len cap) (h : DataW.trod enc Tryz.prog W 0 (fun _ => true) true fuel t v.cells.toList = some (d, p)) : ∃ xs : List Int, IRel (allOf W) W (ints xs) v ∧ xs.length ≤ Rows.uptoBulk d := by
  obtain ⟨a0, len0, cap0, rfl⟩ := hv
  rcases open_ints ht he hc h with ⟨hcs, hx⟩ | ⟨a, len, cap, zs, hcs, _, hl, hm, hz, hx, hcell, _⟩
  · simp [Value.cells] at hcs
    obtain ⟨rfl, rfl, rfl⟩ := hcs
    exact ⟨[], .isl0 1 _ _, by simp⟩
  · simp [Value.cells] at hcs
    obtain ⟨rfl, rfl, rfl⟩ := hcs
    simp only [Prod.mk.injEq] at hx
    obtain ⟨rfl, _⟩ := hx
    simp only [if_true] at hz
    refine ⟨zs.take len0, irel_ints (by omega) hl hcell, ?_⟩
    refine Nat.le_trans ?_ (bulk_slice _ _)
    simp [lits]

/-! ### the call -/
theorem calls_true {f : FuncId} {us : List AV} {vs : List Value} {W : World} (hc : ACalls Tryz.prog f us [] fun v h => OFz h v (.bool true)) (hl : vs.length = us.length) (hv : ∀ (j : Nat) (u : AV) (v : Value), us[j]? = some u → vs[j]? = some v → IRel (allOf W) W u v) :
    Calls Tryz.prog f vs.toArray W fun e W' => e = .returned (.bool true) ∧ Below W.heap.size W W' := by
  refine (hc.2 (allOf W) (fun _ => 0) W vs ⟨fun b hb => hb, fun id o h => by simp at h, fun id id' o o' h => by simp at h⟩ ⟨hl.symm, fun j u v hu hv' => .imm _ _ (hv j u v hu hv')⟩).mono ?_
  rintro e w' ⟨cv, u, I', β', h', rfl, hq, hE, hR, hv'⟩
  refine ⟨?_, ⟨hE.os, hE.tape, hE.output, hE.size, fun k hk => hE.keep k hk (fun ⟨id, o, h1, _⟩ => by simp at h1)⟩⟩
  have hu : u = .bool true := by
    cases hq
    rfl
  subst hu
  cases hv' with
  | imm _ _ hi => cases hi; rfl
theorem trodAll_stays {H : Type} {enc : TypeId × Value → H} {W W' : World} {sp : Nat → Bool} (hb : Below W.heap.size W W') : ∀ {ts : List TypeId} {vs : List Value} {ds : List (DataW H)} {ps : List MemPlace}, (∀ t ∈ ts, Tryz.prog.readableRec t = true ∧ t < Tryz.prog.types.size) →
    DataW.TrodAll enc Tryz.prog W 0 (fun _ => true) true ts vs ds ps → (∀ x ∈ ps, x.block < W.heap.size) → (∀ x ∈ ps, sp x.block = true) → DataW.TrodAll enc Tryz.prog W' 0 sp true ts vs ds ps
  | [], [], [], _, _, h, _, _ => h
  | _ :: _, _ :: _, _ :: _, _, hT, ⟨p, q, h1, h2, e⟩, hlt, hs => by
    subst e
    exact ⟨p, q, WideElems.Trod_stays zLaidOut (hT _ List.mem_cons_self).1 (hT _ List.mem_cons_self).2 h1 (fun x hx => hb.same (hlt x (List.mem_append_left _ hx))) (fun x hx => hs x (List.mem_append_left _ hx)),
      trodAll_stays hb (fun t ht => hT t (List.mem_cons_of_mem _ ht)) h2 (fun x hx => hlt x (List.mem_append_right _ hx)) (fun x hx => hs x (List.mem_append_right _ hx)), rfl⟩
/-- 'post' of a law that came out true and wrote nothing of what was there. -/
theorem post_true {H : Type} {enc : TypeId × Value → H} {f : Func} {s : ChangeSpec} {W W' : World} {args : Array Value} {ds : List (DataW H)} {p : List MemPlace} (hW : DataW.Whole enc Tryz.prog f.params.toList s.vars false W args.toList ds [] (p ++ []))
    (hA : DataW.TrodAll enc Tryz.prog W 0 (fun _ => true) true f.params.toList args.toList ds p) (hT : ∀ t ∈ f.params.toList, Tryz.prog.readableRec t = true ∧ t < Tryz.prog.types.size) (hr : f.resultTypes = #[4]) (hs : s.fn H (ds ++ []) = { results := [.lit (.bool true)], args := ds }) (hv : s.vars = [])
    (hb : Below W.heap.size W W') : s.post enc Tryz.prog f false true false false W args (.bool true) W' := by
  have hlt : ∀ x ∈ p, x.block < W.heap.size := fun x hx => hW.lt x (List.mem_append_left _ hx)
  refine ⟨ds, [], p ++ [], [], p, [], hW, ?_, ?_, ?_, ?_, fun h => by cases h⟩
  · rw [hr, hs]
    exact trodAll_cons_mk (shut_bool Tryz.underlying4 _) trodAll_mk0
  · rw [hs]
    exact trodAll_stays hb hT hA hlt (fun x hx => by simpa using hlt x hx)
  · rw [hs, hv]
    rfl
  · exact hb.frame _
end Go.Proofs.YtgdlkhgfehclpaaGreat
end

section
/- What the program's types are, for the small logic: read off the loaded program by the kernel. By a program (gen.py). No condition. -/
namespace Go.Proofs.YtgdlkhgfehclpaaGreat
open Go.AL

theorem mixed : Tryz.prog.follows .mixedOrders = true := by kernel_rfl
theorem ft2 : tsize Tryz.prog 2 = some 1 ∧ tbytes Tryz.prog 2 = some 8 ∧ tagg Tryz.prog 2 = some false ∧ zcells Tryz.prog 2 = some [AV.int .i64 0] ∧ telem Tryz.prog 2 = none ∧ tint Tryz.prog 2 = some .i64 ∧ tnotIface Tryz.prog 2 = true := ⟨by kernel_rfl, by kernel_rfl, by kernel_rfl, by kernel_rfl, by kernel_rfl, by kernel_rfl, by kernel_rfl⟩
theorem ft3 : tsize Tryz.prog 3 = some 1 ∧ tbytes Tryz.prog 3 = some 8 ∧ tagg Tryz.prog 3 = some false ∧ zcells Tryz.prog 3 = some [AV.int .i64 0] ∧ telem Tryz.prog 3 = none ∧ tint Tryz.prog 3 = some .i64 ∧ tnotIface Tryz.prog 3 = true := ⟨by kernel_rfl, by kernel_rfl, by kernel_rfl, by kernel_rfl, by kernel_rfl, by kernel_rfl, by kernel_rfl⟩
theorem ft4 : tsize Tryz.prog 4 = some 1 ∧ tbytes Tryz.prog 4 = some 1 ∧ tagg Tryz.prog 4 = some false ∧ zcells Tryz.prog 4 = some [AV.bool false] ∧ telem Tryz.prog 4 = none ∧ tbool Tryz.prog 4 = true ∧ tnotIface Tryz.prog 4 = true := ⟨by kernel_rfl, by kernel_rfl, by kernel_rfl, by kernel_rfl, by kernel_rfl, by kernel_rfl, by kernel_rfl⟩
theorem ft5 : tsize Tryz.prog 5 = some 1 ∧ tbytes Tryz.prog 5 = some 1 ∧ tagg Tryz.prog 5 = some false ∧ zcells Tryz.prog 5 = some [AV.int .u8 0] ∧ telem Tryz.prog 5 = none ∧ tint Tryz.prog 5 = some .u8 ∧ tnotIface Tryz.prog 5 = true := ⟨by kernel_rfl, by kernel_rfl, by kernel_rfl, by kernel_rfl, by kernel_rfl, by kernel_rfl, by kernel_rfl⟩
theorem ft6 : tsize Tryz.prog 6 = some 1 ∧ tbytes Tryz.prog 6 = some 1 ∧ tagg Tryz.prog 6 = some false ∧ zcells Tryz.prog 6 = some [AV.int .u8 0] ∧ telem Tryz.prog 6 = none ∧ tint Tryz.prog 6 = some .u8 ∧ tnotIface Tryz.prog 6 = true := ⟨by kernel_rfl, by kernel_rfl, by kernel_rfl, by kernel_rfl, by kernel_rfl, by kernel_rfl, by kernel_rfl⟩
theorem ft7 : tsize Tryz.prog 7 = some 4 ∧ tbytes Tryz.prog 7 = some 24 ∧ tagg Tryz.prog 7 = some true ∧ zcells Tryz.prog 7 = some [AV.int .i64 0, AV.int .i64 0, AV.bool false, AV.int .u8 0] ∧ telem Tryz.prog 7 = none ∧ tnotIface Tryz.prog 7 = true ∧ foff Tryz.prog 7 0 = some (0, 2) ∧ foff Tryz.prog 7 1 = some (1, 3) ∧ foff Tryz.prog 7 2 = some (2, 4) ∧ foff Tryz.prog 7 3 = some (3, 6) ∧ fplaces Tryz.prog 7 = some [(0, 1), (1, 1), (2, 1), (3, 1)] := ⟨by kernel_rfl, by kernel_rfl, by kernel_rfl, by kernel_rfl, by kernel_rfl, by kernel_rfl, by kernel_rfl, by kernel_rfl, by kernel_rfl, by kernel_rfl, by kernel_rfl⟩
theorem ft8 : tsize Tryz.prog 8 = some 4 ∧ tbytes Tryz.prog 8 = some 24 ∧ tagg Tryz.prog 8 = some true ∧ zcells Tryz.prog 8 = some [AV.int .i64 0, AV.int .i64 0, AV.bool false, AV.int .u8 0] ∧ telem Tryz.prog 8 = none ∧ tnotIface Tryz.prog 8 = true ∧ foff Tryz.prog 8 0 = some (0, 2) ∧ foff Tryz.prog 8 1 = some (1, 3) ∧ foff Tryz.prog 8 2 = some (2, 4) ∧ foff Tryz.prog 8 3 = some (3, 6) ∧ fplaces Tryz.prog 8 = some [(0, 1), (1, 1), (2, 1), (3, 1)] := ⟨by kernel_rfl, by kernel_rfl, by kernel_rfl, by kernel_rfl, by kernel_rfl, by kernel_rfl, by kernel_rfl, by kernel_rfl, by kernel_rfl, by kernel_rfl, by kernel_rfl⟩
theorem ft9 : tsize Tryz.prog 9 = some 1 ∧ tbytes Tryz.prog 9 = some 16 ∧ tagg Tryz.prog 9 = some false ∧ zcells Tryz.prog 9 = some [AV.str ⟨#[]⟩] ∧ telem Tryz.prog 9 = none ∧ tstring Tryz.prog 9 = true ∧ tnotIface Tryz.prog 9 = true := ⟨by kernel_rfl, by kernel_rfl, by kernel_rfl, by kernel_rfl, by kernel_rfl, by kernel_rfl, by kernel_rfl⟩
theorem ft10 : tsize Tryz.prog 10 = some 1 ∧ tbytes Tryz.prog 10 = some 16 ∧ tagg Tryz.prog 10 = some false ∧ zcells Tryz.prog 10 = some [AV.str ⟨#[]⟩] ∧ telem Tryz.prog 10 = none ∧ tstring Tryz.prog 10 = true ∧ tnotIface Tryz.prog 10 = true := ⟨by kernel_rfl, by kernel_rfl, by kernel_rfl, by kernel_rfl, by kernel_rfl, by kernel_rfl, by kernel_rfl⟩
theorem ft11 : tsize Tryz.prog 11 = some 1 ∧ tbytes Tryz.prog 11 = some 16 ∧ tagg Tryz.prog 11 = some false ∧ zcells Tryz.prog 11 = some [AV.str ⟨#[]⟩] ∧ telem Tryz.prog 11 = none ∧ tstring Tryz.prog 11 = true ∧ tnotIface Tryz.prog 11 = true := ⟨by kernel_rfl, by kernel_rfl, by kernel_rfl, by kernel_rfl, by kernel_rfl, by kernel_rfl, by kernel_rfl⟩
theorem ft12 : tsize Tryz.prog 12 = some 1 ∧ tbytes Tryz.prog 12 = some 8 ∧ tagg Tryz.prog 12 = some false ∧ zcells Tryz.prog 12 = some [AV.int .u64 0] ∧ telem Tryz.prog 12 = none ∧ tint Tryz.prog 12 = some .u64 ∧ tnotIface Tryz.prog 12 = true := ⟨by kernel_rfl, by kernel_rfl, by kernel_rfl, by kernel_rfl, by kernel_rfl, by kernel_rfl, by kernel_rfl⟩
theorem ft13 : tsize Tryz.prog 13 = some 2 ∧ tbytes Tryz.prog 13 = some 24 ∧ tagg Tryz.prog 13 = some true ∧ zcells Tryz.prog 13 = some [AV.str ⟨#[]⟩, AV.int .u64 0] ∧ telem Tryz.prog 13 = none ∧ tnotIface Tryz.prog 13 = true ∧ foff Tryz.prog 13 0 = some (0, 9) ∧ foff Tryz.prog 13 1 = some (1, 12) ∧ fplaces Tryz.prog 13 = some [(0, 1), (1, 1)] := ⟨by kernel_rfl, by kernel_rfl, by kernel_rfl, by kernel_rfl, by kernel_rfl, by kernel_rfl, by kernel_rfl, by kernel_rfl, by kernel_rfl⟩
theorem ft14 : tsize Tryz.prog 14 = some 2 ∧ tbytes Tryz.prog 14 = some 24 ∧ tagg Tryz.prog 14 = some true ∧ zcells Tryz.prog 14 = some [AV.str ⟨#[]⟩, AV.int .u64 0] ∧ telem Tryz.prog 14 = none ∧ tnotIface Tryz.prog 14 = true ∧ foff Tryz.prog 14 0 = some (0, 9) ∧ foff Tryz.prog 14 1 = some (1, 12) ∧ fplaces Tryz.prog 14 = some [(0, 1), (1, 1)] := ⟨by kernel_rfl, by kernel_rfl, by kernel_rfl, by kernel_rfl, by kernel_rfl, by kernel_rfl, by kernel_rfl, by kernel_rfl, by kernel_rfl⟩
theorem ft15 : tsize Tryz.prog 15 = some 1 ∧ tbytes Tryz.prog 15 = some 8 ∧ tagg Tryz.prog 15 = some false ∧ zcells Tryz.prog 15 = some [AV.nilp] ∧ telem Tryz.prog 15 = none ∧ tptr Tryz.prog 15 = true ∧ tnotIface Tryz.prog 15 = true := ⟨by kernel_rfl, by kernel_rfl, by kernel_rfl, by kernel_rfl, by kernel_rfl, by kernel_rfl, by kernel_rfl⟩
theorem ft16 : tsize Tryz.prog 16 = some 1 ∧ tbytes Tryz.prog 16 = some 8 ∧ tagg Tryz.prog 16 = some false ∧ zcells Tryz.prog 16 = some [AV.nilp] ∧ telem Tryz.prog 16 = none ∧ tptr Tryz.prog 16 = true ∧ tnotIface Tryz.prog 16 = true := ⟨by kernel_rfl, by kernel_rfl, by kernel_rfl, by kernel_rfl, by kernel_rfl, by kernel_rfl, by kernel_rfl⟩
theorem ft17 : tsize Tryz.prog 17 = some 1 ∧ tbytes Tryz.prog 17 = some 8 ∧ tagg Tryz.prog 17 = some false ∧ zcells Tryz.prog 17 = some [AV.nilp] ∧ telem Tryz.prog 17 = none ∧ tptr Tryz.prog 17 = true ∧ tnotIface Tryz.prog 17 = true := ⟨by kernel_rfl, by kernel_rfl, by kernel_rfl, by kernel_rfl, by kernel_rfl, by kernel_rfl, by kernel_rfl⟩
theorem ft18 : tsize Tryz.prog 18 = some 1 ∧ tbytes Tryz.prog 18 = some 8 ∧ tagg Tryz.prog 18 = some true ∧ zcells Tryz.prog 18 = some [AV.nilp] ∧ telem Tryz.prog 18 = none ∧ tnotIface Tryz.prog 18 = true ∧ foff Tryz.prog 18 0 = some (0, 17) ∧ fplaces Tryz.prog 18 = some [(0, 1)] := ⟨by kernel_rfl, by kernel_rfl, by kernel_rfl, by kernel_rfl, by kernel_rfl, by kernel_rfl, by kernel_rfl, by kernel_rfl⟩
theorem ft19 : tsize Tryz.prog 19 = some 1 ∧ tbytes Tryz.prog 19 = some 8 ∧ tagg Tryz.prog 19 = some true ∧ zcells Tryz.prog 19 = some [AV.nilp] ∧ telem Tryz.prog 19 = none ∧ tnotIface Tryz.prog 19 = true ∧ foff Tryz.prog 19 0 = some (0, 17) ∧ fplaces Tryz.prog 19 = some [(0, 1)] := ⟨by kernel_rfl, by kernel_rfl, by kernel_rfl, by kernel_rfl, by kernel_rfl, by kernel_rfl, by kernel_rfl, by kernel_rfl⟩
theorem ft22 : tsize Tryz.prog 22 = some 1 ∧ tbytes Tryz.prog 22 = some 24 ∧ tagg Tryz.prog 22 = some false ∧ zcells Tryz.prog 22 = some [AV.nils] ∧ telem Tryz.prog 22 = some 3 ∧ tnotIface Tryz.prog 22 = true := ⟨by kernel_rfl, by kernel_rfl, by kernel_rfl, by kernel_rfl, by kernel_rfl, by kernel_rfl⟩
theorem ft24 : tsize Tryz.prog 24 = some 4 ∧ tbytes Tryz.prog 24 = some 64 ∧ tagg Tryz.prog 24 = some true ∧ zcells Tryz.prog 24 = some [AV.int .i64 0, AV.int .i64 0, AV.nils, AV.nils] ∧ telem Tryz.prog 24 = none ∧ tnotIface Tryz.prog 24 = true ∧ foff Tryz.prog 24 0 = some (0, 3) ∧ foff Tryz.prog 24 1 = some (1, 3) ∧ foff Tryz.prog 24 2 = some (2, 22) ∧ foff Tryz.prog 24 3 = some (3, 22) ∧ fplaces Tryz.prog 24 = some [(0, 1), (1, 1), (2, 1), (3, 1)] := ⟨by kernel_rfl, by kernel_rfl, by kernel_rfl, by kernel_rfl, by kernel_rfl, by kernel_rfl, by kernel_rfl, by kernel_rfl, by kernel_rfl, by kernel_rfl, by kernel_rfl⟩
theorem ft25 : tsize Tryz.prog 25 = some 1 ∧ tbytes Tryz.prog 25 = some 8 ∧ tagg Tryz.prog 25 = some false ∧ zcells Tryz.prog 25 = some [AV.nilp] ∧ telem Tryz.prog 25 = none ∧ tptr Tryz.prog 25 = true ∧ tnotIface Tryz.prog 25 = true := ⟨by kernel_rfl, by kernel_rfl, by kernel_rfl, by kernel_rfl, by kernel_rfl, by kernel_rfl, by kernel_rfl⟩
theorem ft26 : tsize Tryz.prog 26 = some 1 ∧ tbytes Tryz.prog 26 = some 24 ∧ tagg Tryz.prog 26 = some false ∧ zcells Tryz.prog 26 = some [AV.nils] ∧ telem Tryz.prog 26 = some 73 ∧ tnotIface Tryz.prog 26 = true := ⟨by kernel_rfl, by kernel_rfl, by kernel_rfl, by kernel_rfl, by kernel_rfl, by kernel_rfl⟩
theorem ft27 : tsize Tryz.prog 27 = some 1 ∧ tbytes Tryz.prog 27 = some 24 ∧ tagg Tryz.prog 27 = some false ∧ zcells Tryz.prog 27 = some [AV.nils] ∧ telem Tryz.prog 27 = some 75 ∧ tnotIface Tryz.prog 27 = true := ⟨by kernel_rfl, by kernel_rfl, by kernel_rfl, by kernel_rfl, by kernel_rfl, by kernel_rfl⟩
theorem ft28 : tsize Tryz.prog 28 = some 1 ∧ tbytes Tryz.prog 28 = some 24 ∧ tagg Tryz.prog 28 = some false ∧ zcells Tryz.prog 28 = some [AV.nils] ∧ telem Tryz.prog 28 = some 22 ∧ tnotIface Tryz.prog 28 = true := ⟨by kernel_rfl, by kernel_rfl, by kernel_rfl, by kernel_rfl, by kernel_rfl, by kernel_rfl⟩
theorem ft29 : tsize Tryz.prog 29 = some 1 ∧ tbytes Tryz.prog 29 = some 24 ∧ tagg Tryz.prog 29 = some false ∧ zcells Tryz.prog 29 = some [AV.nils] ∧ telem Tryz.prog 29 = some 78 ∧ tnotIface Tryz.prog 29 = true := ⟨by kernel_rfl, by kernel_rfl, by kernel_rfl, by kernel_rfl, by kernel_rfl, by kernel_rfl⟩
theorem ft30 : tsize Tryz.prog 30 = some 1 ∧ tbytes Tryz.prog 30 = some 24 ∧ tagg Tryz.prog 30 = some false ∧ zcells Tryz.prog 30 = some [AV.nils] ∧ telem Tryz.prog 30 = some 80 ∧ tnotIface Tryz.prog 30 = true := ⟨by kernel_rfl, by kernel_rfl, by kernel_rfl, by kernel_rfl, by kernel_rfl, by kernel_rfl⟩
theorem ft31 : tsize Tryz.prog 31 = some 1 ∧ tbytes Tryz.prog 31 = some 24 ∧ tagg Tryz.prog 31 = some false ∧ zcells Tryz.prog 31 = some [AV.nils] ∧ telem Tryz.prog 31 = some 30 ∧ tnotIface Tryz.prog 31 = true := ⟨by kernel_rfl, by kernel_rfl, by kernel_rfl, by kernel_rfl, by kernel_rfl, by kernel_rfl⟩
theorem ft32 : tsize Tryz.prog 32 = some 1 ∧ tbytes Tryz.prog 32 = some 24 ∧ tagg Tryz.prog 32 = some false ∧ zcells Tryz.prog 32 = some [AV.nils] ∧ telem Tryz.prog 32 = some 103 ∧ tnotIface Tryz.prog 32 = true := ⟨by kernel_rfl, by kernel_rfl, by kernel_rfl, by kernel_rfl, by kernel_rfl, by kernel_rfl⟩
theorem ft33 : tsize Tryz.prog 33 = some 1 ∧ tbytes Tryz.prog 33 = some 24 ∧ tagg Tryz.prog 33 = some false ∧ zcells Tryz.prog 33 = some [AV.nils] ∧ telem Tryz.prog 33 = some 106 ∧ tnotIface Tryz.prog 33 = true := ⟨by kernel_rfl, by kernel_rfl, by kernel_rfl, by kernel_rfl, by kernel_rfl, by kernel_rfl⟩
theorem ft34 : tsize Tryz.prog 34 = some 1 ∧ tbytes Tryz.prog 34 = some 24 ∧ tagg Tryz.prog 34 = some false ∧ zcells Tryz.prog 34 = some [AV.nils] ∧ telem Tryz.prog 34 = some 135 ∧ tnotIface Tryz.prog 34 = true := ⟨by kernel_rfl, by kernel_rfl, by kernel_rfl, by kernel_rfl, by kernel_rfl, by kernel_rfl⟩
theorem ft35 : tsize Tryz.prog 35 = some 1 ∧ tbytes Tryz.prog 35 = some 24 ∧ tagg Tryz.prog 35 = some false ∧ zcells Tryz.prog 35 = some [AV.nils] ∧ telem Tryz.prog 35 = some 138 ∧ tnotIface Tryz.prog 35 = true := ⟨by kernel_rfl, by kernel_rfl, by kernel_rfl, by kernel_rfl, by kernel_rfl, by kernel_rfl⟩
theorem ft37 : tsize Tryz.prog 37 = some 20 ∧ tbytes Tryz.prog 37 = some 480 ∧ tagg Tryz.prog 37 = some true ∧ zcells Tryz.prog 37 = some [AV.nils, AV.nils, AV.nils, AV.nils, AV.nils, AV.nils, AV.nils, AV.nils, AV.nils, AV.nils, AV.nils, AV.nils, AV.nils, AV.nils, AV.nils, AV.nils, AV.nils, AV.nils, AV.nils, AV.nils] ∧ telem Tryz.prog 37 = none ∧ tnotIface Tryz.prog 37 = true ∧ foff Tryz.prog 37 0 = some (0, 26) ∧ foff Tryz.prog 37 1 = some (1, 26) ∧ foff Tryz.prog 37 2 = some (2, 27) ∧ foff Tryz.prog 37 3 = some (3, 27) ∧ foff Tryz.prog 37 4 = some (4, 28) ∧ foff Tryz.prog 37 5 = some (5, 28) ∧ foff Tryz.prog 37 6 = some (6, 29) ∧ foff Tryz.prog 37 7 = some (7, 29) ∧ foff Tryz.prog 37 8 = some (8, 30) ∧ foff Tryz.prog 37 9 = some (9, 30) ∧ foff Tryz.prog 37 10 = some (10, 31) ∧ foff Tryz.prog 37 11 = some (11, 31) ∧ foff Tryz.prog 37 12 = some (12, 32) ∧ foff Tryz.prog 37 13 = some (13, 32) ∧ foff Tryz.prog 37 14 = some (14, 33) ∧ foff Tryz.prog 37 15 = some (15, 33) ∧ foff Tryz.prog 37 16 = some (16, 34) ∧ foff Tryz.prog 37 17 = some (17, 34) ∧ foff Tryz.prog 37 18 = some (18, 35) ∧ foff Tryz.prog 37 19 = some (19, 35) ∧ fplaces Tryz.prog 37 = some [(0, 1), (1, 1), (2, 1), (3, 1), (4, 1), (5, 1), (6, 1), (7, 1), (8, 1), (9, 1), (10, 1), (11, 1), (12, 1), (13, 1), (14, 1), (15, 1), (16, 1), (17, 1), (18, 1), (19, 1)] := ⟨by kernel_rfl, by kernel_rfl, by kernel_rfl, by kernel_rfl, by kernel_rfl, by kernel_rfl, by kernel_rfl, by kernel_rfl, by kernel_rfl, by kernel_rfl, by kernel_rfl, by kernel_rfl, by kernel_rfl, by kernel_rfl, by kernel_rfl, by kernel_rfl, by kernel_rfl, by kernel_rfl, by kernel_rfl, by kernel_rfl, by kernel_rfl, by kernel_rfl, by kernel_rfl, by kernel_rfl, by kernel_rfl, by kernel_rfl, by kernel_rfl⟩
theorem ft40 : tsize Tryz.prog 40 = some 1 ∧ tbytes Tryz.prog 40 = some 8 ∧ tagg Tryz.prog 40 = some false ∧ zcells Tryz.prog 40 = some [AV.nilp] ∧ telem Tryz.prog 40 = none ∧ tptr Tryz.prog 40 = true ∧ tnotIface Tryz.prog 40 = true := ⟨by kernel_rfl, by kernel_rfl, by kernel_rfl, by kernel_rfl, by kernel_rfl, by kernel_rfl, by kernel_rfl⟩
theorem ft41 : tsize Tryz.prog 41 = some 1 ∧ tbytes Tryz.prog 41 = some 24 ∧ tagg Tryz.prog 41 = some false ∧ zcells Tryz.prog 41 = some [AV.nils] ∧ telem Tryz.prog 41 = some 96 ∧ tnotIface Tryz.prog 41 = true := ⟨by kernel_rfl, by kernel_rfl, by kernel_rfl, by kernel_rfl, by kernel_rfl, by kernel_rfl⟩
theorem ft42 : tsize Tryz.prog 42 = some 1 ∧ tbytes Tryz.prog 42 = some 24 ∧ tagg Tryz.prog 42 = some false ∧ zcells Tryz.prog 42 = some [AV.nils] ∧ telem Tryz.prog 42 = some 110 ∧ tnotIface Tryz.prog 42 = true := ⟨by kernel_rfl, by kernel_rfl, by kernel_rfl, by kernel_rfl, by kernel_rfl, by kernel_rfl⟩
theorem ft43 : tsize Tryz.prog 43 = some 1 ∧ tbytes Tryz.prog 43 = some 24 ∧ tagg Tryz.prog 43 = some false ∧ zcells Tryz.prog 43 = some [AV.nils] ∧ telem Tryz.prog 43 = some 119 ∧ tnotIface Tryz.prog 43 = true := ⟨by kernel_rfl, by kernel_rfl, by kernel_rfl, by kernel_rfl, by kernel_rfl, by kernel_rfl⟩
theorem ft44 : tsize Tryz.prog 44 = some 1 ∧ tbytes Tryz.prog 44 = some 24 ∧ tagg Tryz.prog 44 = some false ∧ zcells Tryz.prog 44 = some [AV.nils] ∧ telem Tryz.prog 44 = some 113 ∧ tnotIface Tryz.prog 44 = true := ⟨by kernel_rfl, by kernel_rfl, by kernel_rfl, by kernel_rfl, by kernel_rfl, by kernel_rfl⟩
theorem ft45 : tsize Tryz.prog 45 = some 1 ∧ tbytes Tryz.prog 45 = some 24 ∧ tagg Tryz.prog 45 = some false ∧ zcells Tryz.prog 45 = some [AV.nils] ∧ telem Tryz.prog 45 = some 116 ∧ tnotIface Tryz.prog 45 = true := ⟨by kernel_rfl, by kernel_rfl, by kernel_rfl, by kernel_rfl, by kernel_rfl, by kernel_rfl⟩
theorem ft46 : tsize Tryz.prog 46 = some 1 ∧ tbytes Tryz.prog 46 = some 24 ∧ tagg Tryz.prog 46 = some false ∧ zcells Tryz.prog 46 = some [AV.nils] ∧ telem Tryz.prog 46 = some 124 ∧ tnotIface Tryz.prog 46 = true := ⟨by kernel_rfl, by kernel_rfl, by kernel_rfl, by kernel_rfl, by kernel_rfl, by kernel_rfl⟩
theorem ft48 : tsize Tryz.prog 48 = some 14 ∧ tbytes Tryz.prog 48 = some 336 ∧ tagg Tryz.prog 48 = some true ∧ zcells Tryz.prog 48 = some [AV.nils, AV.nils, AV.nils, AV.nils, AV.nils, AV.nils, AV.nils, AV.nils, AV.nils, AV.nils, AV.nils, AV.nils, AV.nils, AV.nils] ∧ telem Tryz.prog 48 = none ∧ tnotIface Tryz.prog 48 = true ∧ foff Tryz.prog 48 0 = some (0, 26) ∧ foff Tryz.prog 48 1 = some (1, 27) ∧ foff Tryz.prog 48 2 = some (2, 28) ∧ foff Tryz.prog 48 3 = some (3, 41) ∧ foff Tryz.prog 48 4 = some (4, 29) ∧ foff Tryz.prog 48 5 = some (5, 30) ∧ foff Tryz.prog 48 6 = some (6, 31) ∧ foff Tryz.prog 48 7 = some (7, 32) ∧ foff Tryz.prog 48 8 = some (8, 33) ∧ foff Tryz.prog 48 9 = some (9, 42) ∧ foff Tryz.prog 48 10 = some (10, 43) ∧ foff Tryz.prog 48 11 = some (11, 44) ∧ foff Tryz.prog 48 12 = some (12, 45) ∧ foff Tryz.prog 48 13 = some (13, 46) ∧ fplaces Tryz.prog 48 = some [(0, 1), (1, 1), (2, 1), (3, 1), (4, 1), (5, 1), (6, 1), (7, 1), (8, 1), (9, 1), (10, 1), (11, 1), (12, 1), (13, 1)] := ⟨by kernel_rfl, by kernel_rfl, by kernel_rfl, by kernel_rfl, by kernel_rfl, by kernel_rfl, by kernel_rfl, by kernel_rfl, by kernel_rfl, by kernel_rfl, by kernel_rfl, by kernel_rfl, by kernel_rfl, by kernel_rfl, by kernel_rfl, by kernel_rfl, by kernel_rfl, by kernel_rfl, by kernel_rfl, by kernel_rfl, by kernel_rfl⟩
theorem ft49 : tsize Tryz.prog 49 = some 1 ∧ tbytes Tryz.prog 49 = some 8 ∧ tagg Tryz.prog 49 = some false ∧ zcells Tryz.prog 49 = some [AV.int .i64 0] ∧ telem Tryz.prog 49 = none ∧ tint Tryz.prog 49 = some .i64 ∧ tnotIface Tryz.prog 49 = true := ⟨by kernel_rfl, by kernel_rfl, by kernel_rfl, by kernel_rfl, by kernel_rfl, by kernel_rfl, by kernel_rfl⟩
theorem ft50 : tsize Tryz.prog 50 = some 1 ∧ tbytes Tryz.prog 50 = some 8 ∧ tagg Tryz.prog 50 = some false ∧ zcells Tryz.prog 50 = some [AV.int .i64 0] ∧ telem Tryz.prog 50 = none ∧ tint Tryz.prog 50 = some .i64 ∧ tnotIface Tryz.prog 50 = true := ⟨by kernel_rfl, by kernel_rfl, by kernel_rfl, by kernel_rfl, by kernel_rfl, by kernel_rfl, by kernel_rfl⟩
theorem ft65 : tsize Tryz.prog 65 = some 1 ∧ tbytes Tryz.prog 65 = some 8 ∧ tagg Tryz.prog 65 = some true ∧ zcells Tryz.prog 65 = some [AV.nilf] ∧ telem Tryz.prog 65 = none ∧ tnotIface Tryz.prog 65 = true ∧ foff Tryz.prog 65 0 = some (0, 63) ∧ fplaces Tryz.prog 65 = some [(0, 1)] := ⟨by kernel_rfl, by kernel_rfl, by kernel_rfl, by kernel_rfl, by kernel_rfl, by kernel_rfl, by kernel_rfl, by kernel_rfl⟩
theorem ft66 : tsize Tryz.prog 66 = some 6 ∧ tbytes Tryz.prog 66 = some 48 ∧ tagg Tryz.prog 66 = some true ∧ zcells Tryz.prog 66 = some [AV.nilf, AV.nilf, AV.nilf, AV.nilf, AV.nilf, AV.nilf] ∧ telem Tryz.prog 66 = none ∧ tarr Tryz.prog 66 = some (6, 65) ∧ tnotIface Tryz.prog 66 = true := ⟨by kernel_rfl, by kernel_rfl, by kernel_rfl, by kernel_rfl, by kernel_rfl, by kernel_rfl, by kernel_rfl⟩
theorem ft73 : tsize Tryz.prog 73 = some 1 ∧ tbytes Tryz.prog 73 = some 24 ∧ tagg Tryz.prog 73 = some false ∧ zcells Tryz.prog 73 = some [AV.nils] ∧ telem Tryz.prog 73 = some 93 ∧ tnotIface Tryz.prog 73 = true := ⟨by kernel_rfl, by kernel_rfl, by kernel_rfl, by kernel_rfl, by kernel_rfl, by kernel_rfl⟩
theorem ft75 : tsize Tryz.prog 75 = some 1 ∧ tbytes Tryz.prog 75 = some 24 ∧ tagg Tryz.prog 75 = some false ∧ zcells Tryz.prog 75 = some [AV.nils] ∧ telem Tryz.prog 75 = some 95 ∧ tnotIface Tryz.prog 75 = true := ⟨by kernel_rfl, by kernel_rfl, by kernel_rfl, by kernel_rfl, by kernel_rfl, by kernel_rfl⟩
theorem ft78 : tsize Tryz.prog 78 = some 1 ∧ tbytes Tryz.prog 78 = some 24 ∧ tagg Tryz.prog 78 = some false ∧ zcells Tryz.prog 78 = some [AV.nils] ∧ telem Tryz.prog 78 = some 9 ∧ tnotIface Tryz.prog 78 = true := ⟨by kernel_rfl, by kernel_rfl, by kernel_rfl, by kernel_rfl, by kernel_rfl, by kernel_rfl⟩
theorem ft80 : tsize Tryz.prog 80 = some 1 ∧ tbytes Tryz.prog 80 = some 24 ∧ tagg Tryz.prog 80 = some false ∧ zcells Tryz.prog 80 = some [AV.nils] ∧ telem Tryz.prog 80 = some 100 ∧ tnotIface Tryz.prog 80 = true := ⟨by kernel_rfl, by kernel_rfl, by kernel_rfl, by kernel_rfl, by kernel_rfl, by kernel_rfl⟩
theorem ft88 : tsize Tryz.prog 88 = some 128 ∧ tbytes Tryz.prog 88 = some 128 ∧ tagg Tryz.prog 88 = some true ∧ zcells Tryz.prog 88 = some (List.map AV.bool (List.replicate 128 false)) ∧ telem Tryz.prog 88 = none ∧ tarr Tryz.prog 88 = some (128, 4) ∧ tnotIface Tryz.prog 88 = true := ⟨by kernel_rfl, by kernel_rfl, by kernel_rfl, by kernel_rfl, by kernel_rfl, by kernel_rfl, by kernel_rfl⟩
theorem ft93 : tsize Tryz.prog 93 = some 1 ∧ tbytes Tryz.prog 93 = some 4 ∧ tagg Tryz.prog 93 = some false ∧ zcells Tryz.prog 93 = some [AV.int .u32 0] ∧ telem Tryz.prog 93 = none ∧ tint Tryz.prog 93 = some .u32 ∧ tnotIface Tryz.prog 93 = true := ⟨by kernel_rfl, by kernel_rfl, by kernel_rfl, by kernel_rfl, by kernel_rfl, by kernel_rfl, by kernel_rfl⟩
theorem ft95 : tsize Tryz.prog 95 = some 1 ∧ tbytes Tryz.prog 95 = some 8 ∧ tagg Tryz.prog 95 = some false ∧ zcells Tryz.prog 95 = some [AV.int .u64 0] ∧ telem Tryz.prog 95 = none ∧ tint Tryz.prog 95 = some .u64 ∧ tnotIface Tryz.prog 95 = true := ⟨by kernel_rfl, by kernel_rfl, by kernel_rfl, by kernel_rfl, by kernel_rfl, by kernel_rfl, by kernel_rfl⟩
theorem ft96 : tsize Tryz.prog 96 = some 1 ∧ tbytes Tryz.prog 96 = some 24 ∧ tagg Tryz.prog 96 = some false ∧ zcells Tryz.prog 96 = some [AV.nils] ∧ telem Tryz.prog 96 = some 4 ∧ tnotIface Tryz.prog 96 = true := ⟨by kernel_rfl, by kernel_rfl, by kernel_rfl, by kernel_rfl, by kernel_rfl, by kernel_rfl⟩
theorem ft98 : tsize Tryz.prog 98 = some 1 ∧ tbytes Tryz.prog 98 = some 24 ∧ tagg Tryz.prog 98 = some false ∧ zcells Tryz.prog 98 = some [AV.nils] ∧ telem Tryz.prog 98 = some 93 ∧ tnotIface Tryz.prog 98 = true := ⟨by kernel_rfl, by kernel_rfl, by kernel_rfl, by kernel_rfl, by kernel_rfl, by kernel_rfl⟩
theorem ft100 : tsize Tryz.prog 100 = some 3 ∧ tbytes Tryz.prog 100 = some 56 ∧ tagg Tryz.prog 100 = some true ∧ zcells Tryz.prog 100 = some [AV.bool false, AV.nils, AV.nils] ∧ telem Tryz.prog 100 = none ∧ tnotIface Tryz.prog 100 = true ∧ foff Tryz.prog 100 0 = some (0, 4) ∧ foff Tryz.prog 100 1 = some (1, 98) ∧ foff Tryz.prog 100 2 = some (2, 98) ∧ fplaces Tryz.prog 100 = some [(0, 1), (1, 1), (2, 1)] := ⟨by kernel_rfl, by kernel_rfl, by kernel_rfl, by kernel_rfl, by kernel_rfl, by kernel_rfl, by kernel_rfl, by kernel_rfl, by kernel_rfl, by kernel_rfl⟩
theorem ft103 : tsize Tryz.prog 103 = some 1 ∧ tbytes Tryz.prog 103 = some 24 ∧ tagg Tryz.prog 103 = some false ∧ zcells Tryz.prog 103 = some [AV.nils] ∧ telem Tryz.prog 103 = some 105 ∧ tnotIface Tryz.prog 103 = true := ⟨by kernel_rfl, by kernel_rfl, by kernel_rfl, by kernel_rfl, by kernel_rfl, by kernel_rfl⟩
theorem ft105 : tsize Tryz.prog 105 = some 2 ∧ tbytes Tryz.prog 105 = some 32 ∧ tagg Tryz.prog 105 = some true ∧ zcells Tryz.prog 105 = some [AV.int .i64 0, AV.nils] ∧ telem Tryz.prog 105 = none ∧ tnotIface Tryz.prog 105 = true ∧ foff Tryz.prog 105 0 = some (0, 3) ∧ foff Tryz.prog 105 1 = some (1, 75) ∧ fplaces Tryz.prog 105 = some [(0, 1), (1, 1)] := ⟨by kernel_rfl, by kernel_rfl, by kernel_rfl, by kernel_rfl, by kernel_rfl, by kernel_rfl, by kernel_rfl, by kernel_rfl, by kernel_rfl⟩
theorem ft106 : tsize Tryz.prog 106 = some 1 ∧ tbytes Tryz.prog 106 = some 24 ∧ tagg Tryz.prog 106 = some false ∧ zcells Tryz.prog 106 = some [AV.nils] ∧ telem Tryz.prog 106 = some 109 ∧ tnotIface Tryz.prog 106 = true := ⟨by kernel_rfl, by kernel_rfl, by kernel_rfl, by kernel_rfl, by kernel_rfl, by kernel_rfl⟩
theorem ft107 : tsize Tryz.prog 107 = some 1 ∧ tbytes Tryz.prog 107 = some 8 ∧ tagg Tryz.prog 107 = some false ∧ zcells Tryz.prog 107 = some [AV.int .i64 0] ∧ telem Tryz.prog 107 = none ∧ tint Tryz.prog 107 = some .i64 ∧ tnotIface Tryz.prog 107 = true := ⟨by kernel_rfl, by kernel_rfl, by kernel_rfl, by kernel_rfl, by kernel_rfl, by kernel_rfl, by kernel_rfl⟩
theorem ft109 : tsize Tryz.prog 109 = some 7 ∧ tbytes Tryz.prog 109 = some 88 ∧ tagg Tryz.prog 109 = some true ∧ zcells Tryz.prog 109 = some [AV.int .i64 0, AV.int .i64 0, AV.int .i64 0, AV.int .i64 0, AV.bool false, AV.nils, AV.nils] ∧ telem Tryz.prog 109 = none ∧ tnotIface Tryz.prog 109 = true ∧ foff Tryz.prog 109 0 = some (0, 107) ∧ foff Tryz.prog 109 1 = some (1, 3) ∧ foff Tryz.prog 109 2 = some (2, 3) ∧ foff Tryz.prog 109 3 = some (3, 3) ∧ foff Tryz.prog 109 4 = some (4, 100) ∧ fplaces Tryz.prog 109 = some [(0, 1), (1, 1), (2, 1), (3, 1), (4, 3)] := ⟨by kernel_rfl, by kernel_rfl, by kernel_rfl, by kernel_rfl, by kernel_rfl, by kernel_rfl, by kernel_rfl, by kernel_rfl, by kernel_rfl, by kernel_rfl, by kernel_rfl, by kernel_rfl⟩
theorem ft110 : tsize Tryz.prog 110 = some 1 ∧ tbytes Tryz.prog 110 = some 24 ∧ tagg Tryz.prog 110 = some false ∧ zcells Tryz.prog 110 = some [AV.nils] ∧ telem Tryz.prog 110 = some 112 ∧ tnotIface Tryz.prog 110 = true := ⟨by kernel_rfl, by kernel_rfl, by kernel_rfl, by kernel_rfl, by kernel_rfl, by kernel_rfl⟩
theorem ft112 : tsize Tryz.prog 112 = some 5 ∧ tbytes Tryz.prog 112 = some 72 ∧ tagg Tryz.prog 112 = some true ∧ zcells Tryz.prog 112 = some [AV.int .i64 0, AV.int .i64 0, AV.bool false, AV.nils, AV.nils] ∧ telem Tryz.prog 112 = none ∧ tnotIface Tryz.prog 112 = true ∧ foff Tryz.prog 112 0 = some (0, 3) ∧ foff Tryz.prog 112 1 = some (1, 3) ∧ foff Tryz.prog 112 2 = some (2, 100) ∧ fplaces Tryz.prog 112 = some [(0, 1), (1, 1), (2, 3)] := ⟨by kernel_rfl, by kernel_rfl, by kernel_rfl, by kernel_rfl, by kernel_rfl, by kernel_rfl, by kernel_rfl, by kernel_rfl, by kernel_rfl, by kernel_rfl⟩
theorem ft113 : tsize Tryz.prog 113 = some 1 ∧ tbytes Tryz.prog 113 = some 24 ∧ tagg Tryz.prog 113 = some false ∧ zcells Tryz.prog 113 = some [AV.nils] ∧ telem Tryz.prog 113 = some 115 ∧ tnotIface Tryz.prog 113 = true := ⟨by kernel_rfl, by kernel_rfl, by kernel_rfl, by kernel_rfl, by kernel_rfl, by kernel_rfl⟩
theorem ft115 : tsize Tryz.prog 115 = some 3 ∧ tbytes Tryz.prog 115 = some 48 ∧ tagg Tryz.prog 115 = some true ∧ zcells Tryz.prog 115 = some [AV.str ⟨#[]⟩, AV.nils, AV.int .i64 0] ∧ telem Tryz.prog 115 = none ∧ tnotIface Tryz.prog 115 = true ∧ foff Tryz.prog 115 0 = some (0, 9) ∧ foff Tryz.prog 115 1 = some (1, 78) ∧ foff Tryz.prog 115 2 = some (2, 3) ∧ fplaces Tryz.prog 115 = some [(0, 1), (1, 1), (2, 1)] := ⟨by kernel_rfl, by kernel_rfl, by kernel_rfl, by kernel_rfl, by kernel_rfl, by kernel_rfl, by kernel_rfl, by kernel_rfl, by kernel_rfl, by kernel_rfl⟩
theorem ft116 : tsize Tryz.prog 116 = some 1 ∧ tbytes Tryz.prog 116 = some 24 ∧ tagg Tryz.prog 116 = some false ∧ zcells Tryz.prog 116 = some [AV.nils] ∧ telem Tryz.prog 116 = some 118 ∧ tnotIface Tryz.prog 116 = true := ⟨by kernel_rfl, by kernel_rfl, by kernel_rfl, by kernel_rfl, by kernel_rfl, by kernel_rfl⟩
theorem ft118 : tsize Tryz.prog 118 = some 2 ∧ tbytes Tryz.prog 118 = some 24 ∧ tagg Tryz.prog 118 = some true ∧ zcells Tryz.prog 118 = some [AV.str ⟨#[]⟩, AV.int .i64 0] ∧ telem Tryz.prog 118 = none ∧ tnotIface Tryz.prog 118 = true ∧ foff Tryz.prog 118 0 = some (0, 9) ∧ foff Tryz.prog 118 1 = some (1, 3) ∧ fplaces Tryz.prog 118 = some [(0, 1), (1, 1)] := ⟨by kernel_rfl, by kernel_rfl, by kernel_rfl, by kernel_rfl, by kernel_rfl, by kernel_rfl, by kernel_rfl, by kernel_rfl, by kernel_rfl⟩
theorem ft119 : tsize Tryz.prog 119 = some 1 ∧ tbytes Tryz.prog 119 = some 24 ∧ tagg Tryz.prog 119 = some false ∧ zcells Tryz.prog 119 = some [AV.nils] ∧ telem Tryz.prog 119 = some 122 ∧ tnotIface Tryz.prog 119 = true := ⟨by kernel_rfl, by kernel_rfl, by kernel_rfl, by kernel_rfl, by kernel_rfl, by kernel_rfl⟩
theorem ft120 : tsize Tryz.prog 120 = some 1 ∧ tbytes Tryz.prog 120 = some 8 ∧ tagg Tryz.prog 120 = some false ∧ zcells Tryz.prog 120 = some [AV.int .i64 0] ∧ telem Tryz.prog 120 = none ∧ tint Tryz.prog 120 = some .i64 ∧ tnotIface Tryz.prog 120 = true := ⟨by kernel_rfl, by kernel_rfl, by kernel_rfl, by kernel_rfl, by kernel_rfl, by kernel_rfl, by kernel_rfl⟩
theorem ft122 : tsize Tryz.prog 122 = some 7 ∧ tbytes Tryz.prog 122 = some 112 ∧ tagg Tryz.prog 122 = some true ∧ zcells Tryz.prog 122 = some [AV.int .i64 0, AV.str ⟨#[]⟩, AV.bool false, AV.nils, AV.nils, AV.int .i64 0, AV.nils] ∧ telem Tryz.prog 122 = none ∧ tnotIface Tryz.prog 122 = true ∧ foff Tryz.prog 122 0 = some (0, 120) ∧ foff Tryz.prog 122 1 = some (1, 9) ∧ foff Tryz.prog 122 2 = some (2, 100) ∧ foff Tryz.prog 122 3 = some (5, 3) ∧ foff Tryz.prog 122 4 = some (6, 22) ∧ fplaces Tryz.prog 122 = some [(0, 1), (1, 1), (2, 3), (5, 1), (6, 1)] := ⟨by kernel_rfl, by kernel_rfl, by kernel_rfl, by kernel_rfl, by kernel_rfl, by kernel_rfl, by kernel_rfl, by kernel_rfl, by kernel_rfl, by kernel_rfl, by kernel_rfl, by kernel_rfl⟩
theorem ft124 : tsize Tryz.prog 124 = some 1 ∧ tbytes Tryz.prog 124 = some 24 ∧ tagg Tryz.prog 124 = some false ∧ zcells Tryz.prog 124 = some [AV.nils] ∧ telem Tryz.prog 124 = some 128 ∧ tnotIface Tryz.prog 124 = true := ⟨by kernel_rfl, by kernel_rfl, by kernel_rfl, by kernel_rfl, by kernel_rfl, by kernel_rfl⟩
theorem ft126 : tsize Tryz.prog 126 = some 5 ∧ tbytes Tryz.prog 126 = some 88 ∧ tagg Tryz.prog 126 = some true ∧ zcells Tryz.prog 126 = some [AV.int .i64 0, AV.int .i64 0, AV.nils, AV.nils, AV.nils] ∧ telem Tryz.prog 126 = none ∧ tnotIface Tryz.prog 126 = true ∧ foff Tryz.prog 126 0 = some (0, 24) ∧ foff Tryz.prog 126 1 = some (4, 80) ∧ fplaces Tryz.prog 126 = some [(0, 4), (4, 1)] := ⟨by kernel_rfl, by kernel_rfl, by kernel_rfl, by kernel_rfl, by kernel_rfl, by kernel_rfl, by kernel_rfl, by kernel_rfl, by kernel_rfl⟩
theorem ft128 : tsize Tryz.prog 128 = some 8 ∧ tbytes Tryz.prog 128 = some 112 ∧ tagg Tryz.prog 128 = some true ∧ zcells Tryz.prog 128 = some [AV.int .i64 0, AV.int .i64 0, AV.nils, AV.nils, AV.nils, AV.int .i64 0, AV.int .i64 0, AV.int .i64 0] ∧ telem Tryz.prog 128 = none ∧ tnotIface Tryz.prog 128 = true ∧ foff Tryz.prog 128 0 = some (0, 126) ∧ foff Tryz.prog 128 1 = some (5, 3) ∧ foff Tryz.prog 128 2 = some (6, 3) ∧ foff Tryz.prog 128 3 = some (7, 50) ∧ fplaces Tryz.prog 128 = some [(0, 5), (5, 1), (6, 1), (7, 1)] := ⟨by kernel_rfl, by kernel_rfl, by kernel_rfl, by kernel_rfl, by kernel_rfl, by kernel_rfl, by kernel_rfl, by kernel_rfl, by kernel_rfl, by kernel_rfl, by kernel_rfl⟩
theorem ft131 : tsize Tryz.prog 131 = some 2 ∧ tbytes Tryz.prog 131 = some 32 ∧ tagg Tryz.prog 131 = some true ∧ zcells Tryz.prog 131 = some [AV.int .i64 0, AV.nils] ∧ telem Tryz.prog 131 = none ∧ tnotIface Tryz.prog 131 = true ∧ foff Tryz.prog 131 0 = some (0, 3) ∧ foff Tryz.prog 131 1 = some (1, 103) ∧ fplaces Tryz.prog 131 = some [(0, 1), (1, 1)] := ⟨by kernel_rfl, by kernel_rfl, by kernel_rfl, by kernel_rfl, by kernel_rfl, by kernel_rfl, by kernel_rfl, by kernel_rfl, by kernel_rfl⟩
theorem ft134 : tsize Tryz.prog 134 = some 3 ∧ tbytes Tryz.prog 134 = some 56 ∧ tagg Tryz.prog 134 = some true ∧ zcells Tryz.prog 134 = some [AV.int .i64 0, AV.nils, AV.nils] ∧ telem Tryz.prog 134 = none ∧ tnotIface Tryz.prog 134 = true ∧ foff Tryz.prog 134 0 = some (0, 3) ∧ foff Tryz.prog 134 1 = some (1, 106) ∧ foff Tryz.prog 134 2 = some (2, 22) ∧ fplaces Tryz.prog 134 = some [(0, 1), (1, 1), (2, 1)] := ⟨by kernel_rfl, by kernel_rfl, by kernel_rfl, by kernel_rfl, by kernel_rfl, by kernel_rfl, by kernel_rfl, by kernel_rfl, by kernel_rfl, by kernel_rfl⟩
theorem ft135 : tsize Tryz.prog 135 = some 1 ∧ tbytes Tryz.prog 135 = some 24 ∧ tagg Tryz.prog 135 = some false ∧ zcells Tryz.prog 135 = some [AV.nils] ∧ telem Tryz.prog 135 = some 24 ∧ tnotIface Tryz.prog 135 = true := ⟨by kernel_rfl, by kernel_rfl, by kernel_rfl, by kernel_rfl, by kernel_rfl, by kernel_rfl⟩
theorem ft138 : tsize Tryz.prog 138 = some 5 ∧ tbytes Tryz.prog 138 = some 120 ∧ tagg Tryz.prog 138 = some true ∧ zcells Tryz.prog 138 = some [AV.nils, AV.nils, AV.nils, AV.nils, AV.nils] ∧ telem Tryz.prog 138 = none ∧ tnotIface Tryz.prog 138 = true ∧ foff Tryz.prog 138 0 = some (0, 78) ∧ foff Tryz.prog 138 1 = some (1, 113) ∧ foff Tryz.prog 138 2 = some (2, 116) ∧ foff Tryz.prog 138 3 = some (3, 22) ∧ foff Tryz.prog 138 4 = some (4, 119) ∧ fplaces Tryz.prog 138 = some [(0, 1), (1, 1), (2, 1), (3, 1), (4, 1)] := ⟨by kernel_rfl, by kernel_rfl, by kernel_rfl, by kernel_rfl, by kernel_rfl, by kernel_rfl, by kernel_rfl, by kernel_rfl, by kernel_rfl, by kernel_rfl, by kernel_rfl, by kernel_rfl⟩
theorem ft168 : tsize Tryz.prog 168 = some 1 ∧ tbytes Tryz.prog 168 = some 8 ∧ tagg Tryz.prog 168 = some false ∧ zcells Tryz.prog 168 = some [AV.int .u64 0] ∧ telem Tryz.prog 168 = none ∧ tint Tryz.prog 168 = some .u64 ∧ tnotIface Tryz.prog 168 = true := ⟨by kernel_rfl, by kernel_rfl, by kernel_rfl, by kernel_rfl, by kernel_rfl, by kernel_rfl, by kernel_rfl⟩
theorem ft173 : tsize Tryz.prog 173 = some 4 ∧ tbytes Tryz.prog 173 = some 40 ∧ tagg Tryz.prog 173 = some true ∧ zcells Tryz.prog 173 = some [AV.nilp, AV.nilp, AV.nilp, AV.str ⟨#[]⟩] ∧ telem Tryz.prog 173 = none ∧ tnotIface Tryz.prog 173 = true ∧ foff Tryz.prog 173 0 = some (0, 17) ∧ foff Tryz.prog 173 1 = some (1, 17) ∧ foff Tryz.prog 173 2 = some (2, 17) ∧ foff Tryz.prog 173 3 = some (3, 9) ∧ fplaces Tryz.prog 173 = some [(0, 1), (1, 1), (2, 1), (3, 1)] := ⟨by kernel_rfl, by kernel_rfl, by kernel_rfl, by kernel_rfl, by kernel_rfl, by kernel_rfl, by kernel_rfl, by kernel_rfl, by kernel_rfl, by kernel_rfl, by kernel_rfl⟩
theorem ft176 : tsize Tryz.prog 176 = some 0 ∧ tbytes Tryz.prog 176 = some 0 ∧ tagg Tryz.prog 176 = some true ∧ zcells Tryz.prog 176 = some [] ∧ telem Tryz.prog 176 = none ∧ tnotIface Tryz.prog 176 = true ∧ fplaces Tryz.prog 176 = some [(0, 0)] := ⟨by kernel_rfl, by kernel_rfl, by kernel_rfl, by kernel_rfl, by kernel_rfl, by kernel_rfl, by kernel_rfl⟩
theorem ft185 : tsize Tryz.prog 185 = some 11 ∧ tbytes Tryz.prog 185 = some 48 ∧ tagg Tryz.prog 185 = some true ∧ zcells Tryz.prog 185 = some [AV.int .u64 0, AV.int .u64 0, AV.int .u32 0, AV.int .u8 0, AV.int .u8 0, AV.int .u8 0, AV.int .u8 0, AV.nilf, AV.nilp, AV.int .i32 0, AV.int .i32 0] ∧ telem Tryz.prog 185 = none ∧ tnotIface Tryz.prog 185 = true ∧ foff Tryz.prog 185 0 = some (0, 12) ∧ foff Tryz.prog 185 1 = some (1, 12) ∧ foff Tryz.prog 185 2 = some (2, 93) ∧ foff Tryz.prog 185 3 = some (3, 178) ∧ foff Tryz.prog 185 4 = some (4, 5) ∧ foff Tryz.prog 185 5 = some (5, 5) ∧ foff Tryz.prog 185 6 = some (6, 179) ∧ foff Tryz.prog 185 7 = some (7, 180) ∧ foff Tryz.prog 185 8 = some (8, 181) ∧ foff Tryz.prog 185 9 = some (9, 182) ∧ foff Tryz.prog 185 10 = some (10, 183) ∧ fplaces Tryz.prog 185 = some [(0, 1), (1, 1), (2, 1), (3, 1), (4, 1), (5, 1), (6, 1), (7, 1), (8, 1), (9, 1), (10, 1)] := ⟨by kernel_rfl, by kernel_rfl, by kernel_rfl, by kernel_rfl, by kernel_rfl, by kernel_rfl, by kernel_rfl, by kernel_rfl, by kernel_rfl, by kernel_rfl, by kernel_rfl, by kernel_rfl, by kernel_rfl, by kernel_rfl, by kernel_rfl, by kernel_rfl, by kernel_rfl, by kernel_rfl⟩
theorem ft1 : tfun Tryz.prog 1 = true ∧ telem Tryz.prog 1 = none := ⟨by kernel_rfl, by kernel_rfl⟩
theorem ft63 : tfun Tryz.prog 63 = true ∧ telem Tryz.prog 63 = none := ⟨by kernel_rfl, by kernel_rfl⟩
theorem ft92 : tfun Tryz.prog 92 = true ∧ telem Tryz.prog 92 = none := ⟨by kernel_rfl, by kernel_rfl⟩
theorem ft94 : tfun Tryz.prog 94 = true ∧ telem Tryz.prog 94 = none := ⟨by kernel_rfl, by kernel_rfl⟩
theorem ft150 : tfun Tryz.prog 150 = true ∧ telem Tryz.prog 150 = none := ⟨by kernel_rfl, by kernel_rfl⟩
end Go.Proofs.YtgdlkhgfehclpaaGreat
end

section
/- Plans of the regions that draw their order, and what the loaded program's functions are. By a program (gen.py). No condition. -/
namespace Go.Proofs.YtgdlkhgfehclpaaGreat
open Go.AL

/- 3 slope/slopelaw11.OrderOwn -/
def pl3 : Nat → Plan := fun | 39 => [(0, false, []), (1, false, []), (2, false, []), (3, false, []), (4, false, []), (5, false, []), (6, false, []), (7, false, []), (8, false, []), (9, false, [])] | 43 => [(0, false, []), (1, false, []), (2, false, []), (3, false, []), (4, false, []), (5, false, []), (6, false, []), (7, false, []), (8, false, []), (9, false, [])] | _ => []
noncomputable def body3 : Code := (Tryz.f3.body).getD .skip
theorem chk3 : codeChk pl3 body3 = true := by kernel_rfl
theorem good3 : good Tryz.prog 3 = true := by kernel_rfl
theorem isb3 : Tryz.f3.body = some body3 := by kernel_rfl
theorem wp3 {args : List AV} {h : Heap} {Q : AV → Heap → Prop} {c : Code} (hb : Tryz.f3.body = some c) (hn : Nat.ble args.length 197 = true) (hk : asx Tryz.prog 197 pl3 c (bodyQ Tryz.prog [.tmp 6] Q) (fr0 args) h) : ACalls Tryz.prog 3 args h Q := by
  have e := isb3.symm.trans hb; cases e; exact acalls_of_body mixed Tryz.func3 isb3 good3 (Nat.le_of_ble_eq_true hn) pl3 chk3 hk
/- 4 (*slope/slopeplain.Given).Pattern -/
def pl4 : Nat → Plan := fun | 1 => [(0, false, []), (1, true, []), (2, false, []), (3, true, []), (4, false, []), (5, false, []), (6, false, []), (8, false, []), (9, false, []), (10, true, []), (7, false, [1, 3, 10]), (11, false, [1, 3]), (12, false, []), (13, false, [])] | _ => []
noncomputable def body4 : Code := (Tryz.f4.body).getD .skip
theorem chk4 : codeChk pl4 body4 = true := by kernel_rfl
theorem good4 : good Tryz.prog 4 = true := by kernel_rfl
theorem isb4 : Tryz.f4.body = some body4 := by kernel_rfl
theorem wp4 {args : List AV} {h : Heap} {Q : AV → Heap → Prop} {c : Code} (hb : Tryz.f4.body = some c) (hn : Nat.ble args.length 18 = true) (hk : asx Tryz.prog 18 pl4 c (bodyQ Tryz.prog [.cell 4 24] Q) (fr0 args) h) : ACalls Tryz.prog 4 args h Q := by
  have e := isb4.symm.trans hb; cases e; exact acalls_of_body mixed Tryz.func4 isb4 good4 (Nat.le_of_ble_eq_true hn) pl4 chk4 hk
/- 5 (*slope/slopeplain.Given).Ints -/
def pl5 : Nat → Plan := fun | 4 => [(0, false, []), (1, false, []), (2, false, []), (3, false, []), (4, true, []), (5, false, []), (6, false, [4]), (7, false, [4]), (8, false, []), (9, false, []), (10, false, []), (11, false, [])] | _ => []
noncomputable def body5 : Code := (Tryz.f5.body).getD .skip
theorem chk5 : codeChk pl5 body5 = true := by kernel_rfl
theorem good5 : good Tryz.prog 5 = true := by kernel_rfl
theorem isb5 : Tryz.f5.body = some body5 := by kernel_rfl
theorem wp5 {args : List AV} {h : Heap} {Q : AV → Heap → Prop} {c : Code} (hb : Tryz.f5.body = some c) (hn : Nat.ble args.length 36 = true) (hk : asx Tryz.prog 36 pl5 c (bodyQ Tryz.prog [.tmp 4] Q) (fr0 args) h) : ACalls Tryz.prog 5 args h Q := by
  have e := isb5.symm.trans hb; cases e; exact acalls_of_body mixed Tryz.func5 isb5 good5 (Nat.le_of_ble_eq_true hn) pl5 chk5 hk
/- 6 slope/order.Order -/
def pl6 : Nat → Plan := fun | 5 => [(1, false, []), (4, true, []), (5, false, []), (0, false, [4]), (2, false, []), (3, false, []), (6, false, []), (7, false, []), (8, false, []), (9, false, []), (10, false, [])] | _ => []
noncomputable def body6 : Code := (Tryz.f6.body).getD .skip
theorem chk6 : codeChk pl6 body6 = true := by kernel_rfl
theorem good6 : good Tryz.prog 6 = true := by kernel_rfl
theorem isb6 : Tryz.f6.body = some body6 := by kernel_rfl
theorem wp6 {args : List AV} {h : Heap} {Q : AV → Heap → Prop} {c : Code} (hb : Tryz.f6.body = some c) (hn : Nat.ble args.length 28 = true) (hk : asx Tryz.prog 28 pl6 c (bodyQ Tryz.prog [.tmp 6, .tmp 7] Q) (fr0 args) h) : ACalls Tryz.prog 6 args h Q := by
  have e := isb6.symm.trans hb; cases e; exact acalls_of_body mixed Tryz.func6 isb6 good6 (Nat.le_of_ble_eq_true hn) pl6 chk6 hk
/- 7 (*slope/slopeplain.Book).Ints -/
def pl7 : Nat → Plan := fun | _ => []
noncomputable def body7 : Code := (Tryz.f7.body).getD .skip
theorem chk7 : codeChk pl7 body7 = true := by kernel_rfl
theorem good7 : good Tryz.prog 7 = true := by kernel_rfl
theorem isb7 : Tryz.f7.body = some body7 := by kernel_rfl
theorem wp7 {args : List AV} {h : Heap} {Q : AV → Heap → Prop} {c : Code} (hb : Tryz.f7.body = some c) (hn : Nat.ble args.length 14 = true) (hk : asx Tryz.prog 14 pl7 c (bodyQ Tryz.prog [] Q) (fr0 args) h) : ACalls Tryz.prog 7 args h Q := by
  have e := isb7.symm.trans hb; cases e; exact acalls_of_body mixed Tryz.func7 isb7 good7 (Nat.le_of_ble_eq_true hn) pl7 chk7 hk
/- 8 slope/order.Back -/
def pl8 : Nat → Plan := fun | 6 => [(0, false, []), (1, false, []), (3, false, []), (2, false, []), (4, false, [])] | 13 => [(0, false, []), (1, false, []), (2, false, []), (3, false, []), (4, false, []), (5, false, []), (6, false, []), (7, false, []), (8, false, [])] | _ => []
noncomputable def body8 : Code := (Tryz.f8.body).getD .skip
theorem chk8 : codeChk pl8 body8 = true := by kernel_rfl
theorem good8 : good Tryz.prog 8 = true := by kernel_rfl
theorem isb8 : Tryz.f8.body = some body8 := by kernel_rfl
theorem wp8 {args : List AV} {h : Heap} {Q : AV → Heap → Prop} {c : Code} (hb : Tryz.f8.body = some c) (hn : Nat.ble args.length 68 = true) (hk : asx Tryz.prog 68 pl8 c (bodyQ Tryz.prog [.tmp 4, .tmp 5, .tmp 6] Q) (fr0 args) h) : ACalls Tryz.prog 8 args h Q := by
  have e := isb8.symm.trans hb; cases e; exact acalls_of_body mixed Tryz.func8 isb8 good8 (Nat.le_of_ble_eq_true hn) pl8 chk8 hk
/- 9 slope/order.Degeneracy -/
def pl9 : Nat → Plan := fun | _ => []
noncomputable def body9 : Code := (Tryz.f9.body).getD .skip
theorem chk9 : codeChk pl9 body9 = true := by kernel_rfl
theorem good9 : good Tryz.prog 9 = true := by kernel_rfl
theorem isb9 : Tryz.f9.body = some body9 := by kernel_rfl
theorem wp9 {args : List AV} {h : Heap} {Q : AV → Heap → Prop} {c : Code} (hb : Tryz.f9.body = some c) (hn : Nat.ble args.length 30 = true) (hk : asx Tryz.prog 30 pl9 c (bodyQ Tryz.prog [.tmp 2, .tmp 3, .tmp 4] Q) (fr0 args) h) : ACalls Tryz.prog 9 args h Q := by
  have e := isb9.symm.trans hb; cases e; exact acalls_of_body mixed Tryz.func9 isb9 good9 (Nat.le_of_ble_eq_true hn) pl9 chk9 hk
/- 10 slope/order.Inverse -/
def pl10 : Nat → Plan := fun | _ => []
noncomputable def body10 : Code := (Tryz.f10.body).getD .skip
theorem chk10 : codeChk pl10 body10 = true := by kernel_rfl
theorem good10 : good Tryz.prog 10 = true := by kernel_rfl
theorem isb10 : Tryz.f10.body = some body10 := by kernel_rfl
theorem wp10 {args : List AV} {h : Heap} {Q : AV → Heap → Prop} {c : Code} (hb : Tryz.f10.body = some c) (hn : Nat.ble args.length 28 = true) (hk : asx Tryz.prog 28 pl10 c (bodyQ Tryz.prog [.tmp 2, .tmp 3] Q) (fr0 args) h) : ACalls Tryz.prog 10 args h Q := by
  have e := isb10.symm.trans hb; cases e; exact acalls_of_body mixed Tryz.func10 isb10 good10 (Nat.le_of_ble_eq_true hn) pl10 chk10 hk
/- 11 (*slope/slopeplain.Book).Apart -/
def pl11 : Nat → Plan := fun | _ => []
noncomputable def body11 : Code := (Tryz.f11.body).getD .skip
theorem chk11 : codeChk pl11 body11 = true := by kernel_rfl
theorem good11 : good Tryz.prog 11 = true := by kernel_rfl
theorem isb11 : Tryz.f11.body = some body11 := by kernel_rfl
theorem wp11 {args : List AV} {h : Heap} {Q : AV → Heap → Prop} {c : Code} (hb : Tryz.f11.body = some c) (hn : Nat.ble args.length 49 = true) (hk : asx Tryz.prog 49 pl11 c (bodyQ Tryz.prog [.tmp 2] Q) (fr0 args) h) : ACalls Tryz.prog 11 args h Q := by
  have e := isb11.symm.trans hb; cases e; exact acalls_of_body mixed Tryz.func11 isb11 good11 (Nat.le_of_ble_eq_true hn) pl11 chk11 hk
/- 12 (*slope/slopeplain.Given).Intact -/
def pl12 : Nat → Plan := fun | 4 => [(0, false, []), (1, false, []), (2, false, []), (3, false, []), (4, false, []), (5, false, []), (6, false, []), (7, false, []), (8, false, []), (9, false, []), (10, false, []), (11, false, []), (12, false, []), (13, false, []), (14, false, []), (15, false, [])] | 9 => [(0, false, []), (1, false, []), (2, false, []), (3, false, []), (4, false, []), (5, false, []), (6, false, []), (7, false, []), (8, false, []), (9, false, []), (10, false, []), (11, false, []), (12, false, []), (13, false, []), (14, false, []), (15, false, [])] | 14 => [(0, false, []), (1, false, []), (2, false, []), (3, false, []), (4, false, []), (5, false, []), (6, false, []), (7, false, []), (8, false, []), (9, false, []), (10, false, []), (11, false, []), (12, false, []), (13, false, []), (14, false, []), (15, false, [])] | 19 => [(0, false, []), (1, false, []), (2, false, []), (3, false, []), (4, false, []), (5, false, []), (6, false, []), (7, false, []), (8, false, []), (9, false, []), (10, false, []), (11, false, []), (12, false, []), (13, false, []), (14, false, []), (15, false, [])] | 24 => [(0, false, []), (1, false, []), (2, false, []), (3, false, []), (4, false, []), (5, false, []), (6, false, []), (7, false, []), (8, false, []), (9, false, []), (10, false, []), (11, false, []), (12, false, []), (13, false, []), (14, false, []), (15, false, [])] | 29 => [(0, false, []), (1, false, []), (2, false, []), (3, false, []), (4, false, []), (5, false, []), (6, false, []), (7, false, []), (8, false, []), (9, false, []), (10, false, []), (11, false, []), (12, false, []), (13, false, []), (14, false, []), (15, false, [])] | _ => []
noncomputable def body12 : Code := (Tryz.f12.body).getD .skip
theorem chk12 : codeChk pl12 body12 = true := by kernel_rfl
theorem good12 : good Tryz.prog 12 = true := by kernel_rfl
theorem isb12 : Tryz.f12.body = some body12 := by kernel_rfl
theorem wp12 {args : List AV} {h : Heap} {Q : AV → Heap → Prop} {c : Code} (hb : Tryz.f12.body = some c) (hn : Nat.ble args.length 161 = true) (hk : asx Tryz.prog 161 pl12 c (bodyQ Tryz.prog [.tmp 2] Q) (fr0 args) h) : ACalls Tryz.prog 12 args h Q := by
  have e := isb12.symm.trans hb; cases e; exact acalls_of_body mixed Tryz.func12 isb12 good12 (Nat.le_of_ble_eq_true hn) pl12 chk12 hk
/- 13 slope/slopeplain.CopyPattern -/
def pl13 : Nat → Plan := fun | 1 => [(0, false, []), (1, true, []), (2, false, []), (3, true, []), (4, false, []), (5, false, []), (7, false, []), (8, true, []), (6, false, [1, 3, 8]), (9, false, [1, 3]), (10, false, []), (11, false, [])] | _ => []
noncomputable def body13 : Code := (Tryz.f13.body).getD .skip
theorem chk13 : codeChk pl13 body13 = true := by kernel_rfl
theorem good13 : good Tryz.prog 13 = true := by kernel_rfl
theorem isb13 : Tryz.f13.body = some body13 := by kernel_rfl
theorem wp13 {args : List AV} {h : Heap} {Q : AV → Heap → Prop} {c : Code} (hb : Tryz.f13.body = some c) (hn : Nat.ble args.length 14 = true) (hk : asx Tryz.prog 14 pl13 c (bodyQ Tryz.prog [.cell 2 24] Q) (fr0 args) h) : ACalls Tryz.prog 13 args h Q := by
  have e := isb13.symm.trans hb; cases e; exact acalls_of_body mixed Tryz.func13 isb13 good13 (Nat.le_of_ble_eq_true hn) pl13 chk13 hk
/- 14 slope/slopeplain.CopyInts -/
def pl14 : Nat → Plan := fun | _ => []
noncomputable def body14 : Code := (Tryz.f14.body).getD .skip
theorem chk14 : codeChk pl14 body14 = true := by kernel_rfl
theorem good14 : good Tryz.prog 14 = true := by kernel_rfl
theorem isb14 : Tryz.f14.body = some body14 := by kernel_rfl
theorem wp14 {args : List AV} {h : Heap} {Q : AV → Heap → Prop} {c : Code} (hb : Tryz.f14.body = some c) (hn : Nat.ble args.length 25 = true) (hk : asx Tryz.prog 25 pl14 c (bodyQ Tryz.prog [.tmp 2] Q) (fr0 args) h) : ACalls Tryz.prog 14 args h Q := by
  have e := isb14.symm.trans hb; cases e; exact acalls_of_body mixed Tryz.func14 isb14 good14 (Nat.le_of_ble_eq_true hn) pl14 chk14 hk
/- 15 slope/slopelaw11.every -/
def pl15 : Nat → Plan := fun | _ => []
noncomputable def body15 : Code := (Tryz.f15.body).getD .skip
theorem chk15 : codeChk pl15 body15 = true := by kernel_rfl
theorem good15 : good Tryz.prog 15 = true := by kernel_rfl
theorem isb15 : Tryz.f15.body = some body15 := by kernel_rfl
theorem wp15 {args : List AV} {h : Heap} {Q : AV → Heap → Prop} {c : Code} (hb : Tryz.f15.body = some c) (hn : Nat.ble args.length 40 = true) (hk : asx Tryz.prog 40 pl15 c (bodyQ Tryz.prog [.tmp 4] Q) (fr0 args) h) : ACalls Tryz.prog 15 args h Q := by
  have e := isb15.symm.trans hb; cases e; exact acalls_of_body mixed Tryz.func15 isb15 good15 (Nat.le_of_ble_eq_true hn) pl15 chk15 hk
/- 16 slope/slopelaw11.wrong -/
def pl16 : Nat → Plan := fun | _ => []
noncomputable def body16 : Code := (Tryz.f16.body).getD .skip
theorem chk16 : codeChk pl16 body16 = true := by kernel_rfl
theorem good16 : good Tryz.prog 16 = true := by kernel_rfl
theorem isb16 : Tryz.f16.body = some body16 := by kernel_rfl
theorem wp16 {args : List AV} {h : Heap} {Q : AV → Heap → Prop} {c : Code} (hb : Tryz.f16.body = some c) (hn : Nat.ble args.length 6 = true) (hk : asx Tryz.prog 6 pl16 c (bodyQ Tryz.prog [.tmp 2] Q) (fr0 args) h) : ACalls Tryz.prog 16 args h Q := by
  have e := isb16.symm.trans hb; cases e; exact acalls_of_body mixed Tryz.func16 isb16 good16 (Nat.le_of_ble_eq_true hn) pl16 chk16 hk
/- 17 slope/slopelaw11.renamed -/
def pl17 : Nat → Plan := fun | 8 => [(0, false, []), (1, false, []), (2, false, []), (3, false, []), (4, false, []), (5, false, []), (6, false, []), (7, false, []), (8, false, []), (9, false, [])] | _ => []
noncomputable def body17 : Code := (Tryz.f17.body).getD .skip
theorem chk17 : codeChk pl17 body17 = true := by kernel_rfl
theorem good17 : good Tryz.prog 17 = true := by kernel_rfl
theorem isb17 : Tryz.f17.body = some body17 := by kernel_rfl
theorem wp17 {args : List AV} {h : Heap} {Q : AV → Heap → Prop} {c : Code} (hb : Tryz.f17.body = some c) (hn : Nat.ble args.length 51 = true) (hk : asx Tryz.prog 51 pl17 c (bodyQ Tryz.prog [.cell 4 24] Q) (fr0 args) h) : ACalls Tryz.prog 17 args h Q := by
  have e := isb17.symm.trans hb; cases e; exact acalls_of_body mixed Tryz.func17 isb17 good17 (Nat.le_of_ble_eq_true hn) pl17 chk17 hk
/- 18 slope/slopelaw11.alive -/
def pl18 : Nat → Plan := fun | _ => []
noncomputable def body18 : Code := (Tryz.f18.body).getD .skip
theorem chk18 : codeChk pl18 body18 = true := by kernel_rfl
theorem good18 : good Tryz.prog 18 = true := by kernel_rfl
theorem isb18 : Tryz.f18.body = some body18 := by kernel_rfl
theorem wp18 {args : List AV} {h : Heap} {Q : AV → Heap → Prop} {c : Code} (hb : Tryz.f18.body = some c) (hn : Nat.ble args.length 43 = true) (hk : asx Tryz.prog 43 pl18 c (bodyQ Tryz.prog [.tmp 0] Q) (fr0 args) h) : ACalls Tryz.prog 18 args h Q := by
  have e := isb18.symm.trans hb; cases e; exact acalls_of_body mixed Tryz.func18 isb18 good18 (Nat.le_of_ble_eq_true hn) pl18 chk18 hk
/- 19 slope/order.graph -/
def pl19 : Nat → Plan := fun | _ => []
noncomputable def body19 : Code := (Tryz.f19.body).getD .skip
theorem chk19 : codeChk pl19 body19 = true := by kernel_rfl
theorem good19 : good Tryz.prog 19 = true := by kernel_rfl
theorem isb19 : Tryz.f19.body = some body19 := by kernel_rfl
theorem wp19 {args : List AV} {h : Heap} {Q : AV → Heap → Prop} {c : Code} (hb : Tryz.f19.body = some c) (hn : Nat.ble args.length 22 = true) (hk : asx Tryz.prog 22 pl19 c (bodyQ Tryz.prog [.tmp 2] Q) (fr0 args) h) : ACalls Tryz.prog 19 args h Q := by
  have e := isb19.symm.trans hb; cases e; exact acalls_of_body mixed Tryz.func19 isb19 good19 (Nat.le_of_ble_eq_true hn) pl19 chk19 hk
/- 20 slope/order.makers -/
def pl20 : Nat → Plan := fun | _ => []
noncomputable def body20 : Code := (Tryz.f20.body).getD .skip
theorem chk20 : codeChk pl20 body20 = true := by kernel_rfl
theorem good20 : good Tryz.prog 20 = true := by kernel_rfl
theorem isb20 : Tryz.f20.body = some body20 := by kernel_rfl
theorem wp20 {args : List AV} {h : Heap} {Q : AV → Heap → Prop} {c : Code} (hb : Tryz.f20.body = some c) (hn : Nat.ble args.length 7 = true) (hk : asx Tryz.prog 7 pl20 c (bodyQ Tryz.prog [.cell 0 66] Q) (fr0 args) h) : ACalls Tryz.prog 20 args h Q := by
  have e := isb20.symm.trans hb; cases e; exact acalls_of_body mixed Tryz.func20 isb20 good20 (Nat.le_of_ble_eq_true hn) pl20 chk20 hk
/- 21 slope/order.Check -/
def pl21 : Nat → Plan := fun | _ => []
noncomputable def body21 : Code := (Tryz.f21.body).getD .skip
theorem chk21 : codeChk pl21 body21 = true := by kernel_rfl
theorem good21 : good Tryz.prog 21 = true := by kernel_rfl
theorem isb21 : Tryz.f21.body = some body21 := by kernel_rfl
theorem wp21 {args : List AV} {h : Heap} {Q : AV → Heap → Prop} {c : Code} (hb : Tryz.f21.body = some c) (hn : Nat.ble args.length 39 = true) (hk : asx Tryz.prog 39 pl21 c (bodyQ Tryz.prog [.tmp 4] Q) (fr0 args) h) : ACalls Tryz.prog 21 args h Q := by
  have e := isb21.symm.trans hb; cases e; exact acalls_of_body mixed Tryz.func21 isb21 good21 (Nat.le_of_ble_eq_true hn) pl21 chk21 hk
/- 22 slope/order.neighbours -/
def pl22 : Nat → Plan := fun | 1 => [(0, false, []), (1, false, []), (2, false, []), (3, false, []), (4, false, []), (5, false, []), (6, false, []), (7, false, []), (8, false, []), (9, false, []), (10, false, []), (11, false, []), (12, false, []), (13, false, []), (14, false, [])] | _ => []
noncomputable def body22 : Code := (Tryz.f22.body).getD .skip
theorem chk22 : codeChk pl22 body22 = true := by kernel_rfl
theorem good22 : good Tryz.prog 22 = true := by kernel_rfl
theorem isb22 : Tryz.f22.body = some body22 := by kernel_rfl
theorem wp22 {args : List AV} {h : Heap} {Q : AV → Heap → Prop} {c : Code} (hb : Tryz.f22.body = some c) (hn : Nat.ble args.length 19 = true) (hk : asx Tryz.prog 19 pl22 c (bodyQ Tryz.prog [.tmp 4] Q) (fr0 args) h) : ACalls Tryz.prog 22 args h Q := by
  have e := isb22.symm.trans hb; cases e; exact acalls_of_body mixed Tryz.func22 isb22 good22 (Nat.le_of_ble_eq_true hn) pl22 chk22 hk
/- 23 slope/order.peel -/
def pl23 : Nat → Plan := fun | 7 => [(0, false, []), (1, false, []), (2, false, []), (3, false, []), (4, true, []), (5, false, []), (6, false, []), (7, false, []), (8, false, []), (9, true, []), (10, false, []), (11, true, []), (12, false, []), (13, false, [4, 9, 11]), (14, false, [4]), (15, false, []), (16, false, [])] | 9 => [(1000000, false, [4, 4]), (0, false, []), (1, true, []), (3, false, []), (4, true, []), (2, false, [4]), (6, false, []), (5, false, [1]), (7, false, []), (5, false, [1]), (2, false, [4]), (6, false, []), (7, false, [])] | 19 => [(0, false, []), (1, false, []), (2, false, []), (3, true, []), (4, false, []), (5, true, []), (6, false, []), (7, false, []), (8, false, []), (9, false, [3, 5]), (10, false, []), (11, false, [5]), (12, false, []), (13, false, [])] | 24 => [(0, false, []), (1, false, []), (2, true, []), (3, false, []), (4, true, []), (5, false, []), (6, false, []), (7, false, []), (8, false, []), (9, false, []), (10, false, []), (11, false, []), (12, false, []), (13, false, [2, 4]), (14, false, []), (15, false, [])] | 26 => [(0, false, []), (1, false, []), (2, true, []), (3, false, []), (4, true, []), (5, false, []), (6, false, []), (7, true, []), (8, false, []), (9, true, []), (10, false, []), (11, true, []), (12, false, []), (13, false, [2, 4, 7, 9, 11]), (14, false, [2, 4]), (15, false, []), (16, false, [])] | _ => []
noncomputable def body23 : Code := (Tryz.f23.body).getD .skip
theorem chk23 : codeChk pl23 body23 = true := by kernel_rfl
theorem good23 : good Tryz.prog 23 = true := by kernel_rfl
theorem isb23 : Tryz.f23.body = some body23 := by kernel_rfl
theorem wp23 {args : List AV} {h : Heap} {Q : AV → Heap → Prop} {c : Code} (hb : Tryz.f23.body = some c) (hn : Nat.ble args.length 155 = true) (hk : asx Tryz.prog 155 pl23 c (bodyQ Tryz.prog [.tmp 2, .tmp 3] Q) (fr0 args) h) : ACalls Tryz.prog 23 args h Q := by
  have e := isb23.symm.trans hb; cases e; exact acalls_of_body mixed Tryz.func23 isb23 good23 (Nat.le_of_ble_eq_true hn) pl23 chk23 hk
/- 24 (*slope/slopeplain.Book).apartLimbs -/
def pl24 : Nat → Plan := fun | 8 => [(0, false, []), (1, false, []), (2, false, []), (3, true, []), (4, false, []), (5, false, []), (6, true, []), (7, false, []), (8, false, []), (9, false, []), (10, false, [3, 6]), (11, false, []), (12, false, []), (13, false, [])] | 24 => [(0, false, []), (1, false, []), (2, false, []), (3, true, []), (4, false, []), (5, false, []), (6, true, []), (7, false, []), (8, false, []), (9, false, [3, 6]), (10, false, []), (11, false, []), (12, false, []), (13, false, []), (14, false, []), (15, false, []), (16, false, []), (17, false, []), (18, false, []), (19, false, []), (20, false, []), (21, false, []), (22, false, []), (23, false, []), (24, false, []), (25, false, []), (26, false, []), (27, true, []), (28, false, []), (29, false, []), (30, true, []), (31, false, []), (32, false, []), (33, true, []), (34, false, []), (35, false, []), (36, false, [27, 30, 33]), (37, false, []), (38, false, []), (39, false, []), (40, false, [])] | _ => []
noncomputable def body24 : Code := (Tryz.f24.body).getD .skip
theorem chk24 : codeChk pl24 body24 = true := by kernel_rfl
theorem good24 : good Tryz.prog 24 = true := by kernel_rfl
theorem isb24 : Tryz.f24.body = some body24 := by kernel_rfl
theorem wp24 {args : List AV} {h : Heap} {Q : AV → Heap → Prop} {c : Code} (hb : Tryz.f24.body = some c) (hn : Nat.ble args.length 133 = true) (hk : asx Tryz.prog 133 pl24 c (bodyQ Tryz.prog [.tmp 2] Q) (fr0 args) h) : ACalls Tryz.prog 24 args h Q := by
  have e := isb24.symm.trans hb; cases e; exact acalls_of_body mixed Tryz.func24 isb24 good24 (Nat.le_of_ble_eq_true hn) pl24 chk24 hk
/- 25 (*slope/slopeplain.Book).apartWords -/
def pl25 : Nat → Plan := fun | 8 => [(0, false, []), (1, false, []), (2, false, []), (3, true, []), (4, false, []), (5, false, []), (6, true, []), (7, false, []), (8, false, []), (9, false, []), (10, false, [3, 6]), (11, false, []), (12, false, []), (13, false, [])] | 24 => [(0, false, []), (1, false, []), (2, false, []), (3, true, []), (4, false, []), (5, false, []), (6, true, []), (7, false, []), (8, false, []), (9, false, [3, 6]), (10, false, []), (11, false, []), (12, false, []), (13, false, []), (14, false, []), (15, false, []), (16, false, []), (17, false, []), (18, false, []), (19, false, []), (20, false, []), (21, false, []), (22, false, []), (23, false, []), (24, false, []), (25, false, []), (26, false, []), (27, true, []), (28, false, []), (29, false, []), (30, true, []), (31, false, []), (32, false, []), (33, true, []), (34, false, []), (35, false, []), (36, false, [27, 30, 33]), (37, false, []), (38, false, []), (39, false, []), (40, false, [])] | _ => []
noncomputable def body25 : Code := (Tryz.f25.body).getD .skip
theorem chk25 : codeChk pl25 body25 = true := by kernel_rfl
theorem good25 : good Tryz.prog 25 = true := by kernel_rfl
theorem isb25 : Tryz.f25.body = some body25 := by kernel_rfl
theorem wp25 {args : List AV} {h : Heap} {Q : AV → Heap → Prop} {c : Code} (hb : Tryz.f25.body = some c) (hn : Nat.ble args.length 133 = true) (hk : asx Tryz.prog 133 pl25 c (bodyQ Tryz.prog [.tmp 2] Q) (fr0 args) h) : ACalls Tryz.prog 25 args h Q := by
  have e := isb25.symm.trans hb; cases e; exact acalls_of_body mixed Tryz.func25 isb25 good25 (Nat.le_of_ble_eq_true hn) pl25 chk25 hk
/- 26 (*slope/slopeplain.Book).apartInts -/
def pl26 : Nat → Plan := fun | 8 => [(0, false, []), (1, false, []), (2, false, []), (3, true, []), (4, false, []), (5, false, []), (6, true, []), (7, false, []), (8, false, []), (9, false, []), (10, false, [3, 6]), (11, false, []), (12, false, [])] | 24 => [(0, false, []), (1, false, []), (2, false, []), (3, true, []), (4, false, []), (5, false, []), (6, true, []), (7, false, []), (8, false, []), (9, false, [3, 6]), (10, false, []), (11, false, []), (12, false, []), (13, false, []), (14, false, []), (15, false, []), (16, false, []), (17, false, []), (18, false, []), (19, false, []), (20, false, []), (21, false, []), (22, false, []), (23, false, []), (24, false, []), (25, false, []), (26, true, []), (27, false, []), (28, false, []), (29, true, []), (30, false, []), (31, false, []), (32, true, []), (33, false, []), (34, false, []), (35, false, [26, 29, 32]), (36, false, []), (37, false, []), (38, false, [])] | _ => []
noncomputable def body26 : Code := (Tryz.f26.body).getD .skip
theorem chk26 : codeChk pl26 body26 = true := by kernel_rfl
theorem good26 : good Tryz.prog 26 = true := by kernel_rfl
theorem isb26 : Tryz.f26.body = some body26 := by kernel_rfl
theorem wp26 {args : List AV} {h : Heap} {Q : AV → Heap → Prop} {c : Code} (hb : Tryz.f26.body = some c) (hn : Nat.ble args.length 129 = true) (hk : asx Tryz.prog 129 pl26 c (bodyQ Tryz.prog [.tmp 2] Q) (fr0 args) h) : ACalls Tryz.prog 26 args h Q := by
  have e := isb26.symm.trans hb; cases e; exact acalls_of_body mixed Tryz.func26 isb26 good26 (Nat.le_of_ble_eq_true hn) pl26 chk26 hk
/- 27 (*slope/slopeplain.Book).apartBools -/
def pl27 : Nat → Plan := fun | _ => []
noncomputable def body27 : Code := (Tryz.f27.body).getD .skip
theorem chk27 : codeChk pl27 body27 = true := by kernel_rfl
theorem good27 : good Tryz.prog 27 = true := by kernel_rfl
theorem isb27 : Tryz.f27.body = some body27 := by kernel_rfl
theorem wp27 {args : List AV} {h : Heap} {Q : AV → Heap → Prop} {c : Code} (hb : Tryz.f27.body = some c) (hn : Nat.ble args.length 124 = true) (hk : asx Tryz.prog 124 pl27 c (bodyQ Tryz.prog [.tmp 2] Q) (fr0 args) h) : ACalls Tryz.prog 27 args h Q := by
  have e := isb27.symm.trans hb; cases e; exact acalls_of_body mixed Tryz.func27 isb27 good27 (Nat.le_of_ble_eq_true hn) pl27 chk27 hk
/- 28 (*slope/slopeplain.Book).apartTexts -/
def pl28 : Nat → Plan := fun | 8 => [(0, false, []), (1, false, []), (2, false, []), (3, true, []), (4, false, []), (5, false, []), (6, true, []), (7, false, []), (8, false, []), (9, false, []), (10, false, [3, 6]), (11, false, []), (12, false, [])] | 24 => [(0, false, []), (1, false, []), (2, false, []), (3, true, []), (4, false, []), (5, false, []), (6, true, []), (7, false, []), (8, false, []), (9, false, [3, 6]), (10, false, []), (11, false, []), (12, false, []), (13, false, []), (14, false, []), (15, false, []), (16, false, []), (17, false, []), (18, false, []), (19, false, []), (20, false, []), (21, false, []), (22, false, []), (23, false, []), (24, false, []), (25, false, []), (26, true, []), (27, false, []), (28, false, []), (29, true, []), (30, false, []), (31, false, []), (32, true, []), (33, false, []), (34, false, []), (35, false, [26, 29, 32]), (36, false, []), (37, false, []), (38, false, [])] | _ => []
noncomputable def body28 : Code := (Tryz.f28.body).getD .skip
theorem chk28 : codeChk pl28 body28 = true := by kernel_rfl
theorem good28 : good Tryz.prog 28 = true := by kernel_rfl
theorem isb28 : Tryz.f28.body = some body28 := by kernel_rfl
theorem wp28 {args : List AV} {h : Heap} {Q : AV → Heap → Prop} {c : Code} (hb : Tryz.f28.body = some c) (hn : Nat.ble args.length 129 = true) (hk : asx Tryz.prog 129 pl28 c (bodyQ Tryz.prog [.tmp 2] Q) (fr0 args) h) : ACalls Tryz.prog 28 args h Q := by
  have e := isb28.symm.trans hb; cases e; exact acalls_of_body mixed Tryz.func28 isb28 good28 (Nat.le_of_ble_eq_true hn) pl28 chk28 hk
/- 29 (*slope/slopeplain.Book).apartRats -/
def pl29 : Nat → Plan := fun | 8 => [(0, false, []), (1, false, []), (2, false, []), (3, true, []), (4, false, []), (5, false, []), (6, true, []), (7, false, []), (8, false, []), (9, false, []), (10, false, [3, 6]), (11, false, []), (12, false, [])] | 24 => [(0, false, []), (1, false, []), (2, false, []), (3, true, []), (4, false, []), (5, false, []), (6, true, []), (7, false, []), (8, false, []), (9, false, [3, 6]), (10, false, []), (11, false, []), (12, false, []), (13, false, []), (14, false, []), (15, false, []), (16, false, []), (17, false, []), (18, false, []), (19, false, []), (20, false, []), (21, false, []), (22, false, []), (23, false, []), (24, false, []), (25, false, []), (26, false, []), (27, true, []), (28, false, []), (29, false, []), (30, true, []), (31, false, []), (32, false, []), (33, true, []), (34, false, []), (35, false, []), (36, false, [27, 30, 33]), (37, false, []), (38, false, []), (39, false, []), (40, false, [])] | _ => []
noncomputable def body29 : Code := (Tryz.f29.body).getD .skip
theorem chk29 : codeChk pl29 body29 = true := by kernel_rfl
theorem good29 : good Tryz.prog 29 = true := by kernel_rfl
theorem isb29 : Tryz.f29.body = some body29 := by kernel_rfl
theorem wp29 {args : List AV} {h : Heap} {Q : AV → Heap → Prop} {c : Code} (hb : Tryz.f29.body = some c) (hn : Nat.ble args.length 131 = true) (hk : asx Tryz.prog 131 pl29 c (bodyQ Tryz.prog [.tmp 2] Q) (fr0 args) h) : ACalls Tryz.prog 29 args h Q := by
  have e := isb29.symm.trans hb; cases e; exact acalls_of_body mixed Tryz.func29 isb29 good29 (Nat.le_of_ble_eq_true hn) pl29 chk29 hk
/- 30 (*slope/slopeplain.Book).apartRows -/
def pl30 : Nat → Plan := fun | 8 => [(0, false, []), (1, false, []), (2, false, []), (3, true, []), (4, false, []), (5, false, []), (6, true, []), (7, false, []), (8, false, []), (9, false, []), (10, false, [3, 6]), (11, false, [3, 6]), (12, false, []), (13, false, [])] | 24 => [(0, false, []), (1, false, []), (2, false, []), (3, false, []), (4, false, []), (5, false, []), (6, false, []), (7, false, []), (8, false, []), (9, false, []), (10, false, []), (11, false, []), (12, false, []), (13, true, []), (14, false, []), (15, false, []), (16, true, []), (17, false, []), (18, true, []), (19, false, []), (20, false, []), (21, false, [13, 16, 18]), (22, false, []), (23, false, []), (24, false, []), (25, false, []), (26, false, []), (27, false, []), (28, false, []), (29, false, []), (30, false, []), (31, false, []), (32, false, []), (33, false, []), (34, false, []), (35, false, []), (36, false, []), (37, false, []), (38, false, []), (39, false, []), (40, false, []), (41, false, []), (42, false, []), (43, false, []), (44, false, []), (45, false, []), (46, false, []), (47, false, []), (48, false, []), (49, false, []), (50, false, []), (51, false, []), (52, false, []), (53, true, []), (54, false, []), (55, false, []), (56, true, []), (57, false, []), (58, false, []), (59, true, []), (60, false, []), (61, true, []), (62, false, []), (63, false, []), (64, false, [53, 56, 59, 61]), (65, false, []), (66, false, []), (67, false, []), (68, false, []), (69, false, [])] | _ => []
noncomputable def body30 : Code := (Tryz.f30.body).getD .skip
theorem chk30 : codeChk pl30 body30 = true := by kernel_rfl
theorem good30 : good Tryz.prog 30 = true := by kernel_rfl
theorem isb30 : Tryz.f30.body = some body30 := by kernel_rfl
theorem wp30 {args : List AV} {h : Heap} {Q : AV → Heap → Prop} {c : Code} (hb : Tryz.f30.body = some c) (hn : Nat.ble args.length 162 = true) (hk : asx Tryz.prog 162 pl30 c (bodyQ Tryz.prog [.tmp 2] Q) (fr0 args) h) : ACalls Tryz.prog 30 args h Q := by
  have e := isb30.symm.trans hb; cases e; exact acalls_of_body mixed Tryz.func30 isb30 good30 (Nat.le_of_ble_eq_true hn) pl30 chk30 hk
/- 31 (*slope/slopeplain.Book).apartSets -/
def pl31 : Nat → Plan := fun | 8 => [(0, false, []), (1, false, []), (2, false, []), (3, true, []), (4, false, []), (5, false, []), (6, true, []), (7, false, []), (8, false, []), (9, false, []), (10, false, [3, 6]), (11, false, []), (12, false, []), (13, false, [])] | 24 => [(0, false, []), (1, false, []), (2, false, []), (3, true, []), (4, false, []), (5, false, []), (6, false, []), (7, true, []), (8, false, []), (9, false, []), (10, false, [3, 7]), (11, false, []), (12, false, []), (13, false, []), (14, false, []), (15, false, []), (16, false, []), (17, false, []), (18, false, []), (19, false, []), (20, false, []), (21, false, []), (22, false, []), (23, false, []), (24, false, []), (25, false, []), (26, false, []), (27, true, []), (28, false, []), (29, false, []), (30, true, []), (31, false, []), (32, false, []), (33, false, []), (34, true, []), (35, false, []), (36, false, []), (37, false, [27, 30, 34]), (38, false, []), (39, false, []), (40, false, [])] | _ => []
noncomputable def body31 : Code := (Tryz.f31.body).getD .skip
theorem chk31 : codeChk pl31 body31 = true := by kernel_rfl
theorem good31 : good Tryz.prog 31 = true := by kernel_rfl
theorem isb31 : Tryz.f31.body = some body31 := by kernel_rfl
theorem wp31 {args : List AV} {h : Heap} {Q : AV → Heap → Prop} {c : Code} (hb : Tryz.f31.body = some c) (hn : Nat.ble args.length 133 = true) (hk : asx Tryz.prog 133 pl31 c (bodyQ Tryz.prog [.tmp 2] Q) (fr0 args) h) : ACalls Tryz.prog 31 args h Q := by
  have e := isb31.symm.trans hb; cases e; exact acalls_of_body mixed Tryz.func31 isb31 good31 (Nat.le_of_ble_eq_true hn) pl31 chk31 hk
/- 32 (*slope/slopeplain.Book).apartOps -/
def pl32 : Nat → Plan := fun | 8 => [(0, false, []), (1, false, []), (2, false, []), (3, true, []), (4, false, []), (5, false, []), (6, true, []), (7, false, []), (8, false, []), (9, false, []), (10, false, [3, 6]), (11, false, []), (12, false, []), (13, false, [])] | 24 => [(0, false, []), (1, false, []), (2, false, []), (3, true, []), (4, false, []), (5, false, []), (6, false, []), (7, true, []), (8, false, []), (9, false, []), (10, false, [3, 7]), (11, false, []), (12, false, []), (13, false, []), (14, false, []), (15, false, []), (16, false, []), (17, false, []), (18, false, []), (19, false, []), (20, false, []), (21, false, []), (22, false, []), (23, false, []), (24, false, []), (25, false, []), (26, false, []), (27, true, []), (28, false, []), (29, false, []), (30, true, []), (31, false, []), (32, false, []), (33, false, []), (34, true, []), (35, false, []), (36, false, []), (37, false, [27, 30, 34]), (38, false, []), (39, false, []), (40, false, [])] | _ => []
noncomputable def body32 : Code := (Tryz.f32.body).getD .skip
theorem chk32 : codeChk pl32 body32 = true := by kernel_rfl
theorem good32 : good Tryz.prog 32 = true := by kernel_rfl
theorem isb32 : Tryz.f32.body = some body32 := by kernel_rfl
theorem wp32 {args : List AV} {h : Heap} {Q : AV → Heap → Prop} {c : Code} (hb : Tryz.f32.body = some c) (hn : Nat.ble args.length 133 = true) (hk : asx Tryz.prog 133 pl32 c (bodyQ Tryz.prog [.tmp 2] Q) (fr0 args) h) : ACalls Tryz.prog 32 args h Q := by
  have e := isb32.symm.trans hb; cases e; exact acalls_of_body mixed Tryz.func32 isb32 good32 (Nat.le_of_ble_eq_true hn) pl32 chk32 hk
/- 33 (*slope/slopeplain.Book).apartEdges -/
def pl33 : Nat → Plan := fun | 8 => [(0, false, []), (1, false, []), (2, false, []), (3, true, []), (4, false, []), (5, false, []), (6, true, []), (7, false, []), (8, false, []), (9, false, []), (10, false, [3, 6]), (11, false, []), (12, false, []), (13, false, [])] | 24 => [(0, false, []), (1, false, []), (2, false, []), (3, true, []), (4, false, []), (5, false, []), (6, false, []), (7, true, []), (8, false, []), (9, false, []), (10, false, [3, 7]), (11, false, []), (12, false, []), (13, false, []), (14, false, []), (15, false, []), (16, false, []), (17, false, []), (18, false, []), (19, false, []), (20, false, []), (21, false, []), (22, false, []), (23, false, []), (24, false, []), (25, false, []), (26, false, []), (27, true, []), (28, false, []), (29, false, []), (30, true, []), (31, false, []), (32, false, []), (33, false, []), (34, true, []), (35, false, []), (36, false, []), (37, false, [27, 30, 34]), (38, false, []), (39, false, []), (40, false, [])] | _ => []
noncomputable def body33 : Code := (Tryz.f33.body).getD .skip
theorem chk33 : codeChk pl33 body33 = true := by kernel_rfl
theorem good33 : good Tryz.prog 33 = true := by kernel_rfl
theorem isb33 : Tryz.f33.body = some body33 := by kernel_rfl
theorem wp33 {args : List AV} {h : Heap} {Q : AV → Heap → Prop} {c : Code} (hb : Tryz.f33.body = some c) (hn : Nat.ble args.length 133 = true) (hk : asx Tryz.prog 133 pl33 c (bodyQ Tryz.prog [.tmp 2] Q) (fr0 args) h) : ACalls Tryz.prog 33 args h Q := by
  have e := isb33.symm.trans hb; cases e; exact acalls_of_body mixed Tryz.func33 isb33 good33 (Nat.le_of_ble_eq_true hn) pl33 chk33 hk
/- 34 (*slope/slopeplain.Book).apartModels -/
def pl34 : Nat → Plan := fun | 7 => [(0, false, []), (1, false, []), (2, false, []), (3, true, []), (4, false, []), (5, false, []), (6, true, []), (7, false, []), (8, false, []), (9, false, []), (10, false, [3, 6]), (11, false, []), (12, false, []), (13, false, [])] | 14 => [(0, false, []), (1, false, []), (2, false, []), (3, true, []), (4, false, []), (5, false, []), (6, true, []), (7, false, []), (8, false, []), (9, false, []), (10, false, [3, 6]), (11, false, []), (12, false, []), (13, false, [])] | 21 => [(0, false, []), (1, false, []), (2, false, []), (3, true, []), (4, false, []), (5, false, []), (6, true, []), (7, false, []), (8, false, []), (9, false, []), (10, false, [3, 6]), (11, false, []), (12, false, []), (13, false, [])] | _ => []
noncomputable def body34 : Code := (Tryz.f34.body).getD .skip
theorem chk34 : codeChk pl34 body34 = true := by kernel_rfl
theorem good34 : good Tryz.prog 34 = true := by kernel_rfl
theorem isb34 : Tryz.f34.body = some body34 := by kernel_rfl
theorem wp34 {args : List AV} {h : Heap} {Q : AV → Heap → Prop} {c : Code} (hb : Tryz.f34.body = some c) (hn : Nat.ble args.length 224 = true) (hk : asx Tryz.prog 224 pl34 c (bodyQ Tryz.prog [.tmp 2] Q) (fr0 args) h) : ACalls Tryz.prog 34 args h Q := by
  have e := isb34.symm.trans hb; cases e; exact acalls_of_body mixed Tryz.func34 isb34 good34 (Nat.le_of_ble_eq_true hn) pl34 chk34 hk
/- 35 (*slope/slopeplain.Book).apartAnswers -/
def pl35 : Nat → Plan := fun | 8 => [(0, false, []), (1, false, []), (2, false, []), (3, true, []), (4, false, []), (5, false, []), (6, true, []), (7, false, []), (8, false, []), (9, false, []), (10, false, [3, 6]), (11, false, []), (12, false, []), (13, false, [])] | 24 => [(0, false, []), (1, false, []), (2, false, []), (3, true, []), (4, false, []), (5, false, []), (6, false, []), (7, true, []), (8, false, []), (9, false, []), (10, false, [3, 7]), (11, false, []), (12, false, []), (13, false, []), (14, false, []), (15, false, []), (16, false, []), (17, false, []), (18, false, []), (19, false, []), (20, false, []), (21, false, []), (22, false, []), (23, false, []), (24, false, []), (25, false, []), (26, false, []), (27, true, []), (28, false, []), (29, false, []), (30, true, []), (31, false, []), (32, false, []), (33, false, []), (34, true, []), (35, false, []), (36, false, []), (37, false, [27, 30, 34]), (38, false, []), (39, false, []), (40, false, [])] | _ => []
noncomputable def body35 : Code := (Tryz.f35.body).getD .skip
theorem chk35 : codeChk pl35 body35 = true := by kernel_rfl
theorem good35 : good Tryz.prog 35 = true := by kernel_rfl
theorem isb35 : Tryz.f35.body = some body35 := by kernel_rfl
theorem wp35 {args : List AV} {h : Heap} {Q : AV → Heap → Prop} {c : Code} (hb : Tryz.f35.body = some c) (hn : Nat.ble args.length 133 = true) (hk : asx Tryz.prog 133 pl35 c (bodyQ Tryz.prog [.tmp 2] Q) (fr0 args) h) : ACalls Tryz.prog 35 args h Q := by
  have e := isb35.symm.trans hb; cases e; exact acalls_of_body mixed Tryz.func35 isb35 good35 (Nat.le_of_ble_eq_true hn) pl35 chk35 hk
/- 38 slope/slopeplain.SameInts -/
def pl38 : Nat → Plan := fun | 6 => [(0, false, []), (1, false, []), (2, false, []), (3, false, []), (4, false, []), (5, false, []), (6, false, []), (7, false, []), (8, false, [])] | _ => []
noncomputable def body38 : Code := (Tryz.f38.body).getD .skip
theorem chk38 : codeChk pl38 body38 = true := by kernel_rfl
theorem good38 : good Tryz.prog 38 = true := by kernel_rfl
theorem isb38 : Tryz.f38.body = some body38 := by kernel_rfl
theorem wp38 {args : List AV} {h : Heap} {Q : AV → Heap → Prop} {c : Code} (hb : Tryz.f38.body = some c) (hn : Nat.ble args.length 26 = true) (hk : asx Tryz.prog 26 pl38 c (bodyQ Tryz.prog [.tmp 4] Q) (fr0 args) h) : ACalls Tryz.prog 38 args h Q := by
  have e := isb38.symm.trans hb; cases e; exact acalls_of_body mixed Tryz.func38 isb38 good38 (Nat.le_of_ble_eq_true hn) pl38 chk38 hk
/- 42 (*slope/slopeplain.Given).whole -/
def pl42 : Nat → Plan := fun | 4 => [(0, false, []), (1, false, []), (2, false, []), (3, false, []), (4, false, []), (5, false, []), (6, false, []), (7, false, []), (8, false, []), (9, false, []), (10, false, []), (11, false, []), (12, false, []), (13, false, []), (14, false, []), (15, false, []), (16, false, []), (17, false, [])] | 9 => [(0, false, []), (1, false, []), (2, false, []), (3, false, []), (4, false, []), (5, false, []), (6, false, []), (7, false, []), (8, false, []), (9, false, []), (10, false, []), (11, false, []), (12, false, []), (13, false, []), (14, false, []), (15, false, []), (16, false, []), (17, false, [])] | 18 => [(0, false, []), (1, false, []), (2, false, []), (3, false, []), (4, false, []), (5, false, []), (6, false, []), (7, false, []), (8, false, []), (9, false, []), (10, false, []), (11, false, []), (12, false, []), (13, false, []), (14, false, []), (15, false, []), (16, false, []), (17, false, []), (18, false, []), (19, false, []), (20, false, []), (21, false, [])] | 28 => [(0, false, []), (1, false, []), (2, false, []), (3, false, []), (4, false, []), (5, false, []), (6, false, []), (7, false, []), (8, false, []), (9, false, []), (10, false, []), (11, false, []), (12, false, []), (13, false, []), (14, false, []), (15, false, [])] | _ => []
noncomputable def body42 : Code := (Tryz.f42.body).getD .skip
theorem chk42 : codeChk pl42 body42 = true := by kernel_rfl
theorem good42 : good Tryz.prog 42 = true := by kernel_rfl
theorem isb42 : Tryz.f42.body = some body42 := by kernel_rfl
theorem wp42 {args : List AV} {h : Heap} {Q : AV → Heap → Prop} {c : Code} (hb : Tryz.f42.body = some c) (hn : Nat.ble args.length 156 = true) (hk : asx Tryz.prog 156 pl42 c (bodyQ Tryz.prog [.tmp 2] Q) (fr0 args) h) : ACalls Tryz.prog 42 args h Q := by
  have e := isb42.symm.trans hb; cases e; exact acalls_of_body mixed Tryz.func42 isb42 good42 (Nat.le_of_ble_eq_true hn) pl42 chk42 hk
/- 43 slope/slopelaw11.orders -/
def pl43 : Nat → Plan := fun | _ => []
noncomputable def body43 : Code := (Tryz.f43.body).getD .skip
theorem chk43 : codeChk pl43 body43 = true := by kernel_rfl
theorem good43 : good Tryz.prog 43 = true := by kernel_rfl
theorem isb43 : Tryz.f43.body = some body43 := by kernel_rfl
theorem wp43 {args : List AV} {h : Heap} {Q : AV → Heap → Prop} {c : Code} (hb : Tryz.f43.body = some c) (hn : Nat.ble args.length 38 = true) (hk : asx Tryz.prog 38 pl43 c (bodyQ Tryz.prog [.tmp 10] Q) (fr0 args) h) : ACalls Tryz.prog 43 args h Q := by
  have e := isb43.symm.trans hb; cases e; exact acalls_of_body mixed Tryz.func43 isb43 good43 (Nat.le_of_ble_eq_true hn) pl43 chk43 hk
/- 44 slope/slopelaw11.backs -/
def pl44 : Nat → Plan := fun | _ => []
noncomputable def body44 : Code := (Tryz.f44.body).getD .skip
theorem chk44 : codeChk pl44 body44 = true := by kernel_rfl
theorem good44 : good Tryz.prog 44 = true := by kernel_rfl
theorem isb44 : Tryz.f44.body = some body44 := by kernel_rfl
theorem wp44 {args : List AV} {h : Heap} {Q : AV → Heap → Prop} {c : Code} (hb : Tryz.f44.body = some c) (hn : Nat.ble args.length 43 = true) (hk : asx Tryz.prog 43 pl44 c (bodyQ Tryz.prog [.tmp 8] Q) (fr0 args) h) : ACalls Tryz.prog 44 args h Q := by
  have e := isb44.symm.trans hb; cases e; exact acalls_of_body mixed Tryz.func44 isb44 good44 (Nat.le_of_ble_eq_true hn) pl44 chk44 hk
/- 45 slope/slopelaw11.degeneracies -/
def pl45 : Nat → Plan := fun | _ => []
noncomputable def body45 : Code := (Tryz.f45.body).getD .skip
theorem chk45 : codeChk pl45 body45 = true := by kernel_rfl
theorem good45 : good Tryz.prog 45 = true := by kernel_rfl
theorem isb45 : Tryz.f45.body = some body45 := by kernel_rfl
theorem wp45 {args : List AV} {h : Heap} {Q : AV → Heap → Prop} {c : Code} (hb : Tryz.f45.body = some c) (hn : Nat.ble args.length 37 = true) (hk : asx Tryz.prog 37 pl45 c (bodyQ Tryz.prog [.tmp 4] Q) (fr0 args) h) : ACalls Tryz.prog 45 args h Q := by
  have e := isb45.symm.trans hb; cases e; exact acalls_of_body mixed Tryz.func45 isb45 good45 (Nat.le_of_ble_eq_true hn) pl45 chk45 hk
/- 46 slope/slopelaw11.checks -/
def pl46 : Nat → Plan := fun | _ => []
noncomputable def body46 : Code := (Tryz.f46.body).getD .skip
theorem chk46 : codeChk pl46 body46 = true := by kernel_rfl
theorem good46 : good Tryz.prog 46 = true := by kernel_rfl
theorem isb46 : Tryz.f46.body = some body46 := by kernel_rfl
theorem wp46 {args : List AV} {h : Heap} {Q : AV → Heap → Prop} {c : Code} (hb : Tryz.f46.body = some c) (hn : Nat.ble args.length 40 = true) (hk : asx Tryz.prog 40 pl46 c (bodyQ Tryz.prog [.tmp 6] Q) (fr0 args) h) : ACalls Tryz.prog 46 args h Q := by
  have e := isb46.symm.trans hb; cases e; exact acalls_of_body mixed Tryz.func46 isb46 good46 (Nat.le_of_ble_eq_true hn) pl46 chk46 hk
/- 47 slope/sloperef11.Graph -/
def pl47 : Nat → Plan := fun | 9 => [(0, false, []), (1, false, []), (2, false, []), (3, false, []), (4, false, []), (5, false, []), (6, false, []), (7, false, []), (8, false, []), (9, false, []), (10, false, []), (11, false, []), (12, false, []), (13, false, []), (14, false, []), (15, false, []), (16, false, []), (17, false, [])] | _ => []
noncomputable def body47 : Code := (Tryz.f47.body).getD .skip
theorem chk47 : codeChk pl47 body47 = true := by kernel_rfl
theorem good47 : good Tryz.prog 47 = true := by kernel_rfl
theorem isb47 : Tryz.f47.body = some body47 := by kernel_rfl
theorem wp47 {args : List AV} {h : Heap} {Q : AV → Heap → Prop} {c : Code} (hb : Tryz.f47.body = some c) (hn : Nat.ble args.length 54 = true) (hk : asx Tryz.prog 54 pl47 c (bodyQ Tryz.prog [.tmp 2] Q) (fr0 args) h) : ACalls Tryz.prog 47 args h Q := by
  have e := isb47.symm.trans hb; cases e; exact acalls_of_body mixed Tryz.func47 isb47 good47 (Nat.le_of_ble_eq_true hn) pl47 chk47 hk
/- 48 slope/sloperef11.Has -/
def pl48 : Nat → Plan := fun | _ => []
noncomputable def body48 : Code := (Tryz.f48.body).getD .skip
theorem chk48 : codeChk pl48 body48 = true := by kernel_rfl
theorem good48 : good Tryz.prog 48 = true := by kernel_rfl
theorem isb48 : Tryz.f48.body = some body48 := by kernel_rfl
theorem wp48 {args : List AV} {h : Heap} {Q : AV → Heap → Prop} {c : Code} (hb : Tryz.f48.body = some c) (hn : Nat.ble args.length 30 = true) (hk : asx Tryz.prog 30 pl48 c (bodyQ Tryz.prog [.tmp 6] Q) (fr0 args) h) : ACalls Tryz.prog 48 args h Q := by
  have e := isb48.symm.trans hb; cases e; exact acalls_of_body mixed Tryz.func48 isb48 good48 (Nat.le_of_ble_eq_true hn) pl48 chk48 hk
/- 49 slope/slopelaw11.num -/
def pl49 : Nat → Plan := fun | _ => []
noncomputable def body49 : Code := (Tryz.f49.body).getD .skip
theorem chk49 : codeChk pl49 body49 = true := by kernel_rfl
theorem good49 : good Tryz.prog 49 = true := by kernel_rfl
theorem isb49 : Tryz.f49.body = some body49 := by kernel_rfl
theorem wp49 {args : List AV} {h : Heap} {Q : AV → Heap → Prop} {c : Code} (hb : Tryz.f49.body = some c) (hn : Nat.ble args.length 4 = true) (hk : asx Tryz.prog 4 pl49 c (bodyQ Tryz.prog [.tmp 2] Q) (fr0 args) h) : ACalls Tryz.prog 49 args h Q := by
  have e := isb49.symm.trans hb; cases e; exact acalls_of_body mixed Tryz.func49 isb49 good49 (Nat.le_of_ble_eq_true hn) pl49 chk49 hk
/- 50 slope/sparse.May -/
def pl50 : Nat → Plan := fun | 1 => [(0, false, []), (1, false, []), (2, false, []), (3, false, []), (4, false, []), (5, false, []), (6, false, []), (7, false, []), (8, false, []), (9, false, []), (10, false, []), (11, false, []), (12, false, []), (13, false, []), (14, false, []), (15, false, []), (16, false, []), (17, false, []), (18, false, []), (19, false, []), (20, false, []), (21, false, []), (22, false, []), (23, false, []), (24, false, []), (25, false, []), (26, false, []), (27, false, []), (28, false, []), (29, false, []), (30, false, []), (31, false, []), (32, false, []), (33, false, []), (34, false, []), (35, false, []), (36, false, []), (37, false, []), (38, false, []), (39, false, []), (40, false, []), (41, false, []), (42, false, []), (43, false, [])] | 7 => [(0, false, []), (1, false, []), (2, false, []), (3, false, []), (4, false, []), (5, false, []), (6, false, []), (7, false, []), (8, false, []), (9, false, []), (10, false, []), (11, false, []), (12, false, []), (13, false, []), (14, false, []), (15, false, [])] | _ => []
noncomputable def body50 : Code := (Tryz.f50.body).getD .skip
theorem chk50 : codeChk pl50 body50 = true := by kernel_rfl
theorem good50 : good Tryz.prog 50 = true := by kernel_rfl
theorem isb50 : Tryz.f50.body = some body50 := by kernel_rfl
theorem wp50 {args : List AV} {h : Heap} {Q : AV → Heap → Prop} {c : Code} (hb : Tryz.f50.body = some c) (hn : Nat.ble args.length 87 = true) (hk : asx Tryz.prog 87 pl50 c (bodyQ Tryz.prog [.tmp 2] Q) (fr0 args) h) : ACalls Tryz.prog 50 args h Q := by
  have e := isb50.symm.trans hb; cases e; exact acalls_of_body mixed Tryz.func50 isb50 good50 (Nat.le_of_ble_eq_true hn) pl50 chk50 hk
/- 51 slope/sparse.Symmetric -/
def pl51 : Nat → Plan := fun | _ => []
noncomputable def body51 : Code := (Tryz.f51.body).getD .skip
theorem chk51 : codeChk pl51 body51 = true := by kernel_rfl
theorem good51 : good Tryz.prog 51 = true := by kernel_rfl
theorem isb51 : Tryz.f51.body = some body51 := by kernel_rfl
theorem wp51 {args : List AV} {h : Heap} {Q : AV → Heap → Prop} {c : Code} (hb : Tryz.f51.body = some c) (hn : Nat.ble args.length 18 = true) (hk : asx Tryz.prog 18 pl51 c (bodyQ Tryz.prog [.tmp 2] Q) (fr0 args) h) : ACalls Tryz.prog 51 args h Q := by
  have e := isb51.symm.trans hb; cases e; exact acalls_of_body mixed Tryz.func51 isb51 good51 (Nat.le_of_ble_eq_true hn) pl51 chk51 hk
/- 52 slope/sparse.Has -/
def pl52 : Nat → Plan := fun | _ => []
noncomputable def body52 : Code := (Tryz.f52.body).getD .skip
theorem chk52 : codeChk pl52 body52 = true := by kernel_rfl
theorem good52 : good Tryz.prog 52 = true := by kernel_rfl
theorem isb52 : Tryz.f52.body = some body52 := by kernel_rfl
theorem wp52 {args : List AV} {h : Heap} {Q : AV → Heap → Prop} {c : Code} (hb : Tryz.f52.body = some c) (hn : Nat.ble args.length 20 = true) (hk : asx Tryz.prog 20 pl52 c (bodyQ Tryz.prog [.tmp 6] Q) (fr0 args) h) : ACalls Tryz.prog 52 args h Q := by
  have e := isb52.symm.trans hb; cases e; exact acalls_of_body mixed Tryz.func52 isb52 good52 (Nat.le_of_ble_eq_true hn) pl52 chk52 hk
/- 53 slope/order.natural -/
def pl53 : Nat → Plan := fun | _ => []
noncomputable def body53 : Code := (Tryz.f53.body).getD .skip
theorem chk53 : codeChk pl53 body53 = true := by kernel_rfl
theorem good53 : good Tryz.prog 53 = true := by kernel_rfl
theorem isb53 : Tryz.f53.body = some body53 := by kernel_rfl
theorem wp53 {args : List AV} {h : Heap} {Q : AV → Heap → Prop} {c : Code} (hb : Tryz.f53.body = some c) (hn : Nat.ble args.length 19 = true) (hk : asx Tryz.prog 19 pl53 c (bodyQ Tryz.prog [.tmp 4, .tmp 5] Q) (fr0 args) h) : ACalls Tryz.prog 53 args h Q := by
  have e := isb53.symm.trans hb; cases e; exact acalls_of_body mixed Tryz.func53 isb53 good53 (Nat.le_of_ble_eq_true hn) pl53 chk53 hk
/- 54 slope/order.largest -/
def pl54 : Nat → Plan := fun | _ => []
noncomputable def body54 : Code := (Tryz.f54.body).getD .skip
theorem chk54 : codeChk pl54 body54 = true := by kernel_rfl
theorem good54 : good Tryz.prog 54 = true := by kernel_rfl
theorem isb54 : Tryz.f54.body = some body54 := by kernel_rfl
theorem wp54 {args : List AV} {h : Heap} {Q : AV → Heap → Prop} {c : Code} (hb : Tryz.f54.body = some c) (hn : Nat.ble args.length 17 = true) (hk : asx Tryz.prog 17 pl54 c (bodyQ Tryz.prog [.tmp 4, .tmp 5] Q) (fr0 args) h) : ACalls Tryz.prog 54 args h Q := by
  have e := isb54.symm.trans hb; cases e; exact acalls_of_body mixed Tryz.func54 isb54 good54 (Nat.le_of_ble_eq_true hn) pl54 chk54 hk
/- 55 slope/order.smallest -/
def pl55 : Nat → Plan := fun | _ => []
noncomputable def body55 : Code := (Tryz.f55.body).getD .skip
theorem chk55 : codeChk pl55 body55 = true := by kernel_rfl
theorem good55 : good Tryz.prog 55 = true := by kernel_rfl
theorem isb55 : Tryz.f55.body = some body55 := by kernel_rfl
theorem wp55 {args : List AV} {h : Heap} {Q : AV → Heap → Prop} {c : Code} (hb : Tryz.f55.body = some c) (hn : Nat.ble args.length 14 = true) (hk : asx Tryz.prog 14 pl55 c (bodyQ Tryz.prog [.tmp 4, .tmp 5] Q) (fr0 args) h) : ACalls Tryz.prog 55 args h Q := by
  have e := isb55.symm.trans hb; cases e; exact acalls_of_body mixed Tryz.func55 isb55 good55 (Nat.le_of_ble_eq_true hn) pl55 chk55 hk
/- 56 slope/order.incidence -/
def pl56 : Nat → Plan := fun | 10 => [(0, false, []), (1, false, []), (2, false, []), (3, false, []), (4, false, []), (5, false, []), (6, false, []), (7, false, []), (8, false, []), (9, false, []), (10, false, []), (11, false, []), (12, false, []), (13, false, []), (14, false, []), (15, false, []), (16, false, []), (18, true, []), (19, false, []), (21, true, []), (22, false, []), (17, false, [18, 21]), (20, false, [21]), (23, false, []), (24, false, []), (25, false, []), (26, false, []), (27, false, []), (28, false, []), (29, false, [])] | _ => []
noncomputable def body56 : Code := (Tryz.f56.body).getD .skip
theorem chk56 : codeChk pl56 body56 = true := by kernel_rfl
theorem good56 : good Tryz.prog 56 = true := by kernel_rfl
theorem isb56 : Tryz.f56.body = some body56 := by kernel_rfl
theorem wp56 {args : List AV} {h : Heap} {Q : AV → Heap → Prop} {c : Code} (hb : Tryz.f56.body = some c) (hn : Nat.ble args.length 84 = true) (hk : asx Tryz.prog 84 pl56 c (bodyQ Tryz.prog [.tmp 4, .tmp 5] Q) (fr0 args) h) : ACalls Tryz.prog 56 args h Q := by
  have e := isb56.symm.trans hb; cases e; exact acalls_of_body mixed Tryz.func56 isb56 good56 (Nat.le_of_ble_eq_true hn) pl56 chk56 hk
/- 57 slope/order.scripted -/
def pl57 : Nat → Plan := fun | _ => []
noncomputable def body57 : Code := (Tryz.f57.body).getD .skip
theorem chk57 : codeChk pl57 body57 = true := by kernel_rfl
theorem good57 : good Tryz.prog 57 = true := by kernel_rfl
theorem isb57 : Tryz.f57.body = some body57 := by kernel_rfl
theorem wp57 {args : List AV} {h : Heap} {Q : AV → Heap → Prop} {c : Code} (hb : Tryz.f57.body = some c) (hn : Nat.ble args.length 16 = true) (hk : asx Tryz.prog 16 pl57 c (bodyQ Tryz.prog [.tmp 4, .tmp 5] Q) (fr0 args) h) : ACalls Tryz.prog 57 args h Q := by
  have e := isb57.symm.trans hb; cases e; exact acalls_of_body mixed Tryz.func57 isb57 good57 (Nat.le_of_ble_eq_true hn) pl57 chk57 hk
/- 58 slope/order.degree -/
def pl58 : Nat → Plan := fun | _ => []
noncomputable def body58 : Code := (Tryz.f58.body).getD .skip
theorem chk58 : codeChk pl58 body58 = true := by kernel_rfl
theorem good58 : good Tryz.prog 58 = true := by kernel_rfl
theorem isb58 : Tryz.f58.body = some body58 := by kernel_rfl
theorem wp58 {args : List AV} {h : Heap} {Q : AV → Heap → Prop} {c : Code} (hb : Tryz.f58.body = some c) (hn : Nat.ble args.length 9 = true) (hk : asx Tryz.prog 9 pl58 c (bodyQ Tryz.prog [.tmp 4] Q) (fr0 args) h) : ACalls Tryz.prog 58 args h Q := by
  have e := isb58.symm.trans hb; cases e; exact acalls_of_body mixed Tryz.func58 isb58 good58 (Nat.le_of_ble_eq_true hn) pl58 chk58 hk
/- 59 slices.Max[[]int,int] -/
def pl59 : Nat → Plan := fun | _ => []
noncomputable def body59 : Code := (Tryz.f59.body).getD .skip
theorem chk59 : codeChk pl59 body59 = true := by kernel_rfl
theorem good59 : good Tryz.prog 59 = true := by kernel_rfl
theorem isb59 : Tryz.f59.body = some body59 := by kernel_rfl
theorem wp59 {args : List AV} {h : Heap} {Q : AV → Heap → Prop} {c : Code} (hb : Tryz.f59.body = some c) (hn : Nat.ble args.length 25 = true) (hk : asx Tryz.prog 25 pl59 c (bodyQ Tryz.prog [.tmp 2] Q) (fr0 args) h) : ACalls Tryz.prog 59 args h Q := by
  have e := isb59.symm.trans hb; cases e; exact acalls_of_body mixed Tryz.func59 isb59 good59 (Nat.le_of_ble_eq_true hn) pl59 chk59 hk
/- 60 slices.DeleteFunc[[]int,int] -/
def pl60 : Nat → Plan := fun | _ => []
noncomputable def body60 : Code := (Tryz.f60.body).getD .skip
theorem chk60 : codeChk pl60 body60 = true := by kernel_rfl
theorem good60 : good Tryz.prog 60 = true := by kernel_rfl
theorem isb60 : Tryz.f60.body = some body60 := by kernel_rfl
theorem wp60 {args : List AV} {h : Heap} {Q : AV → Heap → Prop} {c : Code} (hb : Tryz.f60.body = some c) (hn : Nat.ble args.length 42 = true) (hk : asx Tryz.prog 42 pl60 c (bodyQ Tryz.prog [.tmp 4] Q) (fr0 args) h) : ACalls Tryz.prog 60 args h Q := by
  have e := isb60.symm.trans hb; cases e; exact acalls_of_body mixed Tryz.func60 isb60 good60 (Nat.le_of_ble_eq_true hn) pl60 chk60 hk
/- 61 slope/order.peel$1 -/
def pl61 : Nat → Plan := fun | _ => []
noncomputable def body61 : Code := (Tryz.f61.body).getD .skip
theorem chk61 : codeChk pl61 body61 = true := by kernel_rfl
theorem good61 : good Tryz.prog 61 = true := by kernel_rfl
theorem isb61 : Tryz.f61.body = some body61 := by kernel_rfl
theorem wp61 {args : List AV} {h : Heap} {Q : AV → Heap → Prop} {c : Code} (hb : Tryz.f61.body = some c) (hn : Nat.ble args.length 7 = true) (hk : asx Tryz.prog 7 pl61 c (bodyQ Tryz.prog [.tmp 3] Q) (fr0 args) h) : ACalls Tryz.prog 61 args h Q := by
  have e := isb61.symm.trans hb; cases e; exact acalls_of_body mixed Tryz.func61 isb61 good61 (Nat.le_of_ble_eq_true hn) pl61 chk61 hk
/- 62 slope/order.peel$2 -/
def pl62 : Nat → Plan := fun | _ => []
noncomputable def body62 : Code := (Tryz.f62.body).getD .skip
theorem chk62 : codeChk pl62 body62 = true := by kernel_rfl
theorem good62 : good Tryz.prog 62 = true := by kernel_rfl
theorem isb62 : Tryz.f62.body = some body62 := by kernel_rfl
theorem wp62 {args : List AV} {h : Heap} {Q : AV → Heap → Prop} {c : Code} (hb : Tryz.f62.body = some c) (hn : Nat.ble args.length 7 = true) (hk : asx Tryz.prog 7 pl62 c (bodyQ Tryz.prog [.tmp 3] Q) (fr0 args) h) : ACalls Tryz.prog 62 args h Q := by
  have e := isb62.symm.trans hb; cases e; exact acalls_of_body mixed Tryz.func62 isb62 good62 (Nat.le_of_ble_eq_true hn) pl62 chk62 hk
/- 63 slope/slopeplain.mark -/
def pl63 : Nat → Plan := fun | _ => []
noncomputable def body63 : Code := (Tryz.f63.body).getD .skip
theorem chk63 : codeChk pl63 body63 = true := by kernel_rfl
theorem good63 : good Tryz.prog 63 = true := by kernel_rfl
theorem isb63 : Tryz.f63.body = some body63 := by kernel_rfl
theorem wp63 {args : List AV} {h : Heap} {Q : AV → Heap → Prop} {c : Code} (hb : Tryz.f63.body = some c) (hn : Nat.ble args.length 12 = true) (hk : asx Tryz.prog 12 pl63 c (bodyQ Tryz.prog [.tmp 4] Q) (fr0 args) h) : ACalls Tryz.prog 63 args h Q := by
  have e := isb63.symm.trans hb; cases e; exact acalls_of_body mixed Tryz.func63 isb63 good63 (Nat.le_of_ble_eq_true hn) pl63 chk63 hk
/- 67 (*slope/slopeplain.Book).shown -/
def pl67 : Nat → Plan := fun | 7 => [(0, false, []), (1, false, []), (2, false, []), (3, true, []), (4, false, []), (5, false, []), (6, false, []), (7, true, []), (8, false, []), (9, false, []), (10, false, [3, 7]), (11, false, []), (12, false, []), (13, false, []), (14, false, []), (15, false, []), (16, false, []), (17, false, []), (18, false, []), (19, false, []), (20, false, []), (21, false, []), (22, false, []), (23, false, []), (24, false, []), (25, false, []), (26, false, []), (27, true, []), (28, false, []), (29, false, []), (30, true, []), (31, false, []), (32, false, []), (33, false, []), (34, true, []), (35, false, []), (36, false, []), (37, false, [27, 30, 34]), (38, false, []), (39, false, []), (40, false, [])] | 15 => [(0, false, []), (1, false, []), (2, false, []), (3, true, []), (4, false, []), (5, false, []), (6, false, []), (7, true, []), (8, false, []), (9, false, []), (10, false, [3, 7]), (11, false, []), (12, false, []), (13, false, []), (14, false, []), (15, false, []), (16, false, []), (17, false, []), (18, false, []), (19, false, []), (20, false, []), (21, false, []), (22, false, []), (23, false, []), (24, false, []), (25, false, []), (26, false, []), (27, true, []), (28, false, []), (29, false, []), (30, true, []), (31, false, []), (32, false, []), (33, false, []), (34, true, []), (35, false, []), (36, false, []), (37, false, [27, 30, 34]), (38, false, []), (39, false, []), (40, false, [])] | 23 => [(0, false, []), (1, false, []), (2, false, []), (3, true, []), (4, false, []), (5, false, []), (6, false, []), (7, true, []), (8, false, []), (9, false, []), (10, false, [3, 7]), (11, false, []), (12, false, []), (13, false, []), (14, false, []), (15, false, []), (16, false, []), (17, false, []), (18, false, []), (19, false, []), (20, false, []), (21, false, []), (22, false, []), (23, false, []), (24, false, []), (25, false, []), (26, false, []), (27, true, []), (28, false, []), (29, false, []), (30, true, []), (31, false, []), (32, false, []), (33, false, []), (34, true, []), (35, false, []), (36, false, []), (37, false, [27, 30, 34]), (38, false, []), (39, false, []), (40, false, [])] | _ => []
noncomputable def body67 : Code := (Tryz.f67.body).getD .skip
theorem chk67 : codeChk pl67 body67 = true := by kernel_rfl
theorem good67 : good Tryz.prog 67 = true := by kernel_rfl
theorem isb67 : Tryz.f67.body = some body67 := by kernel_rfl
theorem wp67 {args : List AV} {h : Heap} {Q : AV → Heap → Prop} {c : Code} (hb : Tryz.f67.body = some c) (hn : Nat.ble args.length 183 = true) (hk : asx Tryz.prog 183 pl67 c (bodyQ Tryz.prog [.tmp 8] Q) (fr0 args) h) : ACalls Tryz.prog 67 args h Q := by
  have e := isb67.symm.trans hb; cases e; exact acalls_of_body mixed Tryz.func67 isb67 good67 (Nat.le_of_ble_eq_true hn) pl67 chk67 hk
/- 72 slope/sloperef11.Order -/
def pl72 : Nat → Plan := fun | _ => []
noncomputable def body72 : Code := (Tryz.f72.body).getD .skip
theorem chk72 : codeChk pl72 body72 = true := by kernel_rfl
theorem good72 : good Tryz.prog 72 = true := by kernel_rfl
theorem isb72 : Tryz.f72.body = some body72 := by kernel_rfl
theorem wp72 {args : List AV} {h : Heap} {Q : AV → Heap → Prop} {c : Code} (hb : Tryz.f72.body = some c) (hn : Nat.ble args.length 44 = true) (hk : asx Tryz.prog 44 pl72 c (bodyQ Tryz.prog [.tmp 6, .tmp 7] Q) (fr0 args) h) : ACalls Tryz.prog 72 args h Q := by
  have e := isb72.symm.trans hb; cases e; exact acalls_of_body mixed Tryz.func72 isb72 good72 (Nat.le_of_ble_eq_true hn) pl72 chk72 hk
/- 73 slope/sloperef11.Back -/
def pl73 : Nat → Plan := fun | _ => []
noncomputable def body73 : Code := (Tryz.f73.body).getD .skip
theorem chk73 : codeChk pl73 body73 = true := by kernel_rfl
theorem good73 : good Tryz.prog 73 = true := by kernel_rfl
theorem isb73 : Tryz.f73.body = some body73 := by kernel_rfl
theorem wp73 {args : List AV} {h : Heap} {Q : AV → Heap → Prop} {c : Code} (hb : Tryz.f73.body = some c) (hn : Nat.ble args.length 25 = true) (hk : asx Tryz.prog 25 pl73 c (bodyQ Tryz.prog [.tmp 4, .tmp 5, .tmp 6] Q) (fr0 args) h) : ACalls Tryz.prog 73 args h Q := by
  have e := isb73.symm.trans hb; cases e; exact acalls_of_body mixed Tryz.func73 isb73 good73 (Nat.le_of_ble_eq_true hn) pl73 chk73 hk
/- 74 slope/sloperef11.Degeneracy -/
def pl74 : Nat → Plan := fun | _ => []
noncomputable def body74 : Code := (Tryz.f74.body).getD .skip
theorem chk74 : codeChk pl74 body74 = true := by kernel_rfl
theorem good74 : good Tryz.prog 74 = true := by kernel_rfl
theorem isb74 : Tryz.f74.body = some body74 := by kernel_rfl
theorem wp74 {args : List AV} {h : Heap} {Q : AV → Heap → Prop} {c : Code} (hb : Tryz.f74.body = some c) (hn : Nat.ble args.length 42 = true) (hk : asx Tryz.prog 42 pl74 c (bodyQ Tryz.prog [.tmp 2, .tmp 3, .tmp 4] Q) (fr0 args) h) : ACalls Tryz.prog 74 args h Q := by
  have e := isb74.symm.trans hb; cases e; exact acalls_of_body mixed Tryz.func74 isb74 good74 (Nat.le_of_ble_eq_true hn) pl74 chk74 hk
/- 75 slope/sloperef11.Inverse -/
def pl75 : Nat → Plan := fun | _ => []
noncomputable def body75 : Code := (Tryz.f75.body).getD .skip
theorem chk75 : codeChk pl75 body75 = true := by kernel_rfl
theorem good75 : good Tryz.prog 75 = true := by kernel_rfl
theorem isb75 : Tryz.f75.body = some body75 := by kernel_rfl
theorem wp75 {args : List AV} {h : Heap} {Q : AV → Heap → Prop} {c : Code} (hb : Tryz.f75.body = some c) (hn : Nat.ble args.length 33 = true) (hk : asx Tryz.prog 33 pl75 c (bodyQ Tryz.prog [.tmp 2, .tmp 3] Q) (fr0 args) h) : ACalls Tryz.prog 75 args h Q := by
  have e := isb75.symm.trans hb; cases e; exact acalls_of_body mixed Tryz.func75 isb75 good75 (Nat.le_of_ble_eq_true hn) pl75 chk75 hk
/- 76 slope/sloperef11.Check -/
def pl76 : Nat → Plan := fun | _ => []
noncomputable def body76 : Code := (Tryz.f76.body).getD .skip
theorem chk76 : codeChk pl76 body76 = true := by kernel_rfl
theorem good76 : good Tryz.prog 76 = true := by kernel_rfl
theorem isb76 : Tryz.f76.body = some body76 := by kernel_rfl
theorem wp76 {args : List AV} {h : Heap} {Q : AV → Heap → Prop} {c : Code} (hb : Tryz.f76.body = some c) (hn : Nat.ble args.length 52 = true) (hk : asx Tryz.prog 52 pl76 c (bodyQ Tryz.prog [.tmp 4] Q) (fr0 args) h) : ACalls Tryz.prog 76 args h Q := by
  have e := isb76.symm.trans hb; cases e; exact acalls_of_body mixed Tryz.func76 isb76 good76 (Nat.le_of_ble_eq_true hn) pl76 chk76 hk
/- 77 slope/sloperef11.May -/
def pl77 : Nat → Plan := fun | 1 => [(0, false, []), (1, false, []), (2, false, []), (3, false, []), (4, false, []), (5, false, []), (6, false, []), (7, false, []), (8, false, []), (9, false, []), (10, false, []), (11, false, []), (12, false, []), (13, false, []), (14, false, []), (15, false, []), (16, false, []), (17, false, []), (18, false, []), (19, false, []), (20, false, []), (21, false, []), (22, false, []), (23, false, []), (24, false, []), (25, false, []), (26, false, []), (27, false, []), (28, false, []), (29, false, []), (30, false, []), (31, false, []), (32, false, []), (33, false, []), (34, false, []), (35, false, []), (36, false, []), (37, false, []), (38, false, []), (39, false, []), (40, false, []), (41, false, []), (42, false, []), (43, false, []), (44, false, []), (45, false, [])] | 6 => [(0, false, []), (1, false, []), (2, false, []), (3, false, []), (4, false, []), (5, false, []), (6, false, []), (7, false, []), (8, false, []), (9, false, []), (10, false, []), (11, false, []), (12, false, []), (13, false, []), (14, false, []), (15, false, []), (16, false, []), (17, false, []), (18, false, []), (19, false, []), (20, false, []), (21, false, []), (22, false, []), (23, false, [])] | 11 => [(0, false, []), (1, false, []), (2, false, []), (3, false, []), (4, false, []), (5, false, []), (6, false, []), (7, false, []), (8, false, []), (9, false, []), (10, false, []), (11, false, []), (12, false, []), (13, false, []), (14, false, []), (15, false, []), (16, false, []), (17, false, []), (18, false, []), (19, false, []), (20, false, []), (21, false, []), (22, false, []), (23, false, []), (24, false, []), (25, false, []), (26, false, []), (27, false, []), (28, false, []), (29, false, []), (30, false, []), (31, false, []), (32, false, []), (33, false, []), (34, false, []), (35, false, []), (36, false, []), (37, false, []), (38, false, [])] | _ => []
noncomputable def body77 : Code := (Tryz.f77.body).getD .skip
theorem chk77 : codeChk pl77 body77 = true := by kernel_rfl
theorem good77 : good Tryz.prog 77 = true := by kernel_rfl
theorem isb77 : Tryz.f77.body = some body77 := by kernel_rfl
theorem wp77 {args : List AV} {h : Heap} {Q : AV → Heap → Prop} {c : Code} (hb : Tryz.f77.body = some c) (hn : Nat.ble args.length 135 = true) (hk : asx Tryz.prog 135 pl77 c (bodyQ Tryz.prog [.tmp 2] Q) (fr0 args) h) : ACalls Tryz.prog 77 args h Q := by
  have e := isb77.symm.trans hb; cases e; exact acalls_of_body mixed Tryz.func77 isb77 good77 (Nat.le_of_ble_eq_true hn) pl77 chk77 hk
/- 78 slope/sparse.side -/
def pl78 : Nat → Plan := fun | _ => []
noncomputable def body78 : Code := (Tryz.f78.body).getD .skip
theorem chk78 : codeChk pl78 body78 = true := by kernel_rfl
theorem good78 : good Tryz.prog 78 = true := by kernel_rfl
theorem isb78 : Tryz.f78.body = some body78 := by kernel_rfl
theorem wp78 {args : List AV} {h : Heap} {Q : AV → Heap → Prop} {c : Code} (hb : Tryz.f78.body = some c) (hn : Nat.ble args.length 9 = true) (hk : asx Tryz.prog 9 pl78 c (bodyQ Tryz.prog [.tmp 2] Q) (fr0 args) h) : ACalls Tryz.prog 78 args h Q := by
  have e := isb78.symm.trans hb; cases e; exact acalls_of_body mixed Tryz.func78 isb78 good78 (Nat.le_of_ble_eq_true hn) pl78 chk78 hk
/- 79 slices.IsSorted[[]int,int] -/
def pl79 : Nat → Plan := fun | 4 => [(0, false, []), (1, false, []), (2, false, []), (3, false, []), (4, false, []), (5, false, []), (6, false, []), (7, false, []), (8, false, []), (9, false, [])] | _ => []
noncomputable def body79 : Code := (Tryz.f79.body).getD .skip
theorem chk79 : codeChk pl79 body79 = true := by kernel_rfl
theorem good79 : good Tryz.prog 79 = true := by kernel_rfl
theorem isb79 : Tryz.f79.body = some body79 := by kernel_rfl
theorem wp79 {args : List AV} {h : Heap} {Q : AV → Heap → Prop} {c : Code} (hb : Tryz.f79.body = some c) (hn : Nat.ble args.length 21 = true) (hk : asx Tryz.prog 21 pl79 c (bodyQ Tryz.prog [.tmp 2] Q) (fr0 args) h) : ACalls Tryz.prog 79 args h Q := by
  have e := isb79.symm.trans hb; cases e; exact acalls_of_body mixed Tryz.func79 isb79 good79 (Nat.le_of_ble_eq_true hn) pl79 chk79 hk
/- 80 slope/sparse.each -/
def pl80 : Nat → Plan := fun | _ => []
noncomputable def body80 : Code := (Tryz.f80.body).getD .skip
theorem chk80 : codeChk pl80 body80 = true := by kernel_rfl
theorem good80 : good Tryz.prog 80 = true := by kernel_rfl
theorem isb80 : Tryz.f80.body = some body80 := by kernel_rfl
theorem wp80 {args : List AV} {h : Heap} {Q : AV → Heap → Prop} {c : Code} (hb : Tryz.f80.body = some c) (hn : Nat.ble args.length 36 = true) (hk : asx Tryz.prog 36 pl80 c (bodyQ Tryz.prog [] Q) (fr0 args) h) : ACalls Tryz.prog 80 args h Q := by
  have e := isb80.symm.trans hb; cases e; exact acalls_of_body mixed Tryz.func80 isb80 good80 (Nat.le_of_ble_eq_true hn) pl80 chk80 hk
/- 81 slope/sparse.Symmetric$1 -/
def pl81 : Nat → Plan := fun | _ => []
noncomputable def body81 : Code := (Tryz.f81.body).getD .skip
theorem chk81 : codeChk pl81 body81 = true := by kernel_rfl
theorem good81 : good Tryz.prog 81 = true := by kernel_rfl
theorem isb81 : Tryz.f81.body = some body81 := by kernel_rfl
theorem wp81 {args : List AV} {h : Heap} {Q : AV → Heap → Prop} {c : Code} (hb : Tryz.f81.body = some c) (hn : Nat.ble args.length 21 = true) (hk : asx Tryz.prog 21 pl81 c (bodyQ Tryz.prog [] Q) (fr0 args) h) : ACalls Tryz.prog 81 args h Q := by
  have e := isb81.symm.trans hb; cases e; exact acalls_of_body mixed Tryz.func81 isb81 good81 (Nat.le_of_ble_eq_true hn) pl81 chk81 hk
/- 82 slope/sparse.find -/
def pl82 : Nat → Plan := fun | 3 => [(0, false, []), (1, false, []), (2, false, []), (3, false, []), (4, false, []), (5, false, []), (6, false, []), (7, false, []), (8, false, []), (9, false, []), (10, false, []), (11, false, []), (12, false, []), (13, false, []), (14, false, []), (15, false, []), (16, false, []), (17, false, []), (18, false, []), (19, false, []), (20, false, [])] | _ => []
noncomputable def body82 : Code := (Tryz.f82.body).getD .skip
theorem chk82 : codeChk pl82 body82 = true := by kernel_rfl
theorem good82 : good Tryz.prog 82 = true := by kernel_rfl
theorem isb82 : Tryz.f82.body = some body82 := by kernel_rfl
theorem wp82 {args : List AV} {h : Heap} {Q : AV → Heap → Prop} {c : Code} (hb : Tryz.f82.body = some c) (hn : Nat.ble args.length 45 = true) (hk : asx Tryz.prog 45 pl82 c (bodyQ Tryz.prog [.tmp 6, .tmp 7] Q) (fr0 args) h) : ACalls Tryz.prog 82 args h Q := by
  have e := isb82.symm.trans hb; cases e; exact acalls_of_body mixed Tryz.func82 isb82 good82 (Nat.le_of_ble_eq_true hn) pl82 chk82 hk
/- 83 slices.SortStableFunc[[]int,int] -/
def pl83 : Nat → Plan := fun | _ => []
noncomputable def body83 : Code := (Tryz.f83.body).getD .skip
theorem chk83 : codeChk pl83 body83 = true := by kernel_rfl
theorem good83 : good Tryz.prog 83 = true := by kernel_rfl
theorem isb83 : Tryz.f83.body = some body83 := by kernel_rfl
theorem wp83 {args : List AV} {h : Heap} {Q : AV → Heap → Prop} {c : Code} (hb : Tryz.f83.body = some c) (hn : Nat.ble args.length 9 = true) (hk : asx Tryz.prog 9 pl83 c (bodyQ Tryz.prog [] Q) (fr0 args) h) : ACalls Tryz.prog 83 args h Q := by
  have e := isb83.symm.trans hb; cases e; exact acalls_of_body mixed Tryz.func83 isb83 good83 (Nat.le_of_ble_eq_true hn) pl83 chk83 hk
/- 84 slope/order.largest$1 -/
def pl84 : Nat → Plan := fun | 1 => [(0, false, []), (1, false, []), (3, true, []), (4, false, []), (2, false, [3]), (5, false, []), (6, false, []), (7, false, [])] | _ => []
noncomputable def body84 : Code := (Tryz.f84.body).getD .skip
theorem chk84 : codeChk pl84 body84 = true := by kernel_rfl
theorem good84 : good Tryz.prog 84 = true := by kernel_rfl
theorem isb84 : Tryz.f84.body = some body84 := by kernel_rfl
theorem wp84 {args : List AV} {h : Heap} {Q : AV → Heap → Prop} {c : Code} (hb : Tryz.f84.body = some c) (hn : Nat.ble args.length 13 = true) (hk : asx Tryz.prog 13 pl84 c (bodyQ Tryz.prog [.tmp 5] Q) (fr0 args) h) : ACalls Tryz.prog 84 args h Q := by
  have e := isb84.symm.trans hb; cases e; exact acalls_of_body mixed Tryz.func84 isb84 good84 (Nat.le_of_ble_eq_true hn) pl84 chk84 hk
/- 85 cmp.Compare[int] -/
def pl85 : Nat → Plan := fun | _ => []
noncomputable def body85 : Code := (Tryz.f85.body).getD .skip
theorem chk85 : codeChk pl85 body85 = true := by kernel_rfl
theorem good85 : good Tryz.prog 85 = true := by kernel_rfl
theorem isb85 : Tryz.f85.body = some body85 := by kernel_rfl
theorem wp85 {args : List AV} {h : Heap} {Q : AV → Heap → Prop} {c : Code} (hb : Tryz.f85.body = some c) (hn : Nat.ble args.length 20 = true) (hk : asx Tryz.prog 20 pl85 c (bodyQ Tryz.prog [.tmp 4] Q) (fr0 args) h) : ACalls Tryz.prog 85 args h Q := by
  have e := isb85.symm.trans hb; cases e; exact acalls_of_body mixed Tryz.func85 isb85 good85 (Nat.le_of_ble_eq_true hn) pl85 chk85 hk
/- 86 cmp.Or[int] -/
def pl86 : Nat → Plan := fun | _ => []
noncomputable def body86 : Code := (Tryz.f86.body).getD .skip
theorem chk86 : codeChk pl86 body86 = true := by kernel_rfl
theorem good86 : good Tryz.prog 86 = true := by kernel_rfl
theorem isb86 : Tryz.f86.body = some body86 := by kernel_rfl
theorem wp86 {args : List AV} {h : Heap} {Q : AV → Heap → Prop} {c : Code} (hb : Tryz.f86.body = some c) (hn : Nat.ble args.length 18 = true) (hk : asx Tryz.prog 18 pl86 c (bodyQ Tryz.prog [.tmp 2] Q) (fr0 args) h) : ACalls Tryz.prog 86 args h Q := by
  have e := isb86.symm.trans hb; cases e; exact acalls_of_body mixed Tryz.func86 isb86 good86 (Nat.le_of_ble_eq_true hn) pl86 chk86 hk
/- 87 slices.Clone[[]int,int] -/
def pl87 : Nat → Plan := fun | _ => []
noncomputable def body87 : Code := (Tryz.f87.body).getD .skip
theorem chk87 : codeChk pl87 body87 = true := by kernel_rfl
theorem good87 : good Tryz.prog 87 = true := by kernel_rfl
theorem isb87 : Tryz.f87.body = some body87 := by kernel_rfl
theorem wp87 {args : List AV} {h : Heap} {Q : AV → Heap → Prop} {c : Code} (hb : Tryz.f87.body = some c) (hn : Nat.ble args.length 8 = true) (hk : asx Tryz.prog 8 pl87 c (bodyQ Tryz.prog [.tmp 2] Q) (fr0 args) h) : ACalls Tryz.prog 87 args h Q := by
  have e := isb87.symm.trans hb; cases e; exact acalls_of_body mixed Tryz.func87 isb87 good87 (Nat.le_of_ble_eq_true hn) pl87 chk87 hk
/- 88 slices.IndexFunc[[]int,int] -/
def pl88 : Nat → Plan := fun | _ => []
noncomputable def body88 : Code := (Tryz.f88.body).getD .skip
theorem chk88 : codeChk pl88 body88 = true := by kernel_rfl
theorem good88 : good Tryz.prog 88 = true := by kernel_rfl
theorem isb88 : Tryz.f88.body = some body88 := by kernel_rfl
theorem wp88 {args : List AV} {h : Heap} {Q : AV → Heap → Prop} {c : Code} (hb : Tryz.f88.body = some c) (hn : Nat.ble args.length 19 = true) (hk : asx Tryz.prog 19 pl88 c (bodyQ Tryz.prog [.tmp 4] Q) (fr0 args) h) : ACalls Tryz.prog 88 args h Q := by
  have e := isb88.symm.trans hb; cases e; exact acalls_of_body mixed Tryz.func88 isb88 good88 (Nat.le_of_ble_eq_true hn) pl88 chk88 hk
/- 91 slope/sloperef11.natural -/
def pl91 : Nat → Plan := fun | _ => []
noncomputable def body91 : Code := (Tryz.f91.body).getD .skip
theorem chk91 : codeChk pl91 body91 = true := by kernel_rfl
theorem good91 : good Tryz.prog 91 = true := by kernel_rfl
theorem isb91 : Tryz.f91.body = some body91 := by kernel_rfl
theorem wp91 {args : List AV} {h : Heap} {Q : AV → Heap → Prop} {c : Code} (hb : Tryz.f91.body = some c) (hn : Nat.ble args.length 15 = true) (hk : asx Tryz.prog 15 pl91 c (bodyQ Tryz.prog [.tmp 2] Q) (fr0 args) h) : ACalls Tryz.prog 91 args h Q := by
  have e := isb91.symm.trans hb; cases e; exact acalls_of_body mixed Tryz.func91 isb91 good91 (Nat.le_of_ble_eq_true hn) pl91 chk91 hk
/- 92 slope/sloperef11.largest -/
def pl92 : Nat → Plan := fun | _ => []
noncomputable def body92 : Code := (Tryz.f92.body).getD .skip
theorem chk92 : codeChk pl92 body92 = true := by kernel_rfl
theorem good92 : good Tryz.prog 92 = true := by kernel_rfl
theorem isb92 : Tryz.f92.body = some body92 := by kernel_rfl
theorem wp92 {args : List AV} {h : Heap} {Q : AV → Heap → Prop} {c : Code} (hb : Tryz.f92.body = some c) (hn : Nat.ble args.length 29 = true) (hk : asx Tryz.prog 29 pl92 c (bodyQ Tryz.prog [.tmp 2] Q) (fr0 args) h) : ACalls Tryz.prog 92 args h Q := by
  have e := isb92.symm.trans hb; cases e; exact acalls_of_body mixed Tryz.func92 isb92 good92 (Nat.le_of_ble_eq_true hn) pl92 chk92 hk
/- 93 slope/sloperef11.Smallest -/
def pl93 : Nat → Plan := fun | 11 => [(0, false, []), (1, false, []), (2, false, []), (3, false, []), (4, false, []), (5, false, []), (6, false, []), (7, false, []), (8, false, []), (9, false, []), (10, false, []), (12, true, []), (13, false, []), (14, false, []), (11, false, [12]), (15, false, []), (16, false, []), (17, false, []), (18, false, [])] | _ => []
noncomputable def body93 : Code := (Tryz.f93.body).getD .skip
theorem chk93 : codeChk pl93 body93 = true := by kernel_rfl
theorem good93 : good Tryz.prog 93 = true := by kernel_rfl
theorem isb93 : Tryz.f93.body = some body93 := by kernel_rfl
theorem wp93 {args : List AV} {h : Heap} {Q : AV → Heap → Prop} {c : Code} (hb : Tryz.f93.body = some c) (hn : Nat.ble args.length 68 = true) (hk : asx Tryz.prog 68 pl93 c (bodyQ Tryz.prog [.tmp 2, .tmp 3] Q) (fr0 args) h) : ACalls Tryz.prog 93 args h Q := by
  have e := isb93.symm.trans hb; cases e; exact acalls_of_body mixed Tryz.func93 isb93 good93 (Nat.le_of_ble_eq_true hn) pl93 chk93 hk
/- 94 slope/sloperef11.incidence -/
def pl94 : Nat → Plan := fun | _ => []
noncomputable def body94 : Code := (Tryz.f94.body).getD .skip
theorem chk94 : codeChk pl94 body94 = true := by kernel_rfl
theorem good94 : good Tryz.prog 94 = true := by kernel_rfl
theorem isb94 : Tryz.f94.body = some body94 := by kernel_rfl
theorem wp94 {args : List AV} {h : Heap} {Q : AV → Heap → Prop} {c : Code} (hb : Tryz.f94.body = some c) (hn : Nat.ble args.length 46 = true) (hk : asx Tryz.prog 46 pl94 c (bodyQ Tryz.prog [.tmp 2] Q) (fr0 args) h) : ACalls Tryz.prog 94 args h Q := by
  have e := isb94.symm.trans hb; cases e; exact acalls_of_body mixed Tryz.func94 isb94 good94 (Nat.le_of_ble_eq_true hn) pl94 chk94 hk
/- 95 slope/sloperef11.BackOf -/
def pl95 : Nat → Plan := fun | _ => []
noncomputable def body95 : Code := (Tryz.f95.body).getD .skip
theorem chk95 : codeChk pl95 body95 = true := by kernel_rfl
theorem good95 : good Tryz.prog 95 = true := by kernel_rfl
theorem isb95 : Tryz.f95.body = some body95 := by kernel_rfl
theorem wp95 {args : List AV} {h : Heap} {Q : AV → Heap → Prop} {c : Code} (hb : Tryz.f95.body = some c) (hn : Nat.ble args.length 49 = true) (hk : asx Tryz.prog 49 pl95 c (bodyQ Tryz.prog [.tmp 4, .tmp 5] Q) (fr0 args) h) : ACalls Tryz.prog 95 args h Q := by
  have e := isb95.symm.trans hb; cases e; exact acalls_of_body mixed Tryz.func95 isb95 good95 (Nat.le_of_ble_eq_true hn) pl95 chk95 hk
/- 96 slope/sloperef11.core -/
def pl96 : Nat → Plan := fun | _ => []
noncomputable def body96 : Code := (Tryz.f96.body).getD .skip
theorem chk96 : codeChk pl96 body96 = true := by kernel_rfl
theorem good96 : good Tryz.prog 96 = true := by kernel_rfl
theorem isb96 : Tryz.f96.body = some body96 := by kernel_rfl
theorem wp96 {args : List AV} {h : Heap} {Q : AV → Heap → Prop} {c : Code} (hb : Tryz.f96.body = some c) (hn : Nat.ble args.length 34 = true) (hk : asx Tryz.prog 34 pl96 c (bodyQ Tryz.prog [.tmp 4] Q) (fr0 args) h) : ACalls Tryz.prog 96 args h Q := by
  have e := isb96.symm.trans hb; cases e; exact acalls_of_body mixed Tryz.func96 isb96 good96 (Nat.le_of_ble_eq_true hn) pl96 chk96 hk
/- 97 cmp.Less[int] -/
def pl97 : Nat → Plan := fun | _ => []
noncomputable def body97 : Code := (Tryz.f97.body).getD .skip
theorem chk97 : codeChk pl97 body97 = true := by kernel_rfl
theorem good97 : good Tryz.prog 97 = true := by kernel_rfl
theorem isb97 : Tryz.f97.body = some body97 := by kernel_rfl
theorem wp97 {args : List AV} {h : Heap} {Q : AV → Heap → Prop} {c : Code} (hb : Tryz.f97.body = some c) (hn : Nat.ble args.length 17 = true) (hk : asx Tryz.prog 17 pl97 c (bodyQ Tryz.prog [.tmp 4] Q) (fr0 args) h) : ACalls Tryz.prog 97 args h Q := by
  have e := isb97.symm.trans hb; cases e; exact acalls_of_body mixed Tryz.func97 isb97 good97 (Nat.le_of_ble_eq_true hn) pl97 chk97 hk
/- 98 slices.BinarySearch[[]int,int] -/
def pl98 : Nat → Plan := fun | _ => []
noncomputable def body98 : Code := (Tryz.f98.body).getD .skip
theorem chk98 : codeChk pl98 body98 = true := by kernel_rfl
theorem good98 : good Tryz.prog 98 = true := by kernel_rfl
theorem isb98 : Tryz.f98.body = some body98 := by kernel_rfl
theorem wp98 {args : List AV} {h : Heap} {Q : AV → Heap → Prop} {c : Code} (hb : Tryz.f98.body = some c) (hn : Nat.ble args.length 54 = true) (hk : asx Tryz.prog 54 pl98 c (bodyQ Tryz.prog [.tmp 4, .tmp 5] Q) (fr0 args) h) : ACalls Tryz.prog 98 args h Q := by
  have e := isb98.symm.trans hb; cases e; exact acalls_of_body mixed Tryz.func98 isb98 good98 (Nat.le_of_ble_eq_true hn) pl98 chk98 hk
/- 99 slices.stableCmpFunc[int] -/
def pl99 : Nat → Plan := fun | _ => []
noncomputable def body99 : Code := (Tryz.f99.body).getD .skip
theorem chk99 : codeChk pl99 body99 = true := by kernel_rfl
theorem good99 : good Tryz.prog 99 = true := by kernel_rfl
theorem isb99 : Tryz.f99.body = some body99 := by kernel_rfl
theorem wp99 {args : List AV} {h : Heap} {Q : AV → Heap → Prop} {c : Code} (hb : Tryz.f99.body = some c) (hn : Nat.ble args.length 63 = true) (hk : asx Tryz.prog 63 pl99 c (bodyQ Tryz.prog [] Q) (fr0 args) h) : ACalls Tryz.prog 99 args h Q := by
  have e := isb99.symm.trans hb; cases e; exact acalls_of_body mixed Tryz.func99 isb99 good99 (Nat.le_of_ble_eq_true hn) pl99 chk99 hk
/- 100 cmp.isNaN[int] -/
def pl100 : Nat → Plan := fun | _ => []
noncomputable def body100 : Code := (Tryz.f100.body).getD .skip
theorem chk100 : codeChk pl100 body100 = true := by kernel_rfl
theorem good100 : good Tryz.prog 100 = true := by kernel_rfl
theorem isb100 : Tryz.f100.body = some body100 := by kernel_rfl
theorem wp100 {args : List AV} {h : Heap} {Q : AV → Heap → Prop} {c : Code} (hb : Tryz.f100.body = some c) (hn : Nat.ble args.length 6 = true) (hk : asx Tryz.prog 6 pl100 c (bodyQ Tryz.prog [.tmp 2] Q) (fr0 args) h) : ACalls Tryz.prog 100 args h Q := by
  have e := isb100.symm.trans hb; cases e; exact acalls_of_body mixed Tryz.func100 isb100 good100 (Nat.le_of_ble_eq_true hn) pl100 chk100 hk
/- 101 slope/sloperef11.Neighbours -/
def pl101 : Nat → Plan := fun | 1 => [(0, false, []), (1, false, []), (2, false, []), (3, false, []), (4, false, []), (5, false, []), (6, false, []), (7, false, []), (8, false, []), (9, false, []), (10, false, []), (11, false, []), (12, false, []), (13, false, []), (14, false, [])] | _ => []
noncomputable def body101 : Code := (Tryz.f101.body).getD .skip
theorem chk101 : codeChk pl101 body101 = true := by kernel_rfl
theorem good101 : good Tryz.prog 101 = true := by kernel_rfl
theorem isb101 : Tryz.f101.body = some body101 := by kernel_rfl
theorem wp101 {args : List AV} {h : Heap} {Q : AV → Heap → Prop} {c : Code} (hb : Tryz.f101.body = some c) (hn : Nat.ble args.length 19 = true) (hk : asx Tryz.prog 19 pl101 c (bodyQ Tryz.prog [.tmp 4] Q) (fr0 args) h) : ACalls Tryz.prog 101 args h Q := by
  have e := isb101.symm.trans hb; cases e; exact acalls_of_body mixed Tryz.func101 isb101 good101 (Nat.le_of_ble_eq_true hn) pl101 chk101 hk
/- 102 slope/sloperef11.full -/
def pl102 : Nat → Plan := fun | _ => []
noncomputable def body102 : Code := (Tryz.f102.body).getD .skip
theorem chk102 : codeChk pl102 body102 = true := by kernel_rfl
theorem good102 : good Tryz.prog 102 = true := by kernel_rfl
theorem isb102 : Tryz.f102.body = some body102 := by kernel_rfl
theorem wp102 {args : List AV} {h : Heap} {Q : AV → Heap → Prop} {c : Code} (hb : Tryz.f102.body = some c) (hn : Nat.ble args.length 16 = true) (hk : asx Tryz.prog 16 pl102 c (bodyQ Tryz.prog [.tmp 2] Q) (fr0 args) h) : ACalls Tryz.prog 102 args h Q := by
  have e := isb102.symm.trans hb; cases e; exact acalls_of_body mixed Tryz.func102 isb102 good102 (Nat.le_of_ble_eq_true hn) pl102 chk102 hk
/- 103 slope/sloperef11.among -/
def pl103 : Nat → Plan := fun | _ => []
noncomputable def body103 : Code := (Tryz.f103.body).getD .skip
theorem chk103 : codeChk pl103 body103 = true := by kernel_rfl
theorem good103 : good Tryz.prog 103 = true := by kernel_rfl
theorem isb103 : Tryz.f103.body = some body103 := by kernel_rfl
theorem wp103 {args : List AV} {h : Heap} {Q : AV → Heap → Prop} {c : Code} (hb : Tryz.f103.body = some c) (hn : Nat.ble args.length 29 = true) (hk : asx Tryz.prog 29 pl103 c (bodyQ Tryz.prog [.tmp 6] Q) (fr0 args) h) : ACalls Tryz.prog 103 args h Q := by
  have e := isb103.symm.trans hb; cases e; exact acalls_of_body mixed Tryz.func103 isb103 good103 (Nat.le_of_ble_eq_true hn) pl103 chk103 hk
/- 104 slope/sloperef11.ahead -/
def pl104 : Nat → Plan := fun | 3 => [(0, false, []), (1, false, []), (2, false, []), (3, false, []), (4, false, []), (5, false, []), (6, false, []), (7, false, []), (8, false, []), (9, false, []), (12, true, []), (13, false, []), (10, false, [12]), (11, false, []), (14, false, []), (15, false, []), (16, false, []), (17, false, []), (18, false, []), (19, false, [])] | _ => []
noncomputable def body104 : Code := (Tryz.f104.body).getD .skip
theorem chk104 : codeChk pl104 body104 = true := by kernel_rfl
theorem good104 : good Tryz.prog 104 = true := by kernel_rfl
theorem isb104 : Tryz.f104.body = some body104 := by kernel_rfl
theorem wp104 {args : List AV} {h : Heap} {Q : AV → Heap → Prop} {c : Code} (hb : Tryz.f104.body = some c) (hn : Nat.ble args.length 38 = true) (hk : asx Tryz.prog 38 pl104 c (bodyQ Tryz.prog [.tmp 8] Q) (fr0 args) h) : ACalls Tryz.prog 104 args h Q := by
  have e := isb104.symm.trans hb; cases e; exact acalls_of_body mixed Tryz.func104 isb104 good104 (Nat.le_of_ble_eq_true hn) pl104 chk104 hk
/- 105 slices.isNaN[int] -/
def pl105 : Nat → Plan := fun | _ => []
noncomputable def body105 : Code := (Tryz.f105.body).getD .skip
theorem chk105 : codeChk pl105 body105 = true := by kernel_rfl
theorem good105 : good Tryz.prog 105 = true := by kernel_rfl
theorem isb105 : Tryz.f105.body = some body105 := by kernel_rfl
theorem wp105 {args : List AV} {h : Heap} {Q : AV → Heap → Prop} {c : Code} (hb : Tryz.f105.body = some c) (hn : Nat.ble args.length 6 = true) (hk : asx Tryz.prog 6 pl105 c (bodyQ Tryz.prog [.tmp 2] Q) (fr0 args) h) : ACalls Tryz.prog 105 args h Q := by
  have e := isb105.symm.trans hb; cases e; exact acalls_of_body mixed Tryz.func105 isb105 good105 (Nat.le_of_ble_eq_true hn) pl105 chk105 hk
/- 106 slices.insertionSortCmpFunc[int] -/
def pl106 : Nat → Plan := fun | 4 => [(0, false, []), (1, false, []), (2, false, []), (3, false, []), (4, false, []), (5, false, []), (6, false, []), (7, false, []), (8, false, []), (9, false, []), (10, false, []), (11, false, []), (12, false, []), (13, false, []), (14, false, []), (15, false, []), (16, false, [])] | 6 => [(0, false, []), (1, false, []), (2, false, []), (3, false, []), (4, false, []), (5, false, []), (6, false, []), (7, false, []), (8, false, []), (9, false, []), (10, false, []), (11, false, []), (12, false, []), (13, false, []), (14, false, []), (15, false, []), (16, false, []), (17, false, [])] | _ => []
noncomputable def body106 : Code := (Tryz.f106.body).getD .skip
theorem chk106 : codeChk pl106 body106 = true := by kernel_rfl
theorem good106 : good Tryz.prog 106 = true := by kernel_rfl
theorem isb106 : Tryz.f106.body = some body106 := by kernel_rfl
theorem wp106 {args : List AV} {h : Heap} {Q : AV → Heap → Prop} {c : Code} (hb : Tryz.f106.body = some c) (hn : Nat.ble args.length 53 = true) (hk : asx Tryz.prog 53 pl106 c (bodyQ Tryz.prog [] Q) (fr0 args) h) : ACalls Tryz.prog 106 args h Q := by
  have e := isb106.symm.trans hb; cases e; exact acalls_of_body mixed Tryz.func106 isb106 good106 (Nat.le_of_ble_eq_true hn) pl106 chk106 hk
/- 107 slices.symMergeCmpFunc[int] -/
def pl107 : Nat → Plan := fun | 5 => [(0, false, []), (1, false, []), (2, false, []), (3, false, []), (4, false, []), (5, false, []), (6, false, []), (7, false, []), (8, false, []), (9, false, []), (10, false, [])] | 11 => [(0, false, []), (1, false, []), (2, false, []), (3, false, []), (4, false, []), (5, false, []), (6, false, []), (7, false, []), (8, false, []), (9, false, []), (10, false, []), (11, false, []), (12, false, []), (13, false, []), (14, false, []), (15, false, []), (16, false, []), (17, false, [])] | 17 => [(0, false, []), (1, false, []), (2, false, []), (3, false, []), (4, false, []), (5, false, []), (6, false, []), (7, false, []), (8, false, []), (9, false, []), (10, false, []), (11, false, [])] | 23 => [(0, false, []), (1, false, []), (2, false, []), (3, false, []), (4, false, []), (5, false, []), (6, false, []), (7, false, []), (8, false, []), (9, false, []), (10, false, []), (11, false, []), (12, false, []), (13, false, []), (14, false, []), (15, false, []), (16, false, []), (17, false, [])] | 35 => [(0, false, []), (1, false, []), (2, false, []), (3, false, []), (4, false, []), (5, false, []), (6, false, []), (7, false, []), (8, false, []), (9, false, []), (10, false, []), (11, false, []), (12, false, []), (13, false, [])] | _ => []
noncomputable def body107 : Code := (Tryz.f107.body).getD .skip
theorem chk107 : codeChk pl107 body107 = true := by kernel_rfl
theorem good107 : good Tryz.prog 107 = true := by kernel_rfl
theorem isb107 : Tryz.f107.body = some body107 := by kernel_rfl
theorem wp107 {args : List AV} {h : Heap} {Q : AV → Heap → Prop} {c : Code} (hb : Tryz.f107.body = some c) (hn : Nat.ble args.length 220 = true) (hk : asx Tryz.prog 220 pl107 c (bodyQ Tryz.prog [] Q) (fr0 args) h) : ACalls Tryz.prog 107 args h Q := by
  have e := isb107.symm.trans hb; cases e; exact acalls_of_body mixed Tryz.func107 isb107 good107 (Nat.le_of_ble_eq_true hn) pl107 chk107 hk
/- 108 slices.rotateCmpFunc[int] -/
def pl108 : Nat → Plan := fun | _ => []
noncomputable def body108 : Code := (Tryz.f108.body).getD .skip
theorem chk108 : codeChk pl108 body108 = true := by kernel_rfl
theorem good108 : good Tryz.prog 108 = true := by kernel_rfl
theorem isb108 : Tryz.f108.body = some body108 := by kernel_rfl
theorem wp108 {args : List AV} {h : Heap} {Q : AV → Heap → Prop} {c : Code} (hb : Tryz.f108.body = some c) (hn : Nat.ble args.length 58 = true) (hk : asx Tryz.prog 58 pl108 c (bodyQ Tryz.prog [] Q) (fr0 args) h) : ACalls Tryz.prog 108 args h Q := by
  have e := isb108.symm.trans hb; cases e; exact acalls_of_body mixed Tryz.func108 isb108 good108 (Nat.le_of_ble_eq_true hn) pl108 chk108 hk
/- 109 slices.swapRangeCmpFunc[int] -/
def pl109 : Nat → Plan := fun | 3 => [(0, false, []), (1, false, []), (2, false, []), (3, false, []), (4, false, []), (5, false, []), (6, false, []), (7, false, []), (8, false, []), (9, false, []), (10, false, []), (11, false, []), (12, false, []), (13, false, []), (14, false, []), (15, false, []), (16, false, []), (17, false, []), (18, false, []), (19, false, []), (20, false, []), (21, false, []), (22, false, []), (23, false, [])] | _ => []
noncomputable def body109 : Code := (Tryz.f109.body).getD .skip
theorem chk109 : codeChk pl109 body109 = true := by kernel_rfl
theorem good109 : good Tryz.prog 109 = true := by kernel_rfl
theorem isb109 : Tryz.f109.body = some body109 := by kernel_rfl
theorem wp109 {args : List AV} {h : Heap} {Q : AV → Heap → Prop} {c : Code} (hb : Tryz.f109.body = some c) (hn : Nat.ble args.length 38 = true) (hk : asx Tryz.prog 38 pl109 c (bodyQ Tryz.prog [] Q) (fr0 args) h) : ACalls Tryz.prog 109 args h Q := by
  have e := isb109.symm.trans hb; cases e; exact acalls_of_body mixed Tryz.func109 isb109 good109 (Nat.le_of_ble_eq_true hn) pl109 chk109 hk
end Go.Proofs.YtgdlkhgfehclpaaGreat
end

section
/- The step rules of the small logic, bound together. No condition. -/
namespace Go.AL
theorem packA0 : type_of% (And.intro @asx_skip (And.intro @asx_text (And.intro @asx_draw (And.intro @asx_seq (And.intro @asx_cond (And.intro @asx_block (And.intro @asx_loop (And.intro @asx_exit (And.intro @asx_ret (And.intro @asx_label (And.intro @then_normal (And.intro @then_ret (And.intro @then_exit (And.intro @block_normal (And.intro @block_ret (And.intro @block_exit (And.intro @aops_nil (And.intro @aops_one (And.intro @aops_if (And.intro @guK_zero (And.intro @guK_succ (And.intro @guK_some (And.intro @atK_zero (And.intro @atK_succ (And.intro @adrD_nil (And.intro @adrD_none (And.intro @adrD_one (And.intro @adrD_more (And.intro @adrD_two (And.intro @adrX_nil (And.intro @adrX_cons (And.intro @adrXG_one (And.intro @adrXG_if (And.intro @keep0_true (And.intro @keep0_false (And.intro @adr_nil (And.intro @adr_cons (And.intro @adrG_one (And.intro @adrG_if (@adrK_eq)))))))))))))))))))))))))))))))))))))))) := And.intro @asx_skip (And.intro @asx_text (And.intro @asx_draw (And.intro @asx_seq (And.intro @asx_cond (And.intro @asx_block (And.intro @asx_loop (And.intro @asx_exit (And.intro @asx_ret (And.intro @asx_label (And.intro @then_normal (And.intro @then_ret (And.intro @then_exit (And.intro @block_normal (And.intro @block_ret (And.intro @block_exit (And.intro @aops_nil (And.intro @aops_one (And.intro @aops_if (And.intro @guK_zero (And.intro @guK_succ (And.intro @guK_some (And.intro @atK_zero (And.intro @atK_succ (And.intro @adrD_nil (And.intro @adrD_none (And.intro @adrD_one (And.intro @adrD_more (And.intro @adrD_two (And.intro @adrX_nil (And.intro @adrX_cons (And.intro @adrXG_one (And.intro @adrXG_if (And.intro @keep0_true (And.intro @keep0_false (And.intro @adr_nil (And.intro @adr_cons (And.intro @adrG_one (And.intro @adrG_if (@adrK_eq)))))))))))))))))))))))))))))))))))))))
theorem packA1 : type_of% (And.intro @reK_nil (And.intro @reK_cons (And.intro @atT_zero (And.intro @atT_succ (And.intro @doneK_hit (And.intro @keepL_true (And.intro @keepL_false (And.intro @evK_tmp (And.intro @evK_int (And.intro @evK_bool (And.intro @evK_str (And.intro @evK_flt (And.intro @evK_nilp (And.intro @evK_nils (And.intro @evK_nilf (And.intro @evK_nili (And.intro @evK_nilm (And.intro @evK_undef (And.intro @evK_func (And.intro @evsK_nil (And.intro @evsK_cons (And.intro @evpK_nil (And.intro @evpK_cons (And.intro @evoK_none (And.intro @evoK_some (And.intro @aop_move (And.intro @aop_assign (And.intro @aop_pick (And.intro @aop_alloc (And.intro @aop_box (And.intro @aop_build (And.intro @aop_buildSlice (And.intro @aop_load (And.intro @aop_store (And.intro @aop_nilCheck (And.intro @aop_bin (And.intro @aop_un (And.intro @aop_convert (And.intro @aop_makeFunc (@aop_makeInterface)))))))))))))))))))))))))))))))))))))))) := And.intro @reK_nil (And.intro @reK_cons (And.intro @atT_zero (And.intro @atT_succ (And.intro @doneK_hit (And.intro @keepL_true (And.intro @keepL_false (And.intro @evK_tmp (And.intro @evK_int (And.intro @evK_bool (And.intro @evK_str (And.intro @evK_flt (And.intro @evK_nilp (And.intro @evK_nils (And.intro @evK_nilf (And.intro @evK_nili (And.intro @evK_nilm (And.intro @evK_undef (And.intro @evK_func (And.intro @evsK_nil (And.intro @evsK_cons (And.intro @evpK_nil (And.intro @evpK_cons (And.intro @evoK_none (And.intro @evoK_some (And.intro @aop_move (And.intro @aop_assign (And.intro @aop_pick (And.intro @aop_alloc (And.intro @aop_box (And.intro @aop_build (And.intro @aop_buildSlice (And.intro @aop_load (And.intro @aop_store (And.intro @aop_nilCheck (And.intro @aop_bin (And.intro @aop_un (And.intro @aop_convert (And.intro @aop_makeFunc (@aop_makeInterface)))))))))))))))))))))))))))))))))))))))
theorem packA2 : type_of% (And.intro @aop_makeSlice (And.intro @aop_slice (And.intro @aop_fieldAddr (And.intro @aop_field (And.intro @aop_indexAddr (And.intro @aop_index (And.intro @aop_extract (And.intro @aop_call (And.intro @aop_len (And.intro @aop_cap (And.intro @aop_min (And.intro @aop_max (And.intro @aop_append (And.intro @aop_clear (And.intro @resK_nil (And.intro @resK_tmp (And.intro @resK_cell (And.intro @bodyQ_normal (And.intro @bodyQ_ret (@putK_none)))))))))))))))))))) := And.intro @aop_makeSlice (And.intro @aop_slice (And.intro @aop_fieldAddr (And.intro @aop_field (And.intro @aop_indexAddr (And.intro @aop_index (And.intro @aop_extract (And.intro @aop_call (And.intro @aop_len (And.intro @aop_cap (And.intro @aop_min (And.intro @aop_max (And.intro @aop_append (And.intro @aop_clear (And.intro @resK_nil (And.intro @resK_tmp (And.intro @resK_cell (And.intro @bodyQ_normal (And.intro @bodyQ_ret (@putK_none)))))))))))))))))))
theorem packB0 : type_of% (And.intro @mk_eq (And.intro @gdK_true (And.intro @gdK_false (And.intro @gdK_undef (And.intro @optK_some (And.intro @condK_true (And.intro @condK_false (And.intro @condK_dec (And.intro @condK_not (And.intro @condK_beq (And.intro @condK_bne (And.intro @condK_getD (And.intro @decide_eq_true_eq (And.intro @decide_eq_false_iff_not (And.intro @beq_iff_eq.{0} (And.intro @beq_eq_false_iff_ne.{0} (And.intro @bne_iff_ne.{0} (And.intro @bne_eq_false_iff_eq.{0} (And.intro @Bool.not_eq_true' (And.intro @Bool.not_eq_false' (And.intro @Bool.not_not (And.intro @Nat.mul_one (And.intro @Nat.one_mul (And.intro @block_exit' (And.intro @putK_some (And.intro @exK_and (And.intro @exK_eq (And.intro @doneK_miss (And.intro @quK_true (And.intro @quK_false (And.intro @upd_same (And.intro @upd_ne (And.intro @letH_eq (And.intro @fitK_i64 (And.intro @fitK_u64 (And.intro @fitK_u32 (And.intro @fitK_u8 (And.intro @fitK_i32 (And.intro @ldX_cell (@ldX_agg)))))))))))))))))))))))))))))))))))))))) := And.intro @mk_eq (And.intro @gdK_true (And.intro @gdK_false (And.intro @gdK_undef (And.intro @optK_some (And.intro @condK_true (And.intro @condK_false (And.intro @condK_dec (And.intro @condK_not (And.intro @condK_beq (And.intro @condK_bne (And.intro @condK_getD (And.intro @decide_eq_true_eq (And.intro @decide_eq_false_iff_not (And.intro @beq_iff_eq.{0} (And.intro @beq_eq_false_iff_ne.{0} (And.intro @bne_iff_ne.{0} (And.intro @bne_eq_false_iff_eq.{0} (And.intro @Bool.not_eq_true' (And.intro @Bool.not_eq_false' (And.intro @Bool.not_not (And.intro @Nat.mul_one (And.intro @Nat.one_mul (And.intro @block_exit' (And.intro @putK_some (And.intro @exK_and (And.intro @exK_eq (And.intro @doneK_miss (And.intro @quK_true (And.intro @quK_false (And.intro @upd_same (And.intro @upd_ne (And.intro @letH_eq (And.intro @fitK_i64 (And.intro @fitK_u64 (And.intro @fitK_u32 (And.intro @fitK_u8 (And.intro @fitK_i32 (And.intro @ldX_cell (@ldX_agg)))))))))))))))))))))))))))))))))))))))
theorem packB1 : type_of% (And.intro @objK_some (And.intro @loadK_ip (And.intro @loadK_op (And.intro @faK_ip (And.intro @faK_op (And.intro @fieldAddrK_eq (And.intro @fdK_agg (And.intro @fieldK_eq (And.intro @optK_map (And.intro @elK_eq (And.intro @indexAddrK_isl (And.intro @indexAddrK_osl (And.intro @arK_eq (And.intro @indexAddrK_ip (And.intro @indexAddrK_op (And.intro @indexK_str (And.intro @indexK_agg (And.intro @clearK_nils (And.intro @clearK_osl (And.intro @bin_add (And.intro @bin_sub (And.intro @bin_mul (And.intro @bin_quo (And.intro @bin_rem (And.intro @bin_eql (And.intro @bin_neq (And.intro @bin_lss (And.intro @bin_leq (And.intro @bin_gtr (And.intro @bin_geq (And.intro @bin_shl (And.intro @bin_shr (And.intro @bin_beql (And.intro @bin_bneq (And.intro @bin_nils (And.intro @eqK_eql (And.intro @eqK_neq (And.intro @unK_not (And.intro @unK_neg (@convK_int)))))))))))))))))))))))))))))))))))))))) := And.intro @objK_some (And.intro @loadK_ip (And.intro @loadK_op (And.intro @faK_ip (And.intro @faK_op (And.intro @fieldAddrK_eq (And.intro @fdK_agg (And.intro @fieldK_eq (And.intro @optK_map (And.intro @elK_eq (And.intro @indexAddrK_isl (And.intro @indexAddrK_osl (And.intro @arK_eq (And.intro @indexAddrK_ip (And.intro @indexAddrK_op (And.intro @indexK_str (And.intro @indexK_agg (And.intro @clearK_nils (And.intro @clearK_osl (And.intro @bin_add (And.intro @bin_sub (And.intro @bin_mul (And.intro @bin_quo (And.intro @bin_rem (And.intro @bin_eql (And.intro @bin_neq (And.intro @bin_lss (And.intro @bin_leq (And.intro @bin_gtr (And.intro @bin_geq (And.intro @bin_shl (And.intro @bin_shr (And.intro @bin_beql (And.intro @bin_bneq (And.intro @bin_nils (And.intro @eqK_eql (And.intro @eqK_neq (And.intro @unK_not (And.intro @unK_neg (@convK_int)))))))))))))))))))))))))))))))))))))))
theorem packB2 : type_of% (And.intro @convK_str (And.intro @extK_tup (And.intro @lenK_isl (And.intro @lenK_osl (And.intro @lenK_nils (And.intro @lenK_str (And.intro @nilCheckK_ip (And.intro @nilCheckK_op (And.intro @pickK_eq (And.intro @bdK_none (And.intro @bdK_some (And.intro @slK_eq (And.intro @sliceAll_isl (And.intro @sliceAll_osl (And.intro @sliceAll_nils (And.intro @storeK_op (And.intro @obxK_some (And.intro @makeSliceK_int (And.intro @fillK_nil (And.intro @fillK_cons (And.intro @fillRK_nil (And.intro @fillRK_cons (And.intro @callK_fn (And.intro @elemsK_nils (And.intro @elemsK_isl (And.intro @elemsK_osl (And.intro @appendK_eq (And.intro @apK_nils (And.intro @apK_osl (And.intro @oneK_one (And.intro @oneK_none (And.intro @oneK_two (And.intro @ren_osl (And.intro @ren_op (And.intro @ren_int (And.intro @ren_bool (And.intro @ren_nils (And.intro @ren_tup (And.intro @ren_agg (@ren_isl)))))))))))))))))))))))))))))))))))))))) := And.intro @convK_str (And.intro @extK_tup (And.intro @lenK_isl (And.intro @lenK_osl (And.intro @lenK_nils (And.intro @lenK_str (And.intro @nilCheckK_ip (And.intro @nilCheckK_op (And.intro @pickK_eq (And.intro @bdK_none (And.intro @bdK_some (And.intro @slK_eq (And.intro @sliceAll_isl (And.intro @sliceAll_osl (And.intro @sliceAll_nils (And.intro @storeK_op (And.intro @obxK_some (And.intro @makeSliceK_int (And.intro @fillK_nil (And.intro @fillK_cons (And.intro @fillRK_nil (And.intro @fillRK_cons (And.intro @callK_fn (And.intro @elemsK_nils (And.intro @elemsK_isl (And.intro @elemsK_osl (And.intro @appendK_eq (And.intro @apK_nils (And.intro @apK_osl (And.intro @oneK_one (And.intro @oneK_none (And.intro @oneK_two (And.intro @ren_osl (And.intro @ren_op (And.intro @ren_int (And.intro @ren_bool (And.intro @ren_nils (And.intro @ren_tup (And.intro @ren_agg (@ren_isl)))))))))))))))))))))))))))))))))))))))
theorem packB3 : type_of% (And.intro @rens_nil (And.intro @rens_cons (And.intro @ren_intEs (And.intro @ren_boolEs (And.intro @behind_eq (And.intro @map_one (And.intro @patch_one (And.intro @patch_two (And.intro @repl_zero (And.intro @repl_succ (And.intro @intE_eq (And.intro @boolE_eq (And.intro @rep_intE (And.intro @rep_boolE (And.intro @set_intE (And.intro @set_boolE (And.intro @set_bools (And.intro @app_intE (And.intro @app_intE3 (And.intro @take_app (And.intro @drop_app3 (And.intro @take_map_all (And.intro @AV.int.injEq (And.intro @AV.bool.injEq (And.intro @List.getElem?_cons_zero.{0} (And.intro @List.getElem?_cons_succ.{0} (And.intro @List.getElem?_nil.{0} (And.intro @List.length_cons.{0} (And.intro @List.length_nil.{0} (And.intro @List.length_map.{0, 0} (And.intro @List.length_replicate.{0} (And.intro @List.length_append.{0} (And.intro @List.length_set.{0} (And.intro @List.drop_succ_cons.{0} (And.intro @List.drop_zero.{0} (And.intro @List.take_succ_cons.{0} (And.intro @List.take_zero.{0} (And.intro @List.set_cons_zero.{0} (And.intro @List.set_cons_succ.{0} (@List.nil_append.{0})))))))))))))))))))))))))))))))))))))))) := And.intro @rens_nil (And.intro @rens_cons (And.intro @ren_intEs (And.intro @ren_boolEs (And.intro @behind_eq (And.intro @map_one (And.intro @patch_one (And.intro @patch_two (And.intro @repl_zero (And.intro @repl_succ (And.intro @intE_eq (And.intro @boolE_eq (And.intro @rep_intE (And.intro @rep_boolE (And.intro @set_intE (And.intro @set_boolE (And.intro @set_bools (And.intro @app_intE (And.intro @app_intE3 (And.intro @take_app (And.intro @drop_app3 (And.intro @take_map_all (And.intro @AV.int.injEq (And.intro @AV.bool.injEq (And.intro @List.getElem?_cons_zero.{0} (And.intro @List.getElem?_cons_succ.{0} (And.intro @List.getElem?_nil.{0} (And.intro @List.length_cons.{0} (And.intro @List.length_nil.{0} (And.intro @List.length_map.{0, 0} (And.intro @List.length_replicate.{0} (And.intro @List.length_append.{0} (And.intro @List.length_set.{0} (And.intro @List.drop_succ_cons.{0} (And.intro @List.drop_zero.{0} (And.intro @List.take_succ_cons.{0} (And.intro @List.take_zero.{0} (And.intro @List.set_cons_zero.{0} (And.intro @List.set_cons_succ.{0} (@List.nil_append.{0})))))))))))))))))))))))))))))))))))))))
theorem packB4 : type_of% (And.intro @List.append_nil.{0} (And.intro @List.cons_append.{0} (And.intro @Nat.not_succ_le_self (And.intro @Option.some.injEq.{0} (And.intro @Option.isSome_some.{0} (And.intro @and_true (And.intro @true_and (And.intro @and_self (And.intro @true_or (And.intro @or_true (And.intro @or_self (And.intro @true_implies (And.intro @false_implies (And.intro @not_true_eq_false (And.intro @not_false_eq_true (And.intro @Bool.not_true (And.intro @Bool.not_false (And.intro @Bool.true_or (And.intro @Bool.or_true (And.intro @Bool.false_or (And.intro @Bool.or_false (And.intro @beq_self_eq_true.{0} (And.intro @decide_true (And.intro @decide_false (And.intro @Nat.add_zero (And.intro @Nat.zero_add (And.intro @Nat.lt_add_one (And.intro @Int.toNat_zero (And.intro @Int.toNat_natCast (And.intro @tn1 (And.intro @tn3 (And.intro @tn2 (And.intro @Nat.zero_le (And.intro @Nat.le_refl (And.intro @Nat.one_ne_zero (And.intro @Nat.sub_zero (And.intro @Nat.zero_lt_one (@Nat.zero_lt_succ)))))))))))))))))))))))))))))))))))))) := And.intro @List.append_nil.{0} (And.intro @List.cons_append.{0} (And.intro @Nat.not_succ_le_self (And.intro @Option.some.injEq.{0} (And.intro @Option.isSome_some.{0} (And.intro @and_true (And.intro @true_and (And.intro @and_self (And.intro @true_or (And.intro @or_true (And.intro @or_self (And.intro @true_implies (And.intro @false_implies (And.intro @not_true_eq_false (And.intro @not_false_eq_true (And.intro @Bool.not_true (And.intro @Bool.not_false (And.intro @Bool.true_or (And.intro @Bool.or_true (And.intro @Bool.false_or (And.intro @Bool.or_false (And.intro @beq_self_eq_true.{0} (And.intro @decide_true (And.intro @decide_false (And.intro @Nat.add_zero (And.intro @Nat.zero_add (And.intro @Nat.lt_add_one (And.intro @Int.toNat_zero (And.intro @Int.toNat_natCast (And.intro @tn1 (And.intro @tn3 (And.intro @tn2 (And.intro @Nat.zero_le (And.intro @Nat.le_refl (And.intro @Nat.one_ne_zero (And.intro @Nat.sub_zero (And.intro @Nat.zero_lt_one (@Nat.zero_lt_succ)))))))))))))))))))))))))))))))))))))
theorem packA : type_of% (And.intro packA0 (And.intro packA1 packA2)) := And.intro packA0 (And.intro packA1 packA2)
theorem packB : type_of% (And.intro packB0 (And.intro packB1 (And.intro packB2 (And.intro packB3 (And.intro packB4 (And.intro @growK_eq (And.intro @Option.getD_some.{0} @Option.getD_none.{0}))))))) :=
  And.intro packB0 (And.intro packB1 (And.intro packB2 (And.intro packB3 (And.intro packB4 (And.intro @growK_eq (And.intro @Option.getD_some.{0} @Option.getD_none.{0}))))))
end Go.AL
end

section
namespace Go.Proofs.YtgdlkhgfehclpaaGreat
open Go Go.AL
set_option linter.unusedVariables false
set_option linter.unusedSimpArgs false
theorem take_set {xs : List Int} {k m m' : Nat} {z : Int} (hk : k < xs.length) (hm : m = m' + 1) : (List.take k xs ++ List.replicate m z).set k (xs.getD k default) = List.take (k + 1) xs ++ List.replicate m' z := by
  subst hm
  apply List.ext_getElem?
  intro i
  rw [List.getElem?_set]
  simp only [List.length_append, List.length_take, List.length_replicate, List.getD_eq_getElem?_getD, List.getElem?_eq_getElem hk, Option.getD_some]
  by_cases h1 : k = i
  · subst h1
    rw [if_pos rfl, if_pos (by omega), List.getElem?_append_left (by simp; omega), List.getElem?_take_of_lt (by omega), List.getElem?_eq_getElem hk]
  · rw [if_neg h1]
    by_cases h2 : i < k
    · rw [List.getElem?_append_left (by simp; omega), List.getElem?_append_left (by simp; omega), List.getElem?_take_of_lt h2, List.getElem?_take_of_lt (by omega)]
    · rw [List.getElem?_append_right (by simp; omega), List.getElem?_append_right (by simp; omega), List.getElem?_replicate, List.getElem?_replicate]
      simp only [List.length_take]
      have e : (i - min k xs.length < m' + 1) ↔ (i - min (k + 1) xs.length < m') := by omega
      by_cases h3 : i - min k xs.length < m' + 1
      · rw [if_pos h3, if_pos (e.1 h3)]
      · rw [if_neg h3, if_neg (fun h => h3 (e.2 h))]
theorem list_ext_getD {xs ys : List Int} (hl : xs.length = ys.length) (h : ∀ j, j < xs.length → xs.getD j default = ys.getD j default) : xs = ys := by
  apply List.ext_getElem hl
  intro i h1 h2
  have := h i h1
  simpa [List.getD_eq_getElem?_getD, List.getElem?_eq_getElem h1, List.getElem?_eq_getElem h2] using this
set_option maxRecDepth 100000 in
theorem same_pure (xs ys : List Int) (hb : xs.length < 1000000000) : APure Tryz.prog 38 [ints xs, ints ys] (.bool (decide (xs = ys))) := by
  refine apure_of (wp38 rfl rfl ?_)
  simp (maxSteps := 4000000) only [↓packA, ↓reduceIte, packB, pureOp, quietOp, loadOp, quietB, fr0, cellsK, implies_true, ite_true, ite_false, eq_self, ne_eq, reduceCtorEq, Nat.reduceLT, Nat.reduceLeDiff, Nat.reduceAdd, Nat.reduceMul, Nat.reduceBEq, Nat.reduceEqDiff, Int.reduceToNat, Int.reduceLT, Int.reduceLE, Nat.reduceSub, pl38, ft3, ft22, ints]
  refine ⟨fun h => ?_, fun h => LoopK.intro (fun m a h => ∃ k : Nat, m = xs.length - k ∧ k ≤ xs.length ∧ (∀ j, j < k → xs.getD j default = ys.getD j default) ∧ a 5 = .int .i64 k ∧ a 0 = ints xs ∧ a 1 = ints ys ∧ h = []) xs.length ⟨0, rfl, Nat.zero_le _, fun j hj => absurd hj (Nat.not_lt_zero j), ?_⟩ ?_⟩
  · have : decide (xs = ys) = false := by simp; intro e; subst e; exact h rfl
    rw [this]; exact .pure _ rfl
  · simp (maxSteps := 4000000) only [↓packA, ↓reduceIte, packB, pureOp, quietOp, loadOp, quietB, fr0, cellsK, implies_true, ite_true, ite_false, eq_self, ne_eq, reduceCtorEq, Nat.reduceLT, Nat.reduceLeDiff, Nat.reduceAdd, Nat.reduceMul, Nat.reduceBEq, Nat.reduceEqDiff, Int.reduceToNat, Int.reduceLT, Int.reduceLE, Nat.reduceSub, pl38, ft3, ft22, ints, Int.natCast_zero]
  · rintro m a h1 ⟨k, rfl, hk, hj, a5, a0, a1, rfl⟩
    simp (maxSteps := 4000000) only [↓packA, ↓reduceIte, packB, pureOp, quietOp, loadOp, quietB, fr0, cellsK, implies_true, ite_true, ite_false, eq_self, ne_eq, reduceCtorEq, Nat.reduceLT, Nat.reduceLeDiff, Nat.reduceAdd, Nat.reduceMul, Nat.reduceBEq, Nat.reduceEqDiff, Int.reduceToNat, Int.reduceLT, Int.reduceLE, Nat.reduceSub, pl38, ft3, ft22, ints, a0, a1, a5]
    have hl : xs.length = ys.length := by omega
    refine ⟨fun h2 => ⟨by omega, by omega, by omega, by omega, fun h3 => ?_, fun h3 => ⟨by omega, .inl ⟨xs.length - (k + 1), by omega, k + 1, rfl, by omega, fun j hj2 => ?_, by omega⟩⟩⟩, fun h2 => ?_⟩
    · have : decide (xs = ys) = false := by simp; intro e; subst e; exact h3 rfl
      rw [this]; exact .pure _ rfl
    · by_cases e : j = k
      · subst e; exact h3
      · exact hj j (by omega)
    · have : decide (xs = ys) = true := by simp; exact list_ext_getD hl fun j h3 => hj j (by omega)
      rw [this]; exact .pure _ rfl
set_option maxRecDepth 100000 in
theorem copy_c (xs : List Int) (hb : xs.length < 1000000000) : ACalls Tryz.prog 14 [ints xs] [] fun v h => v = .osl 0 1 0 xs.length (xs.length + 3) true ∧ h = [Ob.arr 1 (List.map intE (xs ++ [0, 0, 0])) true] := by
  refine (wp14 rfl rfl ?_)
  simp (maxSteps := 4000000) only [↓packA, ↓reduceIte, packB, pureOp, quietOp, loadOp, quietB, fr0, cellsK, implies_true, ite_true, ite_false, eq_self, ne_eq, reduceCtorEq, Nat.reduceLT, Nat.reduceLeDiff, Nat.reduceAdd, Nat.reduceMul, Nat.reduceBEq, Nat.reduceEqDiff, Int.reduceToNat, Int.reduceLT, Int.reduceLE, Nat.reduceSub, pl14, ft3, ft22, ints]
  refine ⟨by omega, by omega, LoopK.intro (fun m a h => ∃ k : Nat, m = xs.length - k ∧ k ≤ xs.length ∧ a 0 = ints xs ∧ a 3 = .osl 0 1 0 xs.length (xs.length + 3) true ∧ a 4 = .int .i64 k ∧ h = [Ob.arr 1 (List.map intE (xs.take k ++ List.replicate (xs.length + 3 - k) 0)) true]) xs.length ⟨0, rfl, Nat.zero_le _, ?_⟩ ?_⟩
  · simp (maxSteps := 4000000) only [↓packA, ↓reduceIte, packB, pureOp, quietOp, loadOp, quietB, fr0, cellsK, implies_true, ite_true, ite_false, eq_self, ne_eq, reduceCtorEq, Nat.reduceLT, Nat.reduceLeDiff, Nat.reduceAdd, Nat.reduceMul, Nat.reduceBEq, Nat.reduceEqDiff, Int.reduceToNat, Int.reduceLT, Int.reduceLE, Nat.reduceSub, pl14, ft3, ft22, ints, Int.natCast_zero]
  · rintro m a h1 ⟨k, rfl, hk, a0, a3, a4, rfl⟩
    simp (maxSteps := 4000000) only [↓packA, ↓reduceIte, packB, pureOp, quietOp, loadOp, quietB, fr0, cellsK, implies_true, ite_true, ite_false, eq_self, ne_eq, reduceCtorEq, Nat.reduceLT, Nat.reduceLeDiff, Nat.reduceAdd, Nat.reduceMul, Nat.reduceBEq, Nat.reduceEqDiff, Int.reduceToNat, Int.reduceLT, Int.reduceLE, Nat.reduceSub, pl14, ft3, ft22, ints, a0, a3, a4]
    have hset : k < xs.length → (List.take k xs ++ List.replicate (xs.length + 3 - k) 0).set k (xs.getD k default) = List.take (k + 1) xs ++ List.replicate (xs.length + 3 - (k + 1)) 0 := fun hk => take_set hk (by omega)
    refine ⟨fun e => ⟨by omega, by omega, by omega, by rw [List.length_take]; omega, by omega, .inl ⟨xs.length - (k + 1), by omega, k + 1, rfl, by omega, by omega, by rw [hset (by omega)]⟩⟩, fun e => ?_⟩
    have : k = xs.length := by omega
    subst this
    rw [List.take_length, Nat.add_sub_cancel_left]
    rfl
def okAt (n : Int) (xs : List Int) (i : Nat) : Prop := 0 ≤ xs.getD i default ∧ xs.getD i default < n ∧ ∀ j, j < i → xs.getD j default ≠ xs.getD i default
def ordOK (n : Int) (xs : List Int) : Prop := ∀ i, i < xs.length → okAt n xs i
open Classical in
noncomputable def checkR (n : Int) (xs : List Int) : Int := if n < 0 ∨ 128 < n then 220 else if (xs.length : Int) ≠ n then 182 else if ordOK n xs then 0 else 182
def seenOK (xs : List Int) (k : Nat) (bs : List Bool) : Prop := ∀ v : Nat, v < bs.length → (bs.getD v default = true ↔ ∃ j, j < k ∧ xs.getD j default = v)
theorem seen0 (xs : List Int) (n : Nat) : seenOK xs 0 (List.replicate n false) := fun v hv => by
  rw [List.getD_eq_getElem?_getD, List.getElem?_replicate]
  simp only [List.length_replicate] at hv
  rw [if_pos hv]
  simp
theorem seen_set {xs : List Int} {k : Nat} {bs : List Bool} (hs : seenOK xs k bs) (h0 : 0 ≤ xs.getD k default) (h1 : (xs.getD k default).toNat < bs.length) : seenOK xs (k + 1) (bs.set (xs.getD k default).toNat true) := fun v hv => by
  simp only [List.length_set] at hv
  rw [List.getD_eq_getElem?_getD, List.getElem?_set]
  by_cases e : (xs.getD k default).toNat = v
  · rw [if_pos e, if_pos h1]
    simp only [Option.getD_some, true_iff]
    exact ⟨k, by omega, by omega⟩
  · rw [if_neg e, ← List.getD_eq_getElem?_getD, hs v hv]
    constructor
    · rintro ⟨j, hj, hj2⟩; exact ⟨j, by omega, hj2⟩
    · rintro ⟨j, hj, hj2⟩
      by_cases hjk : j < k
      · exact ⟨j, hjk, hj2⟩
      · have : j = k := by omega
        subst this
        omega
set_option maxRecDepth 100000 in
theorem check_c (n : Int) (xs : List Int) : APure Tryz.prog 21 [.int .i64 n, ints xs] (.int .i64 (checkR n xs)) := by
  refine apure_of (wp21 rfl rfl ?_)
  simp (maxSteps := 4000000) +contextual only [↓packA, ↓reduceIte, packB, pureOp, quietOp, loadOp, quietB, fr0, cellsK, implies_true, ite_true, ite_false, eq_self, ne_eq, reduceCtorEq, Nat.reduceLT, Nat.reduceLeDiff, Nat.reduceAdd, Nat.reduceMul, Nat.reduceBEq, Nat.reduceEqDiff, Int.reduceToNat, Int.reduceLT, Int.reduceLE, Nat.reduceSub, pl21, ft3, ft4, ft22, ft88, ints]
  refine ⟨fun h => ?_, fun h => ⟨fun h1 => ?_, fun h1 => ⟨fun h2 => ?_, fun h2 => ?_⟩⟩⟩
  · rw [show checkR n xs = 220 from if_pos (.inl h)]; exact .pure _ rfl
  · rw [show checkR n xs = 220 from if_pos (.inr h1)]; exact .pure _ rfl
  · rw [show checkR n xs = 182 by unfold checkR; rw [if_neg (by omega), if_pos h2]]; exact .pure _ rfl
  refine LoopK.intro (fun m a h => ∃ (k : Nat) (bs : List Bool), m = xs.length - k ∧ k ≤ xs.length ∧ (∀ i, i < k → okAt n xs i) ∧ bs.length = 128 ∧ seenOK xs k bs ∧ a 0 = .int .i64 n ∧ a 5 = .op 0 128 0 0 ∧ a 18 = ints xs ∧ a 19 = .int .i64 n ∧ a 20 = .int .i64 k ∧
    h = [Ob.arr 128 [List.map AV.bool bs] true]) xs.length ⟨0, List.replicate 128 false, rfl, Nat.zero_le _, fun j hj => absurd hj (Nat.not_lt_zero j), by simp, seen0 xs 128, ?_⟩ ?_
  · simp (maxSteps := 4000000) only [↓packA, ↓reduceIte, packB, pureOp, quietOp, loadOp, quietB, fr0, cellsK, implies_true, ite_true, ite_false, eq_self, ne_eq, reduceCtorEq, Nat.reduceLT, Nat.reduceLeDiff, Nat.reduceAdd, Nat.reduceMul, Nat.reduceBEq, Nat.reduceEqDiff, Int.reduceToNat, Int.reduceLT, Int.reduceLE, Nat.reduceSub, pl21, ft3, ft4, ft22, ft88, ints, Int.natCast_zero]
  · rintro m a h3 ⟨k, bs, rfl, hk, hok, hbl, hs, a0, a5, a18, a19, a20, rfl⟩
    simp (maxSteps := 4000000) +contextual only [↓packA, ↓reduceIte, packB, pureOp, quietOp, loadOp, quietB, fr0, cellsK, implies_true, ite_true, ite_false, eq_self, ne_eq, reduceCtorEq, Nat.reduceLT, Nat.reduceLeDiff, Nat.reduceAdd, Nat.reduceMul, Nat.reduceBEq, Nat.reduceEqDiff, Int.reduceToNat, Int.reduceLT, Int.reduceLE, Nat.reduceSub, pl21, ft3, ft4, ft22, ft88, ints, a0, a5, a18, a19, a20, hbl]
    have hbad : ¬ okAt n xs k → k < xs.length → checkR n xs = 182 := fun hn hk => by
      unfold checkR; rw [if_neg (by omega), if_neg (by omega), if_neg (fun ho => hn (ho k hk))]
    refine ⟨fun e => ⟨by omega, by omega, fun e1 => ?_, fun e1 => ⟨fun e2 => ?_, fun e2 => ⟨by omega, by omega, fun e3 => ?_, fun e3 => ⟨by omega, by omega, by omega, .inl ⟨xs.length - (k + 1), by omega, k + 1, _, rfl, by omega, ?_, by simpa using hbl, ?_, by omega, rfl⟩⟩⟩⟩⟩, fun e => ?_⟩
    · rw [hbad (fun ho => absurd ho.1 (by omega)) (by omega)]; exact .pure _ rfl
    · rw [hbad (fun ho => absurd ho.2.1 (by omega)) (by omega)]; exact .pure _ rfl
    · obtain ⟨j, hj, hj2⟩ := (hs (xs.getD k default).toNat (by omega)).1 e3
      rw [hbad (fun ho => ho.2.2 j hj (by omega)) (by omega)]; exact .pure _ rfl
    · intro i hi
      by_cases hik : i < k
      · exact hok i hik
      · have : i = k := by omega
        subst this
        refine ⟨by omega, by omega, fun j hj hjx => ?_⟩
        have := (hs (xs.getD i default).toNat (by omega)).2 ⟨j, hj, by omega⟩
        rw [this] at e3; cases e3
    · exact seen_set hs (by omega) (by omega)
    · rw [show checkR n xs = 0 by unfold checkR; rw [if_neg (by omega), if_neg (by omega), if_pos (show ordOK n xs from fun i hi => hok i (by omega))]]; exact .pure _ rfl
set_option maxRecDepth 100000 in
theorem checkr_c (n : Int) (xs : List Int) : APure Tryz.prog 76 [.int .i64 n, ints xs] (.int .i64 (checkR n xs)) := by
  refine apure_of (wp76 rfl rfl ?_)
  simp (maxSteps := 4000000) +contextual only [↓packA, ↓reduceIte, packB, pureOp, quietOp, loadOp, quietB, fr0, cellsK, implies_true, ite_true, ite_false, eq_self, ne_eq, reduceCtorEq, Nat.reduceLT, Nat.reduceLeDiff, Nat.reduceAdd, Nat.reduceMul, Nat.reduceBEq, Nat.reduceEqDiff, Int.reduceToNat, Int.reduceLT, Int.reduceLE, Nat.reduceSub, pl76, ft3, ft4, ft22, ft96, ints]
  refine ⟨fun h => ?_, fun h => ⟨fun h1 => ?_, fun h1 => ⟨fun h2 => ?_, fun h2 => ⟨by omega, ?_⟩⟩⟩⟩
  · rw [show checkR n xs = 220 from if_pos (.inl h)]; exact .pure _ rfl
  · rw [show checkR n xs = 220 from if_pos (.inr h1)]; exact .pure _ rfl
  · rw [show checkR n xs = 182 by unfold checkR; rw [if_neg (by omega), if_pos h2]]; exact .pure _ rfl
  refine LoopK.intro (fun m a h => ∃ (k : Nat) (bs : List Bool), m = xs.length - k ∧ k ≤ xs.length ∧ (∀ i, i < k → okAt n xs i) ∧ bs.length = n.toNat ∧ seenOK xs k bs ∧ a 0 = .int .i64 n ∧ a 1 = ints xs ∧ a 5 = .osl 0 1 0 n.toNat n.toNat true ∧ a 6 = .int .i64 k ∧
    h = [Ob.arr 1 (List.map boolE bs) true]) xs.length ⟨0, List.replicate n.toNat false, rfl, Nat.zero_le _, fun j hj => absurd hj (Nat.not_lt_zero j), by simp, seen0 xs n.toNat, ?_⟩ ?_
  · simp (maxSteps := 4000000) only [↓packA, ↓reduceIte, packB, pureOp, quietOp, loadOp, quietB, fr0, cellsK, implies_true, ite_true, ite_false, eq_self, ne_eq, reduceCtorEq, Nat.reduceLT, Nat.reduceLeDiff, Nat.reduceAdd, Nat.reduceMul, Nat.reduceBEq, Nat.reduceEqDiff, Int.reduceToNat, Int.reduceLT, Int.reduceLE, Nat.reduceSub, pl76, ft3, ft4, ft22, ft96, ints, Int.natCast_zero]
  · rintro m a h3 ⟨k, bs, rfl, hk, hok, hbl, hs, a0, a1, a5, a6, rfl⟩
    simp (maxSteps := 4000000) +contextual only [↓packA, ↓reduceIte, packB, pureOp, quietOp, loadOp, quietB, fr0, cellsK, implies_true, ite_true, ite_false, eq_self, ne_eq, reduceCtorEq, Nat.reduceLT, Nat.reduceLeDiff, Nat.reduceAdd, Nat.reduceMul, Nat.reduceBEq, Nat.reduceEqDiff, Int.reduceToNat, Int.reduceLT, Int.reduceLE, Nat.reduceSub, pl76, ft3, ft4, ft22, ft96, ints, a0, a1, a5, a6, hbl]
    have hbad : ¬ okAt n xs k → k < xs.length → checkR n xs = 182 := fun hn hk => by
      unfold checkR; rw [if_neg (by omega), if_neg (by omega), if_neg (fun ho => hn (ho k hk))]
    refine ⟨fun e => ⟨by omega, by omega, fun e1 => ?_, fun e1 => ⟨by omega, by omega, fun e2 => ?_, fun e2 => ⟨by omega, by omega, by omega, by omega, fun e3 => ?_, fun e3 => ⟨by omega, by omega, by omega, by omega, by omega, .inl ⟨xs.length - (k + 1), by omega, k + 1, _, rfl, by omega, ?_, by simpa using hbl, ?_, by omega, rfl⟩⟩⟩⟩⟩, fun e => ?_⟩
    · rw [hbad (fun ho => absurd ho.1 (by omega)) (by omega)]; exact .pure _ rfl
    · rw [hbad (fun ho => absurd ho.2.1 (by omega)) (by omega)]; exact .pure _ rfl
    · obtain ⟨j, hj, hj2⟩ := (hs (xs.getD k default).toNat (by omega)).1 e3
      rw [hbad (fun ho => ho.2.2 j hj (by omega)) (by omega)]; exact .pure _ rfl
    · intro i hi
      by_cases hik : i < k
      · exact hok i hik
      · have : i = k := by omega
        subst this
        refine ⟨by omega, by omega, fun j hj hjx => ?_⟩
        have := (hs (xs.getD i default).toNat (by omega)).2 ⟨j, hj, by omega⟩
        rw [this] at e3; cases e3
    · exact seen_set hs (by omega) (by omega)
    · rw [show checkR n xs = 0 by unfold checkR; rw [if_neg (by omega), if_neg (by omega), if_pos (show ordOK n xs from fun i hi => hok i (by omega))]]; exact .pure _ rfl
end Go.Proofs.YtgdlkhgfehclpaaGreat
end
