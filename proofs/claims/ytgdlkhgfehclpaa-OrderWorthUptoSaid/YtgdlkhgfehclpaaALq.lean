/- The small logic's calls: objects left out; a function's own objects laid behind the caller's; fresh answers; loops told round by round; cuts. No condition. -/
import Derived.Test.YtgdlkhgfehclpaaALp
namespace Go.AL
set_option linter.unusedVariables false
set_option linter.unusedSimpArgs false
section
variable {P : Program}

theorem ACalls.mono' {f : FuncId} {args : List AV} {h : Heap} {Q Q' : AV → Heap → Prop} (hc : ACalls P f args h Q) (hq : ∀ u h', Q u h' → Q' u h') : ACalls P f args h Q' := by
  refine ⟨hc.1, fun I β w vs r hv => (hc.2 I β w vs r hv).mono ?_⟩
  rintro e w' ⟨cv, u, I', β', h', h1, h2, h3⟩
  exact ⟨cv, u, I', β', h', h1, hq _ _ h2, h3⟩
theorem acalls_gc {f : FuncId} {args : List AV} {h : Heap} {Q : AV → Heap → Prop} (hc : ACalls P f args h fun u h' => ∃ ids : List Nat, (ids.Nodup ∧ ids.take h.length = List.range h.length) ∧ Q (u.ren (posOf ids)) (gcH ids h')) : ACalls P f args h Q := by
  refine ⟨hc.1, fun I β w vs r hv => (hc.2 I β w vs r hv).mono ?_⟩
  rintro e w' ⟨cv, u, I', β', h', h1, ⟨ids, ⟨h2, h3⟩, h4⟩, h5, h6, h7⟩
  exact ⟨cv, _, I', _, _, h1, h4, h5.gc h3, h6.gc h2, h7.gc⟩

/-! ### objects laid behind -/
def sh (N : Nat) : Nat → Option Nat := fun id => some (id + N)
def behind (h h0 : Heap) : Heap := h ++ h0.map (Ob.ren (sh h.length))
mutual
/-- Nothing in it lies in memory that is not its own. -/
def AV.lean : AV → Bool
  | .ip .. => false
  | .isl .. => false
  | .fn _ fs cs => leans fs && leans cs
  | .ifc _ v => v.lean
  | .agg cs => leans cs
  | .tup cs => leans cs
  | .int .. => true
  | .bool _ => true
  | .str _ => true
  | .flt .. => true
  | .nilp => true
  | .nils => true
  | .nilf => true
  | .nili => true
  | .nilm => true
  | .op .. => true
  | .osl .. => true
  | .om _ => true
  | .any => true
def leans : List AV → Bool
  | [] => true
  | v :: r => v.lean && leans r
end
theorem leans_get {l : List AV} (h : leans l = true) {j : Nat} {u : AV} (hj : l[j]? = some u) : u.lean = true := by
  induction l generalizing j with
  | nil => simp at hj
  | cons v r ih =>
    simp only [leans, Bool.and_eq_true] at h
    cases j with
    | zero => simp at hj; subst hj; exact h.1
    | succ j => simp at hj; exact ih h.2 hj
def Ob.lean : Ob → Bool
  | .dead => true
  | .arr _ es _ => es.all leans
  | .map es _ => es.all fun x => x.1.lean && x.2.1.lean
section
variable {I I' : Nat → Prop} {β : Nat → Nat} {N : Nat} {w : World}
theorem IRel.lean {u : AV} {v : Value} (h : IRel I w u v) (hl : u.lean = true) : IRel I' w u v := by
  induction h with
  | int k n => exact .int k n
  | bool b => exact .bool b
  | str s => exact .str s
  | flt k n => exact .flt k n
  | nilp => exact .nilp
  | nils => exact .nils
  | nilf => exact .nilf
  | nili => exact .nili
  | nilm => exact .nilm
  | ip _ _ _ _ _ _ _ _ _ _ _ => simp [AV.lean] at hl
  | isl0 _ _ _ => simp [AV.lean] at hl
  | isl _ _ _ _ _ _ _ _ _ _ _ _ _ _ => simp [AV.lean] at hl
  | fn f fs cs fs' cs' h1 h2 _ _ ih1 ih2 =>
    simp only [AV.lean, Bool.and_eq_true] at hl
    exact .fn f fs cs fs' cs' h1 h2 (fun j u v hu hv => ih1 j u v hu hv (leans_get hl.1 hu)) (fun j u v hu hv => ih2 j u v hu hv (leans_get hl.2 hu))
  | ifc t u v _ ih => exact .ifc t u v (ih (by simpa [AV.lean] using hl))
  | agg cs cs' h1 h2 _ ih => exact .agg cs cs' h1 h2 (fun j u v hu hv => ih j u v hu hv (leans_get (by simpa [AV.lean] using hl) hu))
  | tup cs cs' h1 _ ih => exact .tup cs cs' h1 (fun j u v hu hv => ih j u v hu hv (leans_get (by simpa [AV.lean] using hl) hu))
theorem VRel.lean {u : AV} {v : Value} (h : VRel I β N w u v) (hl : u.lean = true) : VRel I' β N w u v := by
  induction h with
  | imm u v h => exact .imm u v (h.lean hl)
  | any v => exact .any v
  | op id k e off h => exact .op id k e off h
  | osl id k i len cap ex c n h h0 h1 h2 h3 h4 => exact .osl id k i len cap ex c n h h0 h1 h2 h3 h4
  | om id h => exact .om id h
  | fn f fs cs fs' cs' h1 h2 _ _ ih1 ih2 =>
    simp only [AV.lean, Bool.and_eq_true] at hl
    exact .fn f fs cs fs' cs' h1 h2 (fun j u v hu hv => ih1 j u v hu hv (leans_get hl.1 hu)) (fun j u v hu hv => ih2 j u v hu hv (leans_get hl.2 hu))
  | ifc t u v _ ih => exact .ifc t u v (ih (by simpa [AV.lean] using hl))
  | agg cs cs' h1 h2 _ ih => exact .agg cs cs' h1 h2 (fun j u v hu hv => ih j u v hu hv (leans_get (by simpa [AV.lean] using hl) hu))
  | tup cs cs' h1 _ ih => exact .tup cs cs' h1 (fun j u v hu hv => ih j u v hu hv (leans_get (by simpa [AV.lean] using hl) hu))
theorem ORel.lean {o : Ob} {x : Option Obj} (h : ORel I β N w o x) (hl : o.lean = true) : ORel I' β N w o x := by
  cases o with
  | dead => trivial
  | arr k es ex =>
    obtain ⟨cur, t, h1, h2, h3, h4, h5⟩ := h
    refine ⟨cur, t, h1, h2, h3, h4, fun i e j u he hu => ?_⟩
    obtain ⟨v, h6, h7, h8⟩ := h5 i e j u he hu
    simp only [Ob.lean, List.all_eq_true] at hl
    exact ⟨v, h6, h7.lean (leans_get (hl e (List.mem_of_getElem? he)) hu), h8⟩
  | map es c =>
    obtain ⟨es', h1, h2, h3⟩ := h
    refine ⟨es', h1, h2, fun j x y hx hy => ?_⟩
    obtain ⟨q1, q2, q3⟩ := h3 j x y hx hy
    simp only [Ob.lean, List.all_eq_true, Bool.and_eq_true] at hl
    have := hl x (List.mem_of_getElem? hx)
    exact ⟨q1.lean this.1, q2.lean this.2, q3⟩
end

def joinB (N : Nat) (β β' : Nat → Nat) : Nat → Nat := fun id => if id < N then β id else β' (id - N)
theorem behind_length {h h0 : Heap} : (behind h h0).length = h.length + h0.length := by simp [behind]
theorem behind_get {h h0 : Heap} {id : Nat} {o : Ob} (ho : (behind h h0)[id]? = some o) : (id < h.length ∧ h[id]? = some o) ∨ (h.length ≤ id ∧ ∃ o0, h0[id - h.length]? = some o0 ∧ o = o0.ren (sh h.length)) := by
  unfold behind at ho
  by_cases hid : id < h.length
  · rw [List.getElem?_append_left hid] at ho; exact .inl ⟨hid, ho⟩
  · rw [List.getElem?_append_right (by omega), List.getElem?_map] at ho
    cases hh : h0[id - h.length]? with
    | none => rw [hh] at ho; simp at ho
    | some o0 => rw [hh] at ho; simp at ho; exact .inr ⟨by omega, o0, rfl, ho.symm⟩

theorem shift_core {I I' : Nat → Prop} {β β' : Nat → Nat} {h h0 : Heap} {w w' : World} (r : Rel I β h w) (hos : w'.os = w.os) (htp : w'.tape = w.tape) (hout : w'.output = w.output) (hsz : w.heap.size ≤ w'.heap.size)
    (hkeep : ∀ b, b < w.heap.size → w'.heap[b]? = w.heap[b]?) (hown : ∀ b, Own h0 β' b → w.heap.size ≤ b) (r0 : Rel I' β' h0 w') (hI : ∀ b, I b → I' b) (hnew : ∀ b, I' b → I b ∨ w.heap.size ≤ b) :
    Ext I β h w I' (joinB h.length β β') (behind h h0) w' ∧ Rel I' (joinB h.length β β') (behind h h0) w' ∧ ∀ u v, VRel I' β' h0.length w' u v → VRel I' (joinB h.length β β') (behind h h0).length w' (u.ren (sh h.length)) v := by
  have hbs : ∀ b n, bsize w b = some n → bsize w' b = some n := fun b n hb => by
    have hlt : b < w.heap.size := by
      unfold bsize at hb
      split at hb
      · rename_i h1; exact (Array.getElem?_eq_some_iff.1 h1).1
      · simp at hb
    rw [bsize_of_heap (hkeep b hlt)]
    exact hb
  have hj1 : ∀ id, id < h.length → joinB h.length β β' id = β id := fun id hid => by simp [joinB, hid]
  have hj2 : ∀ id, joinB h.length β β' (id + h.length) = β' id := fun id => by unfold joinB; rw [if_neg (by omega), Nat.add_sub_cancel]
  have hρ : ∀ id j, id < h0.length → sh h.length id = some j → j < (behind h h0).length ∧ joinB h.length β β' j = β' id := fun id j hid hj => by
    simp only [sh, Option.some.injEq] at hj
    subst hj
    exact ⟨by rw [behind_length]; omega, hj2 id⟩
  have hm : ∀ u v, VRel I β h.length w u v → VRel I' (joinB h.length β β') (behind h h0).length w' u v := fun u v hv =>
    hv.mono hI (fun b hb => hkeep b (r.imm b hb)) (by rw [behind_length]; omega) (fun id hid => hj1 id hid) hbs
  refine ⟨⟨hos, htp, hout, hsz, by rw [behind_length]; omega, fun id hid => hj1 id hid, hI, fun b hb => (hnew b hb).imp id .inr, fun b hb => ?_, fun b hb _ => hkeep b hb, hbs⟩, ⟨r0.imm, fun id o ho hd => ?_, fun id id' o o' ho hd ho' hd' hb => ?_⟩, fun u v hv => hv.ren hρ⟩
  · obtain ⟨id, o, ho, hd, rfl⟩ := hb
    rcases behind_get ho with ⟨h1, h2⟩ | ⟨h1, o0, h2, rfl⟩
    · rw [hj1 id h1]; exact .inl ⟨id, o, h2, hd, rfl⟩
    · obtain ⟨j, rfl⟩ : ∃ j, id = j + h.length := ⟨id - h.length, by omega⟩
      rw [hj2]
      exact .inr (hown _ ⟨j, o0, by simpa using h2, Ob.ren_dead hd, rfl⟩)
  · rcases behind_get ho with ⟨h1, h2⟩ | ⟨h1, o0, h2, rfl⟩
    · rw [hj1 id h1]
      obtain ⟨q1, q2, q3⟩ := r.obj id o h2 hd
      refine ⟨by omega, fun hi => ?_, by rw [hkeep _ q1]; exact q3.mono hm⟩
      rcases hnew _ hi with h3 | h3
      · exact q2 h3
      · omega
    · obtain ⟨j, rfl⟩ : ∃ j, id = j + h.length := ⟨id - h.length, by omega⟩
      rw [hj2]
      obtain ⟨q1, q2, q3⟩ := r0.obj j o0 (by simpa using h2) (Ob.ren_dead hd)
      exact ⟨q1, q2, q3.ren hρ⟩
  · rcases behind_get ho with ⟨h1, h2⟩ | ⟨h1, o0, h2, rfl⟩ <;> rcases behind_get ho' with ⟨h1', h2'⟩ | ⟨h1', o0', h2', rfl⟩
    · rw [hj1 id h1, hj1 id' h1'] at hb; exact r.inj id id' o o' h2 hd h2' hd' hb
    · obtain ⟨j, rfl⟩ : ∃ j, id' = j + h.length := ⟨id' - h.length, by omega⟩
      rw [hj1 id h1, hj2] at hb
      have q := hown _ ⟨j, o0', by simpa using h2', Ob.ren_dead hd', rfl⟩
      have q' := (r.obj id o h2 hd).1
      omega
    · obtain ⟨j, rfl⟩ : ∃ j, id = j + h.length := ⟨id - h.length, by omega⟩
      rw [hj1 id' h1', hj2] at hb
      have q := hown _ ⟨j, o0, by simpa using h2, Ob.ren_dead hd, rfl⟩
      have q' := (r.obj id' o' h2' hd').1
      omega
    · obtain ⟨j, rfl⟩ : ∃ j, id = j + h.length := ⟨id - h.length, by omega⟩
      obtain ⟨j', rfl⟩ : ∃ j, id' = j + h.length := ⟨id' - h.length, by omega⟩
      rw [hj2, hj2] at hb
      rw [r0.inj j j' o0 o0' (by simpa using h2) (Ob.ren_dead hd) (by simpa using h2') (Ob.ren_dead hd') hb]

/-- A function that was walked from an empty heap, called with values alone. -/
theorem acalls_shift {f : FuncId} {args : List AV} {h : Heap} {R Q : AV → Heap → Prop} (hc : ACalls P f args [] R) (ha : pures args = true) (hq : ∀ u h0, R u h0 → Q (u.ren (sh h.length)) (behind h h0)) : ACalls P f args h Q := by
  refine ⟨hc.1, fun I β w vs r hv => ?_⟩
  have hv' : VRels I (fun _ => 0) 0 w args vs := ⟨hv.1, fun j u v hu hv' => .imm _ _ ((hv.2 j u v hu hv').toI (pures_get ha hu))⟩
  refine (hc.2 I (fun _ => 0) w vs ⟨r.imm, fun id o h => by simp at h, fun id id' o o' h => by simp at h⟩ hv').mono ?_
  rintro e w' ⟨cv, u, I', β', h0, rfl, hr, he, r0, hvr⟩
  obtain ⟨h1, h2, h3⟩ := shift_core r he.os he.tape he.output he.size (fun b hb => he.keep b hb own_nil) (fun b hb => (he.own b hb).elim (fun x => absurd x own_nil) id) r0 he.sub
    (fun b hb => (he.immnew b hb).elim .inl fun x => x.elim (fun x => absurd x own_nil) .inr)
  exact ⟨cv, _, I', _, _, rfl, hq _ _ hr, h1, h2, h3 _ _ hvr⟩

/-- The same, what one owns lent to it; what it hands back is its own. -/
theorem acalls_lend_shift {f : FuncId} {args args' : List AV} {h : Heap} {R Q : AV → Heap → Prop} (hc : ACalls P f args' [] R) (ha : Frzs h args args') (hq : ∀ u h0, R u h0 → (u.lean = true ∧ ∀ o, o ∈ h0 → o.lean = true) ∧ Q (u.ren (sh h.length)) (behind h h0)) : ACalls P f args h Q := by
  refine ⟨hc.1, fun I β w vs r hv => ?_⟩
  have hJ : ∀ b, IO I β h b → b < w.heap.size := by
    rintro b (hb | ⟨id, o, h1, h2, rfl⟩)
    · exact r.imm b hb
    · exact (r.obj id o h1 h2).1
  have hv' : VRels (IO I β h) (fun _ => 0) 0 w args' vs := ⟨by rw [ha.1]; exact hv.1, fun j u' v hu hv' => by
    obtain ⟨u, hu0⟩ := getElem?_lt ha.1 hu
    exact .imm _ _ ((ha.2 j u u' hu0 hu).rel r (hv.2 j u v hu0 hv'))⟩
  refine (hc.2 (IO I β h) (fun _ => 0) w vs ⟨hJ, fun id o h => by simp at h, fun id id' o o' h => by simp at h⟩ hv').mono ?_
  rintro e w' ⟨cv, u, I', β', h0, rfl, hr, he, r0, hvr⟩
  obtain ⟨⟨hl1, hl2⟩, hqq⟩ := hq _ _ hr
  have r0' : Rel (fun b => I b ∨ (I' b ∧ w.heap.size ≤ b)) β' h0 w' := by
    refine ⟨fun b hb => ?_, fun id o h1 h2 => ?_, r0.inj⟩
    · rcases hb with hb | hb
      · have := r.imm b hb; have := he.size; omega
      · exact r0.imm b hb.1
    · obtain ⟨q1, q2, q3⟩ := r0.obj id o h1 h2
      refine ⟨q1, fun hx => q2 ?_, q3.lean (hl2 o (List.mem_of_getElem? h1))⟩
      rcases hx with hx | hx
      · exact he.sub _ (.inl hx)
      · exact hx.1
  obtain ⟨h1, h2, h3⟩ := shift_core r he.os he.tape he.output he.size (fun b hb => he.keep b hb own_nil) (fun b hb => (he.own b hb).elim (fun x => absurd x own_nil) id) r0' (fun b hb => .inl hb) (fun b hb => hb.imp id fun x => x.2)
  exact ⟨cv, _, _, _, _, rfl, hqq, h1, h2, h3 _ _ (hvr.lean hl1)⟩

/-- What is told of an own value once nobody writes it any more, and nothing of it lies elsewhere. -/
inductive OFz (h : Heap) : AV → AV → Prop
  | flat (u : AV) : u.flat = true → OFz h u u
  | nils (k : Nat) : OFz h .nils (.isl k [])
  | osl (id k i len cap : Nat) (ex ex' : Bool) (es : List (List AV)) : h[id]? = some (.arr k es ex') → i + len ≤ es.length → (∀ e, e ∈ es → flats e = true) → OFz h (.osl id k i len cap ex) (.isl k ((es.drop i).take len))
  | tup (cs cs' : List AV) : cs'.length = cs.length → (∀ (q : Nat) (u u' : AV), cs[q]? = some u → cs'[q]? = some u' → OFz h u u') → OFz h (.tup cs) (.tup cs')
  | agg (cs cs' : List AV) : cs'.length = cs.length → (∀ (q : Nat) (u u' : AV), cs[q]? = some u → cs'[q]? = some u' → OFz h u u') → OFz h (.agg cs) (.agg cs')
theorem OFz.two {h : Heap} {u v u' v' : AV} (h1 : OFz h u u') (h2 : OFz h v v') : OFz h (.tup [u, v]) (.tup [u', v']) := by
  refine .tup _ _ rfl fun q x x' hx hx' => ?_
  match q with
  | 0 => simp at hx hx'; subst hx hx'; exact h1
  | 1 => simp at hx hx'; subst hx hx'; exact h2
  | q + 2 => simp at hx
theorem OFz.three {h : Heap} {u v t u' v' t' : AV} (h1 : OFz h u u') (h2 : OFz h v v') (h3 : OFz h t t') : OFz h (.tup [u, v, t]) (.tup [u', v', t']) := by
  refine .tup _ _ rfl fun q x x' hx hx' => ?_
  match q with
  | 0 => simp at hx hx'; subst hx hx'; exact h1
  | 1 => simp at hx hx'; subst hx hx'; exact h2
  | 2 => simp at hx hx'; subst hx hx'; exact h3
  | q + 3 => simp at hx
mutual
theorem flat_pure : ∀ (u : AV), u.flat = true → u.pure = true
  | .agg cs, h => by simpa [AV.pure] using flat_pures cs (by simpa [AV.flat] using h)
  | .tup cs, h => by simpa [AV.pure] using flat_pures cs (by simpa [AV.flat] using h)
  | .int .., _ => rfl
  | .bool _, _ => rfl
  | .str _, _ => rfl
  | .flt .., _ => rfl
  | .nilp, _ => rfl
  | .nils, _ => rfl
  | .nilf, _ => rfl
  | .nili, _ => rfl
  | .nilm, _ => rfl
  | .ip .., h => by simp [AV.flat] at h
  | .isl .., h => by simp [AV.flat] at h
  | .op .., h => by simp [AV.flat] at h
  | .osl .., h => by simp [AV.flat] at h
  | .om _, h => by simp [AV.flat] at h
  | .fn .., h => by simp [AV.flat] at h
  | .ifc .., h => by simp [AV.flat] at h
  | .any, h => by simp [AV.flat] at h
theorem flat_pures : ∀ (l : List AV), flats l = true → pures l = true
  | [], _ => rfl
  | a :: l, h => by
    simp only [flats, pures, Bool.and_eq_true] at h ⊢
    exact ⟨flat_pure a h.1, flat_pures l h.2⟩
end
theorem OFz.rel {I : Nat → Prop} {β : Nat → Nat} {h : Heap} {w : World} (r : Rel I β h w) {u u' : AV} (hf : OFz h u u') : ∀ {v : Value}, VRel I β h.length w u v → IRel (Own h β) w u' v := by
  induction hf with
  | flat u hp => intro v hv; exact (hv.toI (flat_pure u hp)).flat hp
  | nils k => intro v hv; rw [hv.nils_inv]; exact .isl0 k none 0
  | osl id k i len cap ex ex' es hid hle hp =>
    intro v hv
    have h1 := (Frz.flat (cap := cap) (ex := ex) hid hle (fun e he => flat_pures e (hp e he))).rel r hv
    have hp' : ∀ e, e ∈ (es.drop i).take len → flats e = true := fun e he => hp e (List.mem_of_mem_drop (List.mem_of_mem_take he))
    obtain ⟨cc, n, hv2, hidl, _⟩ := hv.osl_inv
    generalize (es.drop i).take len = X at h1 hp'
    cases h1 with
    | isl0 k A c => exact .isl0 k A c
    | isl k es' b o c f hne hl hb hk hc ho hr =>
      simp only [Value.slice.injEq, Option.some.injEq, Addr.mk.injEq] at hv2
      exact .isl k _ b o c f hne hl ⟨id, _, hid, by simp, hv2.1.1.symm⟩ hk hc ho (fun j e q u he hu => (hr j e q u he hu).flat (flats_get (hp' e (List.mem_of_getElem? he)) hu))
  | tup cs cs' hl _ ih =>
    intro v hv
    obtain ⟨vs, rfl, h1, h2⟩ := hv.tup_inv
    refine .tup _ _ (by omega) fun j u' v' hu hv' => ?_
    obtain ⟨u, hu0⟩ := getElem?_lt hl hu
    exact ih j u u' hu0 hu (h2 j u v' hu0 hv')
  | agg cs cs' hl _ ih =>
    intro v hv
    obtain ⟨vs, rfl, h1, h2, h3⟩ := hv.agg_inv
    refine .agg _ _ (by omega) h2 fun j u' v' hu hv' => ?_
    obtain ⟨u, hu0⟩ := getElem?_lt hl hu
    exact ih j u u' hu0 hu (h3 j u v' hu0 hv')

/-- A FRESH ANSWER: what one owns lent to a function; what it hands back lies in memory that nobody writes, and the heap stays. -/
theorem acalls_fresh {f : FuncId} {args args' : List AV} {h : Heap} {R Q : AV → Heap → Prop} (hc : ACalls P f args' [] R) (ha : Frzs h args args') (hq : ∀ u h0, R u h0 → ∃ r, OFz h0 u r ∧ Q r h) : ACalls P f args h Q := by
  refine ⟨hc.1, fun I β w vs r hv => ?_⟩
  have hJ : ∀ b, IO I β h b → b < w.heap.size := by
    rintro b (hb | ⟨id, o, h1, h2, rfl⟩)
    · exact r.imm b hb
    · exact (r.obj id o h1 h2).1
  have hv' : VRels (IO I β h) (fun _ => 0) 0 w args' vs := ⟨by rw [ha.1]; exact hv.1, fun j u' v hu hv' => by
    obtain ⟨u, hu0⟩ := getElem?_lt ha.1 hu
    exact .imm _ _ ((ha.2 j u u' hu0 hu).rel r (hv.2 j u v hu0 hv'))⟩
  refine (hc.2 (IO I β h) (fun _ => 0) w vs ⟨hJ, fun id o h => by simp at h, fun id id' o o' h => by simp at h⟩ hv').mono ?_
  rintro e w' ⟨cv, u, I', β', h0, rfl, hr, he, r0, hvr⟩
  obtain ⟨rr, hz, hqq⟩ := hq _ _ hr
  have hown : ∀ b, Own h0 β' b → w.heap.size ≤ b := fun b hb => (he.own b hb).elim (fun x => absurd x own_nil) id
  have hlt : ∀ b, I b ∨ Own h0 β' b → b < w'.heap.size := fun b hb => by
    rcases hb with hb | ⟨id, o, h1, h2, rfl⟩
    · have := r.imm b hb; have := he.size; omega
    · exact (r0.obj id o h1 h2).1
  obtain ⟨h1, h2⟩ := r.pext (J := I) (I' := fun b => I b ∨ Own h0 β' b) (w' := w') r.imm ⟨he.os, he.tape, he.output, he.size, fun b hb => he.keep b hb own_nil, fun b hb => .inl hb, fun b hb => hb.imp id (hown b), hlt⟩ (fun _ x => x)
  exact ⟨cv, rr, _, β, h, rfl, hqq, h1, h2, .imm _ _ ((hz.rel r0 hvr).mono (fun b hb => .inr ⟨.inr hb, hown b hb⟩) (fun _ _ => rfl))⟩
end
end Go.AL
