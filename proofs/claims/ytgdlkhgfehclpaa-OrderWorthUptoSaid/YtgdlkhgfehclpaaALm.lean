/- Functions of values alone: what they owe without a heap; what is handed back is frozen; calls of such functions, with what one owns lent to them. No condition. -/
import Derived.Test.YtgdlkhgfehclpaaALl
namespace Go.AL
set_option linter.unusedVariables false
set_option linter.unusedSimpArgs false
set_option linter.unnecessarySimpa false

mutual
/-- Nothing of the heap in it. -/
def AV.pure : AV → Bool
  | .op .. => false
  | .osl .. => false
  | .om _ => false
  | .fn _ fs cs => pures fs && pures cs
  | .ifc _ v => v.pure
  | .agg cs => pures cs
  | .tup cs => pures cs
  | .int .. => true
  | .bool _ => true
  | .str _ => true
  | .flt .. => true
  | .nilp => true
  | .nils => true
  | .nilf => true
  | .nili => true
  | .nilm => true
  | .ip .. => true
  | .isl .. => true
  | .any => false
def pures : List AV → Bool
  | [] => true
  | v :: r => v.pure && pures r
end

theorem pures_get {l : List AV} (h : pures l = true) {j : Nat} {u : AV} (hj : l[j]? = some u) : u.pure = true := by
  induction l generalizing j with
  | nil => simp at hj
  | cons v r ih =>
    simp only [pures, Bool.and_eq_true] at h
    cases j with
    | zero => simp at hj; subst hj; exact h.1
    | succ j => simp at hj; exact ih h.2 hj
theorem pures_of {l : List AV} (h : ∀ u, u ∈ l → u.pure = true) : pures l = true := by
  induction l with
  | nil => rfl
  | cons v r ih => simp only [pures, Bool.and_eq_true]; exact ⟨h v (by simp), ih fun u hu => h u (by simp [hu])⟩

theorem VRel.toI {I : Nat → Prop} {β : Nat → Nat} {N : Nat} {w : World} {u : AV} {v : Value} (h : VRel I β N w u v) (hp : u.pure = true) : IRel I w u v := by
  induction h with
  | imm u v h => exact h
  | any _ => simp [AV.pure] at hp
  | op _ _ _ _ _ => simp [AV.pure] at hp
  | osl _ _ _ _ _ _ _ _ _ => simp [AV.pure] at hp
  | om _ _ => simp [AV.pure] at hp
  | fn f fs cs fs' cs' h1 h2 _ _ ih1 ih2 =>
    simp only [AV.pure, Bool.and_eq_true] at hp
    exact .fn f fs cs fs' cs' h1 h2 (fun j u v hu hv => ih1 j u v hu hv (pures_get hp.1 hu)) (fun j u v hu hv => ih2 j u v hu hv (pures_get hp.2 hu))
  | ifc t u v _ ih => exact .ifc t u v (ih (by simpa [AV.pure] using hp))
  | agg cs cs' h1 h2 _ ih => exact .agg cs cs' h1 h2 (fun j u v hu hv => ih j u v hu hv (pures_get (by simpa [AV.pure] using hp) hu))
  | tup cs cs' h1 _ ih => exact .tup cs cs' h1 (fun j u v hu hv => ih j u v hu hv (pures_get (by simpa [AV.pure] using hp) hu))

/-- What an own value is, once nobody writes what it leads to. -/
inductive Frz (h : Heap) : AV → AV → Prop
  | pure (u : AV) : u.pure = true → Frz h u u
  | nils (k : Nat) : Frz h .nils (.isl k [])
  | osl (id k i len cap : Nat) (ex ex' : Bool) (es es' : List (List AV)) : h[id]? = some (.arr k es ex') → i + len ≤ es.length → es'.length = len →
      (∀ (j : Nat) (e e' : List AV), es[i + j]? = some e → es'[j]? = some e' → e'.length = e.length) →
      (∀ (j : Nat) (e e' : List AV) (q : Nat) (u u' : AV), es[i + j]? = some e → es'[j]? = some e' → e[q]? = some u → e'[q]? = some u' → Frz h u u') → Frz h (.osl id k i len cap ex) (.isl k es')
  | op (id k e off : Nat) (ex' : Bool) (es : List (List AV)) (c c' : List AV) : h[id]? = some (.arr k es ex') → es[e]? = some c → c'.length = c.length →
      (∀ (q : Nat) (u u' : AV), c[q]? = some u → c'[q]? = some u' → Frz h u u') → Frz h (.op id k e off) (.ip c' off)
  | fn (f : Fn) (fs cs fs' cs' : List AV) : fs'.length = fs.length → cs'.length = cs.length → (∀ (q : Nat) (u u' : AV), fs[q]? = some u → fs'[q]? = some u' → Frz h u u') → (∀ (q : Nat) (u u' : AV), cs[q]? = some u → cs'[q]? = some u' → Frz h u u') →
      Frz h (.fn f fs cs) (.fn f fs' cs')
  | ifc (t : TypeId) (u u' : AV) : Frz h u u' → Frz h (.ifc t u) (.ifc t u')
  | agg (cs cs' : List AV) : cs'.length = cs.length → (∀ (q : Nat) (u u' : AV), cs[q]? = some u → cs'[q]? = some u' → Frz h u u') → Frz h (.agg cs) (.agg cs')
  | tup (cs cs' : List AV) : cs'.length = cs.length → (∀ (q : Nat) (u u' : AV), cs[q]? = some u → cs'[q]? = some u' → Frz h u u') → Frz h (.tup cs) (.tup cs')

/-- All that the heap holds, too. -/
def IO (I : Nat → Prop) (β : Nat → Nat) (h : Heap) : Nat → Prop := fun b => I b ∨ Own h β b

theorem getElem?_lt {α : Type} {l l' : List α} (h : l'.length = l.length) {j : Nat} {u : α} (hj : l'[j]? = some u) : ∃ v, l[j]? = some v := by
  have := (List.getElem?_eq_some_iff.1 hj).1
  exact ⟨l[j]'(by omega), List.getElem?_eq_getElem (by omega)⟩

theorem Frz.rel {I : Nat → Prop} {β : Nat → Nat} {h : Heap} {w : World} (r : Rel I β h w) {u u' : AV} (hf : Frz h u u') : ∀ {v : Value}, VRel I β h.length w u v → IRel (IO I β h) w u' v := by
  induction hf with
  | pure u hp => intro v hv; exact (hv.toI hp).mono (fun b hb => .inl hb) (fun _ _ => rfl)
  | nils k => intro v hv; rw [hv.nils_inv]; exact .isl0 k none 0
  | osl id k i len cap ex ex' es es' hid hle hl hlen _ ih =>
    intro v hv
    obtain ⟨c, n, rfl, hidl, h1, h2, h3, h4, h5⟩ := hv.osl_inv
    obtain ⟨q1, q2, cur, t, hb, hk, hs, _, hcell⟩ := r.obj id _ hid (by simp)
    cases es' with
    | nil => simp at hl; subst hl; exact .isl0 _ _ _
    | cons e0 es0 =>
      rw [← hl]
      refine .isl k (e0 :: es0) (β id) (i * k) c (fun j q => (cur[(i + j) * k + q]?).getD undef) (by simp) (by omega) (.inr ⟨id, _, hid, by simp, rfl⟩) (fun j e' he' => ?_) (fun j e' q u' he' hu' => ?_) (fun j e' q u' he' hu' => ?_) (fun j e' q u' he' hu' => ?_)
      all_goals
        have hj := (List.getElem?_eq_some_iff.1 he').1
        have he : es[i + j]? = some (es[i + j]'(by omega)) := List.getElem?_eq_getElem (by omega)
        have hll := hlen j _ e' he he'
      · rw [hll]; exact hk _ _ he
      all_goals
        have hq := (List.getElem?_eq_some_iff.1 hu').1
        have hu : (es[i + j]'(by omega))[q]? = some ((es[i + j]'(by omega))[q]'(by omega)) := List.getElem?_eq_getElem (by omega)
        obtain ⟨v, e1, e2, e3⟩ := hcell _ _ q _ he hu
      · rw [cell_of_block hb, show i * k + (j * k + q) = (i + j) * k + q by rw [Nat.add_mul]; omega, e1]; rfl
      · simp only [e1, Option.getD_some]; exact e3
      · simp only [e1, Option.getD_some]; exact ih j _ e' q _ u' he he' hu hu' e2
  | op id k e off ex' es c c' hid he hl _ ih =>
    intro v hv
    obtain ⟨rfl, hidl⟩ := hv.op_inv
    obtain ⟨vs, hvl, hc, h1, hr⟩ := elem_cells r hid he
    refine .ip c' off (β id) (e * k) vs (.inr ⟨id, _, hid, by simp, rfl⟩) (by omega) hc h1 (fun j u' v hu' hv => ?_)
    obtain ⟨u, hu⟩ := getElem?_lt hl hu'
    exact ih j u u' hu hu' (hr j u v hu hv)
  | fn f fs cs fs' cs' h1 h2 _ _ ih1 ih2 =>
    intro v hv
    obtain ⟨xs, ys, rfl, h3, h4⟩ := hv.fn_inv
    refine .fn f fs' cs' xs ys (by have := h3.1; simp at this; omega) (by have := h4.1; simp at this; omega) (fun j u' v hu' hv => ?_) (fun j u' v hu' hv => ?_)
    · obtain ⟨u, hu⟩ := getElem?_lt h1 hu'
      exact ih1 j u u' hu hu' (h3.2 j u v hu (by simpa using hv))
    · obtain ⟨u, hu⟩ := getElem?_lt h2 hu'
      exact ih2 j u u' hu hu' (h4.2 j u v hu (by simpa using hv))
  | ifc t u u' _ ih =>
    intro v hv
    obtain ⟨v', rfl, hv'⟩ := hv.ifc_inv
    exact .ifc t u' v' (ih hv')
  | agg cs cs' h1 _ ih =>
    intro v hv
    obtain ⟨xs, rfl, h2, h3, h4⟩ := hv.agg_inv
    refine .agg cs' xs (by omega) h3 (fun j u' v hu' hv => ?_)
    obtain ⟨u, hu⟩ := getElem?_lt h1 hu'
    exact ih j u u' hu hu' (h4 j u v hu hv)
  | tup cs cs' h1 _ ih =>
    intro v hv
    obtain ⟨xs, rfl, h2, h4⟩ := hv.tup_inv
    refine .tup cs' xs (by omega) (fun j u' v hu' hv => ?_)
    obtain ⟨u, hu⟩ := getElem?_lt h1 hu'
    exact ih j u u' hu hu' (h4 j u v hu hv)

/-- Pure cells: as they are. -/
theorem Frz.flat {h : Heap} {id k i len cap : Nat} {ex ex' : Bool} {es : List (List AV)} (hid : h[id]? = some (.arr k es ex')) (hle : i + len ≤ es.length) (hp : ∀ e, e ∈ es → pures e = true) : Frz h (.osl id k i len cap ex) (.isl k ((es.drop i).take len)) := by
  have key : ∀ (j : Nat) (e e' : List AV), es[i + j]? = some e → ((es.drop i).take len)[j]? = some e' → e' = e := by
    intro j e e' h1 h2
    rw [List.getElem?_take] at h2
    split at h2
    · rw [List.getElem?_drop, h1] at h2; injection h2 with h2; exact h2.symm
    · cases h2
  refine .osl id k i len cap ex ex' es _ hid hle (by simp; omega) (fun j e e' h1 h2 => by rw [key j e e' h1 h2]) (fun j e e' q u u' h1 h2 h3 h4 => ?_)
  have := key j e e' h1 h2
  subst this
  rw [h3] at h4
  injection h4 with h4
  subst h4
  exact .pure _ (pures_get (hp _ (List.mem_of_getElem? h1)) h3)
theorem Frz.whole {h : Heap} {id k cap : Nat} {ex ex' : Bool} {es : List (List AV)} (hid : h[id]? = some (.arr k es ex')) (hp : ∀ e, e ∈ es → pures e = true) {len : Nat} (hl : len = es.length) : Frz h (.osl id k 0 len cap ex) (.isl k es) := by
  subst hl
  have := Frz.flat (h := h) (id := id) (k := k) (i := 0) (len := es.length) (cap := cap) (ex := ex) (ex' := ex') hid (by simp) hp
  simpa using this
theorem Frz.ptr {h : Heap} {id k e off : Nat} {ex' : Bool} {es : List (List AV)} {c : List AV} (hid : h[id]? = some (.arr k es ex')) (he : es[e]? = some c) (hp : pures c = true) : Frz h (.op id k e off) (.ip c off) :=
  .op id k e off ex' es c c hid he rfl (fun q u u' h1 h2 => by rw [h1] at h2; injection h2 with h2; subst h2; exact .pure _ (pures_get hp h1))

/-! ### functions of values alone -/
def IRels (I : Nat → Prop) (w : World) (us : List AV) (vs : List Value) : Prop :=
  us.length = vs.length ∧ ∀ (j : Nat) (u : AV) (v : Value), us[j]? = some u → vs[j]? = some v → IRel I w u v

structure PExt (I : Nat → Prop) (w : World) (I' : Nat → Prop) (w' : World) : Prop where
  os : w'.os = w.os
  tape : w'.tape = w.tape
  output : w'.output = w.output
  size : w.heap.size ≤ w'.heap.size
  keep : ∀ b, b < w.heap.size → w'.heap[b]? = w.heap[b]?
  sub : ∀ b, I b → I' b
  new : ∀ b, I' b → I b ∨ w.heap.size ≤ b
  lt : ∀ b, I' b → b < w'.heap.size

/-- f at these values hands back r, whatever lies in memory; nothing of what lay there turns. -/
def APure (P : Program) (f : FuncId) (args : List AV) (r : AV) : Prop :=
  good P f = true ∧ ∀ (I : Nat → Prop) (w : World) (vs : List Value), (∀ b, I b → b < w.heap.size) → IRels I w args vs →
    Calls P f vs.toArray w fun e w' => ∃ cv I', e = .returned cv ∧ PExt I w I' w' ∧ IRel I' w' r cv

section
variable {P : Program}

theorem own_nil {β : Nat → Nat} {b : Nat} : ¬ Own [] β b := fun ⟨id, o, h, _⟩ => by simp at h

theorem apure_of {f : FuncId} {args : List AV} {r : AV} (h : ACalls P f args [] fun v h' => Frz h' v r) : APure P f args r := by
  refine ⟨h.1, fun I w vs hI hv => ?_⟩
  refine (h.2 I (fun _ => 0) w vs ⟨hI, fun id o h => by simp at h, fun id id' o o' h => by simp at h⟩ ⟨hv.1, fun j u v hu hv' => .imm _ _ (hv.2 j u v hu hv')⟩).mono ?_
  rintro e w' ⟨cv, u, I', β', h', rfl, hf, he, hr, hvr⟩
  refine ⟨cv, IO I' β' h', rfl, ⟨he.os, he.tape, he.output, he.size, fun b hb => he.keep b hb own_nil, fun b hb => .inl (he.sub b hb), fun b hb => ?_, fun b hb => ?_⟩, hf.rel hr hvr⟩
  · rcases hb with hb | hb
    · rcases he.immnew b hb with h1 | h1 | h1
      · exact .inl h1
      · exact absurd h1 own_nil
      · exact .inr h1
    · rcases he.own b hb with h1 | h1
      · exact absurd h1 own_nil
      · exact .inr h1
  · rcases hb with hb | ⟨id, o, h1, h2, rfl⟩
    · exact hr.imm b hb
    · exact (hr.obj id o h1 h2).1

theorem Rel.pext {I I' : Nat → Prop} {β : Nat → Nat} {h : Heap} {w w' : World} (r : Rel I β h w) {J : Nat → Prop} (hJ : ∀ b, J b → b < w.heap.size) (hp : PExt J w I' w') :
    (∀ b, I b → J b) → Ext I β h w (fun b => I b ∨ (I' b ∧ w.heap.size ≤ b)) β h w' ∧ Rel (fun b => I b ∨ (I' b ∧ w.heap.size ≤ b)) β h w' := by
  intro hIJ
  have hbs : ∀ b n, bsize w b = some n → bsize w' b = some n := fun b n hb => by
    have hlt : b < w.heap.size := by
      unfold bsize at hb
      split at hb
      · rename_i h1; exact (Array.getElem?_eq_some_iff.1 h1).1
      · simp at hb
    rw [bsize_of_heap (hp.keep b hlt)]
    exact hb
  have hm : ∀ u v, VRel I β h.length w u v → VRel (fun b => I b ∨ (I' b ∧ w.heap.size ≤ b)) β h.length w' u v := fun u v hv =>
    hv.mono (fun _ x => .inl x) (fun b hb => hp.keep b (r.imm b hb)) (Nat.le_refl _) (fun _ _ => rfl) hbs
  refine ⟨⟨hp.os, hp.tape, hp.output, hp.size, Nat.le_refl _, fun _ _ => rfl, fun _ x => .inl x, fun b hb => hb.imp id (fun h => .inr h.2), fun _ x => .inl x, fun b hb _ => hp.keep b hb, hbs⟩, ⟨fun b hb => ?_, fun id o h1 h2 => ?_, r.inj⟩⟩
  · rcases hb with hb | hb
    · have := r.imm b hb; have := hp.size; omega
    · exact hp.lt b hb.1
  · obtain ⟨q1, q2, q3⟩ := r.obj id o h1 h2
    refine ⟨by have := hp.size; omega, ?_, by rw [hp.keep _ q1]; exact q3.mono hm⟩
    rintro (h | h)
    · exact q2 h
    · omega

/-- A call of a function of values alone. -/
theorem acalls_pure {f : FuncId} {args : List AV} {r : AV} (hp : APure P f args r) (ha : pures args = true) {h : Heap} {Q : AV → Heap → Prop} (hq : Q r h) : ACalls P f args h Q := by
  refine ⟨hp.1, fun I β w vs rr hv => ?_⟩
  refine (hp.2 I w vs rr.imm ⟨hv.1, fun j u v hu hv' => (hv.2 j u v hu hv').toI (pures_get ha hu)⟩).mono ?_
  rintro e w' ⟨cv, I', rfl, he, hr⟩
  obtain ⟨h1, h2⟩ := rr.pext rr.imm he (fun _ x => x)
  refine ⟨cv, r, _, β, h, rfl, hq, h1, h2, .imm _ _ (hr.mono (fun b hb => ?_) (fun _ _ => rfl))⟩
  rcases he.new b hb with h3 | h3
  · exact .inl h3
  · exact .inr ⟨hb, h3⟩

mutual
/-- No memory in it. -/
def AV.flat : AV → Bool
  | .int .. => true
  | .bool _ => true
  | .str _ => true
  | .flt .. => true
  | .nilp => true
  | .nils => true
  | .nilf => true
  | .nili => true
  | .nilm => true
  | .tup cs => flats cs
  | .agg cs => flats cs
  | .ip .. => false
  | .isl .. => false
  | .op .. => false
  | .osl .. => false
  | .om _ => false
  | .fn .. => false
  | .ifc .. => false
  | .any => false
def flats : List AV → Bool
  | [] => true
  | v :: r => v.flat && flats r
end
theorem flats_get {l : List AV} (h : flats l = true) {j : Nat} {u : AV} (hj : l[j]? = some u) : u.flat = true := by
  induction l generalizing j with
  | nil => simp at hj
  | cons v r ih =>
    simp only [flats, Bool.and_eq_true] at h
    cases j with
    | zero => simp at hj; subst hj; exact h.1
    | succ j => simp at hj; exact ih h.2 hj
theorem IRel.flat {I I' : Nat → Prop} {w w' : World} {u : AV} {v : Value} (h : IRel I w u v) (hf : u.flat = true) : IRel I' w' u v := by
  induction h with
  | int k n => exact .int k n
  | bool b => exact .bool b
  | str s => exact .str s
  | flt k n => exact .flt k n
  | nilp => exact .nilp
  | nils => exact .nils
  | nilf => exact .nilf
  | nili => exact .nili
  | nilm => exact .nilm
  | agg cs cs' h1 h2 _ ih => exact .agg cs cs' h1 h2 (fun j u v hu hv => ih j u v hu hv (flats_get (by simpa [AV.flat] using hf) hu))
  | tup cs cs' h1 _ ih => exact .tup cs cs' h1 (fun j u v hu hv => ih j u v hu hv (flats_get (by simpa [AV.flat] using hf) hu))
  | _ => simp [AV.flat] at hf

def Frzs (h : Heap) (us us' : List AV) : Prop := us'.length = us.length ∧ ∀ (q : Nat) (u u' : AV), us[q]? = some u → us'[q]? = some u' → Frz h u u'
theorem Frzs.nil {h : Heap} : Frzs h [] [] := ⟨rfl, fun q u u' h => by simp at h⟩
theorem Frzs.cons {h : Heap} {u u' : AV} {us us' : List AV} (h1 : Frz h u u') (h2 : Frzs h us us') : Frzs h (u :: us) (u' :: us') := by
  refine ⟨by simp [h2.1], fun q x x' hx hx' => ?_⟩
  cases q with
  | zero => simp at hx hx'; subst hx hx'; exact h1
  | succ q => simp at hx hx'; exact h2.2 q x x' hx hx'

/-- What one owns is lent to a function of values alone that hands back no memory. -/
theorem acalls_lend {f : FuncId} {args args' : List AV} {r : AV} {h : Heap} (hp : APure P f args' r) (ha : Frzs h args args') (hr : r.flat = true) {Q : AV → Heap → Prop} (hq : Q r h) : ACalls P f args h Q := by
  refine ⟨hp.1, fun I β w vs rr hv => ?_⟩
  have hJ : ∀ b, IO I β h b → b < w.heap.size := by
    rintro b (hb | ⟨id, o, h1, h2, rfl⟩)
    · exact rr.imm b hb
    · exact (rr.obj id o h1 h2).1
  refine (hp.2 (IO I β h) w vs hJ ⟨by rw [ha.1]; exact hv.1, fun j u' v hu hv' => ?_⟩).mono ?_
  · obtain ⟨u, hu0⟩ := getElem?_lt ha.1 hu
    exact (ha.2 j u u' hu0 hu).rel rr (hv.2 j u v hu0 hv')
  · rintro e w' ⟨cv, I', rfl, he, hrr⟩
    obtain ⟨h1, h2⟩ := rr.pext hJ he (fun _ x => .inl x)
    exact ⟨cv, r, _, β, h, rfl, hq, h1, h2, .imm _ _ (hrr.flat hr)⟩
end
end Go.AL
