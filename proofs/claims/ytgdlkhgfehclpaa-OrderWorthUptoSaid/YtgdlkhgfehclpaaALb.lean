/- Steps of the small logic: operands; what one operation owes; a new object; a store. No condition. -/
import Derived.Test.YtgdlkhgfehclpaaALa
namespace Go.AL
set_option linter.unusedVariables false
set_option linter.unusedSimpArgs false

def ofV : Value → Option AV
  | .int k n => some (.int k n)
  | .bool b => some (.bool b)
  | .string s => some (.str s)
  | .float k b => some (.flt k b)
  | .pointer none => some .nilp
  | .slice none 0 0 => some .nils
  | .nilFunc => some .nilf
  | .nilIface => some .nili
  | .map none => some .nilm
  | .tuple vs => if vs.size = 0 then some .undef else none
  | _ => none

theorem IRel.undef (I : Nat → Prop) (w : World) : IRel I w .undef Go.undef := .tup [] #[] rfl (fun j u v h => by simp at h)

theorem ofV_sound {I : Nat → Prop} {w : World} {v : Value} {u : AV} (h : ofV v = some u) : IRel I w u v := by
  unfold ofV at h
  split at h
  case h_10 vs =>
    split at h
    · rename_i hz
      obtain rfl : vs = #[] := by simpa using hz
      simp at h
      subst h
      exact .undef I w
    · simp at h
  all_goals first
    | (simp at h; done)
    | (simp at h; subst h; constructor)

def evK (a : Fr) (x : Operand) (K : AV → Prop) : Prop :=
  match x with
  | .tmp t => K (a t)
  | .const v => (match ofV v with | some u => K u | none => False)
  | .func f => K (.fn (.func f) [] [])
  | .global _ => False

section
variable {P : Program} {I : Nat → Prop} {β : Nat → Nat} {h : Heap} {N : Nat} {w : World} {n : Nat} {a : Fr} {c : Act}

theorem evK_sound (hf : FRel I β N w n a c) {x : Operand} {K : AV → Prop} (hk : evK a x K) : ∃ u, VRel I β N w u (c.eval x) ∧ K u := by
  cases x with
  | tmp t => exact ⟨_, hf.val t, hk⟩
  | const v =>
    simp only [evK] at hk
    split at hk
    · rename_i u hu
      exact ⟨u, .imm _ _ (ofV_sound hu), hk⟩
    · exact hk.elim
  | func f => exact ⟨_, .imm _ _ (.fn (.func f) [] [] #[] #[] rfl rfl (fun j u v h => by simp at h) (fun j u v h => by simp at h)), hk⟩
  | global g => exact hk.elim

/-- Lists of values. -/
def VRels (I : Nat → Prop) (β : Nat → Nat) (N : Nat) (w : World) (us : List AV) (vs : List Value) : Prop :=
  us.length = vs.length ∧ ∀ (j : Nat) (u : AV) (v : Value), us[j]? = some u → vs[j]? = some v → VRel I β N w u v
theorem VRels.nil : VRels I β N w [] [] := ⟨rfl, fun j u v h => by simp at h⟩
theorem VRels.cons {u : AV} {v : Value} {us : List AV} {vs : List Value} (h1 : VRel I β N w u v) (h2 : VRels I β N w us vs) : VRels I β N w (u :: us) (v :: vs) := by
  refine ⟨by simp [h2.1], fun j x y hx hy => ?_⟩
  cases j with
  | zero => simp at hx hy; subst hx hy; exact h1
  | succ j => simp at hx hy; exact h2.2 j x y hx hy
theorem VRels.head {u : AV} {us : List AV} {vs : List Value} (h : VRels I β N w (u :: us) vs) : ∃ v vs', vs = v :: vs' ∧ VRel I β N w u v ∧ VRels I β N w us vs' := by
  cases vs with
  | nil => simp [VRels] at h
  | cons v vs => exact ⟨v, vs, rfl, h.2 0 u v rfl rfl, by have := h.1; simpa using this, fun j x y hx hy => h.2 (j + 1) x y (by simpa using hx) (by simpa using hy)⟩
theorem VRels.none {vs : List Value} (h : VRels I β N w [] vs) : vs = [] := by
  have := h.1
  cases vs with
  | nil => rfl
  | cons v vs => simp at this
theorem VRels.append {us us' : List AV} {vs vs' : List Value} (h1 : VRels I β N w us vs) (h2 : VRels I β N w us' vs') : VRels I β N w (us ++ us') (vs ++ vs') := by
  induction us generalizing vs with
  | nil => have := h1.none; subst this; simpa using h2
  | cons u us ih =>
    obtain ⟨v, vs1, rfl, r1, r2⟩ := h1.head
    exact VRels.cons r1 (ih r2)
theorem VRels.mono' {I' : Nat → Prop} {β' : Nat → Nat} {N' : Nat} {w' : World} {us : List AV} {vs : List Value} (hm : ∀ u v, VRel I β N w u v → VRel I' β' N' w' u v) (h1 : VRels I β N w us vs) : VRels I' β' N' w' us vs :=
  ⟨h1.1, fun j u v hu hv => hm u v (h1.2 j u v hu hv)⟩

def evsK (a : Fr) : List Operand → (List AV → Prop) → Prop
  | [], K => K []
  | x :: r, K => evK a x fun u => evsK a r fun us => K (u :: us)

theorem evsK_sound (hf : FRel I β N w n a c) : ∀ {xs : List Operand} {K : List AV → Prop}, evsK a xs K → ∃ us, VRels I β N w us (xs.map c.eval) ∧ K us
  | [], K, hk => ⟨[], .nil, hk⟩
  | x :: r, K, hk => by
    obtain ⟨u, hu, hk1⟩ := evK_sound hf hk
    obtain ⟨us, hus, hk2⟩ := evsK_sound hf hk1
    exact ⟨u :: us, .cons hu hus, hk2⟩
end

/-- What one operation owes: run from whatever stands to a, h, it gives a value and a heap of which K holds. -/
def OpOk (P : Program) (o : Oper) (a : Fr) (h : Heap) (K : AV → Heap → Prop) : Prop :=
  ∀ (I : Nat → Prop) (β : Nat → Nat) (w : World) (n : Nat) (c : Act) (next : Act → World → Prop) (Q : Exit → Act → World → Prop), Rel I β h w → FRel I β h.length w n a c →
    (∀ u cv I' β' h' w', K u h' → Ext I β h w I' β' h' w' → Rel I' β' h' w' → VRel I' β' h'.length w' u cv → next (c.put o.dst cv) w') → o.wp P c w next Q

theorem OpOk.mono {P : Program} {o : Oper} {a : Fr} {h : Heap} {K K' : AV → Heap → Prop} (hh : OpOk P o a h K) (hk : ∀ u h', K u h' → K' u h') : OpOk P o a h K' :=
  fun I β w n c next Q r f hn => hh I β w n c next Q r f (fun u cv I' β' h' w' k => hn u cv I' β' h' w' (hk u h' k))

theorem OpOk.value {P : Program} {o : Oper} {a : Fr} {h : Heap} {K : AV → Heap → Prop}
    (hv : ∀ (I : Nat → Prop) (β : Nat → Nat) (w : World) (n : Nat) (c : Act), Rel I β h w → FRel I β h.length w n a c →
      ∃ cv u I' β' h' w', (execOp c.eval o).run P w = .ok (.value cv) w' ∧ K u h' ∧ Ext I β h w I' β' h' w' ∧ Rel I' β' h' w' ∧ VRel I' β' h'.length w' u cv) : OpOk P o a h K := by
  intro I β w n c next Q r f hn
  obtain ⟨cv, u, I', β', h', w', hr, hk, he, hr', hv'⟩ := hv I β w n c r f
  unfold Oper.wp
  rw [hr, Oper.upon_value]
  exact hn u cv I' β' h' w' hk he hr' hv'

theorem OpOk.pure {P : Program} {o : Oper} {a : Fr} {h : Heap} {K : AV → Heap → Prop}
    (hv : ∀ (I : Nat → Prop) (β : Nat → Nat) (w : World) (n : Nat) (c : Act), Rel I β h w → FRel I β h.length w n a c →
      ∃ cv u, (execOp c.eval o).run P w = .ok (.value cv) w ∧ K u h ∧ VRel I β h.length w u cv) : OpOk P o a h K :=
  .value fun I β w n c r f => let ⟨cv, u, h1, h2, h3⟩ := hv I β w n c r f; ⟨cv, u, I, β, h, w, h1, h2, .refl _ _ _ _, r, h3⟩

theorem OpOk.skip {P : Program} {o : Oper} {a : Fr} {h : Heap} {K : AV → Heap → Prop}
    (hv : ∀ (I : Nat → Prop) (β : Nat → Nat) (w : World) (n : Nat) (c : Act), Rel I β h w → FRel I β h.length w n a c →
      ∃ I' β' h' w', (execOp c.eval o).run P w = .ok .skip w' ∧ K .undef h' ∧ Ext I β h w I' β' h' w' ∧ Rel I' β' h' w') : OpOk P o a h K := by
  intro I β w n c next Q r f hn
  obtain ⟨I', β', h', w', hr, hk, he, hr'⟩ := hv I β w n c r f
  unfold Oper.wp
  rw [hr, Oper.upon_skip]
  exact hn .undef undef I' β' h' w' hk he hr' (.imm _ _ (.undef _ _))

/-! ### the world's other parts do not count -/
theorem VRel.heapEq {I : Nat → Prop} {β : Nat → Nat} {N : Nat} {w w' : World} (hw : w'.heap = w.heap) {u : AV} {v : Value} (h : VRel I β N w u v) : VRel I β N w' u v :=
  h.mono (fun _ x => x) (fun b _ => by rw [hw]) (Nat.le_refl _) (fun _ _ => rfl) (fun b n hb => by rw [bsize_of_heap (w := w) (by rw [hw])]; exact hb)

theorem ORel.mono {I I' : Nat → Prop} {β β' : Nat → Nat} {N N' : Nat} {w w' : World} (hm : ∀ u v, VRel I β N w u v → VRel I' β' N' w' u v) {o : Ob} {x : Option Obj} (h : ORel I β N w o x) : ORel I' β' N' w' o x := by
  cases o with
  | dead => trivial
  | arr k es ex =>
    obtain ⟨cur, t, h1, h2, h3, h4, h5⟩ := h
    exact ⟨cur, t, h1, h2, h3, h4, fun i e j u he hu => let ⟨v, a, b, c⟩ := h5 i e j u he hu; ⟨v, a, hm _ _ b, c⟩⟩
  | map es cl =>
    obtain ⟨es', h1, h2, h3⟩ := h
    exact ⟨es', h1, h2, fun j x y hx hy => let ⟨p, q, r⟩ := h3 j x y hx hy; ⟨hm _ _ p, hm _ _ q, r⟩⟩

theorem Rel.heapEq {I : Nat → Prop} {β : Nat → Nat} {h : Heap} {w w' : World} (r : Rel I β h w) (hw : w'.heap = w.heap) : Rel I β h w' :=
  ⟨fun b hb => by rw [hw]; exact r.imm b hb, fun id o ho hd => by
    obtain ⟨h1, h2, h3⟩ := r.obj id o ho hd
    rw [hw]
    exact ⟨h1, h2, h3.mono (fun u v hv => hv.heapEq hw)⟩, r.inj⟩

theorem Ext.heapEq {I : Nat → Prop} {β : Nat → Nat} {h : Heap} {w w' : World} (hw : w'.heap = w.heap) (ho : w'.os = w.os) (ht : w'.tape = w.tape) (hu : w'.output = w.output) : Ext I β h w I β h w' :=
  ⟨ho, ht, hu, by rw [hw]; exact Nat.le_refl _, Nat.le_refl _, fun _ _ => rfl, fun _ x => x, fun _ x => .inl x, fun _ x => .inl x, fun _ _ _ => by rw [hw], fun b n x => by rw [bsize_of_heap (w := w) (by rw [hw])]; exact x⟩

theorem FRel.heapEq {I : Nat → Prop} {β : Nat → Nat} {N : Nat} {w w' : World} {n : Nat} {a : Fr} {c : Act} (f : FRel I β N w n a c) (hw : w'.heap = w.heap) : FRel I β N w' n a c :=
  ⟨fun t => (f.val t).heapEq hw, f.size, f.defers⟩

/-! ### a new object -/
def bind1 (β : Nat → Nat) (N b : Nat) : Nat → Nat := fun id => if id = N then b else β id
theorem bind1_new (β : Nat → Nat) (N b : Nat) : bind1 β N b N = b := by simp [bind1]
theorem bind1_old (β : Nat → Nat) (N b id : Nat) (h : id < N) : bind1 β N b id = β id := by simp [bind1, Nat.ne_of_lt h]

/-- A block has been laid: what it holds is told over the old world. -/
theorem new_ok {I : Nat → Prop} {β : Nat → Nat} {h : Heap} {w w' : World} (r : Rel I β h w) (ob : Ob) (x : Obj) (hw : w'.heap = w.heap.push x) (ho : w'.os = w.os) (ht : w'.tape = w.tape) (hu : w'.output = w.output)
    (hx : ∀ I' β' N' w', (∀ u v, VRel I β h.length w u v → VRel I' β' N' w' u v) → ORel I' β' N' w' ob (some x)) :
    Ext I β h w I (bind1 β h.length w.heap.size) (h ++ [ob]) w' ∧ Rel I (bind1 β h.length w.heap.size) (h ++ [ob]) w' := by
  have hold : ∀ b, b < w.heap.size → w'.heap[b]? = w.heap[b]? := fun b hb => by
    rw [hw, Array.getElem?_push, if_neg (by omega)]
  have hbs : ∀ b n, bsize w b = some n → bsize w' b = some n := fun b n hb => by
    have hlt : b < w.heap.size := by
      unfold bsize at hb
      split at hb
      · rename_i h1; exact (Array.getElem?_eq_some_iff.1 h1).1
      · simp at hb
    rw [bsize_of_heap (hold b hlt)]
    exact hb
  have hmono : ∀ u v, VRel I β h.length w u v → VRel I (bind1 β h.length w.heap.size) (h ++ [ob]).length w' u v := fun u v hv =>
    hv.mono (fun _ x => x) (fun b hb => hold b (r.imm b hb)) (by simp) (fun id hid => bind1_old _ _ _ _ hid) hbs
  refine ⟨⟨ho, ht, hu, by rw [hw]; simp, by simp, fun id hid => bind1_old _ _ _ _ hid, fun _ x => x, fun _ x => .inl x, ?_, fun b hb _ => hold b hb, hbs⟩, ⟨fun b hb => by rw [hw]; have := r.imm b hb; simp; omega, ?_, ?_⟩⟩
  · rintro b ⟨id, o, h1, h2, h3⟩
    rcases Nat.lt_or_ge id h.length with hlt | hge
    · rw [List.getElem?_append_left hlt] at h1
      rw [bind1_old _ _ _ _ hlt] at h3
      exact .inl ⟨id, o, h1, h2, h3⟩
    · have hid : id = h.length := by
        have := (List.getElem?_eq_some_iff.1 h1).1
        simp at this
        omega
      subst hid
      rw [bind1_new] at h3
      exact .inr (by omega)
  · intro id o h1 h2
    rcases Nat.lt_or_ge id h.length with hlt | hge
    · rw [List.getElem?_append_left hlt] at h1
      obtain ⟨p, q, s⟩ := r.obj id o h1 h2
      rw [bind1_old _ _ _ _ hlt, hold _ p]
      exact ⟨by rw [hw]; simp; omega, q, s.mono hmono⟩
    · have hid : id = h.length := by
        have := (List.getElem?_eq_some_iff.1 h1).1
        simp at this
        omega
      subst hid
      rw [bind1_new]
      have : o = ob := by simpa using h1.symm
      subst this
      have h4 : w'.heap[w.heap.size]? = some x := by rw [hw]; simp
      rw [h4]
      exact ⟨by rw [hw]; simp, fun hI => by have := r.imm _ hI; omega, hx _ _ _ _ hmono⟩
  · intro id id' o o' h1 h2 h3 h4 he
    rcases Nat.lt_or_ge id h.length with hlt | hge <;> rcases Nat.lt_or_ge id' h.length with hlt' | hge'
    · rw [List.getElem?_append_left hlt] at h1
      rw [List.getElem?_append_left hlt'] at h3
      rw [bind1_old _ _ _ _ hlt, bind1_old _ _ _ _ hlt'] at he
      exact r.inj id id' o o' h1 h2 h3 h4 he
    · rw [List.getElem?_append_left hlt] at h1
      have := (List.getElem?_eq_some_iff.1 h3).1
      have hid : id' = h.length := by simp at this; omega
      rw [bind1_old _ _ _ _ hlt, hid, bind1_new] at he
      have := (r.obj id o h1 h2).1
      omega
    · rw [List.getElem?_append_left hlt'] at h3
      have := (List.getElem?_eq_some_iff.1 h1).1
      have hid : id = h.length := by simp at this; omega
      rw [bind1_old _ _ _ _ hlt', hid, bind1_new] at he
      have := (r.obj id' o' h3 h4).1
      omega
    · have a1 := (List.getElem?_eq_some_iff.1 h1).1
      have a2 := (List.getElem?_eq_some_iff.1 h3).1
      simp at a1 a2
      omega

/-! ### an object that has turned in place -/
theorem set_ok {I : Nat → Prop} {β : Nat → Nat} {h : Heap} {w w' : World} (r : Rel I β h w) (id : Nat) (o ob : Ob) (x : Obj) (h1 : h[id]? = some o) (h2 : o ≠ .dead) (h2' : ob ≠ .dead)
    (hw : ∀ b, b ≠ β id → w'.heap[b]? = w.heap[b]?) (hx : w'.heap[β id]? = some x) (hs : w'.heap.size = w.heap.size) (ho : w'.os = w.os) (ht : w'.tape = w.tape) (hu : w'.output = w.output)
    (hb : ∀ n, bsize w (β id) = some n → bsize w' (β id) = some n)
    (hor : ∀ w', (∀ u v, VRel I β h.length w u v → VRel I β h.length w' u v) → ORel I β h.length w' ob (some x)) :
    Ext I β h w I β (h.set id ob) w' ∧ Rel I β (h.set id ob) w' := by
  have hid : id < h.length := (List.getElem?_eq_some_iff.1 h1).1
  obtain ⟨p1, p2, p3⟩ := r.obj id o h1 h2
  have hbs : ∀ b n, bsize w b = some n → bsize w' b = some n := fun b n hbn => by
    by_cases e : b = β id
    · subst e; exact hb n hbn
    · rw [bsize_of_heap (hw b e)]; exact hbn
  have hmono : ∀ u v, VRel I β h.length w u v → VRel I β h.length w' u v := fun u v hv =>
    hv.mono (fun _ x => x) (fun b hI => hw b (fun e => p2 (e ▸ hI))) (Nat.le_refl _) (fun _ _ => rfl) hbs
  have hl : (h.set id ob).length = h.length := by simp
  have hown : ∀ b, Own (h.set id ob) β b → Own h β b := by
    rintro b ⟨i, o', q1, q2, q3⟩
    by_cases e : i = id
    · subst e; exact ⟨i, o, h1, h2, q3⟩
    · rw [List.getElem?_set_ne (fun x => e x.symm)] at q1
      exact ⟨i, o', q1, q2, q3⟩
  refine ⟨⟨ho, ht, hu, by omega, by rw [hl]; exact Nat.le_refl _, fun _ _ => rfl, fun _ x => x, fun _ x => .inl x, fun b hb => .inl (hown b hb), fun b hb hn => hw b (fun e => hn ⟨id, o, h1, h2, e.symm⟩), hbs⟩,
    ⟨fun b hb => by have := r.imm b hb; omega, ?_, ?_⟩⟩
  · intro i o' q1 q2
    rw [hl]
    by_cases e : i = id
    · subst e
      rw [List.getElem?_set_self hid] at q1
      injection q1 with q1
      subst q1
      rw [hx]
      exact ⟨by omega, p2, hor _ hmono⟩
    · rw [List.getElem?_set_ne (fun x => e x.symm)] at q1
      obtain ⟨s1, s2, s3⟩ := r.obj i o' q1 q2
      rw [hw (β i) (fun e' => e (r.inj i id o' o q1 q2 h1 h2 e'))]
      exact ⟨by omega, s2, s3.mono hmono⟩
  · intro i i' o1 o2 q1 q2 q3 q4 he
    have key : ∀ (j : Nat) (oo : Ob), (h.set id ob)[j]? = some oo → oo ≠ .dead → ∃ oo', h[j]? = some oo' ∧ oo' ≠ .dead := by
      intro j oo hj hd
      by_cases e : j = id
      · subst e; exact ⟨o, h1, h2⟩
      · rw [List.getElem?_set_ne (fun x => e x.symm)] at hj
        exact ⟨oo, hj, hd⟩
    obtain ⟨a1, b1, c1⟩ := key i o1 q1 q2
    obtain ⟨a2, b2, c2⟩ := key i' o2 q3 q4
    exact r.inj i i' a1 a2 b1 c1 b2 c2 he

end Go.AL
