import Derived.WalkKit
import Derived.Orders
import Derived.IntWalk
section
namespace Go.AL
set_option linter.unusedVariables false
set_option linter.unusedSimpArgs false
inductive AV where
  | int (k : IntKind) (n : Int)
  | bool (b : Bool)
  | str (s : ByteArray)
  | flt (k : FloatKind) (bits : Nat)
  | nilp
  | nils
  | nilf
  | nili
  | nilm
  | e0
  | ip (cells : List AV) (off : Nat)
  | isl (k : Nat) (es : List (List AV))
  | op (id k e off : Nat)
  | osl (id k i len cap : Nat) (ex : Bool)
  | om (id : Nat)
  | fn (f : Fn) (first cap : List AV)
  | ifc (t : TypeId) (v : AV)
  | agg (cs : List AV)
  | tup (vs : List AV)
  | any
  deriving Inhabited
inductive Ob where
  | dead
  | arr (k : Nat) (es : List (List AV)) (ex : Bool)
  | map (es : List (AV × AV × Nat)) (clock : Nat)
  deriving Inhabited
abbrev Heap := List Ob
abbrev Fr := Nat → AV
def AV.undef : AV := .tup []
def upd (a : Fr) (d : Nat) (v : AV) : Fr := fun t => if t = d then v else a t
theorem upd_same (a : Fr) (d : Nat) (v : AV) : upd a d v d = v := by simp [upd]
theorem upd_ne (a : Fr) (d t : Nat) (v : AV) (h : t ≠ d) : upd a d v t = a t := by simp [upd, h]
def bsize (w : World) (b : Nat) : Option Nat :=
  match w.heap[b]? with
  | some (.cells c _ _) => some c.size
  | _ => none
inductive IRel (I : Nat → Prop) (w : World) : AV → Value → Prop
  | int (k : IntKind) (n : Int) : IRel I w (.int k n) (.int k n)
  | bool (b : Bool) : IRel I w (.bool b) (.bool b)
  | str (s : ByteArray) : IRel I w (.str s) (.string s)
  | flt (k : FloatKind) (n : Nat) : IRel I w (.flt k n) (.float k n)
  | nilp : IRel I w .nilp (.pointer none)
  | nils : IRel I w .nils (.slice none 0 0)
  | nilf : IRel I w .nilf .nilFunc
  | nili : IRel I w .nili .nilIface
  | nilm : IRel I w .nilm (.map none)
  | e0 (A : Option Addr) : IRel I w .e0 (.slice A 0 0)
  | ip (cells : List AV) (off b o : Nat) (vs : List Value) : I b → vs.length = cells.length →
      (∀ (j : Nat) (v : Value), vs[j]? = some v → w.cell? ⟨b, o + j, none⟩ = some v) → (∀ (j : Nat) (v : Value), vs[j]? = some v → v.oneCell' = true) → (∀ (j : Nat) (u : AV) (v : Value), cells[j]? = some u → vs[j]? = some v → IRel I w u v) →
      IRel I w (.ip cells off) (.pointer (some ⟨b, o + off, none⟩))
  | isl0 (k : Nat) (A : Option Addr) (c : Nat) : IRel I w (.isl k []) (.slice A 0 c)
  | isl (k : Nat) (es : List (List AV)) (b o c : Nat) (f : Nat → Nat → Value) : es ≠ [] → es.length ≤ c → I b → (∀ (i : Nat) (e : List AV), es[i]? = some e → e.length = k) →
      (∀ (i : Nat) (e : List AV) (j : Nat) (u : AV), es[i]? = some e → e[j]? = some u → w.cell? ⟨b, o + (i * k + j), none⟩ = some (f i j)) →
      (∀ (i : Nat) (e : List AV) (j : Nat) (u : AV), es[i]? = some e → e[j]? = some u → (f i j).oneCell' = true) →
      (∀ (i : Nat) (e : List AV) (j : Nat) (u : AV), es[i]? = some e → e[j]? = some u → IRel I w u (f i j)) →
      IRel I w (.isl k es) (.slice (some ⟨b, o, none⟩) es.length c)
  | fn (f : Fn) (fs cs : List AV) (fs' cs' : Array Value) : fs'.size = fs.length → cs'.size = cs.length → (∀ (j : Nat) (u : AV) (v : Value), fs[j]? = some u → fs'[j]? = some v → IRel I w u v) →
      (∀ (j : Nat) (u : AV) (v : Value), cs[j]? = some u → cs'[j]? = some v → IRel I w u v) → IRel I w (.fn f fs cs) (.func f fs' cs')
  | ifc (t : TypeId) (u : AV) (v : Value) : IRel I w u v → IRel I w (.ifc t u) (.iface t v)
  | agg (cs : List AV) (cs' : Array Value) : cs'.size = cs.length → (∀ (j : Nat) (v : Value), cs'[j]? = some v → v.oneCell' = true) → (∀ (j : Nat) (u : AV) (v : Value), cs[j]? = some u → cs'[j]? = some v → IRel I w u v) → IRel I w (.agg cs) (.agg cs')
  | tup (cs : List AV) (cs' : Array Value) : cs'.size = cs.length → (∀ (j : Nat) (u : AV) (v : Value), cs[j]? = some u → cs'[j]? = some v → IRel I w u v) → IRel I w (.tup cs) (.tuple cs')
theorem cell?_of_heap {w w' : World} {b o : Nat} (h : w'.heap[b]? = w.heap[b]?) : w'.cell? ⟨b, o, none⟩ = w.cell? ⟨b, o, none⟩ := by
  simp [World.cell?, h]
theorem bsize_of_heap {w w' : World} {b : Nat} (h : w'.heap[b]? = w.heap[b]?) : bsize w' b = bsize w b := by
  simp [bsize, h]
theorem IRel.mono {I I' : Nat → Prop} {w w' : World} (hI : ∀ b, I b → I' b) (hw : ∀ b, I b → w'.heap[b]? = w.heap[b]?) {u : AV} {v : Value} (h : IRel I w u v) : IRel I' w' u v := by
  induction h with
  | int k n => exact .int k n
  | bool b => exact .bool b
  | str s => exact .str s
  | flt k n => exact .flt k n
  | nilp => exact .nilp
  | nils => exact .nils
  | nilf => exact .nilf
  | nili => exact .nili
  | nilm => exact .nilm
  | e0 A => exact .e0 A
  | ip cells off b o vs hb hl hc h1 _ ih => exact .ip cells off b o vs (hI b hb) hl (fun j v hj => (cell?_of_heap (hw b hb)).trans (hc j v hj)) h1 ih
  | isl0 k A c => exact .isl0 k A c
  | isl k es b o c f hne hl hb hk hc ho _ ih => exact .isl k es b o c f hne hl (hI b hb) hk (fun i e j u h1 h2 => (cell?_of_heap (hw b hb)).trans (hc i e j u h1 h2)) ho ih
  | fn f fs cs fs' cs' h1 h2 _ _ ih1 ih2 => exact .fn f fs cs fs' cs' h1 h2 ih1 ih2
  | ifc t u v _ ih => exact .ifc t u v ih
  | agg cs cs' h1 h2 _ ih => exact .agg cs cs' h1 h2 ih
  | tup cs cs' h1 _ ih => exact .tup cs cs' h1 ih
inductive VRel (I : Nat → Prop) (β : Nat → Nat) (N : Nat) (w : World) : AV → Value → Prop
  | imm (u : AV) (v : Value) : IRel I w u v → VRel I β N w u v
  | any (v : Value) : VRel I β N w .any v
  | op (id k e off : Nat) : id < N → VRel I β N w (.op id k e off) (.pointer (some ⟨β id, e * k + off, none⟩))
  | osl (id k i len cap : Nat) (ex : Bool) (c n : Nat) : id < N → len ≤ cap → cap ≤ c → (ex = true → c = cap) → bsize w (β id) = some n → (i + c) * k ≤ n →
      VRel I β N w (.osl id k i len cap ex) (.slice (some ⟨β id, i * k, none⟩) len c)
  | om (id : Nat) : id < N → VRel I β N w (.om id) (.map (some (β id)))
  | fn (f : Fn) (fs cs : List AV) (fs' cs' : Array Value) : fs'.size = fs.length → cs'.size = cs.length → (∀ (j : Nat) (u : AV) (v : Value), fs[j]? = some u → fs'[j]? = some v → VRel I β N w u v) →
      (∀ (j : Nat) (u : AV) (v : Value), cs[j]? = some u → cs'[j]? = some v → VRel I β N w u v) → VRel I β N w (.fn f fs cs) (.func f fs' cs')
  | ifc (t : TypeId) (u : AV) (v : Value) : VRel I β N w u v → VRel I β N w (.ifc t u) (.iface t v)
  | agg (cs : List AV) (cs' : Array Value) : cs'.size = cs.length → (∀ (j : Nat) (v : Value), cs'[j]? = some v → v.oneCell' = true) → (∀ (j : Nat) (u : AV) (v : Value), cs[j]? = some u → cs'[j]? = some v → VRel I β N w u v) → VRel I β N w (.agg cs) (.agg cs')
  | tup (cs : List AV) (cs' : Array Value) : cs'.size = cs.length → (∀ (j : Nat) (u : AV) (v : Value), cs[j]? = some u → cs'[j]? = some v → VRel I β N w u v) → VRel I β N w (.tup cs) (.tuple cs')
theorem VRel.mono {I I' : Nat → Prop} {β β' : Nat → Nat} {N N' : Nat} {w w' : World} (hI : ∀ b, I b → I' b) (hw : ∀ b, I b → w'.heap[b]? = w.heap[b]?) (hN : N ≤ N') (hβ : ∀ id, id < N → β' id = β id)
    (hs : ∀ b n, bsize w b = some n → bsize w' b = some n) {u : AV} {v : Value} (h : VRel I β N w u v) : VRel I' β' N' w' u v := by
  induction h with
  | imm u v h => exact .imm u v (h.mono hI hw)
  | any v => exact .any v
  | op id k e off h => rw [← hβ id h]; exact .op id k e off (by omega)
  | osl id k i len cap ex c n h h0 h1 h2 h3 h4 => rw [← hβ id h]; exact .osl id k i len cap ex c n (by omega) h0 h1 h2 (by rw [hβ id h]; exact hs _ _ h3) h4
  | om id h => rw [← hβ id h]; exact .om id (by omega)
  | fn f fs cs fs' cs' h1 h2 _ _ ih1 ih2 => exact .fn f fs cs fs' cs' h1 h2 ih1 ih2
  | ifc t u v _ ih => exact .ifc t u v ih
  | agg cs cs' h1 h2 _ ih => exact .agg cs cs' h1 h2 ih
  | tup cs cs' h1 _ ih => exact .tup cs cs' h1 ih
def MRel (I : Nat → Prop) (β : Nat → Nat) (N : Nat) (w : World) (es : List (AV × AV × Nat)) (es' : Array MapEntry) : Prop :=
  es'.size = es.length ∧ ∀ (j : Nat) (x : AV × AV × Nat) (y : MapEntry), es[j]? = some x → es'[j]? = some y → VRel I β N w x.1 y.key ∧ VRel I β N w x.2.1 y.val ∧ x.2.2 = y.born
def ORel (I : Nat → Prop) (β : Nat → Nat) (N : Nat) (w : World) : Ob → Option Obj → Prop
  | .dead, _ => True
  | .arr k es ex, o => ∃ cur t, o = some (.cells cur t (0, 0)) ∧ (∀ (i : Nat) (e : List AV), es[i]? = some e → e.length = k) ∧ es.length * k ≤ cur.size ∧ (ex = true → cur.size = es.length * k) ∧
      ∀ (i : Nat) (e : List AV) (j : Nat) (u : AV), es[i]? = some e → e[j]? = some u → ∃ v, cur[i * k + j]? = some v ∧ VRel I β N w u v ∧ v.oneCell' = true
  | .map es clock, o => ∃ es', o = some (.map es' clock) ∧ MRel I β N w es es'
structure Rel (I : Nat → Prop) (β : Nat → Nat) (h : Heap) (w : World) : Prop where
  imm : ∀ b, I b → b < w.heap.size
  obj : ∀ (id : Nat) (o : Ob), h[id]? = some o → o ≠ .dead → β id < w.heap.size ∧ ¬ I (β id) ∧ ORel I β h.length w o w.heap[β id]?
  inj : ∀ (id id' : Nat) (o o' : Ob), h[id]? = some o → o ≠ .dead → h[id']? = some o' → o' ≠ .dead → β id = β id' → id = id'
def Own (h : Heap) (β : Nat → Nat) (b : Nat) : Prop := ∃ (id : Nat) (o : Ob), h[id]? = some o ∧ o ≠ .dead ∧ β id = b
structure Ext (I : Nat → Prop) (β : Nat → Nat) (h : Heap) (w : World) (I' : Nat → Prop) (β' : Nat → Nat) (h' : Heap) (w' : World) : Prop where
  os : w'.os = w.os
  tape : w'.tape = w.tape
  output : w'.output = w.output
  size : w.heap.size ≤ w'.heap.size
  len : h.length ≤ h'.length
  beta : ∀ id, id < h.length → β' id = β id
  sub : ∀ b, I b → I' b
  immnew : ∀ b, I' b → I b ∨ Own h β b ∨ w.heap.size ≤ b
  own : ∀ b, Own h' β' b → Own h β b ∨ w.heap.size ≤ b
  keep : ∀ b, b < w.heap.size → ¬ Own h β b → w'.heap[b]? = w.heap[b]?
  bs : ∀ b n, bsize w b = some n → bsize w' b = some n
theorem Ext.refl (I : Nat → Prop) (β : Nat → Nat) (h : Heap) (w : World) : Ext I β h w I β h w :=
  ⟨rfl, rfl, rfl, Nat.le_refl _, Nat.le_refl _, fun _ _ => rfl, fun _ x => x, fun _ x => .inl x, fun _ x => .inl x, fun _ _ _ => rfl, fun _ _ x => x⟩
theorem Ext.trans {I I1 I2 : Nat → Prop} {β β1 β2 : Nat → Nat} {h h1 h2 : Heap} {w w1 w2 : World} (a : Ext I β h w I1 β1 h1 w1) (b : Ext I1 β1 h1 w1 I2 β2 h2 w2) : Ext I β h w I2 β2 h2 w2 where
  os := b.os.trans a.os
  tape := b.tape.trans a.tape
  output := b.output.trans a.output
  size := Nat.le_trans a.size b.size
  len := Nat.le_trans a.len b.len
  beta := fun id hid => (b.beta id (Nat.lt_of_lt_of_le hid a.len)).trans (a.beta id hid)
  sub := fun x hx => b.sub x (a.sub x hx)
  immnew := fun x hx => by
    have hs := a.size
    rcases b.immnew x hx with h1 | h1 | h1
    · exact a.immnew x h1
    · exact (a.own x h1).imp_right (fun h => h) |>.elim (fun h => .inr (.inl h)) (fun h => .inr (.inr h))
    · exact .inr (.inr (by omega))
  own := fun x hx => by
    have hs := a.size
    rcases b.own x hx with h1 | h1
    · exact a.own x h1
    · exact .inr (by omega)
  keep := fun x hx hn => by
    have hs := a.size
    refine (b.keep x (by omega) (fun ho => ?_)).trans (a.keep x hx hn)
    rcases a.own x ho with h1 | h1
    · exact hn h1
    · omega
  bs := fun x n hx => b.bs x n (a.bs x n hx)
theorem Ext.heap_imm {I I' : Nat → Prop} {β β' : Nat → Nat} {h h' : Heap} {w w' : World} (r : Rel I β h w) (x : Ext I β h w I' β' h' w') (b : Nat) (hb : I b) : w'.heap[b]? = w.heap[b]? :=
  x.keep b (r.imm b hb) (fun ⟨id, o, h1, h2, h3⟩ => (r.obj id o h1 h2).2.1 (h3 ▸ hb))
theorem VRel.ext {I I' : Nat → Prop} {β β' : Nat → Nat} {h h' : Heap} {w w' : World} (r : Rel I β h w) (x : Ext I β h w I' β' h' w') {u : AV} {v : Value} (hv : VRel I β h.length w u v) : VRel I' β' h'.length w' u v :=
  hv.mono x.sub (fun b hb => x.heap_imm r b hb) x.len x.beta x.bs
theorem IRel.ext {I I' : Nat → Prop} {β β' : Nat → Nat} {h h' : Heap} {w w' : World} (r : Rel I β h w) (x : Ext I β h w I' β' h' w') {u : AV} {v : Value} (hv : IRel I w u v) : IRel I' w' u v :=
  hv.mono x.sub (fun b hb => x.heap_imm r b hb)
structure FRel (I : Nat → Prop) (β : Nat → Nat) (N : Nat) (w : World) (n : Nat) (a : Fr) (c : Act) : Prop where
  val : ∀ t, VRel I β N w (a t) (c.tmps.getD t undef)
  size : c.tmps.size = n
  defers : c.defers = []
theorem FRel.ext {I I' : Nat → Prop} {β β' : Nat → Nat} {h h' : Heap} {w w' : World} (r : Rel I β h w) (x : Ext I β h w I' β' h' w') {n : Nat} {a : Fr} {c : Act} (hf : FRel I β h.length w n a c) : FRel I' β' h'.length w' n a c :=
  ⟨fun t => (hf.val t).ext r x, hf.size, hf.defers⟩
theorem FRel.put {I : Nat → Prop} {β : Nat → Nat} {N : Nat} {w : World} {n : Nat} {a : Fr} {c : Act} (hf : FRel I β N w n a c) {d : Nat} (hd : d < n) {u : AV} {v : Value} (hv : VRel I β N w u v) :
    FRel I β N w n (upd a d u) (c.put (some d) v) := by
  refine ⟨fun t => ?_, by simp [Act.put, hf.size], hf.defers⟩
  by_cases ht : t = d
  · subst ht
    rw [upd_same]
    have : (c.put (some t) v).tmps.getD t undef = v := by simp [Act.put, hf.size, hd]
    rw [this]
    exact hv
  · rw [upd_ne _ _ _ _ ht]
    have : (c.put (some d) v).tmps.getD t undef = c.tmps.getD t undef := by
      simp only [Act.put, Array.getD_eq_getD_getElem?]
      rw [Array.getElem?_setIfInBounds_ne (fun h => ht h.symm)]
    rw [this]
    exact hf.val t
end Go.AL
end
section
namespace Go.AL
set_option linter.unusedVariables false
set_option linter.unusedSimpArgs false
def ofV : Value → Option AV
  | .int k n => some (.int k n)
  | .bool b => some (.bool b)
  | .string s => some (.str s)
  | .float k b => some (.flt k b)
  | .pointer none => some .nilp
  | .slice none 0 0 => some .nils
  | .nilFunc => some .nilf
  | .nilIface => some .nili
  | .map none => some .nilm
  | .tuple vs => if vs.size = 0 then some .undef else none
  | _ => none
theorem IRel.undef (I : Nat → Prop) (w : World) : IRel I w .undef Go.undef := .tup [] #[] rfl (fun j u v h => by simp at h)
theorem ofV_sound {I : Nat → Prop} {w : World} {v : Value} {u : AV} (h : ofV v = some u) : IRel I w u v := by
  unfold ofV at h
  split at h
  case h_10 vs =>
    split at h
    · rename_i hz
      obtain rfl : vs = #[] := by simpa using hz
      simp at h
      subst h
      exact .undef I w
    · simp at h
  all_goals first
    | (simp at h; done)
    | (simp at h; subst h; constructor)
def evK (a : Fr) (x : Operand) (K : AV → Prop) : Prop :=
  match x with
  | .tmp t => K (a t)
  | .const v => (match ofV v with | some u => K u | none => False)
  | .func f => K (.fn (.func f) [] [])
  | .global _ => False
section
variable {P : Program} {I : Nat → Prop} {β : Nat → Nat} {h : Heap} {N : Nat} {w : World} {n : Nat} {a : Fr} {c : Act}
theorem evK_sound (hf : FRel I β N w n a c) {x : Operand} {K : AV → Prop} (hk : evK a x K) : ∃ u, VRel I β N w u (c.eval x) ∧ K u := by
  cases x with
  | tmp t => exact ⟨_, hf.val t, hk⟩
  | const v =>
    simp only [evK] at hk
    split at hk
    · rename_i u hu
      exact ⟨u, .imm _ _ (ofV_sound hu), hk⟩
    · exact hk.elim
  | func f => exact ⟨_, .imm _ _ (.fn (.func f) [] [] #[] #[] rfl rfl (fun j u v h => by simp at h) (fun j u v h => by simp at h)), hk⟩
  | global g => exact hk.elim
def VRels (I : Nat → Prop) (β : Nat → Nat) (N : Nat) (w : World) (us : List AV) (vs : List Value) : Prop :=
  us.length = vs.length ∧ ∀ (j : Nat) (u : AV) (v : Value), us[j]? = some u → vs[j]? = some v → VRel I β N w u v
theorem VRels.nil : VRels I β N w [] [] := ⟨rfl, fun j u v h => by simp at h⟩
theorem VRels.cons {u : AV} {v : Value} {us : List AV} {vs : List Value} (h1 : VRel I β N w u v) (h2 : VRels I β N w us vs) : VRels I β N w (u :: us) (v :: vs) := by
  refine ⟨by simp [h2.1], fun j x y hx hy => ?_⟩
  cases j with
  | zero => simp at hx hy; subst hx hy; exact h1
  | succ j => simp at hx hy; exact h2.2 j x y hx hy
theorem VRels.head {u : AV} {us : List AV} {vs : List Value} (h : VRels I β N w (u :: us) vs) : ∃ v vs', vs = v :: vs' ∧ VRel I β N w u v ∧ VRels I β N w us vs' := by
  cases vs with
  | nil => simp [VRels] at h
  | cons v vs => exact ⟨v, vs, rfl, h.2 0 u v rfl rfl, by have := h.1; simpa using this, fun j x y hx hy => h.2 (j + 1) x y (by simpa using hx) (by simpa using hy)⟩
theorem VRels.none {vs : List Value} (h : VRels I β N w [] vs) : vs = [] := by
  have := h.1
  cases vs with
  | nil => rfl
  | cons v vs => simp at this
theorem VRels.append {us us' : List AV} {vs vs' : List Value} (h1 : VRels I β N w us vs) (h2 : VRels I β N w us' vs') : VRels I β N w (us ++ us') (vs ++ vs') := by
  induction us generalizing vs with
  | nil => have := h1.none; subst this; simpa using h2
  | cons u us ih =>
    obtain ⟨v, vs1, rfl, r1, r2⟩ := h1.head
    exact VRels.cons r1 (ih r2)
theorem VRels.mono' {I' : Nat → Prop} {β' : Nat → Nat} {N' : Nat} {w' : World} {us : List AV} {vs : List Value} (hm : ∀ u v, VRel I β N w u v → VRel I' β' N' w' u v) (h1 : VRels I β N w us vs) : VRels I' β' N' w' us vs :=
  ⟨h1.1, fun j u v hu hv => hm u v (h1.2 j u v hu hv)⟩
def evsK (a : Fr) : List Operand → (List AV → Prop) → Prop
  | [], K => K []
  | x :: r, K => evK a x fun u => evsK a r fun us => K (u :: us)
theorem evsK_sound (hf : FRel I β N w n a c) : ∀ {xs : List Operand} {K : List AV → Prop}, evsK a xs K → ∃ us, VRels I β N w us (xs.map c.eval) ∧ K us
  | [], K, hk => ⟨[], .nil, hk⟩
  | x :: r, K, hk => by
    obtain ⟨u, hu, hk1⟩ := evK_sound hf hk
    obtain ⟨us, hus, hk2⟩ := evsK_sound hf hk1
    exact ⟨u :: us, .cons hu hus, hk2⟩
end
def OpOk (P : Program) (o : Oper) (a : Fr) (h : Heap) (K : AV → Heap → Prop) : Prop :=
  ∀ (I : Nat → Prop) (β : Nat → Nat) (w : World) (n : Nat) (c : Act) (next : Act → World → Prop) (Q : Exit → Act → World → Prop), Rel I β h w → FRel I β h.length w n a c →
    (∀ u cv I' β' h' w', K u h' → Ext I β h w I' β' h' w' → Rel I' β' h' w' → VRel I' β' h'.length w' u cv → next (c.put o.dst cv) w') → o.wp P c w next Q
theorem OpOk.mono {P : Program} {o : Oper} {a : Fr} {h : Heap} {K K' : AV → Heap → Prop} (hh : OpOk P o a h K) (hk : ∀ u h', K u h' → K' u h') : OpOk P o a h K' :=
  fun I β w n c next Q r f hn => hh I β w n c next Q r f (fun u cv I' β' h' w' k => hn u cv I' β' h' w' (hk u h' k))
theorem OpOk.value {P : Program} {o : Oper} {a : Fr} {h : Heap} {K : AV → Heap → Prop}
    (hv : ∀ (I : Nat → Prop) (β : Nat → Nat) (w : World) (n : Nat) (c : Act), Rel I β h w → FRel I β h.length w n a c →
      ∃ cv u I' β' h' w', (execOp c.eval o).run P w = .ok (.value cv) w' ∧ K u h' ∧ Ext I β h w I' β' h' w' ∧ Rel I' β' h' w' ∧ VRel I' β' h'.length w' u cv) : OpOk P o a h K := by
  intro I β w n c next Q r f hn
  obtain ⟨cv, u, I', β', h', w', hr, hk, he, hr', hv'⟩ := hv I β w n c r f
  unfold Oper.wp
  rw [hr, Oper.upon_value]
  exact hn u cv I' β' h' w' hk he hr' hv'
theorem OpOk.pure {P : Program} {o : Oper} {a : Fr} {h : Heap} {K : AV → Heap → Prop}
    (hv : ∀ (I : Nat → Prop) (β : Nat → Nat) (w : World) (n : Nat) (c : Act), Rel I β h w → FRel I β h.length w n a c →
      ∃ cv u, (execOp c.eval o).run P w = .ok (.value cv) w ∧ K u h ∧ VRel I β h.length w u cv) : OpOk P o a h K :=
  .value fun I β w n c r f => let ⟨cv, u, h1, h2, h3⟩ := hv I β w n c r f; ⟨cv, u, I, β, h, w, h1, h2, .refl _ _ _ _, r, h3⟩
theorem OpOk.skip {P : Program} {o : Oper} {a : Fr} {h : Heap} {K : AV → Heap → Prop}
    (hv : ∀ (I : Nat → Prop) (β : Nat → Nat) (w : World) (n : Nat) (c : Act), Rel I β h w → FRel I β h.length w n a c →
      ∃ I' β' h' w', (execOp c.eval o).run P w = .ok .skip w' ∧ K .undef h' ∧ Ext I β h w I' β' h' w' ∧ Rel I' β' h' w') : OpOk P o a h K := by
  intro I β w n c next Q r f hn
  obtain ⟨I', β', h', w', hr, hk, he, hr'⟩ := hv I β w n c r f
  unfold Oper.wp
  rw [hr, Oper.upon_skip]
  exact hn .undef undef I' β' h' w' hk he hr' (.imm _ _ (.undef _ _))
theorem VRel.heapEq {I : Nat → Prop} {β : Nat → Nat} {N : Nat} {w w' : World} (hw : w'.heap = w.heap) {u : AV} {v : Value} (h : VRel I β N w u v) : VRel I β N w' u v :=
  h.mono (fun _ x => x) (fun b _ => by rw [hw]) (Nat.le_refl _) (fun _ _ => rfl) (fun b n hb => by rw [bsize_of_heap (w := w) (by rw [hw])]; exact hb)
theorem ORel.mono {I I' : Nat → Prop} {β β' : Nat → Nat} {N N' : Nat} {w w' : World} (hm : ∀ u v, VRel I β N w u v → VRel I' β' N' w' u v) {o : Ob} {x : Option Obj} (h : ORel I β N w o x) : ORel I' β' N' w' o x := by
  cases o with
  | dead => trivial
  | arr k es ex =>
    obtain ⟨cur, t, h1, h2, h3, h4, h5⟩ := h
    exact ⟨cur, t, h1, h2, h3, h4, fun i e j u he hu => let ⟨v, a, b, c⟩ := h5 i e j u he hu; ⟨v, a, hm _ _ b, c⟩⟩
  | map es cl =>
    obtain ⟨es', h1, h2, h3⟩ := h
    exact ⟨es', h1, h2, fun j x y hx hy => let ⟨p, q, r⟩ := h3 j x y hx hy; ⟨hm _ _ p, hm _ _ q, r⟩⟩
theorem Rel.heapEq {I : Nat → Prop} {β : Nat → Nat} {h : Heap} {w w' : World} (r : Rel I β h w) (hw : w'.heap = w.heap) : Rel I β h w' :=
  ⟨fun b hb => by rw [hw]; exact r.imm b hb, fun id o ho hd => by
    obtain ⟨h1, h2, h3⟩ := r.obj id o ho hd
    rw [hw]
    exact ⟨h1, h2, h3.mono (fun u v hv => hv.heapEq hw)⟩, r.inj⟩
theorem Ext.heapEq {I : Nat → Prop} {β : Nat → Nat} {h : Heap} {w w' : World} (hw : w'.heap = w.heap) (ho : w'.os = w.os) (ht : w'.tape = w.tape) (hu : w'.output = w.output) : Ext I β h w I β h w' :=
  ⟨ho, ht, hu, by rw [hw]; exact Nat.le_refl _, Nat.le_refl _, fun _ _ => rfl, fun _ x => x, fun _ x => .inl x, fun _ x => .inl x, fun _ _ _ => by rw [hw], fun b n x => by rw [bsize_of_heap (w := w) (by rw [hw])]; exact x⟩
theorem FRel.heapEq {I : Nat → Prop} {β : Nat → Nat} {N : Nat} {w w' : World} {n : Nat} {a : Fr} {c : Act} (f : FRel I β N w n a c) (hw : w'.heap = w.heap) : FRel I β N w' n a c :=
  ⟨fun t => (f.val t).heapEq hw, f.size, f.defers⟩
def bind1 (β : Nat → Nat) (N b : Nat) : Nat → Nat := fun id => if id = N then b else β id
theorem bind1_new (β : Nat → Nat) (N b : Nat) : bind1 β N b N = b := by simp [bind1]
theorem bind1_old (β : Nat → Nat) (N b id : Nat) (h : id < N) : bind1 β N b id = β id := by simp [bind1, Nat.ne_of_lt h]
theorem new_ok {I : Nat → Prop} {β : Nat → Nat} {h : Heap} {w w' : World} (r : Rel I β h w) (ob : Ob) (x : Obj) (hw : w'.heap = w.heap.push x) (ho : w'.os = w.os) (ht : w'.tape = w.tape) (hu : w'.output = w.output)
    (hx : ∀ I' β' N' w', (∀ u v, VRel I β h.length w u v → VRel I' β' N' w' u v) → ORel I' β' N' w' ob (some x)) :
    Ext I β h w I (bind1 β h.length w.heap.size) (h ++ [ob]) w' ∧ Rel I (bind1 β h.length w.heap.size) (h ++ [ob]) w' := by
  have hold : ∀ b, b < w.heap.size → w'.heap[b]? = w.heap[b]? := fun b hb => by
    rw [hw, Array.getElem?_push, if_neg (by omega)]
  have hbs : ∀ b n, bsize w b = some n → bsize w' b = some n := fun b n hb => by
    have hlt : b < w.heap.size := by
      unfold bsize at hb
      split at hb
      · rename_i h1; exact (Array.getElem?_eq_some_iff.1 h1).1
      · simp at hb
    rw [bsize_of_heap (hold b hlt)]
    exact hb
  have hmono : ∀ u v, VRel I β h.length w u v → VRel I (bind1 β h.length w.heap.size) (h ++ [ob]).length w' u v := fun u v hv =>
    hv.mono (fun _ x => x) (fun b hb => hold b (r.imm b hb)) (by simp) (fun id hid => bind1_old _ _ _ _ hid) hbs
  refine ⟨⟨ho, ht, hu, by rw [hw]; simp, by simp, fun id hid => bind1_old _ _ _ _ hid, fun _ x => x, fun _ x => .inl x, ?_, fun b hb _ => hold b hb, hbs⟩, ⟨fun b hb => by rw [hw]; have := r.imm b hb; simp; omega, ?_, ?_⟩⟩
  · rintro b ⟨id, o, h1, h2, h3⟩
    rcases Nat.lt_or_ge id h.length with hlt | hge
    · rw [List.getElem?_append_left hlt] at h1
      rw [bind1_old _ _ _ _ hlt] at h3
      exact .inl ⟨id, o, h1, h2, h3⟩
    · have hid : id = h.length := by
        have := (List.getElem?_eq_some_iff.1 h1).1
        simp at this
        omega
      subst hid
      rw [bind1_new] at h3
      exact .inr (by omega)
  · intro id o h1 h2
    rcases Nat.lt_or_ge id h.length with hlt | hge
    · rw [List.getElem?_append_left hlt] at h1
      obtain ⟨p, q, s⟩ := r.obj id o h1 h2
      rw [bind1_old _ _ _ _ hlt, hold _ p]
      exact ⟨by rw [hw]; simp; omega, q, s.mono hmono⟩
    · have hid : id = h.length := by
        have := (List.getElem?_eq_some_iff.1 h1).1
        simp at this
        omega
      subst hid
      rw [bind1_new]
      have : o = ob := by simpa using h1.symm
      subst this
      have h4 : w'.heap[w.heap.size]? = some x := by rw [hw]; simp
      rw [h4]
      exact ⟨by rw [hw]; simp, fun hI => by have := r.imm _ hI; omega, hx _ _ _ _ hmono⟩
  · intro id id' o o' h1 h2 h3 h4 he
    rcases Nat.lt_or_ge id h.length with hlt | hge <;> rcases Nat.lt_or_ge id' h.length with hlt' | hge'
    · rw [List.getElem?_append_left hlt] at h1
      rw [List.getElem?_append_left hlt'] at h3
      rw [bind1_old _ _ _ _ hlt, bind1_old _ _ _ _ hlt'] at he
      exact r.inj id id' o o' h1 h2 h3 h4 he
    · rw [List.getElem?_append_left hlt] at h1
      have := (List.getElem?_eq_some_iff.1 h3).1
      have hid : id' = h.length := by simp at this; omega
      rw [bind1_old _ _ _ _ hlt, hid, bind1_new] at he
      have := (r.obj id o h1 h2).1
      omega
    · rw [List.getElem?_append_left hlt'] at h3
      have := (List.getElem?_eq_some_iff.1 h1).1
      have hid : id = h.length := by simp at this; omega
      rw [bind1_old _ _ _ _ hlt', hid, bind1_new] at he
      have := (r.obj id' o' h3 h4).1
      omega
    · have a1 := (List.getElem?_eq_some_iff.1 h1).1
      have a2 := (List.getElem?_eq_some_iff.1 h3).1
      simp at a1 a2
      omega
theorem set_ok {I : Nat → Prop} {β : Nat → Nat} {h : Heap} {w w' : World} (r : Rel I β h w) (id : Nat) (o ob : Ob) (x : Obj) (h1 : h[id]? = some o) (h2 : o ≠ .dead) (h2' : ob ≠ .dead)
    (hw : ∀ b, b ≠ β id → w'.heap[b]? = w.heap[b]?) (hx : w'.heap[β id]? = some x) (hs : w'.heap.size = w.heap.size) (ho : w'.os = w.os) (ht : w'.tape = w.tape) (hu : w'.output = w.output)
    (hb : ∀ n, bsize w (β id) = some n → bsize w' (β id) = some n)
    (hor : ∀ w', (∀ u v, VRel I β h.length w u v → VRel I β h.length w' u v) → ORel I β h.length w' ob (some x)) :
    Ext I β h w I β (h.set id ob) w' ∧ Rel I β (h.set id ob) w' := by
  have hid : id < h.length := (List.getElem?_eq_some_iff.1 h1).1
  obtain ⟨p1, p2, p3⟩ := r.obj id o h1 h2
  have hbs : ∀ b n, bsize w b = some n → bsize w' b = some n := fun b n hbn => by
    by_cases e : b = β id
    · subst e; exact hb n hbn
    · rw [bsize_of_heap (hw b e)]; exact hbn
  have hmono : ∀ u v, VRel I β h.length w u v → VRel I β h.length w' u v := fun u v hv =>
    hv.mono (fun _ x => x) (fun b hI => hw b (fun e => p2 (e ▸ hI))) (Nat.le_refl _) (fun _ _ => rfl) hbs
  have hl : (h.set id ob).length = h.length := by simp
  have hown : ∀ b, Own (h.set id ob) β b → Own h β b := by
    rintro b ⟨i, o', q1, q2, q3⟩
    by_cases e : i = id
    · subst e; exact ⟨i, o, h1, h2, q3⟩
    · rw [List.getElem?_set_ne (fun x => e x.symm)] at q1
      exact ⟨i, o', q1, q2, q3⟩
  refine ⟨⟨ho, ht, hu, by omega, by rw [hl]; exact Nat.le_refl _, fun _ _ => rfl, fun _ x => x, fun _ x => .inl x, fun b hb => .inl (hown b hb), fun b hb hn => hw b (fun e => hn ⟨id, o, h1, h2, e.symm⟩), hbs⟩,
    ⟨fun b hb => by have := r.imm b hb; omega, ?_, ?_⟩⟩
  · intro i o' q1 q2
    rw [hl]
    by_cases e : i = id
    · subst e
      rw [List.getElem?_set_self hid] at q1
      injection q1 with q1
      subst q1
      rw [hx]
      exact ⟨by omega, p2, hor _ hmono⟩
    · rw [List.getElem?_set_ne (fun x => e x.symm)] at q1
      obtain ⟨s1, s2, s3⟩ := r.obj i o' q1 q2
      rw [hw (β i) (fun e' => e (r.inj i id o' o q1 q2 h1 h2 e'))]
      exact ⟨by omega, s2, s3.mono hmono⟩
  · intro i i' o1 o2 q1 q2 q3 q4 he
    have key : ∀ (j : Nat) (oo : Ob), (h.set id ob)[j]? = some oo → oo ≠ .dead → ∃ oo', h[j]? = some oo' ∧ oo' ≠ .dead := by
      intro j oo hj hd
      by_cases e : j = id
      · subst e; exact ⟨o, h1, h2⟩
      · rw [List.getElem?_set_ne (fun x => e x.symm)] at hj
        exact ⟨oo, hj, hd⟩
    obtain ⟨a1, b1, c1⟩ := key i o1 q1 q2
    obtain ⟨a2, b2, c2⟩ := key i' o2 q3 q4
    exact r.inj i i' a1 a2 b1 c1 b2 c2 he
end Go.AL
end
section
namespace Go.AL
set_option linter.unusedVariables false
set_option linter.unusedSimpArgs false
def tsize (P : Program) (t : TypeId) : Option Nat := (P.info? t).map (·.size)
def tbytes (P : Program) (t : TypeId) : Option Nat := (P.info? t).map (·.bytes)
def tagg (P : Program) (t : TypeId) : Option Bool :=
  match P.underlying t with
  | some (.struct _) => some true
  | some (.array _ _) => some true
  | some _ => some false
  | none => none
def telem (P : Program) (t : TypeId) : Option TypeId := match P.underlying t with | some (.slice e) => some e | _ => none
def tarr (P : Program) (t : TypeId) : Option (Nat × TypeId) := match P.underlying t with | some (.array n e) => some (n, e) | _ => none
def tint (P : Program) (t : TypeId) : Option IntKind := match P.underlying t with | some (.int k) => some k | _ => none
def tstring (P : Program) (t : TypeId) : Bool := match P.underlying t with | some .string => true | _ => false
def foff (P : Program) (t : TypeId) (f : Nat) : Option (Nat × TypeId) :=
  match P.underlying t with
  | some (.struct fs) => (match fs[f]? with
    | some fd => (match tsize P fd.type with | some (_ + 1) => some (fd.offset, fd.type) | _ => none)
    | none => none)
  | _ => none
def tnilable (P : Program) (t : TypeId) : Bool := match P.underlying t with | some (.slice _) => true | some (.pointer _) => true | some (.func ..) => true | some (.interface _) => true | some (.map ..) => true | _ => false
def tbool (P : Program) (t : TypeId) : Bool := match P.underlying t with | some .bool => true | _ => false
theorem run_sizeOf' {P : Program} {t : TypeId} {n : Nat} (h : tsize P t = some n) (w : World) : (sizeOf t).run P w = .ok n w := by
  unfold tsize at h
  cases hi : P.info? t with
  | none => simp [hi] at h
  | some i =>
    simp [hi] at h
    simp [sizeOf, typeInfo, hi, h]
theorem run_isAgg' {P : Program} {t : TypeId} {b : Bool} (h : tagg P t = some b) (w : World) : (isAgg t).run P w = .ok b w := by
  unfold tagg at h
  cases hu : P.underlying t with
  | none => simp [hu] at h
  | some d =>
    simp only [isAgg, Sem.run_bind, run_underlying hu, Result.andThen_ok]
    rw [hu] at h
    cases d <;> simp at h <;> subst h <;> rfl
theorem telem_und {P : Program} {t e : TypeId} (h : telem P t = some e) : P.underlying t = some (.slice e) := by
  unfold telem at h
  split at h
  · rename_i h1; simp at h; rw [h1, h]
  · simp at h
theorem tarr_und {P : Program} {t : TypeId} {n e : Nat} (h : tarr P t = some (n, e)) : P.underlying t = some (.array n e) := by
  unfold tarr at h
  split at h
  · rename_i h1; simp at h; rw [h1, h.1, h.2]
  · simp at h
theorem tint_und {P : Program} {t : TypeId} {k : IntKind} (h : tint P t = some k) : P.underlying t = some (.int k) := by
  unfold tint at h
  split at h
  · rename_i h1; simp at h; rw [h1, h]
  · simp at h
def ldK (P : Program) (t : TypeId) (cells : List AV) (off : Nat) (K : AV → Prop) : Prop :=
  match tagg P t with
  | some true => ∃ n, tsize P t = some n ∧ off + n ≤ cells.length ∧ K (.agg ((cells.drop off).take n))
  | some false => ∃ v, cells[off]? = some v ∧ K v
  | none => False
theorem ld_ok {P : Program} {w : World} {t : TypeId} {cells : List AV} {off : Nat} {K : AV → Prop} (R : AV → Value → Prop)
    (hR : ∀ (cs : List AV) (cs' : Array Value), cs'.size = cs.length → (∀ (j : Nat) (v : Value), cs'[j]? = some v → v.oneCell' = true) → (∀ (j : Nat) (u : AV) (v : Value), cs[j]? = some u → cs'[j]? = some v → R u v) → R (.agg cs) (.agg cs'))
    (b o : Nat) (vs : List Value) (hl : vs.length = cells.length) (hc : ∀ (j : Nat) (v : Value), vs[j]? = some v → w.cell? ⟨b, o + j, none⟩ = some v) (h1 : ∀ (j : Nat) (v : Value), vs[j]? = some v → v.oneCell' = true)
    (hr : ∀ (j : Nat) (u : AV) (v : Value), cells[j]? = some u → vs[j]? = some v → R u v) (hk : ldK P t cells off K) :
    ∃ cv u, (loadVar t ⟨b, o + off, none⟩).run P w = .ok cv w ∧ K u ∧ R u cv := by
  unfold ldK at hk
  split at hk
  · rename_i ht
    obtain ⟨n, hn, hle, hk⟩ := hk
    refine ⟨.agg ((vs.drop off).take n).toArray, _, ?_, hk, hR _ _ (by simp; omega) ?_ ?_⟩
    · simp only [loadVar, Sem.run_bind, run_isAgg' ht, Result.andThen_ok, if_true, run_sizeOf' hn]
      have hlen : ((vs.drop off).take n).length = n := by simp; omega
      have := run_loadCells_list (P := P) (w := w) ⟨b, o + off, none⟩ ((vs.drop off).take n) (fun j v hj => by
        rw [List.getElem?_take] at hj
        split at hj
        · rw [List.getElem?_drop] at hj
          have := hc _ v hj
          rw [Addr.add_lit, Nat.add_assoc]
          exact this
        · simp at hj)
      rw [hlen] at this
      rw [this]
      rfl
    · intro j v hj
      simp only [List.getElem?_toArray, List.getElem?_take] at hj
      split at hj
      · rw [List.getElem?_drop] at hj; exact h1 _ v hj
      · simp at hj
    · intro j u v hj hj'
      simp only [List.getElem?_toArray, List.getElem?_take] at hj hj'
      split at hj
      · rename_i hlt
        rw [if_pos hlt, List.getElem?_drop] at hj'
        rw [List.getElem?_drop] at hj
        exact hr _ u v hj hj'
      · simp at hj
  · rename_i ht
    obtain ⟨u, hu, hk⟩ := hk
    have hlt : off < vs.length := by rw [hl]; exact (List.getElem?_eq_some_iff.1 hu).1
    refine ⟨vs[off], u, ?_, hk, hr off u _ hu (List.getElem?_eq_getElem hlt)⟩
    simp [loadVar, run_isAgg' ht, hc off _ (List.getElem?_eq_getElem hlt)]
  · exact hk.elim
section
variable {P : Program} {dst : Option Tmp} {ty : TypeId} {pos : String} {after : Array Edge} {guard : Option (Nat × Bool)} {a : Fr} {h : Heap} {K : AV → Heap → Prop}
theorem op_move {x : Operand} (hk : evK a x fun u => K u h) : OpOk P ⟨dst, .move x, ty, pos, after, guard⟩ a h K :=
  .pure fun I β w n c r f => let ⟨u, hu, hk⟩ := evK_sound f hk; ⟨_, u, rfl, hk, hu⟩
theorem op_assign {x : Operand} (hk : evK a x fun u => K u h) : OpOk P ⟨dst, .assign x, ty, pos, after, guard⟩ a h K :=
  .pure fun I β w n c r f => let ⟨u, hu, hk⟩ := evK_sound f hk; ⟨_, u, rfl, hk, hu⟩
def pickK (b : AV) (u v : AV) (K : AV → Prop) : Prop := match b with | .bool b => (b = true → K u) ∧ (b = false → K v) | _ => False
theorem VRel.bool_inv {I : Nat → Prop} {β : Nat → Nat} {N : Nat} {w : World} {b : Bool} {v : Value} (h : VRel I β N w (.bool b) v) : v = .bool b := by
  cases h with | imm _ _ h => cases h; rfl
theorem VRel.int_inv {I : Nat → Prop} {β : Nat → Nat} {N : Nat} {w : World} {k : IntKind} {n : Int} {v : Value} (h : VRel I β N w (.int k n) v) : v = .int k n := by
  cases h with | imm _ _ h => cases h; rfl
theorem VRel.str_inv {I : Nat → Prop} {β : Nat → Nat} {N : Nat} {w : World} {s : ByteArray} {v : Value} (h : VRel I β N w (.str s) v) : v = .string s := by
  cases h with | imm _ _ h => cases h; rfl
theorem VRel.ofInt {I : Nat → Prop} {β : Nat → Nat} {N : Nat} {w : World} (k : IntKind) (n : Int) : VRel I β N w (.int k n) (.int k n) := .imm _ _ (.int k n)
theorem VRel.ofBool {I : Nat → Prop} {β : Nat → Nat} {N : Nat} {w : World} (b : Bool) : VRel I β N w (.bool b) (.bool b) := .imm _ _ (.bool b)
theorem VRel.ofStr {I : Nat → Prop} {β : Nat → Nat} {N : Nat} {w : World} (b : ByteArray) : VRel I β N w (.str b) (.string b) := .imm _ _ (.str b)
theorem op_pick {c x y : Operand} (hk : evK a c fun c => evK a x fun x => evK a y fun y => pickK c x y fun u => K u h) : OpOk P ⟨dst, .pick c x y, ty, pos, after, guard⟩ a h K := by
  refine .pure fun I β w n cc r f => ?_
  obtain ⟨uc, hc, hk⟩ := evK_sound f hk
  obtain ⟨ux, hx, hk⟩ := evK_sound f hk
  obtain ⟨uy, hy, hk⟩ := evK_sound f hk
  cases uc with
  | bool b =>
    have e := hc.bool_inv
    cases b with
    | true => exact ⟨_, ux, by simp [execOp, e, asBool], hk.1 rfl, hx⟩
    | false => exact ⟨_, uy, by simp [execOp, e, asBool], hk.2 rfl, hy⟩
  | _ => exact hk.elim
def loadK (P : Program) (t : TypeId) (h : Heap) (p : AV) (K : AV → Prop) : Prop :=
  match p with
  | .ip cells off => ldK P t cells off K
  | .op id k e off => ∃ es ex, h[id]? = some (.arr k es ex) ∧ ∃ c, es[e]? = some c ∧ ldK P t c off K
  | _ => False
theorem cell_of_block {w : World} {b : Nat} {cur : Array Value} {t : TypeId} {fr : Nat × Nat} (h : w.heap[b]? = some (.cells cur t fr)) (o : Nat) : w.cell? ⟨b, o, none⟩ = cur[o]? := by
  simp [World.cell?, h]
theorem elem_cells {I : Nat → Prop} {β : Nat → Nat} {w : World} {id k : Nat} {es : List (List AV)} {ex : Bool} {e : Nat} {c : List AV} (r : Rel I β h w) (hid : h[id]? = some (.arr k es ex)) (he : es[e]? = some c) :
    ∃ vs : List Value, vs.length = c.length ∧ (∀ (j : Nat) (v : Value), vs[j]? = some v → w.cell? ⟨β id, e * k + j, none⟩ = some v) ∧ (∀ (j : Nat) (v : Value), vs[j]? = some v → v.oneCell' = true) ∧
      (∀ (j : Nat) (u : AV) (v : Value), c[j]? = some u → vs[j]? = some v → VRel I β h.length w u v) := by
  obtain ⟨_, _, cur, t, hb, hk, hs, _, hc⟩ := r.obj id _ hid (by simp)
  have hck := hk e c he
  refine ⟨(List.range c.length).map fun j => (cur[e * k + j]?).getD undef, by simp, fun j v hj => ?_, fun j v hj => ?_, fun j u v hu hj => ?_⟩
  · obtain ⟨hlt, rfl⟩ := List.getElem?_eq_some_iff.1 hj
    simp at hlt
    obtain ⟨v, h1, _⟩ := hc e c j _ he (List.getElem?_eq_getElem hlt)
    rw [cell_of_block hb]
    simp [h1]
  · obtain ⟨hlt, rfl⟩ := List.getElem?_eq_some_iff.1 hj
    simp at hlt
    obtain ⟨v, h1, _, h3⟩ := hc e c j _ he (List.getElem?_eq_getElem hlt)
    simpa [h1] using h3
  · obtain ⟨hlt, rfl⟩ := List.getElem?_eq_some_iff.1 hj
    simp at hlt
    obtain ⟨v, h1, h2, _⟩ := hc e c j u he hu
    simpa [h1] using h2
theorem load_ok {I : Nat → Prop} {β : Nat → Nat} {w : World} {t : TypeId} {p : AV} {v : Value} {K : AV → Prop} (r : Rel I β h w) (hv : VRel I β h.length w p v) (hk : loadK P t h p K) :
    ∃ cv u, (Instr.loadAt t v).run P w = .ok cv w ∧ K u ∧ VRel I β h.length w u cv := by
  cases p with
  | ip cells off =>
    cases hv with
    | imm _ _ hv =>
      cases hv with
      | ip _ _ b o vs hb hl hc h1 hr =>
        obtain ⟨cv, u, e1, e2, e3⟩ := ld_ok (IRel I w) (fun cs cs' x y z => .agg cs cs' x y z) b o vs hl hc h1 hr hk
        exact ⟨cv, u, by simpa [Instr.loadAt, Instr.sureAddr] using e1, e2, .imm _ _ e3⟩
  | op id k e off =>
    cases hv with
    | imm _ _ hv => cases hv
    | op _ _ _ _ hid =>
      obtain ⟨es, ex, g1, c, g2, hk⟩ := hk
      obtain ⟨vs, hl, hc, h1, hr⟩ := elem_cells r g1 g2
      obtain ⟨cv, u, e1, e2, e3⟩ := ld_ok (VRel I β h.length w) (fun cs cs' x y z => .agg cs cs' x y z) (β id) (e * k) vs hl hc h1 hr hk
      exact ⟨cv, u, by simpa [Instr.loadAt, Instr.sureAddr] using e1, e2, e3⟩
  | _ => exact hk.elim
theorem op_load {t : TypeId} {x : Operand} (hk : evK a x fun p => loadK P t h p fun u => K u h) : OpOk P ⟨dst, .load t x, ty, pos, after, guard⟩ a h K := by
  refine .pure fun I β w n c r f => ?_
  obtain ⟨u, hu, hk⟩ := evK_sound f hk
  obtain ⟨cv, u', e1, e2, e3⟩ := load_ok r hu hk
  exact ⟨cv, u', by simp [execOp, e1], e2, e3⟩
def fieldAddrK (P : Program) (s f : Nat) (p : AV) (K : AV → Prop) : Prop :=
  ∃ o ft, foff P s f = some (o, ft) ∧ match p with | .ip cells off => K (.ip cells (off + o)) | .op id k e off => K (.op id k e (off + o)) | _ => False
theorem run_fieldAt' {s f o ft : Nat} (hf : foff P s f = some (o, ft)) (b off : Nat) (w : World) : (Instr.fieldAt s (.pointer (some ⟨b, off, none⟩)) f).run P w = .ok (.pointer (some ⟨b, off + o, none⟩)) w := by
  unfold foff at hf
  split at hf
  · rename_i fs hu
    split at hf
    · rename_i fd hfd
      split at hf
      · rename_i m hm
        simp at hf
        obtain ⟨rfl, rfl⟩ := hf
        simp [Instr.fieldAt, run_underlying hu, hfd, Instr.sureAddr, fieldPlace, run_sizeOf' hm, Addr.add_lit]
      · simp at hf
    · simp at hf
  · simp at hf
theorem VRel.ip_inv {I : Nat → Prop} {β : Nat → Nat} {N : Nat} {w : World} {cells : List AV} {off : Nat} {v : Value} (h : VRel I β N w (.ip cells off) v) :
    ∃ (b o : Nat) (vs : List Value), v = .pointer (some ⟨b, o + off, none⟩) ∧ ∀ off', IRel I w (.ip cells off') (.pointer (some ⟨b, o + off', none⟩)) ∧ I b ∧ vs.length = cells.length ∧
      (∀ (j : Nat) (v : Value), vs[j]? = some v → w.cell? ⟨b, o + j, none⟩ = some v) ∧ (∀ (j : Nat) (v : Value), vs[j]? = some v → v.oneCell' = true) ∧ (∀ (j : Nat) (u : AV) (v : Value), cells[j]? = some u → vs[j]? = some v → IRel I w u v) := by
  cases h with
  | imm _ _ h => cases h with
    | ip _ _ b o vs hb hl hc h1 hr => exact ⟨b, o, vs, rfl, fun off' => ⟨.ip cells off' b o vs hb hl hc h1 hr, hb, hl, hc, h1, hr⟩⟩
theorem VRel.op_inv {I : Nat → Prop} {β : Nat → Nat} {N : Nat} {w : World} {id k e off : Nat} {v : Value} (h : VRel I β N w (.op id k e off) v) : v = .pointer (some ⟨β id, e * k + off, none⟩) ∧ id < N := by
  cases h with
  | imm _ _ h => cases h
  | op _ _ _ _ h => exact ⟨rfl, h⟩
theorem VRel.isl_inv {I : Nat → Prop} {β : Nat → Nat} {N : Nat} {w : World} {k : Nat} {es : List (List AV)} {v : Value} (h : VRel I β N w (.isl k es) v) : IRel I w (.isl k es) v := by
  cases h with
  | imm _ _ h => exact h
theorem IRel.isl_inv {I : Nat → Prop} {w : World} {k : Nat} {es : List (List AV)} {v : Value} (h : IRel I w (.isl k es) v) :
    (∃ A c, es = [] ∧ v = .slice A 0 c) ∨ ∃ (b o c : Nat) (f : Nat → Nat → Value), es ≠ [] ∧ v = .slice (some ⟨b, o, none⟩) es.length c ∧ es.length ≤ c ∧ I b ∧ (∀ (i : Nat) (e : List AV), es[i]? = some e → e.length = k) ∧
      (∀ (i : Nat) (e : List AV) (j : Nat) (u : AV), es[i]? = some e → e[j]? = some u → w.cell? ⟨b, o + (i * k + j), none⟩ = some (f i j)) ∧
      (∀ (i : Nat) (e : List AV) (j : Nat) (u : AV), es[i]? = some e → e[j]? = some u → (f i j).oneCell' = true) ∧
      (∀ (i : Nat) (e : List AV) (j : Nat) (u : AV), es[i]? = some e → e[j]? = some u → IRel I w u (f i j)) := by
  cases h with
  | isl0 _ A c => exact .inl ⟨A, c, rfl, rfl⟩
  | isl _ _ b o c f h1 h2 h3 h4 h5 h6 h7 => exact .inr ⟨b, o, c, f, h1, rfl, h2, h3, h4, h5, h6, h7⟩
theorem IRel.isl_slice {I : Nat → Prop} {w : World} {k : Nat} {es : List (List AV)} {v : Value} (h : IRel I w (.isl k es) v) : ∃ A c, v = .slice A es.length c := by
  rcases h.isl_inv with ⟨A, c, rfl, rfl⟩ | ⟨b, o, c, f, _, rfl, _⟩
  · exact ⟨A, c, rfl⟩
  · exact ⟨_, c, rfl⟩
theorem VRel.osl_inv {I : Nat → Prop} {β : Nat → Nat} {N : Nat} {w : World} {id k i len cap : Nat} {ex : Bool} {v : Value} (h : VRel I β N w (.osl id k i len cap ex) v) :
    ∃ c n, v = .slice (some ⟨β id, i * k, none⟩) len c ∧ id < N ∧ len ≤ cap ∧ cap ≤ c ∧ (ex = true → c = cap) ∧ bsize w (β id) = some n ∧ (i + c) * k ≤ n := by
  cases h with
  | imm _ _ h => cases h
  | osl _ _ _ _ _ _ c n h1 h2 h3 h4 h5 h6 => exact ⟨c, n, rfl, h1, h2, h3, h4, h5, h6⟩
theorem VRel.nils_inv {I : Nat → Prop} {β : Nat → Nat} {N : Nat} {w : World} {v : Value} (h : VRel I β N w .nils v) : v = .slice none 0 0 := by
  cases h with | imm _ _ h => cases h; rfl
theorem VRel.nilp_inv {I : Nat → Prop} {β : Nat → Nat} {N : Nat} {w : World} {v : Value} (h : VRel I β N w .nilp v) : v = .pointer none := by
  cases h with | imm _ _ h => cases h; rfl
theorem VRel.nilf_inv {I : Nat → Prop} {β : Nat → Nat} {N : Nat} {w : World} {v : Value} (h : VRel I β N w .nilf v) : v = .nilFunc := by
  cases h with | imm _ _ h => cases h; rfl
theorem VRel.nili_inv {I : Nat → Prop} {β : Nat → Nat} {N : Nat} {w : World} {v : Value} (h : VRel I β N w .nili v) : v = .nilIface := by
  cases h with | imm _ _ h => cases h; rfl
theorem VRel.agg_inv {I : Nat → Prop} {β : Nat → Nat} {N : Nat} {w : World} {cs : List AV} {v : Value} (h : VRel I β N w (.agg cs) v) :
    ∃ cs', v = .agg cs' ∧ cs'.size = cs.length ∧ (∀ (j : Nat) (v : Value), cs'[j]? = some v → v.oneCell' = true) ∧ ∀ (j : Nat) (u : AV) (v : Value), cs[j]? = some u → cs'[j]? = some v → VRel I β N w u v := by
  cases h with
  | imm _ _ h => cases h with | agg _ cs' h1 h2 h3 => exact ⟨cs', rfl, h1, h2, fun j u v x y => .imm _ _ (h3 j u v x y)⟩
  | agg _ cs' h1 h2 h3 => exact ⟨cs', rfl, h1, h2, h3⟩
theorem VRel.tup_inv {I : Nat → Prop} {β : Nat → Nat} {N : Nat} {w : World} {cs : List AV} {v : Value} (h : VRel I β N w (.tup cs) v) :
    ∃ cs', v = .tuple cs' ∧ cs'.size = cs.length ∧ ∀ (j : Nat) (u : AV) (v : Value), cs[j]? = some u → cs'[j]? = some v → VRel I β N w u v := by
  cases h with
  | imm _ _ h => cases h with | tup _ cs' h1 h3 => exact ⟨cs', rfl, h1, fun j u v x y => .imm _ _ (h3 j u v x y)⟩
  | tup _ cs' h1 h3 => exact ⟨cs', rfl, h1, h3⟩
theorem VRel.fn_inv {I : Nat → Prop} {β : Nat → Nat} {N : Nat} {w : World} {g : Fn} {fs cs : List AV} {v : Value} (h : VRel I β N w (.fn g fs cs) v) :
    ∃ fs' cs', v = .func g fs' cs' ∧ VRels I β N w fs fs'.toList ∧ VRels I β N w cs cs'.toList := by
  cases h with
  | imm _ _ h => cases h with
    | fn _ _ _ fs' cs' h1 h2 h3 h4 => exact ⟨fs', cs', rfl, ⟨by simp [h1], fun j u v x y => .imm _ _ (h3 j u v x (by simpa using y))⟩, ⟨by simp [h2], fun j u v x y => .imm _ _ (h4 j u v x (by simpa using y))⟩⟩
  | fn _ _ _ fs' cs' h1 h2 h3 h4 => exact ⟨fs', cs', rfl, ⟨by simp [h1], fun j u v x y => h3 j u v x (by simpa using y)⟩, ⟨by simp [h2], fun j u v x y => h4 j u v x (by simpa using y)⟩⟩
theorem VRel.ifc_inv {I : Nat → Prop} {β : Nat → Nat} {N : Nat} {w : World} {t : TypeId} {u : AV} {v : Value} (h : VRel I β N w (.ifc t u) v) : ∃ v', v = .iface t v' ∧ VRel I β N w u v' := by
  cases h with
  | imm _ _ h => cases h with | ifc _ _ v' h => exact ⟨v', rfl, .imm _ _ h⟩
  | ifc _ _ v' h => exact ⟨v', rfl, h⟩
theorem op_fieldAddr {s f : Nat} {x : Operand} (hk : evK a x fun p => fieldAddrK P s f p fun u => K u h) : OpOk P ⟨dst, .fieldAddr s x f, ty, pos, after, guard⟩ a h K := by
  refine .pure fun I β w n c r g => ?_
  obtain ⟨u, hu, o, ft, hf, hk⟩ := evK_sound g hk
  cases u with
  | ip cells off =>
    obtain ⟨b, o', vs, e, hi⟩ := hu.ip_inv
    refine ⟨.pointer (some ⟨b, o' + (off + o), none⟩), _, ?_, hk, .imm _ _ (hi _).1⟩
    simp [execOp, e, run_fieldAt' hf, Nat.add_assoc]
  | op id k e off =>
    obtain ⟨he, hid⟩ := hu.op_inv
    refine ⟨.pointer (some ⟨β id, e * k + (off + o), none⟩), _, ?_, hk, .op id k e _ hid⟩
    simp [execOp, he, run_fieldAt' hf, Nat.add_assoc]
  | _ => exact hk.elim
def indexAddrK (P : Program) (t : TypeId) (x i : AV) (K : AV → Prop) : Prop :=
  match i with
  | .int _ n => (match x with
    | .isl k es => 0 ≤ n ∧ n < es.length ∧ (∃ e, telem P t = some e ∧ tsize P e = some k) ∧ ∃ c, es[n.toNat]? = some c ∧ K (.ip c 0)
    | .osl id k i0 len cap ex => 0 ≤ n ∧ n < len ∧ (∃ e, telem P t = some e ∧ tsize P e = some k) ∧ K (.op id k (i0 + n.toNat) 0)
    | .ip cells off => ∃ m e s, tarr P t = some (m, e) ∧ tsize P e = some s ∧ 0 ≤ n ∧ n < m ∧ K (.ip cells (off + n.toNat * s))
    | .op id k e0 off => ∃ m e s, tarr P t = some (m, e) ∧ tsize P e = some s ∧ 0 ≤ n ∧ n < m ∧ K (.op id k e0 (off + n.toNat * s))
    | _ => False)
  | _ => False
theorem run_indexAt_sl {t e k : Nat} (h1 : telem P t = some e) (h2 : tsize P e = some k) (b o len cap : Nat) (ik : IntKind) (n : Int) (h0 : 0 ≤ n) (hn : n < len) (w : World) :
    (Instr.indexAt t (.slice (some ⟨b, o, none⟩) len cap) (.int ik n)).run P w = .ok (.pointer (some ⟨b, o + n.toNat * k, none⟩)) w := by
  simp [Instr.indexAt, run_underlying (telem_und h1), asIntOf, h0, hn, run_sizeOf' h2, Addr.add_lit]
theorem run_indexAt_ar {t e k m : Nat} (h1 : tarr P t = some (m, e)) (h2 : tsize P e = some k) (b o : Nat) (ik : IntKind) (n : Int) (h0 : 0 ≤ n) (hn : n < m) (w : World) :
    (Instr.indexAt t (.pointer (some ⟨b, o, none⟩)) (.int ik n)).run P w = .ok (.pointer (some ⟨b, o + n.toNat * k, none⟩)) w := by
  simp [Instr.indexAt, run_underlying (tarr_und h1), asIntOf, Instr.sureAddr, h0, hn, run_sizeOf' h2, Addr.add_lit]
theorem isl_elem {I : Nat → Prop} {w : World} {k : Nat} {es : List (List AV)} {v : Value} (hv : IRel I w (.isl k es) v) {i : Nat} {c : List AV} (hc : es[i]? = some c) :
    ∃ b o cap, v = .slice (some ⟨b, o, none⟩) es.length cap ∧ IRel I w (.ip c 0) (.pointer (some ⟨b, o + i * k, none⟩)) := by
  rcases hv.isl_inv with ⟨A, cp, rfl, rfl⟩ | ⟨b, o, cp, f, hne, rfl, hle, hb, hk, hcell, h1, hr⟩
  · simp at hc
  · refine ⟨b, o, cp, rfl, ?_⟩
    have := IRel.ip (I := I) (w := w) c 0 b (o + i * k) ((List.range c.length).map fun j => f i j) hb (by simp) (fun j v hj => ?_) (fun j v hj => ?_) (fun j u v hu hj => ?_)
    · simpa using this
    · obtain ⟨hlt, rfl⟩ := List.getElem?_eq_some_iff.1 hj
      simp at hlt
      have := hcell i c j _ hc (List.getElem?_eq_getElem hlt)
      simpa [Nat.add_assoc] using this
    · obtain ⟨hlt, rfl⟩ := List.getElem?_eq_some_iff.1 hj
      simp at hlt
      simpa using h1 i c j _ hc (List.getElem?_eq_getElem hlt)
    · obtain ⟨hlt, rfl⟩ := List.getElem?_eq_some_iff.1 hj
      simpa using hr i c j u hc hu
theorem op_indexAddr {t : TypeId} {x i : Operand} (hk : evK a x fun x => evK a i fun i => indexAddrK P t x i fun u => K u h) : OpOk P ⟨dst, .indexAddr t x i, ty, pos, after, guard⟩ a h K := by
  refine .pure fun I β w n c r g => ?_
  obtain ⟨u, hu, hk⟩ := evK_sound g hk
  obtain ⟨ui, hi, hk⟩ := evK_sound g hk
  cases ui with
  | int ik m =>
    have ei := hi.int_inv
    cases u with
    | isl k es =>
      obtain ⟨h0, hm, ⟨e, he, hs⟩, cl, hcl, hk⟩ := hk
      obtain ⟨b, o, cp, ev, hp⟩ := isl_elem hu.isl_inv hcl
      exact ⟨_, _, by simp only [execOp, ev, ei, Sem.run_bind, run_indexAt_sl he hs _ _ _ _ _ _ h0 hm, Result.andThen_ok]; rfl, hk, .imm _ _ hp⟩
    | osl id k i0 len cap ex =>
      obtain ⟨h0, hm, ⟨e, he, hs⟩, hk⟩ := hk
      obtain ⟨cp, nn, ev, hid, _⟩ := hu.osl_inv
      refine ⟨.pointer (some ⟨β id, (i0 + m.toNat) * k + 0, none⟩), _, ?_, hk, .op id k _ 0 hid⟩
      simp only [execOp, ev, ei, Sem.run_bind, run_indexAt_sl he hs _ _ _ _ _ _ h0 hm, Result.andThen_ok, Nat.add_mul, Nat.add_zero]
      rfl
    | ip cells off =>
      obtain ⟨mm, e, s, ht, hs, h0, hm, hk⟩ := hk
      obtain ⟨b, o', vs, ev, hip⟩ := hu.ip_inv
      refine ⟨.pointer (some ⟨b, o' + (off + m.toNat * s), none⟩), _, ?_, hk, .imm _ _ (hip _).1⟩
      simp only [execOp, ev, ei, Sem.run_bind, run_indexAt_ar ht hs _ _ _ _ h0 hm, Result.andThen_ok, Nat.add_assoc]
      rfl
    | op id k e0 off =>
      obtain ⟨mm, e, s, ht, hs, h0, hm, hk⟩ := hk
      obtain ⟨ev, hid⟩ := hu.op_inv
      refine ⟨.pointer (some ⟨β id, e0 * k + (off + m.toNat * s), none⟩), _, ?_, hk, .op id k e0 _ hid⟩
      simp only [execOp, ev, ei, Sem.run_bind, run_indexAt_ar ht hs _ _ _ _ h0 hm, Result.andThen_ok, Nat.add_assoc]
      rfl
    | _ => exact hk.elim
  | _ => exact hk.elim
def loK (x : Option AV) (K : Nat → Prop) : Prop := match x with | none => K 0 | some (.int _ n) => 0 ≤ n ∧ K n.toNat | _ => False
def hiK (len : Nat) (x : Option AV) (K : Nat → Prop) : Prop := match x with | none => K len | some (.int _ n) => 0 ≤ n ∧ K n.toNat | _ => False
def sliceK (P : Program) (t : TypeId) (x : AV) (lo hi : Option AV) (K : AV → Prop) : Prop :=
  match x with
  | .isl k es => (∃ e, telem P t = some e ∧ (es ≠ [] → tsize P e = some k)) ∧ loK lo fun l => hiK es.length hi fun m => l ≤ m ∧ m ≤ es.length ∧ K (.isl k ((es.drop l).take (m - l)))
  | .osl id k i len cap ex => (∃ e, telem P t = some e ∧ tsize P e = some k) ∧ loK lo fun l => hiK len hi fun m => l ≤ m ∧ m ≤ cap ∧
      if l < cap ∨ l = 0 then K (.osl id k (i + l) (m - l) (cap - l) ex) else ex = true ∧ K (.osl id k i 0 0 ex)
  | .nils => (∃ e, telem P t = some e) ∧ loK lo fun l => hiK 0 hi fun m => l = 0 ∧ m = 0 ∧ K .nils
  | .str s => tstring P t = true ∧ loK lo fun l => hiK s.size hi fun m => l ≤ m ∧ m ≤ s.size ∧ K (.str (s.extract l m))
  | _ => False
def evoK (a : Fr) (x : Option Operand) (K : Option AV → Prop) : Prop := match x with | none => K none | some x => evK a x fun u => K (some u)
theorem VRel.e0_inv {I : Nat → Prop} {β : Nat → Nat} {N : Nat} {w : World} {v : Value} (h : VRel I β N w .e0 v) : ∃ A, v = .slice A 0 0 := by
  cases h with
  | imm _ _ h => cases h with | e0 A => exact ⟨A, rfl⟩
def slice3K (P : Program) (t : TypeId) (x y z : AV) (K : AV → Prop) : Prop :=
  (∃ e s, telem P t = some e ∧ tsize P e = some s) ∧ (match y, z with | .int _ m, .int _ n => m = 0 ∧ n = 0 | _, _ => False) ∧ (match x with | .isl .. => True | .osl .. => True | .nils => True | .e0 => True | _ => False) ∧ K .e0
end
end Go.AL
end
section
namespace Go.AL
set_option linter.unusedVariables false
set_option linter.unusedSimpArgs false
section
variable {P : Program} {dst : Option Tmp} {ty : TypeId} {pos : String} {after : Array Edge} {guard : Option (Nat × Bool)} {a : Fr} {h : Heap} {K : AV → Heap → Prop}
theorem evoK_sound {I : Nat → Prop} {β : Nat → Nat} {N : Nat} {w : World} {n : Nat} {a : Fr} {c : Act} (hf : FRel I β N w n a c) {x : Option Operand} {K : Option AV → Prop} (hk : evoK a x K) :
    (x = none ∧ K none) ∨ ∃ o u, x = some o ∧ VRel I β N w u (c.eval o) ∧ K (some u) := by
  cases x with
  | none => exact .inl ⟨rfl, hk⟩
  | some o =>
    obtain ⟨u, hu, hk⟩ := evK_sound (K := fun u => K (some u)) hf hk
    exact .inr ⟨o, u, rfl, hu, hk⟩
def bound (x : Option Value) (d : Nat) : Option Nat := match x with | none => some d | some (.int _ n) => if 0 ≤ n then some n.toNat else none | _ => none
theorem run_sliceBounds' {isSlice : Bool} {len cap : Nat} {lo hi : Option Value} {l m : Nat} (h1 : bound lo 0 = some l) (h2 : bound hi len = some m) (hlm : l ≤ m) (hmc : m ≤ cap) (P : Program) (w : World) :
    (Instr.sliceBounds isSlice len cap lo hi none).run P w = .ok (l, m, cap) w := by
  have e1 : ∀ (k : IntKind) (x : Int) (y : Nat) (code : BoundsCode), 0 ≤ x → x.toNat ≤ y → (Instr.sliceBound (.int k x) y code).run P w = .ok x.toNat w := by
    intro k x y code h0 hy
    have : x ≤ (y : Int) := by omega
    simp [Instr.sliceBound, asIntOf, h0, this]
  cases hi with
  | none =>
    simp [bound] at h2
    subst h2
    cases lo with
    | none =>
      simp [bound] at h1
      subst h1
      simp [Instr.sliceBounds]
    | some v =>
      unfold bound at h1
      split at h1
      · rename_i h; cases h
      · rename_i k x h
        cases h
        split at h1
        · simp at h1
          subst h1
          simp [Instr.sliceBounds, e1 _ _ _ _ ‹_› hlm]
        · simp at h1
      · simp at h1
  | some hv =>
    unfold bound at h2
    split at h2
    · rename_i h; cases h
    · rename_i k x h
      cases h
      split at h2
      · rename_i hx
        simp at h2
        subst h2
        cases lo with
        | none =>
          simp [bound] at h1
          subst h1
          simp [Instr.sliceBounds, e1 _ _ _ _ hx hmc]
        | some v =>
          unfold bound at h1
          split at h1
          · rename_i h; cases h
          · rename_i k' y h
            cases h
            split at h1
            · rename_i hy
              simp at h1
              subst h1
              simp [Instr.sliceBounds, e1 _ _ _ _ hx hmc, e1 _ _ _ _ hy hlm]
            · simp at h1
          · simp at h1
      · simp at h2
    · simp at h2
theorem run_sliceAt_sl {t e s : Nat} (he : telem P t = some e) (hs : tsize P e = some s) {A : Option Addr} {len cap : Nat} {lo hi : Option Value} {l m : Nat} (h1 : bound lo 0 = some l) (h2 : bound hi len = some m) (hlm : l ≤ m) (hmc : m ≤ cap) (w : World) :
    (Instr.sliceAt t (.slice A len cap) lo hi none).run P w = .ok (.slice (if cap = l then A else A.map (·.add (l * s))) (m - l) (cap - l)) w := by
  simp [Instr.sliceAt, run_underlying (telem_und he), Instr.slice, run_sliceBounds' h1 h2 hlm hmc, run_sizeOf' hs]
theorem op_slice {t : TypeId} {x : Operand} {lo hi : Option Operand} (hk : evK a x fun x => evoK a lo fun lo => evoK a hi fun hi => (∃ e s, telem P t = some e ∧ tsize P e = some s) ∧ sliceK P t x lo hi fun u => K u h) :
    OpOk P ⟨dst, .slice t x lo hi none, ty, pos, after, guard⟩ a h K := by
  refine .pure fun I β w n c r g => ?_
  obtain ⟨u, hu, hk⟩ := evK_sound g hk
  have hlo : ∃ ulo, (∀ d, ∀ K' : Nat → Prop, hiK d ulo K' → ∃ l, bound (lo.map c.eval) d = some l ∧ K' l) ∧ evoK a hi fun hi => (∃ e s, telem P t = some e ∧ tsize P e = some s) ∧ sliceK P t u ulo hi fun u => K u h := by
    rcases evoK_sound g hk with ⟨rfl, hk⟩ | ⟨o, uu, rfl, huu, hk⟩
    · exact ⟨none, fun d K' hK => ⟨d, rfl, hK⟩, hk⟩
    · refine ⟨some uu, fun d K' hK => ?_, hk⟩
      cases uu with
      | int k m => exact ⟨m.toNat, by have h0 := hK.1; simp [bound, huu.int_inv, h0], hK.2⟩
      | _ => exact hK.elim
  obtain ⟨ulo, hulo, hk⟩ := hlo
  have hhi : ∃ uhi, (∀ d, ∀ K' : Nat → Prop, hiK d uhi K' → ∃ l, bound (hi.map c.eval) d = some l ∧ K' l) ∧ (∃ e s, telem P t = some e ∧ tsize P e = some s) ∧ sliceK P t u ulo uhi fun u => K u h := by
    rcases evoK_sound g hk with ⟨rfl, hk⟩ | ⟨o, uu, rfl, huu, hk⟩
    · exact ⟨none, fun d K' hK => ⟨d, rfl, hK⟩, hk⟩
    · refine ⟨some uu, fun d K' hK => ?_, hk⟩
      cases uu with
      | int k m => exact ⟨m.toNat, by have h0 := hK.1; simp [bound, huu.int_inv, h0], hK.2⟩
      | _ => exact hK.elim
  obtain ⟨uhi, huhi, ⟨e, s, he, hs⟩, hk⟩ := hhi
  have hlk : ∀ x K', loK x K' → hiK 0 x K' := fun x K' h => by cases x <;> exact h
  cases u with
  | isl k es =>
    obtain ⟨⟨e', he', hsk⟩, hk⟩ := hk
    obtain ⟨l, hl, hk⟩ := hulo 0 _ (hlk _ _ hk)
    obtain ⟨m, hm, hlm, hme, hk⟩ := huhi _ _ hk
    rcases hu.isl_inv.isl_inv with ⟨A, cp, rfl, ev⟩ | ⟨b, o, cp, f, hne, ev, hle, hb, hkk, hcell, h1, hr⟩
    · simp at hme
      obtain rfl : m = 0 := hme
      obtain rfl : l = 0 := by omega
      refine ⟨_, _, by simp only [execOp, ev, Sem.run_bind, Option.map_none, run_sliceAt_sl he hs hl (show bound (hi.map c.eval) 0 = some 0 from hm) (Nat.le_refl 0) (Nat.zero_le cp), Result.andThen_ok]; rfl, hk, .imm _ _ ?_⟩
      simp
      exact .isl0 _ _ _
    · have : e' = e := by rw [he] at he'; injection he' with he'; exact he'.symm
      subst this
      have hsk := hsk hne
      have : s = k := by rw [hs] at hsk; injection hsk
      subst this
      refine ⟨_, _, by simp only [execOp, ev, Sem.run_bind, Option.map_none, run_sliceAt_sl he hs hl hm hlm (by omega : m ≤ cp), Result.andThen_ok]; rfl, hk, .imm _ _ ?_⟩
      rcases Nat.eq_or_lt_of_le hlm with e0 | hlt
      · subst e0
        simp only [Nat.sub_self, List.take_zero]
        exact .isl0 _ _ _
      · rw [if_neg (by omega)]
        have hlen : ((es.drop l).take (m - l)).length = m - l := by simp; omega
        have := IRel.isl (I := I) (w := w) s ((es.drop l).take (m - l)) b (o + l * s) (cp - l) (fun i j => f (l + i) j) (by intro h0; rw [h0] at hlen; simp at hlen; omega) (by omega) hb
          (fun i e hi => ?_) (fun i e j u hi hj => ?_) (fun i e j u hi hj => ?_) (fun i e j u hi hj => ?_)
        · rw [hlen] at this
          simpa [Addr.add_lit] using this
        all_goals
          rw [List.getElem?_take] at hi
          split at hi
          · rw [List.getElem?_drop] at hi
            first
              | exact hkk _ e hi
              | (have hc := hcell _ e j u hi hj; rw [Nat.add_mul] at hc; simpa [Nat.add_assoc] using hc)
              | exact h1 _ e j u hi hj
              | exact hr _ e j u hi hj
          · simp at hi
  | osl id k i len cap ex =>
    obtain ⟨⟨e', he', hsk⟩, hk⟩ := hk
    obtain ⟨l, hl, hk⟩ := hulo 0 _ (hlk _ _ hk)
    obtain ⟨m, hm, hlm, hme, hk⟩ := huhi _ _ hk
    have : e' = e := by rw [he] at he'; injection he' with he'; exact he'.symm
    subst this
    have : s = k := by rw [hs] at hsk; injection hsk
    subst this
    obtain ⟨cp, nn, ev, hid, hlc, hcc, hex, hbs, hfit⟩ := hu.osl_inv
    refine ⟨.slice (if cp = l then some ⟨β id, i * s, none⟩ else some ⟨β id, i * s + l * s, none⟩) (m - l) (cp - l), ?_⟩
    have hrun : (execOp c.eval ⟨dst, .slice t x lo hi none, ty, pos, after, guard⟩).run P w = .ok (.value (.slice (if cp = l then some ⟨β id, i * s, none⟩ else some ⟨β id, i * s + l * s, none⟩) (m - l) (cp - l))) w := by
      simp only [execOp, ev, Sem.run_bind, Option.map_none, run_sliceAt_sl he hs hl hm hlm (by omega : m ≤ cp), Result.andThen_ok, Option.map_none, Option.map_some, Addr.add_lit]
      rfl
    split at hk
    · rename_i hc
      refine ⟨_, hrun, hk, ?_⟩
      have haddr : (if cp = l then some (⟨β id, i * s, none⟩ : Addr) else some ⟨β id, i * s + l * s, none⟩) = some ⟨β id, (i + l) * s, none⟩ := by
        rcases hc with hc | hc
        · rw [if_neg (by omega), Nat.add_mul]
        · subst hc; simp
      rw [haddr]
      refine .osl id s (i + l) (m - l) (cap - l) ex (cp - l) nn hid (by omega) (by omega) (fun hx => by rw [hex hx]) hbs ?_
      refine Nat.le_trans (Nat.mul_le_mul_right _ ?_) hfit
      omega
    · rename_i hc
      obtain ⟨hx, hk⟩ := hk
      have hcap : cp = cap := hex hx
      have hlcap : l = cap := by omega
      refine ⟨_, hrun, hk, ?_⟩
      rw [if_pos (by omega), show m - l = 0 by omega, show cp - l = 0 by omega]
      refine .osl id s i 0 0 ex 0 nn hid (Nat.le_refl _) (Nat.le_refl _) (fun _ => rfl) hbs ?_
      refine Nat.le_trans (Nat.mul_le_mul_right _ ?_) hfit
      omega
  | nils =>
    obtain ⟨_, hk⟩ := hk
    obtain ⟨l, hl, hk⟩ := hulo 0 _ (hlk _ _ hk)
    obtain ⟨m, hm, rfl, rfl, hk⟩ := huhi _ _ hk
    refine ⟨_, _, by simp only [execOp, hu.nils_inv, Sem.run_bind, Option.map_none, run_sliceAt_sl he hs hl hm (Nat.le_refl _) (Nat.le_refl _), Result.andThen_ok]; rfl, hk, ?_⟩
    simp
    exact .imm _ _ .nils
  | str b =>
    obtain ⟨ht, hk⟩ := hk
    exfalso
    unfold tstring at ht
    rw [telem_und he] at ht
    simp at ht
  | _ => exact hk.elim
theorem run_sliceAt3 {t e s : Nat} (he : telem P t = some e) (hs : tsize P e = some s) {A : Option Addr} {len cap : Nat} {k k' : IntKind} (w : World) :
    (Instr.sliceAt t (.slice A len cap) none (some (.int k 0)) (some (.int k' 0))).run P w = .ok (.slice A 0 0) w := by
  simp [Instr.sliceAt, run_underlying (telem_und he), Instr.slice, Instr.sliceBounds, Instr.sliceBound, asIntOf, run_sizeOf' hs]
theorem op_slice3 {t : TypeId} {x y z : Operand} (hk : evK a x fun x => evK a y fun y => evK a z fun z => slice3K P t x y z fun u => K u h) :
    OpOk P ⟨dst, .slice t x none (some y) (some z), ty, pos, after, guard⟩ a h K := by
  refine .pure fun I β w n c r g => ?_
  obtain ⟨u, hu, hk1⟩ := evK_sound g hk
  clear hk
  obtain ⟨uy, hy, hk2⟩ := evK_sound g hk1
  clear hk1
  obtain ⟨uz, hz, ⟨e, s, he, hs⟩, hyz, hx, hk3⟩ := evK_sound g hk2
  clear hk2
  have hv : ∃ A l cp, c.eval x = .slice A l cp := by
    cases u with
    | isl k es => obtain ⟨A, cp, e⟩ := hu.isl_inv.isl_slice; exact ⟨_, _, _, e⟩
    | osl id k i len cap ex => obtain ⟨cp, nn, e, _⟩ := hu.osl_inv; exact ⟨_, _, _, e⟩
    | nils => exact ⟨_, _, _, hu.nils_inv⟩
    | e0 => obtain ⟨A, e⟩ := hu.e0_inv; exact ⟨_, _, _, e⟩
    | _ => exact hx.elim
  obtain ⟨A, l, cp, ev⟩ := hv
  cases uy with
  | int k m =>
    cases uz with
    | int k' m' =>
      obtain ⟨rfl, rfl⟩ := hyz
      have e1 := hy.int_inv
      have e2 := hz.int_inv
      refine ⟨.slice A 0 0, .e0, ?_, hk3, .imm _ _ (.e0 A)⟩
      simp only [execOp, ev, e1, e2, Sem.run_bind, Option.map_none, Option.map_some, run_sliceAt3 he hs, Result.andThen_ok]
      rfl
    | _ => exact hyz.elim
  | _ => exact hyz.elim
theorem op_sliceStr {t : TypeId} {x : Operand} {lo hi : Option Operand} (hk : evK a x fun x => evoK a lo fun lo => evoK a hi fun hi => match x with | .str s => sliceK P t x lo hi fun u => K u h | _ => False) :
    OpOk P ⟨dst, .slice t x lo hi none, ty, pos, after, guard⟩ a h K := by
  refine .pure fun I β w n c r g => ?_
  obtain ⟨u, hu, hk⟩ := evK_sound g hk
  cases u with
  | str b =>
    have ev := hu.str_inv
    have hst : ∀ {X}, (match (AV.str b : AV) with | .str s => X | _ => False) → X := fun x => x
    have hlo : ∃ ulo, (∀ d, ∀ K' : Nat → Prop, hiK d ulo K' → ∃ l, bound (lo.map c.eval) d = some l ∧ K' l) ∧ evoK a hi fun hi => sliceK P t (.str b) ulo hi fun u => K u h := by
      rcases evoK_sound g hk with ⟨rfl, hk⟩ | ⟨o, uu, rfl, huu, hk⟩
      · exact ⟨none, fun d K' hK => ⟨d, rfl, hK⟩, hk⟩
      · refine ⟨some uu, fun d K' hK => ?_, hk⟩
        cases uu with
        | int k m => exact ⟨m.toNat, by have h0 := hK.1; simp [bound, huu.int_inv, h0], hK.2⟩
        | _ => exact hK.elim
    obtain ⟨ulo, hulo, hk⟩ := hlo
    have hhi : ∃ uhi, (∀ d, ∀ K' : Nat → Prop, hiK d uhi K' → ∃ l, bound (hi.map c.eval) d = some l ∧ K' l) ∧ sliceK P t (.str b) ulo uhi fun u => K u h := by
      rcases evoK_sound g hk with ⟨rfl, hk⟩ | ⟨o, uu, rfl, huu, hk⟩
      · exact ⟨none, fun d K' hK => ⟨d, rfl, hK⟩, hk⟩
      · refine ⟨some uu, fun d K' hK => ?_, hk⟩
        cases uu with
        | int k m => exact ⟨m.toNat, by have h0 := hK.1; simp [bound, huu.int_inv, h0], hK.2⟩
        | _ => exact hK.elim
    obtain ⟨uhi, huhi, ht, hk⟩ := hhi
    have hund : P.underlying t = some .string := by
      unfold tstring at ht
      split at ht
      · assumption
      · simp at ht
    have hlk : ∀ x K', loK x K' → hiK 0 x K' := fun x K' h => by cases x <;> exact h
    obtain ⟨l, hl, hk⟩ := hulo 0 _ (hlk _ _ hk)
    obtain ⟨m, hm, hlm, hme, hk⟩ := huhi _ _ hk
    refine ⟨.string (b.extract l m), _, ?_, hk, .imm _ _ (.str _)⟩
    simp [execOp, ev, Instr.sliceAt, run_underlying hund, Instr.slice, run_sliceBounds' hl hm hlm hme]
  | _ => exact (by rcases evoK_sound g hk with ⟨_, hk⟩ | ⟨_, _, _, _, hk⟩ <;> rcases evoK_sound g hk with ⟨_, hk⟩ | ⟨_, _, _, _, hk⟩ <;> exact hk.elim)
def fitK (k : IntKind) (z : Int) (K : AV → Prop) : Prop := match k with | .i64 => (-9223372036854775808 ≤ z ∧ z ≤ 9223372036854775807) ∧ K (.int .i64 z) | k => K (.int k (k.wrap z))
theorem fitK_imp {k : IntKind} {z : Int} {K : AV → Prop} (hk : fitK k z K) : K (.int k (k.wrap z)) := by
  cases k with
  | i64 => rw [IntWalk.i64_in z hk.1]; exact hk.2
  | _ => exact hk
theorem fitK_mono {k : IntKind} {z : Int} {K K' : AV → Prop} (hK : ∀ u, K u → K' u) (hk : fitK k z K) : fitK k z K' := by
  cases k with
  | i64 => exact ⟨hk.1, hK _ hk.2⟩
  | _ => exact hK _ hk
def iK (op : BinOp) (k : IntKind) (x : Int) (k' : IntKind) (y : Int) (K : AV → Prop) : Prop :=
  match op with
  | .shl => 0 ≤ y ∧ K (.int k (k.wrap (x * 2 ^ (min y.toNat k.bits))))
  | .shr => 0 ≤ y ∧ K (.int k (x.fdiv (2 ^ (min y.toNat k.bits))))
  | .add => k = k' ∧ fitK k (x + y) K
  | .sub => k = k' ∧ fitK k (x - y) K
  | .mul => k = k' ∧ fitK k (x * y) K
  | .quo => k = k' ∧ y ≠ 0 ∧ K (.int k (k.wrap (x.tdiv y)))
  | .rem => k = k' ∧ y ≠ 0 ∧ K (.int k (x.tmod y))
  | .and => k = k' ∧ K (.int k (k.wrap ((BitVec.ofInt k.bits x &&& BitVec.ofInt k.bits y).toNat)))
  | .or => k = k' ∧ K (.int k (k.wrap ((BitVec.ofInt k.bits x ||| BitVec.ofInt k.bits y).toNat)))
  | .xor => k = k' ∧ K (.int k (k.wrap ((BitVec.ofInt k.bits x ^^^ BitVec.ofInt k.bits y).toNat)))
  | .andNot => k = k' ∧ K (.int k (k.wrap ((BitVec.ofInt k.bits x &&& ~~~ (BitVec.ofInt k.bits y)).toNat)))
  | .eql => k = k' ∧ K (.bool (x == y))
  | .neq => k = k' ∧ K (.bool (x != y))
  | .lss => k = k' ∧ K (.bool (decide (x < y)))
  | .leq => k = k' ∧ K (.bool (decide (x ≤ y)))
  | .gtr => k = k' ∧ K (.bool (decide (x > y)))
  | .geq => k = k' ∧ K (.bool (decide (x ≥ y)))
def eqK (op : BinOp) (b : Bool) (K : AV → Prop) : Prop := match op with | .eql => K (.bool b) | .neq => K (.bool (!b)) | _ => False
def strK (op : BinOp) (x y : ByteArray) (K : AV → Prop) : Prop := match op with | .eql => K (.bool (x.toList == y.toList)) | .neq => K (.bool (x.toList != y.toList)) | _ => False
def isNil : AV → Option (Option Bool)
  | .nils | .nilp | .nilf | .nili | .nilm => some (some true)
  | .isl _ [] => some none
  | .isl _ _ | .osl .. | .ip .. | .op .. | .fn .. | .ifc .. | .om _ => some (some false)
  | _ => none
def nilK (op : BinOp) (x : AV) (K : AV → Prop) : Prop :=
  match isNil x with
  | some (some b) => eqK op b K
  | some none => eqK op true K ∧ eqK op false K
  | none => False
def isNilC : AV → Bool | .nils | .nilp | .nilf | .nili | .nilm => true | _ => false
def binK (P : Program) (op : BinOp) (t : TypeId) (x y : AV) (K : AV → Prop) : Prop :=
  match x with
  | .int k m => (match y with | .int k' m' => iK op k m k' m' K | _ => False)
  | .bool b => (match y with | .bool b' => tbool P t = true ∧ eqK op (b == b') K | _ => False)
  | .str s => (match y with | .str s' => strK op s s' K | _ => False)
  | _ => False
theorem run_iK {op : BinOp} {t : TypeId} {k k' : IntKind} {x y : Int} {K : AV → Prop} (hk : iK op k x k' y K) (w : World) : ∃ cv u, (binOp op t (.int k x) (.int k' y)).run P w = .ok cv w ∧ K u ∧ ∀ I β N, VRel I β N w u cv := by
  cases op
  case shl => exact ⟨_, _, by simp [binOp, Op.shift, Int.not_lt.mpr hk.1], hk.2, fun I β N => .ofInt _ _⟩
  case shr => exact ⟨_, _, by simp [binOp, Op.shift, Int.not_lt.mpr hk.1], hk.2, fun I β N => .ofInt _ _⟩
  case add => obtain ⟨rfl, hk⟩ := hk; exact ⟨_, _, by simp [binOp, Op.intArith], fitK_imp hk, fun I β N => .ofInt _ _⟩
  case sub => obtain ⟨rfl, hk⟩ := hk; exact ⟨_, _, by simp [binOp, Op.intArith], fitK_imp hk, fun I β N => .ofInt _ _⟩
  case mul => obtain ⟨rfl, hk⟩ := hk; exact ⟨_, _, by simp [binOp, Op.intArith], fitK_imp hk, fun I β N => .ofInt _ _⟩
  case quo => obtain ⟨rfl, h0, hk⟩ := hk; exact ⟨_, _, by simp [binOp, Op.intDiv, h0], hk, fun I β N => .ofInt _ _⟩
  case rem => obtain ⟨rfl, h0, hk⟩ := hk; exact ⟨_, _, by simp [binOp, Op.intDiv, h0], hk, fun I β N => .ofInt _ _⟩
  case and => obtain ⟨rfl, hk⟩ := hk; exact ⟨_, _, by simp [binOp, Op.intBits], hk, fun I β N => .ofInt _ _⟩
  case or => obtain ⟨rfl, hk⟩ := hk; exact ⟨_, _, by simp [binOp, Op.intBits], hk, fun I β N => .ofInt _ _⟩
  case xor => obtain ⟨rfl, hk⟩ := hk; exact ⟨_, _, by simp [binOp, Op.intBits], hk, fun I β N => .ofInt _ _⟩
  case andNot => obtain ⟨rfl, hk⟩ := hk; exact ⟨_, _, by simp [binOp, Op.intBits], hk, fun I β N => .ofInt _ _⟩
  case eql => obtain ⟨rfl, hk⟩ := hk; exact ⟨_, _, by simp [binOp, Op.intCmp], hk, fun I β N => .ofBool _⟩
  case neq => obtain ⟨rfl, hk⟩ := hk; exact ⟨_, _, by simp [binOp, Op.intCmp], hk, fun I β N => .ofBool _⟩
  case lss => obtain ⟨rfl, hk⟩ := hk; exact ⟨_, _, by simp [binOp, Op.intCmp], hk, fun I β N => .ofBool _⟩
  case leq => obtain ⟨rfl, hk⟩ := hk; exact ⟨_, _, by simp [binOp, Op.intCmp], hk, fun I β N => .ofBool _⟩
  case gtr => obtain ⟨rfl, hk⟩ := hk; exact ⟨_, _, by simp [binOp, Op.intCmp], hk, fun I β N => .ofBool _⟩
  case geq => obtain ⟨rfl, hk⟩ := hk; exact ⟨_, _, by simp [binOp, Op.intCmp], hk, fun I β N => .ofBool _⟩
theorem run_binBool {op : BinOp} {t : TypeId} {x y : Bool} {K : AV → Prop} (ht : tbool P t = true) (hk : eqK op (x == y) K) (w : World) : ∃ cv u, (binOp op t (.bool x) (.bool y)).run P w = .ok cv w ∧ K u ∧ ∀ I β N, VRel I β N w u cv := by
  have hu : P.underlying t = some .bool := by
    unfold tbool at ht
    split at ht
    · assumption
    · simp at ht
  have he : (Op.equal t (.bool x) (.bool y)).run P w = .ok (x == y) w := by
    have : ∀ d, (Op.equalIn (d + 1) t (.bool x) (.bool y)).run P w = .ok (x == y) w := fun d => by
      simp only [Op.equalIn, Sem.run_bind, run_underlying hu, Result.andThen_ok, Sem.run_pure]
    exact this 9999
  cases op
  case eql => exact ⟨.bool (x == y), _, by simp only [binOp, Sem.run_bind, he, Result.andThen_ok, Sem.run_pure], hk, fun I β N => .ofBool _⟩
  case neq => exact ⟨.bool (!(x == y)), _, by simp only [binOp, Sem.run_bind, he, Result.andThen_ok, Sem.run_pure], hk, fun I β N => .ofBool _⟩
  all_goals exact hk.elim
theorem run_binStr {op : BinOp} {t : TypeId} {x y : ByteArray} {K : AV → Prop} (hk : strK op x y K) (w : World) : ∃ cv u, (binOp op t (.string x) (.string y)).run P w = .ok cv w ∧ K u ∧ ∀ I β N, VRel I β N w u cv := by
  cases op
  case eql => exact ⟨_, _, by simp [binOp, Op.stringOp], hk, fun I β N => .ofBool _⟩
  case neq => exact ⟨_, _, by simp [binOp, Op.stringOp, bne], hk, fun I β N => .ofBool _⟩
  all_goals exact hk.elim
theorem op_binOp {op : BinOp} {t t' : TypeId} {x y : Operand} (hk : evK a x fun u => evK a y fun v => binK P op t u v fun u => K u h) : OpOk P ⟨dst, .binOp op t x y t', ty, pos, after, guard⟩ a h K := by
  refine .pure fun I β w n c r g => ?_
  obtain ⟨u, hu, hk⟩ := evK_sound g hk
  obtain ⟨v, hv, hk⟩ := evK_sound g hk
  cases u with
  | int k m =>
    cases v with
    | int k' m' =>
      obtain ⟨cv, u, e1, e2, e3⟩ := run_iK (P := P) (t := t) (K := fun u => K u h) hk w
      exact ⟨cv, u, by simp [execOp, hu.int_inv, hv.int_inv, eqGuard_at_int, e1], e2, e3 _ _ _⟩
    | _ => exact hk.elim
  | bool b =>
    cases v with
    | bool b' =>
      obtain ⟨cv, u, e1, e2, e3⟩ := run_binBool (P := P) (t := t) (K := fun u => K u h) hk.1 hk.2 w
      exact ⟨cv, u, by simp [execOp, hu.bool_inv, hv.bool_inv, eqGuard_at_bool, e1], e2, e3 _ _ _⟩
    | _ => exact hk.elim
  | str s =>
    cases v with
    | str s' =>
      obtain ⟨cv, u, e1, e2, e3⟩ := run_binStr (P := P) (t := t) (K := fun u => K u h) hk w
      exact ⟨cv, u, by simp [execOp, hu.str_inv, hv.str_inv, eqGuard_at_string, e1], e2, e3 _ _ _⟩
    | _ => exact hk.elim
  | _ => exact hk.elim
def unK (op : UnOp) (x : AV) (K : AV → Prop) : Prop :=
  match x with
  | .bool b => (match op with | .not => K (.bool (!b)) | _ => False)
  | .int k n => (match op with
    | .neg => fitK k (0 - n) K
    | .xor => K (.int k (k.wrap ((BitVec.ofInt k.bits (if k.signed then -1 else k.max) ^^^ BitVec.ofInt k.bits n).toNat)))
    | _ => False)
  | _ => False
theorem op_unOp {op : UnOp} {t : TypeId} {x : Operand} (hk : evK a x fun u => unK op u fun u => K u h) : OpOk P ⟨dst, .unOp op t x, ty, pos, after, guard⟩ a h K := by
  refine .pure fun I β w n c r g => ?_
  obtain ⟨u, hu, hk⟩ := evK_sound g hk
  cases u with
  | bool b =>
    cases op with
    | not => exact ⟨_, _, by simp [execOp, hu.bool_inv, Op.unary], hk, .ofBool _⟩
    | _ => exact hk.elim
  | int k m =>
    cases op with
    | neg => exact ⟨_, _, by simp [execOp, hu.int_inv, Op.unary, Op.intArith]; rfl, fitK_imp (K := fun u => K u h) hk, by simp; exact .ofInt _ _⟩
    | xor => exact ⟨_, _, by simp [execOp, hu.int_inv, Op.unary, Op.intBits], hk, .ofInt _ _⟩
    | _ => exact hk.elim
  | _ => exact hk.elim
def convK (P : Program) (src dst : TypeId) (x : AV) (K : AV → Prop) : Prop :=
  match x with
  | .int _ n => (∃ ks, tint P src = some ks) ∧ ∃ k, tint P dst = some k ∧ fitK k n K
  | .str s => tstring P src = true ∧ tstring P dst = true ∧ K (.str s)
  | _ => False
theorem tstring_und {t : TypeId} (h : tstring P t = true) : P.underlying t = some .string := by
  unfold tstring at h
  split at h
  · assumption
  · simp at h
theorem op_convert {src d : TypeId} {x : Operand} (hk : evK a x fun u => convK P src d u fun u => K u h) : OpOk P ⟨dst, .convert src d x, ty, pos, after, guard⟩ a h K := by
  refine .pure fun I β w n c r g => ?_
  obtain ⟨u, hu, hk⟩ := evK_sound g hk
  cases u with
  | int k m =>
    obtain ⟨⟨ks, hs⟩, kd, hd, hk⟩ := hk
    exact ⟨.int kd (kd.wrap m), _, by simp [execOp, hu.int_inv, convert, run_underlying (tint_und hs), run_underlying (tint_und hd), Conv.intToInt], fitK_imp (K := fun u => K u h) hk, .ofInt _ _⟩
  | str s =>
    obtain ⟨hs, hd, hk⟩ := hk
    exact ⟨.string s, _, by simp [execOp, hu.str_inv, convert, run_underlying (tstring_und hs), run_underlying (tstring_und hd)], hk, .ofStr _⟩
  | _ => exact hk.elim
theorem op_makeFunc {f : Fn} {first cap : Array Operand} (hk : evsK a first.toList fun fs => evsK a cap.toList fun cs => K (.fn f fs cs) h) : OpOk P ⟨dst, .makeFunc f first cap, ty, pos, after, guard⟩ a h K := by
  refine .pure fun I β w n c r g => ?_
  obtain ⟨fs, hf, hk⟩ := evsK_sound g hk
  obtain ⟨cs, hc, hk⟩ := evsK_sound g hk
  refine ⟨.func f (first.map c.eval) (cap.map c.eval), _, by simp [execOp, Instr.makeFunc], hk, .fn f fs cs _ _ (by have := hf.1; simp at this; simp [this]) (by have := hc.1; simp at this; simp [this]) ?_ ?_⟩
  · intro j u v hj hj'; exact hf.2 j u v hj (by simpa using hj')
  · intro j u v hj hj'; exact hc.2 j u v hj (by simpa using hj')
def extK (x : AV) (i : Nat) (K : AV → Prop) : Prop := match x with | .tup vs => ∃ v, vs[i]? = some v ∧ K v | _ => False
theorem op_extract {x : Operand} {i : Nat} (hk : evK a x fun u => extK u i fun u => K u h) : OpOk P ⟨dst, .extract x i, ty, pos, after, guard⟩ a h K := by
  refine .pure fun I β w n c r g => ?_
  obtain ⟨u, hu, hk⟩ := evK_sound g hk
  cases u with
  | tup vs =>
    obtain ⟨v, hv, hk⟩ := hk
    obtain ⟨cs', e, hl, hr⟩ := hu.tup_inv
    have hlt : i < cs'.size := by rw [hl]; exact (List.getElem?_eq_some_iff.1 hv).1
    have hg : cs'[i]? = some cs'[i] := Array.getElem?_eq_getElem hlt
    exact ⟨cs'[i], v, by simp [execOp, e, Instr.extract, hg], hk, hr i v _ hv hg⟩
  | _ => exact hk.elim
def partK (P : Program) (t : TypeId) (cs : List AV) (off : Nat) (K : AV → Prop) : Prop :=
  match tagg P t with
  | some true => ∃ n, tsize P t = some n ∧ off + n ≤ cs.length ∧ K (.agg ((cs.drop off).take n))
  | some false => ∃ v, cs[off]? = some v ∧ K v
  | none => False
theorem run_partK {t : TypeId} {cs : List AV} {off : Nat} {K : AV → Prop} {w : World} {I : Nat → Prop} {β : Nat → Nat} {N : Nat} {cs' : Array Value} (hl : cs'.size = cs.length) (h1 : ∀ (j : Nat) (v : Value), cs'[j]? = some v → v.oneCell' = true)
    (hr : ∀ (j : Nat) (u : AV) (v : Value), cs[j]? = some u → cs'[j]? = some v → VRel I β N w u v) (hk : partK P t cs off K) : ∃ cv u, (part t cs' off).run P w = .ok cv w ∧ K u ∧ VRel I β N w u cv := by
  unfold partK at hk
  split at hk
  · rename_i ht
    obtain ⟨n, hn, hle, hk⟩ := hk
    refine ⟨.agg (cs'.extract off (off + n)), _, by simp [part, run_isAgg' ht, run_sizeOf' hn], hk, .agg _ _ (by simp; omega) (fun j v hj => ?_) (fun j u v hj hj' => ?_)⟩
    · rw [Array.getElem?_extract] at hj
      split at hj
      · exact h1 _ v hj
      · simp at hj
    · rw [Array.getElem?_extract] at hj'
      split at hj'
      · rw [List.getElem?_take] at hj
        split at hj
        · rw [List.getElem?_drop] at hj; exact hr _ u v hj hj'
        · simp at hj
      · simp at hj'
  · rename_i ht
    obtain ⟨v, hv, hk⟩ := hk
    have hlt : off < cs'.size := by rw [hl]; exact (List.getElem?_eq_some_iff.1 hv).1
    have hg : cs'[off]? = some cs'[off] := Array.getElem?_eq_getElem hlt
    exact ⟨cs'[off], v, by simp [part, run_isAgg' ht, hg], hk, hr off v _ hv hg⟩
  · exact hk.elim
def fieldK (P : Program) (t : TypeId) (f : Nat) (x : AV) (K : AV → Prop) : Prop := ∃ o ft, foff P t f = some (o, ft) ∧ match x with | .agg cs => partK P ft cs o K | _ => False
theorem op_field {t : TypeId} {x : Operand} {f : Nat} (hk : evK a x fun u => fieldK P t f u fun u => K u h) : OpOk P ⟨dst, .field t x f, ty, pos, after, guard⟩ a h K := by
  refine .pure fun I β w n c r g => ?_
  obtain ⟨u, hu, o, ft, hf, hk⟩ := evK_sound g hk
  cases u with
  | agg cs =>
    obtain ⟨cs', e, hl, h1, hr⟩ := hu.agg_inv
    obtain ⟨cv, u, e1, e2, e3⟩ := run_partK hl h1 hr hk
    refine ⟨cv, u, ?_, e2, e3⟩
    unfold foff at hf
    split at hf
    · rename_i fs hun
      split at hf
      · rename_i fd hfd
        split at hf
        · simp at hf
          obtain ⟨rfl, rfl⟩ := hf
          simp [execOp, e, Instr.field, run_underlying hun, hfd, asAgg, e1]
        · simp at hf
      · simp at hf
    · simp at hf
  | _ => exact hk.elim
def bt (s : ByteArray) (i : Nat) : Int := match s[i]? with | some b => b.toNat | none => 0
def indexK (P : Program) (t : TypeId) (x i : AV) (K : AV → Prop) : Prop :=
  match i with
  | .int _ n => (match x with
    | .agg cs => ∃ m e s, tarr P t = some (m, e) ∧ tsize P e = some s ∧ 0 ≤ n ∧ n < m ∧ partK P e cs (n.toNat * s) K
    | .str s => tstring P t = true ∧ 0 ≤ n ∧ n < s.size ∧ K (.int .u8 (bt s n.toNat))
    | _ => False)
  | _ => False
theorem op_index {t : TypeId} {x i : Operand} (hk : evK a x fun u => evK a i fun i => indexK P t u i fun u => K u h) : OpOk P ⟨dst, .index t x i, ty, pos, after, guard⟩ a h K := by
  refine .pure fun I β w n c r g => ?_
  obtain ⟨u, hu, hk⟩ := evK_sound g hk
  obtain ⟨ui, hi, hk⟩ := evK_sound g hk
  cases ui with
  | int ik m =>
    have ei := hi.int_inv
    cases u with
    | agg cs =>
      obtain ⟨mm, e, s, ht, hs, h0, hm, hk⟩ := hk
      obtain ⟨cs', ev, hl, h1, hr⟩ := hu.agg_inv
      obtain ⟨cv, u, e1, e2, e3⟩ := run_partK hl h1 hr hk
      exact ⟨cv, u, by simp [execOp, ev, ei, Instr.index, asIntOf, run_underlying (tarr_und ht), h0, hm, run_sizeOf' hs, e1], e2, e3⟩
    | str s =>
      obtain ⟨ht, h0, hm, hk⟩ := hk
      have hlt : m.toNat < s.size := by omega
      refine ⟨.int .u8 (bt s m.toNat), _, ?_, hk, .ofInt _ _⟩
      have hg : s[m.toNat]? = some s[m.toNat] := getElem?_pos s m.toNat hlt
      simp [execOp, hu.str_inv, ei, Instr.index, asIntOf, run_underlying (tstring_und ht), h0, hg, bt]
    | _ => exact hk.elim
  | _ => exact hk.elim
def tnotIface (P : Program) (t : TypeId) : Bool := match P.underlying t with | some (.interface _) => false | some _ => true | none => false
theorem op_makeInterface {t : TypeId} {x : Operand} (ht : tnotIface P t = true) (hk : evK a x fun u => K (.ifc t u) h) : OpOk P ⟨dst, .makeInterface t x, ty, pos, after, guard⟩ a h K := by
  refine .pure fun I β w n c r g => ?_
  obtain ⟨u, hu, hk⟩ := evK_sound g hk
  refine ⟨.iface t (c.eval x), _, ?_, hk, .ifc _ _ _ hu⟩
  unfold tnotIface at ht
  split at ht
  · simp at ht
  · rename_i d hne hd
    have : (Instr.makeInterface t (c.eval x)).run P w = .ok (.iface t (c.eval x)) w := by
      simp only [Instr.makeInterface, Sem.run_bind, run_underlying hd, Result.andThen_ok]
      rfl
    simp [execOp, this]
  · simp at ht
def nilCheckK (x : AV) (K : AV → Prop) : Prop := match x with | .ip c o => K (.ip c o) | .op id k e o => K (.op id k e o) | _ => False
theorem op_nilCheck {x : Operand} (hk : evK a x fun u => nilCheckK u fun u => K u h) : OpOk P ⟨dst, .nilCheck x, ty, pos, after, guard⟩ a h K := by
  refine .pure fun I β w n c r g => ?_
  obtain ⟨u, hu, hk⟩ := evK_sound g hk
  cases u with
  | ip cells off =>
    obtain ⟨b, o, vs, e, hi⟩ := hu.ip_inv
    exact ⟨_, _, by simp only [execOp, e]; rfl, hk, .imm _ _ (hi _).1⟩
  | op id k e off =>
    obtain ⟨e', hid⟩ := hu.op_inv
    exact ⟨_, _, by simp only [execOp, e']; rfl, hk, .op _ _ _ _ hid⟩
  | _ => exact hk.elim
def lenK (P : Program) (t : TypeId) (x : AV) (K : AV → Prop) : Prop :=
  match x with
  | .isl _ es => (telem P t).isSome = true ∧ K (.int .i64 es.length)
  | .osl _ _ _ len _ _ => (telem P t).isSome = true ∧ K (.int .i64 len)
  | .nils => (telem P t).isSome = true ∧ K (.int .i64 0)
  | .str s => tstring P t = true ∧ K (.int .i64 s.size)
  | _ => False
theorem run_len_sl {t ty : TypeId} (ht : (telem P t).isSome = true) (A : Option Addr) (n c : Nat) (w : World) : (Builtin.len_ #[t] ty #[.slice A n c]).run P w = .ok (.int .i64 n) w := by
  obtain ⟨e, he⟩ := Option.isSome_iff_exists.1 ht
  simp [Builtin.len_, run_underlying (telem_und he), goInt]
theorem op_len {t : TypeId} {x : Operand} (hk : evK a x fun u => lenK P t u fun u => K u h) : OpOk P ⟨dst, .call { callee := .builtin .len, args := #[x], argTypes := #[t] }, ty, pos, after, guard⟩ a h K := by
  refine .pure fun I β w n c r g => ?_
  obtain ⟨u, hu, hk⟩ := evK_sound g hk
  have key : ∀ (v : Value) (cv : Value), (Builtin.len_ #[t] ty #[v]).run P w = .ok cv w → c.eval x = v →
      (execOp c.eval ⟨dst, .call { callee := .builtin .len, args := #[x], argTypes := #[t] }, ty, pos, after, guard⟩).run P w = .ok (.value cv) w := by
    intro v cv hv he
    simp [execOp, resolve, invoke, builtin, he, hv]
  cases u with
  | isl k es =>
    obtain ⟨A, cp, e⟩ := hu.isl_inv.isl_slice
    exact ⟨_, _, key _ _ (run_len_sl hk.1 _ _ _ _) e, hk.2, .ofInt _ _⟩
  | osl id k i len cap ex =>
    obtain ⟨cp, nn, e, _⟩ := hu.osl_inv
    exact ⟨_, _, key _ _ (run_len_sl hk.1 _ _ _ _) e, hk.2, .ofInt _ _⟩
  | nils => exact ⟨_, _, key _ _ (run_len_sl hk.1 _ _ _ _) hu.nils_inv, hk.2, .ofInt _ _⟩
  | str s => exact ⟨_, _, key _ (.int .i64 s.size) (by simp [Builtin.len_, run_underlying (tstring_und hk.1), goInt]) hu.str_inv, hk.2, .ofInt _ _⟩
  | _ => exact hk.elim
def capK (P : Program) (t : TypeId) (x : AV) (K : AV → Prop) : Prop :=
  match x with
  | .osl _ _ _ _ cap ex => ex = true ∧ (telem P t).isSome = true ∧ K (.int .i64 cap)
  | .nils => (telem P t).isSome = true ∧ K (.int .i64 0)
  | _ => False
theorem op_cap {t : TypeId} {x : Operand} (hk : evK a x fun u => capK P t u fun u => K u h) : OpOk P ⟨dst, .call { callee := .builtin .cap, args := #[x], argTypes := #[t] }, ty, pos, after, guard⟩ a h K := by
  refine .pure fun I β w n c r g => ?_
  obtain ⟨u, hu, hk⟩ := evK_sound g hk
  have hrun : ∀ (A : Option Addr) (m cc : Nat), (telem P t).isSome = true → (Builtin.cap_ #[t] ty #[.slice A m cc]).run P w = .ok (.int .i64 cc) w := by
    intro A m cc ht
    obtain ⟨e, he⟩ := Option.isSome_iff_exists.1 ht
    simp [Builtin.cap_, run_underlying (telem_und he), goInt]
  cases u with
  | osl id k i len cap ex =>
    obtain ⟨cp, nn, e, _, _, _, hex, _⟩ := hu.osl_inv
    obtain ⟨hx, ht, hk⟩ := hk
    exact ⟨.int .i64 cap, _, by simp [execOp, resolve, invoke, builtin, e, hrun _ _ _ ht, hex hx], hk, .ofInt _ _⟩
  | nils => exact ⟨.int .i64 0, _, by simp [execOp, resolve, invoke, builtin, hu.nils_inv, hrun _ _ _ hk.1], hk.2, .ofInt _ _⟩
  | _ => exact hk.elim
def mins (g : Int → Int → Int) : Int → List AV → (Int → Prop) → IntKind → Prop
  | x, [], K, _ => K x
  | x, .int k' y :: r, K, k => k' = k ∧ mins g (g x y) r K k
  | _, _, _, _ => False
def imin (x y : Int) : Int := if y < x then y else x
def imax (x y : Int) : Int := if y > x then y else x
def minK (g : Int → Int → Int) (xs : List AV) (K : AV → Prop) : Prop := match xs with | .int k x :: r => mins g x r (fun x => K (.int k x)) k | _ => False
theorem mins_ok {I : Nat → Prop} {β : Nat → Nat} {N : Nat} {w : World} (f : Value → Value → Sem Value) (g : Int → Int → Int) (hf : ∀ k x y, f (.int k x) (.int k y) = Pure.pure (.int k (g x y))) {k : IntKind} : ∀ (us : List AV) (vs : List Value) (x : Int) (K : Int → Prop),
    VRels I β N w us vs → mins g x us K k → ∃ z, (vs.foldlM f (.int k x)).run P w = .ok (.int k z) w ∧ K z
  | [], vs, x, K, hv, hk => by
    obtain rfl := hv.none
    exact ⟨x, rfl, hk⟩
  | u :: us, vs, x, K, hv, hk => by
    obtain ⟨v, vs', rfl, h1, h2⟩ := hv.head
    cases u with
    | int k' y =>
      obtain ⟨rfl, hk⟩ := hk
      obtain ⟨z, e, hz⟩ := mins_ok f g hf us vs' _ K h2 hk
      refine ⟨z, ?_, hz⟩
      rw [h1.int_inv]
      simp only [List.foldlM_cons, hf, Sem.run_bind, Sem.run_pure, Result.andThen_ok]
      exact e
    | _ => exact hk.elim
theorem op_min {xs : Array Operand} {ts : Array TypeId} (hk : evsK a xs.toList fun us => minK imin us fun u => K u h) : OpOk P ⟨dst, .call { callee := .builtin .min, args := xs, argTypes := ts }, ty, pos, after, guard⟩ a h K := by
  refine .pure fun I β w n c r g => ?_
  obtain ⟨us, hu, hk⟩ := evsK_sound g hk
  cases us with
  | nil => exact hk.elim
  | cons u us =>
    obtain ⟨v, vs, ev, h1, h2⟩ := hu.head
    cases u with
    | int k x =>
      obtain ⟨z, e, hz⟩ := mins_ok (P := P) Builtin.min2 imin (fun k x y => rfl) us vs x _ h2 hk
      refine ⟨.int k z, _, ?_, hz, .ofInt _ _⟩
      rw [h1.int_inv] at ev
      have : (Builtin.min_ ts ty (xs.map c.eval)).run P w = .ok (.int k z) w := by
        unfold Builtin.min_
        rw [Array.toList_map, ev]
        exact e
      simp [execOp, resolve, invoke, builtin, this]
    | _ => exact hk.elim
theorem op_max {xs : Array Operand} {ts : Array TypeId} (hk : evsK a xs.toList fun us => minK imax us fun u => K u h) : OpOk P ⟨dst, .call { callee := .builtin .max, args := xs, argTypes := ts }, ty, pos, after, guard⟩ a h K := by
  refine .pure fun I β w n c r g => ?_
  obtain ⟨us, hu, hk⟩ := evsK_sound g hk
  cases us with
  | nil => exact hk.elim
  | cons u us =>
    obtain ⟨v, vs, ev, h1, h2⟩ := hu.head
    cases u with
    | int k x =>
      obtain ⟨z, e, hz⟩ := mins_ok (P := P) Builtin.max2 imax (fun k x y => rfl) us vs x _ h2 hk
      refine ⟨.int k z, _, ?_, hz, .ofInt _ _⟩
      rw [h1.int_inv] at ev
      have : (Builtin.max_ ts ty (xs.map c.eval)).run P w = .ok (.int k z) w := by
        unfold Builtin.max_
        rw [Array.toList_map, ev]
        exact e
      simp [execOp, resolve, invoke, builtin, this]
    | _ => exact hk.elim
end
end Go.AL
end
section
namespace Go.AL
set_option linter.unusedVariables false
set_option linter.unusedSimpArgs false
set_option linter.unnecessarySimpa false
def cellsK (u : AV) (K : List AV → Prop) : Prop :=
  match u with
  | .agg cs => K cs
  | .tup _ => False
  | .any => False
  | .int k n => K [.int k n]
  | .bool b => K [.bool b]
  | .str s => K [.str s]
  | .flt k b => K [.flt k b]
  | .nilp => K [.nilp]
  | .nils => K [.nils]
  | .nilf => K [.nilf]
  | .nili => K [.nili]
  | .nilm => K [.nilm]
  | .e0 => K [.e0]
  | .ip c o => K [.ip c o]
  | .isl k es => K [.isl k es]
  | .op a b c d => K [.op a b c d]
  | .osl a b c d e f => K [.osl a b c d e f]
  | .om a => K [.om a]
  | .fn a b c => K [.fn a b c]
  | .ifc a b => K [.ifc a b]
theorem cellsK_sound {I : Nat → Prop} {β : Nat → Nat} {N : Nat} {w : World} {u : AV} {v : Value} {K : List AV → Prop} (h : VRel I β N w u v) (hk : cellsK u K) :
    ∃ cs, K cs ∧ v.cells.size = cs.length ∧ (∀ (j : Nat) (x : Value), v.cells[j]? = some x → x.oneCell' = true) ∧ ∀ (j : Nat) (c : AV) (x : Value), cs[j]? = some c → v.cells[j]? = some x → VRel I β N w c x := by
  have one : ∀ (u : AV) (v : Value), VRel I β N w u v → v.cells = #[v] → v.oneCell' = true → K [u] → ∃ cs, K cs ∧ v.cells.size = cs.length ∧ (∀ (j : Nat) (x : Value), v.cells[j]? = some x → x.oneCell' = true) ∧ ∀ (j : Nat) (c : AV) (x : Value), cs[j]? = some c → v.cells[j]? = some x → VRel I β N w c x := by
    intro u v hv hc h1 hk
    refine ⟨[u], hk, by simp [hc], fun j x hx => ?_, fun j c x hj hx => ?_⟩
    · rw [hc] at hx
      cases j with
      | zero => simp at hx; subst hx; exact h1
      | succ j => simp at hx
    · rw [hc] at hx
      cases j with
      | zero => simp at hx hj; subst hx hj; exact hv
      | succ j => simp at hx
  cases u with
  | agg cs =>
    obtain ⟨cs', rfl, h1, h2, h3⟩ := h.agg_inv
    exact ⟨cs, hk, h1, h2, h3⟩
  | tup cs => exact hk.elim
  | any => exact hk.elim
  | int k n => exact one _ _ h (by rw [h.int_inv]; rfl) (by rw [h.int_inv]; rfl) hk
  | bool b => exact one _ _ h (by rw [h.bool_inv]; rfl) (by rw [h.bool_inv]; rfl) hk
  | str s => exact one _ _ h (by rw [h.str_inv]; rfl) (by rw [h.str_inv]; rfl) hk
  | flt k b => cases h with | imm _ _ h' => cases h'; exact one _ _ (.imm _ _ (.flt _ _)) rfl rfl hk
  | nilp => exact one _ _ h (by rw [h.nilp_inv]; rfl) (by rw [h.nilp_inv]; rfl) hk
  | nils => exact one _ _ h (by rw [h.nils_inv]; rfl) (by rw [h.nils_inv]; rfl) hk
  | nilf => exact one _ _ h (by rw [h.nilf_inv]; rfl) (by rw [h.nilf_inv]; rfl) hk
  | nili => exact one _ _ h (by rw [h.nili_inv]; rfl) (by rw [h.nili_inv]; rfl) hk
  | nilm => cases h with | imm _ _ h' => cases h'; exact one _ _ (.imm _ _ .nilm) rfl rfl hk
  | e0 => obtain ⟨A, e⟩ := h.e0_inv; exact one _ _ h (by rw [e]; rfl) (by rw [e]; rfl) hk
  | ip c o => obtain ⟨b, o', vs, e, _⟩ := h.ip_inv; exact one _ _ h (by rw [e]; rfl) (by rw [e]; rfl) hk
  | isl k es => obtain ⟨A, c, e⟩ := h.isl_inv.isl_slice; exact one _ _ h (by rw [e]; rfl) (by rw [e]; rfl) hk
  | op a b c d => have e := h.op_inv.1; exact one _ _ h (by rw [e]; rfl) (by rw [e]; rfl) hk
  | osl a b c d e f => obtain ⟨cp, n, e, _⟩ := h.osl_inv; exact one _ _ h (by rw [e]; rfl) (by rw [e]; rfl) hk
  | om a => cases h with
    | imm _ _ h' => cases h'
    | om _ hid => exact one _ _ (.om _ hid) rfl rfl hk
  | fn a b c => obtain ⟨fs, cs, e, _⟩ := h.fn_inv; exact one _ _ h (by rw [e]; rfl) (by rw [e]; rfl) hk
  | ifc a b => obtain ⟨v', e, _⟩ := h.ifc_inv; exact one _ _ h (by rw [e]; rfl) (by rw [e]; rfl) hk
def zmap : List Value → Option (List AV)
  | [] => some []
  | v :: r => match ofV v, zmap r with
    | some u, some us => if v.oneCell' then some (u :: us) else none
    | _, _ => none
theorem zmap_sound {I : Nat → Prop} {w : World} : ∀ {vs : List Value} {us : List AV}, zmap vs = some us → us.length = vs.length ∧ (∀ (j : Nat) (x : Value), vs[j]? = some x → x.oneCell' = true) ∧ ∀ (j : Nat) (u : AV) (v : Value), us[j]? = some u → vs[j]? = some v → IRel I w u v
  | [], us, h => by simp [zmap] at h; subst h; exact ⟨rfl, fun j x hx => by simp at hx, fun j u v hu => by simp at hu⟩
  | v :: r, us, h => by
    unfold zmap at h
    split at h
    · rename_i u us' h1 h2
      split at h
      · rename_i h3
        simp at h
        subst h
        obtain ⟨a1, a2, a3⟩ := zmap_sound h2
        refine ⟨by simp [a1], fun j x hx => ?_, fun j u v hu hv => ?_⟩
        · cases j with
          | zero => simp at hx; subst hx; exact h3
          | succ j => simp at hx; exact a2 j x hx
        · cases j with
          | zero => simp at hu hv; subst hu hv; exact ofV_sound h1
          | succ j => simp at hu hv; exact a3 j u v hu hv
      · simp at h
    · simp at h
def zcells (P : Program) (t : TypeId) : Option (List AV) :=
  match P.info? t with
  | some i => (match i.zero with | some z => if z.cells.size = i.size then zmap z.cells.toList else none | none => none)
  | none => none
theorem zcells_sound {P : Program} {t : TypeId} {us : List AV} (h : zcells P t = some us) : ∃ z, (∀ w, (zeroValue t).run P w = .ok z w) ∧ z.cells.size = us.length ∧ tsize P t = some us.length ∧
    (∀ (j : Nat) (x : Value), z.cells[j]? = some x → x.oneCell' = true) ∧ ∀ (I : Nat → Prop) (w : World) (j : Nat) (u : AV) (v : Value), us[j]? = some u → z.cells[j]? = some v → IRel I w u v := by
  unfold zcells at h
  split at h
  · rename_i i hi
    split at h
    · rename_i z hz
      split at h
      · rename_i hs
        have key := fun I w => zmap_sound (I := I) (w := w) h
        refine ⟨z, fun w => by simp [zeroValue, typeInfo, hi, hz], ?_, ?_, fun j x hx => (key (fun _ => False) default).2.1 j x (by simpa using hx), fun I w j u v hu hv => (key I w).2.2 j u v hu (by simpa using hv)⟩
        · have := (key (fun _ => False) default).1; simpa using this.symm
        · have := (key (fun _ => False) default).1
          simp [tsize, hi, ← hs, this]
      · simp at h
    · simp at h
  · simp at h
section
variable {P : Program} {dst : Option Tmp} {ty : TypeId} {pos : String} {after : Array Edge} {guard : Option (Nat × Bool)} {a : Fr} {h : Heap} {K : AV → Heap → Prop}
theorem newVar_ok {I : Nat → Prop} {β : Nat → Nat} {w : World} (r : Rel I β h w) (t : TypeId) (v : Value) (cs : List AV) (hl : v.cells.size = cs.length) (h1 : ∀ (j : Nat) (x : Value), v.cells[j]? = some x → x.oneCell' = true)
    (hr : ∀ (j : Nat) (c : AV) (x : Value), cs[j]? = some c → v.cells[j]? = some x → VRel I β h.length w c x) :
    ∃ w', (newVar t v).run P w = .ok ⟨w.heap.size, 0, none⟩ w' ∧ Ext I β h w I (bind1 β h.length w.heap.size) (h ++ [.arr cs.length [cs] true]) w' ∧ Rel I (bind1 β h.length w.heap.size) (h ++ [.arr cs.length [cs] true]) w' := by
  refine ⟨{ w with heap := w.heap.push (.cells v.cells t) }, by simp [newVar, newRow], ?_⟩
  refine new_ok r _ _ rfl rfl rfl rfl ?_
  intro I' β' N' w' hm
  refine ⟨v.cells, t, rfl, fun i e hi => ?_, by simp [hl], fun _ => by simp [hl], fun i e j u hi hj => ?_⟩
  · cases i with
    | zero => simp at hi; rw [← hi]
    | succ i => simp at hi
  · cases i with
    | zero =>
      simp at hi
      subst hi
      have hlt : j < v.cells.size := by rw [hl]; exact (List.getElem?_eq_some_iff.1 hj).1
      have hg : v.cells[j]? = some v.cells[j] := Array.getElem?_eq_getElem hlt
      exact ⟨v.cells[j], by simpa using hg, hm _ _ (hr j u _ hj hg), h1 j _ hg⟩
    | succ i => simp at hi
theorem op_box {t : TypeId} {x : Operand} (hk : evK a x fun u => cellsK u fun cs => K (.op h.length cs.length 0 0) (h ++ [.arr cs.length [cs] true])) : OpOk P ⟨dst, .box t x, ty, pos, after, guard⟩ a h K := by
  refine .value fun I β w n c r g => ?_
  obtain ⟨u, hu, hk⟩ := evK_sound g hk
  obtain ⟨cs, hk, hl, h1, hr⟩ := cellsK_sound hu hk
  obtain ⟨w', hrun, he, hrel⟩ := newVar_ok (P := P) r t _ cs hl h1 hr
  refine ⟨.pointer (some ⟨w.heap.size, 0, none⟩), _, I, _, _, w', by simp [execOp, Instr.box, hrun], hk, he, hrel, ?_⟩
  have := VRel.op (I := I) (β := bind1 β h.length w.heap.size) (N := (h ++ [Ob.arr cs.length [cs] true]).length) (w := w') h.length cs.length 0 0 (by simp)
  simpa [bind1_new] using this
theorem op_alloc {t : TypeId} (hk : ∃ cs, zcells P t = some cs ∧ K (.op h.length cs.length 0 0) (h ++ [.arr cs.length [cs] true])) : OpOk P ⟨dst, .alloc t, ty, pos, after, guard⟩ a h K := by
  refine .value fun I β w n c r g => ?_
  obtain ⟨cs, hz, hk⟩ := hk
  obtain ⟨z, hz0, hl, _, h1, hr⟩ := zcells_sound hz
  obtain ⟨w', hrun, he, hrel⟩ := newVar_ok (P := P) r t z cs hl h1 (fun j c x hj hx => .imm _ _ (hr _ _ j c x hj hx))
  refine ⟨.pointer (some ⟨w.heap.size, 0, none⟩), _, I, _, _, w', by simp [execOp, Instr.alloc, hz0, hrun], hk, he, hrel, ?_⟩
  have := VRel.op (I := I) (β := bind1 β h.length w.heap.size) (N := (h ++ [Ob.arr cs.length [cs] true]).length) (w := w') h.length cs.length 0 0 (by simp)
  simpa [bind1_new] using this
theorem row_ok {I : Nat → Prop} {β : Nat → Nat} {w : World} {id k : Nat} {es es' : List (List AV)} {ex : Bool} (r : Rel I β h w) (hid : h[id]? = some (.arr k es ex)) (p : Nat) (vs : List Value) (h1 : ∀ v ∈ vs, v.oneCell' = true) (n : Nat) (hn : bsize w (β id) = some n) (hp : p + vs.length ≤ n)
    (hk' : ∀ (i : Nat) (e : List AV), es'[i]? = some e → e.length = k) (hl' : es'.length = es.length)
    (hc : ∀ (i : Nat) (e : List AV) (j : Nat) (u : AV), es'[i]? = some e → e[j]? = some u → (p ≤ i * k + j ∧ i * k + j < p + vs.length ∧ ∀ v, vs[i * k + j - p]? = some v → VRel I β h.length w u v) ∨
      (¬ (p ≤ i * k + j ∧ i * k + j < p + vs.length) ∧ ∃ e0, es[i]? = some e0 ∧ e0[j]? = some u)) :
    ∃ w', (storeCells ⟨β id, p, none⟩ vs).run P w = .ok () w' ∧ Ext I β h w I β (h.set id (.arr k es' ex)) w' ∧ Rel I β (h.set id (.arr k es' ex)) w' := by
  obtain ⟨q1, q2, cur, t, hb, hkk, hs, hex, hcell⟩ := r.obj id _ hid (by simp)
  have hcn : cur.size = n := by simp [bsize, hb] at hn; exact hn
  subst hcn
  refine ⟨_, run_storeCells_at (P := P) (β id) p t vs 0 cur w hb (by simpa using hp) h1, ?_⟩
  simp only [Nat.add_zero]
  have hsz : (cur.toList.take p ++ vs ++ cur.toList.drop (p + vs.length)).toArray.size = cur.size := by simp; omega
  refine set_ok r id _ _ (.cells (cur.toList.take p ++ vs ++ cur.toList.drop (p + vs.length)).toArray t (0, 0)) hid (by simp) (by simp) (fun b hb' => setRow_other _ _ _ _ hb') (setRow_heap _ _ _ _ _ _ hb) (by simp) rfl rfl rfl ?_ ?_
  · intro m hm
    simp only [bsize, hb, Option.some.injEq] at hm
    simp only [bsize, setRow_heap _ _ _ _ _ _ hb, hsz, hm]
  · intro w' hm
    refine ⟨_, t, rfl, hk', by rw [hsz, hl']; exact hs, fun hx => by rw [hsz, hl']; exact hex hx, fun i e j u hi hj => ?_⟩
    have hlook : ∀ q, (cur.toList.take p ++ vs ++ cur.toList.drop (p + vs.length)).toArray[q]? = if p ≤ q ∧ q < p + vs.length then vs[q - p]? else cur[q]? := by
      intro q
      rw [List.getElem?_toArray]
      by_cases c1 : q < p
      · rw [if_neg (by omega), List.append_assoc, List.getElem?_append_left (by simp; omega), List.getElem?_take, if_pos c1]
        simp
      · by_cases c2 : q < p + vs.length
        · rw [if_pos (by omega), List.append_assoc, List.getElem?_append_right (by simp; omega), List.getElem?_append_left (by simp; omega)]
          have : (List.take p cur.toList).length = p := by simp; omega
          rw [this]
        · rw [if_neg (by omega), List.append_assoc, List.getElem?_append_right (by simp; omega), List.getElem?_append_right (by simp; omega), List.getElem?_drop]
          have : (List.take p cur.toList).length = p := by simp; omega
          rw [this, show p + vs.length + (q - p - vs.length) = q by omega]
          simp
    rcases hc i e j u hi hj with ⟨c1, c2, c3⟩ | ⟨c1, e0, c2, c3⟩
    · have hlt : i * k + j - p < vs.length := by omega
      refine ⟨vs[i * k + j - p], ?_, hm _ _ (c3 _ (List.getElem?_eq_getElem hlt)), h1 _ (List.getElem_mem hlt)⟩
      rw [hlook, if_pos ⟨c1, c2⟩, List.getElem?_eq_getElem hlt]
    · obtain ⟨v, b1, b2, b3⟩ := hcell i e0 j u c2 c3
      refine ⟨v, ?_, hm _ _ b2, b3⟩
      rw [hlook, if_neg c1, b1]
def patch (c : List AV) (off : Nat) (cs : List AV) : List AV := c.take off ++ cs ++ c.drop (off + cs.length)
theorem patch_length {c : List AV} {off : Nat} {cs : List AV} (h : off + cs.length ≤ c.length) : (patch c off cs).length = c.length := by simp [patch]; omega
theorem patch_get {c : List AV} {off : Nat} {cs : List AV} (h : off + cs.length ≤ c.length) (j : Nat) : (patch c off cs)[j]? = if off ≤ j ∧ j < off + cs.length then cs[j - off]? else c[j]? := by
  unfold patch
  by_cases c1 : j < off
  · rw [if_neg (by omega), List.append_assoc, List.getElem?_append_left (by simp; omega), List.getElem?_take, if_pos c1]
  · have hl : (List.take off c).length = off := by simp; omega
    by_cases c2 : j < off + cs.length
    · rw [if_pos (by omega), List.append_assoc, List.getElem?_append_right (by omega), List.getElem?_append_left (by omega), hl]
    · rw [if_neg (by omega), List.append_assoc, List.getElem?_append_right (by omega), List.getElem?_append_right (by omega), List.getElem?_drop, hl, show off + cs.length + (j - off - cs.length) = j by omega]
def storeK (P : Program) (t : TypeId) (h : Heap) (p u : AV) (K : Heap → Prop) : Prop :=
  match p with
  | .op id k e off => cellsK u fun cs => tsize P t = some cs.length ∧ ∃ es ex, h[id]? = some (.arr k es ex) ∧ ∃ c, es[e]? = some c ∧ off + cs.length ≤ c.length ∧ K (h.set id (.arr k (es.set e (patch c off cs)) ex))
  | _ => False
theorem mul_lt_of {i e k j : Nat} (hj : j < k) (h : i < e) : i * k + j < e * k := by
  have := Nat.mul_le_mul_right k (show i + 1 ≤ e from h)
  rw [Nat.add_mul] at this
  omega
theorem op_store {t : TypeId} {p x : Operand} (hk : evK a p fun p => evK a x fun u => storeK P t h p u fun h' => K .undef h') : OpOk P ⟨dst, .store t p x, ty, pos, after, guard⟩ a h K := by
  refine .skip fun I β w n c r g => ?_
  obtain ⟨up, hp, hk⟩ := evK_sound g hk
  obtain ⟨u, hu, hk⟩ := evK_sound g hk
  cases up with
  | op id k e off =>
    obtain ⟨ep, hid⟩ := hp.op_inv
    obtain ⟨cs, ⟨hsz, es, ex, hob, cl, hcl, hoff, hk⟩, hl, h1, hr⟩ := cellsK_sound hu hk
    obtain ⟨q1, q2, cur, tt, hb, hkk, hs, hex, hcell⟩ := r.obj id _ hob (by simp)
    have hck := hkk e cl hcl
    have hek : e * k + k ≤ cur.size := by
      have : e < es.length := (List.getElem?_eq_some_iff.1 hcl).1
      have := Nat.mul_le_mul_right k (show e + 1 ≤ es.length from this)
      rw [Nat.add_mul] at this
      omega
    have hlen : (c.eval x).cells.toList.length = cs.length := by simpa using hl
    have key := row_ok (P := P) (es' := es.set e (patch cl off cs)) r hob (e * k + off) (c.eval x).cells.toList (fun v hv => by
        obtain ⟨j, hj⟩ := List.getElem?_of_mem hv
        exact h1 j v (by simpa using hj)) cur.size (by simp [bsize, hb]) (by omega) (fun i e' hi => ?_) (by simp) (fun i e' j u' hi hj => ?_)
    · obtain ⟨w', hrun, he, hrel⟩ := key
      refine ⟨I, β, _, w', ?_, hk, he, hrel⟩
      have hsc : (storeVar t ⟨β id, e * k + off, none⟩ (c.eval x)).run P w = .ok () w' := by
        simp only [storeVar, Sem.run_bind, run_sizeOf' hsz, Result.andThen_ok]
        rw [if_neg (by simp [hl])]
        exact hrun
      simp [execOp, ep, Instr.storeAt, Instr.sureAddr, hsc]
    · by_cases hie : i = e
      · subst hie
        rw [List.getElem?_set_self (List.getElem?_eq_some_iff.1 hcl).1] at hi
        injection hi with hi
        rw [← hi, patch_length hoff, hck]
      · rw [List.getElem?_set_ne (fun x => hie x.symm)] at hi
        exact hkk i e' hi
    · rw [hlen]
      by_cases hie : i = e
      · subst hie
        rw [List.getElem?_set_self (List.getElem?_eq_some_iff.1 hcl).1] at hi
        injection hi with hi
        subst hi
        rw [patch_get hoff] at hj
        split at hj
        · rename_i hjr
          refine .inl ⟨by omega, by omega, fun v hv => hr (j - off) u' v hj ?_⟩
          rw [show i * k + j - (i * k + off) = j - off by omega] at hv
          simpa using hv
        · exact .inr ⟨by omega, cl, hcl, hj⟩
      · rw [List.getElem?_set_ne (fun x => hie x.symm)] at hi
        refine .inr ⟨?_, e', hi, hj⟩
        have hjk : j < k := by rw [← hkk i e' hi]; exact (List.getElem?_eq_some_iff.1 hj).1
        rcases Nat.lt_or_gt_of_ne hie with hlt | hgt
        · have := mul_lt_of hjk hlt; omega
        · have h2 : off + cs.length ≤ k := by omega
          have := Nat.mul_le_mul_right k (show e + 1 ≤ i from hgt)
          rw [Nat.add_mul] at this
          omega
  | _ => exact hk.elim
theorem replicate_row {es : List (List AV)} {z : List AV} {m : Nat} (i : Nat) (e : List AV) (h : (List.replicate m z)[i]? = some e) : e = z ∧ i < m := by
  obtain ⟨hlt, rfl⟩ := List.getElem?_eq_some_iff.1 h
  simp at hlt ⊢
  exact hlt
def makeSliceK (P : Program) (t : TypeId) (h : Heap) (l c : AV) (K : AV → Heap → Prop) : Prop :=
  match l, c with
  | .int _ l, .int _ c => ∃ e z b, telem P t = some e ∧ zcells P e = some z ∧ tbytes P e = some b ∧ 0 ≤ l ∧ l ≤ c ∧ b * c ≤ 281474976710656 ∧ c ≤ 9223372036854775807 ∧
      K (.osl h.length z.length 0 l.toNat c.toNat true) (h ++ [.arr z.length (List.replicate c.toNat z) true])
  | _, _ => False
theorem wrap_i64 {n : Int} (h0 : 0 ≤ n) (h1 : n ≤ 9223372036854775807) : IntKind.i64.wrap n = n := IntWalk.i64_in n ⟨by omega, h1⟩
theorem op_makeSlice {t : TypeId} {l cp : Operand} (hk : evK a l fun l => evK a cp fun c => makeSliceK P t h l c K) : OpOk P ⟨dst, .makeSlice t l cp, ty, pos, after, guard⟩ a h K := by
  refine .value fun I β w n c r g => ?_
  obtain ⟨ul, hl, hk⟩ := evK_sound g hk
  obtain ⟨uc, hc, hk⟩ := evK_sound g hk
  cases ul with
  | int kl ml =>
    cases uc with
    | int kc mc =>
      obtain ⟨e, z, b, he, hz, hb, h0, hlc, hfit, hmax, hk⟩ := hk
      obtain ⟨zv, hz0, hzl, hzs, hz1, hzr⟩ := zcells_sound hz
      have hbytes : ∃ i, P.info? e = some i ∧ i.bytes = b := by
        unfold tbytes at hb
        cases hi : P.info? e with
        | none => simp [hi] at hb
        | some i => simp [hi] at hb; exact ⟨i, rfl, hb⟩
      obtain ⟨inf, hinf, hbi⟩ := hbytes
      have hw1 : IntKind.i64.wrap ml = ml := wrap_i64 h0 (by omega)
      have hw2 : IntKind.i64.wrap mc = mc := wrap_i64 (by omega) hmax
      have hbl : (b : Int) * ml ≤ 281474976710656 := Int.le_trans (Int.mul_le_mul_of_nonneg_left hlc (by omega)) hfit
      have hrun : ∃ cells : Array Value, (Instr.makeSlice t (.int kl ml) (.int kc mc)).run P w = .ok (.slice (some ⟨w.heap.size, 0, none⟩) ml.toNat mc.toNat) { w with heap := w.heap.push (.cells cells e) } ∧
          cells.size = mc.toNat * z.length ∧ ∀ i j, i < mc.toNat → j < z.length → cells[i * z.length + j]? = zv.cells[j]? := by
        refine ⟨(Array.range (mc.toNat * z.length)).map fun x => (if mc.toNat * z.length = 0 then (#[] : Array Value) else zv.cells)[x % (if mc.toNat * z.length = 0 then (#[] : Array Value) else zv.cells).size]!, ?_, by simp, ?_⟩
        · have c1 : ¬ (mc < 0) := by omega
          have c3 : ¬ (ml < 0) := by omega
          have c4 : ¬ (ml > mc) := by omega
          have c2 : ¬ ((b : Int) * mc > 2 ^ 48) := by
            have : (2 : Int) ^ 48 = 281474976710656 := by decide
            omega
          simp only [Instr.makeSlice, Sem.run_bind, run_underlying (telem_und he), Result.andThen_ok, asInt, asIntOf, Sem.run_pure, typeInfo, run_program, hinf, hbi, hw1, hw2]
          simp only [c1, c2, c3, c4, decide_false, Bool.or_false, Bool.false_or, or_false, if_false, Bool.false_eq_true, Sem.run_bind, run_askRoom, Result.andThen_ok, run_sizeOf' hzs]
          by_cases hz' : mc.toNat * z.length = 0
          · simp [hz', newRow]
          · simp [hz', newRow, hz0]
        · intro i j hi hj
          have hpos : mc.toNat * z.length ≠ 0 := by
            have h1 : 0 < mc.toNat := by omega
            have h2 : 0 < z.length := by omega
            exact Nat.ne_of_gt (Nat.mul_pos h1 h2)
          have hlt := mul_lt_of hj hi
          simp only [if_neg hpos, Array.getElem?_map, Array.getElem?_range, hlt]
          have hmod : (i * z.length + j) % zv.cells.size = j := by rw [hzl, Nat.mul_comm, Nat.mul_add_mod, Nat.mod_eq_of_lt hj]
          have hjz : j < zv.cells.size := by omega
          simp [hmod, hjz]
      obtain ⟨cells, hrun, hcs, hcc⟩ := hrun
      obtain ⟨hext, hrel⟩ := new_ok r (.arr z.length (List.replicate mc.toNat z) true) (.cells cells e) (w' := { w with heap := w.heap.push (.cells cells e) }) rfl rfl rfl rfl (by
        intro I' β' N' w' hm
        refine ⟨cells, e, rfl, fun i e' hi => by rw [(replicate_row (es := []) i e' hi).1], by simp [hcs], fun _ => by simp [hcs], fun i e' j u hi hj => ?_⟩
        obtain ⟨rfl, hi'⟩ := replicate_row (es := []) i e' hi
        have hjl : j < e'.length := (List.getElem?_eq_some_iff.1 hj).1
        have hjz : j < zv.cells.size := by omega
        have hg : zv.cells[j]? = some zv.cells[j] := Array.getElem?_eq_getElem hjz
        exact ⟨zv.cells[j], by rw [hcc i j hi' hjl, hg], hm _ _ (.imm _ _ (hzr _ _ j u _ hj hg)), hz1 j _ hg⟩)
      refine ⟨_, _, I, _, _, _, by simp [execOp, hl.int_inv, hc.int_inv, hrun]; rfl, hk, hext, hrel, ?_⟩
      have := VRel.osl (I := I) (β := bind1 β h.length w.heap.size) (N := (h ++ [Ob.arr z.length (List.replicate mc.toNat z) true]).length) (w := { w with heap := w.heap.push (.cells cells e) }) h.length z.length 0 ml.toNat mc.toNat true mc.toNat (mc.toNat * z.length)
        (by simp) (by omega) (Nat.le_refl _) (fun _ => rfl) (by simp [bsize, bind1_new, hcs]) (by simp)
      simpa [bind1_new] using this
    | _ => exact hk.elim
  | _ => exact hk.elim
end
end Go.AL
end
section
namespace Go.AL
set_option linter.unusedVariables false
set_option linter.unusedSimpArgs false
set_option linter.unnecessarySimpa false
theorem foldl_zip_get (off : Nat) : ∀ (l : List Value) (s : Nat) (cs : Array Value) (q : Nat), off + s + l.length ≤ cs.size →
    ((l.zipIdx s).foldl (fun cs (x : Value × Nat) => cs.setIfInBounds (off + x.2) x.1) cs)[q]? = (if off + s ≤ q ∧ q < off + s + l.length then l[q - off - s]? else cs[q]?) ∧
    ((l.zipIdx s).foldl (fun cs (x : Value × Nat) => cs.setIfInBounds (off + x.2) x.1) cs).size = cs.size
  | [], s, cs, q, h => by simp; omega
  | v :: l, s, cs, q, h => by
    have ih := foldl_zip_get off l (s + 1) (cs.setIfInBounds (off + s) v) q (by simp at h ⊢; omega)
    simp only [List.zipIdx_cons, List.foldl_cons]
    refine ⟨ih.1.trans ?_, by rw [ih.2]; simp⟩
    simp only [List.length_cons]
    by_cases c1 : off + (s + 1) ≤ q ∧ q < off + (s + 1) + l.length
    · rw [if_pos c1, if_pos (by omega), show q - off - s = (q - off - (s + 1)) + 1 by omega, List.getElem?_cons_succ]
    · rw [if_neg c1]
      by_cases c2 : q = off + s
      · subst c2
        rw [if_pos (by omega)]
        simp at h
        have : off + s < cs.size := by omega
        simp [this]
      · rw [if_neg (by omega), Array.getElem?_setIfInBounds_ne (by omega)]
theorem foldl_zip_arr (off : Nat) (a : Array Value) (cs : Array Value) :
    a.zipIdx.foldl (fun cs (x : Value × Nat) => cs.setIfInBounds (off + x.2) x.1) cs = (a.toList.zipIdx 0).foldl (fun cs (x : Value × Nat) => cs.setIfInBounds (off + x.2) x.1) cs := by
  rw [← Array.foldl_toList]
  simp
def fplaces (P : Program) (t : TypeId) : Option (List (Nat × Nat)) :=
  match P.underlying t with
  | some (.struct fs) => fs.toList.mapM fun f => (tsize P f.type).map fun s => (f.offset, s)
  | some (.array n e) => (tsize P e).map fun s => (List.range n).map fun i => (i * s, s)
  | _ => none
theorem run_places {P : Program} (w : World) : ∀ (fs : List Field) (pl : List (Nat × Nat)), (fs.mapM fun f => (tsize P f.type).map fun s => (f.offset, s)) = some pl →
    (fs.mapM (m := Sem) fun f => do pure (f.offset, ← sizeOf f.type)).run P w = .ok pl w
  | [], pl, h => by simp at h; subst h; rfl
  | f :: fs, pl, h => by
    simp only [List.mapM_cons] at h ⊢
    cases hs : tsize P f.type with
    | none => simp [hs] at h
    | some s =>
      cases hr : (fs.mapM fun f => (tsize P f.type).map fun s => (f.offset, s)) with
      | none => simp [hs, hr] at h
      | some r =>
        simp [hs, hr] at h
        subst h
        have := run_places w fs r hr
        simp only [Sem.run_bind, run_sizeOf' hs, Result.andThen_ok, Sem.run_pure, this]
def fillK (place : Nat → Option (Nat × Nat)) : List (Nat × AV) → List AV → (List AV → Prop) → Prop
  | [], cs, K => K cs
  | (i, u) :: r, cs, K => cellsK u fun us => ∃ off, place i = some (off, us.length) ∧ off + us.length ≤ cs.length ∧ fillK place r (patch cs off us) K
def CRel (I : Nat → Prop) (β : Nat → Nat) (N : Nat) (w : World) (cs : List AV) (vs : Array Value) : Prop :=
  vs.size = cs.length ∧ (∀ (j : Nat) (v : Value), vs[j]? = some v → v.oneCell' = true) ∧ ∀ (j : Nat) (u : AV) (v : Value), cs[j]? = some u → vs[j]? = some v → VRel I β N w u v
theorem CRel.patch {I : Nat → Prop} {β : Nat → Nat} {N : Nat} {w : World} {cs : List AV} {vs : Array Value} (h : CRel I β N w cs vs) {us : List AV} {xs : Array Value} (hx : CRel I β N w us xs) {off : Nat} (hoff : off + us.length ≤ cs.length) :
    CRel I β N w (patch cs off us) (xs.zipIdx.foldl (fun cs (x : Value × Nat) => cs.setIfInBounds (off + x.2) x.1) vs) := by
  have hxl : xs.toList.length = us.length := by simpa using hx.1
  have key := fun q => foldl_zip_get off xs.toList 0 vs q (by rw [hxl, h.1]; omega)
  refine ⟨?_, fun j v hj => ?_, fun j u v hu hj => ?_⟩
  · rw [foldl_zip_arr, (key 0).2, h.1, patch_length hoff]
  · rw [foldl_zip_arr, (key j).1] at hj
    split at hj
    · exact hx.2.1 _ v (by simpa using hj)
    · exact h.2.1 j v hj
  · rw [foldl_zip_arr, (key j).1] at hj
    rw [patch_get hoff] at hu
    simp only [Nat.add_zero, hxl] at hj
    split at hu
    · rename_i hc
      rw [if_pos hc] at hj
      exact hx.2.2 _ u v hu (by simpa using hj)
    · rename_i hc
      rw [if_neg hc] at hj
      exact h.2.2 j u v hu hj
def PRels (I : Nat → Prop) (β : Nat → Nat) (N : Nat) (w : World) : List (Nat × AV) → List (Nat × Value) → Prop
  | [], [] => True
  | (i, u) :: r, (j, v) :: s => i = j ∧ VRel I β N w u v ∧ PRels I β N w r s
  | _, _ => False
theorem fill_ok {I : Nat → Prop} {β : Nat → Nat} {N : Nat} {w : World} (place : Nat → Option (Nat × Nat)) : ∀ (us : List (Nat × AV)) (vs : List (Nat × Value)) (cs : List AV) (cells : Array Value) (K : List AV → Prop), PRels I β N w us vs → CRel I β N w cs cells → fillK place us cs K →
    ∃ cs' cells', Instr.fill place cells vs = some cells' ∧ CRel I β N w cs' cells' ∧ K cs'
  | [], [], cs, cells, K, _, hc, hk => ⟨cs, cells, rfl, hc, hk⟩
  | (i, u) :: r, (j, v) :: s, cs, cells, K, hp, hc, hk => by
    obtain ⟨rfl, hv, hp⟩ := hp
    obtain ⟨us, ⟨off, hpl, hoff, hk⟩, h1, h2, h3⟩ := cellsK_sound hv hk
    have hcr : CRel I β N w us v.cells := ⟨h1, h2, h3⟩
    obtain ⟨cs', cells', e1, e2, e3⟩ := fill_ok place r s _ _ K hp (hc.patch hcr hoff) hk
    refine ⟨cs', cells', ?_, e2, e3⟩
    simp only [Instr.fill, hpl]
    rw [if_neg (by simp [h1, hc.1]; omega)]
    exact e1
  | [], _ :: _, _, _, _, hp, _, _ => hp.elim
  | _ :: _, [], _, _, _, hp, _, _ => hp.elim
def evpK (a : Fr) : List (Nat × Operand) → (List (Nat × AV) → Prop) → Prop
  | [], K => K []
  | (i, x) :: r, K => evK a x fun u => evpK a r fun us => K ((i, u) :: us)
theorem evpK_sound {I : Nat → Prop} {β : Nat → Nat} {N : Nat} {w : World} {n : Nat} {a : Fr} {c : Act} (hf : FRel I β N w n a c) : ∀ {xs : List (Nat × Operand)} {K : List (Nat × AV) → Prop}, evpK a xs K → ∃ us, PRels I β N w us (xs.map fun (i, x) => (i, c.eval x)) ∧ K us
  | [], K, hk => ⟨[], trivial, hk⟩
  | (i, x) :: r, K, hk => by
    obtain ⟨u, hu, hk1⟩ := evK_sound hf hk
    obtain ⟨us, hus, hk2⟩ := evpK_sound hf hk1
    exact ⟨(i, u) :: us, ⟨rfl, hu, hus⟩, hk2⟩
section
variable {P : Program} {dst : Option Tmp} {ty : TypeId} {pos : String} {after : Array Edge} {guard : Option (Nat × Bool)} {a : Fr} {h : Heap} {K : AV → Heap → Prop}
theorem fill_mono {p q : Nat → Option (Nat × Nat)} (h : ∀ i x, p i = some x → q i = some x) : ∀ {vs : List (Nat × Value)} {cells : Array Value} {r : Array Value}, Instr.fill p cells vs = some r → Instr.fill q cells vs = some r
  | [], cells, r, hf => hf
  | (i, v) :: vs, cells, r, hf => by
    unfold Instr.fill at hf ⊢
    cases hp : p i with
    | none => rw [hp] at hf; simp at hf
    | some x =>
      rw [hp] at hf
      rw [h i x hp]
      simp only at hf ⊢
      split at hf
      · cases hf
      · rename_i hc; rw [if_neg hc]; exact fill_mono h hf
theorem op_build {t : TypeId} {parts : Array (Nat × Operand)} (hk : evpK a parts.toList fun us => ∃ z pl, zcells P t = some z ∧ fplaces P t = some pl ∧ fillK (fun i => pl[i]?) us z fun cs => K (.agg cs) h) : OpOk P ⟨dst, .build t parts, ty, pos, after, guard⟩ a h K := by
  refine .pure fun I β w n c r g => ?_
  obtain ⟨us, hu, z, pl, hz, hpl, hk⟩ := evpK_sound g hk
  obtain ⟨zv, hz0, hl, _, h1, hr⟩ := zcells_sound hz
  obtain ⟨cs', cells', e1, e2, e3⟩ := fill_ok _ us _ z zv.cells _ hu ⟨hl, h1, fun j u v hj hj' => .imm _ _ (hr _ _ j u v hj hj')⟩ hk
  refine ⟨.agg cells', _, ?_, e3, .agg _ _ e2.1 e2.2.1 e2.2.2⟩
  unfold fplaces at hpl
  split at hpl
  · rename_i fs hun
    have hp := run_places (P := P) w fs.toList pl hpl
    have hm : (fs.mapM (m := Sem) fun f => do pure (f.offset, ← sizeOf f.type)).run P w = .ok pl.toArray w := by
      have : fs = fs.toList.toArray := by simp
      rw [this, List.mapM_toArray, Sem.run_map, hp]
      rfl
    have hrun : (Instr.build t (parts.map fun (i, x) => (i, c.eval x))).run P w = .ok (.agg cells') w := by
      simp only [Instr.build, Sem.run_bind, hz0, Result.andThen_ok, run_underlying hun]
      rw [hm]
      simp only [Result.andThen_ok, List.getElem?_toArray, Array.toList_map]
      rw [e1]
      rfl
    simp only [execOp, Sem.run_bind]
    rw [hrun]
    rfl
  · rename_i m e hun
    cases hs : tsize P e with
    | none => rw [hs] at hpl; cases hpl
    | some s =>
      rw [hs] at hpl
      simp only [Option.map_some, Option.some.injEq] at hpl
      subst hpl
      have e1' := fill_mono (fun i x hx => (by
        rw [List.getElem?_map] at hx
        cases hr : (List.range m)[i]? with
        | none => rw [hr] at hx; cases hx
        | some j =>
          rw [hr] at hx
          simp only [Option.map_some, Option.some.injEq] at hx
          have : j = i := by
            have := List.getElem?_eq_some_iff.1 hr
            obtain ⟨q1, q2⟩ := this
            simpa using q2.symm
          subst this
          exact congrArg some hx : some (i * s, s) = some x)) e1
      have hrun : (Instr.build t (parts.map fun (i, x) => (i, c.eval x))).run P w = .ok (.agg cells') w := by
        simp only [Instr.build, Sem.run_bind, hz0, Result.andThen_ok, run_underlying hun, run_sizeOf' hs, Array.toList_map]
        rw [e1']
        rfl
      simp only [execOp, Sem.run_bind]
      rw [hrun]
      rfl
  · simp at hpl
def RRel (I : Nat → Prop) (β : Nat → Nat) (N : Nat) (w : World) (k : Nat) (es : List (List AV)) (cells : Array Value) : Prop :=
  (∀ (i : Nat) (e : List AV), es[i]? = some e → e.length = k) ∧ cells.size = es.length * k ∧ ∀ (i : Nat) (e : List AV) (j : Nat) (u : AV), es[i]? = some e → e[j]? = some u → ∃ v, cells[i * k + j]? = some v ∧ VRel I β N w u v ∧ v.oneCell' = true
def fillRK (k : Nat) : List (Nat × AV) → List (List AV) → (List (List AV) → Prop) → Prop
  | [], es, K => K es
  | (i, u) :: r, es, K => cellsK u fun us => us.length = k ∧ i < es.length ∧ fillRK k r (es.set i us) K
theorem fillR_ok {I : Nat → Prop} {β : Nat → Nat} {N : Nat} {w : World} (k : Nat) : ∀ (us : List (Nat × AV)) (vs : List (Nat × Value)) (es : List (List AV)) (cells : Array Value) (K : List (List AV) → Prop), PRels I β N w us vs → RRel I β N w k es cells → fillRK k us es K →
    ∃ es' cells', Instr.fill (fun i => some (i * k, k)) cells vs = some cells' ∧ RRel I β N w k es' cells' ∧ es'.length = es.length ∧ K es'
  | [], [], es, cells, K, _, hc, hk => ⟨es, cells, rfl, hc, rfl, hk⟩
  | (i, u) :: r, (j, v) :: s, es, cells, K, hp, hc, hk => by
    obtain ⟨rfl, hv, hp⟩ := hp
    obtain ⟨us, ⟨hul, hi, hk⟩, h1, h2, h3⟩ := cellsK_sound hv hk
    have hfit : i * k + k ≤ cells.size := by
      rw [hc.2.1]
      have := Nat.mul_le_mul_right k (show i + 1 ≤ es.length from hi)
      rw [Nat.add_mul] at this
      omega
    have hxl : v.cells.toList.length = k := by rw [← hul]; simpa using h1
    have key := fun q => foldl_zip_get (i * k) v.cells.toList 0 cells q (by omega)
    have hnew : RRel I β N w k (es.set i us) (v.cells.zipIdx.foldl (fun cs (x : Value × Nat) => cs.setIfInBounds (i * k + x.2) x.1) cells) := by
      refine ⟨fun i' e he => ?_, by rw [foldl_zip_arr, (key 0).2, hc.2.1]; simp, fun i' e j u' he hj => ?_⟩
      · by_cases hii : i' = i
        · subst hii
          rw [List.getElem?_set_self hi] at he
          injection he with he
          rw [← he, hul]
        · rw [List.getElem?_set_ne (fun x => hii x.symm)] at he
          exact hc.1 i' e he
      · rw [foldl_zip_arr, (key _).1]
        simp only [Nat.add_zero, hxl]
        by_cases hii : i' = i
        · subst hii
          rw [List.getElem?_set_self hi] at he
          injection he with he
          subst he
          have hjk : j < k := by rw [← hul]; exact (List.getElem?_eq_some_iff.1 hj).1
          have hjv : j < v.cells.size := by omega
          have hg : v.cells[j]? = some v.cells[j] := Array.getElem?_eq_getElem hjv
          rw [if_pos (by omega)]
          refine ⟨v.cells[j], ?_, h3 j u' _ hj hg, h2 j _ hg⟩
          rw [show i' * k + j - i' * k - 0 = j by omega]
          simpa using hg
        · rw [List.getElem?_set_ne (fun x => hii x.symm)] at he
          have hjk : j < k := by rw [← hc.1 i' e he]; exact (List.getElem?_eq_some_iff.1 hj).1
          have hn : ¬ (i * k ≤ i' * k + j ∧ i' * k + j < i * k + k) := by
            rcases Nat.lt_or_gt_of_ne hii with hlt | hgt
            · have := mul_lt_of hjk hlt; omega
            · have := Nat.mul_le_mul_right k (show i + 1 ≤ i' from hgt)
              rw [Nat.add_mul] at this
              omega
          rw [if_neg hn]
          exact hc.2.2 i' e j u' he hj
    obtain ⟨es', cells', e1, e2, e3, e4⟩ := fillR_ok k r s _ _ K hp hnew hk
    refine ⟨es', cells', ?_, e2, by rw [e3]; simp, e4⟩
    simp only [Instr.fill]
    rw [if_neg (by simp; omega)]
    exact e1
  | [], _ :: _, _, _, _, hp, _, _ => hp.elim
  | _ :: _, [], _, _, _, hp, _, _ => hp.elim
theorem op_buildSlice {t : TypeId} {len : Nat} {parts : Array (Nat × Operand)} (hk : evpK a parts.toList fun us => ∃ e z, telem P t = some e ∧ zcells P e = some z ∧ len * z.length ≤ 16777216 ∧
      fillRK z.length us (List.replicate len z) fun es => K (.osl h.length z.length 0 len len true) (h ++ [.arr z.length es true])) : OpOk P ⟨dst, .buildSlice t len parts, ty, pos, after, guard⟩ a h K := by
  refine .value fun I β w n c r g => ?_
  obtain ⟨us, hu, e, z, he, hz, hfit, hk⟩ := evpK_sound g hk
  obtain ⟨zv, hz0, hzl, hzs, hz1, hzr⟩ := zcells_sound hz
  have hrow : RRel I β h.length w z.length (List.replicate len z) ((Array.range (len * z.length)).map fun x => (if len * z.length = 0 then (#[] : Array Value) else zv.cells)[x % (if len * z.length = 0 then (#[] : Array Value) else zv.cells).size]!) := by
    refine ⟨fun i e hi => by rw [(replicate_row (es := []) i e hi).1], by simp, fun i e' j u hi hj => ?_⟩
    obtain ⟨rfl, hi'⟩ := replicate_row (es := []) i e' hi
    have hjl : j < e'.length := (List.getElem?_eq_some_iff.1 hj).1
    have hjz : j < zv.cells.size := by omega
    have hg : zv.cells[j]? = some zv.cells[j] := Array.getElem?_eq_getElem hjz
    have hpos : len * e'.length ≠ 0 := Nat.ne_of_gt (Nat.mul_pos (by omega) (by omega))
    have hlt := mul_lt_of hjl hi'
    refine ⟨zv.cells[j], ?_, .imm _ _ (hzr _ _ j u _ hj hg), hz1 j _ hg⟩
    simp only [if_neg hpos, Array.getElem?_map, Array.getElem?_range, hlt]
    have hmod : (i * e'.length + j) % zv.cells.size = j := by rw [hzl, Nat.mul_comm, Nat.mul_add_mod, Nat.mod_eq_of_lt hjl]
    simp [hmod, hjz]
  obtain ⟨es', cells', e1, e2, e3, e4⟩ := fillR_ok z.length us _ _ _ _ hu hrow hk
  obtain ⟨hext, hrel⟩ := new_ok r (.arr z.length es' true) (.cells cells' e) (w' := { w with heap := w.heap.push (.cells cells' e) }) rfl rfl rfl rfl (by
    intro I' β' N' w' hm
    refine ⟨cells', e, rfl, e2.1, by rw [e2.2.1]; exact Nat.le_refl _, fun _ => e2.2.1, fun i e' j u hi hj => ?_⟩
    obtain ⟨v, b1, b2, b3⟩ := e2.2.2 i e' j u hi hj
    exact ⟨v, b1, hm _ _ b2, b3⟩)
  have hsz : cells'.size = len * z.length := by rw [e2.2.1, e3]; simp
  have hrun : (Instr.buildSlice t len (parts.map fun (i, x) => (i, c.eval x))).run P w = .ok (.slice (some ⟨w.heap.size, 0, none⟩) len len) { w with heap := w.heap.push (.cells cells' e) } := by
    have c1 : ¬ (len * z.length > 2 ^ 24) := by
      have : (2 : Nat) ^ 24 = 16777216 := by decide
      omega
    simp only [Instr.buildSlice, Sem.run_bind, run_underlying (telem_und he), Result.andThen_ok, run_sizeOf' hzs, if_neg c1, Sem.run_ite, Sem.run_pure]
    by_cases hz' : len * z.length = 0
    · simp only [hz', if_true, Result.andThen_ok, Array.toList_map] at e1 ⊢
      rw [e1]
      simp [newRow]
    · simp only [hz', if_false, Result.andThen_ok, hz0, Array.toList_map] at e1 ⊢
      rw [e1]
      simp [newRow]
  refine ⟨_, _, I, _, _, _, by simp only [execOp, Sem.run_bind]; rw [hrun]; rfl, e4, hext, hrel, ?_⟩
  have := VRel.osl (I := I) (β := bind1 β h.length w.heap.size) (N := (h ++ [Ob.arr z.length es' true]).length) (w := { w with heap := w.heap.push (.cells cells' e) }) h.length z.length 0 len len true len (len * z.length)
    (by simp) (Nat.le_refl _) (Nat.le_refl _) (fun _ => rfl) (by simp [bsize, bind1_new, hsz]) (by simp)
  simpa [bind1_new] using this
def good (P : Program) (f : FuncId) : Bool := match P.funcs[f]? with | some fn => fn.body.isSome && !(fn.name == "runtime.NumGoroutine") | none => false
def ACalls (P : Program) (f : FuncId) (args : List AV) (h : Heap) (Q : AV → Heap → Prop) : Prop :=
  good P f = true ∧ ∀ (I : Nat → Prop) (β : Nat → Nat) (w : World) (vs : List Value), Rel I β h w → VRels I β h.length w args vs →
    Calls P f vs.toArray w fun e w' => ∃ cv u I' β' h', e = .returned cv ∧ Q u h' ∧ Ext I β h w I' β' h' w' ∧ Rel I' β' h' w' ∧ VRel I' β' h'.length w' u cv
theorem ACalls.mono {f : FuncId} {args : List AV} {Q Q' : AV → Heap → Prop} (hh : ACalls P f args h Q) (hq : ∀ u h', Q u h' → Q' u h') : ACalls P f args h Q' :=
  ⟨hh.1, fun I β w vs r hv => (hh.2 I β w vs r hv).mono fun e w' ⟨cv, u, I', β', h', h1, h2, h3⟩ => ⟨cv, u, I', β', h', h1, hq u h' h2, h3⟩⟩
def callK (P : Program) (f : AV) (args : List AV) (h : Heap) (K : AV → Heap → Prop) : Prop :=
  match f with
  | .fn (.func g) first cap => ACalls P g (first ++ args ++ cap) h K
  | _ => False
theorem op_call {f : Operand} {xs : Array Operand} {ts : Array TypeId} (hk : evK a f fun f => evsK a xs.toList fun us => callK P f us h K) : OpOk P ⟨dst, .call { callee := .value f, args := xs, argTypes := ts }, ty, pos, after, guard⟩ a h K := by
  intro I β w n c next Q r g hn
  obtain ⟨uf, hf, hk⟩ := evK_sound g hk
  obtain ⟨us, hu, hk⟩ := evsK_sound g hk
  cases uf with
  | fn fnn first cap =>
    cases fnn with
    | func gid =>
      obtain ⟨fs, cs, ef, h1, h2⟩ := hf.fn_inv
      obtain ⟨hgood, hcall⟩ := hk
      have hargs : VRels I β h.length w (first ++ us ++ cap) (fs ++ xs.map c.eval ++ cs).toList := by
        have := (h1.append hu).append h2
        simpa using this
      have hc := hcall I β w _ r hargs
      have hrun : (execOp c.eval ⟨dst, .call { callee := .value f, args := xs, argTypes := ts }, ty, pos, after, guard⟩).run P w = .ok (.enter gid (fs ++ xs.map c.eval ++ cs)) w := by
        unfold good at hgood
        cases hfun : P.funcs[gid]? with
        | none => simp [hfun] at hgood
        | some fn =>
          simp only [hfun, Bool.and_eq_true, Bool.not_eq_true'] at hgood
          obtain ⟨hb, hnm⟩ := hgood
          have hbn : fn.body.isNone = false := by cases hbd : fn.body <;> simp_all
          simp only [execOp, resolve, ef, Deferred.ofValue, Sem.run_bind, Sem.run_pure, Result.andThen_ok, invoke, callFunc, run_program, hfun, hnm, hbn, Bool.false_eq_true, if_false]
      unfold Oper.wp
      rw [hrun, Oper.upon_enter]
      rw [Array.toArray_toList] at hc
      refine hc.mono ?_
      rintro e w' ⟨cv, u, I', β', h', rfl, hq, he, hr, hv⟩
      exact hn u cv I' β' h' w' hq he hr hv
    | _ => exact hk.elim
  | _ => exact hk.elim
end
end Go.AL
end
section
namespace Go.AL
set_option linter.unusedVariables false
set_option linter.unusedSimpArgs false
set_option linter.unnecessarySimpa false
def elemsK (h : Heap) (k : Nat) (x : AV) (K : List (List AV) → Prop) : Prop :=
  match x with
  | .nils => K []
  | .isl k' es => (es ≠ [] → k' = k) ∧ K es
  | .osl id k' i len _ _ => k' = k ∧ ∃ es ex, h[id]? = some (.arr k es ex) ∧ i + len ≤ es.length ∧ K ((es.drop i).take len)
  | _ => False
def NRel (I : Nat → Prop) (β : Nat → Nat) (N : Nat) (w : World) (k : Nat) (es : List (List AV)) (news : List Value) : Prop :=
  (∀ (i : Nat) (e : List AV), es[i]? = some e → e.length = k) ∧ news.length = es.length * k ∧ (∀ v ∈ news, v.oneCell' = true) ∧ ∀ (i : Nat) (e : List AV) (j : Nat) (u : AV), es[i]? = some e → e[j]? = some u → ∃ v, news[i * k + j]? = some v ∧ VRel I β N w u v
theorem nrel_mk {I : Nat → Prop} {β : Nat → Nat} {N : Nat} {w : World} {k : Nat} {es : List (List AV)} (hk : ∀ (i : Nat) (e : List AV), es[i]? = some e → e.length = k) (g : Nat → Value)
    (hg : ∀ (i : Nat) (e : List AV) (j : Nat) (u : AV), es[i]? = some e → e[j]? = some u → VRel I β N w u (g (i * k + j)) ∧ (g (i * k + j)).oneCell' = true) :
    NRel I β N w k es ((List.range (es.length * k)).map g) := by
  have split : ∀ q, q < es.length * k → ∃ i e j u, es[i]? = some e ∧ e[j]? = some u ∧ q = i * k + j := by
    intro q hq
    have hk0 : 0 < k := by
      rcases Nat.eq_zero_or_pos k with h0 | h0
      · rw [h0] at hq; simp at hq
      · exact h0
    have hi : q / k < es.length := (Nat.div_lt_iff_lt_mul hk0).2 hq
    have he := List.getElem?_eq_getElem hi
    have hj : q % k < (es[q / k]).length := by rw [hk _ _ he]; exact Nat.mod_lt _ hk0
    exact ⟨q / k, _, q % k, _, he, List.getElem?_eq_getElem hj, by rw [Nat.mul_comm]; exact (Nat.div_add_mod q k).symm⟩
  refine ⟨hk, by simp, fun v hv => ?_, fun i e j u hi hj => ?_⟩
  · simp only [List.mem_map, List.mem_range] at hv
    obtain ⟨q, hq, rfl⟩ := hv
    obtain ⟨i, e, j, u, h1, h2, rfl⟩ := split q hq
    exact (hg i e j u h1 h2).2
  · have hjk : j < k := by rw [← hk i e hi]; exact (List.getElem?_eq_some_iff.1 hj).1
    have hlt := mul_lt_of hjk (List.getElem?_eq_some_iff.1 hi).1
    exact ⟨g (i * k + j), by simp [hlt], (hg i e j u hi hj).1⟩
section
variable {P : Program} {I : Nat → Prop} {β : Nat → Nat} {h : Heap} {w : World}
theorem elemsK_sound (r : Rel I β h w) {k : Nat} {x : AV} {v : Value} {K : List (List AV) → Prop} (hv : VRel I β h.length w x v) (hk : elemsK h k x K) :
    ∃ es news A c, K es ∧ v = .slice A es.length c ∧ NRel I β h.length w k es news ∧ ∀ d, (Builtin.firstCells k es.length v).run P { w with drawn := d } = .ok news.toArray { w with drawn := d } := by
  cases x with
  | nils =>
    rw [hv.nils_inv]
    exact ⟨[], [], none, 0, hk, rfl, ⟨fun i e h => by simp at h, by simp, fun v h => by simp at h, fun i e j u h => by simp at h⟩, fun d => rfl⟩
  | isl k' es =>
    rcases hv.isl_inv.isl_inv with ⟨A, c, rfl, ev⟩ | ⟨b, o, c, f, hne, ev, hle, hb, hkk, hcell, h1, hr⟩
    · refine ⟨[], [], A, c, hk.2, ev, ⟨fun i e h => by simp at h, by simp, fun v h => by simp at h, fun i e j u h => by simp at h⟩, fun d => ?_⟩
      rw [ev]
      cases A with
      | none => rfl
      | some a => simp [Builtin.firstCells, loadCells, loadCellsFrom]
    · obtain ⟨hk', hk⟩ := hk
      obtain rfl := hk' hne
      have hn := nrel_mk (I := I) (β := β) (N := h.length) (w := w) hkk (fun q => (w.cell? ⟨b, o + q, none⟩).getD undef) (fun i e j u hi hj => by
        rw [hcell i e j u hi hj]; exact ⟨.imm _ _ (hr i e j u hi hj), h1 i e j u hi hj⟩)
      refine ⟨es, _, _, c, hk, ev, hn, fun d => ?_⟩
      rw [ev]
      have := run_loadCells_list (P := P) (w := { w with drawn := d }) ⟨b, o, none⟩ ((List.range (es.length * k')).map fun q => (w.cell? ⟨b, o + q, none⟩).getD undef) (fun j v hj => ?_)
      · simpa [Builtin.firstCells] using this
      · obtain ⟨hlt, rfl⟩ := List.getElem?_eq_some_iff.1 hj
        simp only [List.length_map, List.length_range] at hlt
        have hk0 : 0 < k' := by
          rcases Nat.eq_zero_or_pos k' with h0 | h0
          · rw [h0] at hlt; simp at hlt
          · exact h0
        have hi : j / k' < es.length := (Nat.div_lt_iff_lt_mul hk0).2 hlt
        have he := List.getElem?_eq_getElem hi
        have hj' : j % k' < (es[j / k']).length := by rw [hkk _ _ he]; exact Nat.mod_lt _ hk0
        have := hcell _ _ _ _ he (List.getElem?_eq_getElem hj')
        rw [show j / k' * k' + j % k' = j by rw [Nat.mul_comm]; exact Nat.div_add_mod j k'] at this
        have hw : ({ w with drawn := d } : World).cell? ⟨b, o + j, none⟩ = w.cell? ⟨b, o + j, none⟩ := rfl
        simp [hw, this, Addr.add_lit]
  | osl id k' i len cap ex =>
    obtain ⟨rfl, es, ex', hob, hle, hk⟩ := hk
    obtain ⟨c, n, ev, hid, hlc, hcc, hex, hbs, hfit⟩ := hv.osl_inv
    obtain ⟨q1, q2, cur, t, hb, hkk, hs, hexx, hcell⟩ := r.obj id _ hob (by simp)
    have hel : ((es.drop i).take len).length = len := by simp; omega
    have hget : ∀ (j : Nat) (e : List AV), ((es.drop i).take len)[j]? = some e → es[i + j]? = some e := by
      intro j e hj
      rw [List.getElem?_take] at hj
      split at hj
      · rwa [List.getElem?_drop] at hj
      · simp at hj
    have hn := nrel_mk (I := I) (β := β) (N := h.length) (w := w) (k := k') (es := (es.drop i).take len) (fun j e hj => hkk _ _ (hget j e hj)) (fun q => (cur[i * k' + q]?).getD undef) (fun j e q u hj hq => by
      obtain ⟨v, e1, e2, e3⟩ := hcell _ e q u (hget j e hj) hq
      rw [Nat.add_mul, Nat.add_assoc] at e1
      rw [e1]
      exact ⟨e2, e3⟩)
    refine ⟨_, _, some ⟨β id, i * k', none⟩, c, hk, by rw [hel]; exact ev, hn, fun d => ?_⟩
    rw [ev]
    have := run_loadCells_list (P := P) (w := { w with drawn := d }) ⟨β id, i * k', none⟩ ((List.range (((es.drop i).take len).length * k')).map fun q => (cur[i * k' + q]?).getD undef) (fun j v hj => ?_)
    · simpa [Builtin.firstCells] using this
    · obtain ⟨hlt, rfl⟩ := List.getElem?_eq_some_iff.1 hj
      simp only [List.length_map, List.length_range, hel] at hlt
      have hlt2 : i * k' + j < cur.size := by
        have : (i + len) * k' ≤ es.length * k' := Nat.mul_le_mul_right _ hle
        rw [Nat.add_mul] at this
        omega
      have hw : ({ w with drawn := d } : World).cell? ⟨β id, i * k' + j, none⟩ = w.cell? ⟨β id, i * k' + j, none⟩ := rfl
      simp [hw, Addr.add_lit, cell_of_block hb, hlt2]
  | _ => exact hk.elim
theorem kill_ok (r : Rel I β h w) (id : Nat) : Ext I β h w I β (h.set id .dead) w ∧ Rel I β (h.set id .dead) w := by
  have key : ∀ (j : Nat) (o : Ob), (h.set id .dead)[j]? = some o → o ≠ .dead → h[j]? = some o := by
    intro j o hj hd
    by_cases e : j = id
    · subst e
      by_cases hlt : j < h.length
      · rw [List.getElem?_set_self hlt] at hj
        injection hj with hj
        exact absurd hj.symm hd
      · rw [List.getElem?_eq_none (by simp; omega)] at hj
        cases hj
    · rwa [List.getElem?_set_ne (fun x => e x.symm)] at hj
  refine ⟨⟨rfl, rfl, rfl, Nat.le_refl _, by simp, fun _ _ => rfl, fun _ x => x, fun _ x => .inl x, fun b ⟨i, o, h1, h2, h3⟩ => .inl ⟨i, o, key i o h1 h2, h2, h3⟩, fun _ _ _ => rfl, fun _ _ x => x⟩, ⟨r.imm, fun i o h1 h2 => ?_, fun i i' o o' h1 h2 h3 h4 => r.inj i i' o o' (key _ _ h1 h2) h2 (key _ _ h3 h4) h4⟩⟩
  simpa using r.obj i o (key i o h1 h2) h2
theorem rename_ok (r : Rel I β h w) (id : Nat) (o ob : Ob) (h1 : h[id]? = some o) (h2 : o ≠ .dead) (hb : ∀ I' β' N' w', (∀ u v, VRel I β h.length w u v → VRel I' β' N' w' u v) → ORel I' β' N' w' ob w.heap[β id]?) :
    Ext I β h w I (bind1 β h.length (β id)) (h.set id .dead ++ [ob]) w ∧ Rel I (bind1 β h.length (β id)) (h.set id .dead ++ [ob]) w := by
  have hid : id < h.length := (List.getElem?_eq_some_iff.1 h1).1
  have key : ∀ (j : Nat) (x : Ob), (h.set id .dead ++ [ob])[j]? = some x → x ≠ .dead → (j < h.length ∧ j ≠ id ∧ h[j]? = some x) ∨ (j = h.length ∧ x = ob) := by
    intro j x hj hd
    rcases Nat.lt_or_ge j h.length with hlt | hge
    · rw [List.getElem?_append_left (by simpa using hlt)] at hj
      by_cases e : j = id
      · subst e
        rw [List.getElem?_set_self hlt] at hj
        injection hj with hj
        exact absurd hj.symm hd
      · rw [List.getElem?_set_ne (fun x => e x.symm)] at hj
        exact .inl ⟨hlt, e, hj⟩
    · have := (List.getElem?_eq_some_iff.1 hj).1
      simp at this
      have hj' : j = h.length := by omega
      subst hj'
      rw [List.getElem?_append_right (by simp)] at hj
      simp at hj
      exact .inr ⟨rfl, hj.symm⟩
  have hm : ∀ u v, VRel I β h.length w u v → VRel I (bind1 β h.length (β id)) (h.set id .dead ++ [ob]).length w u v := fun u v hv =>
    hv.mono (fun _ x => x) (fun _ _ => rfl) (by simp) (fun i hi => bind1_old _ _ _ _ hi) (fun _ _ x => x)
  refine ⟨⟨rfl, rfl, rfl, Nat.le_refl _, by simp, fun i hi => bind1_old _ _ _ _ hi, fun _ x => x, fun _ x => .inl x, ?_, fun _ _ _ => rfl, fun _ _ x => x⟩, ⟨r.imm, ?_, ?_⟩⟩
  · rintro b ⟨j, x, a1, a2, a3⟩
    rcases key j x a1 a2 with ⟨c1, c2, c3⟩ | ⟨rfl, rfl⟩
    · rw [bind1_old _ _ _ _ c1] at a3
      exact .inl ⟨j, x, c3, a2, a3⟩
    · rw [bind1_new] at a3
      exact .inl ⟨id, o, h1, h2, a3⟩
  · intro j x a1 a2
    rcases key j x a1 a2 with ⟨c1, c2, c3⟩ | ⟨rfl, rfl⟩
    · rw [bind1_old _ _ _ _ c1]
      obtain ⟨p, q, s⟩ := r.obj j x c3 a2
      exact ⟨p, q, s.mono hm⟩
    · rw [bind1_new]
      obtain ⟨p, q, s⟩ := r.obj id o h1 h2
      exact ⟨p, q, hb _ _ _ _ hm⟩
  · intro j j' x x' a1 a2 a3 a4 he
    rcases key j x a1 a2 with ⟨c1, c2, c3⟩ | ⟨rfl, rfl⟩ <;> rcases key j' x' a3 a4 with ⟨d1, d2, d3⟩ | ⟨rfl, rfl⟩
    · rw [bind1_old _ _ _ _ c1, bind1_old _ _ _ _ d1] at he
      exact r.inj j j' x x' c3 a2 d3 a4 he
    · rw [bind1_old _ _ _ _ c1, bind1_new] at he
      exact absurd (r.inj j id x o c3 a2 h1 h2 he) c2
    · rw [bind1_new, bind1_old _ _ _ _ d1] at he
      exact absurd (r.inj j' id x' o d3 a4 h1 h2 he.symm) d2
    · rfl
theorem NRel.get {k : Nat} {es : List (List AV)} {news : List Value} (hn : NRel I β h.length w k es news) : NRel I β h.length w k es news := hn
theorem grown_row {I' : Nat → Prop} {β' : Nat → Nat} {N' : Nat} {w' : World} {k : Nat} {es xs : List (List AV)} {old news : List Value} (h1 : NRel I β h.length w k es old) (h2 : NRel I β h.length w k xs news) (cells : Array Value) (t : TypeId)
    (hsz : (es.length + xs.length) * k ≤ cells.size) (hc : ∀ q, q < (es.length + xs.length) * k → cells[q]? = (old ++ news)[q]?) (hm : ∀ u v, VRel I β h.length w u v → VRel I' β' N' w' u v) :
    ORel I' β' N' w' (.arr k (es ++ xs) false) (some (.cells cells t (0, 0))) := by
  refine ⟨cells, t, rfl, fun i e hi => ?_, by simpa using hsz, (fun hx => by cases hx), fun i e j u hi hj => ?_⟩
  · rcases Nat.lt_or_ge i es.length with hlt | hge
    · rw [List.getElem?_append_left hlt] at hi; exact h1.1 i e hi
    · rw [List.getElem?_append_right hge] at hi; exact h2.1 _ e hi
  · rcases Nat.lt_or_ge i es.length with hlt | hge
    · rw [List.getElem?_append_left hlt] at hi
      obtain ⟨v, e1, e2⟩ := h1.2.2.2 i e j u hi hj
      have hv : v ∈ old := List.mem_of_getElem? e1
      have hq : i * k + j < old.length := (List.getElem?_eq_some_iff.1 e1).1
      have : i * k + j < (es.length + xs.length) * k := by rw [h1.2.1] at hq; rw [Nat.add_mul]; omega
      exact ⟨v, by rw [hc _ this, List.getElem?_append_left hq]; exact e1, hm _ _ e2, h1.2.2.1 v hv⟩
    · rw [List.getElem?_append_right hge] at hi
      obtain ⟨v, e1, e2⟩ := h2.2.2.2 _ e j u hi hj
      have hv : v ∈ news := List.mem_of_getElem? e1
      have hq : (i - es.length) * k + j < news.length := (List.getElem?_eq_some_iff.1 e1).1
      have hik : i * k = es.length * k + (i - es.length) * k := by rw [← Nat.add_mul]; congr 1; omega
      have : i * k + j < (es.length + xs.length) * k := by rw [h2.2.1] at hq; rw [Nat.add_mul, hik]; omega
      refine ⟨v, ?_, hm _ _ e2, h2.2.2.1 v hv⟩
      rw [hc _ this, List.getElem?_append_right (by rw [h1.2.1, hik]; omega), h1.2.1, show i * k + j - es.length * k = (i - es.length) * k + j by omega]
      exact e1
theorem zeroCells_at {z : Array Value} {n q : Nat} (hq : q < n * z.size) : (Builtin.zeroCells z n)[q]? = z[q % z.size]? := by
  have hpos : 0 < z.size := by
    rcases Nat.eq_zero_or_pos z.size with h | h
    · rw [h] at hq; simp at hq
    · exact h
  have : q % z.size < z.size := Nat.mod_lt _ hpos
  simp [Builtin.zeroCells, hq, this]
def growK (k b : Nat) (z : List AV) (N : Nat) (g : Heap) (es : List (List AV)) (K : AV → Heap → Prop) : Prop :=
  if b = 8 then ∀ c, es.length ≤ c → K (.osl N k 0 es.length c true) (g ++ [.arr k (es ++ List.replicate (c - es.length) z) true])
  else K (.osl N k 0 es.length es.length false) (g ++ [.arr k es false])
theorem grown_exact {I' : Nat → Prop} {β' : Nat → Nat} {N' : Nat} {w' : World} {k c : Nat} {es xs : List (List AV)} {old news : List Value} {z : List AV} {zv : Array Value} (h1 : NRel I β h.length w k es old) (h2 : NRel I β h.length w k xs news) (cells : Array Value) (t : TypeId)
    (hzl : zv.size = z.length) (hzk : z.length = k) (hz1 : ∀ (q : Nat) (v : Value), zv[q]? = some v → v.oneCell' = true) (hzr : ∀ (j : Nat) (u : AV) (v : Value), z[j]? = some u → zv[j]? = some v → VRel I' β' N' w' u v)
    (hcl : es.length + xs.length ≤ c) (hsz : cells.size = c * k) (hc : ∀ q, q < (es.length + xs.length) * k → cells[q]? = (old ++ news)[q]?) (hd : ∀ q, (es.length + xs.length) * k ≤ q → q < c * k → cells[q]? = zv[(q - (es.length + xs.length) * k) % zv.size]?) (hm : ∀ u v, VRel I β h.length w u v → VRel I' β' N' w' u v) :
    ORel I' β' N' w' (.arr k (es ++ xs ++ List.replicate (c - (es.length + xs.length)) z) true) (some (.cells cells t (0, 0))) := by
  obtain ⟨c2, t2, e2, q1, q2, _, q3⟩ := grown_row (I' := I') (β' := β') (N' := N') (w' := w') h1 h2 cells t (by rw [hsz]; exact Nat.mul_le_mul_right _ hcl) hc hm
  injection e2 with e2
  injection e2 with e2 e3
  subst e2 e3
  have hsplit : ∀ (i : Nat) (e : List AV), (es ++ xs ++ List.replicate (c - (es.length + xs.length)) z)[i]? = some e → (es ++ xs)[i]? = some e ∨ (es.length + xs.length ≤ i ∧ i < c ∧ e = z) := fun i e hi => by
    rcases Nat.lt_or_ge i (es ++ xs).length with hlt | hge
    · rw [List.getElem?_append_left hlt] at hi; exact .inl hi
    · rw [List.getElem?_append_right hge, List.getElem?_replicate] at hi
      rw [List.length_append] at hi hge
      split at hi
      · exact .inr ⟨hge, by omega, (Option.some.inj hi).symm⟩
      · cases hi
  refine ⟨cells, t, rfl, fun i e hi => ?_, by rw [hsz]; apply Nat.mul_le_mul_right; simp; omega, fun _ => by rw [hsz]; congr 1; simp; omega, fun i e j u hi hj => ?_⟩
  · rcases hsplit i e hi with h | ⟨_, _, rfl⟩
    · exact q1 i e h
    · exact hzk
  · rcases hsplit i e hi with h | ⟨g1, g2, rfl⟩
    · exact q3 i e j u h hj
    · have hjk : j < k := by rw [← hzk]; exact (List.getElem?_eq_some_iff.1 hj).1
      have hjz : j < zv.size := by rw [hzl, hzk]; exact hjk
      have e4 : i * k = (es.length + xs.length) * k + (i - (es.length + xs.length)) * k := by rw [← Nat.add_mul]; congr 1; omega
      have e5 : (i * k + j - (es.length + xs.length) * k) % zv.size = j := by
        rw [e4, hzl, hzk, show (es.length + xs.length) * k + (i - (es.length + xs.length)) * k + j - (es.length + xs.length) * k = j + (i - (es.length + xs.length)) * k by omega, Nat.add_mul_mod_self_right, Nat.mod_eq_of_lt hjk]
      have e6 := hd (i * k + j) (by rw [e4]; omega) (by have := mul_lt_of hjk g2; omega)
      rw [e5] at e6
      have e7 : zv[j]? = some zv[j] := Array.getElem?_eq_getElem hjz
      exact ⟨zv[j], e6.trans e7, hzr j u _ hj e7, hz1 _ _ e7⟩
def appendK (P : Program) (t t' : TypeId) (h : Heap) (s x : AV) (K : AV → Heap → Prop) : Prop :=
  ∃ e z b, telem P t = some e ∧ (telem P t').isSome = true ∧ zcells P e = some z ∧ tbytes P e = some b ∧ 0 < b ∧ elemsK h z.length x fun xs =>
    match s with
    | .nils => xs.length * b ≤ 140737488355328 ∧ (xs = [] → K .nils h) ∧ (xs ≠ [] → growK z.length b z h.length h xs K)
    | .e0 => xs.length * b ≤ 140737488355328 ∧ (xs = [] → K .e0 h) ∧ (xs ≠ [] → growK z.length b z h.length h xs K)
    | .osl id k i len cap ex => k = z.length ∧ (len + xs.length) * b ≤ 140737488355328 ∧ ∃ es ex', h[id]? = some (.arr k es ex') ∧ i + len ≤ es.length ∧
        (len + xs.length ≤ cap → i + len + xs.length ≤ es.length ∧ K (.osl id k i (len + xs.length) cap ex) (h.set id (.arr k (es.take (i + len) ++ xs ++ es.drop (i + len + xs.length)) ex'))) ∧
        (¬ len + xs.length ≤ cap → match ex with
          | true => growK k b z h.length h ((es.drop i).take len ++ xs) K
          | false => i = 0 ∧ K (.osl h.length k 0 (len + xs.length) (len + xs.length) false) (h.set id .dead ++ [.arr k (es.take len ++ xs) false]))
    | _ => False
theorem run_append {t t' ty e b n m cap : Nat} {z : List AV} {A B : Option Addr} {c : Nat} (he : telem P t = some e) (ht' : (telem P t').isSome = true) (hz : zcells P e = some z) (hb : tbytes P e = some b) (hb0 : 0 < b) (news old : List Value) (hnews : ∀ d, (Builtin.firstCells z.length m (.slice B m c)).run P { w with drawn := d } = .ok news.toArray { w with drawn := d })
    (hold : ¬ n + m ≤ cap → ∀ d, (Builtin.firstCells z.length n (.slice A n cap)).run P { w with drawn := d } = .ok old.toArray { w with drawn := d }) (hfit : (n + m) * b ≤ 140737488355328) :
    (n + m ≤ cap → (Builtin.append_ #[t, t'] ty #[.slice A n cap, .slice B m c]).run P w = (match (generalizing := false) A with | some a => ((storeCells (a.add (n * z.length)) news).run P w).andThen fun _ w' => .ok (.slice A (n + m) cap) w' | none => .ok (.slice A (n + m) cap) w)) ∧
    (¬ n + m ≤ cap → ∃ newCap w' cells, (Builtin.append_ #[t, t'] ty #[.slice A n cap, .slice B m c]).run P w = .ok (.slice (some ⟨w.heap.size, 0, none⟩) (n + m) newCap) w' ∧ w'.heap = w.heap.push (.cells cells e) ∧ w'.os = w.os ∧ w'.tape = w.tape ∧ w'.output = w.output ∧
      n + m ≤ newCap ∧ cells.size = (old.length + news.length) + (newCap - (n + m)) * z.length ∧ (∀ q, q < old.length + news.length → cells[q]? = (old ++ news)[q]?) ∧
      ∃ zv : Array Value, zv.size = z.length ∧ (∀ (j : Nat) (x : Value), zv[j]? = some x → x.oneCell' = true) ∧ (∀ (I : Nat → Prop) (w : World) (j : Nat) (u : AV) (v : Value), z[j]? = some u → zv[j]? = some v → IRel I w u v) ∧ ∀ q, old.length + news.length ≤ q → q < cells.size → cells[q]? = zv[(q - (old.length + news.length)) % zv.size]?) := by
  obtain ⟨zv, hz0, hzl, hzs, hz1, hzr⟩ := zcells_sound hz
  obtain ⟨inf, hinf, hbi⟩ : ∃ i, P.info? e = some i ∧ i.bytes = b := by
    unfold tbytes at hb
    cases hi : P.info? e with
    | none => simp [hi] at hb
    | some i => simp [hi] at hb; exact ⟨i, rfl, hb⟩
  obtain ⟨e', he'⟩ := Option.isSome_iff_exists.1 ht'
  have hzero : (match (TypeDesc.slice e') with | .int _ => true | _ => false) = false := rfl
  constructor
  · intro hle
    have hnews0 : (Builtin.firstCells z.length m (.slice B m c)).run P w = .ok news.toArray w := hnews w.drawn
    simp only [Builtin.append_, List.getElem?_toArray, List.getElem?_cons_zero, List.getElem?_cons_succ, Sem.run_bind, run_underlying (telem_und he), Result.andThen_ok, run_sizeOf' hzs, run_underlying (telem_und he'), Sem.run_pure, Bool.false_eq_true, if_false, Builtin.lenOf, Bool.not_false, if_true, hnews0, Sem.run_ite, if_pos hle]
    cases A with
    | none => rfl
    | some a =>
      simp only [Sem.run_bind, Sem.run_pure]
  · intro hgt
    have hold := hold hgt
    have c1 : ¬ (Builtin.nextslicecap (n + m) cap * inf.bytes > 2 ^ 48) := by
      have := growslice_fits (need := n + m) (old := cap) (bytes := b) (by omega) hfit
      have h2 : (2 : Nat) ^ 48 = 281474976710656 := by decide
      rw [hbi]
      omega
    have c0 : ¬ (((n + m : Nat) : Int) > IntKind.i64.max ∧ (false = true ∨ inf.bytes = 0)) := by
      intro ⟨x1, x2⟩
      rcases x2 with x2 | x2
      · cases x2
      · omega
    have hforced : (Question.appendCap (n + m) cap e).forced = false := rfl
    generalize hnc : (Question.appendCap (n + m) cap e).cut (w.tape w.drawn (.appendCap (n + m) cap e)) = newCap
    have hnl : n + m ≤ newCap := by rw [← hnc]; simp [Question.cut]
    have hold' : (Builtin.firstCells z.length n (.slice A n cap)).run P { w with drawn := w.drawn + 1 } = .ok old.toArray { w with drawn := w.drawn + 1 } := hold _
    have hnews' : (Builtin.firstCells z.length m (.slice B m c)).run P { w with drawn := w.drawn + 1 } = .ok news.toArray { w with drawn := w.drawn + 1 } := hnews _
    refine ⟨newCap, { w with heap := w.heap.push (.cells (old.toArray ++ news.toArray ++ Builtin.zeroCells zv.cells (newCap - (n + m))) e), drawn := w.drawn + 1 }, old.toArray ++ news.toArray ++ Builtin.zeroCells zv.cells (newCap - (n + m)), ?_, rfl, rfl, rfl, rfl, hnl, ?_, ?_, zv.cells, hzl, hz1, hzr, fun q g1 g2 => ?_⟩
    · simp only [Builtin.append_, List.getElem?_toArray, List.getElem?_cons_zero, List.getElem?_cons_succ, Sem.run_bind, run_underlying (telem_und he), Result.andThen_ok, run_sizeOf' hzs, run_underlying (telem_und he'), Sem.run_pure, Bool.false_eq_true, if_false, Builtin.lenOf, Bool.not_false, if_true, Sem.run_ite, if_neg hgt, typeInfo, run_program, hinf]
      rw [if_neg (by simpa using c0)]
      simp only [Result.andThen_ok, if_neg c1, run_choose, hforced, Bool.false_eq_true, if_false, hnc, run_askRoom, hold', hnews', hz0, newRow, Sem.run_bind, run_newObj, Sem.run_pure]
    · simp [Builtin.zeroCells, hzl]
    · intro q hq
      rw [Array.append_assoc, ← Array.append_assoc, Array.getElem?_append_left (by simpa using hq)]
      rw [← List.getElem?_toArray]
      simp
    · rw [Array.getElem?_append_right (by simpa using g1)]
      have g3 : q < old.length + news.length + (newCap - (n + m)) * zv.cells.size := by simpa [Builtin.zeroCells, Nat.add_assoc] using g2
      rw [zeroCells_at (by simp only [Array.size_append, List.size_toArray]; omega)]
      simp
theorem op_append {dst : Option Tmp} {ty t t' : TypeId} {pos : String} {after : Array Edge} {guard : Option (Nat × Bool)} {a : Fr} {h : Heap} {K : AV → Heap → Prop} {s x : Operand} (hk : evK a s fun s => evK a x fun x => appendK P t t' h s x K) :
    OpOk P ⟨dst, .call { callee := .builtin .append, args := #[s, x], argTypes := #[t, t'] }, ty, pos, after, guard⟩ a h K := by
  refine .value fun I β w n c r g => ?_
  obtain ⟨us, hs, hk⟩ := evK_sound g hk
  obtain ⟨ux, hx, hk⟩ := evK_sound g hk
  obtain ⟨e, z, b, he, ht', hz, hb, hb0, hk⟩ := hk
  obtain ⟨xs, news, B, cx, hk, ex, hn, hnews⟩ := elemsK_sound (P := P) r hx hk
  rw [ex] at hnews
  have hexec : ∀ v w', (Builtin.append_ #[t, t'] ty #[c.eval s, c.eval x]).run P w = .ok v w' → (execOp c.eval ⟨dst, .call { callee := .builtin .append, args := #[s, x], argTypes := #[t, t'] }, ty, pos, after, guard⟩).run P w = .ok (.value v) w' := by
    intro v w' hv
    simp [execOp, resolve, invoke, builtin, hv]
  cases us with
  | nils =>
    obtain ⟨hfit, hnil, hne⟩ := hk
    have es := hs.nils_inv
    rw [es, ex] at hexec
    obtain ⟨p1, p2⟩ := run_append (P := P) (w := w) (ty := ty) (n := 0) (m := xs.length) (cap := 0) (A := none) (B := B) (c := cx) he ht' hz hb hb0 news [] hnews (fun _ d => rfl) (by simpa using hfit)
    cases xs with
    | nil =>
      refine ⟨.slice none 0 0, _, I, β, h, w, hexec _ _ ?_, hnil rfl, .refl _ _ _ _, r, .imm _ _ .nils⟩
      have := p1 (by simp)
      simpa using this
    | cons x0 xs0 =>
      have hk := hne (by simp)
      obtain ⟨newCap, w', cells, hr, hw, ho, htp, hou, hnc, hcs, hcc, zv, zl, z1, zr, zd⟩ := p2 (by simp)
      simp only [List.length_nil, Nat.zero_add, List.nil_append] at hcs hcc hr hnc zd
      have hnl := hn.2.1
      unfold growK at hk
      by_cases hb8 : b = 8
      · rw [if_pos hb8] at hk
        have hcs2 : cells.size = newCap * z.length := by rw [hcs, hnl, ← Nat.add_mul]; congr 1; omega
        obtain ⟨hext, hrel⟩ := new_ok r (.arr z.length ((x0 :: xs0) ++ List.replicate (newCap - (x0 :: xs0).length) z) true) (.cells cells e) hw ho htp hou (fun I' β' N' w'' hm => by
          have := grown_exact (h := h) (I := I) (β := β) (w := w) (k := z.length) (es := []) (xs := x0 :: xs0) (old := []) (c := newCap) ⟨fun i e h => by simp at h, by simp, fun v h => by simp at h, fun i e j u h => by simp at h⟩ hn cells e zl rfl z1 (fun j u v h1 h2 => .imm _ _ (zr _ _ j u v h1 h2)) (by simpa using hnc) hcs2 (fun q hq => by rw [hcc q (by rw [hnl]; simpa using hq)]; rfl) (fun q g1 g2 => by
            have := zd q (by rw [hnl]; simpa using g1) (by rw [hcs2]; exact g2)
            rw [this, hnl]; simp) hm
          simpa using this)
        refine ⟨_, _, I, _, _, w', hexec _ _ hr, hk newCap hnc, hext, hrel, ?_⟩
        have := VRel.osl (I := I) (β := bind1 β h.length w.heap.size) (N := (h ++ [Ob.arr z.length ((x0 :: xs0) ++ List.replicate (newCap - (x0 :: xs0).length) z) true]).length) (w := w') h.length z.length 0 (x0 :: xs0).length newCap true newCap cells.size
          (by simp) hnc (Nat.le_refl _) (fun _ => rfl) (by simp [bsize, bind1_new, hw]) (by rw [hcs2, Nat.zero_add]; exact Nat.le_refl _)
        simpa [bind1_new] using this
      rw [if_neg hb8] at hk
      obtain ⟨hext, hrel⟩ := new_ok r (.arr z.length (x0 :: xs0) false) (.cells cells e) hw ho htp hou (fun I' β' N' w'' hm => by
        have := grown_row (h := h) (I := I) (β := β) (w := w) (k := z.length) (es := []) (xs := x0 :: xs0) (old := []) ⟨fun i e h => by simp at h, by simp, fun v h => by simp at h, fun i e j u h => by simp at h⟩ hn cells e (by rw [hcs, hnl]; simp) (fun q hq => by rw [hcc q (by rw [hnl]; simpa using hq)]; rfl) hm
        simpa using this)
      refine ⟨_, _, I, _, _, w', hexec _ _ hr, hk, hext, hrel, ?_⟩
      have := VRel.osl (I := I) (β := bind1 β h.length w.heap.size) (N := (h ++ [Ob.arr z.length (x0 :: xs0) false]).length) (w := w') h.length z.length 0 (x0 :: xs0).length (x0 :: xs0).length false newCap cells.size
        (by simp) (Nat.le_refl _) hnc (fun hx => by cases hx) (by simp [bsize, bind1_new, hw]) (by rw [hcs, hnl, Nat.zero_add, ← Nat.add_mul]; exact Nat.mul_le_mul_right _ (by omega))
      simpa [bind1_new] using this
  | e0 =>
    obtain ⟨hfit, hnil, hne⟩ := hk
    obtain ⟨A0, es⟩ := hs.e0_inv
    rw [es, ex] at hexec
    obtain ⟨p1, p2⟩ := run_append (P := P) (w := w) (ty := ty) (n := 0) (m := xs.length) (cap := 0) (A := A0) (B := B) (c := cx) he ht' hz hb hb0 news [] hnews (fun _ d => by cases A0 with
      | none => rfl
      | some a => simp [Builtin.firstCells, loadCells, loadCellsFrom]) (by simpa using hfit)
    cases xs with
    | nil =>
      refine ⟨.slice A0 0 0, _, I, β, h, w, hexec _ _ ?_, hnil rfl, .refl _ _ _ _, r, .imm _ _ (.e0 A0)⟩
      have := p1 (by simp)
      have hn0 : news = [] := List.length_eq_zero_iff.1 (by rw [hn.2.1]; simp)
      subst hn0
      cases A0 <;> simpa [storeCells] using this
    | cons x0 xs0 =>
      have hk := hne (by simp)
      obtain ⟨newCap, w', cells, hr, hw, ho, htp, hou, hnc, hcs, hcc, zv, zl, z1, zr, zd⟩ := p2 (by simp)
      simp only [List.length_nil, Nat.zero_add, List.nil_append] at hcs hcc hr hnc zd
      have hnl := hn.2.1
      unfold growK at hk
      by_cases hb8 : b = 8
      · rw [if_pos hb8] at hk
        have hcs2 : cells.size = newCap * z.length := by rw [hcs, hnl, ← Nat.add_mul]; congr 1; omega
        obtain ⟨hext, hrel⟩ := new_ok r (.arr z.length ((x0 :: xs0) ++ List.replicate (newCap - (x0 :: xs0).length) z) true) (.cells cells e) hw ho htp hou (fun I' β' N' w'' hm => by
          have := grown_exact (h := h) (I := I) (β := β) (w := w) (k := z.length) (es := []) (xs := x0 :: xs0) (old := []) (c := newCap) ⟨fun i e h => by simp at h, by simp, fun v h => by simp at h, fun i e j u h => by simp at h⟩ hn cells e zl rfl z1 (fun j u v h1 h2 => .imm _ _ (zr _ _ j u v h1 h2)) (by simpa using hnc) hcs2 (fun q hq => by rw [hcc q (by rw [hnl]; simpa using hq)]; rfl) (fun q g1 g2 => by
            have := zd q (by rw [hnl]; simpa using g1) (by rw [hcs2]; exact g2)
            rw [this, hnl]; simp) hm
          simpa using this)
        refine ⟨_, _, I, _, _, w', hexec _ _ hr, hk newCap hnc, hext, hrel, ?_⟩
        have := VRel.osl (I := I) (β := bind1 β h.length w.heap.size) (N := (h ++ [Ob.arr z.length ((x0 :: xs0) ++ List.replicate (newCap - (x0 :: xs0).length) z) true]).length) (w := w') h.length z.length 0 (x0 :: xs0).length newCap true newCap cells.size
          (by simp) hnc (Nat.le_refl _) (fun _ => rfl) (by simp [bsize, bind1_new, hw]) (by rw [hcs2, Nat.zero_add]; exact Nat.le_refl _)
        simpa [bind1_new] using this
      rw [if_neg hb8] at hk
      obtain ⟨hext, hrel⟩ := new_ok r (.arr z.length (x0 :: xs0) false) (.cells cells e) hw ho htp hou (fun I' β' N' w'' hm => by
        have := grown_row (h := h) (I := I) (β := β) (w := w) (k := z.length) (es := []) (xs := x0 :: xs0) (old := []) ⟨fun i e h => by simp at h, by simp, fun v h => by simp at h, fun i e j u h => by simp at h⟩ hn cells e (by rw [hcs, hnl]; simp) (fun q hq => by rw [hcc q (by rw [hnl]; simpa using hq)]; rfl) hm
        simpa using this)
      refine ⟨_, _, I, _, _, w', hexec _ _ hr, hk, hext, hrel, ?_⟩
      have := VRel.osl (I := I) (β := bind1 β h.length w.heap.size) (N := (h ++ [Ob.arr z.length (x0 :: xs0) false]).length) (w := w') h.length z.length 0 (x0 :: xs0).length (x0 :: xs0).length false newCap cells.size
        (by simp) (Nat.le_refl _) hnc (fun hx => by cases hx) (by simp [bsize, bind1_new, hw]) (by rw [hcs, hnl, Nat.zero_add, ← Nat.add_mul]; exact Nat.mul_le_mul_right _ (by omega))
      simpa [bind1_new] using this
  | osl id k i len cap exx =>
    obtain ⟨rfl, hfit, es, ex', hob, hle, hin, hout⟩ := hk
    obtain ⟨cp, nn, ev, hid, hlc, hcc, hex, hbs, hfitb⟩ := hs.osl_inv
    obtain ⟨q1, q2, cur, tt, hbk, hkk, hsz, hexx, hcell⟩ := r.obj id _ hob (by simp)
    have hnn : nn = cur.size := by simp [bsize, hbk] at hbs; exact hbs.symm
    subst hnn
    -- what lies in the row so far
    have hel : ((es.drop i).take len).length = len := by simp; omega
    have hget : ∀ (j : Nat) (e : List AV), ((es.drop i).take len)[j]? = some e → es[i + j]? = some e := by
      intro j e hj
      rw [List.getElem?_take] at hj
      split at hj
      · rwa [List.getElem?_drop] at hj
      · simp at hj
    have hold := nrel_mk (I := I) (β := β) (N := h.length) (w := w) (k := z.length) (es := (es.drop i).take len) (fun j e hj => hkk _ _ (hget j e hj)) (fun q => (cur[i * z.length + q]?).getD undef) (fun j e q u hj hq => by
      obtain ⟨v, e1, e2, e3⟩ := hcell _ e q u (hget j e hj) hq
      rw [Nat.add_mul, Nat.add_assoc] at e1
      rw [e1]
      exact ⟨e2, e3⟩)
    have holdrun : ∀ d, (Builtin.firstCells z.length len (.slice (some ⟨β id, i * z.length, none⟩) len cp)).run P { w with drawn := d } = .ok ((List.range (((es.drop i).take len).length * z.length)).map fun q => (cur[i * z.length + q]?).getD undef).toArray { w with drawn := d } := by
      intro d
      have := run_loadCells_list (P := P) (w := { w with drawn := d }) ⟨β id, i * z.length, none⟩ ((List.range (((es.drop i).take len).length * z.length)).map fun q => (cur[i * z.length + q]?).getD undef) (fun j v hj => ?_)
      · simp only [List.length_map, List.length_range, hel] at this
        simpa [Builtin.firstCells, hel] using this
      · obtain ⟨hlt, rfl⟩ := List.getElem?_eq_some_iff.1 hj
        simp only [List.length_map, List.length_range, hel] at hlt
        have hlt2 : i * z.length + j < cur.size := by
          have : (i + len) * z.length ≤ es.length * z.length := Nat.mul_le_mul_right _ hle
          rw [Nat.add_mul] at this
          omega
        have hw : ({ w with drawn := d } : World).cell? ⟨β id, i * z.length + j, none⟩ = w.cell? ⟨β id, i * z.length + j, none⟩ := rfl
        simp [hw, Addr.add_lit, cell_of_block hbk, hlt2]
    rw [ev, ex] at hexec
    obtain ⟨p1, p2⟩ := run_append (P := P) (w := w) (ty := ty) (n := len) (m := xs.length) (cap := cp) (A := some ⟨β id, i * z.length, none⟩) (B := B) (c := cx) he ht' hz hb hb0 news _ hnews (fun _ => holdrun) hfit
    have hnl := hn.2.1
    have hol : ((List.range (((es.drop i).take len).length * z.length)).map fun q => (cur[i * z.length + q]?).getD undef).length = len * z.length := by simp [hel]
    -- the new block
    have fresh : ∀ (h1 : Heap) (r1 : Rel I β h1 w) (hl1 : h1.length = h.length), ¬ len + xs.length ≤ cp → ∃ cv w', (Builtin.append_ #[t, t'] ty #[.slice (some ⟨β id, i * z.length, none⟩) len cp, .slice B xs.length cx]).run P w = .ok cv w' ∧
        Ext I β h1 w I (bind1 β h.length w.heap.size) (h1 ++ [.arr z.length ((es.drop i).take len ++ xs) false]) w' ∧ Rel I (bind1 β h.length w.heap.size) (h1 ++ [.arr z.length ((es.drop i).take len ++ xs) false]) w' ∧
        VRel I (bind1 β h.length w.heap.size) (h1 ++ [Ob.arr z.length ((es.drop i).take len ++ xs) false]).length w' (.osl h.length z.length 0 (len + xs.length) (len + xs.length) false) cv := by
      intro h1 r1 hl1 hgt
      obtain ⟨newCap, w', cells, hr, hw, ho, htp, hou, hnc, hcs, hcc, _⟩ := p2 hgt
      rw [hol, hnl] at hcs hcc
      have hsum : len * z.length + xs.length * z.length = (len + xs.length) * z.length := (Nat.add_mul _ _ _).symm
      have := new_ok r1 (.arr z.length ((es.drop i).take len ++ xs) false) (.cells cells e) hw ho htp hou (fun I' β' N' w'' hm => by
        rw [hl1] at hm
        exact grown_row (h := h) (I := I) (β := β) (w := w) hold hn cells e (by rw [hel, hcs, hsum]; omega) (fun q hq => hcc q (by rw [hsum]; rwa [hel] at hq)) hm)
      rw [hl1] at this
      refine ⟨_, w', hr, this.1, this.2, ?_⟩
      have := VRel.osl (I := I) (β := bind1 β h.length w.heap.size) (N := (h1 ++ [Ob.arr z.length ((es.drop i).take len ++ xs) false]).length) (w := w') h.length z.length 0 (len + xs.length) (len + xs.length) false newCap cells.size
        (by simp [hl1]) (Nat.le_refl _) hnc (fun hx => by cases hx) (by simp [bsize, bind1_new, hw]) (by rw [hcs, hsum, Nat.zero_add, ← Nat.add_mul]; exact Nat.mul_le_mul_right _ (by omega))
      simpa [bind1_new] using this
    -- the new block, all of it told
    have fresh8 : ¬ len + xs.length ≤ cp → ∃ cv w' newCap, len + xs.length ≤ newCap ∧ (Builtin.append_ #[t, t'] ty #[.slice (some ⟨β id, i * z.length, none⟩) len cp, .slice B xs.length cx]).run P w = .ok cv w' ∧
        Ext I β h w I (bind1 β h.length w.heap.size) (h ++ [.arr z.length ((es.drop i).take len ++ xs ++ List.replicate (newCap - (len + xs.length)) z) true]) w' ∧ Rel I (bind1 β h.length w.heap.size) (h ++ [.arr z.length ((es.drop i).take len ++ xs ++ List.replicate (newCap - (len + xs.length)) z) true]) w' ∧
        VRel I (bind1 β h.length w.heap.size) (h ++ [Ob.arr z.length ((es.drop i).take len ++ xs ++ List.replicate (newCap - (len + xs.length)) z) true]).length w' (.osl h.length z.length 0 (len + xs.length) newCap true) cv := by
      intro hgt
      obtain ⟨newCap, w', cells, hr, hw, ho, htp, hou, hnc, hcs, hcc, zv, zl, z1, zr, zd⟩ := p2 hgt
      rw [hol, hnl] at hcs hcc zd
      have hsum : len * z.length + xs.length * z.length = (len + xs.length) * z.length := (Nat.add_mul _ _ _).symm
      rw [hsum] at hcs hcc zd
      have hcs2 : cells.size = newCap * z.length := by rw [hcs, ← Nat.add_mul]; congr 1; omega
      have := new_ok r (.arr z.length ((es.drop i).take len ++ xs ++ List.replicate (newCap - (len + xs.length)) z) true) (.cells cells e) hw ho htp hou (fun I' β' N' w'' hm => by
        have := grown_exact (h := h) (I := I) (β := β) (w := w) (c := newCap) hold hn cells e zl rfl z1 (fun j u v h1 h2 => .imm _ _ (zr _ _ j u v h1 h2)) (by rw [hel]; exact hnc) hcs2 (fun q hq => hcc q (by rwa [hel] at hq)) (fun q g1 g2 => by
          rw [hel] at g1 ⊢
          exact zd q g1 (by rw [hcs2]; exact g2)) hm
        rwa [hel] at this)
      refine ⟨_, w', newCap, hnc, hr, this.1, this.2, ?_⟩
      have := VRel.osl (I := I) (β := bind1 β h.length w.heap.size) (N := (h ++ [Ob.arr z.length ((es.drop i).take len ++ xs ++ List.replicate (newCap - (len + xs.length)) z) true]).length) (w := w') h.length z.length 0 (len + xs.length) newCap true newCap cells.size
        (by simp) hnc (Nat.le_refl _) (fun _ => rfl) (by simp [bsize, bind1_new, hw]) (by rw [hcs2, Nat.zero_add]; exact Nat.le_refl _)
      simpa [bind1_new] using this
    -- in place
    have inplace : ∀ (es' : List (List AV)), es'.length = es.length → (∀ (j : Nat) (e : List AV), es'[j]? = some e → (i + len ≤ j ∧ j < i + len + xs.length ∧ xs[j - (i + len)]? = some e) ∨ (¬ (i + len ≤ j ∧ j < i + len + xs.length) ∧ es[j]? = some e)) →
        len + xs.length ≤ cp → ∃ w', (Builtin.append_ #[t, t'] ty #[.slice (some ⟨β id, i * z.length, none⟩) len cp, .slice B xs.length cx]).run P w = .ok (.slice (some ⟨β id, i * z.length, none⟩) (len + xs.length) cp) w' ∧
        Ext I β h w I β (h.set id (.arr z.length es' ex')) w' ∧ Rel I β (h.set id (.arr z.length es' ex')) w' := by
      intro es' hl' hch hfits
      have hpos : i * z.length + len * z.length = (i + len) * z.length := (Nat.add_mul _ _ _).symm
      have key := row_ok (P := P) (es' := es') r hob ((i + len) * z.length) news hn.2.2.1 cur.size hbs (by
        rw [hnl, ← Nat.add_mul]
        exact Nat.le_trans (Nat.mul_le_mul_right _ (by omega)) hfitb) (fun j e hj => ?_) hl' (fun j e q u hj hq => ?_)
      · obtain ⟨w', hr, he', hr'⟩ := key
        refine ⟨w', ?_, he', hr'⟩
        have := p1 hfits
        rw [this]
        simp only [Addr.add_lit, hpos, hr, Result.andThen_ok]
      · rcases hch j e hj with ⟨c1, c2, c3⟩ | ⟨c1, c2⟩
        · exact hn.1 _ e c3
        · exact hkk j e c2
      · have hqk : q < z.length := by
          rcases hch j e hj with ⟨c1, c2, c3⟩ | ⟨c1, c2⟩
          · rw [← hn.1 _ e c3]; exact (List.getElem?_eq_some_iff.1 hq).1
          · rw [← hkk j e c2]; exact (List.getElem?_eq_some_iff.1 hq).1
        rcases hch j e hj with ⟨c1, c2, c3⟩ | ⟨c1, c2⟩
        · left
          have e1 : j * z.length = (i + len) * z.length + (j - (i + len)) * z.length := by rw [← Nat.add_mul]; congr 1; omega
          have hlt : (j - (i + len)) * z.length + q < xs.length * z.length := mul_lt_of hqk (by omega)
          refine ⟨by omega, by rw [hnl]; omega, fun v hv => ?_⟩
          rw [show j * z.length + q - (i + len) * z.length = (j - (i + len)) * z.length + q by omega] at hv
          obtain ⟨v', e2, e3⟩ := hn.2.2.2 _ e q u c3 hq
          rw [hv] at e2
          injection e2 with e2
          rw [e2]
          exact e3
        · right
          refine ⟨?_, e, c2, hq⟩
          intro ⟨d1, d2⟩
          apply c1
          have s1 : i + len ≤ j := by
            rcases Nat.lt_or_ge j (i + len) with hlt | hge
            · have := mul_lt_of hqk hlt; omega
            · exact hge
          refine ⟨s1, ?_⟩
          rcases Nat.lt_or_ge j (i + len + xs.length) with hlt | hge
          · exact hlt
          · have h1 := Nat.mul_le_mul_right z.length hge
            rw [Nat.add_mul] at h1
            rw [hnl] at d2
            omega
    by_cases hcap : len + xs.length ≤ cap
    · obtain ⟨hbd, hk⟩ := hin hcap
      obtain ⟨w', hr, he', hr'⟩ := inplace (es.take (i + len) ++ xs ++ es.drop (i + len + xs.length)) (by simp; omega) (fun j e hj => by
        by_cases c1 : j < i + len
        · right
          rw [List.append_assoc, List.getElem?_append_left (by simp; omega), List.getElem?_take, if_pos c1] at hj
          exact ⟨by omega, hj⟩
        · have hl : (es.take (i + len)).length = i + len := by simp; omega
          by_cases c2 : j < i + len + xs.length
          · left
            rw [List.append_assoc, List.getElem?_append_right (by omega), List.getElem?_append_left (by omega), hl] at hj
            exact ⟨by omega, c2, hj⟩
          · right
            rw [List.append_assoc, List.getElem?_append_right (by omega), List.getElem?_append_right (by omega), List.getElem?_drop, hl, show i + len + xs.length + (j - (i + len) - xs.length) = j by omega] at hj
            exact ⟨by omega, hj⟩) (by omega)
      refine ⟨_, _, I, β, _, w', hexec _ _ hr, hk, he', hr', ?_⟩
      have hl2 : (h.set id (.arr z.length (es.take (i + len) ++ xs ++ es.drop (i + len + xs.length)) ex')).length = h.length := by simp
      rw [hl2]
      exact .osl id z.length i (len + xs.length) cap exx cp cur.size hid hcap hcc hex (he'.bs _ _ hbs) hfitb
    · have hk := hout hcap
      cases exx with
      | true =>
        have : cp = cap := hex rfl
        have hrl : ((es.drop i).take len ++ xs).length = len + xs.length := by rw [List.length_append, hel]
        unfold growK at hk
        rw [hrl] at hk
        by_cases hb8 : b = 8
        · rw [if_pos hb8] at hk
          obtain ⟨cv, w', newCap, hnc, hr, he', hr', hv⟩ := fresh8 (by omega)
          exact ⟨cv, _, I, _, _, w', hexec _ _ hr, hk newCap hnc, he', hr', hv⟩
        rw [if_neg hb8] at hk
        obtain ⟨cv, w', hr, he', hr', hv⟩ := fresh h r rfl (by omega)
        exact ⟨cv, _, I, _, _, w', hexec _ _ hr, hk, he', hr', hv⟩
      | false =>
        obtain ⟨rfl, hkz⟩ := hk
        simp only [List.drop_zero] at fresh hold hget hel
        by_cases hfits : len + xs.length ≤ cp
        · -- the machine writes behind the end: a new name for the block
          have hz2 : (0 + len) * z.length = len * z.length := by simp
          have hroom : (len + xs.length) * z.length ≤ cur.size := Nat.le_trans (Nat.mul_le_mul_right _ (by omega)) hfitb
          obtain ⟨hE1, hR1⟩ := rename_ok r id _ (.arr z.length (es.take len) false) hob (by simp) (fun I' β' N' w' hm => by
            rw [hbk]
            refine ⟨cur, tt, rfl, fun j e hj => hkk j e ?_, ?_, (fun hx => by cases hx), fun j e q u hj hq => ?_⟩
            · rw [List.getElem?_take] at hj
              split at hj
              · exact hj
              · simp at hj
            · refine Nat.le_trans (Nat.mul_le_mul_right _ ?_) hsz
              simp; omega
            · rw [List.getElem?_take] at hj
              split at hj
              · obtain ⟨v, e1, e2, e3⟩ := hcell j e q u hj hq
                exact ⟨v, e1, hm _ _ e2, e3⟩
              · simp at hj)
          -- write, as the machine does
          have hst := run_storeCells_at (P := P) (β id) (len * z.length) tt news 0 cur w hbk (by rw [hnl, Nat.add_zero, ← Nat.add_mul]; exact hroom) hn.2.2.1
          simp only [Nat.add_zero] at hst
          have hlook : ∀ q, (cur.toList.take (len * z.length) ++ news ++ cur.toList.drop (len * z.length + news.length)).toArray[q]? = if len * z.length ≤ q ∧ q < len * z.length + news.length then news[q - len * z.length]? else cur[q]? := by
            intro q
            have hl0 : (List.take (len * z.length) cur.toList).length = len * z.length := by simp; rw [Nat.add_mul] at hroom; omega
            rw [List.getElem?_toArray]
            by_cases c1 : q < len * z.length
            · rw [if_neg (by omega), List.append_assoc, List.getElem?_append_left (by omega), List.getElem?_take, if_pos c1]
              simp
            · by_cases c2 : q < len * z.length + news.length
              · rw [if_pos (by omega), List.append_assoc, List.getElem?_append_right (by omega), List.getElem?_append_left (by omega), hl0]
              · rw [if_neg (by omega), List.append_assoc, List.getElem?_append_right (by omega), List.getElem?_append_right (by omega), List.getElem?_drop, hl0, show len * z.length + news.length + (q - len * z.length - news.length) = q by omega]
                simp
          have hsz2 : (cur.toList.take (len * z.length) ++ news ++ cur.toList.drop (len * z.length + news.length)).toArray.size = cur.size := by
            simp; rw [hnl]; rw [Nat.add_mul] at hroom; omega
          have hnewid : (h.set id .dead ++ [Ob.arr z.length (es.take len) false])[h.length]? = some (.arr z.length (es.take len) false) := by simp
          have hβn : bind1 β h.length (β id) h.length = β id := bind1_new _ _ _
          have hset := set_ok (w' := w.setRow (β id) (cur.toList.take (len * z.length) ++ news ++ cur.toList.drop (len * z.length + news.length)).toArray) hR1 h.length _ (.arr z.length (es.take len ++ xs) false) (.cells (cur.toList.take (len * z.length) ++ news ++ cur.toList.drop (len * z.length + news.length)).toArray tt (0, 0)) hnewid (by simp) (by simp)
            (fun b hb' => setRow_other _ _ _ _ (by rw [hβn] at hb'; exact hb')) (by rw [hβn]; exact setRow_heap _ _ _ _ _ _ hbk) (by simp) rfl rfl rfl
            (fun m hm => by rw [hβn] at hm ⊢; simp only [bsize, hbk, Option.some.injEq] at hm; simp only [bsize, setRow_heap _ _ _ _ _ _ hbk, hsz2, hm])
            (fun w'' hm => by
              have hm2 : ∀ u v, VRel I β h.length w u v → VRel I (bind1 β h.length (β id)) (h.set id .dead ++ [Ob.arr z.length (es.take len) false]).length w'' u v := fun u v hv => hm u v (hv.ext r hE1)
              refine grown_row (h := h) (I := I) (β := β) (w := w) hold hn _ tt (by rw [hel, hsz2]; exact hroom) (fun q hq => ?_) hm2
              rw [hel] at hq
              rw [hlook]
              by_cases c1 : q < len * z.length
              · rw [if_neg (by omega), List.getElem?_append_left (by rw [hold.2.1, hel]; exact c1)]
                have hqc : q < cur.size := by rw [Nat.add_mul] at hroom; omega
                have hq2 : q < (List.take len es).length * z.length := by rw [hel]; exact c1
                simp only [Nat.zero_mul, Nat.zero_add, List.getElem?_map, List.getElem?_range hq2, Option.map_some, Array.getElem?_eq_getElem hqc, Option.getD_some]
              · rw [if_pos ⟨by omega, by rw [hnl, ← Nat.add_mul]; exact hq⟩, List.getElem?_append_right (by rw [hold.2.1, hel]; omega), hold.2.1, hel])
          have hheap : (h.set id .dead ++ [Ob.arr z.length (es.take len) false]).set h.length (.arr z.length (es.take len ++ xs) false) = h.set id .dead ++ [Ob.arr z.length (es.take len ++ xs) false] := by
            rw [List.set_append_right _ _ (by simp)]
            simp
          rw [hheap] at hset
          refine ⟨.slice (some ⟨β id, 0 * z.length, none⟩) (len + xs.length) cp, _, I, _, _, w.setRow (β id) (cur.toList.take (len * z.length) ++ news ++ cur.toList.drop (len * z.length + news.length)).toArray, hexec _ _ ?_, hkz, hE1.trans hset.1, hset.2, ?_⟩
          · have := p1 hfits
            rw [this]
            simp only [Addr.add_lit, Nat.zero_mul, Nat.zero_add, hst, Result.andThen_ok]
          · have := VRel.osl (I := I) (β := bind1 β h.length (β id)) (N := (h.set id .dead ++ [Ob.arr z.length (es.take len ++ xs) false]).length) (w := w.setRow (β id) (cur.toList.take (len * z.length) ++ news ++ cur.toList.drop (len * z.length + news.length)).toArray) h.length z.length 0 (len + xs.length) (len + xs.length) false cp cur.size
              (by simp) (Nat.le_refl _) hfits (fun hx => by cases hx) (by rw [bind1_new]; simp only [bsize, setRow_heap _ _ _ _ _ _ hbk, hsz2]) hfitb
            simpa [bind1_new] using this
        · obtain ⟨hE1, hR1⟩ := kill_ok r id
          obtain ⟨cv, w', hr, he', hr', hv⟩ := fresh _ hR1 (by simp) hfits
          exact ⟨cv, _, I, _, _, w', hexec _ _ hr, hkz, hE1.trans he', hr', hv⟩
  | _ => exact hk.elim
end
end Go.AL
end
section
namespace Go.AL
set_option linter.unusedVariables false
set_option linter.unusedSimpArgs false
def clearK (P : Program) (t : TypeId) (h : Heap) (x : AV) (K : Heap → Prop) : Prop :=
  match x with
  | .nils => (telem P t).isSome = true ∧ K h
  | .osl id k i len _ _ => ∃ e z, telem P t = some e ∧ zcells P e = some z ∧ k = z.length ∧ ∃ es ex', h[id]? = some (.arr k es ex') ∧ i + len ≤ es.length ∧ K (h.set id (.arr k (es.take i ++ List.replicate len z ++ es.drop (i + len)) ex'))
  | _ => False
section
variable {P : Program} {a : Fr} {h : Heap}
theorem zeroCells_get {z : Array Value} {n q : Nat} (hq : q < n * z.size) : (Builtin.zeroCells z n).toList[q]? = z[q % z.size]? := by
  have hpos : 0 < z.size := by
    rcases Nat.eq_zero_or_pos z.size with h | h
    · rw [h] at hq; simp at hq
    · exact h
  have : q % z.size < z.size := Nat.mod_lt _ hpos
  simp [Builtin.zeroCells, hq, this]
theorem run_clear {t : TypeId} {ty : TypeId} {I : Nat → Prop} {β : Nat → Nat} {w : World} {x : AV} {v : Value} {K : Heap → Prop} (r : Rel I β h w) (hv : VRel I β h.length w x v) (hk : clearK P t h x K) :
    ∃ w' h', (Builtin.clear_ #[t] ty #[v]).run P w = .ok (.tuple #[]) w' ∧ K h' ∧ Ext I β h w I β h' w' ∧ Rel I β h' w' := by
  cases x with
  | nils =>
    obtain ⟨e, he⟩ := Option.isSome_iff_exists.1 hk.1
    rw [hv.nils_inv]
    exact ⟨w, h, by simp [Builtin.clear_, run_underlying (telem_und he)], hk.2, .refl _ _ _ _, r⟩
  | osl id k i len cap ex =>
    obtain ⟨e, z, he, hz, rfl, es, ex', hob, hle, hk⟩ := hk
    obtain ⟨cp, n, rfl, hid, h1, h2, h3, h4, h5⟩ := hv.osl_inv
    obtain ⟨zv, hz0, hzl, hzs, hz1, hzr⟩ := zcells_sound hz
    obtain ⟨q1, q2, cur, tt, hbk, hkk, hsz, hexx, hcell⟩ := r.obj id _ hob (by simp)
    by_cases hl0 : len = 0
    · subst hl0
      refine ⟨w, h, by simp [Builtin.clear_, run_underlying (telem_und he)], ?_, .refl _ _ _ _, r⟩
      have e1 : h.set id (.arr z.length (es.take i ++ List.replicate 0 z ++ es.drop (i + 0)) ex') = h := by
        apply List.ext_getElem?
        intro j
        by_cases e0 : id = j
        · subst e0
          rw [List.getElem?_set_self hid, hob]
          simp
        · rw [List.getElem?_set_ne e0]
      rw [e1] at hk
      exact hk
    · have hlen : (Builtin.zeroCells zv.cells len).toList.length = len * z.length := by simp [Builtin.zeroCells, hzl]
      have hzone : ∀ v ∈ (Builtin.zeroCells zv.cells len).toList, v.oneCell' = true := fun v hv => by
        obtain ⟨q, hq⟩ := List.getElem?_of_mem hv
        have hlt := (List.getElem?_eq_some_iff.1 hq).1
        rw [hlen, ← hzl] at hlt
        rw [zeroCells_get hlt] at hq
        exact hz1 _ v hq
      have hrow : ∀ (i' : Nat) (e' : List AV), (es.take i ++ List.replicate len z ++ es.drop (i + len))[i']? = some e' → (i ≤ i' ∧ i' < i + len ∧ e' = z) ∨ (¬ (i ≤ i' ∧ i' < i + len) ∧ es[i']? = some e') := by
        intro i' e' hi
        by_cases c1 : i' < i
        · rw [List.append_assoc, List.getElem?_append_left (by simp; omega), List.getElem?_take_of_lt c1] at hi
          exact .inr ⟨by omega, hi⟩
        · by_cases c2 : i' < i + len
          · rw [List.append_assoc, List.getElem?_append_right (by simp; omega), List.getElem?_append_left (by simp; omega), List.getElem?_replicate] at hi
            split at hi
            · exact .inl ⟨by omega, by omega, (Option.some.inj hi).symm⟩
            · cases hi
          · rw [List.append_assoc, List.getElem?_append_right (by simp; omega), List.getElem?_append_right (by simp; omega), List.getElem?_drop] at hi
            refine .inr ⟨by omega, ?_⟩
            rw [← hi]
            congr 1
            simp
            omega
      have hik : (i + len) * z.length ≤ cur.size := Nat.le_trans (Nat.mul_le_mul_right _ hle) hsz
      rw [Nat.add_mul] at hik
      obtain ⟨w', hrun, hext, hrel⟩ := row_ok (P := P) (es' := es.take i ++ List.replicate len z ++ es.drop (i + len)) r hob (i * z.length) (Builtin.zeroCells zv.cells len).toList hzone cur.size (by simp [bsize, hbk]) (by rw [hlen]; exact hik)
        (fun i' e' hi => by
          rcases hrow i' e' hi with ⟨_, _, rfl⟩ | ⟨_, hi⟩
          · rfl
          · exact hkk _ _ hi) (by simp; omega) (fun i' e' j u hi hj => by
          rw [hlen]
          rcases hrow i' e' hi with ⟨c1, c2, rfl⟩ | ⟨c, hi⟩
          · have hjk := (List.getElem?_eq_some_iff.1 hj).1
            have m1 : i * e'.length ≤ i' * e'.length := Nat.mul_le_mul_right _ c1
            have m2 : i' * e'.length + e'.length ≤ i * e'.length + len * e'.length := by
              have := Nat.mul_le_mul_right e'.length (show i' + 1 ≤ i + len by omega)
              rw [Nat.add_mul, Nat.add_mul] at this
              omega
            refine .inl ⟨by omega, by omega, fun v hv => ?_⟩
            rw [zeroCells_get (by rw [hzl]; omega)] at hv
            have e3 : (i' * e'.length + j - i * e'.length) % zv.cells.size = j := by
              rw [hzl, show i' * e'.length + j - i * e'.length = j + (i' - i) * e'.length by rw [Nat.sub_mul]; omega, Nat.add_mul_mod_self_right, Nat.mod_eq_of_lt hjk]
            rw [e3] at hv
            exact .imm _ _ (hzr _ _ j u v hj hv)
          · have hjk : j < z.length := by rw [← hkk _ _ hi]; exact (List.getElem?_eq_some_iff.1 hj).1
            refine .inr ⟨?_, e', hi, hj⟩
            rintro ⟨c1, c2⟩
            apply c
            constructor
            · rcases Nat.lt_or_ge i' i with h | h
              · have := mul_lt_of hjk h; omega
              · exact h
            · rcases Nat.lt_or_ge i' (i + len) with h | h
              · exact h
              · have := Nat.mul_le_mul_right z.length h
                rw [Nat.add_mul] at this
                omega)
      refine ⟨w', _, ?_, hk, hext, hrel⟩
      cases len with
      | zero => exact absurd rfl hl0
      | succ len => simp [Builtin.clear_, run_underlying (telem_und he), hz0, hrun]
  | _ => exact hk.elim
theorem op_clear {dst : Option Tmp} {ty t : TypeId} {pos : String} {after : Array Edge} {guard : Option (Nat × Bool)} {K : AV → Heap → Prop} {x : Operand} (hk : evK a x fun x => clearK P t h x fun h' => K .undef h') :
    OpOk P ⟨dst, .call { callee := .builtin .clear, args := #[x], argTypes := #[t] }, ty, pos, after, guard⟩ a h K := by
  refine .value fun I β w n c r g => ?_
  obtain ⟨u, hu, hk⟩ := evK_sound g hk
  obtain ⟨w', h', hrun, hk, he, hr⟩ := run_clear (P := P) (ty := ty) r hu hk
  refine ⟨_, _, I, β, h', w', ?_, hk, he, hr, .imm _ _ (.undef _ _)⟩
  simp [execOp, resolve, invoke, builtin, hrun, undef]
end
end Go.AL
end
section
namespace Go.AL
set_option linter.unusedVariables false
set_option linter.unusedSimpArgs false
set_option linter.unnecessarySimpa false
def tptr (P : Program) (t : TypeId) : Bool := match P.underlying t with | some (.pointer _) => true | _ => false
def tfun (P : Program) (t : TypeId) : Bool := match P.underlying t with | some (.func ..) => true | _ => false
def tmap (P : Program) (t : TypeId) : Bool := match P.underlying t with | some (.map ..) => true | _ => false
def binAll (P : Program) (op : BinOp) (t : TypeId) (u v : AV) (K : AV → Prop) : Prop :=
  match v with
  | .int k m' => (match u with | .int k0 m => iK op k0 m k m' K | _ => False)
  | .bool b' => (match u with | .bool b => tbool P t = true ∧ eqK op (b == b') K | _ => False)
  | .str s' => (match u with | .str s => strK op s s' K | _ => False)
  | .nils => (telem P t).isSome = true ∧ (match u with
    | .isl _ es => (es = [] → eqK op true K) ∧ eqK op false K
    | .nils => eqK op true K
    | .osl .. => eqK op false K
    | _ => False)
  | .nilp => tptr P t = true ∧ (match u with | .nilp => eqK op true K | .ip .. => eqK op false K | .op .. => eqK op false K | _ => False)
  | .nilf => tfun P t = true ∧ (match u with | .nilf => eqK op true K | .fn .. => eqK op false K | _ => False)
  | .nilm => tmap P t = true ∧ (match u with | .nilm => eqK op true K | .om _ => eqK op false K | _ => False)
  | _ => False
def sliceAll (P : Program) (t : TypeId) (x : AV) (lo hi : Option AV) (K : AV → Prop) : Prop :=
  match x with
  | .str s => sliceK P t (.str s) lo hi K
  | x => (∃ e s, telem P t = some e ∧ tsize P e = some s) ∧ sliceK P t x lo hi K
def builtinK (P : Program) (b : Builtin) (xs : Array Operand) (ts : Array TypeId) (a : Fr) (h : Heap) (K : AV → Heap → Prop) : Prop :=
  match b with
  | .len => (match xs.toList, ts.toList with | [x], [t] => evK a x fun u => lenK P t u fun u => K u h | _, _ => False)
  | .cap => (match xs.toList, ts.toList with | [x], [t] => evK a x fun u => capK P t u fun u => K u h | _, _ => False)
  | .min => evsK a xs.toList fun us => minK imin us fun u => K u h
  | .max => evsK a xs.toList fun us => minK imax us fun u => K u h
  | .clear => (match xs.toList, ts.toList with | [x], [t] => evK a x fun u => clearK P t h u fun h' => K .undef h' | _, _ => False)
  | .append => (match xs.toList, ts.toList with | [s, x], [t, t'] => evK a s fun s => evK a x fun x => appendK P t t' h s x K | _, _ => False)
  | _ => False
def aop (P : Program) (op : Op) (a : Fr) (h : Heap) (K : AV → Heap → Prop) : Prop :=
  match op with
  | .move x => evK a x fun u => K u h
  | .assign x => evK a x fun u => K u h
  | .pick c x y => evK a c fun c => evK a x fun x => evK a y fun y => pickK c x y fun u => K u h
  | .alloc t => ∃ cs, zcells P t = some cs ∧ K (.op h.length cs.length 0 0) (h ++ [.arr cs.length [cs] true])
  | .box _ x => evK a x fun u => cellsK u fun cs => K (.op h.length cs.length 0 0) (h ++ [.arr cs.length [cs] true])
  | .build t parts => evpK a parts.toList fun us => ∃ z pl, zcells P t = some z ∧ fplaces P t = some pl ∧ fillK (fun i => pl[i]?) us z fun cs => K (.agg cs) h
  | .buildSlice t len parts => evpK a parts.toList fun us => ∃ e z, telem P t = some e ∧ zcells P e = some z ∧ len * z.length ≤ 16777216 ∧
      fillRK z.length us (List.replicate len z) fun es => K (.osl h.length z.length 0 len len true) (h ++ [.arr z.length es true])
  | .load t x => evK a x fun p => loadK P t h p fun u => K u h
  | .store t p x => evK a p fun p => evK a x fun u => storeK P t h p u fun h' => K .undef h'
  | .nilCheck x => evK a x fun u => nilCheckK u fun u => K u h
  | .binOp op t x y _ => evK a x fun u => evK a y fun v => binAll P op t u v fun u => K u h
  | .unOp op _ x => evK a x fun u => unK op u fun u => K u h
  | .convert s d x => evK a x fun u => convK P s d u fun u => K u h
  | .makeFunc f fs cs => evsK a fs.toList fun fs => evsK a cs.toList fun cs => K (.fn f fs cs) h
  | .makeInterface t x => tnotIface P t = true ∧ evK a x fun u => K (.ifc t u) h
  | .makeSlice t l c => evK a l fun l => evK a c fun c => makeSliceK P t h l c K
  | .slice t x lo hi none => evK a x fun x => evoK a lo fun lo => evoK a hi fun hi => sliceAll P t x lo hi fun u => K u h
  | .slice t x none (some y) (some z) => evK a x fun x => evK a y fun y => evK a z fun z => slice3K P t x y z fun u => K u h
  | .fieldAddr s x f => evK a x fun p => fieldAddrK P s f p fun u => K u h
  | .field t x f => evK a x fun u => fieldK P t f u fun u => K u h
  | .indexAddr t x i => evK a x fun x => evK a i fun i => indexAddrK P t x i fun u => K u h
  | .index t x i => evK a x fun u => evK a i fun i => indexK P t u i fun u => K u h
  | .extract x i => evK a x fun u => extK u i fun u => K u h
  | .call c => (match c.callee with
    | .value f => evK a f fun f => evsK a c.args.toList fun us => callK P f us h K
    | .builtin b => builtinK P b c.args c.argTypes a h K
    | .invoke _ _ => False)
  | _ => False
section
variable {P : Program} {a : Fr} {h : Heap} {K : AV → Heap → Prop}
theorem evK_split {x : Operand} {K : AV → Prop} (hk : evK a x K) : ∃ u, (∀ K' : AV → Prop, K' u → evK a x K') ∧ K u := by
  cases x with
  | tmp t => exact ⟨a t, fun K' h => h, hk⟩
  | const v =>
    simp only [evK] at hk ⊢
    cases hv : ofV v with
    | none => simp [hv] at hk
    | some u => rw [hv] at hk; exact ⟨u, fun K' h => h, hk⟩
  | func f => exact ⟨_, fun K' h => h, hk⟩
  | global g => exact hk.elim
theorem run_eq_slice {t : TypeId} (ht : (telem P t).isSome = true) (A : Option Addr) (n c m c' : Nat) (w : World) : (Op.equal t (.slice A n c) (.slice none m c')).run P w = .ok A.isNone w := by
  obtain ⟨e, he⟩ := Option.isSome_iff_exists.1 ht
  have : ∀ d, (Op.equalIn (d + 1) t (.slice A n c) (.slice none m c')).run P w = .ok A.isNone w := fun d => by
    cases A <;> simp only [Op.equalIn, Sem.run_bind, run_underlying (telem_und he), Result.andThen_ok, Sem.run_pure] <;> rfl
  exact this 9999
theorem run_eq_ptr {t : TypeId} (ht : tptr P t = true) (p : Option Addr) (w : World) : (Op.equal t (.pointer p) (.pointer none)).run P w = .ok p.isNone w := by
  unfold tptr at ht
  split at ht
  · rename_i e he
    have : ∀ d, (Op.equalIn (d + 1) t (.pointer p) (.pointer none)).run P w = .ok p.isNone w := fun d => by
      cases p <;> simp only [Op.equalIn, Sem.run_bind, run_underlying he, Result.andThen_ok, Sem.run_pure] <;> rfl
    exact this 9999
  · simp at ht
theorem run_eq_fun {t : TypeId} (ht : tfun P t = true) (w : World) : (Op.equal t .nilFunc .nilFunc).run P w = .ok true w ∧ ∀ f x y, (Op.equal t (.func f x y) .nilFunc).run P w = .ok false w := by
  unfold tfun at ht
  split at ht
  · rename_i e1 e2 e3 he
    have h1 : ∀ d, (Op.equalIn (d + 1) t .nilFunc .nilFunc).run P w = .ok true w := fun d => by
      simp only [Op.equalIn, Sem.run_bind, run_underlying he, Result.andThen_ok, Sem.run_pure]
    have h2 : ∀ d f x y, (Op.equalIn (d + 1) t (.func f x y) .nilFunc).run P w = .ok false w := fun d f x y => by
      simp only [Op.equalIn, Sem.run_bind, run_underlying he, Result.andThen_ok, Sem.run_pure]
    exact ⟨h1 9999, h2 9999⟩
  · simp at ht
theorem run_eq_map {t : TypeId} (ht : tmap P t = true) (r : Option Nat) (w : World) : (Op.equal t (.map r) (.map none)).run P w = .ok r.isNone w := by
  unfold tmap at ht
  split at ht
  · rename_i e1 e2 he
    have : ∀ d, (Op.equalIn (d + 1) t (.map r) (.map none)).run P w = .ok r.isNone w := fun d => by
      cases r <;> simp only [Op.equalIn, Sem.run_bind, run_underlying he, Result.andThen_ok, Sem.run_pure] <;> rfl
    exact this 9999
  · simp at ht
theorem run_eqK {op : BinOp} {t : TypeId} {x y : Value} {b : Bool} {K : AV → Prop} {w : World} (hb : binOp .eql t x y = (do Pure.pure (.bool (← Op.equal t x y))) ∧ binOp .neq t x y = (do Pure.pure (.bool (!(← Op.equal t x y)))))
    (he : (Op.equal t x y).run P w = .ok b w) (hk : eqK op b K) : ∃ cv u, (binOp op t x y).run P w = .ok cv w ∧ K u ∧ ∀ I β N, VRel I β N w u cv := by
  cases op
  case eql => exact ⟨.bool b, _, by rw [hb.1]; simp [he], hk, fun I β N => .ofBool _⟩
  case neq => exact ⟨.bool (!b), _, by rw [hb.2]; simp [he], hk, fun I β N => .ofBool _⟩
  all_goals exact hk.elim
theorem om_inv {I : Nat → Prop} {β : Nat → Nat} {N : Nat} {w : World} {id : Nat} {v : Value} (h : VRel I β N w (.om id) v) : v = .map (some (β id)) := by
  cases h with
  | imm _ _ h => cases h
  | om _ _ => rfl
theorem nilm_inv {I : Nat → Prop} {β : Nat → Nat} {N : Nat} {w : World} {v : Value} (h : VRel I β N w .nilm v) : v = .map none := by
  cases h with | imm _ _ h => cases h; rfl
theorem op_binAll {dst : Option Tmp} {ty t t' : TypeId} {pos : String} {after : Array Edge} {guard : Option (Nat × Bool)} {op : BinOp} {x y : Operand} (hk : evK a x fun u => evK a y fun v => binAll P op t u v fun u => K u h) :
    OpOk P ⟨dst, .binOp op t x y t', ty, pos, after, guard⟩ a h K := by
  obtain ⟨u0, hu0, hk⟩ := evK_split hk
  obtain ⟨v0, hv0, hk⟩ := evK_split hk
  have base : binK P op t u0 v0 (fun u => K u h) → OpOk P ⟨dst, .binOp op t x y t', ty, pos, after, guard⟩ a h K := fun hb => op_binOp (hu0 _ (hv0 _ hb))
  have nil : ∀ (hcmp : ∀ (I : Nat → Prop) (β : Nat → Nat) (w : World) (cu cv : Value), Rel I β h w → VRel I β h.length w u0 cu → VRel I β h.length w v0 cv →
      (eqGuard op t x y cu cv = Pure.pure ()) ∧ ∃ r u, (binOp op t cu cv).run P w = .ok r w ∧ K u h ∧ ∀ I β N, VRel I β N w u r), OpOk P ⟨dst, .binOp op t x y t', ty, pos, after, guard⟩ a h K := by
    intro hcmp
    refine .pure fun I β w n c r g => ?_
    obtain ⟨u, hu, e1⟩ := evK_sound g (hu0 (fun u => u = u0) rfl)
    obtain ⟨v, hv, e2⟩ := evK_sound g (hv0 (fun u => u = v0) rfl)
    subst e1 e2
    obtain ⟨hg, rr, uu, h1, h2, h3⟩ := hcmp I β w _ _ r hu hv
    exact ⟨rr, uu, by simp [execOp, hg, h1], h2, h3 _ _ _⟩
  cases v0 with
  | int k m' => cases u0 with | int k0 m => exact base hk | _ => exact hk.elim
  | bool b' => cases u0 with | bool b => exact base hk | _ => exact hk.elim
  | str s' => cases u0 with | str s => exact base hk | _ => exact hk.elim
  | nils =>
    obtain ⟨ht, hk⟩ := hk
    refine nil fun I β w cu cv r hu hv => ?_
    rw [hv.nils_inv]
    cases u0 with
    | isl k es =>
      rcases hu.isl_inv.isl_inv with ⟨A, c, rfl, rfl⟩ | ⟨b, o, c, f, hne, rfl, _⟩
      · refine ⟨by rw [eqGuard_at_slice], ?_⟩
        cases A with
        | none => exact run_eqK ⟨rfl, rfl⟩ (run_eq_slice ht _ _ _ _ _ w) (hk.1 rfl)
        | some A => exact run_eqK ⟨rfl, rfl⟩ (run_eq_slice ht _ _ _ _ _ w) hk.2
      · exact ⟨by rw [eqGuard_at_slice], run_eqK ⟨rfl, rfl⟩ (run_eq_slice ht _ _ _ _ _ w) hk.2⟩
    | nils => rw [hu.nils_inv]; exact ⟨by rw [eqGuard_at_slice], run_eqK ⟨rfl, rfl⟩ (run_eq_slice ht _ _ _ _ _ w) hk⟩
    | osl _ _ _ _ _ _ => obtain ⟨c, n, rfl, _⟩ := hu.osl_inv; exact ⟨by rw [eqGuard_at_slice], run_eqK ⟨rfl, rfl⟩ (run_eq_slice ht _ _ _ _ _ w) hk⟩
    | _ => exact hk.elim
  | nilp =>
    obtain ⟨ht, hk⟩ := hk
    refine nil fun I β w cu cv r hu hv => ?_
    rw [hv.nilp_inv]
    cases u0 with
    | nilp => rw [hu.nilp_inv]; exact ⟨by rw [eqGuard_at_pointer], run_eqK ⟨rfl, rfl⟩ (run_eq_ptr ht _ w) hk⟩
    | ip _ _ => obtain ⟨b, o, vs, rfl, _⟩ := hu.ip_inv; exact ⟨by rw [eqGuard_at_pointer], run_eqK ⟨rfl, rfl⟩ (run_eq_ptr ht _ w) hk⟩
    | op _ _ _ _ => rw [hu.op_inv.1]; exact ⟨by rw [eqGuard_at_pointer], run_eqK ⟨rfl, rfl⟩ (run_eq_ptr ht _ w) hk⟩
    | _ => exact hk.elim
  | nilf =>
    obtain ⟨ht, hk⟩ := hk
    refine nil fun I β w cu cv r hu hv => ?_
    rw [hv.nilf_inv]
    cases u0 with
    | nilf => rw [hu.nilf_inv]; exact ⟨by rw [eqGuard_at_nilFunc], run_eqK ⟨rfl, rfl⟩ (run_eq_fun ht w).1 hk⟩
    | fn _ _ _ => obtain ⟨fs, cs, rfl, _⟩ := hu.fn_inv; exact ⟨by rw [eqGuard_at_func], run_eqK ⟨rfl, rfl⟩ ((run_eq_fun ht w).2 _ _ _) hk⟩
    | _ => exact hk.elim
  | nilm =>
    obtain ⟨ht, hk⟩ := hk
    refine nil fun I β w cu cv r hu hv => ?_
    rw [nilm_inv hv]
    cases u0 with
    | nilm => rw [nilm_inv hu]; exact ⟨by rw [eqGuard_at_map], run_eqK ⟨rfl, rfl⟩ (run_eq_map ht _ w) hk⟩
    | om _ => rw [om_inv hu]; exact ⟨by rw [eqGuard_at_map], run_eqK ⟨rfl, rfl⟩ (run_eq_map ht _ w) hk⟩
    | _ => exact hk.elim
  | _ => exact hk.elim
theorem op_sliceAll {dst : Option Tmp} {ty t : TypeId} {pos : String} {after : Array Edge} {guard : Option (Nat × Bool)} {x : Operand} {lo hi : Option Operand} (hk : evK a x fun x => evoK a lo fun lo => evoK a hi fun hi => sliceAll P t x lo hi fun u => K u h) :
    OpOk P ⟨dst, .slice t x lo hi none, ty, pos, after, guard⟩ a h K := by
  obtain ⟨u0, hu0, hk⟩ := evK_split hk
  cases u0 with
  | str s => exact op_sliceStr (hu0 _ hk)
  | _ => exact op_slice (hu0 _ hk)
theorem op_builtin {dst : Option Tmp} {ty : TypeId} {pos : String} {after : Array Edge} {guard : Option (Nat × Bool)} {b : Builtin} {xs : Array Operand} {ts : Array TypeId} (hk : builtinK P b xs ts a h K) :
    OpOk P ⟨dst, .call { callee := .builtin b, args := xs, argTypes := ts }, ty, pos, after, guard⟩ a h K := by
  have one : ∀ (P' : Operand → TypeId → Prop), (match xs.toList, ts.toList with | [x], [t] => P' x t | _, _ => False) → ∃ x t, xs = #[x] ∧ ts = #[t] ∧ P' x t := by
    intro P' hp
    split at hp
    · rename_i x t h1 h2
      exact ⟨x, t, by rw [← Array.toArray_toList (xs := xs), h1], by rw [← Array.toArray_toList (xs := ts), h2], hp⟩
    · exact hp.elim
  cases b with
  | len =>
    obtain ⟨x, t, rfl, rfl, hk⟩ := one (fun x t => evK a x fun u => lenK P t u fun u => K u h) hk
    exact op_len hk
  | cap =>
    obtain ⟨x, t, rfl, rfl, hk⟩ := one (fun x t => evK a x fun u => capK P t u fun u => K u h) hk
    exact op_cap hk
  | min => exact op_min hk
  | max => exact op_max hk
  | clear =>
    simp only [builtinK] at hk
    split at hk
    · rename_i x t h1 h2
      have e1 : xs = #[x] := by rw [← Array.toArray_toList (xs := xs), h1]
      have e2 : ts = #[t] := by rw [← Array.toArray_toList (xs := ts), h2]
      subst e1 e2
      exact op_clear hk
    · exact hk.elim
  | append =>
    simp only [builtinK] at hk
    split at hk
    · rename_i s x t t' h1 h2
      have e1 : xs = #[s, x] := by rw [← Array.toArray_toList (xs := xs), h1]
      have e2 : ts = #[t, t'] := by rw [← Array.toArray_toList (xs := ts), h2]
      subst e1 e2
      exact op_append hk
    · exact hk.elim
  | _ => exact hk.elim
theorem aop_sound {o : Oper} (hk : aop P o.op a h K) : OpOk P o a h K := by
  obtain ⟨dst, op, ty, pos, after, guard⟩ := o
  cases op with
  | move x => exact op_move hk
  | assign x => exact op_assign hk
  | pick c x y => exact op_pick hk
  | alloc t => exact op_alloc hk
  | box t x => exact op_box hk
  | build t parts => exact op_build hk
  | buildSlice t len parts => exact op_buildSlice hk
  | load t x => exact op_load hk
  | store t p x => exact op_store hk
  | nilCheck x => exact op_nilCheck hk
  | binOp op t x y t' => exact op_binAll hk
  | unOp op t x => exact op_unOp hk
  | convert s d x => exact op_convert hk
  | makeFunc f fs cs => exact op_makeFunc hk
  | makeInterface t x => exact op_makeInterface hk.1 hk.2
  | makeSlice t l c => exact op_makeSlice hk
  | slice t x lo hi mx =>
    cases mx with
    | none => exact op_sliceAll hk
    | some m =>
      cases lo with
      | some _ => exact hk.elim
      | none => cases hi with
        | none => exact hk.elim
        | some y => exact op_slice3 hk
  | fieldAddr s x f => exact op_fieldAddr hk
  | field t x f => exact op_field hk
  | indexAddr t x i => exact op_indexAddr hk
  | index t x i => exact op_index hk
  | extract x i => exact op_extract hk
  | call c =>
    obtain ⟨callee, args, ts⟩ := c
    cases callee with
    | value f => exact op_call hk
    | builtin b => exact op_builtin hk
    | invoke r m => exact hk.elim
  | _ => exact hk.elim
end
end Go.AL
end
section
namespace Go.AL
set_option linter.unusedVariables false
set_option linter.unusedSimpArgs false
set_option linter.unnecessarySimpa false
section
variable {P : Program} {a a' : Fr} {h : Heap}
def tmpsOf (op : Op) : List Tmp := op.operands.toList.filterMap fun | .tmp t => some t | _ => none
theorem evK_imp {x : Operand} {K K' : AV → Prop} (h : ∀ t, x = .tmp t → a t = a' t) (hK : ∀ u, K u → K' u) (hk : evK a x K) : evK a' x K' := by
  cases x with
  | tmp t => show K' (a' t); rw [← h t rfl]; exact hK _ hk
  | const v =>
    simp only [evK] at hk ⊢
    cases hv : ofV v with
    | none => simp [hv] at hk
    | some u => rw [hv] at hk; exact hK _ hk
  | func f => exact hK _ hk
  | global g => exact hk.elim
theorem evoK_imp {x : Option Operand} {K K' : Option AV → Prop} (h : ∀ t, x = some (.tmp t) → a t = a' t) (hK : ∀ u, K u → K' u) (hk : evoK a x K) : evoK a' x K' := by
  cases x with
  | none => exact hK _ hk
  | some x => exact evK_imp (K := fun u => K (some u)) (K' := fun u => K' (some u)) (fun t ht => h t (by rw [ht])) (fun u hu => hK _ hu) hk
theorem evsK_imp : ∀ {xs : List Operand} {K K' : List AV → Prop}, (∀ t, Operand.tmp t ∈ xs → a t = a' t) → (∀ u, K u → K' u) → evsK a xs K → evsK a' xs K'
  | [], K, K', h, hK, hk => hK _ hk
  | x :: r, K, K', h, hK, hk => evK_imp (fun t ht => h t (by rw [ht]; simp)) (fun u hu => evsK_imp (fun t ht => h t (by simp [ht])) (fun us hus => hK _ hus) hu) hk
theorem evpK_imp : ∀ {xs : List (Nat × Operand)} {K K' : List (Nat × AV) → Prop}, (∀ t, Operand.tmp t ∈ xs.map (·.2) → a t = a' t) → (∀ u, K u → K' u) → evpK a xs K → evpK a' xs K'
  | [], K, K', h, hK, hk => hK _ hk
  | (i, x) :: r, K, K', h, hK, hk => evK_imp (fun t ht => h t (by rw [ht]; simp)) (fun u hu => evpK_imp (fun t ht => h t (List.mem_cons_of_mem _ ht)) (fun us hus => hK _ hus) hu) hk
theorem mem_tmpsOf {op : Op} {t : Tmp} : t ∈ tmpsOf op ↔ Operand.tmp t ∈ op.operands.toList := by
  unfold tmpsOf
  simp only [List.mem_filterMap]
  constructor
  · rintro ⟨x, hx, he⟩
    cases x <;> simp at he
    subst he
    exact hx
  · intro hx
    exact ⟨_, hx, rfl⟩
theorem aop_congr {op : Op} {K : AV → Heap → Prop} (ha : ∀ t, t ∈ tmpsOf op → a t = a' t) (hk : aop P op a h K) : aop P op a' h K := by
  have hm : ∀ t, Operand.tmp t ∈ op.operands.toList → a t = a' t := fun t ht => ha t (mem_tmpsOf.2 ht)
  cases op with
  | move x => simp only [aop] at hk ⊢; exact evK_imp (fun t ht => hm t (by simp [Op.operands, ht])) (fun _ h => h) hk
  | assign x => simp only [aop] at hk ⊢; exact evK_imp (fun t ht => hm t (by simp [Op.operands, ht])) (fun _ h => h) hk
  | pick c x y => simp only [aop] at hk ⊢; exact evK_imp (fun t ht => hm t (by simp [Op.operands, ht])) (fun _ => evK_imp (fun t ht => hm t (by simp [Op.operands, ht])) fun _ => evK_imp (fun t ht => hm t (by simp [Op.operands, ht])) fun _ h => h) hk
  | alloc t => exact hk
  | box t x => simp only [aop] at hk ⊢; exact evK_imp (fun t ht => hm t (by simp [Op.operands, ht])) (fun _ h => h) hk
  | build t parts => simp only [aop] at hk ⊢; exact evpK_imp (fun t ht => hm t (by simpa [Op.operands] using ht)) (fun _ h => h) hk
  | buildSlice t len parts => simp only [aop] at hk ⊢; exact evpK_imp (fun t ht => hm t (by simpa [Op.operands] using ht)) (fun _ h => h) hk
  | load t x => simp only [aop] at hk ⊢; exact evK_imp (fun t ht => hm t (by simp [Op.operands, ht])) (fun _ h => h) hk
  | store t p x => simp only [aop] at hk ⊢; exact evK_imp (fun t ht => hm t (by simp [Op.operands, ht])) (fun _ => evK_imp (fun t ht => hm t (by simp [Op.operands, ht])) fun _ h => h) hk
  | nilCheck x => simp only [aop] at hk ⊢; exact evK_imp (fun t ht => hm t (by simp [Op.operands, ht])) (fun _ h => h) hk
  | binOp op t x y t' => simp only [aop] at hk ⊢; exact evK_imp (fun t ht => hm t (by simp [Op.operands, ht])) (fun _ => evK_imp (fun t ht => hm t (by simp [Op.operands, ht])) fun _ h => h) hk
  | unOp op t x => simp only [aop] at hk ⊢; exact evK_imp (fun t ht => hm t (by simp [Op.operands, ht])) (fun _ h => h) hk
  | convert s d x => simp only [aop] at hk ⊢; exact evK_imp (fun t ht => hm t (by simp [Op.operands, ht])) (fun _ h => h) hk
  | makeFunc f fs cs => simp only [aop] at hk ⊢; exact evsK_imp (fun t ht => hm t (by simp only [Op.operands, Array.toList_append, List.mem_append]; exact .inl ht)) (fun _ => evsK_imp (fun t ht => hm t (by simp only [Op.operands, Array.toList_append, List.mem_append]; exact .inr ht)) fun _ h => h) hk
  | makeInterface t x => simp only [aop] at hk ⊢; exact ⟨hk.1, evK_imp (fun t ht => hm t (by simp [Op.operands, ht])) (fun _ h => h) hk.2⟩
  | makeSlice t l c => simp only [aop] at hk ⊢; exact evK_imp (fun t ht => hm t (by simp [Op.operands, ht])) (fun _ => evK_imp (fun t ht => hm t (by simp [Op.operands, ht])) fun _ h => h) hk
  | slice t x lo hi mx =>
    cases mx with
    | none => simp only [aop] at hk ⊢; exact evK_imp (fun t ht => hm t (by simp [Op.operands, ht])) (fun _ => evoK_imp (fun t ht => hm t (by simp [Op.operands, ht])) fun _ => evoK_imp (fun t ht => hm t (by simp [Op.operands, ht])) fun _ h => h) hk
    | some m =>
      cases lo with
      | some _ => exact hk.elim
      | none => cases hi with
        | none => exact hk.elim
        | some y => simp only [aop] at hk ⊢; exact evK_imp (fun t ht => hm t (by simp [Op.operands, ht])) (fun _ => evK_imp (fun t ht => hm t (by simp [Op.operands, ht])) fun _ => evK_imp (fun t ht => hm t (by simp [Op.operands, ht])) fun _ h => h) hk
  | fieldAddr s x f => simp only [aop] at hk ⊢; exact evK_imp (fun t ht => hm t (by simp [Op.operands, ht])) (fun _ h => h) hk
  | field t x f => simp only [aop] at hk ⊢; exact evK_imp (fun t ht => hm t (by simp [Op.operands, ht])) (fun _ h => h) hk
  | indexAddr t x i => simp only [aop] at hk ⊢; exact evK_imp (fun t ht => hm t (by simp [Op.operands, ht])) (fun _ => evK_imp (fun t ht => hm t (by simp [Op.operands, ht])) fun _ h => h) hk
  | index t x i => simp only [aop] at hk ⊢; exact evK_imp (fun t ht => hm t (by simp [Op.operands, ht])) (fun _ => evK_imp (fun t ht => hm t (by simp [Op.operands, ht])) fun _ h => h) hk
  | extract x i => simp only [aop] at hk ⊢; exact evK_imp (fun t ht => hm t (by simp [Op.operands, ht])) (fun _ h => h) hk
  | call c =>
    obtain ⟨callee, args, ts⟩ := c
    cases callee with
    | value f => simp only [aop] at hk ⊢; exact evK_imp (fun t ht => hm t (by simp [Op.operands, Call.operands, ht])) (fun _ => evsK_imp (fun t ht => hm t (by simp [Op.operands, Call.operands]; exact .inr (by simpa using ht))) fun _ h => h) hk
    | builtin b =>
      have hb : ∀ t, Operand.tmp t ∈ args.toList → a t = a' t := fun t ht => hm t (by simpa [Op.operands, Call.operands] using ht)
      have h1 : ∀ (F : AV → TypeId → Prop), (match args.toList, ts.toList with | [x], [t] => evK a x fun u => F u t | _, _ => False) → (match args.toList, ts.toList with | [x], [t] => evK a' x fun u => F u t | _, _ => False) := by
        intro F hF
        split at hF
        · rename_i x t e1 e2
          exact evK_imp (fun t ht => hb t (by rw [e1, ht]; simp)) (fun _ h => h) hF
        · exact hF.elim
      cases b with
      | len => simp only [aop, builtinK] at hk ⊢; exact h1 (fun u t => lenK P t u fun u => K u h) hk
      | cap => simp only [aop, builtinK] at hk ⊢; exact h1 (fun u t => capK P t u fun u => K u h) hk
      | min => simp only [aop, builtinK] at hk ⊢; exact evsK_imp hb (fun _ h => h) hk
      | max => simp only [aop, builtinK] at hk ⊢; exact evsK_imp hb (fun _ h => h) hk
      | clear => simp only [aop, builtinK] at hk ⊢; exact h1 (fun u t => clearK P t h u fun h' => K .undef h') hk
      | append =>
        simp only [aop, builtinK] at hk ⊢
        split at hk
        · rename_i s x t t' e1 e2
          exact evK_imp (fun t ht => hb t (by rw [e1, ht]; simp)) (fun _ => evK_imp (fun t ht => hb t (by rw [e1, ht]; simp)) fun _ h => h) hk
        · exact hk.elim
      | _ => exact hk.elim
    | invoke r m => exact hk.elim
  | _ => exact hk.elim
def quietB : Builtin → Bool | .len | .cap | .min | .max => true | _ => false
def quietOp : Op → Bool
  | .move _ | .assign _ | .pick .. | .build .. | .nilCheck _ | .binOp .. | .unOp .. | .convert .. | .makeFunc .. | .makeInterface .. | .slice .. | .fieldAddr .. | .field .. | .indexAddr .. | .index .. | .extract .. => true
  | .call { callee := .builtin b, .. } => quietB b
  | _ => false
def loadOp : Op → Bool
  | .load .. => true
  | _ => false
theorem eqK_imp {op : BinOp} {b : Bool} {K K' : AV → Prop} (hK : ∀ u, K u → K' u) (hk : eqK op b K) : eqK op b K' := by
  cases op <;> first | exact hk.elim | exact hK _ hk
theorem strK_imp {op : BinOp} {x y : ByteArray} {K K' : AV → Prop} (hK : ∀ u, K u → K' u) (hk : strK op x y K) : strK op x y K' := by
  cases op <;> first | exact hk.elim | exact hK _ hk
theorem iK_imp {op : BinOp} {k k' : IntKind} {x y : Int} {K K' : AV → Prop} (hK : ∀ u, K u → K' u) (hk : iK op k x k' y K) : iK op k x k' y K' := by
  cases op <;> first | exact ⟨hk.1, hK _ hk.2⟩ | exact ⟨hk.1, hk.2.1, hK _ hk.2.2⟩ | exact ⟨hk.1, fitK_mono hK hk.2⟩
theorem binAll_imp {op : BinOp} {t : TypeId} {u v : AV} {K K' : AV → Prop} (hK : ∀ u, K u → K' u) (hk : binAll P op t u v K) : binAll P op t u v K' := by
  cases v with
  | int k m => cases u with | int _ _ => exact iK_imp hK hk | _ => exact hk.elim
  | bool b => cases u with | bool _ => exact ⟨hk.1, eqK_imp hK hk.2⟩ | _ => exact hk.elim
  | str s => cases u with | str _ => exact strK_imp hK hk | _ => exact hk.elim
  | nils => cases u with
    | isl _ _ => exact ⟨hk.1, fun e => eqK_imp hK (hk.2.1 e), eqK_imp hK hk.2.2⟩
    | nils => exact ⟨hk.1, eqK_imp hK hk.2⟩
    | osl _ _ _ _ _ _ => exact ⟨hk.1, eqK_imp hK hk.2⟩
    | _ => exact hk.2.elim
  | nilp => cases u with
    | nilp => exact ⟨hk.1, eqK_imp hK hk.2⟩
    | ip _ _ => exact ⟨hk.1, eqK_imp hK hk.2⟩
    | op _ _ _ _ => exact ⟨hk.1, eqK_imp hK hk.2⟩
    | _ => exact hk.2.elim
  | nilf => cases u with
    | nilf => exact ⟨hk.1, eqK_imp hK hk.2⟩
    | fn _ _ _ => exact ⟨hk.1, eqK_imp hK hk.2⟩
    | _ => exact hk.2.elim
  | nilm => cases u with
    | nilm => exact ⟨hk.1, eqK_imp hK hk.2⟩
    | om _ => exact ⟨hk.1, eqK_imp hK hk.2⟩
    | _ => exact hk.2.elim
  | _ => exact hk.elim
theorem pickK_imp {c x y : AV} {K K' : AV → Prop} (hK : ∀ u, K u → K' u) (hk : pickK c x y K) : pickK c x y K' := by
  cases c with | bool b => exact ⟨fun e => hK _ (hk.1 e), fun e => hK _ (hk.2 e)⟩ | _ => exact hk.elim
theorem unK_imp {op : UnOp} {x : AV} {K K' : AV → Prop} (hK : ∀ u, K u → K' u) (hk : unK op x K) : unK op x K' := by
  cases x with
  | bool b => cases op <;> first | exact hK _ hk | exact hk.elim
  | int k n => cases op <;> first | exact hK _ hk | exact hk.elim | exact fitK_mono hK hk
  | _ => exact hk.elim
theorem convK_imp {s d : TypeId} {x : AV} {K K' : AV → Prop} (hK : ∀ u, K u → K' u) (hk : convK P s d x K) : convK P s d x K' := by
  cases x with
  | int k n => obtain ⟨h1, k, h2, h3⟩ := hk; exact ⟨h1, k, h2, fitK_mono hK h3⟩
  | str s => exact ⟨hk.1, hk.2.1, hK _ hk.2.2⟩
  | _ => exact hk.elim
theorem nilCheckK_imp {x : AV} {K K' : AV → Prop} (hK : ∀ u, K u → K' u) (hk : nilCheckK x K) : nilCheckK x K' := by
  cases x <;> first | exact hK _ hk | exact hk.elim
theorem loK_imp {x : Option AV} {K K' : Nat → Prop} (hK : ∀ u, K u → K' u) (hk : loK x K) : loK x K' := by
  cases x with
  | none => exact hK _ hk
  | some u => cases u <;> first | exact ⟨hk.1, hK _ hk.2⟩ | exact hk.elim
theorem hiK_imp {n : Nat} {x : Option AV} {K K' : Nat → Prop} (hK : ∀ u, K u → K' u) (hk : hiK n x K) : hiK n x K' := by
  cases x with
  | none => exact hK _ hk
  | some u => cases u <;> first | exact ⟨hk.1, hK _ hk.2⟩ | exact hk.elim
theorem sliceK_imp {t : TypeId} {x : AV} {lo hi : Option AV} {K K' : AV → Prop} (hK : ∀ u, K u → K' u) (hk : sliceK P t x lo hi K) : sliceK P t x lo hi K' := by
  cases x with
  | isl k es => exact ⟨hk.1, loK_imp (fun l => hiK_imp fun m h => ⟨h.1, h.2.1, hK _ h.2.2⟩) hk.2⟩
  | osl id k i len cap ex =>
    refine ⟨hk.1, loK_imp (fun l => hiK_imp fun m h => ⟨h.1, h.2.1, ?_⟩) hk.2⟩
    have := h.2.2
    split at this
    · rename_i c; rw [if_pos c]; exact hK _ this
    · rename_i c; rw [if_neg c]; exact ⟨this.1, hK _ this.2⟩
  | nils => exact ⟨hk.1, loK_imp (fun l => hiK_imp fun m h => ⟨h.1, h.2.1, hK _ h.2.2⟩) hk.2⟩
  | str s => exact ⟨hk.1, loK_imp (fun l => hiK_imp fun m h => ⟨h.1, h.2.1, hK _ h.2.2⟩) hk.2⟩
  | _ => exact hk.elim
theorem sliceAll_imp {t : TypeId} {x : AV} {lo hi : Option AV} {K K' : AV → Prop} (hK : ∀ u, K u → K' u) (hk : sliceAll P t x lo hi K) : sliceAll P t x lo hi K' := by
  cases x with
  | str s => exact sliceK_imp (x := .str s) hK hk
  | _ => exact ⟨hk.1, sliceK_imp hK hk.2⟩
theorem fieldAddrK_imp {s f : Nat} {p : AV} {K K' : AV → Prop} (hK : ∀ u, K u → K' u) (hk : fieldAddrK P s f p K) : fieldAddrK P s f p K' := by
  obtain ⟨o, ft, h1, h2⟩ := hk
  refine ⟨o, ft, h1, ?_⟩
  cases p <;> first | exact hK _ h2 | exact h2.elim
theorem partK_imp {t : TypeId} {cs : List AV} {off : Nat} {K K' : AV → Prop} (hK : ∀ u, K u → K' u) (hk : partK P t cs off K) : partK P t cs off K' := by
  unfold partK at hk ⊢
  split at hk
  · obtain ⟨n, h1, h2, h3⟩ := hk; exact ⟨n, h1, h2, hK _ h3⟩
  · obtain ⟨v, h1, h2⟩ := hk; exact ⟨v, h1, hK _ h2⟩
  · exact hk.elim
theorem fieldK_imp {t f : Nat} {x : AV} {K K' : AV → Prop} (hK : ∀ u, K u → K' u) (hk : fieldK P t f x K) : fieldK P t f x K' := by
  obtain ⟨o, ft, h1, h2⟩ := hk
  refine ⟨o, ft, h1, ?_⟩
  cases x <;> first | exact partK_imp hK h2 | exact h2.elim
theorem indexAddrK_imp {t : TypeId} {x i : AV} {K K' : AV → Prop} (hK : ∀ u, K u → K' u) (hk : indexAddrK P t x i K) : indexAddrK P t x i K' := by
  cases i with
  | int k n =>
    cases x with
    | isl k es => obtain ⟨h1, h2, h3, c, h4, h5⟩ := hk; exact ⟨h1, h2, h3, c, h4, hK _ h5⟩
    | osl _ _ _ _ _ _ => obtain ⟨h1, h2, h3, h4⟩ := hk; exact ⟨h1, h2, h3, hK _ h4⟩
    | ip _ _ => obtain ⟨m, e, s, h1, h2, h3, h4, h5⟩ := hk; exact ⟨m, e, s, h1, h2, h3, h4, hK _ h5⟩
    | op _ _ _ _ => obtain ⟨m, e, s, h1, h2, h3, h4, h5⟩ := hk; exact ⟨m, e, s, h1, h2, h3, h4, hK _ h5⟩
    | _ => exact hk.elim
  | _ => exact hk.elim
theorem indexK_imp {t : TypeId} {x i : AV} {K K' : AV → Prop} (hK : ∀ u, K u → K' u) (hk : indexK P t x i K) : indexK P t x i K' := by
  cases i with
  | int k n =>
    cases x with
    | agg cs => obtain ⟨m, e, s, h1, h2, h3, h4, h5⟩ := hk; exact ⟨m, e, s, h1, h2, h3, h4, partK_imp hK h5⟩
    | str s => obtain ⟨h1, h2, h3, h4⟩ := hk; exact ⟨h1, h2, h3, hK _ h4⟩
    | _ => exact hk.elim
  | _ => exact hk.elim
theorem extK_imp {x : AV} {i : Nat} {K K' : AV → Prop} (hK : ∀ u, K u → K' u) (hk : extK x i K) : extK x i K' := by
  cases x with | tup vs => obtain ⟨v, h1, h2⟩ := hk; exact ⟨v, h1, hK _ h2⟩ | _ => exact hk.elim
theorem lenK_imp {t : TypeId} {x : AV} {K K' : AV → Prop} (hK : ∀ u, K u → K' u) (hk : lenK P t x K) : lenK P t x K' := by
  cases x <;> first | exact ⟨hk.1, hK _ hk.2⟩ | exact hk.elim
theorem capK_imp {t : TypeId} {x : AV} {K K' : AV → Prop} (hK : ∀ u, K u → K' u) (hk : capK P t x K) : capK P t x K' := by
  cases x <;> first | exact ⟨hk.1, hk.2.1, hK _ hk.2.2⟩ | exact ⟨hk.1, hK _ hk.2⟩ | exact hk.elim
theorem mins_imp {g : Int → Int → Int} {k : IntKind} : ∀ {us : List AV} {x : Int} {K K' : Int → Prop}, (∀ u, K u → K' u) → mins g x us K k → mins g x us K' k
  | [], x, K, K', hK, hk => hK _ hk
  | u :: us, x, K, K', hK, hk => by cases u <;> first | exact ⟨hk.1, mins_imp hK hk.2⟩ | exact hk.elim
theorem minK_imp {g : Int → Int → Int} {us : List AV} {K K' : AV → Prop} (hK : ∀ u, K u → K' u) (hk : minK g us K) : minK g us K' := by
  cases us with
  | nil => exact hk.elim
  | cons u us => cases u <;> first | exact mins_imp (fun x h => hK _ h) hk | exact hk.elim
theorem cellsK_imp {u : AV} {K K' : List AV → Prop} (hK : ∀ c, K c → K' c) (hk : cellsK u K) : cellsK u K' := by
  cases u <;> first | exact hK _ hk | exact hk.elim
theorem fillK_imp {place : Nat → Option (Nat × Nat)} : ∀ {us : List (Nat × AV)} {cs : List AV} {K K' : List AV → Prop}, (∀ c, K c → K' c) → fillK place us cs K → fillK place us cs K'
  | [], cs, K, K', hK, hk => hK _ hk
  | (i, u) :: r, cs, K, K', hK, hk => cellsK_imp (fun us ⟨off, h1, h2, h3⟩ => ⟨off, h1, h2, fillK_imp hK h3⟩) hk
theorem fillRK_imp {k : Nat} : ∀ {us : List (Nat × AV)} {es : List (List AV)} {K K' : List (List AV) → Prop}, (∀ c, K c → K' c) → fillRK k us es K → fillRK k us es K'
  | [], es, K, K', hK, hk => hK _ hk
  | (i, u) :: r, es, K, K', hK, hk => cellsK_imp (fun us ⟨h1, h2, h3⟩ => ⟨h1, h2, fillRK_imp hK h3⟩) hk
theorem ldK_imp {t : TypeId} {cells : List AV} {off : Nat} {K K' : AV → Prop} (hK : ∀ u, K u → K' u) (hk : ldK P t cells off K) : ldK P t cells off K' := by
  unfold ldK at hk ⊢
  split at hk
  · obtain ⟨n, h1, h2, h3⟩ := hk; exact ⟨n, h1, h2, hK _ h3⟩
  · obtain ⟨v, h1, h2⟩ := hk; exact ⟨v, h1, hK _ h2⟩
  · exact hk.elim
theorem loadK_imp {t : TypeId} {p : AV} {K K' : AV → Prop} (hK : ∀ u, K u → K' u) (hk : loadK P t h p K) : loadK P t h p K' := by
  cases p with
  | ip c o => exact ldK_imp hK hk
  | op id k e o => obtain ⟨es, ex, h1, c, h2, h3⟩ := hk; exact ⟨es, ex, h1, c, h2, ldK_imp hK h3⟩
  | _ => exact hk.elim
theorem evK_imp' {x : Operand} {K K' : AV → Prop} (hK : ∀ u, K u → K' u) (hk : evK a x K) : evK a x K' := evK_imp (fun _ _ => rfl) hK hk
theorem evoK_imp' {x : Option Operand} {K K' : Option AV → Prop} (hK : ∀ u, K u → K' u) (hk : evoK a x K) : evoK a x K' := evoK_imp (fun _ _ => rfl) hK hk
theorem evsK_imp' {xs : List Operand} {K K' : List AV → Prop} (hK : ∀ u, K u → K' u) (hk : evsK a xs K) : evsK a xs K' := evsK_imp (fun _ _ => rfl) hK hk
theorem evpK_imp' {xs : List (Nat × Operand)} {K K' : List (Nat × AV) → Prop} (hK : ∀ u, K u → K' u) (hk : evpK a xs K) : evpK a xs K' := evpK_imp (fun _ _ => rfl) hK hk
theorem aop_quiet {op : Op} {K K' : AV → Heap → Prop} {h' : Heap} (hq : quietOp op = true) (hK : ∀ u, K u h → K' u h') (hk : aop P op a h K) : aop P op a h' K' := by
  cases op with
  | move x => simp only [aop] at hk ⊢; exact evK_imp' (fun _ h => hK _ h) hk
  | assign x => simp only [aop] at hk ⊢; exact evK_imp' (fun _ h => hK _ h) hk
  | pick c x y => simp only [aop] at hk ⊢; exact evK_imp' (fun _ => evK_imp' fun _ => evK_imp' fun _ => pickK_imp fun _ h => hK _ h) hk
  | build t parts => simp only [aop] at hk ⊢; exact evpK_imp' (fun us ⟨z, pl, h1, h2, h3⟩ => ⟨z, pl, h1, h2, fillK_imp (fun _ h => hK _ h) h3⟩) hk
  | nilCheck x => simp only [aop] at hk ⊢; exact evK_imp' (fun _ => nilCheckK_imp fun _ h => hK _ h) hk
  | binOp op t x y t' => simp only [aop] at hk ⊢; exact evK_imp' (fun _ => evK_imp' fun _ => binAll_imp fun _ h => hK _ h) hk
  | unOp op t x => simp only [aop] at hk ⊢; exact evK_imp' (fun _ => unK_imp fun _ h => hK _ h) hk
  | convert s d x => simp only [aop] at hk ⊢; exact evK_imp' (fun _ => convK_imp fun _ h => hK _ h) hk
  | makeFunc f fs cs => simp only [aop] at hk ⊢; exact evsK_imp' (fun _ => evsK_imp' fun _ h => hK _ h) hk
  | makeInterface t x => simp only [aop] at hk ⊢; exact ⟨hk.1, evK_imp' (fun _ h => hK _ h) hk.2⟩
  | slice t x lo hi mx =>
    cases mx with
    | none => simp only [aop] at hk ⊢; exact evK_imp' (fun _ => evoK_imp' fun _ => evoK_imp' fun _ => sliceAll_imp fun _ h => hK _ h) hk
    | some m =>
      cases lo with
      | some _ => exact hk.elim
      | none => cases hi with
        | none => exact hk.elim
        | some y => simp only [aop] at hk ⊢; exact evK_imp' (fun _ => evK_imp' fun _ => evK_imp' fun _ ⟨h1, h2, h3, h4⟩ => ⟨h1, h2, h3, hK _ h4⟩) hk
  | fieldAddr s x f => simp only [aop] at hk ⊢; exact evK_imp' (fun _ => fieldAddrK_imp fun _ h => hK _ h) hk
  | field t x f => simp only [aop] at hk ⊢; exact evK_imp' (fun _ => fieldK_imp fun _ h => hK _ h) hk
  | indexAddr t x i => simp only [aop] at hk ⊢; exact evK_imp' (fun _ => evK_imp' fun _ => indexAddrK_imp fun _ h => hK _ h) hk
  | index t x i => simp only [aop] at hk ⊢; exact evK_imp' (fun _ => evK_imp' fun _ => indexK_imp fun _ h => hK _ h) hk
  | extract x i => simp only [aop] at hk ⊢; exact evK_imp' (fun _ => extK_imp fun _ h => hK _ h) hk
  | call c =>
    obtain ⟨callee, args, ts⟩ := c
    cases callee with
    | builtin b =>
      have h1 : ∀ (F F' : AV → TypeId → Prop), (∀ u t, F u t → F' u t) → (match args.toList, ts.toList with | [x], [t] => evK a x fun u => F u t | _, _ => False) → (match args.toList, ts.toList with | [x], [t] => evK a x fun u => F' u t | _, _ => False) := by
        intro F F' hFF hF
        split at hF
        · exact evK_imp' (fun _ h => hFF _ _ h) hF
        · exact hF.elim
      cases b with
      | len => simp only [aop, builtinK] at hk ⊢; exact h1 (fun u t => lenK P t u fun u => K u h) (fun u t => lenK P t u fun u => K' u h') (fun u t => lenK_imp fun _ h => hK _ h) hk
      | cap => simp only [aop, builtinK] at hk ⊢; exact h1 (fun u t => capK P t u fun u => K u h) (fun u t => capK P t u fun u => K' u h') (fun u t => capK_imp fun _ h => hK _ h) hk
      | min => simp only [aop, builtinK] at hk ⊢; exact evsK_imp' (fun _ => minK_imp fun _ h => hK _ h) hk
      | max => simp only [aop, builtinK] at hk ⊢; exact evsK_imp' (fun _ => minK_imp fun _ h => hK _ h) hk
      | _ => simp [quietOp, quietB] at hq
    | _ => simp [quietOp] at hq
  | _ => simp [quietOp] at hq
end
end Go.AL
end
section
namespace Go.AL
set_option linter.unusedVariables false
set_option linter.unusedSimpArgs false
set_option linter.unnecessarySimpa false
def gslot (ops : List Oper) (j : Nat) : Option Tmp := (ops[j]?).bind (·.dst)
def guardK (ops : List Oper) (g : Option (Nat × Bool)) (a : Fr) (K : Bool → Prop) : Prop :=
  match g with
  | none => K true
  | some (j, want) => (match gslot ops j with
    | some t => (match a t with | .bool b => (b = want → K true) ∧ (b ≠ want → K false) | .tup [] => K false | _ => False)
    | none => False)
def gval (ops : List Oper) (g : Option (Nat × Bool)) (a : Fr) : Option Bool :=
  match g with
  | none => some true
  | some (j, want) => (match gslot ops j with
    | some t => (match a t with | .bool b => some (b == want) | .tup [] => some false | _ => none)
    | none => none)
theorem guardK_sound {ops : List Oper} {g : Option (Nat × Bool)} {a : Fr} {K : Bool → Prop} (hk : guardK ops g a K) : ∃ r, gval ops g a = some r ∧ K r := by
  cases g with
  | none => exact ⟨true, rfl, hk⟩
  | some x =>
    obtain ⟨j, want⟩ := x
    simp only [guardK, gval] at hk ⊢
    cases hs : gslot ops j with
    | none => simp [hs] at hk
    | some t =>
      simp only [hs] at hk ⊢
      cases ha : a t with
      | bool b =>
        simp only [ha] at hk ⊢
        by_cases e : b = want
        · exact ⟨true, by simp [e], hk.1 e⟩
        · exact ⟨false, by simp [e], hk.2 e⟩
      | tup l =>
        cases l with
        | nil => simp only [ha] at hk ⊢; exact ⟨false, rfl, hk⟩
        | cons _ _ => simp [ha] at hk
      | _ => simp [ha] at hk
def pt (dst : Option Tmp) (a : Fr) (v : AV) : Fr := match dst with | none => a | some d => upd a d v
def putK (n : Nat) (dst : Option Tmp) (a : Fr) (v : AV) (K : Fr → Prop) : Prop := match dst with | none => K a | some d => d < n ∧ K (upd a d v)
def inb (n : Nat) (dst : Option Tmp) : Prop := ∀ d, dst = some d → d < n
theorem putK_sound {n : Nat} {dst : Option Tmp} {a : Fr} {v : AV} {K : Fr → Prop} (hk : putK n dst a v K) : inb n dst ∧ K (pt dst a v) := by
  cases dst with
  | none => exact ⟨fun d h => (by cases h), hk⟩
  | some d => exact ⟨fun d' h => (by cases h; exact hk.1), hk.2⟩
theorem FRel.pt {I : Nat → Prop} {β : Nat → Nat} {N : Nat} {w : World} {n : Nat} {a : Fr} {c : Act} (hf : FRel I β N w n a c) {dst : Option Tmp} (hd : inb n dst) {u : AV} {v : Value} (hv : VRel I β N w u v) :
    FRel I β N w n (AL.pt dst a u) (c.put dst v) := by
  cases dst with
  | none => exact hf
  | some d => exact hf.put (hd d rfl) hv
theorem wanted_eq {I : Nat → Prop} {β : Nat → Nat} {N : Nat} {w : World} {n : Nat} {a : Fr} {c : Act} (hf : FRel I β N w n a c) {ops : Array Oper} {o : Oper} {r : Bool} (hg : gval ops.toList o.guard a = some r) : Region.wanted o (yielded ops c.tmps) = r := by
  unfold Region.wanted
  cases hgd : o.guard with
  | none => rw [hgd] at hg; simp [gval] at hg; simp [hg]
  | some x =>
    obtain ⟨j, want⟩ := x
    rw [hgd] at hg
    simp only [gval] at hg
    cases hs : gslot ops.toList j with
    | none => simp [hs] at hg
    | some t =>
      simp only [hs] at hg
      have hs' : (ops[j]?).bind (·.dst) = some t := by simpa [gslot] using hs
      cases ha : a t with
      | bool b =>
        simp only [ha] at hg
        injection hg with hg
        have hv := hf.val t
        rw [ha] at hv
        have e := hv.bool_inv
        have hlt : c.tmps[t]? = some (.bool b) := by
          simp only [Array.getD_eq_getD_getElem?] at e
          cases hc : c.tmps[t]? with
          | none => rw [hc] at e; simp [undef] at e
          | some y => rw [hc] at e; simp at e; rw [e]
        simp only [yielded, hs', Option.bind_some, hlt]
        rw [← hg]
        simp
      | tup l =>
        cases l with
        | nil =>
          simp only [ha] at hg
          injection hg with hg
          have hv := hf.val t
          rw [ha] at hv
          obtain ⟨vs, e, h1, _⟩ := hv.tup_inv
          have hne : ∀ b : Bool, c.tmps[t]? ≠ some (.bool b) := fun b hb => by
            simp only [Array.getD_eq_getD_getElem?, hb, Option.getD_some] at e
            cases e
          simp only [yielded, hs', Option.bind_some]
          cases hc : c.tmps[t]? with
          | none => rw [← hg]; rfl
          | some x => cases x with
            | bool b => exact absurd hc (hne b)
            | _ => rw [← hg]; rfl
        | cons _ _ => simp [ha] at hg
      | _ => simp [ha] at hg
section
variable {P : Program} {n : Nat}
theorem wpOp_of {o : Oper} {ops : Array Oper} {i : Nat} (hi : ops[i]? = some o) {a : Fr} {h : Heap} {r : Bool} (hg : gval ops.toList o.guard a = some r) (K : AV → Heap → Prop) (hyes : r = true → OpOk P o a h K) (hno : r = false → K .undef h)
    {I : Nat → Prop} {β : Nat → Nat} {w : World} {c : Act} (rr : Rel I β h w) (ff : FRel I β h.length w n a c) {next : Act → World → Prop} {Q : Exit → Act → World → Prop}
    (hn : ∀ u cv I' β' h' w', K u h' → Ext I β h w I' β' h' w' → Rel I' β' h' w' → VRel I' β' h'.length w' u cv → next (c.put o.dst cv) w') : wpOp P ops Q i next c w := by
  unfold wpOp
  simp only [hi]
  rw [wanted_eq ff hg]
  cases r with
  | true =>
    simp only [if_true]
    exact .inl (hyes rfl I β w n c next Q rr ff hn)
  | false =>
    simp only [Bool.false_eq_true, if_false]
    exact hn .undef undef I β h w (hno rfl) (.refl _ _ _ _) rr (.imm _ _ (.undef _ _))
def aops (P : Program) (n : Nat) (all : List Oper) : List Oper → Fr → Heap → (Fr → Heap → Prop) → Prop
  | [], a, h, K => K a h
  | o :: rest, a, h, K => guardK all o.guard a fun run => match run with
    | true => aop P o.op a h fun v h' => putK n o.dst a v fun a' => aops P n all rest a' h' K
    | false => putK n o.dst a .undef fun a' => aops P n all rest a' h K
theorem aops_sound {ops : Array Oper} {Q : Exit → Act → World → Prop} : ∀ (l : List Oper) (i : Nat), (∀ j, l[j]? = ops[i + j]?) → ∀ (a : Fr) (h : Heap) (K : Fr → Heap → Prop) (I : Nat → Prop) (β : Nat → Nat) (w : World) (c : Act), Rel I β h w → FRel I β h.length w n a c →
    aops P n ops.toList l a h K → (∀ a' h' I' β' c' w', K a' h' → Ext I β h w I' β' h' w' → Rel I' β' h' w' → FRel I' β' h'.length w' n a' c' → Q .normal c' w') → wpOps P ops Q (List.range' i l.length) c w
  | [], i, hl, a, h, K, I, β, w, c, r, f, hk, hn => by
    simp only [List.length_nil, List.range'_zero, wpOps]
    exact hn a h I β c w hk (.refl _ _ _ _) r f
  | o :: l, i, hl, a, h, K, I, β, w, c, r, f, hk, hn => by
    have hi : ops[i]? = some o := by have := hl 0; simpa using this.symm
    simp only [List.length_cons, List.range'_succ, wpOps_cons]
    obtain ⟨run, hg, hk⟩ := guardK_sound hk
    refine wpOp_of hi hg (fun v h' => inb n o.dst ∧ aops P n ops.toList l (pt o.dst a v) h' K) (fun e => ?_) (fun e => ?_) r f (fun u cv I' β' h' w' hk' he hr hv => ?_)
    · subst e
      exact (aop_sound hk).mono fun v h' => putK_sound
    · subst e
      exact putK_sound hk
    · exact aops_sound l (i + 1) (fun j => by have := hl (j + 1); simpa [Nat.add_assoc, Nat.add_comm 1] using this) _ h' K I' β' w' _ hr ((f.ext r he).pt hk'.1 hv) hk'.2
        (fun a' h2 I2 β2 c' w2 k2 e2 => hn a' h2 I2 β2 c' w2 k2 (he.trans e2))
def pureOp (op : Op) : Bool := quietOp op || loadOp op
def edgesOf (ops : List Oper) (i : Nat) : List Nat := match ops[i]? with | some o => (o.after.toList.filter (Region.binds .any)).map (·.on) | none => []
def tmsOf (ops : List Oper) (i : Nat) : List Tmp := match ops[i]? with | some o => tmpsOf o.op ++ (match o.guard with | some (j, _) => (gslot ops j).toList | none => []) | none => []
def presOf (ops : List Oper) : List (List Nat) :=
  ops.foldl (fun acc o => acc ++ [let es := (o.after.toList.filter (Region.binds .any)).map (·.on); (es ++ es.flatMap fun e => acc.getD e []).eraseDups]) []
def isEff (ops : List Oper) (i : Nat) : Bool := match ops[i]? with | some o => !pureOp o.op | none => true
def isLoad (ops : List Oper) (i : Nat) : Bool := match ops[i]? with | some o => !quietOp o.op | none => true
abbrev Plan := List (Nat × Bool × List Nat)
def drawChkF (ops : List Oper) (plan : Plan) (free : List Nat) : Bool :=
  let pr := presOf ops
  let ord : List Nat := plan.map (·.1)
  let is := List.range ops.length
  (is.all fun i => (pr.getD i []).all fun j => (edgesOf ops i).contains j || (edgesOf ops i).any fun k => decide (k < i) && (pr.getD k []).contains j) &&
  (is.all fun i => (edgesOf ops i).all fun e => decide (e < i)) &&
  (decide ord.Nodup && is.all fun i => ord.contains i) && (ord.all fun i => decide (i < ops.length)) &&
  (is.all fun i => is.all fun j => decide (i = j) || (gslot ops i).isNone || !decide (gslot ops i = gslot ops j)) &&
  (is.all fun i => (tmsOf ops i).all fun t => is.all fun j => decide (j = i) || !decide (gslot ops j = some t) || (decide (ord.idxOf j < ord.idxOf i) && (pr.getD i []).contains j) || (decide (ord.idxOf i < ord.idxOf j) && (pr.getD j []).contains i)) &&
  (is.all fun e => !isEff ops e || is.all fun i => !decide (ord.idxOf e < ord.idxOf i) || ((pr.getD i []).contains e || free.contains e)) &&
  (plan.all fun x => !isEff ops x.1 || is.all fun i => isEff ops i || !isLoad ops i || !decide (ord.idxOf i < ord.idxOf x.1) || (pr.getD x.1 []).contains i || (x.2.2.contains i && plan.any fun y => decide (y.1 = i) && y.2.1))
def drawChk (ops : List Oper) (plan : Plan) : Bool := drawChkF ops plan []
def reK (P : Program) (all : List Oper) (done : List (Nat × Fr × AV)) (h : Heap) : List Nat → Prop
  | [] => True
  | j :: r => (match done.find? (fun x => x.1 == j), all[j]? with
    | some (_, a, v), some o => aop P o.op a h fun v' h' => v' = v ∧ h' = h
    | _, _ => True) ∧ reK P all done h r
def adr (P : Program) (n : Nat) (all : List Oper) : Plan → Fr → Heap → List (Nat × Fr × AV) → (Fr → Heap → Prop) → Prop
  | [], a, h, done, K => K a h
  | (i, keep, rs) :: rest, a, h, done, K => (match all[i]? with
    | none => False
    | some o => guardK all o.guard a fun run => match run with
      | true => (match pureOp o.op with
        | true => ∃ v, aop P o.op a h (fun v' h' => v' = v ∧ h' = h) ∧ putK n o.dst a v fun a' => adr P n all rest a' h (match keep with | true => (i, a, v) :: done | false => done) K
        | false => aop P o.op a h fun v h' => reK P all done h' rs ∧ putK n o.dst a v fun a' => adr P n all rest a' h' done K)
      | false => putK n o.dst a .undef fun a' => adr P n all rest a' h done K)
structure DrawOk (ops : List Oper) (plan : Plan) (free : List Nat) : Prop where
  pre : ∀ i, i < ops.length → ∀ j, j ∈ (presOf ops).getD i [] → j ∈ edgesOf ops i ∨ ∃ k, k ∈ edgesOf ops i ∧ k < i ∧ j ∈ (presOf ops).getD k []
  back : ∀ i, i < ops.length → ∀ e, e ∈ edgesOf ops i → e < i
  nodup : (plan.map (·.1)).Nodup
  all : ∀ i, i < ops.length → i ∈ plan.map (·.1)
  lt : ∀ i, i ∈ plan.map (·.1) → i < ops.length
  one : ∀ i j t, i < ops.length → j < ops.length → gslot ops i = some t → gslot ops j = some t → i = j
  tms : ∀ i, i < ops.length → ∀ t, t ∈ tmsOf ops i → ∀ j, j < ops.length → j ≠ i → gslot ops j = some t →
    ((plan.map (·.1)).idxOf j < (plan.map (·.1)).idxOf i ∧ j ∈ (presOf ops).getD i []) ∨ ((plan.map (·.1)).idxOf i < (plan.map (·.1)).idxOf j ∧ i ∈ (presOf ops).getD j [])
  eff : ∀ e, e < ops.length → isEff ops e = true → ∀ i, i < ops.length → (plan.map (·.1)).idxOf e < (plan.map (·.1)).idxOf i → e ∈ (presOf ops).getD i [] ∨ e ∈ free
  re : ∀ x, x ∈ plan → isEff ops x.1 = true → ∀ i, i < ops.length → isEff ops i = false → isLoad ops i = true → (plan.map (·.1)).idxOf i < (plan.map (·.1)).idxOf x.1 → i ∉ (presOf ops).getD x.1 [] → i ∈ x.2.2 ∧ ∃ y, y ∈ plan ∧ y.1 = i ∧ y.2.1 = true
theorem drawOk {ops : List Oper} {plan : Plan} {free : List Nat} (h : drawChkF ops plan free = true) : DrawOk ops plan free := by
  unfold drawChkF at h
  simp only [Bool.and_eq_true, List.all_eq_true, List.any_eq_true, List.mem_range, Bool.or_eq_true, decide_eq_true_eq, List.contains_iff_mem, Bool.not_eq_true', decide_eq_false_iff_not, Option.isNone_iff_eq_none] at h
  obtain ⟨⟨⟨⟨⟨⟨⟨h1, h2⟩, h3, h4⟩, h5⟩, h6⟩, h7⟩, h8⟩, h9⟩ := h
  refine ⟨fun i hi j hj => ?_, h2, h3, h4, h5, fun i j t hi hj e1 e2 => ?_, fun i hi t ht j hj hne hs => ?_, fun e he hf i hi hlt => ?_, fun x hx hf i hi hp hl hlt hn => ?_⟩
  · rcases h1 i hi j hj with h | ⟨k, hk, hlt, hm⟩
    · exact .inl h
    · exact .inr ⟨k, hk, hlt, hm⟩
  · rcases h6 i hi j hj with (h | h) | h
    · exact h
    · rw [e1] at h; cases h
    · exact absurd (e1.trans e2.symm) h
  · rcases h7 i hi t ht j hj with ((h | h) | h) | h
    · exact absurd h hne
    · exact absurd hs h
    · exact .inl h
    · exact .inr h
  · rcases h8 e he with h | h
    · rw [hf] at h; cases h
    · rcases h i hi with h | h
      · exact absurd hlt h
      · exact h
  · rcases h9 x hx with h | h
    · rw [hf] at h; cases h
    · rcases h i hi with (((h | h) | h) | h) | h
      · rw [hp] at h; cases h
      · rw [hl] at h; cases h
      · exact absurd hlt h
      · exact absurd h hn
      · obtain ⟨h1, y, h2, h3, h4⟩ := h
        exact ⟨h1, y, h2, h3, h4⟩
def frm (ops : List Oper) (a0 : Fr) : List (Nat × AV) → Fr
  | [] => a0
  | (i, v) :: r => pt (gslot ops i) (frm ops a0 r) v
theorem frm_find (ops : List Oper) (a0 : Fr) (t : Nat) : ∀ l : List (Nat × AV), frm ops a0 l t = match l.find? (fun x => gslot ops x.1 == some t) with | some x => x.2 | none => a0 t
  | [] => rfl
  | (i, v) :: r => by
    simp only [frm, List.find?_cons]
    cases hs : gslot ops i with
    | none =>
      simp only [pt, hs]
      exact frm_find ops a0 t r
    | some d =>
      simp only [pt, hs]
      by_cases e : t = d
      · subst e
        simp [upd_same]
      · rw [upd_ne _ _ _ _ e]
        have : ((some d : Option Nat) == some t) = false := by simp [Ne.symm e]
        rw [this]
        exact frm_find ops a0 t r
theorem nodup_val {l : List (Nat × AV)} (hn : (l.map (·.1)).Nodup) {i : Nat} {v v' : AV} (h1 : (i, v) ∈ l) (h2 : (i, v') ∈ l) : v = v' := by
  induction l with
  | nil => cases h1
  | cons x l ih =>
    simp only [List.map_cons, List.nodup_cons] at hn
    rcases List.mem_cons.1 h1 with e1 | k1 <;> rcases List.mem_cons.1 h2 with e2 | k2
    · rw [← e1] at e2; injection e2 with _ e; exact e.symm
    · rw [← e1] at hn; exact absurd (List.mem_map.2 ⟨_, k2, rfl⟩) hn.1
    · rw [← e2] at hn; exact absurd (List.mem_map.2 ⟨_, k1, rfl⟩) hn.1
    · exact ih hn.2 k1 k2
theorem frm_same {ops : List Oper} {a0 : Fr} {t : Nat} {l l' : List (Nat × AV)} (hone : ∀ i j t, gslot ops i = some t → gslot ops j = some t → i = j) (hn' : (l'.map (·.1)).Nodup)
    (hw : ∀ j v, gslot ops j = some t → ((j, v) ∈ l ↔ (j, v) ∈ l')) : frm ops a0 l t = frm ops a0 l' t := by
  rw [frm_find, frm_find]
  cases h1 : l.find? (fun x => gslot ops x.1 == some t) with
  | none =>
    cases h2 : l'.find? (fun x => gslot ops x.1 == some t) with
    | none => rfl
    | some y =>
      have hy := List.mem_of_find?_eq_some h2
      have hp := List.find?_some h2
      have hp' : gslot ops y.1 = some t := by simpa using hp
      have := List.find?_eq_none.1 h1 _ ((hw y.1 y.2 hp').2 hy)
      exact absurd hp this
  | some x =>
    have hx := List.mem_of_find?_eq_some h1
    have hp := List.find?_some h1
    have hp' : gslot ops x.1 = some t := by simpa using hp
    have hx' := (hw x.1 x.2 hp').1 hx
    cases h2 : l'.find? (fun x => gslot ops x.1 == some t) with
    | none => exact absurd hp (List.find?_eq_none.1 h2 _ hx')
    | some y =>
      have hy := List.mem_of_find?_eq_some h2
      have hq : gslot ops y.1 = some t := by simpa using List.find?_some h2
      have e := hone _ _ _ hp' hq
      obtain ⟨i, v⟩ := x
      obtain ⟨j, v'⟩ := y
      simp only at e
      subst e
      exact nodup_val hn' hx' hy
theorem gslot_lt {ops : List Oper} {i t : Nat} (h : gslot ops i = some t) : i < ops.length := by
  unfold gslot at h
  cases ho : ops[i]? with
  | none => simp [ho] at h
  | some o => exact (List.getElem?_eq_some_iff.1 ho).1
def Valid (P : Program) (n : Nat) (ops : List Oper) (i : Nat) (a : Fr) (v : AV) (h : Heap) : Prop :=
  ∃ o, ops[i]? = some o ∧ inb n o.dst ∧ ((gval ops o.guard a = some true ∧ pureOp o.op = true ∧ aop P o.op a h fun v' h' => v' = v ∧ h' = h) ∨ (gval ops o.guard a = some false ∧ v = .undef ∧ pureOp o.op = true))
structure Inv (P : Program) (n : Nat) (ops : List Oper) (plan : Plan) (K : Fr → Heap → Prop) (a0 : Fr) (S : Nat → Prop) (hist : List (Nat × AV)) (rest : Plan) (h : Heap) (done : List (Nat × Fr × AV)) : Prop where
  ord : (hist.map (·.1)).reverse ++ rest.map (·.1) = plan.map (·.1)
  sub : ∃ p, p ++ rest = plan
  run : adr P n ops rest (frm ops a0 hist) h done K
  ran : ∀ i, S i → i ∈ hist.map (·.1)
  effs : ∀ i, i ∈ hist.map (·.1) → isEff ops i = true → S i
  val : ∀ l1 i v l2, hist = l1 ++ (i, v) :: l2 → ¬ S i → Valid P n ops i (frm ops a0 l2) v h
  kept : ∀ l1 i v l2, hist = l1 ++ (i, v) :: l2 → (∃ y, y ∈ plan ∧ y.1 = i ∧ y.2.1 = true) → ¬ S i → (∀ o, ops[i]? = some o → gval ops o.guard (frm ops a0 l2) = some true) → done.find? (fun x => x.1 == i) = some (i, frm ops a0 l2, v)
theorem countP_lt {α : Type} {p p' : α → Bool} {i : α} : ∀ {l : List α}, i ∈ l → (∀ x, p' x = true → p x = true) → p i = true → p' i = false → l.countP p' < l.countP p
  | [], h, _, _, _ => by cases h
  | x :: l, h, hm, h1, h2 => by
    have hle : l.countP p' ≤ l.countP p := List.countP_mono_left (fun x _ => hm x)
    simp only [List.countP_cons]
    rcases List.mem_cons.1 h with rfl | h
    · simp [h1, h2]; omega
    · have ih := countP_lt h hm h1 h2
      by_cases hx : p' x = true
      · simp [hx, hm x hx]; exact ih
      · simp [hx]; split <;> omega
theorem pre_in {ops : List Oper} {plan : Plan} {free : List Nat} (hd : DrawOk ops plan free) {S : Nat → Prop} (hc : ∀ i, S i → ∀ e, e ∈ edgesOf ops i → S e) : ∀ i, i < ops.length → (∀ e, e ∈ edgesOf ops i → S e) → ∀ j, j ∈ (presOf ops).getD i [] → S j := by
  intro i
  induction i using Nat.strongRecOn with
  | _ i ih =>
    intro hi he j hj
    rcases hd.pre i hi j hj with h | ⟨k, hk, hlt, hm⟩
    · exact he j h
    · exact ih k hlt (by omega) (hc k (he k hk)) j hm
theorem absorb {ops : List Oper} {plan : Plan} {free : List Nat} (hd : DrawOk ops plan free) {K : Fr → Heap → Prop} {a0 : Fr} {S : Nat → Prop} {hist : List (Nat × AV)} {x : Nat × Bool × List Nat} {rest : Plan} {h : Heap} {done : List (Nat × Fr × AV)}
    (hv : Inv P n ops plan K a0 S hist (x :: rest) h done) (hp : isEff ops x.1 = false) : ∃ v done', Inv P n ops plan K a0 S ((x.1, v) :: hist) rest h done' := by
  obtain ⟨i, keep, rs⟩ := x
  have hplan : (i, keep, rs) ∈ plan := by obtain ⟨p, hp⟩ := hv.sub; rw [← hp]; simp
  have hnd := hd.nodup
  have hni : i ∉ hist.map (·.1) := by
    have h1 := hv.ord
    rw [← h1] at hnd
    have h2 := List.nodup_append.1 hnd
    intro hm
    exact h2.2.2 i (by simpa using hm) i (by simp) rfl
  have hrun := hv.run
  simp only [adr] at hrun
  cases ho : ops[i]? with
  | none => simp [ho] at hrun
  | some o =>
    simp only [ho] at hrun
    have hpo : pureOp o.op = true := by simpa [isEff, ho] using hp
    have hslot : gslot ops i = o.dst := by simp [gslot, ho]
    obtain ⟨r, hg, hk⟩ := guardK_sound hrun
    have base : ∀ v done', (inb n o.dst ∧ adr P n ops rest (pt o.dst (frm ops a0 hist) v) h done' K) → Valid P n ops i (frm ops a0 hist) v h →
        ((∃ y, y ∈ plan ∧ y.1 = i ∧ y.2.1 = true) → gval ops o.guard (frm ops a0 hist) = some true → done'.find? (fun x => x.1 == i) = some (i, frm ops a0 hist, v)) → (∀ j, j ≠ i → done'.find? (fun x => x.1 == j) = done.find? (fun x => x.1 == j)) →
        Inv P n ops plan K a0 S ((i, v) :: hist) rest h done' := by
      intro v done' h1 h2 h3 h4
      refine ⟨by simpa using hv.ord, by obtain ⟨p, hp⟩ := hv.sub; exact ⟨p ++ [(i, keep, rs)], by simpa using hp⟩, by simp only [frm, hslot]; exact h1.2, fun j hj => List.mem_cons_of_mem _ (hv.ran j hj), fun j hj he => ?_, fun l1 j u l2 hl hj => ?_, fun l1 j u l2 hl hy hj hgv => ?_⟩
      · rcases List.mem_cons.1 hj with e | hj
        · rw [e] at he
          simp only at he hp
          rw [hp] at he
          cases he
        · exact hv.effs j hj he
      · cases l1 with
        | nil =>
          simp only [List.nil_append, List.cons.injEq, Prod.mk.injEq] at hl
          obtain ⟨⟨rfl, rfl⟩, rfl⟩ := hl
          exact h2
        | cons y l1 =>
          simp only [List.cons_append, List.cons.injEq] at hl
          exact hv.val l1 j u l2 hl.2 hj
      · cases l1 with
        | nil =>
          simp only [List.nil_append, List.cons.injEq, Prod.mk.injEq] at hl
          obtain ⟨⟨rfl, rfl⟩, rfl⟩ := hl
          exact h3 hy (hgv o ho)
        | cons y l1 =>
          simp only [List.cons_append, List.cons.injEq] at hl
          have hne : j ≠ i := by
            rintro rfl
            exact hni (by rw [hl.2]; simp)
          rw [h4 j hne]
          exact hv.kept l1 j u l2 hl.2 hy hj hgv
    cases r with
    | true =>
      simp only [hpo] at hk
      obtain ⟨v, hv1, hk⟩ := hk
      have hk2 := putK_sound hk
      refine ⟨v, _, base v _ hk2 ⟨o, ho, hk2.1, .inl ⟨hg, hpo, hv1⟩⟩ ?_ ?_⟩
      · rintro ⟨y, hy, hy1, hy2⟩ _
        have : y = (i, keep, rs) := by
          have key : ∀ (l : Plan), (l.map (·.1)).Nodup → ∀ y z, y ∈ l → z ∈ l → y.1 = z.1 → y = z := by
            intro l
            induction l with
            | nil => intro _ y z hy; cases hy
            | cons a l ih =>
              intro hn y z hy hz e
              simp only [List.map_cons, List.nodup_cons] at hn
              rcases List.mem_cons.1 hy with e1 | k1 <;> rcases List.mem_cons.1 hz with e2 | k2
              · rw [e1, e2]
              · rw [e1] at e; exact absurd (List.mem_map.2 ⟨_, k2, e.symm⟩) hn.1
              · rw [e2] at e; exact absurd (List.mem_map.2 ⟨_, k1, e⟩) hn.1
              · exact ih hn.2 y z k1 k2 e
          exact key plan hd.nodup y _ hy hplan hy1
        subst this
        simp only at hy2
        subst hy2
        simp
      · intro j hj
        cases keep with
        | true => simp [List.find?_cons, Ne.symm hj]
        | false => rfl
    | false =>
      have hk2 := putK_sound hk
      refine ⟨.undef, done, base _ _ hk2 ⟨o, ho, hk2.1, .inr ⟨hg, rfl, hpo⟩⟩ ?_ (fun _ _ => rfl)⟩
      intro _ hgt
      rw [hg] at hgt
      cases hgt
end
end Go.AL
end
section
namespace Go.AL
set_option linter.unusedVariables false
set_option linter.unusedSimpArgs false
set_option linter.unnecessarySimpa false
section
variable {P : Program} {n : Nat}
def Sof (listed : Array Bool) (i : Nat) : Prop := listed.getD i false = true
def filt (listed : Array Bool) (hist : List (Nat × AV)) : List (Nat × AV) := hist.filter fun x => listed.getD x.1 false
def unl (N : Nat) (listed : Array Bool) : Nat := (List.range N).countP fun i => !listed.getD i false
theorem Sof_set {listed : Array Bool} {i j : Nat} (hi : i < listed.size) : Sof (listed.setIfInBounds i true) j ↔ j = i ∨ Sof listed j := by
  unfold Sof
  by_cases e : j = i
  · subst e; simp [hi]
  · rw [getD_set_ne false (Ne.symm e)]
    simp [e]
theorem mem_filt {listed : Array Bool} {hist : List (Nat × AV)} {x : Nat × AV} : x ∈ filt listed hist ↔ x ∈ hist ∧ Sof listed x.1 := by
  simp [filt, Sof]
theorem filt_nodup {listed : Array Bool} {hist : List (Nat × AV)} (h : (hist.map (·.1)).Nodup) : ((filt listed hist).map (·.1)).Nodup :=
  List.Nodup.sublist (List.Sublist.map _ List.filter_sublist) h
theorem gval_congr {ops : List Oper} {i : Nat} {o : Oper} (ho : ops[i]? = some o) {a a' : Fr} (h : ∀ t, t ∈ tmsOf ops i → a t = a' t) : gval ops o.guard a = gval ops o.guard a' := by
  cases hg : o.guard with
  | none => rfl
  | some x =>
    obtain ⟨j, want⟩ := x
    simp only [gval]
    cases hs : gslot ops j with
    | none => rfl
    | some t =>
      have := h t (by simp [tmsOf, ho, hg, hs])
      simp only [this]
theorem Inv.nodup {ops : List Oper} {plan : Plan} {free : List Nat} (hd : DrawOk ops plan free) {K : Fr → Heap → Prop} {a0 : Fr} {S : Nat → Prop} {hist : List (Nat × AV)} {rest : Plan} {h : Heap} {done : List (Nat × Fr × AV)} (hv : Inv P n ops plan K a0 S hist rest h done) :
    (hist.map (·.1)).Nodup ∧ ∀ i, i ∈ hist.map (·.1) → i ∉ rest.map (·.1) := by
  have hnd := hd.nodup
  rw [← hv.ord] at hnd
  have h2 := List.nodup_append.1 hnd
  refine ⟨(List.pairwise_reverse.1 h2.1).imp (fun hne => hne.symm), fun i hi hr => h2.2.2 i (by simpa using hi) i hr rfl⟩
theorem idxOf_lt_of_hist {α : Type} [BEq α] [LawfulBEq α] {l1 l2 : List α} {x y : α} (hx : x ∈ l1) (hy : y ∉ l1) : (l1 ++ l2).idxOf x < (l1 ++ l2).idxOf y := by
  rw [List.idxOf_append, List.idxOf_append, if_pos hx, if_neg hy]
  have := List.idxOf_lt_length_of_mem hx
  omega
theorem agree {ops : List Oper} {plan : Plan} {free : List Nat} (hd : DrawOk ops plan free) {listed : Array Bool} {a0 : Fr} {hist l1 l2 : List (Nat × AV)} {i : Nat} (hl : i < ops.length) (hs : ¬ Sof listed i) (hc : ∀ i, Sof listed i → ∀ e, e ∈ edgesOf ops i → Sof listed e)
    (he : ∀ e, e ∈ edgesOf ops i → Sof listed e) (hn : (hist.map (·.1)).Nodup) (hh : hist = l1 ++ l2) (hi2 : i ∉ l2.map (·.1)) (hord : ∃ r, (hist.map (·.1)).reverse ++ r = plan.map (·.1))
    (hpos : ∀ j, j ∈ l1.map (·.1) → j ≠ i → (plan.map (·.1)).idxOf i < (plan.map (·.1)).idxOf j) (hpos2 : ∀ j, j ∈ l2.map (·.1) → (plan.map (·.1)).idxOf j < (plan.map (·.1)).idxOf i) :
    ∀ t, t ∈ tmsOf ops i → frm ops a0 (filt listed hist) t = frm ops a0 l2 t := by
  intro t ht
  have hone : ∀ i j t, gslot ops i = some t → gslot ops j = some t → i = j := fun i j t h1 h2 => hd.one i j t (gslot_lt h1) (gslot_lt h2) h1 h2
  have hpre := pre_in hd hc
  have hn2 : (l2.map (·.1)).Nodup := by rw [hh] at hn; simp only [List.map_append] at hn; exact (List.nodup_append.1 hn).2.1
  refine frm_same hone hn2 fun j v hj => ?_
  rw [mem_filt]
  have hjl := gslot_lt hj
  by_cases hji : j = i
  · subst hji
    exact ⟨fun h => absurd h.2 hs, fun h => absurd (List.mem_map.2 ⟨_, h, rfl⟩) hi2⟩
  · rcases hd.tms i hl t ht j hjl hji hj with ⟨hp, hm⟩ | ⟨hp, hm⟩
    · have hSj := hpre i hl he j hm
      constructor
      · rintro ⟨h1, _⟩
        rw [hh] at h1
        rcases List.mem_append.1 h1 with h1 | h1
        · have := hpos j (List.mem_map.2 ⟨_, h1, rfl⟩) hji
          omega
        · exact h1
      · intro h2
        exact ⟨by rw [hh]; exact List.mem_append_right _ h2, hSj⟩
    · constructor
      · rintro ⟨h1, h2⟩
        have h3 := hpre j hjl (hc j h2) i hm
        exact absurd h3 hs
      · intro h2
        have := hpos2 j (List.mem_map.2 ⟨_, h2, rfl⟩)
        omega
theorem filt_step {ops : List Oper} {plan : Plan} {free : List Nat} (hd : DrawOk ops plan free) {listed : Array Bool} {a0 : Fr} {hist : List (Nat × AV)} {i : Nat} {v : AV} (hil : i < listed.size) (hn : (hist.map (·.1)).Nodup) (hm : (i, v) ∈ hist) :
    frm ops a0 (filt (listed.setIfInBounds i true) hist) = pt (gslot ops i) (frm ops a0 (filt listed hist)) v := by
  have hone : ∀ i j t, gslot ops i = some t → gslot ops j = some t → i = j := fun i j t h1 h2 => hd.one i j t (gslot_lt h1) (gslot_lt h2) h1 h2
  funext t
  have hrhs : pt (gslot ops i) (frm ops a0 (filt listed hist)) v = frm ops a0 ((i, v) :: (filt listed hist).filter fun x => x.1 != i) ∨ True := .inr trivial
  by_cases ht : gslot ops i = some t
  · rw [ht]
    simp only [pt, upd_same]
    rw [frm_find]
    cases hf : (filt (listed.setIfInBounds i true) hist).find? (fun x => gslot ops x.1 == some t) with
    | none =>
      have := List.find?_eq_none.1 hf (i, v) (mem_filt.2 ⟨hm, (Sof_set hil).2 (.inl rfl)⟩)
      simp [ht] at this
    | some y =>
      have hy := (mem_filt.1 (List.mem_of_find?_eq_some hf)).1
      have hq : gslot ops y.1 = some t := by simpa using List.find?_some hf
      obtain ⟨j, v'⟩ := y
      have e : j = i := hone j i t hq ht
      subst e
      exact nodup_val hn hy hm
  · have h1 : pt (gslot ops i) (frm ops a0 (filt listed hist)) v t = frm ops a0 (filt listed hist) t := by
      cases hs : gslot ops i with
      | none => rfl
      | some d => simp only [pt]; rw [upd_ne]; rintro rfl; exact ht hs
    rw [h1]
    refine frm_same hone (filt_nodup hn) fun j u hj => ?_
    rw [mem_filt, mem_filt, Sof_set hil]
    constructor
    · rintro ⟨h2, h3 | h3⟩
      · exact absurd (h3 ▸ hj) ht
      · exact ⟨h2, h3⟩
    · rintro ⟨h2, h3⟩
      exact ⟨h2, .inr h3⟩
theorem unl_lt {N : Nat} {listed : Array Bool} {i : Nat} (hi : i < N) (hil : i < listed.size) (hs : ¬ Sof listed i) : unl N (listed.setIfInBounds i true) < unl N listed := by
  refine countP_lt (i := i) (List.mem_range.2 hi) (fun x hx => ?_) ?_ ?_
  · simp only [Bool.not_eq_true', Bool.not_eq_eq_eq_not, Bool.not_true] at hx ⊢
    by_cases e : x = i
    · subst e
      simp [hil] at hx
    · rwa [getD_set_ne false (Ne.symm e)] at hx
  · simpa [Sof] using hs
  · simp [hil]
theorem absorbs {ops : List Oper} {plan : Plan} {free : List Nat} (hd : DrawOk ops plan free) {K : Fr → Heap → Prop} {a0 : Fr} {S : Nat → Prop} {h : Heap} : ∀ (R1 : Plan) {hist : List (Nat × AV)} {rest : Plan} {done : List (Nat × Fr × AV)},
    Inv P n ops plan K a0 S hist (R1 ++ rest) h done → (∀ x, x ∈ R1 → isEff ops x.1 = false) → ∃ hist' done', Inv P n ops plan K a0 S hist' rest h done' ∧ (∃ l, hist' = l ++ hist)
  | [], hist, rest, done, hv, hp => ⟨hist, done, hv, [], rfl⟩
  | x :: R1, hist, rest, done, hv, hp => by
    obtain ⟨v, done', hv'⟩ := absorb hd (rest := R1 ++ rest) hv (hp x (by simp))
    obtain ⟨hist', done'', h1, l, h2⟩ := absorbs hd R1 hv' (fun y hy => hp y (List.mem_cons_of_mem _ hy))
    exact ⟨hist', done'', h1, l ++ [(x.1, v)], by rw [h2]; simp⟩
theorem reK_get {ops : List Oper} {done : List (Nat × Fr × AV)} {h : Heap} {j : Nat} {a : Fr} {v : AV} {o : Oper} : ∀ {rs : List Nat}, reK P ops done h rs → j ∈ rs → done.find? (fun x => x.1 == j) = some (j, a, v) → ops[j]? = some o → aop P o.op a h fun v' h' => v' = v ∧ h' = h
  | [], hr, hj, _, _ => by cases hj
  | k :: rs, hr, hj, hf, ho => by
    rcases List.mem_cons.1 hj with e | hj'
    · subst e
      have := hr.1
      simp only [hf, ho] at this
      exact this
    · exact reK_get hr.2 hj' hf ho
theorem draw_pick {ops : Array Oper} {plan : Plan} {free : List Nat} (hd : DrawOk ops.toList plan free) {K : Fr → Heap → Prop} {a0 : Fr} {Q : Exit → Act → World → Prop} {I0 : Nat → Prop} {β0 : Nat → Nat} {h0 : Heap} {w0 : World} (fuel : Nat)
    (listed : Array Bool) (c : Act) (w : World) (I : Nat → Prop) (β : Nat → Nat) (h : Heap) (hist : List (Nat × AV)) (rest : Plan) (done : List (Nat × Fr × AV)) (i : Nat) (hF : i ∉ hist.map (·.1) → ∀ e, e ∈ free → Sof listed e ∨ e = i)
    (ih : ∀ (listed1 : Array Bool) (c : Act) (w : World) (I : Nat → Prop) (β : Nat → Nat) (h1 : Heap) (hist1 : List (Nat × AV)) (rest1 : Plan) (done1 : List (Nat × Fr × AV)), listed1 = listed.setIfInBounds i true → (i ∈ hist.map (·.1) → hist1 = hist ∧ rest1 = rest ∧ done1 = done ∧ h1 = h) → (i ∉ hist.map (·.1) → ∀ e, e ∈ free → Sof listed1 e) →
      unl ops.toList.length listed1 ≤ fuel → listed1.size = ops.toList.length → (∀ i, Sof listed1 i → ∀ e, e ∈ edgesOf ops.toList i → Sof listed1 e) → Ext I0 β0 h0 w0 I β h1 w → Rel I β h1 w → FRel I β h1.length w n (frm ops.toList a0 (filt listed1 hist1)) c →
      Inv P n ops.toList plan K a0 (Sof listed1) hist1 rest1 h1 done1 → wpAny P .any ops Q fuel listed1 c w)
    (hu : unl ops.toList.length listed ≤ fuel + 1) (hsz : listed.size = ops.toList.length) (hc : ∀ i, Sof listed i → ∀ e, e ∈ edgesOf ops.toList i → Sof listed e) (he : Ext I0 β0 h0 w0 I β h w) (hr : Rel I β h w) (hf : FRel I β h.length w n (frm ops.toList a0 (filt listed hist)) c)
    (hv : Inv P n ops.toList plan K a0 (Sof listed) hist rest h done) (hi : i ∈ Region.ready .any ops listed) : wpOp P ops Q i (wpAny P .any ops Q fuel (listed.setIfInBounds i true)) c w := by
  rw [mem_ready] at hi
  obtain ⟨hil0, o, ho, hed⟩ := hi
  have hio : i < ops.size := (Array.getElem?_eq_some_iff.1 ho).1
  have hin : i < ops.toList.length := by simpa using hio
  have hil : i < listed.size := by omega
  have ho' : ops.toList[i]? = some o := by simpa using ho
  have hs : ¬ Sof listed i := by
    unfold Sof
    simp only [Array.getD_eq_getD_getElem?, Array.getElem?_eq_getElem hil, Option.getD_some] at hil0 ⊢
    simp [hil0]
  have hedge : ∀ e, e ∈ edgesOf ops.toList i → Sof listed e := by
    intro e hem
    simp only [edgesOf, ho', List.mem_map, List.mem_filter] at hem
    obtain ⟨x, ⟨h1, h2⟩, rfl⟩ := hem
    exact hed x (by simpa using h1) h2
  have hslot : gslot ops.toList i = o.dst := by simp [gslot, ho']
  have hc' : ∀ j, Sof (listed.setIfInBounds i true) j → ∀ e, e ∈ edgesOf ops.toList j → Sof (listed.setIfInBounds i true) e := by
    intro j hj e hem
    rw [Sof_set hil] at hj ⊢
    rcases hj with rfl | hj
    · exact .inr (hedge e hem)
    · exact .inr (hc j hj e hem)
  have hu' : unl ops.toList.length (listed.setIfInBounds i true) ≤ fuel := by
    have := unl_lt hin hil hs
    omega
  have hF' : i ∉ hist.map (·.1) → ∀ e, e ∈ free → Sof (listed.setIfInBounds i true) e := fun hni e hfe => by
    rw [Sof_set hil]
    exact (hF hni e hfe).elim .inr .inl
  -- one that has been looked at runs
  have looked : ∀ (hist1 : List (Nat × AV)) (rest1 : Plan) (done1 : List (Nat × Fr × AV)), (i ∈ hist.map (·.1) → hist1 = hist ∧ rest1 = rest ∧ done1 = done) → FRel I β h.length w n (frm ops.toList a0 (filt listed hist1)) c → Inv P n ops.toList plan K a0 (Sof listed) hist1 rest1 h done1 → i ∈ hist1.map (·.1) →
      wpOp P ops Q i (wpAny P .any ops Q fuel (listed.setIfInBounds i true)) c w := by
    intro hist1 rest1 done1 heq hf hv hm
    obtain ⟨⟨i', v⟩, hmem, rfl⟩ := List.mem_map.1 hm
    simp only at *
    obtain ⟨l1, l2, hh⟩ := List.append_of_mem hmem
    have hnd := (hv.nodup hd).1
    obtain ⟨o2, ho2, hinb, hval⟩ := hv.val l1 i' v l2 hh hs
    rw [ho'] at ho2
    injection ho2 with ho2
    subst ho2
    have hsplit := hnd
    rw [hh] at hsplit
    simp only [List.map_append, List.map_cons] at hsplit
    have hs3 := List.nodup_append.1 hsplit
    have hs4 := List.nodup_cons.1 hs3.2.1
    have hplan : plan.map (·.1) = (l2.map (·.1)).reverse ++ (i' :: ((l1.map (·.1)).reverse ++ rest1.map (·.1))) := by
      rw [← hv.ord, hh]; simp
    have hag := agree (a0 := a0) (l1 := l1 ++ [(i', v)]) (l2 := l2) hd hin hs hc hedge hnd (by rw [hh]; simp) hs4.1 ⟨_, hv.ord⟩
      (fun j hj hne => by
        rw [hplan]
        have hj1 : j ∈ l1.map (·.1) := by
          simp only [List.map_append, List.mem_append, List.map_cons, List.map_nil, List.mem_singleton] at hj
          exact hj.resolve_right hne
        have hj2 : j ∉ l2.map (·.1) := fun h => hs3.2.2 j hj1 j (List.mem_cons_of_mem _ h) rfl
        have h5 : i' ∉ (l2.map (·.1)).reverse := by simpa using hs4.1
        have h6 : j ∉ (l2.map (·.1)).reverse := by simpa using hj2
        rw [List.idxOf_append, List.idxOf_append, if_neg h5, if_neg h6, List.idxOf_cons_self, List.idxOf_cons, show (i' == j) = false from beq_eq_false_iff_ne.2 (Ne.symm hne)]
        simp only [cond_false]
        omega)
      (fun j hj => by
        rw [hplan]
        exact idxOf_lt_of_hist (by simpa using hj) (by simpa using hs4.1))
    have hgc := gval_congr ho' hag
    have hnext : ∀ (u : AV) (cv : Value) (I' : Nat → Prop) (β' : Nat → Nat) (h' : Heap) (w' : World), (u = v ∧ h' = h) → Ext I β h w I' β' h' w' → Rel I' β' h' w' → VRel I' β' h'.length w' u cv → wpAny P .any ops Q fuel (listed.setIfInBounds i' true) (c.put o.dst cv) w' := by
      rintro u cv I' β' h' w' ⟨rfl, rfl⟩ e1 e2 e3
      refine ih _ _ _ I' β' h' hist1 rest1 done1 rfl (fun hx => ⟨(heq hx).1, (heq hx).2.1, (heq hx).2.2, rfl⟩) hF' hu' (by simpa using hsz) hc' (he.trans e1) e2 ?_ ?_
      · rw [filt_step hd hil hnd hmem, hslot]
        exact (hf.ext hr e1).pt hinb e3
      · refine ⟨hv.ord, hv.sub, hv.run, fun j hj => ?_, fun j hj he => (Sof_set hil).2 (.inr (hv.effs j hj he)), fun a b d f g k => hv.val a b d f g (fun x => k ((Sof_set hil).2 (.inr x))), fun a b d f g k x y => hv.kept a b d f g k (fun z => x ((Sof_set hil).2 (.inr z))) y⟩
        rw [Sof_set hil] at hj
        rcases hj with rfl | hj
        · exact hm
        · exact hv.ran j hj
    rcases hval with ⟨hg, hp, hop⟩ | ⟨hg, rfl, hp⟩
    · refine wpOp_of (h := h) (r := true) ho (by rw [hgc]; exact hg) (fun u h' => u = v ∧ h' = h) (fun _ => aop_sound (aop_congr (fun t ht => (hag t ?_).symm) hop)) (fun e => by cases e) hr hf hnext
      simp only [tmsOf, ho']
      exact List.mem_append_left _ ht
    · exact wpOp_of (h := h) (r := false) ho (by rw [hgc]; exact hg) (fun u h' => u = .undef ∧ h' = h) (fun e => by cases e) (fun _ => ⟨rfl, rfl⟩) hr hf hnext
  by_cases hm : i ∈ hist.map (·.1)
  · exact looked hist rest done (fun _ => ⟨rfl, rfl, rfl⟩) hf hv hm
  · -- it has not been looked at
    have hir : i ∈ rest.map (·.1) := by
      have := hd.all i hin
      rw [← hv.ord] at this
      rcases List.mem_append.1 this with h1 | h1
      · exact absurd (by simpa using h1) hm
      · exact h1
    obtain ⟨⟨i', keep, rs⟩, hmem, rfl⟩ := List.mem_map.1 hir
    simp only at *
    obtain ⟨R1, R2, hR⟩ := List.append_of_mem hmem
    have hpre := pre_in hd hc i' hin hedge
    have hpure : ∀ x, x ∈ R1 → isEff ops.toList x.1 = false := by
      intro x hx
      cases hx2 : isEff ops.toList x.1 with
      | false => rfl
      | true =>
        exfalso
        have hxp : x.1 ∈ plan.map (·.1) := by rw [← hv.ord, hR]; simp only [List.map_append, List.mem_append]; exact .inr (.inl (List.mem_map.2 ⟨_, hx, rfl⟩))
        have hnd := hd.nodup
        have hord : plan.map (·.1) = ((hist.map (·.1)).reverse ++ R1.map (·.1)) ++ (i' :: R2.map (·.1)) := by rw [← hv.ord, hR]; simp
        rw [hord] at hnd
        have h2 := List.nodup_append.1 hnd
        have hlt : (plan.map (·.1)).idxOf x.1 < (plan.map (·.1)).idxOf i' := by
          rw [hord]
          exact idxOf_lt_of_hist (List.mem_append_right _ (List.mem_map.2 ⟨_, hx, rfl⟩)) (fun hmm => h2.2.2 i' hmm i' (by simp) rfl)
        have h3 : x.1 ∈ hist.map (·.1) := by
          rcases hd.eff x.1 (hd.lt _ hxp) hx2 i' hin hlt with h | h
          · exact hv.ran _ (hpre x.1 h)
          · rcases hF hm x.1 h with h | h
            · exact hv.ran _ h
            · rw [h] at hlt; exact absurd hlt (Nat.lt_irrefl _)
        exact (hv.nodup hd).2 _ h3 (by rw [hR]; simp only [List.map_append, List.mem_append]; exact .inl (List.mem_map.2 ⟨_, hx, rfl⟩))
    rw [hR] at hv
    obtain ⟨hist', done', hv', l, hl⟩ := absorbs hd R1 hv hpure
    have hfl : filt listed hist' = filt listed hist := by
      rw [hl]
      unfold filt
      rw [List.filter_append]
      have : l.filter (fun x => listed.getD x.1 false) = [] := by
        rw [List.filter_eq_nil_iff]
        intro y hy hsy
        have h1 := hv.ran y.1 hsy
        have h2 := (hv'.nodup hd).1
        rw [hl] at h2
        simp only [List.map_append] at h2
        exact (List.nodup_append.1 h2).2.2 y.1 (List.mem_map.2 ⟨_, hy, rfl⟩) y.1 h1 rfl
      rw [this]
      rfl
    have hf' : FRel I β h.length w n (frm ops.toList a0 (filt listed hist')) c := by rw [hfl]; exact hf
    cases heff : isEff ops.toList i' with
    | false =>
      obtain ⟨v, done'', hv''⟩ := absorb hd (rest := R2) hv' heff
      refine looked _ _ _ (fun hx => absurd hx hm) ?_ hv'' (by simp)
      have : filt listed ((i', v) :: hist') = filt listed hist' := by
        unfold filt
        rw [List.filter_cons_of_neg]
        exact hs
      rw [this]
      exact hf'
    | true =>
      -- it writes
      have hrun := hv'.run
      simp only [adr, ho'] at hrun
      obtain ⟨r, hg, hk⟩ := guardK_sound hrun
      have hpo : pureOp o.op = false := by simpa [isEff, ho'] using heff
      have hnd := hv'.nodup hd
      have hni : i' ∉ hist'.map (·.1) := fun hh => hnd.2 i' hh (by simp)
      have hag := agree (a0 := a0) (l1 := []) (l2 := hist') hd hin hs hc hedge hnd.1 rfl hni ⟨_, hv'.ord⟩ (fun j hj => by cases hj) (fun j hj => by
        rw [← hv'.ord]
        exact idxOf_lt_of_hist (by simpa using hj) (by simpa using hni))
      have hgc := gval_congr ho' hag
      have hplan : (i', keep, rs) ∈ plan := by obtain ⟨p, hp⟩ := hv'.sub; rw [← hp]; simp
      have hnext : ∀ (u : AV) (cv : Value) (I' : Nat → Prop) (β' : Nat → Nat) (h' : Heap) (w' : World), ((h' = h ∨ reK P ops.toList done' h' rs) ∧ inb n o.dst ∧ adr P n ops.toList R2 (pt o.dst (frm ops.toList a0 hist') u) h' done' K) → Ext I β h w I' β' h' w' → Rel I' β' h' w' → VRel I' β' h'.length w' u cv →
          wpAny P .any ops Q fuel (listed.setIfInBounds i' true) (c.put o.dst cv) w' := by
        rintro u cv I' β' h' w' ⟨hre, hinb, hrest⟩ e1 e2 e3
        refine ih _ _ _ I' β' h' ((i', u) :: hist') R2 done' rfl (fun hx => absurd hx hm) hF' hu' (by simpa using hsz) hc' (he.trans e1) e2 ?_ ?_
        · have h1 : filt (listed.setIfInBounds i' true) ((i', u) :: hist') = (i', u) :: filt listed hist' := by
            unfold filt
            rw [List.filter_cons_of_pos (by simp [hil])]
            congr 1
            apply List.filter_congr
            intro y hy
            rw [getD_set_ne false]
            rintro rfl
            exact hni (List.mem_map.2 ⟨_, hy, rfl⟩)
          rw [h1]
          simp only [frm, hslot]
          exact (hf'.ext hr e1).pt hinb e3
        · refine ⟨by simpa using hv'.ord, by obtain ⟨p, hp⟩ := hv'.sub; exact ⟨p ++ [(i', keep, rs)], by simpa using hp⟩, by simp only [frm, hslot]; exact hrest, fun j hj => ?_, fun j hj hje => ?_, fun l1 j v l2 hl2 hj => ?_, fun l1 j v l2 hl2 hy hj hgv => ?_⟩
          · rw [Sof_set hil] at hj
            rcases hj with rfl | hj
            · simp
            · exact List.mem_cons_of_mem _ (hv'.ran j hj)
          · rw [Sof_set hil]
            rcases List.mem_cons.1 hj with e | hj
            · exact .inl e
            · exact .inr (hv'.effs j hj hje)
          · cases l1 with
            | nil =>
              simp only [List.nil_append, List.cons.injEq, Prod.mk.injEq] at hl2
              exact absurd ((Sof_set hil).2 (.inl hl2.1.1.symm)) hj
            | cons y l1 =>
              simp only [List.cons_append, List.cons.injEq] at hl2
              have hjS : ¬ Sof listed j := fun x => hj ((Sof_set hil).2 (.inr x))
              obtain ⟨oj, hoj, hib, hval⟩ := hv'.val l1 j v l2 hl2.2 hjS
              refine ⟨oj, hoj, hib, ?_⟩
              rcases hval with ⟨hg1, hp1, hop1⟩ | hval
              · refine .inl ⟨hg1, hp1, ?_⟩
                rcases hre with rfl | hre
                · exact hop1
                · cases hq : quietOp oj.op with
                  | true => exact aop_quiet hq (fun u hu => ⟨hu.1, rfl⟩) hop1
                  | false =>
                    have hjm : j ∈ hist'.map (·.1) := by rw [hl2.2]; simp
                    have hjp : j ∈ plan.map (·.1) := by rw [← hv'.ord]; exact List.mem_append_left _ (by simpa using hjm)
                    have hjl := hd.lt j hjp
                    have hle : isEff ops.toList j = false := by simp [isEff, hoj, hp1]
                    have hld : isLoad ops.toList j = true := by simp [isLoad, hoj, hq]
                    have hlt : (plan.map (·.1)).idxOf j < (plan.map (·.1)).idxOf i' := by
                      rw [← hv'.ord]
                      exact idxOf_lt_of_hist (by simpa using hjm) (by simpa using hni)
                    obtain ⟨hjr, hky⟩ := hd.re _ hplan heff j hjl hle hld hlt (fun hin2 => hjS (hpre j hin2))
                    have hfd := hv'.kept l1 j v l2 hl2.2 hky hjS (fun o2 ho2 => by rw [hoj] at ho2; injection ho2 with ho2; subst ho2; exact hg1)
                    exact reK_get hre hjr hfd hoj
              · exact .inr hval
          · cases l1 with
            | nil =>
              simp only [List.nil_append, List.cons.injEq, Prod.mk.injEq] at hl2
              exact absurd ((Sof_set hil).2 (.inl hl2.1.1.symm)) hj
            | cons y l1 =>
              simp only [List.cons_append, List.cons.injEq] at hl2
              exact hv'.kept l1 j v l2 hl2.2 hy (fun x => hj ((Sof_set hil).2 (.inr x))) hgv
      cases r with
      | true =>
        simp only [hpo] at hk
        refine wpOp_of (h := h) (r := true) ho (by rw [hgc]; exact hg) _ (fun _ => aop_sound (aop_congr (fun t ht => (hag t ?_).symm) hk)) (fun e => by cases e) hr hf' (fun u cv I' β' h' w' hk2 => hnext u cv I' β' h' w' ⟨.inr hk2.1, putK_sound hk2.2⟩)
        simp only [tmsOf, ho']
        exact List.mem_append_left _ ht
      | false =>
        exact wpOp_of (h := h) (r := false) ho (by rw [hgc]; exact hg) (fun u h' => u = .undef ∧ h' = h) (fun e => by cases e) (fun _ => ⟨rfl, rfl⟩) hr hf' (fun u cv I' β' h' w' hk2 => hnext u cv I' β' h' w' ⟨.inl hk2.2, by obtain ⟨rfl, rfl⟩ := hk2; exact putK_sound hk⟩)
theorem draw_any {ops : Array Oper} {plan : Plan} {free : List Nat} (hd : DrawOk ops.toList plan free) {K : Fr → Heap → Prop} {a0 : Fr} {Q : Exit → Act → World → Prop} {I0 : Nat → Prop} {β0 : Nat → Nat} {h0 : Heap} {w0 : World}
    (hQ : ∀ a' h' I' β' c' w', K a' h' → Ext I0 β0 h0 w0 I' β' h' w' → Rel I' β' h' w' → FRel I' β' h'.length w' n a' c' → Q .normal c' w') :
    ∀ (fuel : Nat) (listed : Array Bool) (c : Act) (w : World) (I : Nat → Prop) (β : Nat → Nat) (h : Heap) (hist : List (Nat × AV)) (rest : Plan) (done : List (Nat × Fr × AV)), (∀ e, e ∈ free → Sof listed e) →
      unl ops.toList.length listed ≤ fuel → listed.size = ops.toList.length → (∀ i, Sof listed i → ∀ e, e ∈ edgesOf ops.toList i → Sof listed e) → Ext I0 β0 h0 w0 I β h w → Rel I β h w → FRel I β h.length w n (frm ops.toList a0 (filt listed hist)) c →
      Inv P n ops.toList plan K a0 (Sof listed) hist rest h done → wpAny P .any ops Q fuel listed c w := by
  intro fuel
  -- the end
  have fin : ∀ (listed : Array Bool) (c : Act) (w : World) (I : Nat → Prop) (β : Nat → Nat) (h : Heap) (hist : List (Nat × AV)) (rest : Plan) (done : List (Nat × Fr × AV)),
      listed.size = ops.toList.length → (∀ i, i < ops.toList.length → Sof listed i) → Ext I0 β0 h0 w0 I β h w → Rel I β h w → FRel I β h.length w n (frm ops.toList a0 (filt listed hist)) c → Inv P n ops.toList plan K a0 (Sof listed) hist rest h done → Q .normal c w := by
    intro listed c w I β h hist rest done hsz hall he hr hf hv
    have hrest : rest = [] := by
      cases rest with
      | nil => rfl
      | cons x rest =>
        have hx : x.1 ∈ plan.map (·.1) := by rw [← hv.ord]; simp
        have h1 := hv.ran x.1 (hall _ (hd.lt _ hx))
        exact absurd (by simp) ((hv.nodup hd).2 _ h1)
    subst hrest
    have hfl : filt listed hist = hist := by
      unfold filt
      rw [List.filter_eq_self]
      intro y hy
      exact hall _ (hd.lt _ (by rw [← hv.ord]; simp only [List.map_nil, List.append_nil, List.mem_reverse]; exact List.mem_map.2 ⟨_, hy, rfl⟩))
    rw [hfl] at hf
    exact hQ _ _ _ _ _ _ hv.run he hr hf
  have ready_nil : ∀ listed : Array Bool, listed.size = ops.toList.length → Region.ready .any ops listed = [] → ∀ i, i < ops.toList.length → Sof listed i := by
    intro listed hsz hr i
    induction i using Nat.strongRecOn with
    | _ i ih =>
      intro hi
      apply Classical.byContradiction
      intro hs
      have hio : i < ops.size := by simpa using hi
      have : i ∈ Region.ready .any ops listed := by
        rw [mem_ready]
        refine ⟨?_, ops[i], Array.getElem?_eq_getElem hio, fun e he hb => ?_⟩
        · have hil : i < listed.size := by omega
          unfold Sof at hs
          simp only [Array.getD_eq_getD_getElem?, Array.getElem?_eq_getElem hil, Option.getD_some] at hs ⊢
          simpa using hs
        · have hem : e.on ∈ edgesOf ops.toList i := by
            have : ops.toList[i]? = some ops[i] := by simp [hio]
            simp only [edgesOf, this]
            exact List.mem_map.2 ⟨e, List.mem_filter.2 ⟨by simpa using he, hb⟩, rfl⟩
          have := hd.back i hi _ hem
          exact ih _ this (by omega)
      rw [hr] at this
      cases this
  induction fuel with
  | zero =>
    intro listed c w I β h hist rest done hF hu hsz hc he hr hf hv
    have hall : ∀ i, i < ops.toList.length → Sof listed i := by
      intro i hi
      apply Classical.byContradiction
      intro hs
      have := unl_lt hi (by omega) hs
      omega
    refine ⟨?_, fin listed c w I β h hist rest done hsz hall he hr hf hv⟩
    cases hrd : Region.ready .any ops listed with
    | nil => rfl
    | cons i l =>
      have hi : i ∈ Region.ready .any ops listed := by rw [hrd]; simp
      rw [mem_ready] at hi
      obtain ⟨h1, o, h2, _⟩ := hi
      have hio : i < ops.size := (Array.getElem?_eq_some_iff.1 h2).1
      have := hall i (by simpa using hio)
      unfold Sof at this
      have hil : i < listed.size := by rw [hsz]; simpa using hio
      simp only [Array.getD_eq_getD_getElem?, Array.getElem?_eq_getElem hil, Option.getD_some] at this h1
      rw [this] at h1
      cases h1
  | succ fuel ih =>
    intro listed c w I β h hist rest done hF hu hsz hc he hr hf hv
    refine ⟨fun hrd => fin listed c w I β h hist rest done hsz (ready_nil listed hsz hrd) he hr hf hv, fun i hi => ?_⟩
    have hil0 : i < listed.size := by
      have := hi
      rw [mem_ready] at this
      have := (Array.getElem?_eq_some_iff.1 this.2.choose_spec.1).1
      have e : ops.size = ops.toList.length := by simp
      omega
    exact draw_pick hd fuel listed c w I β h hist rest done i (fun _ e hfe => .inl (hF e hfe)) (fun listed1 c1 w1 I1 β1 h1 hist1 rest1 done1 el _ _ => ih listed1 c1 w1 I1 β1 h1 hist1 rest1 done1 (fun e hfe => by rw [el, Sof_set hil0]; exact .inr (hF e hfe))) hu hsz hc he hr hf hv hi
theorem draw_sound {ops : Array Oper} {plan : Plan} {id : Nat} (hm : P.follows .mixedOrders = true) (hd : drawChk ops.toList plan = true) {K : Fr → Heap → Prop} {a : Fr} {h : Heap} {Q : Exit → Act → World → Prop} {I : Nat → Prop} {β : Nat → Nat} {w : World} {c : Act}
    (r : Rel I β h w) (f : FRel I β h.length w n a c) (hk : adr P n ops.toList plan a h [] K)
    (hQ : ∀ a' h' I' β' c' w', K a' h' → Ext I β h w I' β' h' w' → Rel I' β' h' w' → FRel I' β' h'.length w' n a' c' → Q .normal c' w') : (Code.region id ops true).wp P Q c w := by
  refine wp_region_any hm ?_
  have hd' := drawOk (free := []) hd
  have hnone : ∀ i, ¬ Sof (Array.replicate ops.size false) i := by
    intro i hi
    unfold Sof at hi
    simp only [Array.getD_eq_getD_getElem?, Array.getElem?_replicate] at hi
    split at hi <;> simp at hi
  refine draw_any (n := n) hd' (a0 := a) hQ ops.size (Array.replicate ops.size false) c { w with drawn := w.drawn + 1 } I β h [] plan [] (fun e he => by cases he) ?_ (by simp) (fun i hi => absurd hi (hnone i)) (Ext.heapEq rfl rfl rfl rfl) (r.heapEq rfl) (f.heapEq rfl) ?_
  · unfold unl
    refine Nat.le_trans List.countP_le_length (by simp)
  · exact ⟨by simp, ⟨[], rfl⟩, hk, fun i hi => absurd hi (hnone i), (fun i hi => by cases hi), (fun l1 i v l2 hl => by cases l1 <;> cases hl), (fun l1 i v l2 hl => by cases l1 <;> cases hl)⟩
end
end Go.AL
end
