/- The words of a small logic over the kit's calculus: Go values as trees, a heap of numbered objects, and how the two stand to the model's memory. No condition. -/
import Derived.WalkKit
import Derived.Orders
namespace Go.AL
set_option linter.unusedVariables false
set_option linter.unusedSimpArgs false

/-- A value as a tree. 'ip', 'isl': a pointer, a slice, into memory that nobody writes any more: told by what lies there. 'op', 'osl', 'om': into an object of the heap. -/
inductive AV where
  | int (k : IntKind) (n : Int)
  | bool (b : Bool)
  | str (s : ByteArray)
  | flt (k : FloatKind) (bits : Nat)
  | nilp
  | nils
  | nilf
  | nili
  | nilm
  | ip (cells : List AV) (off : Nat)
  | isl (k : Nat) (es : List (List AV))
  | op (id k e off : Nat)
  | osl (id k i len cap : Nat) (ex : Bool)
  | om (id : Nat)
  | fn (f : Fn) (first cap : List AV)
  | ifc (t : TypeId) (v : AV)
  | agg (cs : List AV)
  | tup (vs : List AV)
  | any
  deriving Inhabited

inductive Ob where
  | dead
  | arr (k : Nat) (es : List (List AV)) (ex : Bool)
  | map (es : List (AV × AV × Nat)) (clock : Nat)
  deriving Inhabited

abbrev Heap := List Ob
abbrev Fr := Nat → AV
def AV.undef : AV := .tup []
def upd (a : Fr) (d : Nat) (v : AV) : Fr := fun t => if t = d then v else a t
theorem upd_same (a : Fr) (d : Nat) (v : AV) : upd a d v d = v := by simp [upd]
theorem upd_ne (a : Fr) (d t : Nat) (v : AV) (h : t ≠ d) : upd a d v t = a t := by simp [upd, h]

/-- How many cells a block has. -/
def bsize (w : World) (b : Nat) : Option Nat :=
  match w.heap[b]? with
  | some (.cells c _ _) => some c.size
  | _ => none

/-- A tree and a value of the machine, in memory that nobody writes (the blocks I). -/
inductive IRel (I : Nat → Prop) (w : World) : AV → Value → Prop
  | int (k : IntKind) (n : Int) : IRel I w (.int k n) (.int k n)
  | bool (b : Bool) : IRel I w (.bool b) (.bool b)
  | str (s : ByteArray) : IRel I w (.str s) (.string s)
  | flt (k : FloatKind) (n : Nat) : IRel I w (.flt k n) (.float k n)
  | nilp : IRel I w .nilp (.pointer none)
  | nils : IRel I w .nils (.slice none 0 0)
  | nilf : IRel I w .nilf .nilFunc
  | nili : IRel I w .nili .nilIface
  | nilm : IRel I w .nilm (.map none)
  | ip (cells : List AV) (off b o : Nat) (vs : List Value) : I b → vs.length = cells.length →
      (∀ (j : Nat) (v : Value), vs[j]? = some v → w.cell? ⟨b, o + j, none⟩ = some v) → (∀ (j : Nat) (v : Value), vs[j]? = some v → v.oneCell' = true) → (∀ (j : Nat) (u : AV) (v : Value), cells[j]? = some u → vs[j]? = some v → IRel I w u v) →
      IRel I w (.ip cells off) (.pointer (some ⟨b, o + off, none⟩))
  | isl0 (k : Nat) (A : Option Addr) (c : Nat) : IRel I w (.isl k []) (.slice A 0 c)
  | isl (k : Nat) (es : List (List AV)) (b o c : Nat) (f : Nat → Nat → Value) : es ≠ [] → es.length ≤ c → I b → (∀ (i : Nat) (e : List AV), es[i]? = some e → e.length = k) →
      (∀ (i : Nat) (e : List AV) (j : Nat) (u : AV), es[i]? = some e → e[j]? = some u → w.cell? ⟨b, o + (i * k + j), none⟩ = some (f i j)) →
      (∀ (i : Nat) (e : List AV) (j : Nat) (u : AV), es[i]? = some e → e[j]? = some u → (f i j).oneCell' = true) →
      (∀ (i : Nat) (e : List AV) (j : Nat) (u : AV), es[i]? = some e → e[j]? = some u → IRel I w u (f i j)) →
      IRel I w (.isl k es) (.slice (some ⟨b, o, none⟩) es.length c)
  | fn (f : Fn) (fs cs : List AV) (fs' cs' : Array Value) : fs'.size = fs.length → cs'.size = cs.length → (∀ (j : Nat) (u : AV) (v : Value), fs[j]? = some u → fs'[j]? = some v → IRel I w u v) →
      (∀ (j : Nat) (u : AV) (v : Value), cs[j]? = some u → cs'[j]? = some v → IRel I w u v) → IRel I w (.fn f fs cs) (.func f fs' cs')
  | ifc (t : TypeId) (u : AV) (v : Value) : IRel I w u v → IRel I w (.ifc t u) (.iface t v)
  | agg (cs : List AV) (cs' : Array Value) : cs'.size = cs.length → (∀ (j : Nat) (v : Value), cs'[j]? = some v → v.oneCell' = true) → (∀ (j : Nat) (u : AV) (v : Value), cs[j]? = some u → cs'[j]? = some v → IRel I w u v) → IRel I w (.agg cs) (.agg cs')
  | tup (cs : List AV) (cs' : Array Value) : cs'.size = cs.length → (∀ (j : Nat) (u : AV) (v : Value), cs[j]? = some u → cs'[j]? = some v → IRel I w u v) → IRel I w (.tup cs) (.tuple cs')

theorem cell?_of_heap {w w' : World} {b o : Nat} (h : w'.heap[b]? = w.heap[b]?) : w'.cell? ⟨b, o, none⟩ = w.cell? ⟨b, o, none⟩ := by
  simp [World.cell?, h]
theorem bsize_of_heap {w w' : World} {b : Nat} (h : w'.heap[b]? = w.heap[b]?) : bsize w' b = bsize w b := by
  simp [bsize, h]

theorem IRel.mono {I I' : Nat → Prop} {w w' : World} (hI : ∀ b, I b → I' b) (hw : ∀ b, I b → w'.heap[b]? = w.heap[b]?) {u : AV} {v : Value} (h : IRel I w u v) : IRel I' w' u v := by
  induction h with
  | int k n => exact .int k n
  | bool b => exact .bool b
  | str s => exact .str s
  | flt k n => exact .flt k n
  | nilp => exact .nilp
  | nils => exact .nils
  | nilf => exact .nilf
  | nili => exact .nili
  | nilm => exact .nilm
  | ip cells off b o vs hb hl hc h1 _ ih => exact .ip cells off b o vs (hI b hb) hl (fun j v hj => (cell?_of_heap (hw b hb)).trans (hc j v hj)) h1 ih
  | isl0 k A c => exact .isl0 k A c
  | isl k es b o c f hne hl hb hk hc ho _ ih => exact .isl k es b o c f hne hl (hI b hb) hk (fun i e j u h1 h2 => (cell?_of_heap (hw b hb)).trans (hc i e j u h1 h2)) ho ih
  | fn f fs cs fs' cs' h1 h2 _ _ ih1 ih2 => exact .fn f fs cs fs' cs' h1 h2 ih1 ih2
  | ifc t u v _ ih => exact .ifc t u v ih
  | agg cs cs' h1 h2 _ ih => exact .agg cs cs' h1 h2 ih
  | tup cs cs' h1 _ ih => exact .tup cs cs' h1 ih

/-- A tree and a value of the machine: β: in which block an object lies; N: how many objects have been named. -/
inductive VRel (I : Nat → Prop) (β : Nat → Nat) (N : Nat) (w : World) : AV → Value → Prop
  | imm (u : AV) (v : Value) : IRel I w u v → VRel I β N w u v
  | any (v : Value) : VRel I β N w .any v
  | op (id k e off : Nat) : id < N → VRel I β N w (.op id k e off) (.pointer (some ⟨β id, e * k + off, none⟩))
  | osl (id k i len cap : Nat) (ex : Bool) (c n : Nat) : id < N → len ≤ cap → cap ≤ c → (ex = true → c = cap) → bsize w (β id) = some n → (i + c) * k ≤ n →
      VRel I β N w (.osl id k i len cap ex) (.slice (some ⟨β id, i * k, none⟩) len c)
  | om (id : Nat) : id < N → VRel I β N w (.om id) (.map (some (β id)))
  | fn (f : Fn) (fs cs : List AV) (fs' cs' : Array Value) : fs'.size = fs.length → cs'.size = cs.length → (∀ (j : Nat) (u : AV) (v : Value), fs[j]? = some u → fs'[j]? = some v → VRel I β N w u v) →
      (∀ (j : Nat) (u : AV) (v : Value), cs[j]? = some u → cs'[j]? = some v → VRel I β N w u v) → VRel I β N w (.fn f fs cs) (.func f fs' cs')
  | ifc (t : TypeId) (u : AV) (v : Value) : VRel I β N w u v → VRel I β N w (.ifc t u) (.iface t v)
  | agg (cs : List AV) (cs' : Array Value) : cs'.size = cs.length → (∀ (j : Nat) (v : Value), cs'[j]? = some v → v.oneCell' = true) → (∀ (j : Nat) (u : AV) (v : Value), cs[j]? = some u → cs'[j]? = some v → VRel I β N w u v) → VRel I β N w (.agg cs) (.agg cs')
  | tup (cs : List AV) (cs' : Array Value) : cs'.size = cs.length → (∀ (j : Nat) (u : AV) (v : Value), cs[j]? = some u → cs'[j]? = some v → VRel I β N w u v) → VRel I β N w (.tup cs) (.tuple cs')

theorem VRel.mono {I I' : Nat → Prop} {β β' : Nat → Nat} {N N' : Nat} {w w' : World} (hI : ∀ b, I b → I' b) (hw : ∀ b, I b → w'.heap[b]? = w.heap[b]?) (hN : N ≤ N') (hβ : ∀ id, id < N → β' id = β id)
    (hs : ∀ b n, bsize w b = some n → bsize w' b = some n) {u : AV} {v : Value} (h : VRel I β N w u v) : VRel I' β' N' w' u v := by
  induction h with
  | imm u v h => exact .imm u v (h.mono hI hw)
  | any v => exact .any v
  | op id k e off h => rw [← hβ id h]; exact .op id k e off (by omega)
  | osl id k i len cap ex c n h h0 h1 h2 h3 h4 => rw [← hβ id h]; exact .osl id k i len cap ex c n (by omega) h0 h1 h2 (by rw [hβ id h]; exact hs _ _ h3) h4
  | om id h => rw [← hβ id h]; exact .om id (by omega)
  | fn f fs cs fs' cs' h1 h2 _ _ ih1 ih2 => exact .fn f fs cs fs' cs' h1 h2 ih1 ih2
  | ifc t u v _ ih => exact .ifc t u v ih
  | agg cs cs' h1 h2 _ ih => exact .agg cs cs' h1 h2 ih
  | tup cs cs' h1 _ ih => exact .tup cs cs' h1 ih

/-- Entries of a map. -/
def MRel (I : Nat → Prop) (β : Nat → Nat) (N : Nat) (w : World) (es : List (AV × AV × Nat)) (es' : Array MapEntry) : Prop :=
  es'.size = es.length ∧ ∀ (j : Nat) (x : AV × AV × Nat) (y : MapEntry), es[j]? = some x → es'[j]? = some y → VRel I β N w x.1 y.key ∧ VRel I β N w x.2.1 y.val ∧ x.2.2 = y.born

/-- An object of the heap and a block. -/
def ORel (I : Nat → Prop) (β : Nat → Nat) (N : Nat) (w : World) : Ob → Option Obj → Prop
  | .dead, _ => True
  | .arr k es ex, o => ∃ cur t, o = some (.cells cur t (0, 0)) ∧ (∀ (i : Nat) (e : List AV), es[i]? = some e → e.length = k) ∧ es.length * k ≤ cur.size ∧ (ex = true → cur.size = es.length * k) ∧
      ∀ (i : Nat) (e : List AV) (j : Nat) (u : AV), es[i]? = some e → e[j]? = some u → ∃ v, cur[i * k + j]? = some v ∧ VRel I β N w u v ∧ v.oneCell' = true
  | .map es clock, o => ∃ es', o = some (.map es' clock) ∧ MRel I β N w es es'

/-- The heap's objects lie each in a block of its own, and none of these is of I. -/
structure Rel (I : Nat → Prop) (β : Nat → Nat) (h : Heap) (w : World) : Prop where
  imm : ∀ b, I b → b < w.heap.size
  obj : ∀ (id : Nat) (o : Ob), h[id]? = some o → o ≠ .dead → β id < w.heap.size ∧ ¬ I (β id) ∧ ORel I β h.length w o w.heap[β id]?
  inj : ∀ (id id' : Nat) (o o' : Ob), h[id]? = some o → o ≠ .dead → h[id']? = some o' → o' ≠ .dead → β id = β id' → id = id'

def Own (h : Heap) (β : Nat → Nat) (b : Nat) : Prop := ∃ (id : Nat) (o : Ob), h[id]? = some o ∧ o ≠ .dead ∧ β id = b

/-- How a world may turn under whoever owns h. -/
structure Ext (I : Nat → Prop) (β : Nat → Nat) (h : Heap) (w : World) (I' : Nat → Prop) (β' : Nat → Nat) (h' : Heap) (w' : World) : Prop where
  os : w'.os = w.os
  tape : w'.tape = w.tape
  output : w'.output = w.output
  size : w.heap.size ≤ w'.heap.size
  len : h.length ≤ h'.length
  beta : ∀ id, id < h.length → β' id = β id
  sub : ∀ b, I b → I' b
  immnew : ∀ b, I' b → I b ∨ Own h β b ∨ w.heap.size ≤ b
  own : ∀ b, Own h' β' b → Own h β b ∨ w.heap.size ≤ b
  keep : ∀ b, b < w.heap.size → ¬ Own h β b → w'.heap[b]? = w.heap[b]?
  bs : ∀ b n, bsize w b = some n → bsize w' b = some n

theorem Ext.refl (I : Nat → Prop) (β : Nat → Nat) (h : Heap) (w : World) : Ext I β h w I β h w :=
  ⟨rfl, rfl, rfl, Nat.le_refl _, Nat.le_refl _, fun _ _ => rfl, fun _ x => x, fun _ x => .inl x, fun _ x => .inl x, fun _ _ _ => rfl, fun _ _ x => x⟩

theorem Ext.trans {I I1 I2 : Nat → Prop} {β β1 β2 : Nat → Nat} {h h1 h2 : Heap} {w w1 w2 : World} (a : Ext I β h w I1 β1 h1 w1) (b : Ext I1 β1 h1 w1 I2 β2 h2 w2) : Ext I β h w I2 β2 h2 w2 where
  os := b.os.trans a.os
  tape := b.tape.trans a.tape
  output := b.output.trans a.output
  size := Nat.le_trans a.size b.size
  len := Nat.le_trans a.len b.len
  beta := fun id hid => (b.beta id (Nat.lt_of_lt_of_le hid a.len)).trans (a.beta id hid)
  sub := fun x hx => b.sub x (a.sub x hx)
  immnew := fun x hx => by
    have hs := a.size
    rcases b.immnew x hx with h1 | h1 | h1
    · exact a.immnew x h1
    · exact (a.own x h1).imp_right (fun h => h) |>.elim (fun h => .inr (.inl h)) (fun h => .inr (.inr h))
    · exact .inr (.inr (by omega))
  own := fun x hx => by
    have hs := a.size
    rcases b.own x hx with h1 | h1
    · exact a.own x h1
    · exact .inr (by omega)
  keep := fun x hx hn => by
    have hs := a.size
    refine (b.keep x (by omega) (fun ho => ?_)).trans (a.keep x hx hn)
    rcases a.own x ho with h1 | h1
    · exact hn h1
    · omega
  bs := fun x n hx => b.bs x n (a.bs x n hx)

/-- What nobody writes is kept. -/
theorem Ext.heap_imm {I I' : Nat → Prop} {β β' : Nat → Nat} {h h' : Heap} {w w' : World} (r : Rel I β h w) (x : Ext I β h w I' β' h' w') (b : Nat) (hb : I b) : w'.heap[b]? = w.heap[b]? :=
  x.keep b (r.imm b hb) (fun ⟨id, o, h1, h2, h3⟩ => (r.obj id o h1 h2).2.1 (h3 ▸ hb))

theorem VRel.ext {I I' : Nat → Prop} {β β' : Nat → Nat} {h h' : Heap} {w w' : World} (r : Rel I β h w) (x : Ext I β h w I' β' h' w') {u : AV} {v : Value} (hv : VRel I β h.length w u v) : VRel I' β' h'.length w' u v :=
  hv.mono x.sub (fun b hb => x.heap_imm r b hb) x.len x.beta x.bs

theorem IRel.ext {I I' : Nat → Prop} {β β' : Nat → Nat} {h h' : Heap} {w w' : World} (r : Rel I β h w) (x : Ext I β h w I' β' h' w') {u : AV} {v : Value} (hv : IRel I w u v) : IRel I' w' u v :=
  hv.mono x.sub (fun b hb => x.heap_imm r b hb)

/-- Frames. -/
structure FRel (I : Nat → Prop) (β : Nat → Nat) (N : Nat) (w : World) (n : Nat) (a : Fr) (c : Act) : Prop where
  val : ∀ t, VRel I β N w (a t) (c.tmps.getD t undef)
  size : c.tmps.size = n
  defers : c.defers = []

theorem FRel.ext {I I' : Nat → Prop} {β β' : Nat → Nat} {h h' : Heap} {w w' : World} (r : Rel I β h w) (x : Ext I β h w I' β' h' w') {n : Nat} {a : Fr} {c : Act} (hf : FRel I β h.length w n a c) : FRel I' β' h'.length w' n a c :=
  ⟨fun t => (hf.val t).ext r x, hf.size, hf.defers⟩

theorem FRel.put {I : Nat → Prop} {β : Nat → Nat} {N : Nat} {w : World} {n : Nat} {a : Fr} {c : Act} (hf : FRel I β N w n a c) {d : Nat} (hd : d < n) {u : AV} {v : Value} (hv : VRel I β N w u v) :
    FRel I β N w n (upd a d u) (c.put (some d) v) := by
  refine ⟨fun t => ?_, by simp [Act.put, hf.size], hf.defers⟩
  by_cases ht : t = d
  · subst ht
    rw [upd_same]
    have : (c.put (some t) v).tmps.getD t undef = v := by simp [Act.put, hf.size, hd]
    rw [this]
    exact hv
  · rw [upd_ne _ _ _ _ ht]
    have : (c.put (some d) v).tmps.getD t undef = c.tmps.getD t undef := by
      simp only [Act.put, Array.getD_eq_getD_getElem?]
      rw [Array.getElem?_setIfInBounds_ne (fun h => ht h.symm)]
    rw [this]
    exact hf.val t

end Go.AL
