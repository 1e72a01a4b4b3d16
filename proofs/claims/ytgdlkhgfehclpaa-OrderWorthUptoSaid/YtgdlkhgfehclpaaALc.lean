/- The small logic's operations that write nothing: what each owes. No condition. -/
import Derived.Test.YtgdlkhgfehclpaaALb
namespace Go.AL
set_option linter.unusedVariables false
set_option linter.unusedSimpArgs false

/-! ### what is known of types -/
def tsize (P : Program) (t : TypeId) : Option Nat := (P.info? t).map (·.size)
def tbytes (P : Program) (t : TypeId) : Option Nat := (P.info? t).map (·.bytes)
def tagg (P : Program) (t : TypeId) : Option Bool :=
  match P.underlying t with
  | some (.struct _) => some true
  | some (.array _ _) => some true
  | some _ => some false
  | none => none
def telem (P : Program) (t : TypeId) : Option TypeId := match P.underlying t with | some (.slice e) => some e | _ => none
def tarr (P : Program) (t : TypeId) : Option (Nat × TypeId) := match P.underlying t with | some (.array n e) => some (n, e) | _ => none
def tint (P : Program) (t : TypeId) : Option IntKind := match P.underlying t with | some (.int k) => some k | _ => none
def tstring (P : Program) (t : TypeId) : Bool := match P.underlying t with | some .string => true | _ => false
def foff (P : Program) (t : TypeId) (f : Nat) : Option (Nat × TypeId) :=
  match P.underlying t with
  | some (.struct fs) => (match fs[f]? with
    | some fd => (match tsize P fd.type with | some (_ + 1) => some (fd.offset, fd.type) | _ => none)
    | none => none)
  | _ => none
/-- What an operand may be held against nil as. -/
def tnilable (P : Program) (t : TypeId) : Bool := match P.underlying t with | some (.slice _) => true | some (.pointer _) => true | some (.func ..) => true | some (.interface _) => true | some (.map ..) => true | _ => false
def tbool (P : Program) (t : TypeId) : Bool := match P.underlying t with | some .bool => true | _ => false

theorem run_sizeOf' {P : Program} {t : TypeId} {n : Nat} (h : tsize P t = some n) (w : World) : (sizeOf t).run P w = .ok n w := by
  unfold tsize at h
  cases hi : P.info? t with
  | none => simp [hi] at h
  | some i =>
    simp [hi] at h
    simp [sizeOf, typeInfo, hi, h]
theorem run_isAgg' {P : Program} {t : TypeId} {b : Bool} (h : tagg P t = some b) (w : World) : (isAgg t).run P w = .ok b w := by
  unfold tagg at h
  cases hu : P.underlying t with
  | none => simp [hu] at h
  | some d =>
    simp only [isAgg, Sem.run_bind, run_underlying hu, Result.andThen_ok]
    rw [hu] at h
    cases d <;> simp at h <;> subst h <;> rfl
theorem telem_und {P : Program} {t e : TypeId} (h : telem P t = some e) : P.underlying t = some (.slice e) := by
  unfold telem at h
  split at h
  · rename_i h1; simp at h; rw [h1, h]
  · simp at h
theorem tarr_und {P : Program} {t : TypeId} {n e : Nat} (h : tarr P t = some (n, e)) : P.underlying t = some (.array n e) := by
  unfold tarr at h
  split at h
  · rename_i h1; simp at h; rw [h1, h.1, h.2]
  · simp at h
theorem tint_und {P : Program} {t : TypeId} {k : IntKind} (h : tint P t = some k) : P.underlying t = some (.int k) := by
  unfold tint at h
  split at h
  · rename_i h1; simp at h; rw [h1, h]
  · simp at h

/-! ### reading -/
def ldK (P : Program) (t : TypeId) (cells : List AV) (off : Nat) (K : AV → Prop) : Prop :=
  match tagg P t with
  | some true => ∃ n, tsize P t = some n ∧ off + n ≤ cells.length ∧ K (.agg ((cells.drop off).take n))
  | some false => ∃ v, cells[off]? = some v ∧ K v
  | none => False

theorem ld_ok {P : Program} {w : World} {t : TypeId} {cells : List AV} {off : Nat} {K : AV → Prop} (R : AV → Value → Prop)
    (hR : ∀ (cs : List AV) (cs' : Array Value), cs'.size = cs.length → (∀ (j : Nat) (v : Value), cs'[j]? = some v → v.oneCell' = true) → (∀ (j : Nat) (u : AV) (v : Value), cs[j]? = some u → cs'[j]? = some v → R u v) → R (.agg cs) (.agg cs'))
    (b o : Nat) (vs : List Value) (hl : vs.length = cells.length) (hc : ∀ (j : Nat) (v : Value), vs[j]? = some v → w.cell? ⟨b, o + j, none⟩ = some v) (h1 : ∀ (j : Nat) (v : Value), vs[j]? = some v → v.oneCell' = true)
    (hr : ∀ (j : Nat) (u : AV) (v : Value), cells[j]? = some u → vs[j]? = some v → R u v) (hk : ldK P t cells off K) :
    ∃ cv u, (loadVar t ⟨b, o + off, none⟩).run P w = .ok cv w ∧ K u ∧ R u cv := by
  unfold ldK at hk
  split at hk
  · rename_i ht
    obtain ⟨n, hn, hle, hk⟩ := hk
    refine ⟨.agg ((vs.drop off).take n).toArray, _, ?_, hk, hR _ _ (by simp; omega) ?_ ?_⟩
    · simp only [loadVar, Sem.run_bind, run_isAgg' ht, Result.andThen_ok, if_true, run_sizeOf' hn]
      have hlen : ((vs.drop off).take n).length = n := by simp; omega
      have := run_loadCells_list (P := P) (w := w) ⟨b, o + off, none⟩ ((vs.drop off).take n) (fun j v hj => by
        rw [List.getElem?_take] at hj
        split at hj
        · rw [List.getElem?_drop] at hj
          have := hc _ v hj
          rw [Addr.add_lit, Nat.add_assoc]
          exact this
        · simp at hj)
      rw [hlen] at this
      rw [this]
      rfl
    · intro j v hj
      simp only [List.getElem?_toArray, List.getElem?_take] at hj
      split at hj
      · rw [List.getElem?_drop] at hj; exact h1 _ v hj
      · simp at hj
    · intro j u v hj hj'
      simp only [List.getElem?_toArray, List.getElem?_take] at hj hj'
      split at hj
      · rename_i hlt
        rw [if_pos hlt, List.getElem?_drop] at hj'
        rw [List.getElem?_drop] at hj
        exact hr _ u v hj hj'
      · simp at hj
  · rename_i ht
    obtain ⟨u, hu, hk⟩ := hk
    have hlt : off < vs.length := by rw [hl]; exact (List.getElem?_eq_some_iff.1 hu).1
    refine ⟨vs[off], u, ?_, hk, hr off u _ hu (List.getElem?_eq_getElem hlt)⟩
    simp [loadVar, run_isAgg' ht, hc off _ (List.getElem?_eq_getElem hlt)]
  · exact hk.elim

section
variable {P : Program} {dst : Option Tmp} {ty : TypeId} {pos : String} {after : Array Edge} {guard : Option (Nat × Bool)} {a : Fr} {h : Heap} {K : AV → Heap → Prop}

theorem op_move {x : Operand} (hk : evK a x fun u => K u h) : OpOk P ⟨dst, .move x, ty, pos, after, guard⟩ a h K :=
  .pure fun I β w n c r f => let ⟨u, hu, hk⟩ := evK_sound f hk; ⟨_, u, rfl, hk, hu⟩
theorem op_assign {x : Operand} (hk : evK a x fun u => K u h) : OpOk P ⟨dst, .assign x, ty, pos, after, guard⟩ a h K :=
  .pure fun I β w n c r f => let ⟨u, hu, hk⟩ := evK_sound f hk; ⟨_, u, rfl, hk, hu⟩

def pickK (b : AV) (u v : AV) (K : AV → Prop) : Prop := match b with | .bool b => (b = true → K u) ∧ (b = false → K v) | _ => False
theorem VRel.bool_inv {I : Nat → Prop} {β : Nat → Nat} {N : Nat} {w : World} {b : Bool} {v : Value} (h : VRel I β N w (.bool b) v) : v = .bool b := by
  cases h with | imm _ _ h => cases h; rfl
theorem VRel.int_inv {I : Nat → Prop} {β : Nat → Nat} {N : Nat} {w : World} {k : IntKind} {n : Int} {v : Value} (h : VRel I β N w (.int k n) v) : v = .int k n := by
  cases h with | imm _ _ h => cases h; rfl
theorem VRel.str_inv {I : Nat → Prop} {β : Nat → Nat} {N : Nat} {w : World} {s : ByteArray} {v : Value} (h : VRel I β N w (.str s) v) : v = .string s := by
  cases h with | imm _ _ h => cases h; rfl
theorem VRel.ofInt {I : Nat → Prop} {β : Nat → Nat} {N : Nat} {w : World} (k : IntKind) (n : Int) : VRel I β N w (.int k n) (.int k n) := .imm _ _ (.int k n)
theorem VRel.ofBool {I : Nat → Prop} {β : Nat → Nat} {N : Nat} {w : World} (b : Bool) : VRel I β N w (.bool b) (.bool b) := .imm _ _ (.bool b)
theorem VRel.ofStr {I : Nat → Prop} {β : Nat → Nat} {N : Nat} {w : World} (b : ByteArray) : VRel I β N w (.str b) (.string b) := .imm _ _ (.str b)

theorem op_pick {c x y : Operand} (hk : evK a c fun c => evK a x fun x => evK a y fun y => pickK c x y fun u => K u h) : OpOk P ⟨dst, .pick c x y, ty, pos, after, guard⟩ a h K := by
  refine .pure fun I β w n cc r f => ?_
  obtain ⟨uc, hc, hk⟩ := evK_sound f hk
  obtain ⟨ux, hx, hk⟩ := evK_sound f hk
  obtain ⟨uy, hy, hk⟩ := evK_sound f hk
  cases uc with
  | bool b =>
    have e := hc.bool_inv
    cases b with
    | true => exact ⟨_, ux, by simp [execOp, e, asBool], hk.1 rfl, hx⟩
    | false => exact ⟨_, uy, by simp [execOp, e, asBool], hk.2 rfl, hy⟩
  | _ => exact hk.elim

/-! pointers -/
def loadK (P : Program) (t : TypeId) (h : Heap) (p : AV) (K : AV → Prop) : Prop :=
  match p with
  | .ip cells off => ldK P t cells off K
  | .op id k e off => ∃ es ex, h[id]? = some (.arr k es ex) ∧ ∃ c, es[e]? = some c ∧ ldK P t c off K
  | _ => False

theorem cell_of_block {w : World} {b : Nat} {cur : Array Value} {t : TypeId} {fr : Nat × Nat} (h : w.heap[b]? = some (.cells cur t fr)) (o : Nat) : w.cell? ⟨b, o, none⟩ = cur[o]? := by
  simp [World.cell?, h]

/-- An element of an own object, as cells in memory. -/
theorem elem_cells {I : Nat → Prop} {β : Nat → Nat} {w : World} {id k : Nat} {es : List (List AV)} {ex : Bool} {e : Nat} {c : List AV} (r : Rel I β h w) (hid : h[id]? = some (.arr k es ex)) (he : es[e]? = some c) :
    ∃ vs : List Value, vs.length = c.length ∧ (∀ (j : Nat) (v : Value), vs[j]? = some v → w.cell? ⟨β id, e * k + j, none⟩ = some v) ∧ (∀ (j : Nat) (v : Value), vs[j]? = some v → v.oneCell' = true) ∧
      (∀ (j : Nat) (u : AV) (v : Value), c[j]? = some u → vs[j]? = some v → VRel I β h.length w u v) := by
  obtain ⟨_, _, cur, t, hb, hk, hs, _, hc⟩ := r.obj id _ hid (by simp)
  have hck := hk e c he
  refine ⟨(List.range c.length).map fun j => (cur[e * k + j]?).getD undef, by simp, fun j v hj => ?_, fun j v hj => ?_, fun j u v hu hj => ?_⟩
  · obtain ⟨hlt, rfl⟩ := List.getElem?_eq_some_iff.1 hj
    simp at hlt
    obtain ⟨v, h1, _⟩ := hc e c j _ he (List.getElem?_eq_getElem hlt)
    rw [cell_of_block hb]
    simp [h1]
  · obtain ⟨hlt, rfl⟩ := List.getElem?_eq_some_iff.1 hj
    simp at hlt
    obtain ⟨v, h1, _, h3⟩ := hc e c j _ he (List.getElem?_eq_getElem hlt)
    simpa [h1] using h3
  · obtain ⟨hlt, rfl⟩ := List.getElem?_eq_some_iff.1 hj
    simp at hlt
    obtain ⟨v, h1, h2, _⟩ := hc e c j u he hu
    simpa [h1] using h2

theorem load_ok {I : Nat → Prop} {β : Nat → Nat} {w : World} {t : TypeId} {p : AV} {v : Value} {K : AV → Prop} (r : Rel I β h w) (hv : VRel I β h.length w p v) (hk : loadK P t h p K) :
    ∃ cv u, (Instr.loadAt t v).run P w = .ok cv w ∧ K u ∧ VRel I β h.length w u cv := by
  cases p with
  | ip cells off =>
    cases hv with
    | imm _ _ hv =>
      cases hv with
      | ip _ _ b o vs hb hl hc h1 hr =>
        obtain ⟨cv, u, e1, e2, e3⟩ := ld_ok (IRel I w) (fun cs cs' x y z => .agg cs cs' x y z) b o vs hl hc h1 hr hk
        exact ⟨cv, u, by simpa [Instr.loadAt, Instr.sureAddr] using e1, e2, .imm _ _ e3⟩
  | op id k e off =>
    cases hv with
    | imm _ _ hv => cases hv
    | op _ _ _ _ hid =>
      obtain ⟨es, ex, g1, c, g2, hk⟩ := hk
      obtain ⟨vs, hl, hc, h1, hr⟩ := elem_cells r g1 g2
      obtain ⟨cv, u, e1, e2, e3⟩ := ld_ok (VRel I β h.length w) (fun cs cs' x y z => .agg cs cs' x y z) (β id) (e * k) vs hl hc h1 hr hk
      exact ⟨cv, u, by simpa [Instr.loadAt, Instr.sureAddr] using e1, e2, e3⟩
  | _ => exact hk.elim

theorem op_load {t : TypeId} {x : Operand} (hk : evK a x fun p => loadK P t h p fun u => K u h) : OpOk P ⟨dst, .load t x, ty, pos, after, guard⟩ a h K := by
  refine .pure fun I β w n c r f => ?_
  obtain ⟨u, hu, hk⟩ := evK_sound f hk
  obtain ⟨cv, u', e1, e2, e3⟩ := load_ok r hu hk
  exact ⟨cv, u', by simp [execOp, e1], e2, e3⟩

def fieldAddrK (P : Program) (s f : Nat) (p : AV) (K : AV → Prop) : Prop :=
  ∃ o ft, foff P s f = some (o, ft) ∧ match p with | .ip cells off => K (.ip cells (off + o)) | .op id k e off => K (.op id k e (off + o)) | _ => False

theorem run_fieldAt' {s f o ft : Nat} (hf : foff P s f = some (o, ft)) (b off : Nat) (w : World) : (Instr.fieldAt s (.pointer (some ⟨b, off, none⟩)) f).run P w = .ok (.pointer (some ⟨b, off + o, none⟩)) w := by
  unfold foff at hf
  split at hf
  · rename_i fs hu
    split at hf
    · rename_i fd hfd
      split at hf
      · rename_i m hm
        simp at hf
        obtain ⟨rfl, rfl⟩ := hf
        simp [Instr.fieldAt, run_underlying hu, hfd, Instr.sureAddr, fieldPlace, run_sizeOf' hm, Addr.add_lit]
      · simp at hf
    · simp at hf
  · simp at hf

/-! what a tree tells of its value -/
theorem VRel.ip_inv {I : Nat → Prop} {β : Nat → Nat} {N : Nat} {w : World} {cells : List AV} {off : Nat} {v : Value} (h : VRel I β N w (.ip cells off) v) :
    ∃ (b o : Nat) (vs : List Value), v = .pointer (some ⟨b, o + off, none⟩) ∧ ∀ off', IRel I w (.ip cells off') (.pointer (some ⟨b, o + off', none⟩)) ∧ I b ∧ vs.length = cells.length ∧
      (∀ (j : Nat) (v : Value), vs[j]? = some v → w.cell? ⟨b, o + j, none⟩ = some v) ∧ (∀ (j : Nat) (v : Value), vs[j]? = some v → v.oneCell' = true) ∧ (∀ (j : Nat) (u : AV) (v : Value), cells[j]? = some u → vs[j]? = some v → IRel I w u v) := by
  cases h with
  | imm _ _ h => cases h with
    | ip _ _ b o vs hb hl hc h1 hr => exact ⟨b, o, vs, rfl, fun off' => ⟨.ip cells off' b o vs hb hl hc h1 hr, hb, hl, hc, h1, hr⟩⟩
theorem VRel.op_inv {I : Nat → Prop} {β : Nat → Nat} {N : Nat} {w : World} {id k e off : Nat} {v : Value} (h : VRel I β N w (.op id k e off) v) : v = .pointer (some ⟨β id, e * k + off, none⟩) ∧ id < N := by
  cases h with
  | imm _ _ h => cases h
  | op _ _ _ _ h => exact ⟨rfl, h⟩
theorem VRel.isl_inv {I : Nat → Prop} {β : Nat → Nat} {N : Nat} {w : World} {k : Nat} {es : List (List AV)} {v : Value} (h : VRel I β N w (.isl k es) v) : IRel I w (.isl k es) v := by
  cases h with
  | imm _ _ h => exact h
theorem IRel.isl_inv {I : Nat → Prop} {w : World} {k : Nat} {es : List (List AV)} {v : Value} (h : IRel I w (.isl k es) v) :
    (∃ A c, es = [] ∧ v = .slice A 0 c) ∨ ∃ (b o c : Nat) (f : Nat → Nat → Value), es ≠ [] ∧ v = .slice (some ⟨b, o, none⟩) es.length c ∧ es.length ≤ c ∧ I b ∧ (∀ (i : Nat) (e : List AV), es[i]? = some e → e.length = k) ∧
      (∀ (i : Nat) (e : List AV) (j : Nat) (u : AV), es[i]? = some e → e[j]? = some u → w.cell? ⟨b, o + (i * k + j), none⟩ = some (f i j)) ∧
      (∀ (i : Nat) (e : List AV) (j : Nat) (u : AV), es[i]? = some e → e[j]? = some u → (f i j).oneCell' = true) ∧
      (∀ (i : Nat) (e : List AV) (j : Nat) (u : AV), es[i]? = some e → e[j]? = some u → IRel I w u (f i j)) := by
  cases h with
  | isl0 _ A c => exact .inl ⟨A, c, rfl, rfl⟩
  | isl _ _ b o c f h1 h2 h3 h4 h5 h6 h7 => exact .inr ⟨b, o, c, f, h1, rfl, h2, h3, h4, h5, h6, h7⟩
theorem IRel.isl_slice {I : Nat → Prop} {w : World} {k : Nat} {es : List (List AV)} {v : Value} (h : IRel I w (.isl k es) v) : ∃ A c, v = .slice A es.length c := by
  rcases h.isl_inv with ⟨A, c, rfl, rfl⟩ | ⟨b, o, c, f, _, rfl, _⟩
  · exact ⟨A, c, rfl⟩
  · exact ⟨_, c, rfl⟩
theorem VRel.osl_inv {I : Nat → Prop} {β : Nat → Nat} {N : Nat} {w : World} {id k i len cap : Nat} {ex : Bool} {v : Value} (h : VRel I β N w (.osl id k i len cap ex) v) :
    ∃ c n, v = .slice (some ⟨β id, i * k, none⟩) len c ∧ id < N ∧ len ≤ cap ∧ cap ≤ c ∧ (ex = true → c = cap) ∧ bsize w (β id) = some n ∧ (i + c) * k ≤ n := by
  cases h with
  | imm _ _ h => cases h
  | osl _ _ _ _ _ _ c n h1 h2 h3 h4 h5 h6 => exact ⟨c, n, rfl, h1, h2, h3, h4, h5, h6⟩
theorem VRel.nils_inv {I : Nat → Prop} {β : Nat → Nat} {N : Nat} {w : World} {v : Value} (h : VRel I β N w .nils v) : v = .slice none 0 0 := by
  cases h with | imm _ _ h => cases h; rfl
theorem VRel.nilp_inv {I : Nat → Prop} {β : Nat → Nat} {N : Nat} {w : World} {v : Value} (h : VRel I β N w .nilp v) : v = .pointer none := by
  cases h with | imm _ _ h => cases h; rfl
theorem VRel.nilf_inv {I : Nat → Prop} {β : Nat → Nat} {N : Nat} {w : World} {v : Value} (h : VRel I β N w .nilf v) : v = .nilFunc := by
  cases h with | imm _ _ h => cases h; rfl
theorem VRel.nili_inv {I : Nat → Prop} {β : Nat → Nat} {N : Nat} {w : World} {v : Value} (h : VRel I β N w .nili v) : v = .nilIface := by
  cases h with | imm _ _ h => cases h; rfl
theorem VRel.agg_inv {I : Nat → Prop} {β : Nat → Nat} {N : Nat} {w : World} {cs : List AV} {v : Value} (h : VRel I β N w (.agg cs) v) :
    ∃ cs', v = .agg cs' ∧ cs'.size = cs.length ∧ (∀ (j : Nat) (v : Value), cs'[j]? = some v → v.oneCell' = true) ∧ ∀ (j : Nat) (u : AV) (v : Value), cs[j]? = some u → cs'[j]? = some v → VRel I β N w u v := by
  cases h with
  | imm _ _ h => cases h with | agg _ cs' h1 h2 h3 => exact ⟨cs', rfl, h1, h2, fun j u v x y => .imm _ _ (h3 j u v x y)⟩
  | agg _ cs' h1 h2 h3 => exact ⟨cs', rfl, h1, h2, h3⟩
theorem VRel.tup_inv {I : Nat → Prop} {β : Nat → Nat} {N : Nat} {w : World} {cs : List AV} {v : Value} (h : VRel I β N w (.tup cs) v) :
    ∃ cs', v = .tuple cs' ∧ cs'.size = cs.length ∧ ∀ (j : Nat) (u : AV) (v : Value), cs[j]? = some u → cs'[j]? = some v → VRel I β N w u v := by
  cases h with
  | imm _ _ h => cases h with | tup _ cs' h1 h3 => exact ⟨cs', rfl, h1, fun j u v x y => .imm _ _ (h3 j u v x y)⟩
  | tup _ cs' h1 h3 => exact ⟨cs', rfl, h1, h3⟩
theorem VRel.fn_inv {I : Nat → Prop} {β : Nat → Nat} {N : Nat} {w : World} {g : Fn} {fs cs : List AV} {v : Value} (h : VRel I β N w (.fn g fs cs) v) :
    ∃ fs' cs', v = .func g fs' cs' ∧ VRels I β N w fs fs'.toList ∧ VRels I β N w cs cs'.toList := by
  cases h with
  | imm _ _ h => cases h with
    | fn _ _ _ fs' cs' h1 h2 h3 h4 => exact ⟨fs', cs', rfl, ⟨by simp [h1], fun j u v x y => .imm _ _ (h3 j u v x (by simpa using y))⟩, ⟨by simp [h2], fun j u v x y => .imm _ _ (h4 j u v x (by simpa using y))⟩⟩
  | fn _ _ _ fs' cs' h1 h2 h3 h4 => exact ⟨fs', cs', rfl, ⟨by simp [h1], fun j u v x y => h3 j u v x (by simpa using y)⟩, ⟨by simp [h2], fun j u v x y => h4 j u v x (by simpa using y)⟩⟩
theorem VRel.ifc_inv {I : Nat → Prop} {β : Nat → Nat} {N : Nat} {w : World} {t : TypeId} {u : AV} {v : Value} (h : VRel I β N w (.ifc t u) v) : ∃ v', v = .iface t v' ∧ VRel I β N w u v' := by
  cases h with
  | imm _ _ h => cases h with | ifc _ _ v' h => exact ⟨v', rfl, .imm _ _ h⟩
  | ifc _ _ v' h => exact ⟨v', rfl, h⟩

theorem op_fieldAddr {s f : Nat} {x : Operand} (hk : evK a x fun p => fieldAddrK P s f p fun u => K u h) : OpOk P ⟨dst, .fieldAddr s x f, ty, pos, after, guard⟩ a h K := by
  refine .pure fun I β w n c r g => ?_
  obtain ⟨u, hu, o, ft, hf, hk⟩ := evK_sound g hk
  cases u with
  | ip cells off =>
    obtain ⟨b, o', vs, e, hi⟩ := hu.ip_inv
    refine ⟨.pointer (some ⟨b, o' + (off + o), none⟩), _, ?_, hk, .imm _ _ (hi _).1⟩
    simp [execOp, e, run_fieldAt' hf, Nat.add_assoc]
  | op id k e off =>
    obtain ⟨he, hid⟩ := hu.op_inv
    refine ⟨.pointer (some ⟨β id, e * k + (off + o), none⟩), _, ?_, hk, .op id k e _ hid⟩
    simp [execOp, he, run_fieldAt' hf, Nat.add_assoc]
  | _ => exact hk.elim

/-! an index -/
def indexAddrK (P : Program) (t : TypeId) (x i : AV) (K : AV → Prop) : Prop :=
  match i with
  | .int _ n => (match x with
    | .isl k es => 0 ≤ n ∧ n < es.length ∧ (∃ e, telem P t = some e ∧ tsize P e = some k) ∧ ∃ c, es[n.toNat]? = some c ∧ K (.ip c 0)
    | .osl id k i0 len cap ex => 0 ≤ n ∧ n < len ∧ (∃ e, telem P t = some e ∧ tsize P e = some k) ∧ K (.op id k (i0 + n.toNat) 0)
    | .ip cells off => ∃ m e s, tarr P t = some (m, e) ∧ tsize P e = some s ∧ 0 ≤ n ∧ n < m ∧ K (.ip cells (off + n.toNat * s))
    | .op id k e0 off => ∃ m e s, tarr P t = some (m, e) ∧ tsize P e = some s ∧ 0 ≤ n ∧ n < m ∧ K (.op id k e0 (off + n.toNat * s))
    | _ => False)
  | _ => False

theorem run_indexAt_sl {t e k : Nat} (h1 : telem P t = some e) (h2 : tsize P e = some k) (b o len cap : Nat) (ik : IntKind) (n : Int) (h0 : 0 ≤ n) (hn : n < len) (w : World) :
    (Instr.indexAt t (.slice (some ⟨b, o, none⟩) len cap) (.int ik n)).run P w = .ok (.pointer (some ⟨b, o + n.toNat * k, none⟩)) w := by
  simp [Instr.indexAt, run_underlying (telem_und h1), asIntOf, h0, hn, run_sizeOf' h2, Addr.add_lit]
theorem run_indexAt_ar {t e k m : Nat} (h1 : tarr P t = some (m, e)) (h2 : tsize P e = some k) (b o : Nat) (ik : IntKind) (n : Int) (h0 : 0 ≤ n) (hn : n < m) (w : World) :
    (Instr.indexAt t (.pointer (some ⟨b, o, none⟩)) (.int ik n)).run P w = .ok (.pointer (some ⟨b, o + n.toNat * k, none⟩)) w := by
  simp [Instr.indexAt, run_underlying (tarr_und h1), asIntOf, Instr.sureAddr, h0, hn, run_sizeOf' h2, Addr.add_lit]

theorem isl_elem {I : Nat → Prop} {w : World} {k : Nat} {es : List (List AV)} {v : Value} (hv : IRel I w (.isl k es) v) {i : Nat} {c : List AV} (hc : es[i]? = some c) :
    ∃ b o cap, v = .slice (some ⟨b, o, none⟩) es.length cap ∧ IRel I w (.ip c 0) (.pointer (some ⟨b, o + i * k, none⟩)) := by
  rcases hv.isl_inv with ⟨A, cp, rfl, rfl⟩ | ⟨b, o, cp, f, hne, rfl, hle, hb, hk, hcell, h1, hr⟩
  · simp at hc
  · refine ⟨b, o, cp, rfl, ?_⟩
    have := IRel.ip (I := I) (w := w) c 0 b (o + i * k) ((List.range c.length).map fun j => f i j) hb (by simp) (fun j v hj => ?_) (fun j v hj => ?_) (fun j u v hu hj => ?_)
    · simpa using this
    · obtain ⟨hlt, rfl⟩ := List.getElem?_eq_some_iff.1 hj
      simp at hlt
      have := hcell i c j _ hc (List.getElem?_eq_getElem hlt)
      simpa [Nat.add_assoc] using this
    · obtain ⟨hlt, rfl⟩ := List.getElem?_eq_some_iff.1 hj
      simp at hlt
      simpa using h1 i c j _ hc (List.getElem?_eq_getElem hlt)
    · obtain ⟨hlt, rfl⟩ := List.getElem?_eq_some_iff.1 hj
      simpa using hr i c j u hc hu

theorem op_indexAddr {t : TypeId} {x i : Operand} (hk : evK a x fun x => evK a i fun i => indexAddrK P t x i fun u => K u h) : OpOk P ⟨dst, .indexAddr t x i, ty, pos, after, guard⟩ a h K := by
  refine .pure fun I β w n c r g => ?_
  obtain ⟨u, hu, hk⟩ := evK_sound g hk
  obtain ⟨ui, hi, hk⟩ := evK_sound g hk
  cases ui with
  | int ik m =>
    have ei := hi.int_inv
    cases u with
    | isl k es =>
      obtain ⟨h0, hm, ⟨e, he, hs⟩, cl, hcl, hk⟩ := hk
      obtain ⟨b, o, cp, ev, hp⟩ := isl_elem hu.isl_inv hcl
      exact ⟨_, _, by simp only [execOp, ev, ei, Sem.run_bind, run_indexAt_sl he hs _ _ _ _ _ _ h0 hm, Result.andThen_ok]; rfl, hk, .imm _ _ hp⟩
    | osl id k i0 len cap ex =>
      obtain ⟨h0, hm, ⟨e, he, hs⟩, hk⟩ := hk
      obtain ⟨cp, nn, ev, hid, _⟩ := hu.osl_inv
      refine ⟨.pointer (some ⟨β id, (i0 + m.toNat) * k + 0, none⟩), _, ?_, hk, .op id k _ 0 hid⟩
      simp only [execOp, ev, ei, Sem.run_bind, run_indexAt_sl he hs _ _ _ _ _ _ h0 hm, Result.andThen_ok, Nat.add_mul, Nat.add_zero]
      rfl
    | ip cells off =>
      obtain ⟨mm, e, s, ht, hs, h0, hm, hk⟩ := hk
      obtain ⟨b, o', vs, ev, hip⟩ := hu.ip_inv
      refine ⟨.pointer (some ⟨b, o' + (off + m.toNat * s), none⟩), _, ?_, hk, .imm _ _ (hip _).1⟩
      simp only [execOp, ev, ei, Sem.run_bind, run_indexAt_ar ht hs _ _ _ _ h0 hm, Result.andThen_ok, Nat.add_assoc]
      rfl
    | op id k e0 off =>
      obtain ⟨mm, e, s, ht, hs, h0, hm, hk⟩ := hk
      obtain ⟨ev, hid⟩ := hu.op_inv
      refine ⟨.pointer (some ⟨β id, e0 * k + (off + m.toNat * s), none⟩), _, ?_, hk, .op id k e0 _ hid⟩
      simp only [execOp, ev, ei, Sem.run_bind, run_indexAt_ar ht hs _ _ _ _ h0 hm, Result.andThen_ok, Nat.add_assoc]
      rfl
    | _ => exact hk.elim
  | _ => exact hk.elim

/-! a piece of a slice -/
def loK (x : Option AV) (K : Nat → Prop) : Prop := match x with | none => K 0 | some (.int _ n) => 0 ≤ n ∧ K n.toNat | _ => False
def hiK (len : Nat) (x : Option AV) (K : Nat → Prop) : Prop := match x with | none => K len | some (.int _ n) => 0 ≤ n ∧ K n.toNat | _ => False
def sliceK (P : Program) (t : TypeId) (x : AV) (lo hi : Option AV) (K : AV → Prop) : Prop :=
  match x with
  | .isl k es => (∃ e, telem P t = some e ∧ (es ≠ [] → tsize P e = some k)) ∧ loK lo fun l => hiK es.length hi fun m => l ≤ m ∧ m ≤ es.length ∧ K (.isl k ((es.drop l).take (m - l)))
  | .osl id k i len cap ex => (∃ e, telem P t = some e ∧ tsize P e = some k) ∧ loK lo fun l => hiK len hi fun m => l ≤ m ∧ m ≤ cap ∧
      if l < cap ∨ l = 0 then K (.osl id k (i + l) (m - l) (cap - l) ex) else ex = true ∧ K (.osl id k i 0 0 ex)
  | .nils => (∃ e, telem P t = some e) ∧ loK lo fun l => hiK 0 hi fun m => l = 0 ∧ m = 0 ∧ K .nils
  | .str s => tstring P t = true ∧ loK lo fun l => hiK s.size hi fun m => l ≤ m ∧ m ≤ s.size ∧ K (.str (s.extract l m))
  | _ => False
def evoK (a : Fr) (x : Option Operand) (K : Option AV → Prop) : Prop := match x with | none => K none | some x => evK a x fun u => K (some u)

end
end Go.AL
