/- The small logic's operations that lay memory or write it: boxes, stores, makes, literals. No condition. -/
import Derived.Test.YtgdlkhgfehclpaaALd
import Derived.IntWalk
namespace Go.AL
set_option linter.unusedVariables false
set_option linter.unusedSimpArgs false
set_option linter.unnecessarySimpa false

/-- A value's cells. -/
def cellsK (u : AV) (K : List AV → Prop) : Prop :=
  match u with
  | .agg cs => K cs
  | .tup _ => False
  | .any => False
  | .int k n => K [.int k n]
  | .bool b => K [.bool b]
  | .str s => K [.str s]
  | .flt k b => K [.flt k b]
  | .nilp => K [.nilp]
  | .nils => K [.nils]
  | .nilf => K [.nilf]
  | .nili => K [.nili]
  | .nilm => K [.nilm]
  | .ip c o => K [.ip c o]
  | .isl k es => K [.isl k es]
  | .op a b c d => K [.op a b c d]
  | .osl a b c d e f => K [.osl a b c d e f]
  | .om a => K [.om a]
  | .fn a b c => K [.fn a b c]
  | .ifc a b => K [.ifc a b]

theorem cellsK_sound {I : Nat → Prop} {β : Nat → Nat} {N : Nat} {w : World} {u : AV} {v : Value} {K : List AV → Prop} (h : VRel I β N w u v) (hk : cellsK u K) :
    ∃ cs, K cs ∧ v.cells.size = cs.length ∧ (∀ (j : Nat) (x : Value), v.cells[j]? = some x → x.oneCell' = true) ∧ ∀ (j : Nat) (c : AV) (x : Value), cs[j]? = some c → v.cells[j]? = some x → VRel I β N w c x := by
  have one : ∀ (u : AV) (v : Value), VRel I β N w u v → v.cells = #[v] → v.oneCell' = true → K [u] → ∃ cs, K cs ∧ v.cells.size = cs.length ∧ (∀ (j : Nat) (x : Value), v.cells[j]? = some x → x.oneCell' = true) ∧ ∀ (j : Nat) (c : AV) (x : Value), cs[j]? = some c → v.cells[j]? = some x → VRel I β N w c x := by
    intro u v hv hc h1 hk
    refine ⟨[u], hk, by simp [hc], fun j x hx => ?_, fun j c x hj hx => ?_⟩
    · rw [hc] at hx
      cases j with
      | zero => simp at hx; subst hx; exact h1
      | succ j => simp at hx
    · rw [hc] at hx
      cases j with
      | zero => simp at hx hj; subst hx hj; exact hv
      | succ j => simp at hx
  cases u with
  | agg cs =>
    obtain ⟨cs', rfl, h1, h2, h3⟩ := h.agg_inv
    exact ⟨cs, hk, h1, h2, h3⟩
  | tup cs => exact hk.elim
  | any => exact hk.elim
  | int k n => exact one _ _ h (by rw [h.int_inv]; rfl) (by rw [h.int_inv]; rfl) hk
  | bool b => exact one _ _ h (by rw [h.bool_inv]; rfl) (by rw [h.bool_inv]; rfl) hk
  | str s => exact one _ _ h (by rw [h.str_inv]; rfl) (by rw [h.str_inv]; rfl) hk
  | flt k b => cases h with | imm _ _ h' => cases h'; exact one _ _ (.imm _ _ (.flt _ _)) rfl rfl hk
  | nilp => exact one _ _ h (by rw [h.nilp_inv]; rfl) (by rw [h.nilp_inv]; rfl) hk
  | nils => exact one _ _ h (by rw [h.nils_inv]; rfl) (by rw [h.nils_inv]; rfl) hk
  | nilf => exact one _ _ h (by rw [h.nilf_inv]; rfl) (by rw [h.nilf_inv]; rfl) hk
  | nili => exact one _ _ h (by rw [h.nili_inv]; rfl) (by rw [h.nili_inv]; rfl) hk
  | nilm => cases h with | imm _ _ h' => cases h'; exact one _ _ (.imm _ _ .nilm) rfl rfl hk
  | ip c o => obtain ⟨b, o', vs, e, _⟩ := h.ip_inv; exact one _ _ h (by rw [e]; rfl) (by rw [e]; rfl) hk
  | isl k es => obtain ⟨A, c, e⟩ := h.isl_inv.isl_slice; exact one _ _ h (by rw [e]; rfl) (by rw [e]; rfl) hk
  | op a b c d => have e := h.op_inv.1; exact one _ _ h (by rw [e]; rfl) (by rw [e]; rfl) hk
  | osl a b c d e f => obtain ⟨cp, n, e, _⟩ := h.osl_inv; exact one _ _ h (by rw [e]; rfl) (by rw [e]; rfl) hk
  | om a => cases h with
    | imm _ _ h' => cases h'
    | om _ hid => exact one _ _ (.om _ hid) rfl rfl hk
  | fn a b c => obtain ⟨fs, cs, e, _⟩ := h.fn_inv; exact one _ _ h (by rw [e]; rfl) (by rw [e]; rfl) hk
  | ifc a b => obtain ⟨v', e, _⟩ := h.ifc_inv; exact one _ _ h (by rw [e]; rfl) (by rw [e]; rfl) hk

/-! ### zero values -/
def zmap : List Value → Option (List AV)
  | [] => some []
  | v :: r => match ofV v, zmap r with
    | some u, some us => if v.oneCell' then some (u :: us) else none
    | _, _ => none
theorem zmap_sound {I : Nat → Prop} {w : World} : ∀ {vs : List Value} {us : List AV}, zmap vs = some us → us.length = vs.length ∧ (∀ (j : Nat) (x : Value), vs[j]? = some x → x.oneCell' = true) ∧ ∀ (j : Nat) (u : AV) (v : Value), us[j]? = some u → vs[j]? = some v → IRel I w u v
  | [], us, h => by simp [zmap] at h; subst h; exact ⟨rfl, fun j x hx => by simp at hx, fun j u v hu => by simp at hu⟩
  | v :: r, us, h => by
    unfold zmap at h
    split at h
    · rename_i u us' h1 h2
      split at h
      · rename_i h3
        simp at h
        subst h
        obtain ⟨a1, a2, a3⟩ := zmap_sound h2
        refine ⟨by simp [a1], fun j x hx => ?_, fun j u v hu hv => ?_⟩
        · cases j with
          | zero => simp at hx; subst hx; exact h3
          | succ j => simp at hx; exact a2 j x hx
        · cases j with
          | zero => simp at hu hv; subst hu hv; exact ofV_sound h1
          | succ j => simp at hu hv; exact a3 j u v hu hv
      · simp at h
    · simp at h
def zcells (P : Program) (t : TypeId) : Option (List AV) :=
  match P.info? t with
  | some i => (match i.zero with | some z => if z.cells.size = i.size then zmap z.cells.toList else none | none => none)
  | none => none
theorem zcells_sound {P : Program} {t : TypeId} {us : List AV} (h : zcells P t = some us) : ∃ z, (∀ w, (zeroValue t).run P w = .ok z w) ∧ z.cells.size = us.length ∧ tsize P t = some us.length ∧
    (∀ (j : Nat) (x : Value), z.cells[j]? = some x → x.oneCell' = true) ∧ ∀ (I : Nat → Prop) (w : World) (j : Nat) (u : AV) (v : Value), us[j]? = some u → z.cells[j]? = some v → IRel I w u v := by
  unfold zcells at h
  split at h
  · rename_i i hi
    split at h
    · rename_i z hz
      split at h
      · rename_i hs
        have key := fun I w => zmap_sound (I := I) (w := w) h
        refine ⟨z, fun w => by simp [zeroValue, typeInfo, hi, hz], ?_, ?_, fun j x hx => (key (fun _ => False) default).2.1 j x (by simpa using hx), fun I w j u v hu hv => (key I w).2.2 j u v hu (by simpa using hv)⟩
        · have := (key (fun _ => False) default).1; simpa using this.symm
        · have := (key (fun _ => False) default).1
          simp [tsize, hi, ← hs, this]
      · simp at h
    · simp at h
  · simp at h

section
variable {P : Program} {dst : Option Tmp} {ty : TypeId} {pos : String} {after : Array Edge} {guard : Option (Nat × Bool)} {a : Fr} {h : Heap} {K : AV → Heap → Prop}

/-- A variable of its own has been laid. -/
theorem newVar_ok {I : Nat → Prop} {β : Nat → Nat} {w : World} (r : Rel I β h w) (t : TypeId) (v : Value) (cs : List AV) (hl : v.cells.size = cs.length) (h1 : ∀ (j : Nat) (x : Value), v.cells[j]? = some x → x.oneCell' = true)
    (hr : ∀ (j : Nat) (c : AV) (x : Value), cs[j]? = some c → v.cells[j]? = some x → VRel I β h.length w c x) :
    ∃ w', (newVar t v).run P w = .ok ⟨w.heap.size, 0, none⟩ w' ∧ Ext I β h w I (bind1 β h.length w.heap.size) (h ++ [.arr cs.length [cs] true]) w' ∧ Rel I (bind1 β h.length w.heap.size) (h ++ [.arr cs.length [cs] true]) w' := by
  refine ⟨{ w with heap := w.heap.push (.cells v.cells t) }, by simp [newVar, newRow], ?_⟩
  refine new_ok r _ _ rfl rfl rfl rfl ?_
  intro I' β' N' w' hm
  refine ⟨v.cells, t, rfl, fun i e hi => ?_, by simp [hl], fun _ => by simp [hl], fun i e j u hi hj => ?_⟩
  · cases i with
    | zero => simp at hi; rw [← hi]
    | succ i => simp at hi
  · cases i with
    | zero =>
      simp at hi
      subst hi
      have hlt : j < v.cells.size := by rw [hl]; exact (List.getElem?_eq_some_iff.1 hj).1
      have hg : v.cells[j]? = some v.cells[j] := Array.getElem?_eq_getElem hlt
      exact ⟨v.cells[j], by simpa using hg, hm _ _ (hr j u _ hj hg), h1 j _ hg⟩
    | succ i => simp at hi

theorem op_box {t : TypeId} {x : Operand} (hk : evK a x fun u => cellsK u fun cs => K (.op h.length cs.length 0 0) (h ++ [.arr cs.length [cs] true])) : OpOk P ⟨dst, .box t x, ty, pos, after, guard⟩ a h K := by
  refine .value fun I β w n c r g => ?_
  obtain ⟨u, hu, hk⟩ := evK_sound g hk
  obtain ⟨cs, hk, hl, h1, hr⟩ := cellsK_sound hu hk
  obtain ⟨w', hrun, he, hrel⟩ := newVar_ok (P := P) r t _ cs hl h1 hr
  refine ⟨.pointer (some ⟨w.heap.size, 0, none⟩), _, I, _, _, w', by simp [execOp, Instr.box, hrun], hk, he, hrel, ?_⟩
  have := VRel.op (I := I) (β := bind1 β h.length w.heap.size) (N := (h ++ [Ob.arr cs.length [cs] true]).length) (w := w') h.length cs.length 0 0 (by simp)
  simpa [bind1_new] using this

theorem op_alloc {t : TypeId} (hk : ∃ cs, zcells P t = some cs ∧ K (.op h.length cs.length 0 0) (h ++ [.arr cs.length [cs] true])) : OpOk P ⟨dst, .alloc t, ty, pos, after, guard⟩ a h K := by
  refine .value fun I β w n c r g => ?_
  obtain ⟨cs, hz, hk⟩ := hk
  obtain ⟨z, hz0, hl, _, h1, hr⟩ := zcells_sound hz
  obtain ⟨w', hrun, he, hrel⟩ := newVar_ok (P := P) r t z cs hl h1 (fun j c x hj hx => .imm _ _ (hr _ _ j c x hj hx))
  refine ⟨.pointer (some ⟨w.heap.size, 0, none⟩), _, I, _, _, w', by simp [execOp, Instr.alloc, hz0, hrun], hk, he, hrel, ?_⟩
  have := VRel.op (I := I) (β := bind1 β h.length w.heap.size) (N := (h ++ [Ob.arr cs.length [cs] true]).length) (w := w') h.length cs.length 0 0 (by simp)
  simpa [bind1_new] using this

/-! ### a run of cells is written -/
theorem row_ok {I : Nat → Prop} {β : Nat → Nat} {w : World} {id k : Nat} {es es' : List (List AV)} {ex : Bool} (r : Rel I β h w) (hid : h[id]? = some (.arr k es ex)) (p : Nat) (vs : List Value) (h1 : ∀ v ∈ vs, v.oneCell' = true) (n : Nat) (hn : bsize w (β id) = some n) (hp : p + vs.length ≤ n)
    (hk' : ∀ (i : Nat) (e : List AV), es'[i]? = some e → e.length = k) (hl' : es'.length = es.length)
    (hc : ∀ (i : Nat) (e : List AV) (j : Nat) (u : AV), es'[i]? = some e → e[j]? = some u → (p ≤ i * k + j ∧ i * k + j < p + vs.length ∧ ∀ v, vs[i * k + j - p]? = some v → VRel I β h.length w u v) ∨
      (¬ (p ≤ i * k + j ∧ i * k + j < p + vs.length) ∧ ∃ e0, es[i]? = some e0 ∧ e0[j]? = some u)) :
    ∃ w', (storeCells ⟨β id, p, none⟩ vs).run P w = .ok () w' ∧ Ext I β h w I β (h.set id (.arr k es' ex)) w' ∧ Rel I β (h.set id (.arr k es' ex)) w' := by
  obtain ⟨q1, q2, cur, t, hb, hkk, hs, hex, hcell⟩ := r.obj id _ hid (by simp)
  have hcn : cur.size = n := by simp [bsize, hb] at hn; exact hn
  subst hcn
  refine ⟨_, run_storeCells_at (P := P) (β id) p t vs 0 cur w hb (by simpa using hp) h1, ?_⟩
  simp only [Nat.add_zero]
  have hsz : (cur.toList.take p ++ vs ++ cur.toList.drop (p + vs.length)).toArray.size = cur.size := by simp; omega
  refine set_ok r id _ _ (.cells (cur.toList.take p ++ vs ++ cur.toList.drop (p + vs.length)).toArray t (0, 0)) hid (by simp) (by simp) (fun b hb' => setRow_other _ _ _ _ hb') (setRow_heap _ _ _ _ _ _ hb) (by simp) rfl rfl rfl ?_ ?_
  · intro m hm
    simp only [bsize, hb, Option.some.injEq] at hm
    simp only [bsize, setRow_heap _ _ _ _ _ _ hb, hsz, hm]
  · intro w' hm
    refine ⟨_, t, rfl, hk', by rw [hsz, hl']; exact hs, fun hx => by rw [hsz, hl']; exact hex hx, fun i e j u hi hj => ?_⟩
    have hlook : ∀ q, (cur.toList.take p ++ vs ++ cur.toList.drop (p + vs.length)).toArray[q]? = if p ≤ q ∧ q < p + vs.length then vs[q - p]? else cur[q]? := by
      intro q
      rw [List.getElem?_toArray]
      by_cases c1 : q < p
      · rw [if_neg (by omega), List.append_assoc, List.getElem?_append_left (by simp; omega), List.getElem?_take, if_pos c1]
        simp
      · by_cases c2 : q < p + vs.length
        · rw [if_pos (by omega), List.append_assoc, List.getElem?_append_right (by simp; omega), List.getElem?_append_left (by simp; omega)]
          have : (List.take p cur.toList).length = p := by simp; omega
          rw [this]
        · rw [if_neg (by omega), List.append_assoc, List.getElem?_append_right (by simp; omega), List.getElem?_append_right (by simp; omega), List.getElem?_drop]
          have : (List.take p cur.toList).length = p := by simp; omega
          rw [this, show p + vs.length + (q - p - vs.length) = q by omega]
          simp
    rcases hc i e j u hi hj with ⟨c1, c2, c3⟩ | ⟨c1, e0, c2, c3⟩
    · have hlt : i * k + j - p < vs.length := by omega
      refine ⟨vs[i * k + j - p], ?_, hm _ _ (c3 _ (List.getElem?_eq_getElem hlt)), h1 _ (List.getElem_mem hlt)⟩
      rw [hlook, if_pos ⟨c1, c2⟩, List.getElem?_eq_getElem hlt]
    · obtain ⟨v, b1, b2, b3⟩ := hcell i e0 j u c2 c3
      refine ⟨v, ?_, hm _ _ b2, b3⟩
      rw [hlook, if_neg c1, b1]

def patch (c : List AV) (off : Nat) (cs : List AV) : List AV := c.take off ++ cs ++ c.drop (off + cs.length)
theorem patch_length {c : List AV} {off : Nat} {cs : List AV} (h : off + cs.length ≤ c.length) : (patch c off cs).length = c.length := by simp [patch]; omega
theorem patch_get {c : List AV} {off : Nat} {cs : List AV} (h : off + cs.length ≤ c.length) (j : Nat) : (patch c off cs)[j]? = if off ≤ j ∧ j < off + cs.length then cs[j - off]? else c[j]? := by
  unfold patch
  by_cases c1 : j < off
  · rw [if_neg (by omega), List.append_assoc, List.getElem?_append_left (by simp; omega), List.getElem?_take, if_pos c1]
  · have hl : (List.take off c).length = off := by simp; omega
    by_cases c2 : j < off + cs.length
    · rw [if_pos (by omega), List.append_assoc, List.getElem?_append_right (by omega), List.getElem?_append_left (by omega), hl]
    · rw [if_neg (by omega), List.append_assoc, List.getElem?_append_right (by omega), List.getElem?_append_right (by omega), List.getElem?_drop, hl, show off + cs.length + (j - off - cs.length) = j by omega]

/-- A store. -/
def storeK (P : Program) (t : TypeId) (h : Heap) (p u : AV) (K : Heap → Prop) : Prop :=
  match p with
  | .op id k e off => cellsK u fun cs => tsize P t = some cs.length ∧ ∃ es ex, h[id]? = some (.arr k es ex) ∧ ∃ c, es[e]? = some c ∧ off + cs.length ≤ c.length ∧ K (h.set id (.arr k (es.set e (patch c off cs)) ex))
  | _ => False

theorem mul_lt_of {i e k j : Nat} (hj : j < k) (h : i < e) : i * k + j < e * k := by
  have := Nat.mul_le_mul_right k (show i + 1 ≤ e from h)
  rw [Nat.add_mul] at this
  omega

theorem op_store {t : TypeId} {p x : Operand} (hk : evK a p fun p => evK a x fun u => storeK P t h p u fun h' => K .undef h') : OpOk P ⟨dst, .store t p x, ty, pos, after, guard⟩ a h K := by
  refine .skip fun I β w n c r g => ?_
  obtain ⟨up, hp, hk⟩ := evK_sound g hk
  obtain ⟨u, hu, hk⟩ := evK_sound g hk
  cases up with
  | op id k e off =>
    obtain ⟨ep, hid⟩ := hp.op_inv
    obtain ⟨cs, ⟨hsz, es, ex, hob, cl, hcl, hoff, hk⟩, hl, h1, hr⟩ := cellsK_sound hu hk
    obtain ⟨q1, q2, cur, tt, hb, hkk, hs, hex, hcell⟩ := r.obj id _ hob (by simp)
    have hck := hkk e cl hcl
    have hek : e * k + k ≤ cur.size := by
      have : e < es.length := (List.getElem?_eq_some_iff.1 hcl).1
      have := Nat.mul_le_mul_right k (show e + 1 ≤ es.length from this)
      rw [Nat.add_mul] at this
      omega
    have hlen : (c.eval x).cells.toList.length = cs.length := by simpa using hl
    have key := row_ok (P := P) (es' := es.set e (patch cl off cs)) r hob (e * k + off) (c.eval x).cells.toList (fun v hv => by
        obtain ⟨j, hj⟩ := List.getElem?_of_mem hv
        exact h1 j v (by simpa using hj)) cur.size (by simp [bsize, hb]) (by omega) (fun i e' hi => ?_) (by simp) (fun i e' j u' hi hj => ?_)
    · obtain ⟨w', hrun, he, hrel⟩ := key
      refine ⟨I, β, _, w', ?_, hk, he, hrel⟩
      have hsc : (storeVar t ⟨β id, e * k + off, none⟩ (c.eval x)).run P w = .ok () w' := by
        simp only [storeVar, Sem.run_bind, run_sizeOf' hsz, Result.andThen_ok]
        rw [if_neg (by simp [hl])]
        exact hrun
      simp [execOp, ep, Instr.storeAt, Instr.sureAddr, hsc]
    · by_cases hie : i = e
      · subst hie
        rw [List.getElem?_set_self (List.getElem?_eq_some_iff.1 hcl).1] at hi
        injection hi with hi
        rw [← hi, patch_length hoff, hck]
      · rw [List.getElem?_set_ne (fun x => hie x.symm)] at hi
        exact hkk i e' hi
    · rw [hlen]
      by_cases hie : i = e
      · subst hie
        rw [List.getElem?_set_self (List.getElem?_eq_some_iff.1 hcl).1] at hi
        injection hi with hi
        subst hi
        rw [patch_get hoff] at hj
        split at hj
        · rename_i hjr
          refine .inl ⟨by omega, by omega, fun v hv => hr (j - off) u' v hj ?_⟩
          rw [show i * k + j - (i * k + off) = j - off by omega] at hv
          simpa using hv
        · exact .inr ⟨by omega, cl, hcl, hj⟩
      · rw [List.getElem?_set_ne (fun x => hie x.symm)] at hi
        refine .inr ⟨?_, e', hi, hj⟩
        have hjk : j < k := by rw [← hkk i e' hi]; exact (List.getElem?_eq_some_iff.1 hj).1
        rcases Nat.lt_or_gt_of_ne hie with hlt | hgt
        · have := mul_lt_of hjk hlt; omega
        · have h2 : off + cs.length ≤ k := by omega
          have := Nat.mul_le_mul_right k (show e + 1 ≤ i from hgt)
          rw [Nat.add_mul] at this
          omega
  | _ => exact hk.elim

/-! ### rows that are made -/
theorem replicate_row {es : List (List AV)} {z : List AV} {m : Nat} (i : Nat) (e : List AV) (h : (List.replicate m z)[i]? = some e) : e = z ∧ i < m := by
  obtain ⟨hlt, rfl⟩ := List.getElem?_eq_some_iff.1 h
  simp at hlt ⊢
  exact hlt

def makeSliceK (P : Program) (t : TypeId) (h : Heap) (l c : AV) (K : AV → Heap → Prop) : Prop :=
  match l, c with
  | .int _ l, .int _ c => ∃ e z b, telem P t = some e ∧ zcells P e = some z ∧ tbytes P e = some b ∧ 0 ≤ l ∧ l ≤ c ∧ b * c ≤ 281474976710656 ∧ c ≤ 9223372036854775807 ∧
      K (.osl h.length z.length 0 l.toNat c.toNat true) (h ++ [.arr z.length (List.replicate c.toNat z) true])
  | _, _ => False

theorem wrap_i64 {n : Int} (h0 : 0 ≤ n) (h1 : n ≤ 9223372036854775807) : IntKind.i64.wrap n = n := IntWalk.i64_in n ⟨by omega, h1⟩

theorem op_makeSlice {t : TypeId} {l cp : Operand} (hk : evK a l fun l => evK a cp fun c => makeSliceK P t h l c K) : OpOk P ⟨dst, .makeSlice t l cp, ty, pos, after, guard⟩ a h K := by
  refine .value fun I β w n c r g => ?_
  obtain ⟨ul, hl, hk⟩ := evK_sound g hk
  obtain ⟨uc, hc, hk⟩ := evK_sound g hk
  cases ul with
  | int kl ml =>
    cases uc with
    | int kc mc =>
      obtain ⟨e, z, b, he, hz, hb, h0, hlc, hfit, hmax, hk⟩ := hk
      obtain ⟨zv, hz0, hzl, hzs, hz1, hzr⟩ := zcells_sound hz
      have hbytes : ∃ i, P.info? e = some i ∧ i.bytes = b := by
        unfold tbytes at hb
        cases hi : P.info? e with
        | none => simp [hi] at hb
        | some i => simp [hi] at hb; exact ⟨i, rfl, hb⟩
      obtain ⟨inf, hinf, hbi⟩ := hbytes
      have hw1 : IntKind.i64.wrap ml = ml := wrap_i64 h0 (by omega)
      have hw2 : IntKind.i64.wrap mc = mc := wrap_i64 (by omega) hmax
      have hbl : (b : Int) * ml ≤ 281474976710656 := Int.le_trans (Int.mul_le_mul_of_nonneg_left hlc (by omega)) hfit
      have hrun : ∃ cells : Array Value, (Instr.makeSlice t (.int kl ml) (.int kc mc)).run P w = .ok (.slice (some ⟨w.heap.size, 0, none⟩) ml.toNat mc.toNat) { w with heap := w.heap.push (.cells cells e) } ∧
          cells.size = mc.toNat * z.length ∧ ∀ i j, i < mc.toNat → j < z.length → cells[i * z.length + j]? = zv.cells[j]? := by
        refine ⟨(Array.range (mc.toNat * z.length)).map fun x => (if mc.toNat * z.length = 0 then (#[] : Array Value) else zv.cells)[x % (if mc.toNat * z.length = 0 then (#[] : Array Value) else zv.cells).size]!, ?_, by simp, ?_⟩
        · have c1 : ¬ (mc < 0) := by omega
          have c3 : ¬ (ml < 0) := by omega
          have c4 : ¬ (ml > mc) := by omega
          have c2 : ¬ ((b : Int) * mc > 2 ^ 48) := by
            have : (2 : Int) ^ 48 = 281474976710656 := by decide
            omega
          simp only [Instr.makeSlice, Sem.run_bind, run_underlying (telem_und he), Result.andThen_ok, asInt, asIntOf, Sem.run_pure, typeInfo, run_program, hinf, hbi, hw1, hw2]
          simp only [c1, c2, c3, c4, decide_false, Bool.or_false, Bool.false_or, or_false, if_false, Bool.false_eq_true, Sem.run_bind, run_askRoom, Result.andThen_ok, run_sizeOf' hzs]
          by_cases hz' : mc.toNat * z.length = 0
          · simp [hz', newRow]
          · simp [hz', newRow, hz0]
        · intro i j hi hj
          have hpos : mc.toNat * z.length ≠ 0 := by
            have h1 : 0 < mc.toNat := by omega
            have h2 : 0 < z.length := by omega
            exact Nat.ne_of_gt (Nat.mul_pos h1 h2)
          have hlt := mul_lt_of hj hi
          simp only [if_neg hpos, Array.getElem?_map, Array.getElem?_range, hlt]
          have hmod : (i * z.length + j) % zv.cells.size = j := by rw [hzl, Nat.mul_comm, Nat.mul_add_mod, Nat.mod_eq_of_lt hj]
          have hjz : j < zv.cells.size := by omega
          simp [hmod, hjz]
      obtain ⟨cells, hrun, hcs, hcc⟩ := hrun
      obtain ⟨hext, hrel⟩ := new_ok r (.arr z.length (List.replicate mc.toNat z) true) (.cells cells e) (w' := { w with heap := w.heap.push (.cells cells e) }) rfl rfl rfl rfl (by
        intro I' β' N' w' hm
        refine ⟨cells, e, rfl, fun i e' hi => by rw [(replicate_row (es := []) i e' hi).1], by simp [hcs], fun _ => by simp [hcs], fun i e' j u hi hj => ?_⟩
        obtain ⟨rfl, hi'⟩ := replicate_row (es := []) i e' hi
        have hjl : j < e'.length := (List.getElem?_eq_some_iff.1 hj).1
        have hjz : j < zv.cells.size := by omega
        have hg : zv.cells[j]? = some zv.cells[j] := Array.getElem?_eq_getElem hjz
        exact ⟨zv.cells[j], by rw [hcc i j hi' hjl, hg], hm _ _ (.imm _ _ (hzr _ _ j u _ hj hg)), hz1 j _ hg⟩)
      refine ⟨_, _, I, _, _, _, by simp [execOp, hl.int_inv, hc.int_inv, hrun]; rfl, hk, hext, hrel, ?_⟩
      have := VRel.osl (I := I) (β := bind1 β h.length w.heap.size) (N := (h ++ [Ob.arr z.length (List.replicate mc.toNat z) true]).length) (w := { w with heap := w.heap.push (.cells cells e) }) h.length z.length 0 ml.toNat mc.toNat true mc.toNat (mc.toNat * z.length)
        (by simp) (by omega) (Nat.le_refl _) (fun _ => rfl) (by simp [bsize, bind1_new, hcs]) (by simp)
      simpa [bind1_new] using this
    | _ => exact hk.elim
  | _ => exact hk.elim

end
end Go.AL
