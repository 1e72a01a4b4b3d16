/- The small logic's operations that lay memory or write it, on: structs and slices written out, append, copy, calls. No condition. -/
import Derived.Test.YtgdlkhgfehclpaaALe
namespace Go.AL
set_option linter.unusedVariables false
set_option linter.unusedSimpArgs false
set_option linter.unnecessarySimpa false

/-! ### values written out -/
theorem foldl_zip_get (off : Nat) : ∀ (l : List Value) (s : Nat) (cs : Array Value) (q : Nat), off + s + l.length ≤ cs.size →
    ((l.zipIdx s).foldl (fun cs (x : Value × Nat) => cs.setIfInBounds (off + x.2) x.1) cs)[q]? = (if off + s ≤ q ∧ q < off + s + l.length then l[q - off - s]? else cs[q]?) ∧
    ((l.zipIdx s).foldl (fun cs (x : Value × Nat) => cs.setIfInBounds (off + x.2) x.1) cs).size = cs.size
  | [], s, cs, q, h => by simp; omega
  | v :: l, s, cs, q, h => by
    have ih := foldl_zip_get off l (s + 1) (cs.setIfInBounds (off + s) v) q (by simp at h ⊢; omega)
    simp only [List.zipIdx_cons, List.foldl_cons]
    refine ⟨ih.1.trans ?_, by rw [ih.2]; simp⟩
    simp only [List.length_cons]
    by_cases c1 : off + (s + 1) ≤ q ∧ q < off + (s + 1) + l.length
    · rw [if_pos c1, if_pos (by omega), show q - off - s = (q - off - (s + 1)) + 1 by omega, List.getElem?_cons_succ]
    · rw [if_neg c1]
      by_cases c2 : q = off + s
      · subst c2
        rw [if_pos (by omega)]
        simp at h
        have : off + s < cs.size := by omega
        simp [this]
      · rw [if_neg (by omega), Array.getElem?_setIfInBounds_ne (by omega)]

theorem foldl_zip_arr (off : Nat) (a : Array Value) (cs : Array Value) :
    a.zipIdx.foldl (fun cs (x : Value × Nat) => cs.setIfInBounds (off + x.2) x.1) cs = (a.toList.zipIdx 0).foldl (fun cs (x : Value × Nat) => cs.setIfInBounds (off + x.2) x.1) cs := by
  rw [← Array.foldl_toList]
  simp

def fplaces (P : Program) (t : TypeId) : Option (List (Nat × Nat)) :=
  match P.underlying t with
  | some (.struct fs) => fs.toList.mapM fun f => (tsize P f.type).map fun s => (f.offset, s)
  | some (.array n e) => (tsize P e).map fun s => (List.range n).map fun i => (i * s, s)
  | _ => none

theorem run_places {P : Program} (w : World) : ∀ (fs : List Field) (pl : List (Nat × Nat)), (fs.mapM fun f => (tsize P f.type).map fun s => (f.offset, s)) = some pl →
    (fs.mapM (m := Sem) fun f => do pure (f.offset, ← sizeOf f.type)).run P w = .ok pl w
  | [], pl, h => by simp at h; subst h; rfl
  | f :: fs, pl, h => by
    simp only [List.mapM_cons] at h ⊢
    cases hs : tsize P f.type with
    | none => simp [hs] at h
    | some s =>
      cases hr : (fs.mapM fun f => (tsize P f.type).map fun s => (f.offset, s)) with
      | none => simp [hs, hr] at h
      | some r =>
        simp [hs, hr] at h
        subst h
        have := run_places w fs r hr
        simp only [Sem.run_bind, run_sizeOf' hs, Result.andThen_ok, Sem.run_pure, this]

def fillK (place : Nat → Option (Nat × Nat)) : List (Nat × AV) → List AV → (List AV → Prop) → Prop
  | [], cs, K => K cs
  | (i, u) :: r, cs, K => cellsK u fun us => ∃ off, place i = some (off, us.length) ∧ off + us.length ≤ cs.length ∧ fillK place r (patch cs off us) K

/-- An array of cells, told. -/
def CRel (I : Nat → Prop) (β : Nat → Nat) (N : Nat) (w : World) (cs : List AV) (vs : Array Value) : Prop :=
  vs.size = cs.length ∧ (∀ (j : Nat) (v : Value), vs[j]? = some v → v.oneCell' = true) ∧ ∀ (j : Nat) (u : AV) (v : Value), cs[j]? = some u → vs[j]? = some v → VRel I β N w u v

theorem CRel.patch {I : Nat → Prop} {β : Nat → Nat} {N : Nat} {w : World} {cs : List AV} {vs : Array Value} (h : CRel I β N w cs vs) {us : List AV} {xs : Array Value} (hx : CRel I β N w us xs) {off : Nat} (hoff : off + us.length ≤ cs.length) :
    CRel I β N w (patch cs off us) (xs.zipIdx.foldl (fun cs (x : Value × Nat) => cs.setIfInBounds (off + x.2) x.1) vs) := by
  have hxl : xs.toList.length = us.length := by simpa using hx.1
  have key := fun q => foldl_zip_get off xs.toList 0 vs q (by rw [hxl, h.1]; omega)
  refine ⟨?_, fun j v hj => ?_, fun j u v hu hj => ?_⟩
  · rw [foldl_zip_arr, (key 0).2, h.1, patch_length hoff]
  · rw [foldl_zip_arr, (key j).1] at hj
    split at hj
    · exact hx.2.1 _ v (by simpa using hj)
    · exact h.2.1 j v hj
  · rw [foldl_zip_arr, (key j).1] at hj
    rw [patch_get hoff] at hu
    simp only [Nat.add_zero, hxl] at hj
    split at hu
    · rename_i hc
      rw [if_pos hc] at hj
      exact hx.2.2 _ u v hu (by simpa using hj)
    · rename_i hc
      rw [if_neg hc] at hj
      exact h.2.2 j u v hu hj

def PRels (I : Nat → Prop) (β : Nat → Nat) (N : Nat) (w : World) : List (Nat × AV) → List (Nat × Value) → Prop
  | [], [] => True
  | (i, u) :: r, (j, v) :: s => i = j ∧ VRel I β N w u v ∧ PRels I β N w r s
  | _, _ => False

theorem fill_ok {I : Nat → Prop} {β : Nat → Nat} {N : Nat} {w : World} (place : Nat → Option (Nat × Nat)) : ∀ (us : List (Nat × AV)) (vs : List (Nat × Value)) (cs : List AV) (cells : Array Value) (K : List AV → Prop), PRels I β N w us vs → CRel I β N w cs cells → fillK place us cs K →
    ∃ cs' cells', Instr.fill place cells vs = some cells' ∧ CRel I β N w cs' cells' ∧ K cs'
  | [], [], cs, cells, K, _, hc, hk => ⟨cs, cells, rfl, hc, hk⟩
  | (i, u) :: r, (j, v) :: s, cs, cells, K, hp, hc, hk => by
    obtain ⟨rfl, hv, hp⟩ := hp
    obtain ⟨us, ⟨off, hpl, hoff, hk⟩, h1, h2, h3⟩ := cellsK_sound hv hk
    have hcr : CRel I β N w us v.cells := ⟨h1, h2, h3⟩
    obtain ⟨cs', cells', e1, e2, e3⟩ := fill_ok place r s _ _ K hp (hc.patch hcr hoff) hk
    refine ⟨cs', cells', ?_, e2, e3⟩
    simp only [Instr.fill, hpl]
    rw [if_neg (by simp [h1, hc.1]; omega)]
    exact e1
  | [], _ :: _, _, _, _, hp, _, _ => hp.elim
  | _ :: _, [], _, _, _, hp, _, _ => hp.elim

def evpK (a : Fr) : List (Nat × Operand) → (List (Nat × AV) → Prop) → Prop
  | [], K => K []
  | (i, x) :: r, K => evK a x fun u => evpK a r fun us => K ((i, u) :: us)
theorem evpK_sound {I : Nat → Prop} {β : Nat → Nat} {N : Nat} {w : World} {n : Nat} {a : Fr} {c : Act} (hf : FRel I β N w n a c) : ∀ {xs : List (Nat × Operand)} {K : List (Nat × AV) → Prop}, evpK a xs K → ∃ us, PRels I β N w us (xs.map fun (i, x) => (i, c.eval x)) ∧ K us
  | [], K, hk => ⟨[], trivial, hk⟩
  | (i, x) :: r, K, hk => by
    obtain ⟨u, hu, hk1⟩ := evK_sound hf hk
    obtain ⟨us, hus, hk2⟩ := evpK_sound hf hk1
    exact ⟨(i, u) :: us, ⟨rfl, hu, hus⟩, hk2⟩

section
variable {P : Program} {dst : Option Tmp} {ty : TypeId} {pos : String} {after : Array Edge} {guard : Option (Nat × Bool)} {a : Fr} {h : Heap} {K : AV → Heap → Prop}

theorem fill_mono {p q : Nat → Option (Nat × Nat)} (h : ∀ i x, p i = some x → q i = some x) : ∀ {vs : List (Nat × Value)} {cells : Array Value} {r : Array Value}, Instr.fill p cells vs = some r → Instr.fill q cells vs = some r
  | [], cells, r, hf => hf
  | (i, v) :: vs, cells, r, hf => by
    unfold Instr.fill at hf ⊢
    cases hp : p i with
    | none => rw [hp] at hf; simp at hf
    | some x =>
      rw [hp] at hf
      rw [h i x hp]
      simp only at hf ⊢
      split at hf
      · cases hf
      · rename_i hc; rw [if_neg hc]; exact fill_mono h hf
theorem op_build {t : TypeId} {parts : Array (Nat × Operand)} (hk : evpK a parts.toList fun us => ∃ z pl, zcells P t = some z ∧ fplaces P t = some pl ∧ fillK (fun i => pl[i]?) us z fun cs => K (.agg cs) h) : OpOk P ⟨dst, .build t parts, ty, pos, after, guard⟩ a h K := by
  refine .pure fun I β w n c r g => ?_
  obtain ⟨us, hu, z, pl, hz, hpl, hk⟩ := evpK_sound g hk
  obtain ⟨zv, hz0, hl, _, h1, hr⟩ := zcells_sound hz
  obtain ⟨cs', cells', e1, e2, e3⟩ := fill_ok _ us _ z zv.cells _ hu ⟨hl, h1, fun j u v hj hj' => .imm _ _ (hr _ _ j u v hj hj')⟩ hk
  refine ⟨.agg cells', _, ?_, e3, .agg _ _ e2.1 e2.2.1 e2.2.2⟩
  unfold fplaces at hpl
  split at hpl
  · rename_i fs hun
    have hp := run_places (P := P) w fs.toList pl hpl
    have hm : (fs.mapM (m := Sem) fun f => do pure (f.offset, ← sizeOf f.type)).run P w = .ok pl.toArray w := by
      have : fs = fs.toList.toArray := by simp
      rw [this, List.mapM_toArray, Sem.run_map, hp]
      rfl
    have hrun : (Instr.build t (parts.map fun (i, x) => (i, c.eval x))).run P w = .ok (.agg cells') w := by
      simp only [Instr.build, Sem.run_bind, hz0, Result.andThen_ok, run_underlying hun]
      rw [hm]
      simp only [Result.andThen_ok, List.getElem?_toArray, Array.toList_map]
      rw [e1]
      rfl
    simp only [execOp, Sem.run_bind]
    rw [hrun]
    rfl
  · rename_i m e hun
    cases hs : tsize P e with
    | none => rw [hs] at hpl; cases hpl
    | some s =>
      rw [hs] at hpl
      simp only [Option.map_some, Option.some.injEq] at hpl
      subst hpl
      have e1' := fill_mono (fun i x hx => (by
        rw [List.getElem?_map] at hx
        cases hr : (List.range m)[i]? with
        | none => rw [hr] at hx; cases hx
        | some j =>
          rw [hr] at hx
          simp only [Option.map_some, Option.some.injEq] at hx
          have : j = i := by
            have := List.getElem?_eq_some_iff.1 hr
            obtain ⟨q1, q2⟩ := this
            simpa using q2.symm
          subst this
          exact congrArg some hx : some (i * s, s) = some x)) e1
      have hrun : (Instr.build t (parts.map fun (i, x) => (i, c.eval x))).run P w = .ok (.agg cells') w := by
        simp only [Instr.build, Sem.run_bind, hz0, Result.andThen_ok, run_underlying hun, run_sizeOf' hs, Array.toList_map]
        rw [e1']
        rfl
      simp only [execOp, Sem.run_bind]
      rw [hrun]
      rfl
  · simp at hpl

/-! a slice written out -/
def RRel (I : Nat → Prop) (β : Nat → Nat) (N : Nat) (w : World) (k : Nat) (es : List (List AV)) (cells : Array Value) : Prop :=
  (∀ (i : Nat) (e : List AV), es[i]? = some e → e.length = k) ∧ cells.size = es.length * k ∧ ∀ (i : Nat) (e : List AV) (j : Nat) (u : AV), es[i]? = some e → e[j]? = some u → ∃ v, cells[i * k + j]? = some v ∧ VRel I β N w u v ∧ v.oneCell' = true

def fillRK (k : Nat) : List (Nat × AV) → List (List AV) → (List (List AV) → Prop) → Prop
  | [], es, K => K es
  | (i, u) :: r, es, K => cellsK u fun us => us.length = k ∧ i < es.length ∧ fillRK k r (es.set i us) K

theorem fillR_ok {I : Nat → Prop} {β : Nat → Nat} {N : Nat} {w : World} (k : Nat) : ∀ (us : List (Nat × AV)) (vs : List (Nat × Value)) (es : List (List AV)) (cells : Array Value) (K : List (List AV) → Prop), PRels I β N w us vs → RRel I β N w k es cells → fillRK k us es K →
    ∃ es' cells', Instr.fill (fun i => some (i * k, k)) cells vs = some cells' ∧ RRel I β N w k es' cells' ∧ es'.length = es.length ∧ K es'
  | [], [], es, cells, K, _, hc, hk => ⟨es, cells, rfl, hc, rfl, hk⟩
  | (i, u) :: r, (j, v) :: s, es, cells, K, hp, hc, hk => by
    obtain ⟨rfl, hv, hp⟩ := hp
    obtain ⟨us, ⟨hul, hi, hk⟩, h1, h2, h3⟩ := cellsK_sound hv hk
    have hfit : i * k + k ≤ cells.size := by
      rw [hc.2.1]
      have := Nat.mul_le_mul_right k (show i + 1 ≤ es.length from hi)
      rw [Nat.add_mul] at this
      omega
    have hxl : v.cells.toList.length = k := by rw [← hul]; simpa using h1
    have key := fun q => foldl_zip_get (i * k) v.cells.toList 0 cells q (by omega)
    have hnew : RRel I β N w k (es.set i us) (v.cells.zipIdx.foldl (fun cs (x : Value × Nat) => cs.setIfInBounds (i * k + x.2) x.1) cells) := by
      refine ⟨fun i' e he => ?_, by rw [foldl_zip_arr, (key 0).2, hc.2.1]; simp, fun i' e j u' he hj => ?_⟩
      · by_cases hii : i' = i
        · subst hii
          rw [List.getElem?_set_self hi] at he
          injection he with he
          rw [← he, hul]
        · rw [List.getElem?_set_ne (fun x => hii x.symm)] at he
          exact hc.1 i' e he
      · rw [foldl_zip_arr, (key _).1]
        simp only [Nat.add_zero, hxl]
        by_cases hii : i' = i
        · subst hii
          rw [List.getElem?_set_self hi] at he
          injection he with he
          subst he
          have hjk : j < k := by rw [← hul]; exact (List.getElem?_eq_some_iff.1 hj).1
          have hjv : j < v.cells.size := by omega
          have hg : v.cells[j]? = some v.cells[j] := Array.getElem?_eq_getElem hjv
          rw [if_pos (by omega)]
          refine ⟨v.cells[j], ?_, h3 j u' _ hj hg, h2 j _ hg⟩
          rw [show i' * k + j - i' * k - 0 = j by omega]
          simpa using hg
        · rw [List.getElem?_set_ne (fun x => hii x.symm)] at he
          have hjk : j < k := by rw [← hc.1 i' e he]; exact (List.getElem?_eq_some_iff.1 hj).1
          have hn : ¬ (i * k ≤ i' * k + j ∧ i' * k + j < i * k + k) := by
            rcases Nat.lt_or_gt_of_ne hii with hlt | hgt
            · have := mul_lt_of hjk hlt; omega
            · have := Nat.mul_le_mul_right k (show i + 1 ≤ i' from hgt)
              rw [Nat.add_mul] at this
              omega
          rw [if_neg hn]
          exact hc.2.2 i' e j u' he hj
    obtain ⟨es', cells', e1, e2, e3, e4⟩ := fillR_ok k r s _ _ K hp hnew hk
    refine ⟨es', cells', ?_, e2, by rw [e3]; simp, e4⟩
    simp only [Instr.fill]
    rw [if_neg (by simp; omega)]
    exact e1
  | [], _ :: _, _, _, _, hp, _, _ => hp.elim
  | _ :: _, [], _, _, _, hp, _, _ => hp.elim

theorem op_buildSlice {t : TypeId} {len : Nat} {parts : Array (Nat × Operand)} (hk : evpK a parts.toList fun us => ∃ e z, telem P t = some e ∧ zcells P e = some z ∧ len * z.length ≤ 16777216 ∧
      fillRK z.length us (List.replicate len z) fun es => K (.osl h.length z.length 0 len len true) (h ++ [.arr z.length es true])) : OpOk P ⟨dst, .buildSlice t len parts, ty, pos, after, guard⟩ a h K := by
  refine .value fun I β w n c r g => ?_
  obtain ⟨us, hu, e, z, he, hz, hfit, hk⟩ := evpK_sound g hk
  obtain ⟨zv, hz0, hzl, hzs, hz1, hzr⟩ := zcells_sound hz
  have hrow : RRel I β h.length w z.length (List.replicate len z) ((Array.range (len * z.length)).map fun x => (if len * z.length = 0 then (#[] : Array Value) else zv.cells)[x % (if len * z.length = 0 then (#[] : Array Value) else zv.cells).size]!) := by
    refine ⟨fun i e hi => by rw [(replicate_row (es := []) i e hi).1], by simp, fun i e' j u hi hj => ?_⟩
    obtain ⟨rfl, hi'⟩ := replicate_row (es := []) i e' hi
    have hjl : j < e'.length := (List.getElem?_eq_some_iff.1 hj).1
    have hjz : j < zv.cells.size := by omega
    have hg : zv.cells[j]? = some zv.cells[j] := Array.getElem?_eq_getElem hjz
    have hpos : len * e'.length ≠ 0 := Nat.ne_of_gt (Nat.mul_pos (by omega) (by omega))
    have hlt := mul_lt_of hjl hi'
    refine ⟨zv.cells[j], ?_, .imm _ _ (hzr _ _ j u _ hj hg), hz1 j _ hg⟩
    simp only [if_neg hpos, Array.getElem?_map, Array.getElem?_range, hlt]
    have hmod : (i * e'.length + j) % zv.cells.size = j := by rw [hzl, Nat.mul_comm, Nat.mul_add_mod, Nat.mod_eq_of_lt hjl]
    simp [hmod, hjz]
  obtain ⟨es', cells', e1, e2, e3, e4⟩ := fillR_ok z.length us _ _ _ _ hu hrow hk
  obtain ⟨hext, hrel⟩ := new_ok r (.arr z.length es' true) (.cells cells' e) (w' := { w with heap := w.heap.push (.cells cells' e) }) rfl rfl rfl rfl (by
    intro I' β' N' w' hm
    refine ⟨cells', e, rfl, e2.1, by rw [e2.2.1]; exact Nat.le_refl _, fun _ => e2.2.1, fun i e' j u hi hj => ?_⟩
    obtain ⟨v, b1, b2, b3⟩ := e2.2.2 i e' j u hi hj
    exact ⟨v, b1, hm _ _ b2, b3⟩)
  have hsz : cells'.size = len * z.length := by rw [e2.2.1, e3]; simp
  have hrun : (Instr.buildSlice t len (parts.map fun (i, x) => (i, c.eval x))).run P w = .ok (.slice (some ⟨w.heap.size, 0, none⟩) len len) { w with heap := w.heap.push (.cells cells' e) } := by
    have c1 : ¬ (len * z.length > 2 ^ 24) := by
      have : (2 : Nat) ^ 24 = 16777216 := by decide
      omega
    simp only [Instr.buildSlice, Sem.run_bind, run_underlying (telem_und he), Result.andThen_ok, run_sizeOf' hzs, if_neg c1, Sem.run_ite, Sem.run_pure]
    by_cases hz' : len * z.length = 0
    · simp only [hz', if_true, Result.andThen_ok, Array.toList_map] at e1 ⊢
      rw [e1]
      simp [newRow]
    · simp only [hz', if_false, Result.andThen_ok, hz0, Array.toList_map] at e1 ⊢
      rw [e1]
      simp [newRow]
  refine ⟨_, _, I, _, _, _, by simp only [execOp, Sem.run_bind]; rw [hrun]; rfl, e4, hext, hrel, ?_⟩
  have := VRel.osl (I := I) (β := bind1 β h.length w.heap.size) (N := (h ++ [Ob.arr z.length es' true]).length) (w := { w with heap := w.heap.push (.cells cells' e) }) h.length z.length 0 len len true len (len * z.length)
    (by simp) (Nat.le_refl _) (Nat.le_refl _) (fun _ => rfl) (by simp [bsize, bind1_new, hsz]) (by simp)
  simpa [bind1_new] using this

/-! ### calls -/
def good (P : Program) (f : FuncId) : Bool := match P.funcs[f]? with | some fn => fn.body.isSome && !(fn.name == "runtime.NumGoroutine") | none => false

/-- What a call owes. -/
def ACalls (P : Program) (f : FuncId) (args : List AV) (h : Heap) (Q : AV → Heap → Prop) : Prop :=
  good P f = true ∧ ∀ (I : Nat → Prop) (β : Nat → Nat) (w : World) (vs : List Value), Rel I β h w → VRels I β h.length w args vs →
    Calls P f vs.toArray w fun e w' => ∃ cv u I' β' h', e = .returned cv ∧ Q u h' ∧ Ext I β h w I' β' h' w' ∧ Rel I' β' h' w' ∧ VRel I' β' h'.length w' u cv

theorem ACalls.mono {f : FuncId} {args : List AV} {Q Q' : AV → Heap → Prop} (hh : ACalls P f args h Q) (hq : ∀ u h', Q u h' → Q' u h') : ACalls P f args h Q' :=
  ⟨hh.1, fun I β w vs r hv => (hh.2 I β w vs r hv).mono fun e w' ⟨cv, u, I', β', h', h1, h2, h3⟩ => ⟨cv, u, I', β', h', h1, hq u h' h2, h3⟩⟩

theorem ACalls_congr {f : FuncId} {args args' : List AV} {h h' : Heap} {Q : AV → Heap → Prop} (e1 : args = args') (e2 : h = h') : ACalls P f args h Q = ACalls P f args' h' Q := by rw [e1, e2]

def callK (P : Program) (f : AV) (args : List AV) (h : Heap) (K : AV → Heap → Prop) : Prop :=
  match f with
  | .fn (.func g) first cap => ACalls P g (first ++ args ++ cap) h K
  | _ => False

theorem op_call {f : Operand} {xs : Array Operand} {ts : Array TypeId} (hk : evK a f fun f => evsK a xs.toList fun us => callK P f us h K) : OpOk P ⟨dst, .call { callee := .value f, args := xs, argTypes := ts }, ty, pos, after, guard⟩ a h K := by
  intro I β w n c next Q r g hn
  obtain ⟨uf, hf, hk⟩ := evK_sound g hk
  obtain ⟨us, hu, hk⟩ := evsK_sound g hk
  cases uf with
  | fn fnn first cap =>
    cases fnn with
    | func gid =>
      obtain ⟨fs, cs, ef, h1, h2⟩ := hf.fn_inv
      obtain ⟨hgood, hcall⟩ := hk
      have hargs : VRels I β h.length w (first ++ us ++ cap) (fs ++ xs.map c.eval ++ cs).toList := by
        have := (h1.append hu).append h2
        simpa using this
      have hc := hcall I β w _ r hargs
      have hrun : (execOp c.eval ⟨dst, .call { callee := .value f, args := xs, argTypes := ts }, ty, pos, after, guard⟩).run P w = .ok (.enter gid (fs ++ xs.map c.eval ++ cs)) w := by
        unfold good at hgood
        cases hfun : P.funcs[gid]? with
        | none => simp [hfun] at hgood
        | some fn =>
          simp only [hfun, Bool.and_eq_true, Bool.not_eq_true'] at hgood
          obtain ⟨hb, hnm⟩ := hgood
          have hbn : fn.body.isNone = false := by cases hbd : fn.body <;> simp_all
          simp only [execOp, resolve, ef, Deferred.ofValue, Sem.run_bind, Sem.run_pure, Result.andThen_ok, invoke, callFunc, run_program, hfun, hnm, hbn, Bool.false_eq_true, if_false]
      unfold Oper.wp
      rw [hrun, Oper.upon_enter]
      rw [Array.toArray_toList] at hc
      refine hc.mono ?_
      rintro e w' ⟨cv, u, I', β', h', rfl, hq, he, hr, hv⟩
      exact hn u cv I' β' h' w' hq he hr hv
    | _ => exact hk.elim
  | _ => exact hk.elim

end
end Go.AL
