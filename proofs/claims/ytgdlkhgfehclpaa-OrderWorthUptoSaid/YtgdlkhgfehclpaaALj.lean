/- Regions of the small logic: operations in the order of the text; and regions that draw their order: one order serves for all. No condition. -/
import Derived.Test.YtgdlkhgfehclpaaALi
namespace Go.AL
set_option linter.unusedVariables false
set_option linter.unusedSimpArgs false
set_option linter.unnecessarySimpa false

def gslot (ops : List Oper) (j : Nat) : Option Tmp := (ops[j]?).bind (·.dst)
def guardK (ops : List Oper) (g : Option (Nat × Bool)) (a : Fr) (K : Bool → Prop) : Prop :=
  match g with
  | none => K true
  | some (j, want) => (match gslot ops j with
    | some t => (match a t with | .bool b => (b = want → K true) ∧ (b ≠ want → K false) | .tup [] => K false | _ => False)
    | none => False)
def gval (ops : List Oper) (g : Option (Nat × Bool)) (a : Fr) : Option Bool :=
  match g with
  | none => some true
  | some (j, want) => (match gslot ops j with
    | some t => (match a t with | .bool b => some (b == want) | .tup [] => some false | _ => none)
    | none => none)
theorem guardK_sound {ops : List Oper} {g : Option (Nat × Bool)} {a : Fr} {K : Bool → Prop} (hk : guardK ops g a K) : ∃ r, gval ops g a = some r ∧ K r := by
  cases g with
  | none => exact ⟨true, rfl, hk⟩
  | some x =>
    obtain ⟨j, want⟩ := x
    simp only [guardK, gval] at hk ⊢
    cases hs : gslot ops j with
    | none => simp [hs] at hk
    | some t =>
      simp only [hs] at hk ⊢
      cases ha : a t with
      | bool b =>
        simp only [ha] at hk ⊢
        by_cases e : b = want
        · exact ⟨true, by simp [e], hk.1 e⟩
        · exact ⟨false, by simp [e], hk.2 e⟩
      | tup l =>
        cases l with
        | nil => simp only [ha] at hk ⊢; exact ⟨false, rfl, hk⟩
        | cons _ _ => simp [ha] at hk
      | _ => simp [ha] at hk

def pt (dst : Option Tmp) (a : Fr) (v : AV) : Fr := match dst with | none => a | some d => upd a d v
def putK (n : Nat) (dst : Option Tmp) (a : Fr) (v : AV) (K : Fr → Prop) : Prop := match dst with | none => K a | some d => d < n ∧ K (upd a d v)
def inb (n : Nat) (dst : Option Tmp) : Prop := ∀ d, dst = some d → d < n
theorem putK_sound {n : Nat} {dst : Option Tmp} {a : Fr} {v : AV} {K : Fr → Prop} (hk : putK n dst a v K) : inb n dst ∧ K (pt dst a v) := by
  cases dst with
  | none => exact ⟨fun d h => (by cases h), hk⟩
  | some d => exact ⟨fun d' h => (by cases h; exact hk.1), hk.2⟩

theorem FRel.pt {I : Nat → Prop} {β : Nat → Nat} {N : Nat} {w : World} {n : Nat} {a : Fr} {c : Act} (hf : FRel I β N w n a c) {dst : Option Tmp} (hd : inb n dst) {u : AV} {v : Value} (hv : VRel I β N w u v) :
    FRel I β N w n (AL.pt dst a u) (c.put dst v) := by
  cases dst with
  | none => exact hf
  | some d => exact hf.put (hd d rfl) hv

theorem wanted_eq {I : Nat → Prop} {β : Nat → Nat} {N : Nat} {w : World} {n : Nat} {a : Fr} {c : Act} (hf : FRel I β N w n a c) {ops : Array Oper} {o : Oper} {r : Bool} (hg : gval ops.toList o.guard a = some r) : Region.wanted o (yielded ops c.tmps) = r := by
  unfold Region.wanted
  cases hgd : o.guard with
  | none => rw [hgd] at hg; simp [gval] at hg; simp [hg]
  | some x =>
    obtain ⟨j, want⟩ := x
    rw [hgd] at hg
    simp only [gval] at hg
    cases hs : gslot ops.toList j with
    | none => simp [hs] at hg
    | some t =>
      simp only [hs] at hg
      have hs' : (ops[j]?).bind (·.dst) = some t := by simpa [gslot] using hs
      cases ha : a t with
      | bool b =>
        simp only [ha] at hg
        injection hg with hg
        have hv := hf.val t
        rw [ha] at hv
        have e := hv.bool_inv
        have hlt : c.tmps[t]? = some (.bool b) := by
          simp only [Array.getD_eq_getD_getElem?] at e
          cases hc : c.tmps[t]? with
          | none => rw [hc] at e; simp [undef] at e
          | some y => rw [hc] at e; simp at e; rw [e]
        simp only [yielded, hs', Option.bind_some, hlt]
        rw [← hg]
        simp
      | tup l =>
        cases l with
        | nil =>
          simp only [ha] at hg
          injection hg with hg
          have hv := hf.val t
          rw [ha] at hv
          obtain ⟨vs, e, h1, _⟩ := hv.tup_inv
          have hne : ∀ b : Bool, c.tmps[t]? ≠ some (.bool b) := fun b hb => by
            simp only [Array.getD_eq_getD_getElem?, hb, Option.getD_some] at e
            cases e
          simp only [yielded, hs', Option.bind_some]
          cases hc : c.tmps[t]? with
          | none => rw [← hg]; rfl
          | some x => cases x with
            | bool b => exact absurd hc (hne b)
            | _ => rw [← hg]; rfl
        | cons _ _ => simp [ha] at hg
      | _ => simp [ha] at hg

section
variable {P : Program} {n : Nat}

/-- One operation, or its leaving out. -/
theorem wpOp_of {o : Oper} {ops : Array Oper} {i : Nat} (hi : ops[i]? = some o) {a : Fr} {h : Heap} {r : Bool} (hg : gval ops.toList o.guard a = some r) (K : AV → Heap → Prop) (hyes : r = true → OpOk P o a h K) (hno : r = false → K .undef h)
    {I : Nat → Prop} {β : Nat → Nat} {w : World} {c : Act} (rr : Rel I β h w) (ff : FRel I β h.length w n a c) {next : Act → World → Prop} {Q : Exit → Act → World → Prop}
    (hn : ∀ u cv I' β' h' w', K u h' → Ext I β h w I' β' h' w' → Rel I' β' h' w' → VRel I' β' h'.length w' u cv → next (c.put o.dst cv) w') : wpOp P ops Q i next c w := by
  unfold wpOp
  simp only [hi]
  rw [wanted_eq ff hg]
  cases r with
  | true =>
    simp only [if_true]
    exact .inl (hyes rfl I β w n c next Q rr ff hn)
  | false =>
    simp only [Bool.false_eq_true, if_false]
    exact hn .undef undef I β h w (hno rfl) (.refl _ _ _ _) rr (.imm _ _ (.undef _ _))

/-! ### in the order of the text -/
def aops (P : Program) (n : Nat) (all : List Oper) : List Oper → Fr → Heap → (Fr → Heap → Prop) → Prop
  | [], a, h, K => K a h
  | o :: rest, a, h, K => guardK all o.guard a fun run => match run with
    | true => aop P o.op a h fun v h' => putK n o.dst a v fun a' => aops P n all rest a' h' K
    | false => putK n o.dst a .undef fun a' => aops P n all rest a' h K

theorem aops_sound {ops : Array Oper} {Q : Exit → Act → World → Prop} : ∀ (l : List Oper) (i : Nat), (∀ j, l[j]? = ops[i + j]?) → ∀ (a : Fr) (h : Heap) (K : Fr → Heap → Prop) (I : Nat → Prop) (β : Nat → Nat) (w : World) (c : Act), Rel I β h w → FRel I β h.length w n a c →
    aops P n ops.toList l a h K → (∀ a' h' I' β' c' w', K a' h' → Ext I β h w I' β' h' w' → Rel I' β' h' w' → FRel I' β' h'.length w' n a' c' → Q .normal c' w') → wpOps P ops Q (List.range' i l.length) c w
  | [], i, hl, a, h, K, I, β, w, c, r, f, hk, hn => by
    simp only [List.length_nil, List.range'_zero, wpOps]
    exact hn a h I β c w hk (.refl _ _ _ _) r f
  | o :: l, i, hl, a, h, K, I, β, w, c, r, f, hk, hn => by
    have hi : ops[i]? = some o := by have := hl 0; simpa using this.symm
    simp only [List.length_cons, List.range'_succ, wpOps_cons]
    obtain ⟨run, hg, hk⟩ := guardK_sound hk
    refine wpOp_of hi hg (fun v h' => inb n o.dst ∧ aops P n ops.toList l (pt o.dst a v) h' K) (fun e => ?_) (fun e => ?_) r f (fun u cv I' β' h' w' hk' he hr hv => ?_)
    · subst e
      exact (aop_sound hk).mono fun v h' => putK_sound
    · subst e
      exact putK_sound hk
    · exact aops_sound l (i + 1) (fun j => by have := hl (j + 1); simpa [Nat.add_assoc, Nat.add_comm 1] using this) _ h' K I' β' w' _ hr ((f.ext r he).pt hk'.1 hv) hk'.2
        (fun a' h2 I2 β2 c' w2 k2 e2 => hn a' h2 I2 β2 c' w2 k2 (he.trans e2))

/-! ### a region that draws its order -/
def pureOp (op : Op) : Bool := quietOp op || loadOp op
def edgesOf (ops : List Oper) (i : Nat) : List Nat := match ops[i]? with | some o => (o.after.toList.filter (Region.binds .any)).map (·.on) | none => []
def tmsOf (ops : List Oper) (i : Nat) : List Tmp := match ops[i]? with | some o => tmpsOf o.op ++ (match o.guard with | some (j, _) => (gslot ops j).toList | none => []) | none => []
def presOf (ops : List Oper) : List (List Nat) :=
  ops.foldl (fun acc o => acc ++ [let es := (o.after.toList.filter (Region.binds .any)).map (·.on); (es ++ es.flatMap fun e => acc.getD e []).eraseDups]) []
def isEff (ops : List Oper) (i : Nat) : Bool := match ops[i]? with | some o => !pureOp o.op | none => true
def isLoad (ops : List Oper) (i : Nat) : Bool := match ops[i]? with | some o => !quietOp o.op | none => true

abbrev Plan := List (Nat × Bool × List Nat)
/-- 'free': operations that stand done when this is asked of. -/
def drawChkF (ops : List Oper) (plan : Plan) (free : List Nat) : Bool :=
  let pr := presOf ops
  let ord : List Nat := plan.map (·.1)
  let is := List.range ops.length
  (is.all fun i => (pr.getD i []).all fun j => (edgesOf ops i).contains j || (edgesOf ops i).any fun k => decide (k < i) && (pr.getD k []).contains j) &&
  (is.all fun i => (edgesOf ops i).all fun e => decide (e < i)) &&
  (decide ord.Nodup && is.all fun i => ord.contains i) && (ord.all fun i => decide (i < ops.length)) &&
  (is.all fun i => is.all fun j => decide (i = j) || (gslot ops i).isNone || !decide (gslot ops i = gslot ops j)) &&
  (is.all fun i => (tmsOf ops i).all fun t => is.all fun j => decide (j = i) || !decide (gslot ops j = some t) || (decide (ord.idxOf j < ord.idxOf i) && (pr.getD i []).contains j) || (decide (ord.idxOf i < ord.idxOf j) && (pr.getD j []).contains i)) &&
  (is.all fun e => !isEff ops e || is.all fun i => !decide (ord.idxOf e < ord.idxOf i) || ((pr.getD i []).contains e || free.contains e)) &&
  (plan.all fun x => !isEff ops x.1 || is.all fun i => isEff ops i || !isLoad ops i || !decide (ord.idxOf i < ord.idxOf x.1) || (pr.getD x.1 []).contains i || (x.2.2.contains i && plan.any fun y => decide (y.1 = i) && y.2.1))

def drawChk (ops : List Oper) (plan : Plan) : Bool := drawChkF ops plan []

/-- What stood done, and is to give the same at the new heap. -/
def reK (P : Program) (all : List Oper) (done : List (Nat × Fr × AV)) (h : Heap) : List Nat → Prop
  | [] => True
  | j :: r => (match done.find? (fun x => x.1 == j), all[j]? with
    | some (_, a, v), some o => aop P o.op a h fun v' h' => v' = v ∧ h' = h
    | _, _ => True) ∧ reK P all done h r

def adr (P : Program) (n : Nat) (all : List Oper) : Plan → Fr → Heap → List (Nat × Fr × AV) → (Fr → Heap → Prop) → Prop
  | [], a, h, done, K => K a h
  | (i, keep, rs) :: rest, a, h, done, K => (match all[i]? with
    | none => False
    | some o => guardK all o.guard a fun run => match run with
      | true => (match pureOp o.op with
        | true => ∃ v, aop P o.op a h (fun v' h' => v' = v ∧ h' = h) ∧ putK n o.dst a v fun a' => adr P n all rest a' h (match keep with | true => (i, a, v) :: done | false => done) K
        | false => aop P o.op a h fun v h' => reK P all done h' rs ∧ putK n o.dst a v fun a' => adr P n all rest a' h' done K)
      | false => putK n o.dst a .undef fun a' => adr P n all rest a' h done K)


structure DrawOk (ops : List Oper) (plan : Plan) (free : List Nat) : Prop where
  pre : ∀ i, i < ops.length → ∀ j, j ∈ (presOf ops).getD i [] → j ∈ edgesOf ops i ∨ ∃ k, k ∈ edgesOf ops i ∧ k < i ∧ j ∈ (presOf ops).getD k []
  back : ∀ i, i < ops.length → ∀ e, e ∈ edgesOf ops i → e < i
  nodup : (plan.map (·.1)).Nodup
  all : ∀ i, i < ops.length → i ∈ plan.map (·.1)
  lt : ∀ i, i ∈ plan.map (·.1) → i < ops.length
  one : ∀ i j t, i < ops.length → j < ops.length → gslot ops i = some t → gslot ops j = some t → i = j
  tms : ∀ i, i < ops.length → ∀ t, t ∈ tmsOf ops i → ∀ j, j < ops.length → j ≠ i → gslot ops j = some t →
    ((plan.map (·.1)).idxOf j < (plan.map (·.1)).idxOf i ∧ j ∈ (presOf ops).getD i []) ∨ ((plan.map (·.1)).idxOf i < (plan.map (·.1)).idxOf j ∧ i ∈ (presOf ops).getD j [])
  eff : ∀ e, e < ops.length → isEff ops e = true → ∀ i, i < ops.length → (plan.map (·.1)).idxOf e < (plan.map (·.1)).idxOf i → e ∈ (presOf ops).getD i [] ∨ e ∈ free
  re : ∀ x, x ∈ plan → isEff ops x.1 = true → ∀ i, i < ops.length → isEff ops i = false → isLoad ops i = true → (plan.map (·.1)).idxOf i < (plan.map (·.1)).idxOf x.1 → i ∉ (presOf ops).getD x.1 [] → i ∈ x.2.2 ∧ ∃ y, y ∈ plan ∧ y.1 = i ∧ y.2.1 = true

theorem drawOk {ops : List Oper} {plan : Plan} {free : List Nat} (h : drawChkF ops plan free = true) : DrawOk ops plan free := by
  unfold drawChkF at h
  simp only [Bool.and_eq_true, List.all_eq_true, List.any_eq_true, List.mem_range, Bool.or_eq_true, decide_eq_true_eq, List.contains_iff_mem, Bool.not_eq_true', decide_eq_false_iff_not, Option.isNone_iff_eq_none] at h
  obtain ⟨⟨⟨⟨⟨⟨⟨h1, h2⟩, h3, h4⟩, h5⟩, h6⟩, h7⟩, h8⟩, h9⟩ := h
  refine ⟨fun i hi j hj => ?_, h2, h3, h4, h5, fun i j t hi hj e1 e2 => ?_, fun i hi t ht j hj hne hs => ?_, fun e he hf i hi hlt => ?_, fun x hx hf i hi hp hl hlt hn => ?_⟩
  · rcases h1 i hi j hj with h | ⟨k, hk, hlt, hm⟩
    · exact .inl h
    · exact .inr ⟨k, hk, hlt, hm⟩
  · rcases h6 i hi j hj with (h | h) | h
    · exact h
    · rw [e1] at h; cases h
    · exact absurd (e1.trans e2.symm) h
  · rcases h7 i hi t ht j hj with ((h | h) | h) | h
    · exact absurd h hne
    · exact absurd hs h
    · exact .inl h
    · exact .inr h
  · rcases h8 e he with h | h
    · rw [hf] at h; cases h
    · rcases h i hi with h | h
      · exact absurd hlt h
      · exact h
  · rcases h9 x hx with h | h
    · rw [hf] at h; cases h
    · rcases h i hi with (((h | h) | h) | h) | h
      · rw [hp] at h; cases h
      · rw [hl] at h; cases h
      · exact absurd hlt h
      · exact absurd h hn
      · obtain ⟨h1, y, h2, h3, h4⟩ := h
        exact ⟨h1, y, h2, h3, h4⟩

/-! frames as what was put, newest first -/
def frm (ops : List Oper) (a0 : Fr) : List (Nat × AV) → Fr
  | [] => a0
  | (i, v) :: r => pt (gslot ops i) (frm ops a0 r) v

theorem frm_find (ops : List Oper) (a0 : Fr) (t : Nat) : ∀ l : List (Nat × AV), frm ops a0 l t = match l.find? (fun x => gslot ops x.1 == some t) with | some x => x.2 | none => a0 t
  | [] => rfl
  | (i, v) :: r => by
    simp only [frm, List.find?_cons]
    cases hs : gslot ops i with
    | none =>
      simp only [pt, hs]
      exact frm_find ops a0 t r
    | some d =>
      simp only [pt, hs]
      by_cases e : t = d
      · subst e
        simp [upd_same]
      · rw [upd_ne _ _ _ _ e]
        have : ((some d : Option Nat) == some t) = false := by simp [Ne.symm e]
        rw [this]
        exact frm_find ops a0 t r

theorem nodup_val {l : List (Nat × AV)} (hn : (l.map (·.1)).Nodup) {i : Nat} {v v' : AV} (h1 : (i, v) ∈ l) (h2 : (i, v') ∈ l) : v = v' := by
  induction l with
  | nil => cases h1
  | cons x l ih =>
    simp only [List.map_cons, List.nodup_cons] at hn
    rcases List.mem_cons.1 h1 with e1 | k1 <;> rcases List.mem_cons.1 h2 with e2 | k2
    · rw [← e1] at e2; injection e2 with _ e; exact e.symm
    · rw [← e1] at hn; exact absurd (List.mem_map.2 ⟨_, k2, rfl⟩) hn.1
    · rw [← e2] at hn; exact absurd (List.mem_map.2 ⟨_, k1, rfl⟩) hn.1
    · exact ih hn.2 k1 k2

theorem frm_same {ops : List Oper} {a0 : Fr} {t : Nat} {l l' : List (Nat × AV)} (hone : ∀ i j t, gslot ops i = some t → gslot ops j = some t → i = j) (hn' : (l'.map (·.1)).Nodup)
    (hw : ∀ j v, gslot ops j = some t → ((j, v) ∈ l ↔ (j, v) ∈ l')) : frm ops a0 l t = frm ops a0 l' t := by
  rw [frm_find, frm_find]
  cases h1 : l.find? (fun x => gslot ops x.1 == some t) with
  | none =>
    cases h2 : l'.find? (fun x => gslot ops x.1 == some t) with
    | none => rfl
    | some y =>
      have hy := List.mem_of_find?_eq_some h2
      have hp := List.find?_some h2
      have hp' : gslot ops y.1 = some t := by simpa using hp
      have := List.find?_eq_none.1 h1 _ ((hw y.1 y.2 hp').2 hy)
      exact absurd hp this
  | some x =>
    have hx := List.mem_of_find?_eq_some h1
    have hp := List.find?_some h1
    have hp' : gslot ops x.1 = some t := by simpa using hp
    have hx' := (hw x.1 x.2 hp').1 hx
    cases h2 : l'.find? (fun x => gslot ops x.1 == some t) with
    | none => exact absurd hp (List.find?_eq_none.1 h2 _ hx')
    | some y =>
      have hy := List.mem_of_find?_eq_some h2
      have hq : gslot ops y.1 = some t := by simpa using List.find?_some h2
      have e := hone _ _ _ hp' hq
      obtain ⟨i, v⟩ := x
      obtain ⟨j, v'⟩ := y
      simp only at e
      subst e
      exact nodup_val hn' hx' hy

theorem gslot_lt {ops : List Oper} {i t : Nat} (h : gslot ops i = some t) : i < ops.length := by
  unfold gslot at h
  cases ho : ops[i]? with
  | none => simp [ho] at h
  | some o => exact (List.getElem?_eq_some_iff.1 ho).1

/-- What is known of an operation that has been looked at, and has not run. -/
def Valid (P : Program) (n : Nat) (ops : List Oper) (i : Nat) (a : Fr) (v : AV) (h : Heap) : Prop :=
  ∃ o, ops[i]? = some o ∧ inb n o.dst ∧ ((gval ops o.guard a = some true ∧ pureOp o.op = true ∧ aop P o.op a h fun v' h' => v' = v ∧ h' = h) ∨ (gval ops o.guard a = some false ∧ v = .undef ∧ pureOp o.op = true))

structure Inv (P : Program) (n : Nat) (ops : List Oper) (plan : Plan) (K : Fr → Heap → Prop) (a0 : Fr) (S : Nat → Prop) (hist : List (Nat × AV)) (rest : Plan) (h : Heap) (done : List (Nat × Fr × AV)) : Prop where
  ord : (hist.map (·.1)).reverse ++ rest.map (·.1) = plan.map (·.1)
  sub : ∃ p, p ++ rest = plan
  run : adr P n ops rest (frm ops a0 hist) h done K
  ran : ∀ i, S i → i ∈ hist.map (·.1)
  effs : ∀ i, i ∈ hist.map (·.1) → isEff ops i = true → S i
  val : ∀ l1 i v l2, hist = l1 ++ (i, v) :: l2 → ¬ S i → Valid P n ops i (frm ops a0 l2) v h
  kept : ∀ l1 i v l2, hist = l1 ++ (i, v) :: l2 → (∃ y, y ∈ plan ∧ y.1 = i ∧ y.2.1 = true) → ¬ S i → (∀ o, ops[i]? = some o → gval ops o.guard (frm ops a0 l2) = some true) → done.find? (fun x => x.1 == i) = some (i, frm ops a0 l2, v)


theorem countP_lt {α : Type} {p p' : α → Bool} {i : α} : ∀ {l : List α}, i ∈ l → (∀ x, p' x = true → p x = true) → p i = true → p' i = false → l.countP p' < l.countP p
  | [], h, _, _, _ => by cases h
  | x :: l, h, hm, h1, h2 => by
    have hle : l.countP p' ≤ l.countP p := List.countP_mono_left (fun x _ => hm x)
    simp only [List.countP_cons]
    rcases List.mem_cons.1 h with rfl | h
    · simp [h1, h2]; omega
    · have ih := countP_lt h hm h1 h2
      by_cases hx : p' x = true
      · simp [hx, hm x hx]; exact ih
      · simp [hx]; split <;> omega

theorem pre_in {ops : List Oper} {plan : Plan} {free : List Nat} (hd : DrawOk ops plan free) {S : Nat → Prop} (hc : ∀ i, S i → ∀ e, e ∈ edgesOf ops i → S e) : ∀ i, i < ops.length → (∀ e, e ∈ edgesOf ops i → S e) → ∀ j, j ∈ (presOf ops).getD i [] → S j := by
  intro i
  induction i using Nat.strongRecOn with
  | _ i ih =>
    intro hi he j hj
    rcases hd.pre i hi j hj with h | ⟨k, hk, hlt, hm⟩
    · exact he j h
    · exact ih k hlt (by omega) (hc k (he k hk)) j hm

theorem getD_app {l1 l2 : List (Nat × AV)} : True := trivial

/-- One more operation is looked at, ahead of its run. -/
theorem absorb {ops : List Oper} {plan : Plan} {free : List Nat} (hd : DrawOk ops plan free) {K : Fr → Heap → Prop} {a0 : Fr} {S : Nat → Prop} {hist : List (Nat × AV)} {x : Nat × Bool × List Nat} {rest : Plan} {h : Heap} {done : List (Nat × Fr × AV)}
    (hv : Inv P n ops plan K a0 S hist (x :: rest) h done) (hp : isEff ops x.1 = false) : ∃ v done', Inv P n ops plan K a0 S ((x.1, v) :: hist) rest h done' := by
  obtain ⟨i, keep, rs⟩ := x
  have hplan : (i, keep, rs) ∈ plan := by obtain ⟨p, hp⟩ := hv.sub; rw [← hp]; simp
  have hnd := hd.nodup
  have hni : i ∉ hist.map (·.1) := by
    have h1 := hv.ord
    rw [← h1] at hnd
    have h2 := List.nodup_append.1 hnd
    intro hm
    exact h2.2.2 i (by simpa using hm) i (by simp) rfl
  have hrun := hv.run
  simp only [adr] at hrun
  cases ho : ops[i]? with
  | none => simp [ho] at hrun
  | some o =>
    simp only [ho] at hrun
    have hpo : pureOp o.op = true := by simpa [isEff, ho] using hp
    have hslot : gslot ops i = o.dst := by simp [gslot, ho]
    obtain ⟨r, hg, hk⟩ := guardK_sound hrun
    have base : ∀ v done', (inb n o.dst ∧ adr P n ops rest (pt o.dst (frm ops a0 hist) v) h done' K) → Valid P n ops i (frm ops a0 hist) v h →
        ((∃ y, y ∈ plan ∧ y.1 = i ∧ y.2.1 = true) → gval ops o.guard (frm ops a0 hist) = some true → done'.find? (fun x => x.1 == i) = some (i, frm ops a0 hist, v)) → (∀ j, j ≠ i → done'.find? (fun x => x.1 == j) = done.find? (fun x => x.1 == j)) →
        Inv P n ops plan K a0 S ((i, v) :: hist) rest h done' := by
      intro v done' h1 h2 h3 h4
      refine ⟨by simpa using hv.ord, by obtain ⟨p, hp⟩ := hv.sub; exact ⟨p ++ [(i, keep, rs)], by simpa using hp⟩, by simp only [frm, hslot]; exact h1.2, fun j hj => List.mem_cons_of_mem _ (hv.ran j hj), fun j hj he => ?_, fun l1 j u l2 hl hj => ?_, fun l1 j u l2 hl hy hj hgv => ?_⟩
      · rcases List.mem_cons.1 hj with e | hj
        · rw [e] at he
          simp only at he hp
          rw [hp] at he
          cases he
        · exact hv.effs j hj he
      · cases l1 with
        | nil =>
          simp only [List.nil_append, List.cons.injEq, Prod.mk.injEq] at hl
          obtain ⟨⟨rfl, rfl⟩, rfl⟩ := hl
          exact h2
        | cons y l1 =>
          simp only [List.cons_append, List.cons.injEq] at hl
          exact hv.val l1 j u l2 hl.2 hj
      · cases l1 with
        | nil =>
          simp only [List.nil_append, List.cons.injEq, Prod.mk.injEq] at hl
          obtain ⟨⟨rfl, rfl⟩, rfl⟩ := hl
          exact h3 hy (hgv o ho)
        | cons y l1 =>
          simp only [List.cons_append, List.cons.injEq] at hl
          have hne : j ≠ i := by
            rintro rfl
            exact hni (by rw [hl.2]; simp)
          rw [h4 j hne]
          exact hv.kept l1 j u l2 hl.2 hy hj hgv
    cases r with
    | true =>
      simp only [hpo] at hk
      obtain ⟨v, hv1, hk⟩ := hk
      have hk2 := putK_sound hk
      refine ⟨v, _, base v _ hk2 ⟨o, ho, hk2.1, .inl ⟨hg, hpo, hv1⟩⟩ ?_ ?_⟩
      · rintro ⟨y, hy, hy1, hy2⟩ _
        have : y = (i, keep, rs) := by
          have key : ∀ (l : Plan), (l.map (·.1)).Nodup → ∀ y z, y ∈ l → z ∈ l → y.1 = z.1 → y = z := by
            intro l
            induction l with
            | nil => intro _ y z hy; cases hy
            | cons a l ih =>
              intro hn y z hy hz e
              simp only [List.map_cons, List.nodup_cons] at hn
              rcases List.mem_cons.1 hy with e1 | k1 <;> rcases List.mem_cons.1 hz with e2 | k2
              · rw [e1, e2]
              · rw [e1] at e; exact absurd (List.mem_map.2 ⟨_, k2, e.symm⟩) hn.1
              · rw [e2] at e; exact absurd (List.mem_map.2 ⟨_, k1, e⟩) hn.1
              · exact ih hn.2 y z k1 k2 e
          exact key plan hd.nodup y _ hy hplan hy1
        subst this
        simp only at hy2
        subst hy2
        simp
      · intro j hj
        cases keep with
        | true => simp [List.find?_cons, Ne.symm hj]
        | false => rfl
    | false =>
      have hk2 := putK_sound hk
      refine ⟨.undef, done, base _ _ hk2 ⟨o, ho, hk2.1, .inr ⟨hg, rfl, hpo⟩⟩ ?_ (fun _ _ => rfl)⟩
      intro _ hgt
      rw [hg] at hgt
      cases hgt

end
end Go.AL
