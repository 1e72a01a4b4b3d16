/- The small logic's append and copy. No condition. -/
import Derived.Test.YtgdlkhgfehclpaaALf
namespace Go.AL
set_option linter.unusedVariables false
set_option linter.unusedSimpArgs false
set_option linter.unnecessarySimpa false

/-- The elements of a slice, k cells each. -/
def elemsK (h : Heap) (k : Nat) (x : AV) (K : List (List AV) → Prop) : Prop :=
  match x with
  | .nils => K []
  | .isl k' es => (es ≠ [] → k' = k) ∧ K es
  | .osl id k' i len _ _ => k' = k ∧ ∃ es ex, h[id]? = some (.arr k es ex) ∧ i + len ≤ es.length ∧ K ((es.drop i).take len)
  | _ => False

/-- What is known of cells read in line. -/
def NRel (I : Nat → Prop) (β : Nat → Nat) (N : Nat) (w : World) (k : Nat) (es : List (List AV)) (news : List Value) : Prop :=
  (∀ (i : Nat) (e : List AV), es[i]? = some e → e.length = k) ∧ news.length = es.length * k ∧ (∀ v ∈ news, v.oneCell' = true) ∧ ∀ (i : Nat) (e : List AV) (j : Nat) (u : AV), es[i]? = some e → e[j]? = some u → ∃ v, news[i * k + j]? = some v ∧ VRel I β N w u v

theorem nrel_mk {I : Nat → Prop} {β : Nat → Nat} {N : Nat} {w : World} {k : Nat} {es : List (List AV)} (hk : ∀ (i : Nat) (e : List AV), es[i]? = some e → e.length = k) (g : Nat → Value)
    (hg : ∀ (i : Nat) (e : List AV) (j : Nat) (u : AV), es[i]? = some e → e[j]? = some u → VRel I β N w u (g (i * k + j)) ∧ (g (i * k + j)).oneCell' = true) :
    NRel I β N w k es ((List.range (es.length * k)).map g) := by
  have split : ∀ q, q < es.length * k → ∃ i e j u, es[i]? = some e ∧ e[j]? = some u ∧ q = i * k + j := by
    intro q hq
    have hk0 : 0 < k := by
      rcases Nat.eq_zero_or_pos k with h0 | h0
      · rw [h0] at hq; simp at hq
      · exact h0
    have hi : q / k < es.length := (Nat.div_lt_iff_lt_mul hk0).2 hq
    have he := List.getElem?_eq_getElem hi
    have hj : q % k < (es[q / k]).length := by rw [hk _ _ he]; exact Nat.mod_lt _ hk0
    exact ⟨q / k, _, q % k, _, he, List.getElem?_eq_getElem hj, by rw [Nat.mul_comm]; exact (Nat.div_add_mod q k).symm⟩
  refine ⟨hk, by simp, fun v hv => ?_, fun i e j u hi hj => ?_⟩
  · simp only [List.mem_map, List.mem_range] at hv
    obtain ⟨q, hq, rfl⟩ := hv
    obtain ⟨i, e, j, u, h1, h2, rfl⟩ := split q hq
    exact (hg i e j u h1 h2).2
  · have hjk : j < k := by rw [← hk i e hi]; exact (List.getElem?_eq_some_iff.1 hj).1
    have hlt := mul_lt_of hjk (List.getElem?_eq_some_iff.1 hi).1
    exact ⟨g (i * k + j), by simp [hlt], (hg i e j u hi hj).1⟩

section
variable {P : Program} {I : Nat → Prop} {β : Nat → Nat} {h : Heap} {w : World}

theorem elemsK_sound (r : Rel I β h w) {k : Nat} {x : AV} {v : Value} {K : List (List AV) → Prop} (hv : VRel I β h.length w x v) (hk : elemsK h k x K) :
    ∃ es news A c, K es ∧ v = .slice A es.length c ∧ NRel I β h.length w k es news ∧ ∀ d, (Builtin.firstCells k es.length v).run P { w with drawn := d } = .ok news.toArray { w with drawn := d } := by
  cases x with
  | nils =>
    rw [hv.nils_inv]
    exact ⟨[], [], none, 0, hk, rfl, ⟨fun i e h => by simp at h, by simp, fun v h => by simp at h, fun i e j u h => by simp at h⟩, fun d => rfl⟩
  | isl k' es =>
    rcases hv.isl_inv.isl_inv with ⟨A, c, rfl, ev⟩ | ⟨b, o, c, f, hne, ev, hle, hb, hkk, hcell, h1, hr⟩
    · refine ⟨[], [], A, c, hk.2, ev, ⟨fun i e h => by simp at h, by simp, fun v h => by simp at h, fun i e j u h => by simp at h⟩, fun d => ?_⟩
      rw [ev]
      cases A with
      | none => rfl
      | some a => simp [Builtin.firstCells, loadCells, loadCellsFrom]
    · obtain ⟨hk', hk⟩ := hk
      obtain rfl := hk' hne
      have hn := nrel_mk (I := I) (β := β) (N := h.length) (w := w) hkk (fun q => (w.cell? ⟨b, o + q, none⟩).getD undef) (fun i e j u hi hj => by
        rw [hcell i e j u hi hj]; exact ⟨.imm _ _ (hr i e j u hi hj), h1 i e j u hi hj⟩)
      refine ⟨es, _, _, c, hk, ev, hn, fun d => ?_⟩
      rw [ev]
      have := run_loadCells_list (P := P) (w := { w with drawn := d }) ⟨b, o, none⟩ ((List.range (es.length * k')).map fun q => (w.cell? ⟨b, o + q, none⟩).getD undef) (fun j v hj => ?_)
      · simpa [Builtin.firstCells] using this
      · obtain ⟨hlt, rfl⟩ := List.getElem?_eq_some_iff.1 hj
        simp only [List.length_map, List.length_range] at hlt
        have hk0 : 0 < k' := by
          rcases Nat.eq_zero_or_pos k' with h0 | h0
          · rw [h0] at hlt; simp at hlt
          · exact h0
        have hi : j / k' < es.length := (Nat.div_lt_iff_lt_mul hk0).2 hlt
        have he := List.getElem?_eq_getElem hi
        have hj' : j % k' < (es[j / k']).length := by rw [hkk _ _ he]; exact Nat.mod_lt _ hk0
        have := hcell _ _ _ _ he (List.getElem?_eq_getElem hj')
        rw [show j / k' * k' + j % k' = j by rw [Nat.mul_comm]; exact Nat.div_add_mod j k'] at this
        have hw : ({ w with drawn := d } : World).cell? ⟨b, o + j, none⟩ = w.cell? ⟨b, o + j, none⟩ := rfl
        simp [hw, this, Addr.add_lit]
  | osl id k' i len cap ex =>
    obtain ⟨rfl, es, ex', hob, hle, hk⟩ := hk
    obtain ⟨c, n, ev, hid, hlc, hcc, hex, hbs, hfit⟩ := hv.osl_inv
    obtain ⟨q1, q2, cur, t, hb, hkk, hs, hexx, hcell⟩ := r.obj id _ hob (by simp)
    have hel : ((es.drop i).take len).length = len := by simp; omega
    have hget : ∀ (j : Nat) (e : List AV), ((es.drop i).take len)[j]? = some e → es[i + j]? = some e := by
      intro j e hj
      rw [List.getElem?_take] at hj
      split at hj
      · rwa [List.getElem?_drop] at hj
      · simp at hj
    have hn := nrel_mk (I := I) (β := β) (N := h.length) (w := w) (k := k') (es := (es.drop i).take len) (fun j e hj => hkk _ _ (hget j e hj)) (fun q => (cur[i * k' + q]?).getD undef) (fun j e q u hj hq => by
      obtain ⟨v, e1, e2, e3⟩ := hcell _ e q u (hget j e hj) hq
      rw [Nat.add_mul, Nat.add_assoc] at e1
      rw [e1]
      exact ⟨e2, e3⟩)
    refine ⟨_, _, some ⟨β id, i * k', none⟩, c, hk, by rw [hel]; exact ev, hn, fun d => ?_⟩
    rw [ev]
    have := run_loadCells_list (P := P) (w := { w with drawn := d }) ⟨β id, i * k', none⟩ ((List.range (((es.drop i).take len).length * k')).map fun q => (cur[i * k' + q]?).getD undef) (fun j v hj => ?_)
    · simpa [Builtin.firstCells] using this
    · obtain ⟨hlt, rfl⟩ := List.getElem?_eq_some_iff.1 hj
      simp only [List.length_map, List.length_range, hel] at hlt
      have hlt2 : i * k' + j < cur.size := by
        have : (i + len) * k' ≤ es.length * k' := Nat.mul_le_mul_right _ hle
        rw [Nat.add_mul] at this
        omega
      have hw : ({ w with drawn := d } : World).cell? ⟨β id, i * k' + j, none⟩ = w.cell? ⟨β id, i * k' + j, none⟩ := rfl
      simp [hw, Addr.add_lit, cell_of_block hb, hlt2]
  | _ => exact hk.elim

/-! ### append -/
theorem kill_ok (r : Rel I β h w) (id : Nat) : Ext I β h w I β (h.set id .dead) w ∧ Rel I β (h.set id .dead) w := by
  have key : ∀ (j : Nat) (o : Ob), (h.set id .dead)[j]? = some o → o ≠ .dead → h[j]? = some o := by
    intro j o hj hd
    by_cases e : j = id
    · subst e
      by_cases hlt : j < h.length
      · rw [List.getElem?_set_self hlt] at hj
        injection hj with hj
        exact absurd hj.symm hd
      · rw [List.getElem?_eq_none (by simp; omega)] at hj
        cases hj
    · rwa [List.getElem?_set_ne (fun x => e x.symm)] at hj
  refine ⟨⟨rfl, rfl, rfl, Nat.le_refl _, by simp, fun _ _ => rfl, fun _ x => x, fun _ x => .inl x, fun b ⟨i, o, h1, h2, h3⟩ => .inl ⟨i, o, key i o h1 h2, h2, h3⟩, fun _ _ _ => rfl, fun _ _ x => x⟩, ⟨r.imm, fun i o h1 h2 => ?_, fun i i' o o' h1 h2 h3 h4 => r.inj i i' o o' (key _ _ h1 h2) h2 (key _ _ h3 h4) h4⟩⟩
  simpa using r.obj i o (key i o h1 h2) h2

/-- A new name for what an object held. -/
theorem rename_ok (r : Rel I β h w) (id : Nat) (o ob : Ob) (h1 : h[id]? = some o) (h2 : o ≠ .dead) (hb : ∀ I' β' N' w', (∀ u v, VRel I β h.length w u v → VRel I' β' N' w' u v) → ORel I' β' N' w' ob w.heap[β id]?) :
    Ext I β h w I (bind1 β h.length (β id)) (h.set id .dead ++ [ob]) w ∧ Rel I (bind1 β h.length (β id)) (h.set id .dead ++ [ob]) w := by
  have hid : id < h.length := (List.getElem?_eq_some_iff.1 h1).1
  have key : ∀ (j : Nat) (x : Ob), (h.set id .dead ++ [ob])[j]? = some x → x ≠ .dead → (j < h.length ∧ j ≠ id ∧ h[j]? = some x) ∨ (j = h.length ∧ x = ob) := by
    intro j x hj hd
    rcases Nat.lt_or_ge j h.length with hlt | hge
    · rw [List.getElem?_append_left (by simpa using hlt)] at hj
      by_cases e : j = id
      · subst e
        rw [List.getElem?_set_self hlt] at hj
        injection hj with hj
        exact absurd hj.symm hd
      · rw [List.getElem?_set_ne (fun x => e x.symm)] at hj
        exact .inl ⟨hlt, e, hj⟩
    · have := (List.getElem?_eq_some_iff.1 hj).1
      simp at this
      have hj' : j = h.length := by omega
      subst hj'
      rw [List.getElem?_append_right (by simp)] at hj
      simp at hj
      exact .inr ⟨rfl, hj.symm⟩
  have hm : ∀ u v, VRel I β h.length w u v → VRel I (bind1 β h.length (β id)) (h.set id .dead ++ [ob]).length w u v := fun u v hv =>
    hv.mono (fun _ x => x) (fun _ _ => rfl) (by simp) (fun i hi => bind1_old _ _ _ _ hi) (fun _ _ x => x)
  refine ⟨⟨rfl, rfl, rfl, Nat.le_refl _, by simp, fun i hi => bind1_old _ _ _ _ hi, fun _ x => x, fun _ x => .inl x, ?_, fun _ _ _ => rfl, fun _ _ x => x⟩, ⟨r.imm, ?_, ?_⟩⟩
  · rintro b ⟨j, x, a1, a2, a3⟩
    rcases key j x a1 a2 with ⟨c1, c2, c3⟩ | ⟨rfl, rfl⟩
    · rw [bind1_old _ _ _ _ c1] at a3
      exact .inl ⟨j, x, c3, a2, a3⟩
    · rw [bind1_new] at a3
      exact .inl ⟨id, o, h1, h2, a3⟩
  · intro j x a1 a2
    rcases key j x a1 a2 with ⟨c1, c2, c3⟩ | ⟨rfl, rfl⟩
    · rw [bind1_old _ _ _ _ c1]
      obtain ⟨p, q, s⟩ := r.obj j x c3 a2
      exact ⟨p, q, s.mono hm⟩
    · rw [bind1_new]
      obtain ⟨p, q, s⟩ := r.obj id o h1 h2
      exact ⟨p, q, hb _ _ _ _ hm⟩
  · intro j j' x x' a1 a2 a3 a4 he
    rcases key j x a1 a2 with ⟨c1, c2, c3⟩ | ⟨rfl, rfl⟩ <;> rcases key j' x' a3 a4 with ⟨d1, d2, d3⟩ | ⟨rfl, rfl⟩
    · rw [bind1_old _ _ _ _ c1, bind1_old _ _ _ _ d1] at he
      exact r.inj j j' x x' c3 a2 d3 a4 he
    · rw [bind1_old _ _ _ _ c1, bind1_new] at he
      exact absurd (r.inj j id x o c3 a2 h1 h2 he) c2
    · rw [bind1_new, bind1_old _ _ _ _ d1] at he
      exact absurd (r.inj j' id x' o d3 a4 h1 h2 he.symm) d2
    · rfl

theorem NRel.get {k : Nat} {es : List (List AV)} {news : List Value} (hn : NRel I β h.length w k es news) : NRel I β h.length w k es news := hn

/-- A block made of a row, and of what is appended, and of what is left. -/
theorem grown_row {I' : Nat → Prop} {β' : Nat → Nat} {N' : Nat} {w' : World} {k : Nat} {es xs : List (List AV)} {old news : List Value} (h1 : NRel I β h.length w k es old) (h2 : NRel I β h.length w k xs news) (cells : Array Value) (t : TypeId)
    (hsz : (es.length + xs.length) * k ≤ cells.size) (hc : ∀ q, q < (es.length + xs.length) * k → cells[q]? = (old ++ news)[q]?) (hm : ∀ u v, VRel I β h.length w u v → VRel I' β' N' w' u v) :
    ORel I' β' N' w' (.arr k (es ++ xs) false) (some (.cells cells t (0, 0))) := by
  refine ⟨cells, t, rfl, fun i e hi => ?_, by simpa using hsz, (fun hx => by cases hx), fun i e j u hi hj => ?_⟩
  · rcases Nat.lt_or_ge i es.length with hlt | hge
    · rw [List.getElem?_append_left hlt] at hi; exact h1.1 i e hi
    · rw [List.getElem?_append_right hge] at hi; exact h2.1 _ e hi
  · rcases Nat.lt_or_ge i es.length with hlt | hge
    · rw [List.getElem?_append_left hlt] at hi
      obtain ⟨v, e1, e2⟩ := h1.2.2.2 i e j u hi hj
      have hv : v ∈ old := List.mem_of_getElem? e1
      have hq : i * k + j < old.length := (List.getElem?_eq_some_iff.1 e1).1
      have : i * k + j < (es.length + xs.length) * k := by rw [h1.2.1] at hq; rw [Nat.add_mul]; omega
      exact ⟨v, by rw [hc _ this, List.getElem?_append_left hq]; exact e1, hm _ _ e2, h1.2.2.1 v hv⟩
    · rw [List.getElem?_append_right hge] at hi
      obtain ⟨v, e1, e2⟩ := h2.2.2.2 _ e j u hi hj
      have hv : v ∈ news := List.mem_of_getElem? e1
      have hq : (i - es.length) * k + j < news.length := (List.getElem?_eq_some_iff.1 e1).1
      have hik : i * k = es.length * k + (i - es.length) * k := by rw [← Nat.add_mul]; congr 1; omega
      have : i * k + j < (es.length + xs.length) * k := by rw [h2.2.1] at hq; rw [Nat.add_mul, hik]; omega
      refine ⟨v, ?_, hm _ _ e2, h2.2.2.1 v hv⟩
      rw [hc _ this, List.getElem?_append_right (by rw [h1.2.1, hik]; omega), h1.2.1, show i * k + j - es.length * k = (i - es.length) * k + j by omega]
      exact e1

def appendK (P : Program) (t t' : TypeId) (h : Heap) (s x : AV) (K : AV → Heap → Prop) : Prop :=
  ∃ e z b, telem P t = some e ∧ (telem P t').isSome = true ∧ zcells P e = some z ∧ tbytes P e = some b ∧ 0 < b ∧ elemsK h z.length x fun xs =>
    match s with
    | .nils => xs.length * b ≤ 140737488355328 ∧ (xs = [] → K .nils h) ∧ (xs ≠ [] → K (.osl h.length z.length 0 xs.length xs.length false) (h ++ [.arr z.length xs false]))
    | .osl id k i len cap ex => k = z.length ∧ (len + xs.length) * b ≤ 140737488355328 ∧ ∃ es ex', h[id]? = some (.arr k es ex') ∧ i + len ≤ es.length ∧
        (len + xs.length ≤ cap → i + len + xs.length ≤ es.length ∧ K (.osl id k i (len + xs.length) cap ex) (h.set id (.arr k (es.take (i + len) ++ xs ++ es.drop (i + len + xs.length)) ex'))) ∧
        (¬ len + xs.length ≤ cap → match ex with
          | true => K (.osl h.length k 0 (len + xs.length) (len + xs.length) false) (h ++ [.arr k ((es.drop i).take len ++ xs) false])
          | false => i = 0 ∧ K (.osl h.length k 0 (len + xs.length) (len + xs.length) false) (h.set id .dead ++ [.arr k (es.take len ++ xs) false]))
    | _ => False

/-- The machine's append, both ways. -/
theorem run_append {t t' ty e b n m cap : Nat} {z : List AV} {A B : Option Addr} {c : Nat} (he : telem P t = some e) (ht' : (telem P t').isSome = true) (hz : zcells P e = some z) (hb : tbytes P e = some b) (hb0 : 0 < b) (news old : List Value) (hnews : ∀ d, (Builtin.firstCells z.length m (.slice B m c)).run P { w with drawn := d } = .ok news.toArray { w with drawn := d })
    (hold : ¬ n + m ≤ cap → ∀ d, (Builtin.firstCells z.length n (.slice A n cap)).run P { w with drawn := d } = .ok old.toArray { w with drawn := d }) (hfit : (n + m) * b ≤ 140737488355328) :
    (n + m ≤ cap → (Builtin.append_ #[t, t'] ty #[.slice A n cap, .slice B m c]).run P w = (match (generalizing := false) A with | some a => ((storeCells (a.add (n * z.length)) news).run P w).andThen fun _ w' => .ok (.slice A (n + m) cap) w' | none => .ok (.slice A (n + m) cap) w)) ∧
    (¬ n + m ≤ cap → ∃ newCap w' cells, (Builtin.append_ #[t, t'] ty #[.slice A n cap, .slice B m c]).run P w = .ok (.slice (some ⟨w.heap.size, 0, none⟩) (n + m) newCap) w' ∧ w'.heap = w.heap.push (.cells cells e) ∧ w'.os = w.os ∧ w'.tape = w.tape ∧ w'.output = w.output ∧
      n + m ≤ newCap ∧ cells.size = (old.length + news.length) + (newCap - (n + m)) * z.length ∧ ∀ q, q < old.length + news.length → cells[q]? = (old ++ news)[q]?) := by
  obtain ⟨zv, hz0, hzl, hzs, hz1, hzr⟩ := zcells_sound hz
  obtain ⟨inf, hinf, hbi⟩ : ∃ i, P.info? e = some i ∧ i.bytes = b := by
    unfold tbytes at hb
    cases hi : P.info? e with
    | none => simp [hi] at hb
    | some i => simp [hi] at hb; exact ⟨i, rfl, hb⟩
  obtain ⟨e', he'⟩ := Option.isSome_iff_exists.1 ht'
  have hzero : (match (TypeDesc.slice e') with | .int _ => true | _ => false) = false := rfl
  constructor
  · intro hle
    have hnews0 : (Builtin.firstCells z.length m (.slice B m c)).run P w = .ok news.toArray w := hnews w.drawn
    simp only [Builtin.append_, List.getElem?_toArray, List.getElem?_cons_zero, List.getElem?_cons_succ, Sem.run_bind, run_underlying (telem_und he), Result.andThen_ok, run_sizeOf' hzs, run_underlying (telem_und he'), Sem.run_pure, Bool.false_eq_true, if_false, Builtin.lenOf, Bool.not_false, if_true, hnews0, Sem.run_ite, if_pos hle]
    cases A with
    | none => rfl
    | some a =>
      simp only [Sem.run_bind, Sem.run_pure]
  · intro hgt
    have hold := hold hgt
    have c1 : ¬ (Builtin.nextslicecap (n + m) cap * inf.bytes > 2 ^ 48) := by
      have := growslice_fits (need := n + m) (old := cap) (bytes := b) (by omega) hfit
      have h2 : (2 : Nat) ^ 48 = 281474976710656 := by decide
      rw [hbi]
      omega
    have c0 : ¬ (((n + m : Nat) : Int) > IntKind.i64.max ∧ (false = true ∨ inf.bytes = 0)) := by
      intro ⟨x1, x2⟩
      rcases x2 with x2 | x2
      · cases x2
      · omega
    have hforced : (Question.appendCap (n + m) cap e).forced = false := rfl
    generalize hnc : (Question.appendCap (n + m) cap e).cut (w.tape w.drawn (.appendCap (n + m) cap e)) = newCap
    have hnl : n + m ≤ newCap := by rw [← hnc]; simp [Question.cut]
    have hold' : (Builtin.firstCells z.length n (.slice A n cap)).run P { w with drawn := w.drawn + 1 } = .ok old.toArray { w with drawn := w.drawn + 1 } := hold _
    have hnews' : (Builtin.firstCells z.length m (.slice B m c)).run P { w with drawn := w.drawn + 1 } = .ok news.toArray { w with drawn := w.drawn + 1 } := hnews _
    refine ⟨newCap, { w with heap := w.heap.push (.cells (old.toArray ++ news.toArray ++ Builtin.zeroCells zv.cells (newCap - (n + m))) e), drawn := w.drawn + 1 }, old.toArray ++ news.toArray ++ Builtin.zeroCells zv.cells (newCap - (n + m)), ?_, rfl, rfl, rfl, rfl, hnl, ?_, ?_⟩
    · simp only [Builtin.append_, List.getElem?_toArray, List.getElem?_cons_zero, List.getElem?_cons_succ, Sem.run_bind, run_underlying (telem_und he), Result.andThen_ok, run_sizeOf' hzs, run_underlying (telem_und he'), Sem.run_pure, Bool.false_eq_true, if_false, Builtin.lenOf, Bool.not_false, if_true, Sem.run_ite, if_neg hgt, typeInfo, run_program, hinf]
      rw [if_neg (by simpa using c0)]
      simp only [Result.andThen_ok, if_neg c1, run_choose, hforced, Bool.false_eq_true, if_false, hnc, run_askRoom, hold', hnews', hz0, newRow, Sem.run_bind, run_newObj, Sem.run_pure]
    · simp [Builtin.zeroCells, hzl]
    · intro q hq
      rw [Array.append_assoc, ← Array.append_assoc, Array.getElem?_append_left (by simpa using hq)]
      rw [← List.getElem?_toArray]
      simp

theorem op_append {dst : Option Tmp} {ty t t' : TypeId} {pos : String} {after : Array Edge} {guard : Option (Nat × Bool)} {a : Fr} {h : Heap} {K : AV → Heap → Prop} {s x : Operand} (hk : evK a s fun s => evK a x fun x => appendK P t t' h s x K) :
    OpOk P ⟨dst, .call { callee := .builtin .append, args := #[s, x], argTypes := #[t, t'] }, ty, pos, after, guard⟩ a h K := by
  refine .value fun I β w n c r g => ?_
  obtain ⟨us, hs, hk⟩ := evK_sound g hk
  obtain ⟨ux, hx, hk⟩ := evK_sound g hk
  obtain ⟨e, z, b, he, ht', hz, hb, hb0, hk⟩ := hk
  obtain ⟨xs, news, B, cx, hk, ex, hn, hnews⟩ := elemsK_sound (P := P) r hx hk
  rw [ex] at hnews
  have hexec : ∀ v w', (Builtin.append_ #[t, t'] ty #[c.eval s, c.eval x]).run P w = .ok v w' → (execOp c.eval ⟨dst, .call { callee := .builtin .append, args := #[s, x], argTypes := #[t, t'] }, ty, pos, after, guard⟩).run P w = .ok (.value v) w' := by
    intro v w' hv
    simp [execOp, resolve, invoke, builtin, hv]
  cases us with
  | nils =>
    obtain ⟨hfit, hnil, hne⟩ := hk
    have es := hs.nils_inv
    rw [es, ex] at hexec
    obtain ⟨p1, p2⟩ := run_append (P := P) (w := w) (ty := ty) (n := 0) (m := xs.length) (cap := 0) (A := none) (B := B) (c := cx) he ht' hz hb hb0 news [] hnews (fun _ d => rfl) (by simpa using hfit)
    cases xs with
    | nil =>
      refine ⟨.slice none 0 0, _, I, β, h, w, hexec _ _ ?_, hnil rfl, .refl _ _ _ _, r, .imm _ _ .nils⟩
      have := p1 (by simp)
      simpa using this
    | cons x0 xs0 =>
      have hk := hne (by simp)
      obtain ⟨newCap, w', cells, hr, hw, ho, htp, hou, hnc, hcs, hcc⟩ := p2 (by simp)
      simp only [List.length_nil, Nat.zero_add, List.nil_append] at hcs hcc hr hnc
      have hnl := hn.2.1
      obtain ⟨hext, hrel⟩ := new_ok r (.arr z.length (x0 :: xs0) false) (.cells cells e) hw ho htp hou (fun I' β' N' w'' hm => by
        have := grown_row (h := h) (I := I) (β := β) (w := w) (k := z.length) (es := []) (xs := x0 :: xs0) (old := []) ⟨fun i e h => by simp at h, by simp, fun v h => by simp at h, fun i e j u h => by simp at h⟩ hn cells e (by rw [hcs, hnl]; simp) (fun q hq => by rw [hcc q (by rw [hnl]; simpa using hq)]; rfl) hm
        simpa using this)
      refine ⟨_, _, I, _, _, w', hexec _ _ hr, hk, hext, hrel, ?_⟩
      have := VRel.osl (I := I) (β := bind1 β h.length w.heap.size) (N := (h ++ [Ob.arr z.length (x0 :: xs0) false]).length) (w := w') h.length z.length 0 (x0 :: xs0).length (x0 :: xs0).length false newCap cells.size
        (by simp) (Nat.le_refl _) hnc (fun hx => by cases hx) (by simp [bsize, bind1_new, hw]) (by rw [hcs, hnl, Nat.zero_add, ← Nat.add_mul]; exact Nat.mul_le_mul_right _ (by omega))
      simpa [bind1_new] using this
  | osl id k i len cap exx =>
    obtain ⟨rfl, hfit, es, ex', hob, hle, hin, hout⟩ := hk
    obtain ⟨cp, nn, ev, hid, hlc, hcc, hex, hbs, hfitb⟩ := hs.osl_inv
    obtain ⟨q1, q2, cur, tt, hbk, hkk, hsz, hexx, hcell⟩ := r.obj id _ hob (by simp)
    have hnn : nn = cur.size := by simp [bsize, hbk] at hbs; exact hbs.symm
    subst hnn
    -- what lies in the row so far
    have hel : ((es.drop i).take len).length = len := by simp; omega
    have hget : ∀ (j : Nat) (e : List AV), ((es.drop i).take len)[j]? = some e → es[i + j]? = some e := by
      intro j e hj
      rw [List.getElem?_take] at hj
      split at hj
      · rwa [List.getElem?_drop] at hj
      · simp at hj
    have hold := nrel_mk (I := I) (β := β) (N := h.length) (w := w) (k := z.length) (es := (es.drop i).take len) (fun j e hj => hkk _ _ (hget j e hj)) (fun q => (cur[i * z.length + q]?).getD undef) (fun j e q u hj hq => by
      obtain ⟨v, e1, e2, e3⟩ := hcell _ e q u (hget j e hj) hq
      rw [Nat.add_mul, Nat.add_assoc] at e1
      rw [e1]
      exact ⟨e2, e3⟩)
    have holdrun : ∀ d, (Builtin.firstCells z.length len (.slice (some ⟨β id, i * z.length, none⟩) len cp)).run P { w with drawn := d } = .ok ((List.range (((es.drop i).take len).length * z.length)).map fun q => (cur[i * z.length + q]?).getD undef).toArray { w with drawn := d } := by
      intro d
      have := run_loadCells_list (P := P) (w := { w with drawn := d }) ⟨β id, i * z.length, none⟩ ((List.range (((es.drop i).take len).length * z.length)).map fun q => (cur[i * z.length + q]?).getD undef) (fun j v hj => ?_)
      · simp only [List.length_map, List.length_range, hel] at this
        simpa [Builtin.firstCells, hel] using this
      · obtain ⟨hlt, rfl⟩ := List.getElem?_eq_some_iff.1 hj
        simp only [List.length_map, List.length_range, hel] at hlt
        have hlt2 : i * z.length + j < cur.size := by
          have : (i + len) * z.length ≤ es.length * z.length := Nat.mul_le_mul_right _ hle
          rw [Nat.add_mul] at this
          omega
        have hw : ({ w with drawn := d } : World).cell? ⟨β id, i * z.length + j, none⟩ = w.cell? ⟨β id, i * z.length + j, none⟩ := rfl
        simp [hw, Addr.add_lit, cell_of_block hbk, hlt2]
    rw [ev, ex] at hexec
    obtain ⟨p1, p2⟩ := run_append (P := P) (w := w) (ty := ty) (n := len) (m := xs.length) (cap := cp) (A := some ⟨β id, i * z.length, none⟩) (B := B) (c := cx) he ht' hz hb hb0 news _ hnews (fun _ => holdrun) hfit
    have hnl := hn.2.1
    have hol : ((List.range (((es.drop i).take len).length * z.length)).map fun q => (cur[i * z.length + q]?).getD undef).length = len * z.length := by simp [hel]
    -- the new block
    have fresh : ∀ (h1 : Heap) (r1 : Rel I β h1 w) (hl1 : h1.length = h.length), ¬ len + xs.length ≤ cp → ∃ cv w', (Builtin.append_ #[t, t'] ty #[.slice (some ⟨β id, i * z.length, none⟩) len cp, .slice B xs.length cx]).run P w = .ok cv w' ∧
        Ext I β h1 w I (bind1 β h.length w.heap.size) (h1 ++ [.arr z.length ((es.drop i).take len ++ xs) false]) w' ∧ Rel I (bind1 β h.length w.heap.size) (h1 ++ [.arr z.length ((es.drop i).take len ++ xs) false]) w' ∧
        VRel I (bind1 β h.length w.heap.size) (h1 ++ [Ob.arr z.length ((es.drop i).take len ++ xs) false]).length w' (.osl h.length z.length 0 (len + xs.length) (len + xs.length) false) cv := by
      intro h1 r1 hl1 hgt
      obtain ⟨newCap, w', cells, hr, hw, ho, htp, hou, hnc, hcs, hcc⟩ := p2 hgt
      rw [hol, hnl] at hcs hcc
      have hsum : len * z.length + xs.length * z.length = (len + xs.length) * z.length := (Nat.add_mul _ _ _).symm
      have := new_ok r1 (.arr z.length ((es.drop i).take len ++ xs) false) (.cells cells e) hw ho htp hou (fun I' β' N' w'' hm => by
        rw [hl1] at hm
        exact grown_row (h := h) (I := I) (β := β) (w := w) hold hn cells e (by rw [hel, hcs, hsum]; omega) (fun q hq => hcc q (by rw [hsum]; rwa [hel] at hq)) hm)
      rw [hl1] at this
      refine ⟨_, w', hr, this.1, this.2, ?_⟩
      have := VRel.osl (I := I) (β := bind1 β h.length w.heap.size) (N := (h1 ++ [Ob.arr z.length ((es.drop i).take len ++ xs) false]).length) (w := w') h.length z.length 0 (len + xs.length) (len + xs.length) false newCap cells.size
        (by simp [hl1]) (Nat.le_refl _) hnc (fun hx => by cases hx) (by simp [bsize, bind1_new, hw]) (by rw [hcs, hsum, Nat.zero_add, ← Nat.add_mul]; exact Nat.mul_le_mul_right _ (by omega))
      simpa [bind1_new] using this
    -- in place
    have inplace : ∀ (es' : List (List AV)), es'.length = es.length → (∀ (j : Nat) (e : List AV), es'[j]? = some e → (i + len ≤ j ∧ j < i + len + xs.length ∧ xs[j - (i + len)]? = some e) ∨ (¬ (i + len ≤ j ∧ j < i + len + xs.length) ∧ es[j]? = some e)) →
        len + xs.length ≤ cp → ∃ w', (Builtin.append_ #[t, t'] ty #[.slice (some ⟨β id, i * z.length, none⟩) len cp, .slice B xs.length cx]).run P w = .ok (.slice (some ⟨β id, i * z.length, none⟩) (len + xs.length) cp) w' ∧
        Ext I β h w I β (h.set id (.arr z.length es' ex')) w' ∧ Rel I β (h.set id (.arr z.length es' ex')) w' := by
      intro es' hl' hch hfits
      have hpos : i * z.length + len * z.length = (i + len) * z.length := (Nat.add_mul _ _ _).symm
      have key := row_ok (P := P) (es' := es') r hob ((i + len) * z.length) news hn.2.2.1 cur.size hbs (by
        rw [hnl, ← Nat.add_mul]
        exact Nat.le_trans (Nat.mul_le_mul_right _ (by omega)) hfitb) (fun j e hj => ?_) hl' (fun j e q u hj hq => ?_)
      · obtain ⟨w', hr, he', hr'⟩ := key
        refine ⟨w', ?_, he', hr'⟩
        have := p1 hfits
        rw [this]
        simp only [Addr.add_lit, hpos, hr, Result.andThen_ok]
      · rcases hch j e hj with ⟨c1, c2, c3⟩ | ⟨c1, c2⟩
        · exact hn.1 _ e c3
        · exact hkk j e c2
      · have hqk : q < z.length := by
          rcases hch j e hj with ⟨c1, c2, c3⟩ | ⟨c1, c2⟩
          · rw [← hn.1 _ e c3]; exact (List.getElem?_eq_some_iff.1 hq).1
          · rw [← hkk j e c2]; exact (List.getElem?_eq_some_iff.1 hq).1
        rcases hch j e hj with ⟨c1, c2, c3⟩ | ⟨c1, c2⟩
        · left
          have e1 : j * z.length = (i + len) * z.length + (j - (i + len)) * z.length := by rw [← Nat.add_mul]; congr 1; omega
          have hlt : (j - (i + len)) * z.length + q < xs.length * z.length := mul_lt_of hqk (by omega)
          refine ⟨by omega, by rw [hnl]; omega, fun v hv => ?_⟩
          rw [show j * z.length + q - (i + len) * z.length = (j - (i + len)) * z.length + q by omega] at hv
          obtain ⟨v', e2, e3⟩ := hn.2.2.2 _ e q u c3 hq
          rw [hv] at e2
          injection e2 with e2
          rw [e2]
          exact e3
        · right
          refine ⟨?_, e, c2, hq⟩
          intro ⟨d1, d2⟩
          apply c1
          have s1 : i + len ≤ j := by
            rcases Nat.lt_or_ge j (i + len) with hlt | hge
            · have := mul_lt_of hqk hlt; omega
            · exact hge
          refine ⟨s1, ?_⟩
          rcases Nat.lt_or_ge j (i + len + xs.length) with hlt | hge
          · exact hlt
          · have h1 := Nat.mul_le_mul_right z.length hge
            rw [Nat.add_mul] at h1
            rw [hnl] at d2
            omega
    by_cases hcap : len + xs.length ≤ cap
    · obtain ⟨hbd, hk⟩ := hin hcap
      obtain ⟨w', hr, he', hr'⟩ := inplace (es.take (i + len) ++ xs ++ es.drop (i + len + xs.length)) (by simp; omega) (fun j e hj => by
        by_cases c1 : j < i + len
        · right
          rw [List.append_assoc, List.getElem?_append_left (by simp; omega), List.getElem?_take, if_pos c1] at hj
          exact ⟨by omega, hj⟩
        · have hl : (es.take (i + len)).length = i + len := by simp; omega
          by_cases c2 : j < i + len + xs.length
          · left
            rw [List.append_assoc, List.getElem?_append_right (by omega), List.getElem?_append_left (by omega), hl] at hj
            exact ⟨by omega, c2, hj⟩
          · right
            rw [List.append_assoc, List.getElem?_append_right (by omega), List.getElem?_append_right (by omega), List.getElem?_drop, hl, show i + len + xs.length + (j - (i + len) - xs.length) = j by omega] at hj
            exact ⟨by omega, hj⟩) (by omega)
      refine ⟨_, _, I, β, _, w', hexec _ _ hr, hk, he', hr', ?_⟩
      have hl2 : (h.set id (.arr z.length (es.take (i + len) ++ xs ++ es.drop (i + len + xs.length)) ex')).length = h.length := by simp
      rw [hl2]
      exact .osl id z.length i (len + xs.length) cap exx cp cur.size hid hcap hcc hex (he'.bs _ _ hbs) hfitb
    · have hk := hout hcap
      cases exx with
      | true =>
        have : cp = cap := hex rfl
        obtain ⟨cv, w', hr, he', hr', hv⟩ := fresh h r rfl (by omega)
        exact ⟨cv, _, I, _, _, w', hexec _ _ hr, hk, he', hr', hv⟩
      | false =>
        obtain ⟨rfl, hkz⟩ := hk
        simp only [List.drop_zero] at fresh hold hget hel
        by_cases hfits : len + xs.length ≤ cp
        · -- the machine writes behind the end: a new name for the block
          have hz2 : (0 + len) * z.length = len * z.length := by simp
          have hroom : (len + xs.length) * z.length ≤ cur.size := Nat.le_trans (Nat.mul_le_mul_right _ (by omega)) hfitb
          obtain ⟨hE1, hR1⟩ := rename_ok r id _ (.arr z.length (es.take len) false) hob (by simp) (fun I' β' N' w' hm => by
            rw [hbk]
            refine ⟨cur, tt, rfl, fun j e hj => hkk j e ?_, ?_, (fun hx => by cases hx), fun j e q u hj hq => ?_⟩
            · rw [List.getElem?_take] at hj
              split at hj
              · exact hj
              · simp at hj
            · refine Nat.le_trans (Nat.mul_le_mul_right _ ?_) hsz
              simp; omega
            · rw [List.getElem?_take] at hj
              split at hj
              · obtain ⟨v, e1, e2, e3⟩ := hcell j e q u hj hq
                exact ⟨v, e1, hm _ _ e2, e3⟩
              · simp at hj)
          -- write, as the machine does
          have hst := run_storeCells_at (P := P) (β id) (len * z.length) tt news 0 cur w hbk (by rw [hnl, Nat.add_zero, ← Nat.add_mul]; exact hroom) hn.2.2.1
          simp only [Nat.add_zero] at hst
          have hlook : ∀ q, (cur.toList.take (len * z.length) ++ news ++ cur.toList.drop (len * z.length + news.length)).toArray[q]? = if len * z.length ≤ q ∧ q < len * z.length + news.length then news[q - len * z.length]? else cur[q]? := by
            intro q
            have hl0 : (List.take (len * z.length) cur.toList).length = len * z.length := by simp; rw [Nat.add_mul] at hroom; omega
            rw [List.getElem?_toArray]
            by_cases c1 : q < len * z.length
            · rw [if_neg (by omega), List.append_assoc, List.getElem?_append_left (by omega), List.getElem?_take, if_pos c1]
              simp
            · by_cases c2 : q < len * z.length + news.length
              · rw [if_pos (by omega), List.append_assoc, List.getElem?_append_right (by omega), List.getElem?_append_left (by omega), hl0]
              · rw [if_neg (by omega), List.append_assoc, List.getElem?_append_right (by omega), List.getElem?_append_right (by omega), List.getElem?_drop, hl0, show len * z.length + news.length + (q - len * z.length - news.length) = q by omega]
                simp
          have hsz2 : (cur.toList.take (len * z.length) ++ news ++ cur.toList.drop (len * z.length + news.length)).toArray.size = cur.size := by
            simp; rw [hnl]; rw [Nat.add_mul] at hroom; omega
          have hnewid : (h.set id .dead ++ [Ob.arr z.length (es.take len) false])[h.length]? = some (.arr z.length (es.take len) false) := by simp
          have hβn : bind1 β h.length (β id) h.length = β id := bind1_new _ _ _
          have hset := set_ok (w' := w.setRow (β id) (cur.toList.take (len * z.length) ++ news ++ cur.toList.drop (len * z.length + news.length)).toArray) hR1 h.length _ (.arr z.length (es.take len ++ xs) false) (.cells (cur.toList.take (len * z.length) ++ news ++ cur.toList.drop (len * z.length + news.length)).toArray tt (0, 0)) hnewid (by simp) (by simp)
            (fun b hb' => setRow_other _ _ _ _ (by rw [hβn] at hb'; exact hb')) (by rw [hβn]; exact setRow_heap _ _ _ _ _ _ hbk) (by simp) rfl rfl rfl
            (fun m hm => by rw [hβn] at hm ⊢; simp only [bsize, hbk, Option.some.injEq] at hm; simp only [bsize, setRow_heap _ _ _ _ _ _ hbk, hsz2, hm])
            (fun w'' hm => by
              have hm2 : ∀ u v, VRel I β h.length w u v → VRel I (bind1 β h.length (β id)) (h.set id .dead ++ [Ob.arr z.length (es.take len) false]).length w'' u v := fun u v hv => hm u v (hv.ext r hE1)
              refine grown_row (h := h) (I := I) (β := β) (w := w) hold hn _ tt (by rw [hel, hsz2]; exact hroom) (fun q hq => ?_) hm2
              rw [hel] at hq
              rw [hlook]
              by_cases c1 : q < len * z.length
              · rw [if_neg (by omega), List.getElem?_append_left (by rw [hold.2.1, hel]; exact c1)]
                have hqc : q < cur.size := by rw [Nat.add_mul] at hroom; omega
                have hq2 : q < (List.take len es).length * z.length := by rw [hel]; exact c1
                simp only [Nat.zero_mul, Nat.zero_add, List.getElem?_map, List.getElem?_range hq2, Option.map_some, Array.getElem?_eq_getElem hqc, Option.getD_some]
              · rw [if_pos ⟨by omega, by rw [hnl, ← Nat.add_mul]; exact hq⟩, List.getElem?_append_right (by rw [hold.2.1, hel]; omega), hold.2.1, hel])
          have hheap : (h.set id .dead ++ [Ob.arr z.length (es.take len) false]).set h.length (.arr z.length (es.take len ++ xs) false) = h.set id .dead ++ [Ob.arr z.length (es.take len ++ xs) false] := by
            rw [List.set_append_right _ _ (by simp)]
            simp
          rw [hheap] at hset
          refine ⟨.slice (some ⟨β id, 0 * z.length, none⟩) (len + xs.length) cp, _, I, _, _, w.setRow (β id) (cur.toList.take (len * z.length) ++ news ++ cur.toList.drop (len * z.length + news.length)).toArray, hexec _ _ ?_, hkz, hE1.trans hset.1, hset.2, ?_⟩
          · have := p1 hfits
            rw [this]
            simp only [Addr.add_lit, Nat.zero_mul, Nat.zero_add, hst, Result.andThen_ok]
          · have := VRel.osl (I := I) (β := bind1 β h.length (β id)) (N := (h.set id .dead ++ [Ob.arr z.length (es.take len ++ xs) false]).length) (w := w.setRow (β id) (cur.toList.take (len * z.length) ++ news ++ cur.toList.drop (len * z.length + news.length)).toArray) h.length z.length 0 (len + xs.length) (len + xs.length) false cp cur.size
              (by simp) (Nat.le_refl _) hfits (fun hx => by cases hx) (by rw [bind1_new]; simp only [bsize, setRow_heap _ _ _ _ _ _ hbk, hsz2]) hfitb
            simpa [bind1_new] using this
        · obtain ⟨hE1, hR1⟩ := kill_ok r id
          obtain ⟨cv, w', hr, he', hr', hv⟩ := fresh _ hR1 (by simp) hfits
          exact ⟨cv, _, I, _, _, w', hexec _ _ hr, hkz, hE1.trans he', hr', hv⟩
  | _ => exact hk.elim
end
end Go.AL
