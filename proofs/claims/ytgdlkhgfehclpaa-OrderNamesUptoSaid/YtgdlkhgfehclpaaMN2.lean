/- Texts of one claim bound together: ALg, ALga, ALh, ALi, ALj, ALk, ALkb. -/
import Derived.Test.YtgdlkhgfehclpaaMN1

section
/- The small logic's append and copy. No condition. -/
namespace Go.AL
set_option linter.unusedVariables false
set_option linter.unusedSimpArgs false
set_option linter.unnecessarySimpa false

/-- The elements of a slice, k cells each. -/
def elemsK (h : Heap) (k : Nat) (x : AV) (K : List (List AV) → Prop) : Prop :=
  match x with
  | .nils => K []
  | .isl k' es => (es ≠ [] → k' = k) ∧ K es
  | .osl id k' i len _ _ => k' = k ∧ ∃ es ex, h[id]? = some (.arr k es ex) ∧ i + len ≤ es.length ∧ K ((es.drop i).take len)
  | _ => False

/-- What is known of cells read in line. -/
def NRel (I : Nat → Prop) (β : Nat → Nat) (N : Nat) (w : World) (k : Nat) (es : List (List AV)) (news : List Value) : Prop :=
  (∀ (i : Nat) (e : List AV), es[i]? = some e → e.length = k) ∧ news.length = es.length * k ∧ (∀ v ∈ news, v.oneCell' = true) ∧ ∀ (i : Nat) (e : List AV) (j : Nat) (u : AV), es[i]? = some e → e[j]? = some u → ∃ v, news[i * k + j]? = some v ∧ VRel I β N w u v

theorem nrel_mk {I : Nat → Prop} {β : Nat → Nat} {N : Nat} {w : World} {k : Nat} {es : List (List AV)} (hk : ∀ (i : Nat) (e : List AV), es[i]? = some e → e.length = k) (g : Nat → Value)
    (hg : ∀ (i : Nat) (e : List AV) (j : Nat) (u : AV), es[i]? = some e → e[j]? = some u → VRel I β N w u (g (i * k + j)) ∧ (g (i * k + j)).oneCell' = true) :
    NRel I β N w k es ((List.range (es.length * k)).map g) := by
  have split : ∀ q, q < es.length * k → ∃ i e j u, es[i]? = some e ∧ e[j]? = some u ∧ q = i * k + j := by
    intro q hq
    have hk0 : 0 < k := by
      rcases Nat.eq_zero_or_pos k with h0 | h0
      · rw [h0] at hq; simp at hq
      · exact h0
    have hi : q / k < es.length := (Nat.div_lt_iff_lt_mul hk0).2 hq
    have he := List.getElem?_eq_getElem hi
    have hj : q % k < (es[q / k]).length := by rw [hk _ _ he]; exact Nat.mod_lt _ hk0
    exact ⟨q / k, _, q % k, _, he, List.getElem?_eq_getElem hj, by rw [Nat.mul_comm]; exact (Nat.div_add_mod q k).symm⟩
  refine ⟨hk, by simp, fun v hv => ?_, fun i e j u hi hj => ?_⟩
  · simp only [List.mem_map, List.mem_range] at hv
    obtain ⟨q, hq, rfl⟩ := hv
    obtain ⟨i, e, j, u, h1, h2, rfl⟩ := split q hq
    exact (hg i e j u h1 h2).2
  · have hjk : j < k := by rw [← hk i e hi]; exact (List.getElem?_eq_some_iff.1 hj).1
    have hlt := mul_lt_of hjk (List.getElem?_eq_some_iff.1 hi).1
    exact ⟨g (i * k + j), by simp [hlt], (hg i e j u hi hj).1⟩

section
variable {P : Program} {I : Nat → Prop} {β : Nat → Nat} {h : Heap} {w : World}

theorem elemsK_sound (r : Rel I β h w) {k : Nat} {x : AV} {v : Value} {K : List (List AV) → Prop} (hv : VRel I β h.length w x v) (hk : elemsK h k x K) :
    ∃ es news A c, K es ∧ v = .slice A es.length c ∧ NRel I β h.length w k es news ∧ ∀ d, (Builtin.firstCells k es.length v).run P { w with drawn := d } = .ok news.toArray { w with drawn := d } := by
  cases x with
  | nils =>
    rw [hv.nils_inv]
    exact ⟨[], [], none, 0, hk, rfl, ⟨fun i e h => by simp at h, by simp, fun v h => by simp at h, fun i e j u h => by simp at h⟩, fun d => rfl⟩
  | isl k' es =>
    rcases hv.isl_inv.isl_inv with ⟨A, c, rfl, ev⟩ | ⟨b, o, c, f, hne, ev, hle, hb, hkk, hcell, h1, hr⟩
    · refine ⟨[], [], A, c, hk.2, ev, ⟨fun i e h => by simp at h, by simp, fun v h => by simp at h, fun i e j u h => by simp at h⟩, fun d => ?_⟩
      rw [ev]
      cases A with
      | none => rfl
      | some a => simp [Builtin.firstCells, loadCells, loadCellsFrom]
    · obtain ⟨hk', hk⟩ := hk
      obtain rfl := hk' hne
      have hn := nrel_mk (I := I) (β := β) (N := h.length) (w := w) hkk (fun q => (w.cell? ⟨b, o + q, none⟩).getD undef) (fun i e j u hi hj => by
        rw [hcell i e j u hi hj]; exact ⟨.imm _ _ (hr i e j u hi hj), h1 i e j u hi hj⟩)
      refine ⟨es, _, _, c, hk, ev, hn, fun d => ?_⟩
      rw [ev]
      have := run_loadCells_list (P := P) (w := { w with drawn := d }) ⟨b, o, none⟩ ((List.range (es.length * k')).map fun q => (w.cell? ⟨b, o + q, none⟩).getD undef) (fun j v hj => ?_)
      · simpa [Builtin.firstCells] using this
      · obtain ⟨hlt, rfl⟩ := List.getElem?_eq_some_iff.1 hj
        simp only [List.length_map, List.length_range] at hlt
        have hk0 : 0 < k' := by
          rcases Nat.eq_zero_or_pos k' with h0 | h0
          · rw [h0] at hlt; simp at hlt
          · exact h0
        have hi : j / k' < es.length := (Nat.div_lt_iff_lt_mul hk0).2 hlt
        have he := List.getElem?_eq_getElem hi
        have hj' : j % k' < (es[j / k']).length := by rw [hkk _ _ he]; exact Nat.mod_lt _ hk0
        have := hcell _ _ _ _ he (List.getElem?_eq_getElem hj')
        rw [show j / k' * k' + j % k' = j by rw [Nat.mul_comm]; exact Nat.div_add_mod j k'] at this
        have hw : ({ w with drawn := d } : World).cell? ⟨b, o + j, none⟩ = w.cell? ⟨b, o + j, none⟩ := rfl
        simp [hw, this, Addr.add_lit]
  | osl id k' i len cap ex =>
    obtain ⟨rfl, es, ex', hob, hle, hk⟩ := hk
    obtain ⟨c, n, ev, hid, hlc, hcc, hex, hbs, hfit⟩ := hv.osl_inv
    obtain ⟨q1, q2, cur, t, hb, hkk, hs, hexx, hcell⟩ := r.obj id _ hob (by simp)
    have hel : ((es.drop i).take len).length = len := by simp; omega
    have hget : ∀ (j : Nat) (e : List AV), ((es.drop i).take len)[j]? = some e → es[i + j]? = some e := by
      intro j e hj
      rw [List.getElem?_take] at hj
      split at hj
      · rwa [List.getElem?_drop] at hj
      · simp at hj
    have hn := nrel_mk (I := I) (β := β) (N := h.length) (w := w) (k := k') (es := (es.drop i).take len) (fun j e hj => hkk _ _ (hget j e hj)) (fun q => (cur[i * k' + q]?).getD undef) (fun j e q u hj hq => by
      obtain ⟨v, e1, e2, e3⟩ := hcell _ e q u (hget j e hj) hq
      rw [Nat.add_mul, Nat.add_assoc] at e1
      rw [e1]
      exact ⟨e2, e3⟩)
    refine ⟨_, _, some ⟨β id, i * k', none⟩, c, hk, by rw [hel]; exact ev, hn, fun d => ?_⟩
    rw [ev]
    have := run_loadCells_list (P := P) (w := { w with drawn := d }) ⟨β id, i * k', none⟩ ((List.range (((es.drop i).take len).length * k')).map fun q => (cur[i * k' + q]?).getD undef) (fun j v hj => ?_)
    · simpa [Builtin.firstCells] using this
    · obtain ⟨hlt, rfl⟩ := List.getElem?_eq_some_iff.1 hj
      simp only [List.length_map, List.length_range, hel] at hlt
      have hlt2 : i * k' + j < cur.size := by
        have : (i + len) * k' ≤ es.length * k' := Nat.mul_le_mul_right _ hle
        rw [Nat.add_mul] at this
        omega
      have hw : ({ w with drawn := d } : World).cell? ⟨β id, i * k' + j, none⟩ = w.cell? ⟨β id, i * k' + j, none⟩ := rfl
      simp [hw, Addr.add_lit, cell_of_block hb, hlt2]
  | _ => exact hk.elim

/-! ### append -/
theorem kill_ok (r : Rel I β h w) (id : Nat) : Ext I β h w I β (h.set id .dead) w ∧ Rel I β (h.set id .dead) w := by
  have key : ∀ (j : Nat) (o : Ob), (h.set id .dead)[j]? = some o → o ≠ .dead → h[j]? = some o := by
    intro j o hj hd
    by_cases e : j = id
    · subst e
      by_cases hlt : j < h.length
      · rw [List.getElem?_set_self hlt] at hj
        injection hj with hj
        exact absurd hj.symm hd
      · rw [List.getElem?_eq_none (by simp; omega)] at hj
        cases hj
    · rwa [List.getElem?_set_ne (fun x => e x.symm)] at hj
  refine ⟨⟨rfl, rfl, rfl, Nat.le_refl _, by simp, fun _ _ => rfl, fun _ x => x, fun _ x => .inl x, fun b ⟨i, o, h1, h2, h3⟩ => .inl ⟨i, o, key i o h1 h2, h2, h3⟩, fun _ _ _ => rfl, fun _ _ x => x⟩, ⟨r.imm, fun i o h1 h2 => ?_, fun i i' o o' h1 h2 h3 h4 => r.inj i i' o o' (key _ _ h1 h2) h2 (key _ _ h3 h4) h4⟩⟩
  simpa using r.obj i o (key i o h1 h2) h2

/-- A new name for what an object held. -/
theorem rename_ok (r : Rel I β h w) (id : Nat) (o ob : Ob) (h1 : h[id]? = some o) (h2 : o ≠ .dead) (hb : ∀ I' β' N' w', (∀ u v, VRel I β h.length w u v → VRel I' β' N' w' u v) → ORel I' β' N' w' ob w.heap[β id]?) :
    Ext I β h w I (bind1 β h.length (β id)) (h.set id .dead ++ [ob]) w ∧ Rel I (bind1 β h.length (β id)) (h.set id .dead ++ [ob]) w := by
  have hid : id < h.length := (List.getElem?_eq_some_iff.1 h1).1
  have key : ∀ (j : Nat) (x : Ob), (h.set id .dead ++ [ob])[j]? = some x → x ≠ .dead → (j < h.length ∧ j ≠ id ∧ h[j]? = some x) ∨ (j = h.length ∧ x = ob) := by
    intro j x hj hd
    rcases Nat.lt_or_ge j h.length with hlt | hge
    · rw [List.getElem?_append_left (by simpa using hlt)] at hj
      by_cases e : j = id
      · subst e
        rw [List.getElem?_set_self hlt] at hj
        injection hj with hj
        exact absurd hj.symm hd
      · rw [List.getElem?_set_ne (fun x => e x.symm)] at hj
        exact .inl ⟨hlt, e, hj⟩
    · have := (List.getElem?_eq_some_iff.1 hj).1
      simp at this
      have hj' : j = h.length := by omega
      subst hj'
      rw [List.getElem?_append_right (by simp)] at hj
      simp at hj
      exact .inr ⟨rfl, hj.symm⟩
  have hm : ∀ u v, VRel I β h.length w u v → VRel I (bind1 β h.length (β id)) (h.set id .dead ++ [ob]).length w u v := fun u v hv =>
    hv.mono (fun _ x => x) (fun _ _ => rfl) (by simp) (fun i hi => bind1_old _ _ _ _ hi) (fun _ _ x => x)
  refine ⟨⟨rfl, rfl, rfl, Nat.le_refl _, by simp, fun i hi => bind1_old _ _ _ _ hi, fun _ x => x, fun _ x => .inl x, ?_, fun _ _ _ => rfl, fun _ _ x => x⟩, ⟨r.imm, ?_, ?_⟩⟩
  · rintro b ⟨j, x, a1, a2, a3⟩
    rcases key j x a1 a2 with ⟨c1, c2, c3⟩ | ⟨rfl, rfl⟩
    · rw [bind1_old _ _ _ _ c1] at a3
      exact .inl ⟨j, x, c3, a2, a3⟩
    · rw [bind1_new] at a3
      exact .inl ⟨id, o, h1, h2, a3⟩
  · intro j x a1 a2
    rcases key j x a1 a2 with ⟨c1, c2, c3⟩ | ⟨rfl, rfl⟩
    · rw [bind1_old _ _ _ _ c1]
      obtain ⟨p, q, s⟩ := r.obj j x c3 a2
      exact ⟨p, q, s.mono hm⟩
    · rw [bind1_new]
      obtain ⟨p, q, s⟩ := r.obj id o h1 h2
      exact ⟨p, q, hb _ _ _ _ hm⟩
  · intro j j' x x' a1 a2 a3 a4 he
    rcases key j x a1 a2 with ⟨c1, c2, c3⟩ | ⟨rfl, rfl⟩ <;> rcases key j' x' a3 a4 with ⟨d1, d2, d3⟩ | ⟨rfl, rfl⟩
    · rw [bind1_old _ _ _ _ c1, bind1_old _ _ _ _ d1] at he
      exact r.inj j j' x x' c3 a2 d3 a4 he
    · rw [bind1_old _ _ _ _ c1, bind1_new] at he
      exact absurd (r.inj j id x o c3 a2 h1 h2 he) c2
    · rw [bind1_new, bind1_old _ _ _ _ d1] at he
      exact absurd (r.inj j' id x' o d3 a4 h1 h2 he.symm) d2
    · rfl

theorem NRel.get {k : Nat} {es : List (List AV)} {news : List Value} (hn : NRel I β h.length w k es news) : NRel I β h.length w k es news := hn

/-- A block made of a row, and of what is appended, and of what is left. -/
theorem grown_row {I' : Nat → Prop} {β' : Nat → Nat} {N' : Nat} {w' : World} {k : Nat} {es xs : List (List AV)} {old news : List Value} (h1 : NRel I β h.length w k es old) (h2 : NRel I β h.length w k xs news) (cells : Array Value) (t : TypeId)
    (hsz : (es.length + xs.length) * k ≤ cells.size) (hc : ∀ q, q < (es.length + xs.length) * k → cells[q]? = (old ++ news)[q]?) (hm : ∀ u v, VRel I β h.length w u v → VRel I' β' N' w' u v) :
    ORel I' β' N' w' (.arr k (es ++ xs) false) (some (.cells cells t (0, 0))) := by
  refine ⟨cells, t, rfl, fun i e hi => ?_, by simpa using hsz, (fun hx => by cases hx), fun i e j u hi hj => ?_⟩
  · rcases Nat.lt_or_ge i es.length with hlt | hge
    · rw [List.getElem?_append_left hlt] at hi; exact h1.1 i e hi
    · rw [List.getElem?_append_right hge] at hi; exact h2.1 _ e hi
  · rcases Nat.lt_or_ge i es.length with hlt | hge
    · rw [List.getElem?_append_left hlt] at hi
      obtain ⟨v, e1, e2⟩ := h1.2.2.2 i e j u hi hj
      have hv : v ∈ old := List.mem_of_getElem? e1
      have hq : i * k + j < old.length := (List.getElem?_eq_some_iff.1 e1).1
      have : i * k + j < (es.length + xs.length) * k := by rw [h1.2.1] at hq; rw [Nat.add_mul]; omega
      exact ⟨v, by rw [hc _ this, List.getElem?_append_left hq]; exact e1, hm _ _ e2, h1.2.2.1 v hv⟩
    · rw [List.getElem?_append_right hge] at hi
      obtain ⟨v, e1, e2⟩ := h2.2.2.2 _ e j u hi hj
      have hv : v ∈ news := List.mem_of_getElem? e1
      have hq : (i - es.length) * k + j < news.length := (List.getElem?_eq_some_iff.1 e1).1
      have hik : i * k = es.length * k + (i - es.length) * k := by rw [← Nat.add_mul]; congr 1; omega
      have : i * k + j < (es.length + xs.length) * k := by rw [h2.2.1] at hq; rw [Nat.add_mul, hik]; omega
      refine ⟨v, ?_, hm _ _ e2, h2.2.2.1 v hv⟩
      rw [hc _ this, List.getElem?_append_right (by rw [h1.2.1, hik]; omega), h1.2.1, show i * k + j - es.length * k = (i - es.length) * k + j by omega]
      exact e1

def appendK (P : Program) (t t' : TypeId) (h : Heap) (s x : AV) (K : AV → Heap → Prop) : Prop :=
  ∃ e z b, telem P t = some e ∧ (telem P t').isSome = true ∧ zcells P e = some z ∧ tbytes P e = some b ∧ 0 < b ∧ elemsK h z.length x fun xs =>
    match s with
    | .nils => xs.length * b ≤ 140737488355328 ∧ (xs = [] → K .nils h) ∧ (xs ≠ [] → K (.osl h.length z.length 0 xs.length xs.length false) (h ++ [.arr z.length xs false]))
    | .osl id k i len cap ex => k = z.length ∧ (len + xs.length) * b ≤ 140737488355328 ∧ ∃ es ex', h[id]? = some (.arr k es ex') ∧ i + len ≤ es.length ∧
        (len + xs.length ≤ cap → i + len + xs.length ≤ es.length ∧ K (.osl id k i (len + xs.length) cap ex) (h.set id (.arr k (es.take (i + len) ++ xs ++ es.drop (i + len + xs.length)) ex'))) ∧
        (¬ len + xs.length ≤ cap → match ex with
          | true => K (.osl h.length k 0 (len + xs.length) (len + xs.length) false) (h ++ [.arr k ((es.drop i).take len ++ xs) false])
          | false => i = 0 ∧ K (.osl h.length k 0 (len + xs.length) (len + xs.length) false) (h.set id .dead ++ [.arr k (es.take len ++ xs) false]))
    | _ => False

/-- The machine's append, both ways. -/
theorem run_append {t t' ty e b n m cap : Nat} {z : List AV} {A B : Option Addr} {c : Nat} (he : telem P t = some e) (ht' : (telem P t').isSome = true) (hz : zcells P e = some z) (hb : tbytes P e = some b) (hb0 : 0 < b) (news old : List Value) (hnews : ∀ d, (Builtin.firstCells z.length m (.slice B m c)).run P { w with drawn := d } = .ok news.toArray { w with drawn := d })
    (hold : ¬ n + m ≤ cap → ∀ d, (Builtin.firstCells z.length n (.slice A n cap)).run P { w with drawn := d } = .ok old.toArray { w with drawn := d }) (hfit : (n + m) * b ≤ 140737488355328) :
    (n + m ≤ cap → (Builtin.append_ #[t, t'] ty #[.slice A n cap, .slice B m c]).run P w = (match (generalizing := false) A with | some a => ((storeCells (a.add (n * z.length)) news).run P w).andThen fun _ w' => .ok (.slice A (n + m) cap) w' | none => .ok (.slice A (n + m) cap) w)) ∧
    (¬ n + m ≤ cap → ∃ newCap w' cells, (Builtin.append_ #[t, t'] ty #[.slice A n cap, .slice B m c]).run P w = .ok (.slice (some ⟨w.heap.size, 0, none⟩) (n + m) newCap) w' ∧ w'.heap = w.heap.push (.cells cells e) ∧ w'.os = w.os ∧ w'.tape = w.tape ∧ w'.output = w.output ∧
      n + m ≤ newCap ∧ cells.size = (old.length + news.length) + (newCap - (n + m)) * z.length ∧ ∀ q, q < old.length + news.length → cells[q]? = (old ++ news)[q]?) := by
  obtain ⟨zv, hz0, hzl, hzs, hz1, hzr⟩ := zcells_sound hz
  obtain ⟨inf, hinf, hbi⟩ : ∃ i, P.info? e = some i ∧ i.bytes = b := by
    unfold tbytes at hb
    cases hi : P.info? e with
    | none => simp [hi] at hb
    | some i => simp [hi] at hb; exact ⟨i, rfl, hb⟩
  obtain ⟨e', he'⟩ := Option.isSome_iff_exists.1 ht'
  have hzero : (match (TypeDesc.slice e') with | .int _ => true | _ => false) = false := rfl
  constructor
  · intro hle
    have hnews0 : (Builtin.firstCells z.length m (.slice B m c)).run P w = .ok news.toArray w := hnews w.drawn
    simp only [Builtin.append_, List.getElem?_toArray, List.getElem?_cons_zero, List.getElem?_cons_succ, Sem.run_bind, run_underlying (telem_und he), Result.andThen_ok, run_sizeOf' hzs, run_underlying (telem_und he'), Sem.run_pure, Bool.false_eq_true, if_false, Builtin.lenOf, Bool.not_false, if_true, hnews0, Sem.run_ite, if_pos hle]
    cases A with
    | none => rfl
    | some a =>
      simp only [Sem.run_bind, Sem.run_pure]
  · intro hgt
    have hold := hold hgt
    have c1 : ¬ (Builtin.nextslicecap (n + m) cap * inf.bytes > 2 ^ 48) := by
      have := growslice_fits (need := n + m) (old := cap) (bytes := b) (by omega) hfit
      have h2 : (2 : Nat) ^ 48 = 281474976710656 := by decide
      rw [hbi]
      omega
    have c0 : ¬ (((n + m : Nat) : Int) > IntKind.i64.max ∧ (false = true ∨ inf.bytes = 0)) := by
      intro ⟨x1, x2⟩
      rcases x2 with x2 | x2
      · cases x2
      · omega
    have hforced : (Question.appendCap (n + m) cap e).forced = false := rfl
    generalize hnc : (Question.appendCap (n + m) cap e).cut (w.tape w.drawn (.appendCap (n + m) cap e)) = newCap
    have hnl : n + m ≤ newCap := by rw [← hnc]; simp [Question.cut]
    have hold' : (Builtin.firstCells z.length n (.slice A n cap)).run P { w with drawn := w.drawn + 1 } = .ok old.toArray { w with drawn := w.drawn + 1 } := hold _
    have hnews' : (Builtin.firstCells z.length m (.slice B m c)).run P { w with drawn := w.drawn + 1 } = .ok news.toArray { w with drawn := w.drawn + 1 } := hnews _
    refine ⟨newCap, { w with heap := w.heap.push (.cells (old.toArray ++ news.toArray ++ Builtin.zeroCells zv.cells (newCap - (n + m))) e), drawn := w.drawn + 1 }, old.toArray ++ news.toArray ++ Builtin.zeroCells zv.cells (newCap - (n + m)), ?_, rfl, rfl, rfl, rfl, hnl, ?_, ?_⟩
    · simp only [Builtin.append_, List.getElem?_toArray, List.getElem?_cons_zero, List.getElem?_cons_succ, Sem.run_bind, run_underlying (telem_und he), Result.andThen_ok, run_sizeOf' hzs, run_underlying (telem_und he'), Sem.run_pure, Bool.false_eq_true, if_false, Builtin.lenOf, Bool.not_false, if_true, Sem.run_ite, if_neg hgt, typeInfo, run_program, hinf]
      rw [if_neg (by simpa using c0)]
      simp only [Result.andThen_ok, if_neg c1, run_choose, hforced, Bool.false_eq_true, if_false, hnc, run_askRoom, hold', hnews', hz0, newRow, Sem.run_bind, run_newObj, Sem.run_pure]
    · simp [Builtin.zeroCells, hzl]
    · intro q hq
      rw [Array.append_assoc, ← Array.append_assoc, Array.getElem?_append_left (by simpa using hq)]
      rw [← List.getElem?_toArray]
      simp

theorem op_append {dst : Option Tmp} {ty t t' : TypeId} {pos : String} {after : Array Edge} {guard : Option (Nat × Bool)} {a : Fr} {h : Heap} {K : AV → Heap → Prop} {s x : Operand} (hk : evK a s fun s => evK a x fun x => appendK P t t' h s x K) :
    OpOk P ⟨dst, .call { callee := .builtin .append, args := #[s, x], argTypes := #[t, t'] }, ty, pos, after, guard⟩ a h K := by
  refine .value fun I β w n c r g => ?_
  obtain ⟨us, hs, hk⟩ := evK_sound g hk
  obtain ⟨ux, hx, hk⟩ := evK_sound g hk
  obtain ⟨e, z, b, he, ht', hz, hb, hb0, hk⟩ := hk
  obtain ⟨xs, news, B, cx, hk, ex, hn, hnews⟩ := elemsK_sound (P := P) r hx hk
  rw [ex] at hnews
  have hexec : ∀ v w', (Builtin.append_ #[t, t'] ty #[c.eval s, c.eval x]).run P w = .ok v w' → (execOp c.eval ⟨dst, .call { callee := .builtin .append, args := #[s, x], argTypes := #[t, t'] }, ty, pos, after, guard⟩).run P w = .ok (.value v) w' := by
    intro v w' hv
    simp [execOp, resolve, invoke, builtin, hv]
  cases us with
  | nils =>
    obtain ⟨hfit, hnil, hne⟩ := hk
    have es := hs.nils_inv
    rw [es, ex] at hexec
    obtain ⟨p1, p2⟩ := run_append (P := P) (w := w) (ty := ty) (n := 0) (m := xs.length) (cap := 0) (A := none) (B := B) (c := cx) he ht' hz hb hb0 news [] hnews (fun _ d => rfl) (by simpa using hfit)
    cases xs with
    | nil =>
      refine ⟨.slice none 0 0, _, I, β, h, w, hexec _ _ ?_, hnil rfl, .refl _ _ _ _, r, .imm _ _ .nils⟩
      have := p1 (by simp)
      simpa using this
    | cons x0 xs0 =>
      have hk := hne (by simp)
      obtain ⟨newCap, w', cells, hr, hw, ho, htp, hou, hnc, hcs, hcc⟩ := p2 (by simp)
      simp only [List.length_nil, Nat.zero_add, List.nil_append] at hcs hcc hr hnc
      have hnl := hn.2.1
      obtain ⟨hext, hrel⟩ := new_ok r (.arr z.length (x0 :: xs0) false) (.cells cells e) hw ho htp hou (fun I' β' N' w'' hm => by
        have := grown_row (h := h) (I := I) (β := β) (w := w) (k := z.length) (es := []) (xs := x0 :: xs0) (old := []) ⟨fun i e h => by simp at h, by simp, fun v h => by simp at h, fun i e j u h => by simp at h⟩ hn cells e (by rw [hcs, hnl]; simp) (fun q hq => by rw [hcc q (by rw [hnl]; simpa using hq)]; rfl) hm
        simpa using this)
      refine ⟨_, _, I, _, _, w', hexec _ _ hr, hk, hext, hrel, ?_⟩
      have := VRel.osl (I := I) (β := bind1 β h.length w.heap.size) (N := (h ++ [Ob.arr z.length (x0 :: xs0) false]).length) (w := w') h.length z.length 0 (x0 :: xs0).length (x0 :: xs0).length false newCap cells.size
        (by simp) (Nat.le_refl _) hnc (fun hx => by cases hx) (by simp [bsize, bind1_new, hw]) (by rw [hcs, hnl, Nat.zero_add, ← Nat.add_mul]; exact Nat.mul_le_mul_right _ (by omega))
      simpa [bind1_new] using this
  | osl id k i len cap exx =>
    obtain ⟨rfl, hfit, es, ex', hob, hle, hin, hout⟩ := hk
    obtain ⟨cp, nn, ev, hid, hlc, hcc, hex, hbs, hfitb⟩ := hs.osl_inv
    obtain ⟨q1, q2, cur, tt, hbk, hkk, hsz, hexx, hcell⟩ := r.obj id _ hob (by simp)
    have hnn : nn = cur.size := by simp [bsize, hbk] at hbs; exact hbs.symm
    subst hnn
    -- what lies in the row so far
    have hel : ((es.drop i).take len).length = len := by simp; omega
    have hget : ∀ (j : Nat) (e : List AV), ((es.drop i).take len)[j]? = some e → es[i + j]? = some e := by
      intro j e hj
      rw [List.getElem?_take] at hj
      split at hj
      · rwa [List.getElem?_drop] at hj
      · simp at hj
    have hold := nrel_mk (I := I) (β := β) (N := h.length) (w := w) (k := z.length) (es := (es.drop i).take len) (fun j e hj => hkk _ _ (hget j e hj)) (fun q => (cur[i * z.length + q]?).getD undef) (fun j e q u hj hq => by
      obtain ⟨v, e1, e2, e3⟩ := hcell _ e q u (hget j e hj) hq
      rw [Nat.add_mul, Nat.add_assoc] at e1
      rw [e1]
      exact ⟨e2, e3⟩)
    have holdrun : ∀ d, (Builtin.firstCells z.length len (.slice (some ⟨β id, i * z.length, none⟩) len cp)).run P { w with drawn := d } = .ok ((List.range (((es.drop i).take len).length * z.length)).map fun q => (cur[i * z.length + q]?).getD undef).toArray { w with drawn := d } := by
      intro d
      have := run_loadCells_list (P := P) (w := { w with drawn := d }) ⟨β id, i * z.length, none⟩ ((List.range (((es.drop i).take len).length * z.length)).map fun q => (cur[i * z.length + q]?).getD undef) (fun j v hj => ?_)
      · simp only [List.length_map, List.length_range, hel] at this
        simpa [Builtin.firstCells, hel] using this
      · obtain ⟨hlt, rfl⟩ := List.getElem?_eq_some_iff.1 hj
        simp only [List.length_map, List.length_range, hel] at hlt
        have hlt2 : i * z.length + j < cur.size := by
          have : (i + len) * z.length ≤ es.length * z.length := Nat.mul_le_mul_right _ hle
          rw [Nat.add_mul] at this
          omega
        have hw : ({ w with drawn := d } : World).cell? ⟨β id, i * z.length + j, none⟩ = w.cell? ⟨β id, i * z.length + j, none⟩ := rfl
        simp [hw, Addr.add_lit, cell_of_block hbk, hlt2]
    rw [ev, ex] at hexec
    obtain ⟨p1, p2⟩ := run_append (P := P) (w := w) (ty := ty) (n := len) (m := xs.length) (cap := cp) (A := some ⟨β id, i * z.length, none⟩) (B := B) (c := cx) he ht' hz hb hb0 news _ hnews (fun _ => holdrun) hfit
    have hnl := hn.2.1
    have hol : ((List.range (((es.drop i).take len).length * z.length)).map fun q => (cur[i * z.length + q]?).getD undef).length = len * z.length := by simp [hel]
    -- the new block
    have fresh : ∀ (h1 : Heap) (r1 : Rel I β h1 w) (hl1 : h1.length = h.length), ¬ len + xs.length ≤ cp → ∃ cv w', (Builtin.append_ #[t, t'] ty #[.slice (some ⟨β id, i * z.length, none⟩) len cp, .slice B xs.length cx]).run P w = .ok cv w' ∧
        Ext I β h1 w I (bind1 β h.length w.heap.size) (h1 ++ [.arr z.length ((es.drop i).take len ++ xs) false]) w' ∧ Rel I (bind1 β h.length w.heap.size) (h1 ++ [.arr z.length ((es.drop i).take len ++ xs) false]) w' ∧
        VRel I (bind1 β h.length w.heap.size) (h1 ++ [Ob.arr z.length ((es.drop i).take len ++ xs) false]).length w' (.osl h.length z.length 0 (len + xs.length) (len + xs.length) false) cv := by
      intro h1 r1 hl1 hgt
      obtain ⟨newCap, w', cells, hr, hw, ho, htp, hou, hnc, hcs, hcc⟩ := p2 hgt
      rw [hol, hnl] at hcs hcc
      have hsum : len * z.length + xs.length * z.length = (len + xs.length) * z.length := (Nat.add_mul _ _ _).symm
      have := new_ok r1 (.arr z.length ((es.drop i).take len ++ xs) false) (.cells cells e) hw ho htp hou (fun I' β' N' w'' hm => by
        rw [hl1] at hm
        exact grown_row (h := h) (I := I) (β := β) (w := w) hold hn cells e (by rw [hel, hcs, hsum]; omega) (fun q hq => hcc q (by rw [hsum]; rwa [hel] at hq)) hm)
      rw [hl1] at this
      refine ⟨_, w', hr, this.1, this.2, ?_⟩
      have := VRel.osl (I := I) (β := bind1 β h.length w.heap.size) (N := (h1 ++ [Ob.arr z.length ((es.drop i).take len ++ xs) false]).length) (w := w') h.length z.length 0 (len + xs.length) (len + xs.length) false newCap cells.size
        (by simp [hl1]) (Nat.le_refl _) hnc (fun hx => by cases hx) (by simp [bsize, bind1_new, hw]) (by rw [hcs, hsum, Nat.zero_add, ← Nat.add_mul]; exact Nat.mul_le_mul_right _ (by omega))
      simpa [bind1_new] using this
    -- in place
    have inplace : ∀ (es' : List (List AV)), es'.length = es.length → (∀ (j : Nat) (e : List AV), es'[j]? = some e → (i + len ≤ j ∧ j < i + len + xs.length ∧ xs[j - (i + len)]? = some e) ∨ (¬ (i + len ≤ j ∧ j < i + len + xs.length) ∧ es[j]? = some e)) →
        len + xs.length ≤ cp → ∃ w', (Builtin.append_ #[t, t'] ty #[.slice (some ⟨β id, i * z.length, none⟩) len cp, .slice B xs.length cx]).run P w = .ok (.slice (some ⟨β id, i * z.length, none⟩) (len + xs.length) cp) w' ∧
        Ext I β h w I β (h.set id (.arr z.length es' ex')) w' ∧ Rel I β (h.set id (.arr z.length es' ex')) w' := by
      intro es' hl' hch hfits
      have hpos : i * z.length + len * z.length = (i + len) * z.length := (Nat.add_mul _ _ _).symm
      have key := row_ok (P := P) (es' := es') r hob ((i + len) * z.length) news hn.2.2.1 cur.size hbs (by
        rw [hnl, ← Nat.add_mul]
        exact Nat.le_trans (Nat.mul_le_mul_right _ (by omega)) hfitb) (fun j e hj => ?_) hl' (fun j e q u hj hq => ?_)
      · obtain ⟨w', hr, he', hr'⟩ := key
        refine ⟨w', ?_, he', hr'⟩
        have := p1 hfits
        rw [this]
        simp only [Addr.add_lit, hpos, hr, Result.andThen_ok]
      · rcases hch j e hj with ⟨c1, c2, c3⟩ | ⟨c1, c2⟩
        · exact hn.1 _ e c3
        · exact hkk j e c2
      · have hqk : q < z.length := by
          rcases hch j e hj with ⟨c1, c2, c3⟩ | ⟨c1, c2⟩
          · rw [← hn.1 _ e c3]; exact (List.getElem?_eq_some_iff.1 hq).1
          · rw [← hkk j e c2]; exact (List.getElem?_eq_some_iff.1 hq).1
        rcases hch j e hj with ⟨c1, c2, c3⟩ | ⟨c1, c2⟩
        · left
          have e1 : j * z.length = (i + len) * z.length + (j - (i + len)) * z.length := by rw [← Nat.add_mul]; congr 1; omega
          have hlt : (j - (i + len)) * z.length + q < xs.length * z.length := mul_lt_of hqk (by omega)
          refine ⟨by omega, by rw [hnl]; omega, fun v hv => ?_⟩
          rw [show j * z.length + q - (i + len) * z.length = (j - (i + len)) * z.length + q by omega] at hv
          obtain ⟨v', e2, e3⟩ := hn.2.2.2 _ e q u c3 hq
          rw [hv] at e2
          injection e2 with e2
          rw [e2]
          exact e3
        · right
          refine ⟨?_, e, c2, hq⟩
          intro ⟨d1, d2⟩
          apply c1
          have s1 : i + len ≤ j := by
            rcases Nat.lt_or_ge j (i + len) with hlt | hge
            · have := mul_lt_of hqk hlt; omega
            · exact hge
          refine ⟨s1, ?_⟩
          rcases Nat.lt_or_ge j (i + len + xs.length) with hlt | hge
          · exact hlt
          · have h1 := Nat.mul_le_mul_right z.length hge
            rw [Nat.add_mul] at h1
            rw [hnl] at d2
            omega
    by_cases hcap : len + xs.length ≤ cap
    · obtain ⟨hbd, hk⟩ := hin hcap
      obtain ⟨w', hr, he', hr'⟩ := inplace (es.take (i + len) ++ xs ++ es.drop (i + len + xs.length)) (by simp; omega) (fun j e hj => by
        by_cases c1 : j < i + len
        · right
          rw [List.append_assoc, List.getElem?_append_left (by simp; omega), List.getElem?_take, if_pos c1] at hj
          exact ⟨by omega, hj⟩
        · have hl : (es.take (i + len)).length = i + len := by simp; omega
          by_cases c2 : j < i + len + xs.length
          · left
            rw [List.append_assoc, List.getElem?_append_right (by omega), List.getElem?_append_left (by omega), hl] at hj
            exact ⟨by omega, c2, hj⟩
          · right
            rw [List.append_assoc, List.getElem?_append_right (by omega), List.getElem?_append_right (by omega), List.getElem?_drop, hl, show i + len + xs.length + (j - (i + len) - xs.length) = j by omega] at hj
            exact ⟨by omega, hj⟩) (by omega)
      refine ⟨_, _, I, β, _, w', hexec _ _ hr, hk, he', hr', ?_⟩
      have hl2 : (h.set id (.arr z.length (es.take (i + len) ++ xs ++ es.drop (i + len + xs.length)) ex')).length = h.length := by simp
      rw [hl2]
      exact .osl id z.length i (len + xs.length) cap exx cp cur.size hid hcap hcc hex (he'.bs _ _ hbs) hfitb
    · have hk := hout hcap
      cases exx with
      | true =>
        have : cp = cap := hex rfl
        obtain ⟨cv, w', hr, he', hr', hv⟩ := fresh h r rfl (by omega)
        exact ⟨cv, _, I, _, _, w', hexec _ _ hr, hk, he', hr', hv⟩
      | false =>
        obtain ⟨rfl, hkz⟩ := hk
        simp only [List.drop_zero] at fresh hold hget hel
        by_cases hfits : len + xs.length ≤ cp
        · -- the machine writes behind the end: a new name for the block
          have hz2 : (0 + len) * z.length = len * z.length := by simp
          have hroom : (len + xs.length) * z.length ≤ cur.size := Nat.le_trans (Nat.mul_le_mul_right _ (by omega)) hfitb
          obtain ⟨hE1, hR1⟩ := rename_ok r id _ (.arr z.length (es.take len) false) hob (by simp) (fun I' β' N' w' hm => by
            rw [hbk]
            refine ⟨cur, tt, rfl, fun j e hj => hkk j e ?_, ?_, (fun hx => by cases hx), fun j e q u hj hq => ?_⟩
            · rw [List.getElem?_take] at hj
              split at hj
              · exact hj
              · simp at hj
            · refine Nat.le_trans (Nat.mul_le_mul_right _ ?_) hsz
              simp; omega
            · rw [List.getElem?_take] at hj
              split at hj
              · obtain ⟨v, e1, e2, e3⟩ := hcell j e q u hj hq
                exact ⟨v, e1, hm _ _ e2, e3⟩
              · simp at hj)
          -- write, as the machine does
          have hst := run_storeCells_at (P := P) (β id) (len * z.length) tt news 0 cur w hbk (by rw [hnl, Nat.add_zero, ← Nat.add_mul]; exact hroom) hn.2.2.1
          simp only [Nat.add_zero] at hst
          have hlook : ∀ q, (cur.toList.take (len * z.length) ++ news ++ cur.toList.drop (len * z.length + news.length)).toArray[q]? = if len * z.length ≤ q ∧ q < len * z.length + news.length then news[q - len * z.length]? else cur[q]? := by
            intro q
            have hl0 : (List.take (len * z.length) cur.toList).length = len * z.length := by simp; rw [Nat.add_mul] at hroom; omega
            rw [List.getElem?_toArray]
            by_cases c1 : q < len * z.length
            · rw [if_neg (by omega), List.append_assoc, List.getElem?_append_left (by omega), List.getElem?_take, if_pos c1]
              simp
            · by_cases c2 : q < len * z.length + news.length
              · rw [if_pos (by omega), List.append_assoc, List.getElem?_append_right (by omega), List.getElem?_append_left (by omega), hl0]
              · rw [if_neg (by omega), List.append_assoc, List.getElem?_append_right (by omega), List.getElem?_append_right (by omega), List.getElem?_drop, hl0, show len * z.length + news.length + (q - len * z.length - news.length) = q by omega]
                simp
          have hsz2 : (cur.toList.take (len * z.length) ++ news ++ cur.toList.drop (len * z.length + news.length)).toArray.size = cur.size := by
            simp; rw [hnl]; rw [Nat.add_mul] at hroom; omega
          have hnewid : (h.set id .dead ++ [Ob.arr z.length (es.take len) false])[h.length]? = some (.arr z.length (es.take len) false) := by simp
          have hβn : bind1 β h.length (β id) h.length = β id := bind1_new _ _ _
          have hset := set_ok (w' := w.setRow (β id) (cur.toList.take (len * z.length) ++ news ++ cur.toList.drop (len * z.length + news.length)).toArray) hR1 h.length _ (.arr z.length (es.take len ++ xs) false) (.cells (cur.toList.take (len * z.length) ++ news ++ cur.toList.drop (len * z.length + news.length)).toArray tt (0, 0)) hnewid (by simp) (by simp)
            (fun b hb' => setRow_other _ _ _ _ (by rw [hβn] at hb'; exact hb')) (by rw [hβn]; exact setRow_heap _ _ _ _ _ _ hbk) (by simp) rfl rfl rfl
            (fun m hm => by rw [hβn] at hm ⊢; simp only [bsize, hbk, Option.some.injEq] at hm; simp only [bsize, setRow_heap _ _ _ _ _ _ hbk, hsz2, hm])
            (fun w'' hm => by
              have hm2 : ∀ u v, VRel I β h.length w u v → VRel I (bind1 β h.length (β id)) (h.set id .dead ++ [Ob.arr z.length (es.take len) false]).length w'' u v := fun u v hv => hm u v (hv.ext r hE1)
              refine grown_row (h := h) (I := I) (β := β) (w := w) hold hn _ tt (by rw [hel, hsz2]; exact hroom) (fun q hq => ?_) hm2
              rw [hel] at hq
              rw [hlook]
              by_cases c1 : q < len * z.length
              · rw [if_neg (by omega), List.getElem?_append_left (by rw [hold.2.1, hel]; exact c1)]
                have hqc : q < cur.size := by rw [Nat.add_mul] at hroom; omega
                have hq2 : q < (List.take len es).length * z.length := by rw [hel]; exact c1
                simp only [Nat.zero_mul, Nat.zero_add, List.getElem?_map, List.getElem?_range hq2, Option.map_some, Array.getElem?_eq_getElem hqc, Option.getD_some]
              · rw [if_pos ⟨by omega, by rw [hnl, ← Nat.add_mul]; exact hq⟩, List.getElem?_append_right (by rw [hold.2.1, hel]; omega), hold.2.1, hel])
          have hheap : (h.set id .dead ++ [Ob.arr z.length (es.take len) false]).set h.length (.arr z.length (es.take len ++ xs) false) = h.set id .dead ++ [Ob.arr z.length (es.take len ++ xs) false] := by
            rw [List.set_append_right _ _ (by simp)]
            simp
          rw [hheap] at hset
          refine ⟨.slice (some ⟨β id, 0 * z.length, none⟩) (len + xs.length) cp, _, I, _, _, w.setRow (β id) (cur.toList.take (len * z.length) ++ news ++ cur.toList.drop (len * z.length + news.length)).toArray, hexec _ _ ?_, hkz, hE1.trans hset.1, hset.2, ?_⟩
          · have := p1 hfits
            rw [this]
            simp only [Addr.add_lit, Nat.zero_mul, Nat.zero_add, hst, Result.andThen_ok]
          · have := VRel.osl (I := I) (β := bind1 β h.length (β id)) (N := (h.set id .dead ++ [Ob.arr z.length (es.take len ++ xs) false]).length) (w := w.setRow (β id) (cur.toList.take (len * z.length) ++ news ++ cur.toList.drop (len * z.length + news.length)).toArray) h.length z.length 0 (len + xs.length) (len + xs.length) false cp cur.size
              (by simp) (Nat.le_refl _) hfits (fun hx => by cases hx) (by rw [bind1_new]; simp only [bsize, setRow_heap _ _ _ _ _ _ hbk, hsz2]) hfitb
            simpa [bind1_new] using this
        · obtain ⟨hE1, hR1⟩ := kill_ok r id
          obtain ⟨cv, w', hr, he', hr', hv⟩ := fresh _ hR1 (by simp) hfits
          exact ⟨cv, _, I, _, _, w', hexec _ _ hr, hkz, hE1.trans he', hr', hv⟩
  | _ => exact hk.elim
end
end Go.AL
end

section
/- The small logic's clear of a slice. No condition. -/
namespace Go.AL
set_option linter.unusedVariables false
set_option linter.unusedSimpArgs false
def clearK (P : Program) (t : TypeId) (h : Heap) (x : AV) (K : Heap → Prop) : Prop :=
  match x with
  | .nils => (telem P t).isSome = true ∧ K h
  | .osl id k i len _ _ => ∃ e z, telem P t = some e ∧ zcells P e = some z ∧ k = z.length ∧ ∃ es ex', h[id]? = some (.arr k es ex') ∧ i + len ≤ es.length ∧ K (h.set id (.arr k (es.take i ++ List.replicate len z ++ es.drop (i + len)) ex'))
  | _ => False
section
variable {P : Program} {a : Fr} {h : Heap}
theorem zeroCells_get {z : Array Value} {n q : Nat} (hq : q < n * z.size) : (Builtin.zeroCells z n).toList[q]? = z[q % z.size]? := by
  have hpos : 0 < z.size := by
    rcases Nat.eq_zero_or_pos z.size with h | h
    · rw [h] at hq; simp at hq
    · exact h
  have : q % z.size < z.size := Nat.mod_lt _ hpos
  simp [Builtin.zeroCells, hq, this]
theorem run_clear {t : TypeId} {ty : TypeId} {I : Nat → Prop} {β : Nat → Nat} {w : World} {x : AV} {v : Value} {K : Heap → Prop} (r : Rel I β h w) (hv : VRel I β h.length w x v) (hk : clearK P t h x K) :
    ∃ w' h', (Builtin.clear_ #[t] ty #[v]).run P w = .ok (.tuple #[]) w' ∧ K h' ∧ Ext I β h w I β h' w' ∧ Rel I β h' w' := by
  cases x with
  | nils =>
    obtain ⟨e, he⟩ := Option.isSome_iff_exists.1 hk.1
    rw [hv.nils_inv]
    exact ⟨w, h, by simp [Builtin.clear_, run_underlying (telem_und he)], hk.2, .refl _ _ _ _, r⟩
  | osl id k i len cap ex =>
    obtain ⟨e, z, he, hz, rfl, es, ex', hob, hle, hk⟩ := hk
    obtain ⟨cp, n, rfl, hid, h1, h2, h3, h4, h5⟩ := hv.osl_inv
    obtain ⟨zv, hz0, hzl, hzs, hz1, hzr⟩ := zcells_sound hz
    obtain ⟨q1, q2, cur, tt, hbk, hkk, hsz, hexx, hcell⟩ := r.obj id _ hob (by simp)
    by_cases hl0 : len = 0
    · subst hl0
      refine ⟨w, h, by simp [Builtin.clear_, run_underlying (telem_und he)], ?_, .refl _ _ _ _, r⟩
      have e1 : h.set id (.arr z.length (es.take i ++ List.replicate 0 z ++ es.drop (i + 0)) ex') = h := by
        apply List.ext_getElem?
        intro j
        by_cases e0 : id = j
        · subst e0
          rw [List.getElem?_set_self hid, hob]
          simp
        · rw [List.getElem?_set_ne e0]
      rw [e1] at hk
      exact hk
    · have hlen : (Builtin.zeroCells zv.cells len).toList.length = len * z.length := by simp [Builtin.zeroCells, hzl]
      have hzone : ∀ v ∈ (Builtin.zeroCells zv.cells len).toList, v.oneCell' = true := fun v hv => by
        obtain ⟨q, hq⟩ := List.getElem?_of_mem hv
        have hlt := (List.getElem?_eq_some_iff.1 hq).1
        rw [hlen, ← hzl] at hlt
        rw [zeroCells_get hlt] at hq
        exact hz1 _ v hq
      have hrow : ∀ (i' : Nat) (e' : List AV), (es.take i ++ List.replicate len z ++ es.drop (i + len))[i']? = some e' → (i ≤ i' ∧ i' < i + len ∧ e' = z) ∨ (¬ (i ≤ i' ∧ i' < i + len) ∧ es[i']? = some e') := by
        intro i' e' hi
        by_cases c1 : i' < i
        · rw [List.append_assoc, List.getElem?_append_left (by simp; omega), List.getElem?_take_of_lt c1] at hi
          exact .inr ⟨by omega, hi⟩
        · by_cases c2 : i' < i + len
          · rw [List.append_assoc, List.getElem?_append_right (by simp; omega), List.getElem?_append_left (by simp; omega), List.getElem?_replicate] at hi
            split at hi
            · exact .inl ⟨by omega, by omega, (Option.some.inj hi).symm⟩
            · cases hi
          · rw [List.append_assoc, List.getElem?_append_right (by simp; omega), List.getElem?_append_right (by simp; omega), List.getElem?_drop] at hi
            refine .inr ⟨by omega, ?_⟩
            rw [← hi]
            congr 1
            simp
            omega
      have hik : (i + len) * z.length ≤ cur.size := Nat.le_trans (Nat.mul_le_mul_right _ hle) hsz
      rw [Nat.add_mul] at hik
      obtain ⟨w', hrun, hext, hrel⟩ := row_ok (P := P) (es' := es.take i ++ List.replicate len z ++ es.drop (i + len)) r hob (i * z.length) (Builtin.zeroCells zv.cells len).toList hzone cur.size (by simp [bsize, hbk]) (by rw [hlen]; exact hik)
        (fun i' e' hi => by
          rcases hrow i' e' hi with ⟨_, _, rfl⟩ | ⟨_, hi⟩
          · rfl
          · exact hkk _ _ hi) (by simp; omega) (fun i' e' j u hi hj => by
          rw [hlen]
          rcases hrow i' e' hi with ⟨c1, c2, rfl⟩ | ⟨c, hi⟩
          · have hjk := (List.getElem?_eq_some_iff.1 hj).1
            have m1 : i * e'.length ≤ i' * e'.length := Nat.mul_le_mul_right _ c1
            have m2 : i' * e'.length + e'.length ≤ i * e'.length + len * e'.length := by
              have := Nat.mul_le_mul_right e'.length (show i' + 1 ≤ i + len by omega)
              rw [Nat.add_mul, Nat.add_mul] at this
              omega
            refine .inl ⟨by omega, by omega, fun v hv => ?_⟩
            rw [zeroCells_get (by rw [hzl]; omega)] at hv
            have e3 : (i' * e'.length + j - i * e'.length) % zv.cells.size = j := by
              rw [hzl, show i' * e'.length + j - i * e'.length = j + (i' - i) * e'.length by rw [Nat.sub_mul]; omega, Nat.add_mul_mod_self_right, Nat.mod_eq_of_lt hjk]
            rw [e3] at hv
            exact .imm _ _ (hzr _ _ j u v hj hv)
          · have hjk : j < z.length := by rw [← hkk _ _ hi]; exact (List.getElem?_eq_some_iff.1 hj).1
            refine .inr ⟨?_, e', hi, hj⟩
            rintro ⟨c1, c2⟩
            apply c
            constructor
            · rcases Nat.lt_or_ge i' i with h | h
              · have := mul_lt_of hjk h; omega
              · exact h
            · rcases Nat.lt_or_ge i' (i + len) with h | h
              · exact h
              · have := Nat.mul_le_mul_right z.length h
                rw [Nat.add_mul] at this
                omega)
      refine ⟨w', _, ?_, hk, hext, hrel⟩
      cases len with
      | zero => exact absurd rfl hl0
      | succ len => simp [Builtin.clear_, run_underlying (telem_und he), hz0, hrun]
  | _ => exact hk.elim
theorem op_clear {dst : Option Tmp} {ty t : TypeId} {pos : String} {after : Array Edge} {guard : Option (Nat × Bool)} {K : AV → Heap → Prop} {x : Operand} (hk : evK a x fun x => clearK P t h x fun h' => K .undef h') :
    OpOk P ⟨dst, .call { callee := .builtin .clear, args := #[x], argTypes := #[t] }, ty, pos, after, guard⟩ a h K := by
  refine .value fun I β w n c r g => ?_
  obtain ⟨u, hu, hk⟩ := evK_sound g hk
  obtain ⟨w', h', hrun, hk, he, hr⟩ := run_clear (P := P) (ty := ty) r hu hk
  refine ⟨_, _, I, β, h', w', ?_, hk, he, hr, .imm _ _ (.undef _ _)⟩
  simp [execOp, resolve, invoke, builtin, hrun, undef]
end
end Go.AL
end

section
/- The small logic's one step: what each operation owes, in one definition; that it looks at its operands alone; that most look at no heap. No condition. -/
namespace Go.AL
set_option linter.unusedVariables false
set_option linter.unusedSimpArgs false
set_option linter.unnecessarySimpa false

def tptr (P : Program) (t : TypeId) : Bool := match P.underlying t with | some (.pointer _) => true | _ => false
def tfun (P : Program) (t : TypeId) : Bool := match P.underlying t with | some (.func ..) => true | _ => false
def tmap (P : Program) (t : TypeId) : Bool := match P.underlying t with | some (.map ..) => true | _ => false
/-- Sums, comparisons; a value held against nil. -/
def binAll (P : Program) (op : BinOp) (t : TypeId) (u v : AV) (K : AV → Prop) : Prop :=
  match v with
  | .int k m' => (match u with | .int k0 m => iK op k0 m k m' K | _ => False)
  | .bool b' => (match u with | .bool b => tbool P t = true ∧ eqK op (b == b') K | _ => False)
  | .str s' => (match u with | .str s => strK op s s' K | _ => False)
  | .nils => (telem P t).isSome = true ∧ (match u with
    | .isl _ es => (es = [] → eqK op true K) ∧ eqK op false K
    | .nils => eqK op true K
    | .osl .. => eqK op false K
    | _ => False)
  | .nilp => tptr P t = true ∧ (match u with | .nilp => eqK op true K | .ip .. => eqK op false K | .op .. => eqK op false K | _ => False)
  | .nilf => tfun P t = true ∧ (match u with | .nilf => eqK op true K | .fn .. => eqK op false K | _ => False)
  | .nilm => tmap P t = true ∧ (match u with | .nilm => eqK op true K | .om _ => eqK op false K | _ => False)
  | _ => False

def sliceAll (P : Program) (t : TypeId) (x : AV) (lo hi : Option AV) (K : AV → Prop) : Prop :=
  match x with
  | .str s => sliceK P t (.str s) lo hi K
  | x => (∃ e s, telem P t = some e ∧ tsize P e = some s) ∧ sliceK P t x lo hi K

def builtinK (P : Program) (b : Builtin) (xs : Array Operand) (ts : Array TypeId) (a : Fr) (h : Heap) (K : AV → Heap → Prop) : Prop :=
  match b with
  | .len => (match xs.toList, ts.toList with | [x], [t] => evK a x fun u => lenK P t u fun u => K u h | _, _ => False)
  | .cap => (match xs.toList, ts.toList with | [x], [t] => evK a x fun u => capK P t u fun u => K u h | _, _ => False)
  | .min => evsK a xs.toList fun us => minK imin us fun u => K u h
  | .max => evsK a xs.toList fun us => minK imax us fun u => K u h
  | .clear => (match xs.toList, ts.toList with | [x], [t] => evK a x fun u => clearK P t h u fun h' => K .undef h' | _, _ => False)
  | .append => (match xs.toList, ts.toList with | [s, x], [t, t'] => evK a s fun s => evK a x fun x => appendK P t t' h s x K | _, _ => False)
  | _ => False

/-- WHAT AN OPERATION OWES. -/
def aop (P : Program) (op : Op) (a : Fr) (h : Heap) (K : AV → Heap → Prop) : Prop :=
  match op with
  | .move x => evK a x fun u => K u h
  | .assign x => evK a x fun u => K u h
  | .pick c x y => evK a c fun c => evK a x fun x => evK a y fun y => pickK c x y fun u => K u h
  | .alloc t => ∃ cs, zcells P t = some cs ∧ K (.op h.length cs.length 0 0) (h ++ [.arr cs.length [cs] true])
  | .box _ x => evK a x fun u => cellsK u fun cs => K (.op h.length cs.length 0 0) (h ++ [.arr cs.length [cs] true])
  | .build t parts => evpK a parts.toList fun us => ∃ z pl, zcells P t = some z ∧ fplaces P t = some pl ∧ fillK (fun i => pl[i]?) us z fun cs => K (.agg cs) h
  | .buildSlice t len parts => evpK a parts.toList fun us => ∃ e z, telem P t = some e ∧ zcells P e = some z ∧ len * z.length ≤ 16777216 ∧
      fillRK z.length us (List.replicate len z) fun es => K (.osl h.length z.length 0 len len true) (h ++ [.arr z.length es true])
  | .load t x => evK a x fun p => loadK P t h p fun u => K u h
  | .store t p x => evK a p fun p => evK a x fun u => storeK P t h p u fun h' => K .undef h'
  | .nilCheck x => evK a x fun u => nilCheckK u fun u => K u h
  | .binOp op t x y _ => evK a x fun u => evK a y fun v => binAll P op t u v fun u => K u h
  | .unOp op _ x => evK a x fun u => unK op u fun u => K u h
  | .convert s d x => evK a x fun u => convK P s d u fun u => K u h
  | .makeFunc f fs cs => evsK a fs.toList fun fs => evsK a cs.toList fun cs => K (.fn f fs cs) h
  | .makeInterface t x => tnotIface P t = true ∧ evK a x fun u => K (.ifc t u) h
  | .makeSlice t l c => evK a l fun l => evK a c fun c => makeSliceK P t h l c K
  | .slice t x lo hi none => evK a x fun x => evoK a lo fun lo => evoK a hi fun hi => sliceAll P t x lo hi fun u => K u h
  | .fieldAddr s x f => evK a x fun p => fieldAddrK P s f p fun u => K u h
  | .field t x f => evK a x fun u => fieldK P t f u fun u => K u h
  | .indexAddr t x i => evK a x fun x => evK a i fun i => indexAddrK P t x i fun u => K u h
  | .index t x i => evK a x fun u => evK a i fun i => indexK P t u i fun u => K u h
  | .extract x i => evK a x fun u => extK u i fun u => K u h
  | .call c => (match c.callee with
    | .value f => evK a f fun f => evsK a c.args.toList fun us => callK P f us h K
    | .builtin b => builtinK P b c.args c.argTypes a h K
    | .invoke _ _ => False)
  | _ => False

section
variable {P : Program} {a : Fr} {h : Heap} {K : AV → Heap → Prop}

theorem evK_split {x : Operand} {K : AV → Prop} (hk : evK a x K) : ∃ u, (∀ K' : AV → Prop, K' u → evK a x K') ∧ K u := by
  cases x with
  | tmp t => exact ⟨a t, fun K' h => h, hk⟩
  | const v =>
    simp only [evK] at hk ⊢
    cases hv : ofV v with
    | none => simp [hv] at hk
    | some u => rw [hv] at hk; exact ⟨u, fun K' h => h, hk⟩
  | func f => exact ⟨_, fun K' h => h, hk⟩
  | global g => exact hk.elim

theorem run_eq_slice {t : TypeId} (ht : (telem P t).isSome = true) (A : Option Addr) (n c m c' : Nat) (w : World) : (Op.equal t (.slice A n c) (.slice none m c')).run P w = .ok A.isNone w := by
  obtain ⟨e, he⟩ := Option.isSome_iff_exists.1 ht
  have : ∀ d, (Op.equalIn (d + 1) t (.slice A n c) (.slice none m c')).run P w = .ok A.isNone w := fun d => by
    cases A <;> simp only [Op.equalIn, Sem.run_bind, run_underlying (telem_und he), Result.andThen_ok, Sem.run_pure] <;> rfl
  exact this 9999
theorem run_eq_ptr {t : TypeId} (ht : tptr P t = true) (p : Option Addr) (w : World) : (Op.equal t (.pointer p) (.pointer none)).run P w = .ok p.isNone w := by
  unfold tptr at ht
  split at ht
  · rename_i e he
    have : ∀ d, (Op.equalIn (d + 1) t (.pointer p) (.pointer none)).run P w = .ok p.isNone w := fun d => by
      cases p <;> simp only [Op.equalIn, Sem.run_bind, run_underlying he, Result.andThen_ok, Sem.run_pure] <;> rfl
    exact this 9999
  · simp at ht
theorem run_eq_fun {t : TypeId} (ht : tfun P t = true) (w : World) : (Op.equal t .nilFunc .nilFunc).run P w = .ok true w ∧ ∀ f x y, (Op.equal t (.func f x y) .nilFunc).run P w = .ok false w := by
  unfold tfun at ht
  split at ht
  · rename_i e1 e2 e3 he
    have h1 : ∀ d, (Op.equalIn (d + 1) t .nilFunc .nilFunc).run P w = .ok true w := fun d => by
      simp only [Op.equalIn, Sem.run_bind, run_underlying he, Result.andThen_ok, Sem.run_pure]
    have h2 : ∀ d f x y, (Op.equalIn (d + 1) t (.func f x y) .nilFunc).run P w = .ok false w := fun d f x y => by
      simp only [Op.equalIn, Sem.run_bind, run_underlying he, Result.andThen_ok, Sem.run_pure]
    exact ⟨h1 9999, h2 9999⟩
  · simp at ht
theorem run_eq_map {t : TypeId} (ht : tmap P t = true) (r : Option Nat) (w : World) : (Op.equal t (.map r) (.map none)).run P w = .ok r.isNone w := by
  unfold tmap at ht
  split at ht
  · rename_i e1 e2 he
    have : ∀ d, (Op.equalIn (d + 1) t (.map r) (.map none)).run P w = .ok r.isNone w := fun d => by
      cases r <;> simp only [Op.equalIn, Sem.run_bind, run_underlying he, Result.andThen_ok, Sem.run_pure] <;> rfl
    exact this 9999
  · simp at ht

/-- What an equality comes to. -/
theorem run_eqK {op : BinOp} {t : TypeId} {x y : Value} {b : Bool} {K : AV → Prop} {w : World} (hb : binOp .eql t x y = (do Pure.pure (.bool (← Op.equal t x y))) ∧ binOp .neq t x y = (do Pure.pure (.bool (!(← Op.equal t x y)))))
    (he : (Op.equal t x y).run P w = .ok b w) (hk : eqK op b K) : ∃ cv u, (binOp op t x y).run P w = .ok cv w ∧ K u ∧ ∀ I β N, VRel I β N w u cv := by
  cases op
  case eql => exact ⟨.bool b, _, by rw [hb.1]; simp [he], hk, fun I β N => .ofBool _⟩
  case neq => exact ⟨.bool (!b), _, by rw [hb.2]; simp [he], hk, fun I β N => .ofBool _⟩
  all_goals exact hk.elim

theorem om_inv {I : Nat → Prop} {β : Nat → Nat} {N : Nat} {w : World} {id : Nat} {v : Value} (h : VRel I β N w (.om id) v) : v = .map (some (β id)) := by
  cases h with
  | imm _ _ h => cases h
  | om _ _ => rfl
theorem nilm_inv {I : Nat → Prop} {β : Nat → Nat} {N : Nat} {w : World} {v : Value} (h : VRel I β N w .nilm v) : v = .map none := by
  cases h with | imm _ _ h => cases h; rfl

theorem op_binAll {dst : Option Tmp} {ty t t' : TypeId} {pos : String} {after : Array Edge} {guard : Option (Nat × Bool)} {op : BinOp} {x y : Operand} (hk : evK a x fun u => evK a y fun v => binAll P op t u v fun u => K u h) :
    OpOk P ⟨dst, .binOp op t x y t', ty, pos, after, guard⟩ a h K := by
  obtain ⟨u0, hu0, hk⟩ := evK_split hk
  obtain ⟨v0, hv0, hk⟩ := evK_split hk
  have base : binK P op t u0 v0 (fun u => K u h) → OpOk P ⟨dst, .binOp op t x y t', ty, pos, after, guard⟩ a h K := fun hb => op_binOp (hu0 _ (hv0 _ hb))
  have nil : ∀ (hcmp : ∀ (I : Nat → Prop) (β : Nat → Nat) (w : World) (cu cv : Value), Rel I β h w → VRel I β h.length w u0 cu → VRel I β h.length w v0 cv →
      (eqGuard op t x y cu cv = Pure.pure ()) ∧ ∃ r u, (binOp op t cu cv).run P w = .ok r w ∧ K u h ∧ ∀ I β N, VRel I β N w u r), OpOk P ⟨dst, .binOp op t x y t', ty, pos, after, guard⟩ a h K := by
    intro hcmp
    refine .pure fun I β w n c r g => ?_
    obtain ⟨u, hu, e1⟩ := evK_sound g (hu0 (fun u => u = u0) rfl)
    obtain ⟨v, hv, e2⟩ := evK_sound g (hv0 (fun u => u = v0) rfl)
    subst e1 e2
    obtain ⟨hg, rr, uu, h1, h2, h3⟩ := hcmp I β w _ _ r hu hv
    exact ⟨rr, uu, by simp [execOp, hg, h1], h2, h3 _ _ _⟩
  cases v0 with
  | int k m' => cases u0 with | int k0 m => exact base hk | _ => exact hk.elim
  | bool b' => cases u0 with | bool b => exact base hk | _ => exact hk.elim
  | str s' => cases u0 with | str s => exact base hk | _ => exact hk.elim
  | nils =>
    obtain ⟨ht, hk⟩ := hk
    refine nil fun I β w cu cv r hu hv => ?_
    rw [hv.nils_inv]
    cases u0 with
    | isl k es =>
      rcases hu.isl_inv.isl_inv with ⟨A, c, rfl, rfl⟩ | ⟨b, o, c, f, hne, rfl, _⟩
      · refine ⟨by rw [eqGuard_at_slice], ?_⟩
        cases A with
        | none => exact run_eqK ⟨rfl, rfl⟩ (run_eq_slice ht _ _ _ _ _ w) (hk.1 rfl)
        | some A => exact run_eqK ⟨rfl, rfl⟩ (run_eq_slice ht _ _ _ _ _ w) hk.2
      · exact ⟨by rw [eqGuard_at_slice], run_eqK ⟨rfl, rfl⟩ (run_eq_slice ht _ _ _ _ _ w) hk.2⟩
    | nils => rw [hu.nils_inv]; exact ⟨by rw [eqGuard_at_slice], run_eqK ⟨rfl, rfl⟩ (run_eq_slice ht _ _ _ _ _ w) hk⟩
    | osl _ _ _ _ _ _ => obtain ⟨c, n, rfl, _⟩ := hu.osl_inv; exact ⟨by rw [eqGuard_at_slice], run_eqK ⟨rfl, rfl⟩ (run_eq_slice ht _ _ _ _ _ w) hk⟩
    | _ => exact hk.elim
  | nilp =>
    obtain ⟨ht, hk⟩ := hk
    refine nil fun I β w cu cv r hu hv => ?_
    rw [hv.nilp_inv]
    cases u0 with
    | nilp => rw [hu.nilp_inv]; exact ⟨by rw [eqGuard_at_pointer], run_eqK ⟨rfl, rfl⟩ (run_eq_ptr ht _ w) hk⟩
    | ip _ _ => obtain ⟨b, o, vs, rfl, _⟩ := hu.ip_inv; exact ⟨by rw [eqGuard_at_pointer], run_eqK ⟨rfl, rfl⟩ (run_eq_ptr ht _ w) hk⟩
    | op _ _ _ _ => rw [hu.op_inv.1]; exact ⟨by rw [eqGuard_at_pointer], run_eqK ⟨rfl, rfl⟩ (run_eq_ptr ht _ w) hk⟩
    | _ => exact hk.elim
  | nilf =>
    obtain ⟨ht, hk⟩ := hk
    refine nil fun I β w cu cv r hu hv => ?_
    rw [hv.nilf_inv]
    cases u0 with
    | nilf => rw [hu.nilf_inv]; exact ⟨by rw [eqGuard_at_nilFunc], run_eqK ⟨rfl, rfl⟩ (run_eq_fun ht w).1 hk⟩
    | fn _ _ _ => obtain ⟨fs, cs, rfl, _⟩ := hu.fn_inv; exact ⟨by rw [eqGuard_at_func], run_eqK ⟨rfl, rfl⟩ ((run_eq_fun ht w).2 _ _ _) hk⟩
    | _ => exact hk.elim
  | nilm =>
    obtain ⟨ht, hk⟩ := hk
    refine nil fun I β w cu cv r hu hv => ?_
    rw [nilm_inv hv]
    cases u0 with
    | nilm => rw [nilm_inv hu]; exact ⟨by rw [eqGuard_at_map], run_eqK ⟨rfl, rfl⟩ (run_eq_map ht _ w) hk⟩
    | om _ => rw [om_inv hu]; exact ⟨by rw [eqGuard_at_map], run_eqK ⟨rfl, rfl⟩ (run_eq_map ht _ w) hk⟩
    | _ => exact hk.elim
  | _ => exact hk.elim

theorem op_sliceAll {dst : Option Tmp} {ty t : TypeId} {pos : String} {after : Array Edge} {guard : Option (Nat × Bool)} {x : Operand} {lo hi : Option Operand} (hk : evK a x fun x => evoK a lo fun lo => evoK a hi fun hi => sliceAll P t x lo hi fun u => K u h) :
    OpOk P ⟨dst, .slice t x lo hi none, ty, pos, after, guard⟩ a h K := by
  obtain ⟨u0, hu0, hk⟩ := evK_split hk
  cases u0 with
  | str s => exact op_sliceStr (hu0 _ hk)
  | _ => exact op_slice (hu0 _ hk)

theorem op_builtin {dst : Option Tmp} {ty : TypeId} {pos : String} {after : Array Edge} {guard : Option (Nat × Bool)} {b : Builtin} {xs : Array Operand} {ts : Array TypeId} (hk : builtinK P b xs ts a h K) :
    OpOk P ⟨dst, .call { callee := .builtin b, args := xs, argTypes := ts }, ty, pos, after, guard⟩ a h K := by
  have one : ∀ (P' : Operand → TypeId → Prop), (match xs.toList, ts.toList with | [x], [t] => P' x t | _, _ => False) → ∃ x t, xs = #[x] ∧ ts = #[t] ∧ P' x t := by
    intro P' hp
    split at hp
    · rename_i x t h1 h2
      exact ⟨x, t, by rw [← Array.toArray_toList (xs := xs), h1], by rw [← Array.toArray_toList (xs := ts), h2], hp⟩
    · exact hp.elim
  cases b with
  | len =>
    obtain ⟨x, t, rfl, rfl, hk⟩ := one (fun x t => evK a x fun u => lenK P t u fun u => K u h) hk
    exact op_len hk
  | cap =>
    obtain ⟨x, t, rfl, rfl, hk⟩ := one (fun x t => evK a x fun u => capK P t u fun u => K u h) hk
    exact op_cap hk
  | min => exact op_min hk
  | max => exact op_max hk
  | clear =>
    simp only [builtinK] at hk
    split at hk
    · rename_i x t h1 h2
      have e1 : xs = #[x] := by rw [← Array.toArray_toList (xs := xs), h1]
      have e2 : ts = #[t] := by rw [← Array.toArray_toList (xs := ts), h2]
      subst e1 e2
      exact op_clear hk
    · exact hk.elim
  | append =>
    simp only [builtinK] at hk
    split at hk
    · rename_i s x t t' h1 h2
      have e1 : xs = #[s, x] := by rw [← Array.toArray_toList (xs := xs), h1]
      have e2 : ts = #[t, t'] := by rw [← Array.toArray_toList (xs := ts), h2]
      subst e1 e2
      exact op_append hk
    · exact hk.elim
  | _ => exact hk.elim

theorem aop_sound {o : Oper} (hk : aop P o.op a h K) : OpOk P o a h K := by
  obtain ⟨dst, op, ty, pos, after, guard⟩ := o
  cases op with
  | move x => exact op_move hk
  | assign x => exact op_assign hk
  | pick c x y => exact op_pick hk
  | alloc t => exact op_alloc hk
  | box t x => exact op_box hk
  | build t parts => exact op_build hk
  | buildSlice t len parts => exact op_buildSlice hk
  | load t x => exact op_load hk
  | store t p x => exact op_store hk
  | nilCheck x => exact op_nilCheck hk
  | binOp op t x y t' => exact op_binAll hk
  | unOp op t x => exact op_unOp hk
  | convert s d x => exact op_convert hk
  | makeFunc f fs cs => exact op_makeFunc hk
  | makeInterface t x => exact op_makeInterface hk.1 hk.2
  | makeSlice t l c => exact op_makeSlice hk
  | slice t x lo hi mx =>
    cases mx with
    | none => exact op_sliceAll hk
    | some m => exact hk.elim
  | fieldAddr s x f => exact op_fieldAddr hk
  | field t x f => exact op_field hk
  | indexAddr t x i => exact op_indexAddr hk
  | index t x i => exact op_index hk
  | extract x i => exact op_extract hk
  | call c =>
    obtain ⟨callee, args, ts⟩ := c
    cases callee with
    | value f => exact op_call hk
    | builtin b => exact op_builtin hk
    | invoke r m => exact hk.elim
  | _ => exact hk.elim
end
end Go.AL
end

section
/- The small logic's one step, on: it looks at its operands alone; operations that look at no heap. No condition. -/
namespace Go.AL
set_option linter.unusedVariables false
set_option linter.unusedSimpArgs false
set_option linter.unnecessarySimpa false

section
variable {P : Program} {a a' : Fr} {h : Heap}

/-! ### operands -/
def tmpsOf (op : Op) : List Tmp := op.operands.toList.filterMap fun | .tmp t => some t | _ => none

theorem evK_imp {x : Operand} {K K' : AV → Prop} (h : ∀ t, x = .tmp t → a t = a' t) (hK : ∀ u, K u → K' u) (hk : evK a x K) : evK a' x K' := by
  cases x with
  | tmp t => show K' (a' t); rw [← h t rfl]; exact hK _ hk
  | const v =>
    simp only [evK] at hk ⊢
    cases hv : ofV v with
    | none => simp [hv] at hk
    | some u => rw [hv] at hk; exact hK _ hk
  | func f => exact hK _ hk
  | global g => exact hk.elim
theorem evoK_imp {x : Option Operand} {K K' : Option AV → Prop} (h : ∀ t, x = some (.tmp t) → a t = a' t) (hK : ∀ u, K u → K' u) (hk : evoK a x K) : evoK a' x K' := by
  cases x with
  | none => exact hK _ hk
  | some x => exact evK_imp (K := fun u => K (some u)) (K' := fun u => K' (some u)) (fun t ht => h t (by rw [ht])) (fun u hu => hK _ hu) hk
theorem evsK_imp : ∀ {xs : List Operand} {K K' : List AV → Prop}, (∀ t, Operand.tmp t ∈ xs → a t = a' t) → (∀ u, K u → K' u) → evsK a xs K → evsK a' xs K'
  | [], K, K', h, hK, hk => hK _ hk
  | x :: r, K, K', h, hK, hk => evK_imp (fun t ht => h t (by rw [ht]; simp)) (fun u hu => evsK_imp (fun t ht => h t (by simp [ht])) (fun us hus => hK _ hus) hu) hk
theorem evpK_imp : ∀ {xs : List (Nat × Operand)} {K K' : List (Nat × AV) → Prop}, (∀ t, Operand.tmp t ∈ xs.map (·.2) → a t = a' t) → (∀ u, K u → K' u) → evpK a xs K → evpK a' xs K'
  | [], K, K', h, hK, hk => hK _ hk
  | (i, x) :: r, K, K', h, hK, hk => evK_imp (fun t ht => h t (by rw [ht]; simp)) (fun u hu => evpK_imp (fun t ht => h t (List.mem_cons_of_mem _ ht)) (fun us hus => hK _ hus) hu) hk

theorem mem_tmpsOf {op : Op} {t : Tmp} : t ∈ tmpsOf op ↔ Operand.tmp t ∈ op.operands.toList := by
  unfold tmpsOf
  simp only [List.mem_filterMap]
  constructor
  · rintro ⟨x, hx, he⟩
    cases x <;> simp at he
    subst he
    exact hx
  · intro hx
    exact ⟨_, hx, rfl⟩

theorem aop_congr {op : Op} {K : AV → Heap → Prop} (ha : ∀ t, t ∈ tmpsOf op → a t = a' t) (hk : aop P op a h K) : aop P op a' h K := by
  have hm : ∀ t, Operand.tmp t ∈ op.operands.toList → a t = a' t := fun t ht => ha t (mem_tmpsOf.2 ht)
  cases op with
  | move x => simp only [aop] at hk ⊢; exact evK_imp (fun t ht => hm t (by simp [Op.operands, ht])) (fun _ h => h) hk
  | assign x => simp only [aop] at hk ⊢; exact evK_imp (fun t ht => hm t (by simp [Op.operands, ht])) (fun _ h => h) hk
  | pick c x y => simp only [aop] at hk ⊢; exact evK_imp (fun t ht => hm t (by simp [Op.operands, ht])) (fun _ => evK_imp (fun t ht => hm t (by simp [Op.operands, ht])) fun _ => evK_imp (fun t ht => hm t (by simp [Op.operands, ht])) fun _ h => h) hk
  | alloc t => exact hk
  | box t x => simp only [aop] at hk ⊢; exact evK_imp (fun t ht => hm t (by simp [Op.operands, ht])) (fun _ h => h) hk
  | build t parts => simp only [aop] at hk ⊢; exact evpK_imp (fun t ht => hm t (by simpa [Op.operands] using ht)) (fun _ h => h) hk
  | buildSlice t len parts => simp only [aop] at hk ⊢; exact evpK_imp (fun t ht => hm t (by simpa [Op.operands] using ht)) (fun _ h => h) hk
  | load t x => simp only [aop] at hk ⊢; exact evK_imp (fun t ht => hm t (by simp [Op.operands, ht])) (fun _ h => h) hk
  | store t p x => simp only [aop] at hk ⊢; exact evK_imp (fun t ht => hm t (by simp [Op.operands, ht])) (fun _ => evK_imp (fun t ht => hm t (by simp [Op.operands, ht])) fun _ h => h) hk
  | nilCheck x => simp only [aop] at hk ⊢; exact evK_imp (fun t ht => hm t (by simp [Op.operands, ht])) (fun _ h => h) hk
  | binOp op t x y t' => simp only [aop] at hk ⊢; exact evK_imp (fun t ht => hm t (by simp [Op.operands, ht])) (fun _ => evK_imp (fun t ht => hm t (by simp [Op.operands, ht])) fun _ h => h) hk
  | unOp op t x => simp only [aop] at hk ⊢; exact evK_imp (fun t ht => hm t (by simp [Op.operands, ht])) (fun _ h => h) hk
  | convert s d x => simp only [aop] at hk ⊢; exact evK_imp (fun t ht => hm t (by simp [Op.operands, ht])) (fun _ h => h) hk
  | makeFunc f fs cs => simp only [aop] at hk ⊢; exact evsK_imp (fun t ht => hm t (by simp only [Op.operands, Array.toList_append, List.mem_append]; exact .inl ht)) (fun _ => evsK_imp (fun t ht => hm t (by simp only [Op.operands, Array.toList_append, List.mem_append]; exact .inr ht)) fun _ h => h) hk
  | makeInterface t x => simp only [aop] at hk ⊢; exact ⟨hk.1, evK_imp (fun t ht => hm t (by simp [Op.operands, ht])) (fun _ h => h) hk.2⟩
  | makeSlice t l c => simp only [aop] at hk ⊢; exact evK_imp (fun t ht => hm t (by simp [Op.operands, ht])) (fun _ => evK_imp (fun t ht => hm t (by simp [Op.operands, ht])) fun _ h => h) hk
  | slice t x lo hi mx =>
    cases mx with
    | none => simp only [aop] at hk ⊢; exact evK_imp (fun t ht => hm t (by simp [Op.operands, ht])) (fun _ => evoK_imp (fun t ht => hm t (by simp [Op.operands, ht])) fun _ => evoK_imp (fun t ht => hm t (by simp [Op.operands, ht])) fun _ h => h) hk
    | some m => exact hk.elim
  | fieldAddr s x f => simp only [aop] at hk ⊢; exact evK_imp (fun t ht => hm t (by simp [Op.operands, ht])) (fun _ h => h) hk
  | field t x f => simp only [aop] at hk ⊢; exact evK_imp (fun t ht => hm t (by simp [Op.operands, ht])) (fun _ h => h) hk
  | indexAddr t x i => simp only [aop] at hk ⊢; exact evK_imp (fun t ht => hm t (by simp [Op.operands, ht])) (fun _ => evK_imp (fun t ht => hm t (by simp [Op.operands, ht])) fun _ h => h) hk
  | index t x i => simp only [aop] at hk ⊢; exact evK_imp (fun t ht => hm t (by simp [Op.operands, ht])) (fun _ => evK_imp (fun t ht => hm t (by simp [Op.operands, ht])) fun _ h => h) hk
  | extract x i => simp only [aop] at hk ⊢; exact evK_imp (fun t ht => hm t (by simp [Op.operands, ht])) (fun _ h => h) hk
  | call c =>
    obtain ⟨callee, args, ts⟩ := c
    cases callee with
    | value f => simp only [aop] at hk ⊢; exact evK_imp (fun t ht => hm t (by simp [Op.operands, Call.operands, ht])) (fun _ => evsK_imp (fun t ht => hm t (by simp [Op.operands, Call.operands]; exact .inr (by simpa using ht))) fun _ h => h) hk
    | builtin b =>
      have hb : ∀ t, Operand.tmp t ∈ args.toList → a t = a' t := fun t ht => hm t (by simpa [Op.operands, Call.operands] using ht)
      have h1 : ∀ (F : AV → TypeId → Prop), (match args.toList, ts.toList with | [x], [t] => evK a x fun u => F u t | _, _ => False) → (match args.toList, ts.toList with | [x], [t] => evK a' x fun u => F u t | _, _ => False) := by
        intro F hF
        split at hF
        · rename_i x t e1 e2
          exact evK_imp (fun t ht => hb t (by rw [e1, ht]; simp)) (fun _ h => h) hF
        · exact hF.elim
      cases b with
      | len => simp only [aop, builtinK] at hk ⊢; exact h1 (fun u t => lenK P t u fun u => K u h) hk
      | cap => simp only [aop, builtinK] at hk ⊢; exact h1 (fun u t => capK P t u fun u => K u h) hk
      | min => simp only [aop, builtinK] at hk ⊢; exact evsK_imp hb (fun _ h => h) hk
      | max => simp only [aop, builtinK] at hk ⊢; exact evsK_imp hb (fun _ h => h) hk
      | clear => simp only [aop, builtinK] at hk ⊢; exact h1 (fun u t => clearK P t h u fun h' => K .undef h') hk
      | append =>
        simp only [aop, builtinK] at hk ⊢
        split at hk
        · rename_i s x t t' e1 e2
          exact evK_imp (fun t ht => hb t (by rw [e1, ht]; simp)) (fun _ => evK_imp (fun t ht => hb t (by rw [e1, ht]; simp)) fun _ h => h) hk
        · exact hk.elim
      | _ => exact hk.elim
    | invoke r m => exact hk.elim
  | _ => exact hk.elim

/-! ### operations that look at no heap -/
def quietB : Builtin → Bool | .len | .cap | .min | .max => true | _ => false
/-- They look at no heap, and turn none. -/
def quietOp : Op → Bool
  | .move _ | .assign _ | .pick .. | .build .. | .nilCheck _ | .binOp .. | .unOp .. | .convert .. | .makeFunc .. | .makeInterface .. | .slice .. | .fieldAddr .. | .field .. | .indexAddr .. | .index .. | .extract .. => true
  | .call { callee := .builtin b, .. } => quietB b
  | _ => false
def loadOp : Op → Bool
  | .load .. => true
  | _ => false

theorem eqK_imp {op : BinOp} {b : Bool} {K K' : AV → Prop} (hK : ∀ u, K u → K' u) (hk : eqK op b K) : eqK op b K' := by
  cases op <;> first | exact hk.elim | exact hK _ hk
theorem strK_imp {op : BinOp} {x y : ByteArray} {K K' : AV → Prop} (hK : ∀ u, K u → K' u) (hk : strK op x y K) : strK op x y K' := by
  cases op <;> first | exact hk.elim | exact hK _ hk
theorem iK_imp {op : BinOp} {k k' : IntKind} {x y : Int} {K K' : AV → Prop} (hK : ∀ u, K u → K' u) (hk : iK op k x k' y K) : iK op k x k' y K' := by
  cases op <;> first | exact ⟨hk.1, hK _ hk.2⟩ | exact ⟨hk.1, hk.2.1, hK _ hk.2.2⟩ | exact ⟨hk.1, fitK_mono hK hk.2⟩
theorem binAll_imp {op : BinOp} {t : TypeId} {u v : AV} {K K' : AV → Prop} (hK : ∀ u, K u → K' u) (hk : binAll P op t u v K) : binAll P op t u v K' := by
  cases v with
  | int k m => cases u with | int _ _ => exact iK_imp hK hk | _ => exact hk.elim
  | bool b => cases u with | bool _ => exact ⟨hk.1, eqK_imp hK hk.2⟩ | _ => exact hk.elim
  | str s => cases u with | str _ => exact strK_imp hK hk | _ => exact hk.elim
  | nils => cases u with
    | isl _ _ => exact ⟨hk.1, fun e => eqK_imp hK (hk.2.1 e), eqK_imp hK hk.2.2⟩
    | nils => exact ⟨hk.1, eqK_imp hK hk.2⟩
    | osl _ _ _ _ _ _ => exact ⟨hk.1, eqK_imp hK hk.2⟩
    | _ => exact hk.2.elim
  | nilp => cases u with
    | nilp => exact ⟨hk.1, eqK_imp hK hk.2⟩
    | ip _ _ => exact ⟨hk.1, eqK_imp hK hk.2⟩
    | op _ _ _ _ => exact ⟨hk.1, eqK_imp hK hk.2⟩
    | _ => exact hk.2.elim
  | nilf => cases u with
    | nilf => exact ⟨hk.1, eqK_imp hK hk.2⟩
    | fn _ _ _ => exact ⟨hk.1, eqK_imp hK hk.2⟩
    | _ => exact hk.2.elim
  | nilm => cases u with
    | nilm => exact ⟨hk.1, eqK_imp hK hk.2⟩
    | om _ => exact ⟨hk.1, eqK_imp hK hk.2⟩
    | _ => exact hk.2.elim
  | _ => exact hk.elim
theorem pickK_imp {c x y : AV} {K K' : AV → Prop} (hK : ∀ u, K u → K' u) (hk : pickK c x y K) : pickK c x y K' := by
  cases c with | bool b => exact ⟨fun e => hK _ (hk.1 e), fun e => hK _ (hk.2 e)⟩ | _ => exact hk.elim
theorem unK_imp {op : UnOp} {x : AV} {K K' : AV → Prop} (hK : ∀ u, K u → K' u) (hk : unK op x K) : unK op x K' := by
  cases x with
  | bool b => cases op <;> first | exact hK _ hk | exact hk.elim
  | int k n => cases op <;> first | exact hK _ hk | exact hk.elim | exact fitK_mono hK hk
  | _ => exact hk.elim
theorem convK_imp {s d : TypeId} {x : AV} {K K' : AV → Prop} (hK : ∀ u, K u → K' u) (hk : convK P s d x K) : convK P s d x K' := by
  cases x with
  | int k n => obtain ⟨h1, k, h2, h3⟩ := hk; exact ⟨h1, k, h2, fitK_mono hK h3⟩
  | str s => exact ⟨hk.1, hk.2.1, hK _ hk.2.2⟩
  | _ => exact hk.elim
theorem nilCheckK_imp {x : AV} {K K' : AV → Prop} (hK : ∀ u, K u → K' u) (hk : nilCheckK x K) : nilCheckK x K' := by
  cases x <;> first | exact hK _ hk | exact hk.elim
theorem loK_imp {x : Option AV} {K K' : Nat → Prop} (hK : ∀ u, K u → K' u) (hk : loK x K) : loK x K' := by
  cases x with
  | none => exact hK _ hk
  | some u => cases u <;> first | exact ⟨hk.1, hK _ hk.2⟩ | exact hk.elim
theorem hiK_imp {n : Nat} {x : Option AV} {K K' : Nat → Prop} (hK : ∀ u, K u → K' u) (hk : hiK n x K) : hiK n x K' := by
  cases x with
  | none => exact hK _ hk
  | some u => cases u <;> first | exact ⟨hk.1, hK _ hk.2⟩ | exact hk.elim
theorem sliceK_imp {t : TypeId} {x : AV} {lo hi : Option AV} {K K' : AV → Prop} (hK : ∀ u, K u → K' u) (hk : sliceK P t x lo hi K) : sliceK P t x lo hi K' := by
  cases x with
  | isl k es => exact ⟨hk.1, loK_imp (fun l => hiK_imp fun m h => ⟨h.1, h.2.1, hK _ h.2.2⟩) hk.2⟩
  | osl id k i len cap ex =>
    refine ⟨hk.1, loK_imp (fun l => hiK_imp fun m h => ⟨h.1, h.2.1, ?_⟩) hk.2⟩
    have := h.2.2
    split at this
    · rename_i c; rw [if_pos c]; exact hK _ this
    · rename_i c; rw [if_neg c]; exact ⟨this.1, hK _ this.2⟩
  | nils => exact ⟨hk.1, loK_imp (fun l => hiK_imp fun m h => ⟨h.1, h.2.1, hK _ h.2.2⟩) hk.2⟩
  | str s => exact ⟨hk.1, loK_imp (fun l => hiK_imp fun m h => ⟨h.1, h.2.1, hK _ h.2.2⟩) hk.2⟩
  | _ => exact hk.elim
theorem sliceAll_imp {t : TypeId} {x : AV} {lo hi : Option AV} {K K' : AV → Prop} (hK : ∀ u, K u → K' u) (hk : sliceAll P t x lo hi K) : sliceAll P t x lo hi K' := by
  cases x with
  | str s => exact sliceK_imp (x := .str s) hK hk
  | _ => exact ⟨hk.1, sliceK_imp hK hk.2⟩
theorem fieldAddrK_imp {s f : Nat} {p : AV} {K K' : AV → Prop} (hK : ∀ u, K u → K' u) (hk : fieldAddrK P s f p K) : fieldAddrK P s f p K' := by
  obtain ⟨o, ft, h1, h2⟩ := hk
  refine ⟨o, ft, h1, ?_⟩
  cases p <;> first | exact hK _ h2 | exact h2.elim
theorem partK_imp {t : TypeId} {cs : List AV} {off : Nat} {K K' : AV → Prop} (hK : ∀ u, K u → K' u) (hk : partK P t cs off K) : partK P t cs off K' := by
  unfold partK at hk ⊢
  split at hk
  · obtain ⟨n, h1, h2, h3⟩ := hk; exact ⟨n, h1, h2, hK _ h3⟩
  · obtain ⟨v, h1, h2⟩ := hk; exact ⟨v, h1, hK _ h2⟩
  · exact hk.elim
theorem fieldK_imp {t f : Nat} {x : AV} {K K' : AV → Prop} (hK : ∀ u, K u → K' u) (hk : fieldK P t f x K) : fieldK P t f x K' := by
  obtain ⟨o, ft, h1, h2⟩ := hk
  refine ⟨o, ft, h1, ?_⟩
  cases x <;> first | exact partK_imp hK h2 | exact h2.elim
theorem indexAddrK_imp {t : TypeId} {x i : AV} {K K' : AV → Prop} (hK : ∀ u, K u → K' u) (hk : indexAddrK P t x i K) : indexAddrK P t x i K' := by
  cases i with
  | int k n =>
    cases x with
    | isl k es => obtain ⟨h1, h2, h3, c, h4, h5⟩ := hk; exact ⟨h1, h2, h3, c, h4, hK _ h5⟩
    | osl _ _ _ _ _ _ => obtain ⟨h1, h2, h3, h4⟩ := hk; exact ⟨h1, h2, h3, hK _ h4⟩
    | ip _ _ => obtain ⟨m, e, s, h1, h2, h3, h4, h5⟩ := hk; exact ⟨m, e, s, h1, h2, h3, h4, hK _ h5⟩
    | op _ _ _ _ => obtain ⟨m, e, s, h1, h2, h3, h4, h5⟩ := hk; exact ⟨m, e, s, h1, h2, h3, h4, hK _ h5⟩
    | _ => exact hk.elim
  | _ => exact hk.elim
theorem indexK_imp {t : TypeId} {x i : AV} {K K' : AV → Prop} (hK : ∀ u, K u → K' u) (hk : indexK P t x i K) : indexK P t x i K' := by
  cases i with
  | int k n =>
    cases x with
    | agg cs => obtain ⟨m, e, s, h1, h2, h3, h4, h5⟩ := hk; exact ⟨m, e, s, h1, h2, h3, h4, partK_imp hK h5⟩
    | str s => obtain ⟨h1, h2, h3, h4⟩ := hk; exact ⟨h1, h2, h3, hK _ h4⟩
    | _ => exact hk.elim
  | _ => exact hk.elim
theorem extK_imp {x : AV} {i : Nat} {K K' : AV → Prop} (hK : ∀ u, K u → K' u) (hk : extK x i K) : extK x i K' := by
  cases x with | tup vs => obtain ⟨v, h1, h2⟩ := hk; exact ⟨v, h1, hK _ h2⟩ | _ => exact hk.elim
theorem lenK_imp {t : TypeId} {x : AV} {K K' : AV → Prop} (hK : ∀ u, K u → K' u) (hk : lenK P t x K) : lenK P t x K' := by
  cases x <;> first | exact ⟨hk.1, hK _ hk.2⟩ | exact hk.elim
theorem capK_imp {t : TypeId} {x : AV} {K K' : AV → Prop} (hK : ∀ u, K u → K' u) (hk : capK P t x K) : capK P t x K' := by
  cases x <;> first | exact ⟨hk.1, hk.2.1, hK _ hk.2.2⟩ | exact ⟨hk.1, hK _ hk.2⟩ | exact hk.elim
theorem mins_imp {g : Int → Int → Int} {k : IntKind} : ∀ {us : List AV} {x : Int} {K K' : Int → Prop}, (∀ u, K u → K' u) → mins g x us K k → mins g x us K' k
  | [], x, K, K', hK, hk => hK _ hk
  | u :: us, x, K, K', hK, hk => by cases u <;> first | exact ⟨hk.1, mins_imp hK hk.2⟩ | exact hk.elim
theorem minK_imp {g : Int → Int → Int} {us : List AV} {K K' : AV → Prop} (hK : ∀ u, K u → K' u) (hk : minK g us K) : minK g us K' := by
  cases us with
  | nil => exact hk.elim
  | cons u us => cases u <;> first | exact mins_imp (fun x h => hK _ h) hk | exact hk.elim
theorem cellsK_imp {u : AV} {K K' : List AV → Prop} (hK : ∀ c, K c → K' c) (hk : cellsK u K) : cellsK u K' := by
  cases u <;> first | exact hK _ hk | exact hk.elim
theorem fillK_imp {place : Nat → Option (Nat × Nat)} : ∀ {us : List (Nat × AV)} {cs : List AV} {K K' : List AV → Prop}, (∀ c, K c → K' c) → fillK place us cs K → fillK place us cs K'
  | [], cs, K, K', hK, hk => hK _ hk
  | (i, u) :: r, cs, K, K', hK, hk => cellsK_imp (fun us ⟨off, h1, h2, h3⟩ => ⟨off, h1, h2, fillK_imp hK h3⟩) hk
theorem fillRK_imp {k : Nat} : ∀ {us : List (Nat × AV)} {es : List (List AV)} {K K' : List (List AV) → Prop}, (∀ c, K c → K' c) → fillRK k us es K → fillRK k us es K'
  | [], es, K, K', hK, hk => hK _ hk
  | (i, u) :: r, es, K, K', hK, hk => cellsK_imp (fun us ⟨h1, h2, h3⟩ => ⟨h1, h2, fillRK_imp hK h3⟩) hk
theorem ldK_imp {t : TypeId} {cells : List AV} {off : Nat} {K K' : AV → Prop} (hK : ∀ u, K u → K' u) (hk : ldK P t cells off K) : ldK P t cells off K' := by
  unfold ldK at hk ⊢
  split at hk
  · obtain ⟨n, h1, h2, h3⟩ := hk; exact ⟨n, h1, h2, hK _ h3⟩
  · obtain ⟨v, h1, h2⟩ := hk; exact ⟨v, h1, hK _ h2⟩
  · exact hk.elim
theorem loadK_imp {t : TypeId} {p : AV} {K K' : AV → Prop} (hK : ∀ u, K u → K' u) (hk : loadK P t h p K) : loadK P t h p K' := by
  cases p with
  | ip c o => exact ldK_imp hK hk
  | op id k e o => obtain ⟨es, ex, h1, c, h2, h3⟩ := hk; exact ⟨es, ex, h1, c, h2, ldK_imp hK h3⟩
  | _ => exact hk.elim
theorem evK_imp' {x : Operand} {K K' : AV → Prop} (hK : ∀ u, K u → K' u) (hk : evK a x K) : evK a x K' := evK_imp (fun _ _ => rfl) hK hk
theorem evoK_imp' {x : Option Operand} {K K' : Option AV → Prop} (hK : ∀ u, K u → K' u) (hk : evoK a x K) : evoK a x K' := evoK_imp (fun _ _ => rfl) hK hk
theorem evsK_imp' {xs : List Operand} {K K' : List AV → Prop} (hK : ∀ u, K u → K' u) (hk : evsK a xs K) : evsK a xs K' := evsK_imp (fun _ _ => rfl) hK hk
theorem evpK_imp' {xs : List (Nat × Operand)} {K K' : List (Nat × AV) → Prop} (hK : ∀ u, K u → K' u) (hk : evpK a xs K) : evpK a xs K' := evpK_imp (fun _ _ => rfl) hK hk

/-- A quiet operation does at any heap what it does at one. -/
theorem aop_quiet {op : Op} {K K' : AV → Heap → Prop} {h' : Heap} (hq : quietOp op = true) (hK : ∀ u, K u h → K' u h') (hk : aop P op a h K) : aop P op a h' K' := by
  cases op with
  | move x => simp only [aop] at hk ⊢; exact evK_imp' (fun _ h => hK _ h) hk
  | assign x => simp only [aop] at hk ⊢; exact evK_imp' (fun _ h => hK _ h) hk
  | pick c x y => simp only [aop] at hk ⊢; exact evK_imp' (fun _ => evK_imp' fun _ => evK_imp' fun _ => pickK_imp fun _ h => hK _ h) hk
  | build t parts => simp only [aop] at hk ⊢; exact evpK_imp' (fun us ⟨z, pl, h1, h2, h3⟩ => ⟨z, pl, h1, h2, fillK_imp (fun _ h => hK _ h) h3⟩) hk
  | nilCheck x => simp only [aop] at hk ⊢; exact evK_imp' (fun _ => nilCheckK_imp fun _ h => hK _ h) hk
  | binOp op t x y t' => simp only [aop] at hk ⊢; exact evK_imp' (fun _ => evK_imp' fun _ => binAll_imp fun _ h => hK _ h) hk
  | unOp op t x => simp only [aop] at hk ⊢; exact evK_imp' (fun _ => unK_imp fun _ h => hK _ h) hk
  | convert s d x => simp only [aop] at hk ⊢; exact evK_imp' (fun _ => convK_imp fun _ h => hK _ h) hk
  | makeFunc f fs cs => simp only [aop] at hk ⊢; exact evsK_imp' (fun _ => evsK_imp' fun _ h => hK _ h) hk
  | makeInterface t x => simp only [aop] at hk ⊢; exact ⟨hk.1, evK_imp' (fun _ h => hK _ h) hk.2⟩
  | slice t x lo hi mx =>
    cases mx with
    | none => simp only [aop] at hk ⊢; exact evK_imp' (fun _ => evoK_imp' fun _ => evoK_imp' fun _ => sliceAll_imp fun _ h => hK _ h) hk
    | some m => exact hk.elim
  | fieldAddr s x f => simp only [aop] at hk ⊢; exact evK_imp' (fun _ => fieldAddrK_imp fun _ h => hK _ h) hk
  | field t x f => simp only [aop] at hk ⊢; exact evK_imp' (fun _ => fieldK_imp fun _ h => hK _ h) hk
  | indexAddr t x i => simp only [aop] at hk ⊢; exact evK_imp' (fun _ => evK_imp' fun _ => indexAddrK_imp fun _ h => hK _ h) hk
  | index t x i => simp only [aop] at hk ⊢; exact evK_imp' (fun _ => evK_imp' fun _ => indexK_imp fun _ h => hK _ h) hk
  | extract x i => simp only [aop] at hk ⊢; exact evK_imp' (fun _ => extK_imp fun _ h => hK _ h) hk
  | call c =>
    obtain ⟨callee, args, ts⟩ := c
    cases callee with
    | builtin b =>
      have h1 : ∀ (F F' : AV → TypeId → Prop), (∀ u t, F u t → F' u t) → (match args.toList, ts.toList with | [x], [t] => evK a x fun u => F u t | _, _ => False) → (match args.toList, ts.toList with | [x], [t] => evK a x fun u => F' u t | _, _ => False) := by
        intro F F' hFF hF
        split at hF
        · exact evK_imp' (fun _ h => hFF _ _ h) hF
        · exact hF.elim
      cases b with
      | len => simp only [aop, builtinK] at hk ⊢; exact h1 (fun u t => lenK P t u fun u => K u h) (fun u t => lenK P t u fun u => K' u h') (fun u t => lenK_imp fun _ h => hK _ h) hk
      | cap => simp only [aop, builtinK] at hk ⊢; exact h1 (fun u t => capK P t u fun u => K u h) (fun u t => capK P t u fun u => K' u h') (fun u t => capK_imp fun _ h => hK _ h) hk
      | min => simp only [aop, builtinK] at hk ⊢; exact evsK_imp' (fun _ => minK_imp fun _ h => hK _ h) hk
      | max => simp only [aop, builtinK] at hk ⊢; exact evsK_imp' (fun _ => minK_imp fun _ h => hK _ h) hk
      | _ => simp [quietOp, quietB] at hq
    | _ => simp [quietOp] at hq
  | _ => simp [quietOp] at hq

end
end Go.AL
end

section
/- Regions of the small logic: operations in the order of the text; and regions that draw their order: one order serves for all. No condition. -/
namespace Go.AL
set_option linter.unusedVariables false
set_option linter.unusedSimpArgs false
set_option linter.unnecessarySimpa false

def gslot (ops : List Oper) (j : Nat) : Option Tmp := (ops[j]?).bind (·.dst)
def guardK (ops : List Oper) (g : Option (Nat × Bool)) (a : Fr) (K : Bool → Prop) : Prop :=
  match g with
  | none => K true
  | some (j, want) => (match gslot ops j with
    | some t => (match a t with | .bool b => (b = want → K true) ∧ (b ≠ want → K false) | .tup [] => K false | _ => False)
    | none => False)
def gval (ops : List Oper) (g : Option (Nat × Bool)) (a : Fr) : Option Bool :=
  match g with
  | none => some true
  | some (j, want) => (match gslot ops j with
    | some t => (match a t with | .bool b => some (b == want) | .tup [] => some false | _ => none)
    | none => none)
theorem guardK_sound {ops : List Oper} {g : Option (Nat × Bool)} {a : Fr} {K : Bool → Prop} (hk : guardK ops g a K) : ∃ r, gval ops g a = some r ∧ K r := by
  cases g with
  | none => exact ⟨true, rfl, hk⟩
  | some x =>
    obtain ⟨j, want⟩ := x
    simp only [guardK, gval] at hk ⊢
    cases hs : gslot ops j with
    | none => simp [hs] at hk
    | some t =>
      simp only [hs] at hk ⊢
      cases ha : a t with
      | bool b =>
        simp only [ha] at hk ⊢
        by_cases e : b = want
        · exact ⟨true, by simp [e], hk.1 e⟩
        · exact ⟨false, by simp [e], hk.2 e⟩
      | tup l =>
        cases l with
        | nil => simp only [ha] at hk ⊢; exact ⟨false, rfl, hk⟩
        | cons _ _ => simp [ha] at hk
      | _ => simp [ha] at hk

def pt (dst : Option Tmp) (a : Fr) (v : AV) : Fr := match dst with | none => a | some d => upd a d v
def putK (n : Nat) (dst : Option Tmp) (a : Fr) (v : AV) (K : Fr → Prop) : Prop := match dst with | none => K a | some d => d < n ∧ K (upd a d v)
def inb (n : Nat) (dst : Option Tmp) : Prop := ∀ d, dst = some d → d < n
theorem putK_sound {n : Nat} {dst : Option Tmp} {a : Fr} {v : AV} {K : Fr → Prop} (hk : putK n dst a v K) : inb n dst ∧ K (pt dst a v) := by
  cases dst with
  | none => exact ⟨fun d h => (by cases h), hk⟩
  | some d => exact ⟨fun d' h => (by cases h; exact hk.1), hk.2⟩

theorem FRel.pt {I : Nat → Prop} {β : Nat → Nat} {N : Nat} {w : World} {n : Nat} {a : Fr} {c : Act} (hf : FRel I β N w n a c) {dst : Option Tmp} (hd : inb n dst) {u : AV} {v : Value} (hv : VRel I β N w u v) :
    FRel I β N w n (AL.pt dst a u) (c.put dst v) := by
  cases dst with
  | none => exact hf
  | some d => exact hf.put (hd d rfl) hv

theorem wanted_eq {I : Nat → Prop} {β : Nat → Nat} {N : Nat} {w : World} {n : Nat} {a : Fr} {c : Act} (hf : FRel I β N w n a c) {ops : Array Oper} {o : Oper} {r : Bool} (hg : gval ops.toList o.guard a = some r) : Region.wanted o (yielded ops c.tmps) = r := by
  unfold Region.wanted
  cases hgd : o.guard with
  | none => rw [hgd] at hg; simp [gval] at hg; simp [hg]
  | some x =>
    obtain ⟨j, want⟩ := x
    rw [hgd] at hg
    simp only [gval] at hg
    cases hs : gslot ops.toList j with
    | none => simp [hs] at hg
    | some t =>
      simp only [hs] at hg
      have hs' : (ops[j]?).bind (·.dst) = some t := by simpa [gslot] using hs
      cases ha : a t with
      | bool b =>
        simp only [ha] at hg
        injection hg with hg
        have hv := hf.val t
        rw [ha] at hv
        have e := hv.bool_inv
        have hlt : c.tmps[t]? = some (.bool b) := by
          simp only [Array.getD_eq_getD_getElem?] at e
          cases hc : c.tmps[t]? with
          | none => rw [hc] at e; simp [undef] at e
          | some y => rw [hc] at e; simp at e; rw [e]
        simp only [yielded, hs', Option.bind_some, hlt]
        rw [← hg]
        simp
      | tup l =>
        cases l with
        | nil =>
          simp only [ha] at hg
          injection hg with hg
          have hv := hf.val t
          rw [ha] at hv
          obtain ⟨vs, e, h1, _⟩ := hv.tup_inv
          have hne : ∀ b : Bool, c.tmps[t]? ≠ some (.bool b) := fun b hb => by
            simp only [Array.getD_eq_getD_getElem?, hb, Option.getD_some] at e
            cases e
          simp only [yielded, hs', Option.bind_some]
          cases hc : c.tmps[t]? with
          | none => rw [← hg]; rfl
          | some x => cases x with
            | bool b => exact absurd hc (hne b)
            | _ => rw [← hg]; rfl
        | cons _ _ => simp [ha] at hg
      | _ => simp [ha] at hg

section
variable {P : Program} {n : Nat}

/-- One operation, or its leaving out. -/
theorem wpOp_of {o : Oper} {ops : Array Oper} {i : Nat} (hi : ops[i]? = some o) {a : Fr} {h : Heap} {r : Bool} (hg : gval ops.toList o.guard a = some r) (K : AV → Heap → Prop) (hyes : r = true → OpOk P o a h K) (hno : r = false → K .undef h)
    {I : Nat → Prop} {β : Nat → Nat} {w : World} {c : Act} (rr : Rel I β h w) (ff : FRel I β h.length w n a c) {next : Act → World → Prop} {Q : Exit → Act → World → Prop}
    (hn : ∀ u cv I' β' h' w', K u h' → Ext I β h w I' β' h' w' → Rel I' β' h' w' → VRel I' β' h'.length w' u cv → next (c.put o.dst cv) w') : wpOp P ops Q i next c w := by
  unfold wpOp
  simp only [hi]
  rw [wanted_eq ff hg]
  cases r with
  | true =>
    simp only [if_true]
    exact .inl (hyes rfl I β w n c next Q rr ff hn)
  | false =>
    simp only [Bool.false_eq_true, if_false]
    exact hn .undef undef I β h w (hno rfl) (.refl _ _ _ _) rr (.imm _ _ (.undef _ _))

/-! ### in the order of the text -/
def aops (P : Program) (n : Nat) (all : List Oper) : List Oper → Fr → Heap → (Fr → Heap → Prop) → Prop
  | [], a, h, K => K a h
  | o :: rest, a, h, K => guardK all o.guard a fun run => match run with
    | true => aop P o.op a h fun v h' => putK n o.dst a v fun a' => aops P n all rest a' h' K
    | false => putK n o.dst a .undef fun a' => aops P n all rest a' h K

theorem aops_sound {ops : Array Oper} {Q : Exit → Act → World → Prop} : ∀ (l : List Oper) (i : Nat), (∀ j, l[j]? = ops[i + j]?) → ∀ (a : Fr) (h : Heap) (K : Fr → Heap → Prop) (I : Nat → Prop) (β : Nat → Nat) (w : World) (c : Act), Rel I β h w → FRel I β h.length w n a c →
    aops P n ops.toList l a h K → (∀ a' h' I' β' c' w', K a' h' → Ext I β h w I' β' h' w' → Rel I' β' h' w' → FRel I' β' h'.length w' n a' c' → Q .normal c' w') → wpOps P ops Q (List.range' i l.length) c w
  | [], i, hl, a, h, K, I, β, w, c, r, f, hk, hn => by
    simp only [List.length_nil, List.range'_zero, wpOps]
    exact hn a h I β c w hk (.refl _ _ _ _) r f
  | o :: l, i, hl, a, h, K, I, β, w, c, r, f, hk, hn => by
    have hi : ops[i]? = some o := by have := hl 0; simpa using this.symm
    simp only [List.length_cons, List.range'_succ, wpOps_cons]
    obtain ⟨run, hg, hk⟩ := guardK_sound hk
    refine wpOp_of hi hg (fun v h' => inb n o.dst ∧ aops P n ops.toList l (pt o.dst a v) h' K) (fun e => ?_) (fun e => ?_) r f (fun u cv I' β' h' w' hk' he hr hv => ?_)
    · subst e
      exact (aop_sound hk).mono fun v h' => putK_sound
    · subst e
      exact putK_sound hk
    · exact aops_sound l (i + 1) (fun j => by have := hl (j + 1); simpa [Nat.add_assoc, Nat.add_comm 1] using this) _ h' K I' β' w' _ hr ((f.ext r he).pt hk'.1 hv) hk'.2
        (fun a' h2 I2 β2 c' w2 k2 e2 => hn a' h2 I2 β2 c' w2 k2 (he.trans e2))

/-! ### a region that draws its order -/
def pureOp (op : Op) : Bool := quietOp op || loadOp op
def edgesOf (ops : List Oper) (i : Nat) : List Nat := match ops[i]? with | some o => (o.after.toList.filter (Region.binds .any)).map (·.on) | none => []
def tmsOf (ops : List Oper) (i : Nat) : List Tmp := match ops[i]? with | some o => tmpsOf o.op ++ (match o.guard with | some (j, _) => (gslot ops j).toList | none => []) | none => []
def presOf (ops : List Oper) : List (List Nat) :=
  ops.foldl (fun acc o => acc ++ [let es := (o.after.toList.filter (Region.binds .any)).map (·.on); (es ++ es.flatMap fun e => acc.getD e []).eraseDups]) []
def isEff (ops : List Oper) (i : Nat) : Bool := match ops[i]? with | some o => !pureOp o.op | none => true
def isLoad (ops : List Oper) (i : Nat) : Bool := match ops[i]? with | some o => !quietOp o.op | none => true

abbrev Plan := List (Nat × Bool × List Nat)
/-- 'free': operations that stand done when this is asked of. -/
def drawChkF (ops : List Oper) (plan : Plan) (free : List Nat) : Bool :=
  let pr := presOf ops
  let ord : List Nat := plan.map (·.1)
  let is := List.range ops.length
  (is.all fun i => (pr.getD i []).all fun j => (edgesOf ops i).contains j || (edgesOf ops i).any fun k => decide (k < i) && (pr.getD k []).contains j) &&
  (is.all fun i => (edgesOf ops i).all fun e => decide (e < i)) &&
  (decide ord.Nodup && is.all fun i => ord.contains i) && (ord.all fun i => decide (i < ops.length)) &&
  (is.all fun i => is.all fun j => decide (i = j) || (gslot ops i).isNone || !decide (gslot ops i = gslot ops j)) &&
  (is.all fun i => (tmsOf ops i).all fun t => is.all fun j => decide (j = i) || !decide (gslot ops j = some t) || (decide (ord.idxOf j < ord.idxOf i) && (pr.getD i []).contains j) || (decide (ord.idxOf i < ord.idxOf j) && (pr.getD j []).contains i)) &&
  (is.all fun e => !isEff ops e || is.all fun i => !decide (ord.idxOf e < ord.idxOf i) || ((pr.getD i []).contains e || free.contains e)) &&
  (plan.all fun x => !isEff ops x.1 || is.all fun i => isEff ops i || !isLoad ops i || !decide (ord.idxOf i < ord.idxOf x.1) || (pr.getD x.1 []).contains i || (x.2.2.contains i && plan.any fun y => decide (y.1 = i) && y.2.1))

def drawChk (ops : List Oper) (plan : Plan) : Bool := drawChkF ops plan []

/-- What stood done, and is to give the same at the new heap. -/
def reK (P : Program) (all : List Oper) (done : List (Nat × Fr × AV)) (h : Heap) : List Nat → Prop
  | [] => True
  | j :: r => (match done.find? (fun x => x.1 == j), all[j]? with
    | some (_, a, v), some o => aop P o.op a h fun v' h' => v' = v ∧ h' = h
    | _, _ => True) ∧ reK P all done h r

def adr (P : Program) (n : Nat) (all : List Oper) : Plan → Fr → Heap → List (Nat × Fr × AV) → (Fr → Heap → Prop) → Prop
  | [], a, h, done, K => K a h
  | (i, keep, rs) :: rest, a, h, done, K => (match all[i]? with
    | none => False
    | some o => guardK all o.guard a fun run => match run with
      | true => (match pureOp o.op with
        | true => ∃ v, aop P o.op a h (fun v' h' => v' = v ∧ h' = h) ∧ putK n o.dst a v fun a' => adr P n all rest a' h (match keep with | true => (i, a, v) :: done | false => done) K
        | false => aop P o.op a h fun v h' => reK P all done h' rs ∧ putK n o.dst a v fun a' => adr P n all rest a' h' done K)
      | false => putK n o.dst a .undef fun a' => adr P n all rest a' h done K)


structure DrawOk (ops : List Oper) (plan : Plan) (free : List Nat) : Prop where
  pre : ∀ i, i < ops.length → ∀ j, j ∈ (presOf ops).getD i [] → j ∈ edgesOf ops i ∨ ∃ k, k ∈ edgesOf ops i ∧ k < i ∧ j ∈ (presOf ops).getD k []
  back : ∀ i, i < ops.length → ∀ e, e ∈ edgesOf ops i → e < i
  nodup : (plan.map (·.1)).Nodup
  all : ∀ i, i < ops.length → i ∈ plan.map (·.1)
  lt : ∀ i, i ∈ plan.map (·.1) → i < ops.length
  one : ∀ i j t, i < ops.length → j < ops.length → gslot ops i = some t → gslot ops j = some t → i = j
  tms : ∀ i, i < ops.length → ∀ t, t ∈ tmsOf ops i → ∀ j, j < ops.length → j ≠ i → gslot ops j = some t →
    ((plan.map (·.1)).idxOf j < (plan.map (·.1)).idxOf i ∧ j ∈ (presOf ops).getD i []) ∨ ((plan.map (·.1)).idxOf i < (plan.map (·.1)).idxOf j ∧ i ∈ (presOf ops).getD j [])
  eff : ∀ e, e < ops.length → isEff ops e = true → ∀ i, i < ops.length → (plan.map (·.1)).idxOf e < (plan.map (·.1)).idxOf i → e ∈ (presOf ops).getD i [] ∨ e ∈ free
  re : ∀ x, x ∈ plan → isEff ops x.1 = true → ∀ i, i < ops.length → isEff ops i = false → isLoad ops i = true → (plan.map (·.1)).idxOf i < (plan.map (·.1)).idxOf x.1 → i ∉ (presOf ops).getD x.1 [] → i ∈ x.2.2 ∧ ∃ y, y ∈ plan ∧ y.1 = i ∧ y.2.1 = true

theorem drawOk {ops : List Oper} {plan : Plan} {free : List Nat} (h : drawChkF ops plan free = true) : DrawOk ops plan free := by
  unfold drawChkF at h
  simp only [Bool.and_eq_true, List.all_eq_true, List.any_eq_true, List.mem_range, Bool.or_eq_true, decide_eq_true_eq, List.contains_iff_mem, Bool.not_eq_true', decide_eq_false_iff_not, Option.isNone_iff_eq_none] at h
  obtain ⟨⟨⟨⟨⟨⟨⟨h1, h2⟩, h3, h4⟩, h5⟩, h6⟩, h7⟩, h8⟩, h9⟩ := h
  refine ⟨fun i hi j hj => ?_, h2, h3, h4, h5, fun i j t hi hj e1 e2 => ?_, fun i hi t ht j hj hne hs => ?_, fun e he hf i hi hlt => ?_, fun x hx hf i hi hp hl hlt hn => ?_⟩
  · rcases h1 i hi j hj with h | ⟨k, hk, hlt, hm⟩
    · exact .inl h
    · exact .inr ⟨k, hk, hlt, hm⟩
  · rcases h6 i hi j hj with (h | h) | h
    · exact h
    · rw [e1] at h; cases h
    · exact absurd (e1.trans e2.symm) h
  · rcases h7 i hi t ht j hj with ((h | h) | h) | h
    · exact absurd h hne
    · exact absurd hs h
    · exact .inl h
    · exact .inr h
  · rcases h8 e he with h | h
    · rw [hf] at h; cases h
    · rcases h i hi with h | h
      · exact absurd hlt h
      · exact h
  · rcases h9 x hx with h | h
    · rw [hf] at h; cases h
    · rcases h i hi with (((h | h) | h) | h) | h
      · rw [hp] at h; cases h
      · rw [hl] at h; cases h
      · exact absurd hlt h
      · exact absurd h hn
      · obtain ⟨h1, y, h2, h3, h4⟩ := h
        exact ⟨h1, y, h2, h3, h4⟩

/-! frames as what was put, newest first -/
def frm (ops : List Oper) (a0 : Fr) : List (Nat × AV) → Fr
  | [] => a0
  | (i, v) :: r => pt (gslot ops i) (frm ops a0 r) v

theorem frm_find (ops : List Oper) (a0 : Fr) (t : Nat) : ∀ l : List (Nat × AV), frm ops a0 l t = match l.find? (fun x => gslot ops x.1 == some t) with | some x => x.2 | none => a0 t
  | [] => rfl
  | (i, v) :: r => by
    simp only [frm, List.find?_cons]
    cases hs : gslot ops i with
    | none =>
      simp only [pt, hs]
      exact frm_find ops a0 t r
    | some d =>
      simp only [pt, hs]
      by_cases e : t = d
      · subst e
        simp [upd_same]
      · rw [upd_ne _ _ _ _ e]
        have : ((some d : Option Nat) == some t) = false := by simp [Ne.symm e]
        rw [this]
        exact frm_find ops a0 t r

theorem nodup_val {l : List (Nat × AV)} (hn : (l.map (·.1)).Nodup) {i : Nat} {v v' : AV} (h1 : (i, v) ∈ l) (h2 : (i, v') ∈ l) : v = v' := by
  induction l with
  | nil => cases h1
  | cons x l ih =>
    simp only [List.map_cons, List.nodup_cons] at hn
    rcases List.mem_cons.1 h1 with e1 | k1 <;> rcases List.mem_cons.1 h2 with e2 | k2
    · rw [← e1] at e2; injection e2 with _ e; exact e.symm
    · rw [← e1] at hn; exact absurd (List.mem_map.2 ⟨_, k2, rfl⟩) hn.1
    · rw [← e2] at hn; exact absurd (List.mem_map.2 ⟨_, k1, rfl⟩) hn.1
    · exact ih hn.2 k1 k2

theorem frm_same {ops : List Oper} {a0 : Fr} {t : Nat} {l l' : List (Nat × AV)} (hone : ∀ i j t, gslot ops i = some t → gslot ops j = some t → i = j) (hn' : (l'.map (·.1)).Nodup)
    (hw : ∀ j v, gslot ops j = some t → ((j, v) ∈ l ↔ (j, v) ∈ l')) : frm ops a0 l t = frm ops a0 l' t := by
  rw [frm_find, frm_find]
  cases h1 : l.find? (fun x => gslot ops x.1 == some t) with
  | none =>
    cases h2 : l'.find? (fun x => gslot ops x.1 == some t) with
    | none => rfl
    | some y =>
      have hy := List.mem_of_find?_eq_some h2
      have hp := List.find?_some h2
      have hp' : gslot ops y.1 = some t := by simpa using hp
      have := List.find?_eq_none.1 h1 _ ((hw y.1 y.2 hp').2 hy)
      exact absurd hp this
  | some x =>
    have hx := List.mem_of_find?_eq_some h1
    have hp := List.find?_some h1
    have hp' : gslot ops x.1 = some t := by simpa using hp
    have hx' := (hw x.1 x.2 hp').1 hx
    cases h2 : l'.find? (fun x => gslot ops x.1 == some t) with
    | none => exact absurd hp (List.find?_eq_none.1 h2 _ hx')
    | some y =>
      have hy := List.mem_of_find?_eq_some h2
      have hq : gslot ops y.1 = some t := by simpa using List.find?_some h2
      have e := hone _ _ _ hp' hq
      obtain ⟨i, v⟩ := x
      obtain ⟨j, v'⟩ := y
      simp only at e
      subst e
      exact nodup_val hn' hx' hy

theorem gslot_lt {ops : List Oper} {i t : Nat} (h : gslot ops i = some t) : i < ops.length := by
  unfold gslot at h
  cases ho : ops[i]? with
  | none => simp [ho] at h
  | some o => exact (List.getElem?_eq_some_iff.1 ho).1

/-- What is known of an operation that has been looked at, and has not run. -/
def Valid (P : Program) (n : Nat) (ops : List Oper) (i : Nat) (a : Fr) (v : AV) (h : Heap) : Prop :=
  ∃ o, ops[i]? = some o ∧ inb n o.dst ∧ ((gval ops o.guard a = some true ∧ pureOp o.op = true ∧ aop P o.op a h fun v' h' => v' = v ∧ h' = h) ∨ (gval ops o.guard a = some false ∧ v = .undef ∧ pureOp o.op = true))

structure Inv (P : Program) (n : Nat) (ops : List Oper) (plan : Plan) (K : Fr → Heap → Prop) (a0 : Fr) (S : Nat → Prop) (hist : List (Nat × AV)) (rest : Plan) (h : Heap) (done : List (Nat × Fr × AV)) : Prop where
  ord : (hist.map (·.1)).reverse ++ rest.map (·.1) = plan.map (·.1)
  sub : ∃ p, p ++ rest = plan
  run : adr P n ops rest (frm ops a0 hist) h done K
  ran : ∀ i, S i → i ∈ hist.map (·.1)
  effs : ∀ i, i ∈ hist.map (·.1) → isEff ops i = true → S i
  val : ∀ l1 i v l2, hist = l1 ++ (i, v) :: l2 → ¬ S i → Valid P n ops i (frm ops a0 l2) v h
  kept : ∀ l1 i v l2, hist = l1 ++ (i, v) :: l2 → (∃ y, y ∈ plan ∧ y.1 = i ∧ y.2.1 = true) → ¬ S i → (∀ o, ops[i]? = some o → gval ops o.guard (frm ops a0 l2) = some true) → done.find? (fun x => x.1 == i) = some (i, frm ops a0 l2, v)


theorem countP_lt {α : Type} {p p' : α → Bool} {i : α} : ∀ {l : List α}, i ∈ l → (∀ x, p' x = true → p x = true) → p i = true → p' i = false → l.countP p' < l.countP p
  | [], h, _, _, _ => by cases h
  | x :: l, h, hm, h1, h2 => by
    have hle : l.countP p' ≤ l.countP p := List.countP_mono_left (fun x _ => hm x)
    simp only [List.countP_cons]
    rcases List.mem_cons.1 h with rfl | h
    · simp [h1, h2]; omega
    · have ih := countP_lt h hm h1 h2
      by_cases hx : p' x = true
      · simp [hx, hm x hx]; exact ih
      · simp [hx]; split <;> omega

theorem pre_in {ops : List Oper} {plan : Plan} {free : List Nat} (hd : DrawOk ops plan free) {S : Nat → Prop} (hc : ∀ i, S i → ∀ e, e ∈ edgesOf ops i → S e) : ∀ i, i < ops.length → (∀ e, e ∈ edgesOf ops i → S e) → ∀ j, j ∈ (presOf ops).getD i [] → S j := by
  intro i
  induction i using Nat.strongRecOn with
  | _ i ih =>
    intro hi he j hj
    rcases hd.pre i hi j hj with h | ⟨k, hk, hlt, hm⟩
    · exact he j h
    · exact ih k hlt (by omega) (hc k (he k hk)) j hm

theorem getD_app {l1 l2 : List (Nat × AV)} : True := trivial

/-- One more operation is looked at, ahead of its run. -/
theorem absorb {ops : List Oper} {plan : Plan} {free : List Nat} (hd : DrawOk ops plan free) {K : Fr → Heap → Prop} {a0 : Fr} {S : Nat → Prop} {hist : List (Nat × AV)} {x : Nat × Bool × List Nat} {rest : Plan} {h : Heap} {done : List (Nat × Fr × AV)}
    (hv : Inv P n ops plan K a0 S hist (x :: rest) h done) (hp : isEff ops x.1 = false) : ∃ v done', Inv P n ops plan K a0 S ((x.1, v) :: hist) rest h done' := by
  obtain ⟨i, keep, rs⟩ := x
  have hplan : (i, keep, rs) ∈ plan := by obtain ⟨p, hp⟩ := hv.sub; rw [← hp]; simp
  have hnd := hd.nodup
  have hni : i ∉ hist.map (·.1) := by
    have h1 := hv.ord
    rw [← h1] at hnd
    have h2 := List.nodup_append.1 hnd
    intro hm
    exact h2.2.2 i (by simpa using hm) i (by simp) rfl
  have hrun := hv.run
  simp only [adr] at hrun
  cases ho : ops[i]? with
  | none => simp [ho] at hrun
  | some o =>
    simp only [ho] at hrun
    have hpo : pureOp o.op = true := by simpa [isEff, ho] using hp
    have hslot : gslot ops i = o.dst := by simp [gslot, ho]
    obtain ⟨r, hg, hk⟩ := guardK_sound hrun
    have base : ∀ v done', (inb n o.dst ∧ adr P n ops rest (pt o.dst (frm ops a0 hist) v) h done' K) → Valid P n ops i (frm ops a0 hist) v h →
        ((∃ y, y ∈ plan ∧ y.1 = i ∧ y.2.1 = true) → gval ops o.guard (frm ops a0 hist) = some true → done'.find? (fun x => x.1 == i) = some (i, frm ops a0 hist, v)) → (∀ j, j ≠ i → done'.find? (fun x => x.1 == j) = done.find? (fun x => x.1 == j)) →
        Inv P n ops plan K a0 S ((i, v) :: hist) rest h done' := by
      intro v done' h1 h2 h3 h4
      refine ⟨by simpa using hv.ord, by obtain ⟨p, hp⟩ := hv.sub; exact ⟨p ++ [(i, keep, rs)], by simpa using hp⟩, by simp only [frm, hslot]; exact h1.2, fun j hj => List.mem_cons_of_mem _ (hv.ran j hj), fun j hj he => ?_, fun l1 j u l2 hl hj => ?_, fun l1 j u l2 hl hy hj hgv => ?_⟩
      · rcases List.mem_cons.1 hj with e | hj
        · rw [e] at he
          simp only at he hp
          rw [hp] at he
          cases he
        · exact hv.effs j hj he
      · cases l1 with
        | nil =>
          simp only [List.nil_append, List.cons.injEq, Prod.mk.injEq] at hl
          obtain ⟨⟨rfl, rfl⟩, rfl⟩ := hl
          exact h2
        | cons y l1 =>
          simp only [List.cons_append, List.cons.injEq] at hl
          exact hv.val l1 j u l2 hl.2 hj
      · cases l1 with
        | nil =>
          simp only [List.nil_append, List.cons.injEq, Prod.mk.injEq] at hl
          obtain ⟨⟨rfl, rfl⟩, rfl⟩ := hl
          exact h3 hy (hgv o ho)
        | cons y l1 =>
          simp only [List.cons_append, List.cons.injEq] at hl
          have hne : j ≠ i := by
            rintro rfl
            exact hni (by rw [hl.2]; simp)
          rw [h4 j hne]
          exact hv.kept l1 j u l2 hl.2 hy hj hgv
    cases r with
    | true =>
      simp only [hpo] at hk
      obtain ⟨v, hv1, hk⟩ := hk
      have hk2 := putK_sound hk
      refine ⟨v, _, base v _ hk2 ⟨o, ho, hk2.1, .inl ⟨hg, hpo, hv1⟩⟩ ?_ ?_⟩
      · rintro ⟨y, hy, hy1, hy2⟩ _
        have : y = (i, keep, rs) := by
          have key : ∀ (l : Plan), (l.map (·.1)).Nodup → ∀ y z, y ∈ l → z ∈ l → y.1 = z.1 → y = z := by
            intro l
            induction l with
            | nil => intro _ y z hy; cases hy
            | cons a l ih =>
              intro hn y z hy hz e
              simp only [List.map_cons, List.nodup_cons] at hn
              rcases List.mem_cons.1 hy with e1 | k1 <;> rcases List.mem_cons.1 hz with e2 | k2
              · rw [e1, e2]
              · rw [e1] at e; exact absurd (List.mem_map.2 ⟨_, k2, e.symm⟩) hn.1
              · rw [e2] at e; exact absurd (List.mem_map.2 ⟨_, k1, e⟩) hn.1
              · exact ih hn.2 y z k1 k2 e
          exact key plan hd.nodup y _ hy hplan hy1
        subst this
        simp only at hy2
        subst hy2
        simp
      · intro j hj
        cases keep with
        | true => simp [List.find?_cons, Ne.symm hj]
        | false => rfl
    | false =>
      have hk2 := putK_sound hk
      refine ⟨.undef, done, base _ _ hk2 ⟨o, ho, hk2.1, .inr ⟨hg, rfl, hpo⟩⟩ ?_ (fun _ _ => rfl)⟩
      intro _ hgt
      rw [hg] at hgt
      cases hgt

end
end Go.AL
end

section
/- Regions that draw their order: whatever order the machine takes, it comes to what the plan's order comes to. No condition. -/
namespace Go.AL
set_option linter.unusedVariables false
set_option linter.unusedSimpArgs false
set_option linter.unnecessarySimpa false
section
variable {P : Program} {n : Nat}

def Sof (listed : Array Bool) (i : Nat) : Prop := listed.getD i false = true
def filt (listed : Array Bool) (hist : List (Nat × AV)) : List (Nat × AV) := hist.filter fun x => listed.getD x.1 false
def unl (N : Nat) (listed : Array Bool) : Nat := (List.range N).countP fun i => !listed.getD i false

theorem Sof_set {listed : Array Bool} {i j : Nat} (hi : i < listed.size) : Sof (listed.setIfInBounds i true) j ↔ j = i ∨ Sof listed j := by
  unfold Sof
  by_cases e : j = i
  · subst e; simp [hi]
  · rw [getD_set_ne false (Ne.symm e)]
    simp [e]

theorem mem_filt {listed : Array Bool} {hist : List (Nat × AV)} {x : Nat × AV} : x ∈ filt listed hist ↔ x ∈ hist ∧ Sof listed x.1 := by
  simp [filt, Sof]

theorem filt_nodup {listed : Array Bool} {hist : List (Nat × AV)} (h : (hist.map (·.1)).Nodup) : ((filt listed hist).map (·.1)).Nodup :=
  List.Nodup.sublist (List.Sublist.map _ List.filter_sublist) h

theorem gval_congr {ops : List Oper} {i : Nat} {o : Oper} (ho : ops[i]? = some o) {a a' : Fr} (h : ∀ t, t ∈ tmsOf ops i → a t = a' t) : gval ops o.guard a = gval ops o.guard a' := by
  cases hg : o.guard with
  | none => rfl
  | some x =>
    obtain ⟨j, want⟩ := x
    simp only [gval]
    cases hs : gslot ops j with
    | none => rfl
    | some t =>
      have := h t (by simp [tmsOf, ho, hg, hs])
      simp only [this]

theorem Inv.nodup {ops : List Oper} {plan : Plan} {free : List Nat} (hd : DrawOk ops plan free) {K : Fr → Heap → Prop} {a0 : Fr} {S : Nat → Prop} {hist : List (Nat × AV)} {rest : Plan} {h : Heap} {done : List (Nat × Fr × AV)} (hv : Inv P n ops plan K a0 S hist rest h done) :
    (hist.map (·.1)).Nodup ∧ ∀ i, i ∈ hist.map (·.1) → i ∉ rest.map (·.1) := by
  have hnd := hd.nodup
  rw [← hv.ord] at hnd
  have h2 := List.nodup_append.1 hnd
  refine ⟨(List.pairwise_reverse.1 h2.1).imp (fun hne => hne.symm), fun i hi hr => h2.2.2 i (by simpa using hi) i hr rfl⟩

theorem idxOf_lt_of_hist {α : Type} [BEq α] [LawfulBEq α] {l1 l2 : List α} {x y : α} (hx : x ∈ l1) (hy : y ∉ l1) : (l1 ++ l2).idxOf x < (l1 ++ l2).idxOf y := by
  rw [List.idxOf_append, List.idxOf_append, if_pos hx, if_neg hy]
  have := List.idxOf_lt_length_of_mem hx
  omega

theorem not_mem_of_idxOf_lt {α : Type} [BEq α] [LawfulBEq α] {l1 l2 : List α} {x y : α} (hy : y ∈ l1) (hx : x ∉ l1) (h : (l1 ++ l2).idxOf x < (l1 ++ l2).idxOf y) : False := by
  have := idxOf_lt_of_hist (l2 := l2) hy hx
  omega

/-- What stands in an operation's operands when it runs is what stood there when it was looked at. -/
theorem agree {ops : List Oper} {plan : Plan} {free : List Nat} (hd : DrawOk ops plan free) {listed : Array Bool} {a0 : Fr} {hist l1 l2 : List (Nat × AV)} {i : Nat} (hl : i < ops.length) (hs : ¬ Sof listed i) (hc : ∀ i, Sof listed i → ∀ e, e ∈ edgesOf ops i → Sof listed e)
    (he : ∀ e, e ∈ edgesOf ops i → Sof listed e) (hn : (hist.map (·.1)).Nodup) (hh : hist = l1 ++ l2) (hi2 : i ∉ l2.map (·.1)) (hord : ∃ r, (hist.map (·.1)).reverse ++ r = plan.map (·.1))
    (hpos : ∀ j, j ∈ l1.map (·.1) → j ≠ i → (plan.map (·.1)).idxOf i < (plan.map (·.1)).idxOf j) (hpos2 : ∀ j, j ∈ l2.map (·.1) → (plan.map (·.1)).idxOf j < (plan.map (·.1)).idxOf i) :
    ∀ t, t ∈ tmsOf ops i → frm ops a0 (filt listed hist) t = frm ops a0 l2 t := by
  intro t ht
  have hone : ∀ i j t, gslot ops i = some t → gslot ops j = some t → i = j := fun i j t h1 h2 => hd.one i j t (gslot_lt h1) (gslot_lt h2) h1 h2
  have hpre := pre_in hd hc
  have hn2 : (l2.map (·.1)).Nodup := by rw [hh] at hn; simp only [List.map_append] at hn; exact (List.nodup_append.1 hn).2.1
  refine frm_same hone hn2 fun j v hj => ?_
  rw [mem_filt]
  have hjl := gslot_lt hj
  by_cases hji : j = i
  · subst hji
    exact ⟨fun h => absurd h.2 hs, fun h => absurd (List.mem_map.2 ⟨_, h, rfl⟩) hi2⟩
  · rcases hd.tms i hl t ht j hjl hji hj with ⟨hp, hm⟩ | ⟨hp, hm⟩
    · have hSj := hpre i hl he j hm
      constructor
      · rintro ⟨h1, _⟩
        rw [hh] at h1
        rcases List.mem_append.1 h1 with h1 | h1
        · have := hpos j (List.mem_map.2 ⟨_, h1, rfl⟩) hji
          omega
        · exact h1
      · intro h2
        exact ⟨by rw [hh]; exact List.mem_append_right _ h2, hSj⟩
    · constructor
      · rintro ⟨h1, h2⟩
        have h3 := hpre j hjl (hc j h2) i hm
        exact absurd h3 hs
      · intro h2
        have := hpos2 j (List.mem_map.2 ⟨_, h2, rfl⟩)
        omega

theorem filt_step {ops : List Oper} {plan : Plan} {free : List Nat} (hd : DrawOk ops plan free) {listed : Array Bool} {a0 : Fr} {hist : List (Nat × AV)} {i : Nat} {v : AV} (hil : i < listed.size) (hn : (hist.map (·.1)).Nodup) (hm : (i, v) ∈ hist) :
    frm ops a0 (filt (listed.setIfInBounds i true) hist) = pt (gslot ops i) (frm ops a0 (filt listed hist)) v := by
  have hone : ∀ i j t, gslot ops i = some t → gslot ops j = some t → i = j := fun i j t h1 h2 => hd.one i j t (gslot_lt h1) (gslot_lt h2) h1 h2
  funext t
  have hrhs : pt (gslot ops i) (frm ops a0 (filt listed hist)) v = frm ops a0 ((i, v) :: (filt listed hist).filter fun x => x.1 != i) ∨ True := .inr trivial
  by_cases ht : gslot ops i = some t
  · rw [ht]
    simp only [pt, upd_same]
    rw [frm_find]
    cases hf : (filt (listed.setIfInBounds i true) hist).find? (fun x => gslot ops x.1 == some t) with
    | none =>
      have := List.find?_eq_none.1 hf (i, v) (mem_filt.2 ⟨hm, (Sof_set hil).2 (.inl rfl)⟩)
      simp [ht] at this
    | some y =>
      have hy := (mem_filt.1 (List.mem_of_find?_eq_some hf)).1
      have hq : gslot ops y.1 = some t := by simpa using List.find?_some hf
      obtain ⟨j, v'⟩ := y
      have e : j = i := hone j i t hq ht
      subst e
      exact nodup_val hn hy hm
  · have h1 : pt (gslot ops i) (frm ops a0 (filt listed hist)) v t = frm ops a0 (filt listed hist) t := by
      cases hs : gslot ops i with
      | none => rfl
      | some d => simp only [pt]; rw [upd_ne]; rintro rfl; exact ht hs
    rw [h1]
    refine frm_same hone (filt_nodup hn) fun j u hj => ?_
    rw [mem_filt, mem_filt, Sof_set hil]
    constructor
    · rintro ⟨h2, h3 | h3⟩
      · exact absurd (h3 ▸ hj) ht
      · exact ⟨h2, h3⟩
    · rintro ⟨h2, h3⟩
      exact ⟨h2, .inr h3⟩

theorem unl_lt {N : Nat} {listed : Array Bool} {i : Nat} (hi : i < N) (hil : i < listed.size) (hs : ¬ Sof listed i) : unl N (listed.setIfInBounds i true) < unl N listed := by
  refine countP_lt (i := i) (List.mem_range.2 hi) (fun x hx => ?_) ?_ ?_
  · simp only [Bool.not_eq_true', Bool.not_eq_eq_eq_not, Bool.not_true] at hx ⊢
    by_cases e : x = i
    · subst e
      simp [hil] at hx
    · rwa [getD_set_ne false (Ne.symm e)] at hx
  · simpa [Sof] using hs
  · simp [hil]

/-- Where an operation that has not been looked at runs: all ahead of it are looked at first. -/
theorem absorbs {ops : List Oper} {plan : Plan} {free : List Nat} (hd : DrawOk ops plan free) {K : Fr → Heap → Prop} {a0 : Fr} {S : Nat → Prop} {h : Heap} : ∀ (R1 : Plan) {hist : List (Nat × AV)} {rest : Plan} {done : List (Nat × Fr × AV)},
    Inv P n ops plan K a0 S hist (R1 ++ rest) h done → (∀ x, x ∈ R1 → isEff ops x.1 = false) → ∃ hist' done', Inv P n ops plan K a0 S hist' rest h done' ∧ (∃ l, hist' = l ++ hist)
  | [], hist, rest, done, hv, hp => ⟨hist, done, hv, [], rfl⟩
  | x :: R1, hist, rest, done, hv, hp => by
    obtain ⟨v, done', hv'⟩ := absorb hd (rest := R1 ++ rest) hv (hp x (by simp))
    obtain ⟨hist', done'', h1, l, h2⟩ := absorbs hd R1 hv' (fun y hy => hp y (List.mem_cons_of_mem _ hy))
    exact ⟨hist', done'', h1, l ++ [(x.1, v)], by rw [h2]; simp⟩

theorem find_done {done : List (Nat × Fr × AV)} {j : Nat} {y : Nat × Fr × AV} (h : done.find? (fun x => x.1 == j) = some y) : y.1 = j := by simpa using List.find?_some h

theorem reK_get {ops : List Oper} {done : List (Nat × Fr × AV)} {h : Heap} {j : Nat} {a : Fr} {v : AV} {o : Oper} : ∀ {rs : List Nat}, reK P ops done h rs → j ∈ rs → done.find? (fun x => x.1 == j) = some (j, a, v) → ops[j]? = some o → aop P o.op a h fun v' h' => v' = v ∧ h' = h
  | [], hr, hj, _, _ => by cases hj
  | k :: rs, hr, hj, hf, ho => by
    rcases List.mem_cons.1 hj with e | hj'
    · subst e
      have := hr.1
      simp only [hf, ho] at this
      exact this
    · exact reK_get hr.2 hj' hf ho

theorem draw_pick {ops : Array Oper} {plan : Plan} {free : List Nat} (hd : DrawOk ops.toList plan free) {K : Fr → Heap → Prop} {a0 : Fr} {Q : Exit → Act → World → Prop} {I0 : Nat → Prop} {β0 : Nat → Nat} {h0 : Heap} {w0 : World} (fuel : Nat)
    (listed : Array Bool) (c : Act) (w : World) (I : Nat → Prop) (β : Nat → Nat) (h : Heap) (hist : List (Nat × AV)) (rest : Plan) (done : List (Nat × Fr × AV)) (i : Nat) (hF : i ∉ hist.map (·.1) → ∀ e, e ∈ free → Sof listed e ∨ e = i)
    (ih : ∀ (listed1 : Array Bool) (c : Act) (w : World) (I : Nat → Prop) (β : Nat → Nat) (h1 : Heap) (hist1 : List (Nat × AV)) (rest1 : Plan) (done1 : List (Nat × Fr × AV)), listed1 = listed.setIfInBounds i true → (i ∈ hist.map (·.1) → hist1 = hist ∧ rest1 = rest ∧ done1 = done ∧ h1 = h) → (i ∉ hist.map (·.1) → ∀ e, e ∈ free → Sof listed1 e) →
      unl ops.toList.length listed1 ≤ fuel → listed1.size = ops.toList.length → (∀ i, Sof listed1 i → ∀ e, e ∈ edgesOf ops.toList i → Sof listed1 e) → Ext I0 β0 h0 w0 I β h1 w → Rel I β h1 w → FRel I β h1.length w n (frm ops.toList a0 (filt listed1 hist1)) c →
      Inv P n ops.toList plan K a0 (Sof listed1) hist1 rest1 h1 done1 → wpAny P .any ops Q fuel listed1 c w)
    (hu : unl ops.toList.length listed ≤ fuel + 1) (hsz : listed.size = ops.toList.length) (hc : ∀ i, Sof listed i → ∀ e, e ∈ edgesOf ops.toList i → Sof listed e) (he : Ext I0 β0 h0 w0 I β h w) (hr : Rel I β h w) (hf : FRel I β h.length w n (frm ops.toList a0 (filt listed hist)) c)
    (hv : Inv P n ops.toList plan K a0 (Sof listed) hist rest h done) (hi : i ∈ Region.ready .any ops listed) : wpOp P ops Q i (wpAny P .any ops Q fuel (listed.setIfInBounds i true)) c w := by
  rw [mem_ready] at hi
  obtain ⟨hil0, o, ho, hed⟩ := hi
  have hio : i < ops.size := (Array.getElem?_eq_some_iff.1 ho).1
  have hin : i < ops.toList.length := by simpa using hio
  have hil : i < listed.size := by omega
  have ho' : ops.toList[i]? = some o := by simpa using ho
  have hs : ¬ Sof listed i := by
    unfold Sof
    simp only [Array.getD_eq_getD_getElem?, Array.getElem?_eq_getElem hil, Option.getD_some] at hil0 ⊢
    simp [hil0]
  have hedge : ∀ e, e ∈ edgesOf ops.toList i → Sof listed e := by
    intro e hem
    simp only [edgesOf, ho', List.mem_map, List.mem_filter] at hem
    obtain ⟨x, ⟨h1, h2⟩, rfl⟩ := hem
    exact hed x (by simpa using h1) h2
  have hslot : gslot ops.toList i = o.dst := by simp [gslot, ho']
  have hc' : ∀ j, Sof (listed.setIfInBounds i true) j → ∀ e, e ∈ edgesOf ops.toList j → Sof (listed.setIfInBounds i true) e := by
    intro j hj e hem
    rw [Sof_set hil] at hj ⊢
    rcases hj with rfl | hj
    · exact .inr (hedge e hem)
    · exact .inr (hc j hj e hem)
  have hu' : unl ops.toList.length (listed.setIfInBounds i true) ≤ fuel := by
    have := unl_lt hin hil hs
    omega
  have hF' : i ∉ hist.map (·.1) → ∀ e, e ∈ free → Sof (listed.setIfInBounds i true) e := fun hni e hfe => by
    rw [Sof_set hil]
    exact (hF hni e hfe).elim .inr .inl
  -- one that has been looked at runs
  have looked : ∀ (hist1 : List (Nat × AV)) (rest1 : Plan) (done1 : List (Nat × Fr × AV)), (i ∈ hist.map (·.1) → hist1 = hist ∧ rest1 = rest ∧ done1 = done) → FRel I β h.length w n (frm ops.toList a0 (filt listed hist1)) c → Inv P n ops.toList plan K a0 (Sof listed) hist1 rest1 h done1 → i ∈ hist1.map (·.1) →
      wpOp P ops Q i (wpAny P .any ops Q fuel (listed.setIfInBounds i true)) c w := by
    intro hist1 rest1 done1 heq hf hv hm
    obtain ⟨⟨i', v⟩, hmem, rfl⟩ := List.mem_map.1 hm
    simp only at *
    obtain ⟨l1, l2, hh⟩ := List.append_of_mem hmem
    have hnd := (hv.nodup hd).1
    obtain ⟨o2, ho2, hinb, hval⟩ := hv.val l1 i' v l2 hh hs
    rw [ho'] at ho2
    injection ho2 with ho2
    subst ho2
    have hsplit := hnd
    rw [hh] at hsplit
    simp only [List.map_append, List.map_cons] at hsplit
    have hs3 := List.nodup_append.1 hsplit
    have hs4 := List.nodup_cons.1 hs3.2.1
    have hplan : plan.map (·.1) = (l2.map (·.1)).reverse ++ (i' :: ((l1.map (·.1)).reverse ++ rest1.map (·.1))) := by
      rw [← hv.ord, hh]; simp
    have hag := agree (a0 := a0) (l1 := l1 ++ [(i', v)]) (l2 := l2) hd hin hs hc hedge hnd (by rw [hh]; simp) hs4.1 ⟨_, hv.ord⟩
      (fun j hj hne => by
        rw [hplan]
        have hj1 : j ∈ l1.map (·.1) := by
          simp only [List.map_append, List.mem_append, List.map_cons, List.map_nil, List.mem_singleton] at hj
          exact hj.resolve_right hne
        have hj2 : j ∉ l2.map (·.1) := fun h => hs3.2.2 j hj1 j (List.mem_cons_of_mem _ h) rfl
        have h5 : i' ∉ (l2.map (·.1)).reverse := by simpa using hs4.1
        have h6 : j ∉ (l2.map (·.1)).reverse := by simpa using hj2
        rw [List.idxOf_append, List.idxOf_append, if_neg h5, if_neg h6, List.idxOf_cons_self, List.idxOf_cons, show (i' == j) = false from beq_eq_false_iff_ne.2 (Ne.symm hne)]
        simp only [cond_false]
        omega)
      (fun j hj => by
        rw [hplan]
        exact idxOf_lt_of_hist (by simpa using hj) (by simpa using hs4.1))
    have hgc := gval_congr ho' hag
    have hnext : ∀ (u : AV) (cv : Value) (I' : Nat → Prop) (β' : Nat → Nat) (h' : Heap) (w' : World), (u = v ∧ h' = h) → Ext I β h w I' β' h' w' → Rel I' β' h' w' → VRel I' β' h'.length w' u cv → wpAny P .any ops Q fuel (listed.setIfInBounds i' true) (c.put o.dst cv) w' := by
      rintro u cv I' β' h' w' ⟨rfl, rfl⟩ e1 e2 e3
      refine ih _ _ _ I' β' h' hist1 rest1 done1 rfl (fun hx => ⟨(heq hx).1, (heq hx).2.1, (heq hx).2.2, rfl⟩) hF' hu' (by simpa using hsz) hc' (he.trans e1) e2 ?_ ?_
      · rw [filt_step hd hil hnd hmem, hslot]
        exact (hf.ext hr e1).pt hinb e3
      · refine ⟨hv.ord, hv.sub, hv.run, fun j hj => ?_, fun j hj he => (Sof_set hil).2 (.inr (hv.effs j hj he)), fun a b d f g k => hv.val a b d f g (fun x => k ((Sof_set hil).2 (.inr x))), fun a b d f g k x y => hv.kept a b d f g k (fun z => x ((Sof_set hil).2 (.inr z))) y⟩
        rw [Sof_set hil] at hj
        rcases hj with rfl | hj
        · exact hm
        · exact hv.ran j hj
    rcases hval with ⟨hg, hp, hop⟩ | ⟨hg, rfl, hp⟩
    · refine wpOp_of (h := h) (r := true) ho (by rw [hgc]; exact hg) (fun u h' => u = v ∧ h' = h) (fun _ => aop_sound (aop_congr (fun t ht => (hag t ?_).symm) hop)) (fun e => by cases e) hr hf hnext
      simp only [tmsOf, ho']
      exact List.mem_append_left _ ht
    · exact wpOp_of (h := h) (r := false) ho (by rw [hgc]; exact hg) (fun u h' => u = .undef ∧ h' = h) (fun e => by cases e) (fun _ => ⟨rfl, rfl⟩) hr hf hnext
  by_cases hm : i ∈ hist.map (·.1)
  · exact looked hist rest done (fun _ => ⟨rfl, rfl, rfl⟩) hf hv hm
  · -- it has not been looked at
    have hir : i ∈ rest.map (·.1) := by
      have := hd.all i hin
      rw [← hv.ord] at this
      rcases List.mem_append.1 this with h1 | h1
      · exact absurd (by simpa using h1) hm
      · exact h1
    obtain ⟨⟨i', keep, rs⟩, hmem, rfl⟩ := List.mem_map.1 hir
    simp only at *
    obtain ⟨R1, R2, hR⟩ := List.append_of_mem hmem
    have hpre := pre_in hd hc i' hin hedge
    have hpure : ∀ x, x ∈ R1 → isEff ops.toList x.1 = false := by
      intro x hx
      cases hx2 : isEff ops.toList x.1 with
      | false => rfl
      | true =>
        exfalso
        have hxp : x.1 ∈ plan.map (·.1) := by rw [← hv.ord, hR]; simp only [List.map_append, List.mem_append]; exact .inr (.inl (List.mem_map.2 ⟨_, hx, rfl⟩))
        have hnd := hd.nodup
        have hord : plan.map (·.1) = ((hist.map (·.1)).reverse ++ R1.map (·.1)) ++ (i' :: R2.map (·.1)) := by rw [← hv.ord, hR]; simp
        rw [hord] at hnd
        have h2 := List.nodup_append.1 hnd
        have hlt : (plan.map (·.1)).idxOf x.1 < (plan.map (·.1)).idxOf i' := by
          rw [hord]
          exact idxOf_lt_of_hist (List.mem_append_right _ (List.mem_map.2 ⟨_, hx, rfl⟩)) (fun hmm => h2.2.2 i' hmm i' (by simp) rfl)
        have h3 : x.1 ∈ hist.map (·.1) := by
          rcases hd.eff x.1 (hd.lt _ hxp) hx2 i' hin hlt with h | h
          · exact hv.ran _ (hpre x.1 h)
          · rcases hF hm x.1 h with h | h
            · exact hv.ran _ h
            · rw [h] at hlt; exact absurd hlt (Nat.lt_irrefl _)
        exact (hv.nodup hd).2 _ h3 (by rw [hR]; simp only [List.map_append, List.mem_append]; exact .inl (List.mem_map.2 ⟨_, hx, rfl⟩))
    rw [hR] at hv
    obtain ⟨hist', done', hv', l, hl⟩ := absorbs hd R1 hv hpure
    have hfl : filt listed hist' = filt listed hist := by
      rw [hl]
      unfold filt
      rw [List.filter_append]
      have : l.filter (fun x => listed.getD x.1 false) = [] := by
        rw [List.filter_eq_nil_iff]
        intro y hy hsy
        have h1 := hv.ran y.1 hsy
        have h2 := (hv'.nodup hd).1
        rw [hl] at h2
        simp only [List.map_append] at h2
        exact (List.nodup_append.1 h2).2.2 y.1 (List.mem_map.2 ⟨_, hy, rfl⟩) y.1 h1 rfl
      rw [this]
      rfl
    have hf' : FRel I β h.length w n (frm ops.toList a0 (filt listed hist')) c := by rw [hfl]; exact hf
    cases heff : isEff ops.toList i' with
    | false =>
      obtain ⟨v, done'', hv''⟩ := absorb hd (rest := R2) hv' heff
      refine looked _ _ _ (fun hx => absurd hx hm) ?_ hv'' (by simp)
      have : filt listed ((i', v) :: hist') = filt listed hist' := by
        unfold filt
        rw [List.filter_cons_of_neg]
        exact hs
      rw [this]
      exact hf'
    | true =>
      -- it writes
      have hrun := hv'.run
      simp only [adr, ho'] at hrun
      obtain ⟨r, hg, hk⟩ := guardK_sound hrun
      have hpo : pureOp o.op = false := by simpa [isEff, ho'] using heff
      have hnd := hv'.nodup hd
      have hni : i' ∉ hist'.map (·.1) := fun hh => hnd.2 i' hh (by simp)
      have hag := agree (a0 := a0) (l1 := []) (l2 := hist') hd hin hs hc hedge hnd.1 rfl hni ⟨_, hv'.ord⟩ (fun j hj => by cases hj) (fun j hj => by
        rw [← hv'.ord]
        exact idxOf_lt_of_hist (by simpa using hj) (by simpa using hni))
      have hgc := gval_congr ho' hag
      have hplan : (i', keep, rs) ∈ plan := by obtain ⟨p, hp⟩ := hv'.sub; rw [← hp]; simp
      have hnext : ∀ (u : AV) (cv : Value) (I' : Nat → Prop) (β' : Nat → Nat) (h' : Heap) (w' : World), ((h' = h ∨ reK P ops.toList done' h' rs) ∧ inb n o.dst ∧ adr P n ops.toList R2 (pt o.dst (frm ops.toList a0 hist') u) h' done' K) → Ext I β h w I' β' h' w' → Rel I' β' h' w' → VRel I' β' h'.length w' u cv →
          wpAny P .any ops Q fuel (listed.setIfInBounds i' true) (c.put o.dst cv) w' := by
        rintro u cv I' β' h' w' ⟨hre, hinb, hrest⟩ e1 e2 e3
        refine ih _ _ _ I' β' h' ((i', u) :: hist') R2 done' rfl (fun hx => absurd hx hm) hF' hu' (by simpa using hsz) hc' (he.trans e1) e2 ?_ ?_
        · have h1 : filt (listed.setIfInBounds i' true) ((i', u) :: hist') = (i', u) :: filt listed hist' := by
            unfold filt
            rw [List.filter_cons_of_pos (by simp [hil])]
            congr 1
            apply List.filter_congr
            intro y hy
            rw [getD_set_ne false]
            rintro rfl
            exact hni (List.mem_map.2 ⟨_, hy, rfl⟩)
          rw [h1]
          simp only [frm, hslot]
          exact (hf'.ext hr e1).pt hinb e3
        · refine ⟨by simpa using hv'.ord, by obtain ⟨p, hp⟩ := hv'.sub; exact ⟨p ++ [(i', keep, rs)], by simpa using hp⟩, by simp only [frm, hslot]; exact hrest, fun j hj => ?_, fun j hj hje => ?_, fun l1 j v l2 hl2 hj => ?_, fun l1 j v l2 hl2 hy hj hgv => ?_⟩
          · rw [Sof_set hil] at hj
            rcases hj with rfl | hj
            · simp
            · exact List.mem_cons_of_mem _ (hv'.ran j hj)
          · rw [Sof_set hil]
            rcases List.mem_cons.1 hj with e | hj
            · exact .inl e
            · exact .inr (hv'.effs j hj hje)
          · cases l1 with
            | nil =>
              simp only [List.nil_append, List.cons.injEq, Prod.mk.injEq] at hl2
              exact absurd ((Sof_set hil).2 (.inl hl2.1.1.symm)) hj
            | cons y l1 =>
              simp only [List.cons_append, List.cons.injEq] at hl2
              have hjS : ¬ Sof listed j := fun x => hj ((Sof_set hil).2 (.inr x))
              obtain ⟨oj, hoj, hib, hval⟩ := hv'.val l1 j v l2 hl2.2 hjS
              refine ⟨oj, hoj, hib, ?_⟩
              rcases hval with ⟨hg1, hp1, hop1⟩ | hval
              · refine .inl ⟨hg1, hp1, ?_⟩
                rcases hre with rfl | hre
                · exact hop1
                · cases hq : quietOp oj.op with
                  | true => exact aop_quiet hq (fun u hu => ⟨hu.1, rfl⟩) hop1
                  | false =>
                    have hjm : j ∈ hist'.map (·.1) := by rw [hl2.2]; simp
                    have hjp : j ∈ plan.map (·.1) := by rw [← hv'.ord]; exact List.mem_append_left _ (by simpa using hjm)
                    have hjl := hd.lt j hjp
                    have hle : isEff ops.toList j = false := by simp [isEff, hoj, hp1]
                    have hld : isLoad ops.toList j = true := by simp [isLoad, hoj, hq]
                    have hlt : (plan.map (·.1)).idxOf j < (plan.map (·.1)).idxOf i' := by
                      rw [← hv'.ord]
                      exact idxOf_lt_of_hist (by simpa using hjm) (by simpa using hni)
                    obtain ⟨hjr, hky⟩ := hd.re _ hplan heff j hjl hle hld hlt (fun hin2 => hjS (hpre j hin2))
                    have hfd := hv'.kept l1 j v l2 hl2.2 hky hjS (fun o2 ho2 => by rw [hoj] at ho2; injection ho2 with ho2; subst ho2; exact hg1)
                    exact reK_get hre hjr hfd hoj
              · exact .inr hval
          · cases l1 with
            | nil =>
              simp only [List.nil_append, List.cons.injEq, Prod.mk.injEq] at hl2
              exact absurd ((Sof_set hil).2 (.inl hl2.1.1.symm)) hj
            | cons y l1 =>
              simp only [List.cons_append, List.cons.injEq] at hl2
              exact hv'.kept l1 j v l2 hl2.2 hy (fun x => hj ((Sof_set hil).2 (.inr x))) hgv
      cases r with
      | true =>
        simp only [hpo] at hk
        refine wpOp_of (h := h) (r := true) ho (by rw [hgc]; exact hg) _ (fun _ => aop_sound (aop_congr (fun t ht => (hag t ?_).symm) hk)) (fun e => by cases e) hr hf' (fun u cv I' β' h' w' hk2 => hnext u cv I' β' h' w' ⟨.inr hk2.1, putK_sound hk2.2⟩)
        simp only [tmsOf, ho']
        exact List.mem_append_left _ ht
      | false =>
        exact wpOp_of (h := h) (r := false) ho (by rw [hgc]; exact hg) (fun u h' => u = .undef ∧ h' = h) (fun e => by cases e) (fun _ => ⟨rfl, rfl⟩) hr hf' (fun u cv I' β' h' w' hk2 => hnext u cv I' β' h' w' ⟨.inl hk2.2, by obtain ⟨rfl, rfl⟩ := hk2; exact putK_sound hk⟩)

theorem draw_any {ops : Array Oper} {plan : Plan} {free : List Nat} (hd : DrawOk ops.toList plan free) {K : Fr → Heap → Prop} {a0 : Fr} {Q : Exit → Act → World → Prop} {I0 : Nat → Prop} {β0 : Nat → Nat} {h0 : Heap} {w0 : World}
    (hQ : ∀ a' h' I' β' c' w', K a' h' → Ext I0 β0 h0 w0 I' β' h' w' → Rel I' β' h' w' → FRel I' β' h'.length w' n a' c' → Q .normal c' w') :
    ∀ (fuel : Nat) (listed : Array Bool) (c : Act) (w : World) (I : Nat → Prop) (β : Nat → Nat) (h : Heap) (hist : List (Nat × AV)) (rest : Plan) (done : List (Nat × Fr × AV)), (∀ e, e ∈ free → Sof listed e) →
      unl ops.toList.length listed ≤ fuel → listed.size = ops.toList.length → (∀ i, Sof listed i → ∀ e, e ∈ edgesOf ops.toList i → Sof listed e) → Ext I0 β0 h0 w0 I β h w → Rel I β h w → FRel I β h.length w n (frm ops.toList a0 (filt listed hist)) c →
      Inv P n ops.toList plan K a0 (Sof listed) hist rest h done → wpAny P .any ops Q fuel listed c w := by
  intro fuel
  -- the end
  have fin : ∀ (listed : Array Bool) (c : Act) (w : World) (I : Nat → Prop) (β : Nat → Nat) (h : Heap) (hist : List (Nat × AV)) (rest : Plan) (done : List (Nat × Fr × AV)),
      listed.size = ops.toList.length → (∀ i, i < ops.toList.length → Sof listed i) → Ext I0 β0 h0 w0 I β h w → Rel I β h w → FRel I β h.length w n (frm ops.toList a0 (filt listed hist)) c → Inv P n ops.toList plan K a0 (Sof listed) hist rest h done → Q .normal c w := by
    intro listed c w I β h hist rest done hsz hall he hr hf hv
    have hrest : rest = [] := by
      cases rest with
      | nil => rfl
      | cons x rest =>
        have hx : x.1 ∈ plan.map (·.1) := by rw [← hv.ord]; simp
        have h1 := hv.ran x.1 (hall _ (hd.lt _ hx))
        exact absurd (by simp) ((hv.nodup hd).2 _ h1)
    subst hrest
    have hfl : filt listed hist = hist := by
      unfold filt
      rw [List.filter_eq_self]
      intro y hy
      exact hall _ (hd.lt _ (by rw [← hv.ord]; simp only [List.map_nil, List.append_nil, List.mem_reverse]; exact List.mem_map.2 ⟨_, hy, rfl⟩))
    rw [hfl] at hf
    exact hQ _ _ _ _ _ _ hv.run he hr hf
  have ready_nil : ∀ listed : Array Bool, listed.size = ops.toList.length → Region.ready .any ops listed = [] → ∀ i, i < ops.toList.length → Sof listed i := by
    intro listed hsz hr i
    induction i using Nat.strongRecOn with
    | _ i ih =>
      intro hi
      apply Classical.byContradiction
      intro hs
      have hio : i < ops.size := by simpa using hi
      have : i ∈ Region.ready .any ops listed := by
        rw [mem_ready]
        refine ⟨?_, ops[i], Array.getElem?_eq_getElem hio, fun e he hb => ?_⟩
        · have hil : i < listed.size := by omega
          unfold Sof at hs
          simp only [Array.getD_eq_getD_getElem?, Array.getElem?_eq_getElem hil, Option.getD_some] at hs ⊢
          simpa using hs
        · have hem : e.on ∈ edgesOf ops.toList i := by
            have : ops.toList[i]? = some ops[i] := by simp [hio]
            simp only [edgesOf, this]
            exact List.mem_map.2 ⟨e, List.mem_filter.2 ⟨by simpa using he, hb⟩, rfl⟩
          have := hd.back i hi _ hem
          exact ih _ this (by omega)
      rw [hr] at this
      cases this
  induction fuel with
  | zero =>
    intro listed c w I β h hist rest done hF hu hsz hc he hr hf hv
    have hall : ∀ i, i < ops.toList.length → Sof listed i := by
      intro i hi
      apply Classical.byContradiction
      intro hs
      have := unl_lt hi (by omega) hs
      omega
    refine ⟨?_, fin listed c w I β h hist rest done hsz hall he hr hf hv⟩
    cases hrd : Region.ready .any ops listed with
    | nil => rfl
    | cons i l =>
      have hi : i ∈ Region.ready .any ops listed := by rw [hrd]; simp
      rw [mem_ready] at hi
      obtain ⟨h1, o, h2, _⟩ := hi
      have hio : i < ops.size := (Array.getElem?_eq_some_iff.1 h2).1
      have := hall i (by simpa using hio)
      unfold Sof at this
      have hil : i < listed.size := by rw [hsz]; simpa using hio
      simp only [Array.getD_eq_getD_getElem?, Array.getElem?_eq_getElem hil, Option.getD_some] at this h1
      rw [this] at h1
      cases h1
  | succ fuel ih =>
    intro listed c w I β h hist rest done hF hu hsz hc he hr hf hv
    refine ⟨fun hrd => fin listed c w I β h hist rest done hsz (ready_nil listed hsz hrd) he hr hf hv, fun i hi => ?_⟩
    have hil0 : i < listed.size := by
      have := hi
      rw [mem_ready] at this
      have := (Array.getElem?_eq_some_iff.1 this.2.choose_spec.1).1
      have e : ops.size = ops.toList.length := by simp
      omega
    exact draw_pick hd fuel listed c w I β h hist rest done i (fun _ e hfe => .inl (hF e hfe)) (fun listed1 c1 w1 I1 β1 h1 hist1 rest1 done1 el _ _ => ih listed1 c1 w1 I1 β1 h1 hist1 rest1 done1 (fun e hfe => by rw [el, Sof_set hil0]; exact .inr (hF e hfe))) hu hsz hc he hr hf hv hi

/-- A REGION THAT DRAWS ITS ORDER. -/
theorem draw_sound {ops : Array Oper} {plan : Plan} {id : Nat} (hm : P.follows .mixedOrders = true) (hd : drawChk ops.toList plan = true) {K : Fr → Heap → Prop} {a : Fr} {h : Heap} {Q : Exit → Act → World → Prop} {I : Nat → Prop} {β : Nat → Nat} {w : World} {c : Act}
    (r : Rel I β h w) (f : FRel I β h.length w n a c) (hk : adr P n ops.toList plan a h [] K)
    (hQ : ∀ a' h' I' β' c' w', K a' h' → Ext I β h w I' β' h' w' → Rel I' β' h' w' → FRel I' β' h'.length w' n a' c' → Q .normal c' w') : (Code.region id ops true).wp P Q c w := by
  refine wp_region_any hm ?_
  have hd' := drawOk (free := []) hd
  have hnone : ∀ i, ¬ Sof (Array.replicate ops.size false) i := by
    intro i hi
    unfold Sof at hi
    simp only [Array.getD_eq_getD_getElem?, Array.getElem?_replicate] at hi
    split at hi <;> simp at hi
  refine draw_any (n := n) hd' (a0 := a) hQ ops.size (Array.replicate ops.size false) c { w with drawn := w.drawn + 1 } I β h [] plan [] (fun e he => by cases he) ?_ (by simp) (fun i hi => absurd hi (hnone i)) (Ext.heapEq rfl rfl rfl rfl) (r.heapEq rfl) (f.heapEq rfl) ?_
  · unfold unl
    refine Nat.le_trans List.countP_le_length (by simp)
  · exact ⟨by simp, ⟨[], rfl⟩, hk, fun i hi => absurd hi (hnone i), (fun i hi => by cases hi), (fun l1 i v l2 hl => by cases l1 <;> cases hl), (fun l1 i v l2 hl => by cases l1 <;> cases hl)⟩

end
end Go.AL
end

section
/- Drawn regions with two effects in no order: whichever comes first, one of two plans serves. No condition. -/
namespace Go.AL
set_option linter.unusedVariables false
set_option linter.unusedSimpArgs false
section
variable {P : Program} {n : Nat}
theorem putK_imp0 {a : Fr} {dst : Option Tmp} {v : AV} {K K' : Fr → Prop} (hK : ∀ a, K a → K' a) (hk : putK n dst a v K) : putK n dst a v K' := by
  cases dst with
  | none => exact hK _ hk
  | some d => exact ⟨hk.1, hK _ hk.2⟩
theorem guardK_imp0 {a : Fr} {ops : List Oper} {g : Option (Nat × Bool)} {K K' : Bool → Prop} (hK : ∀ b, K b → K' b) (hk : guardK ops g a K) : guardK ops g a K' := by
  cases g with
  | none => exact hK _ hk
  | some x =>
    obtain ⟨j, want⟩ := x
    simp only [guardK] at hk ⊢
    cases hs : gslot ops j with
    | none => simp [hs] at hk
    | some t =>
      simp only [hs] at hk ⊢
      cases ha : a t with
      | bool b => simp only [ha] at hk ⊢; exact ⟨fun e => hK _ (hk.1 e), fun e => hK _ (hk.2 e)⟩
      | tup l => cases l with
        | nil => simp only [ha] at hk ⊢; exact hK _ hk
        | cons _ _ => simp [ha] at hk
      | _ => simp [ha] at hk
theorem draw_two {ops : Array Oper} {plan1 plan2 : Plan} {A B : Nat} (hd1 : DrawOk ops.toList plan1 [A]) (hd2 : DrawOk ops.toList plan2 [B]) {K : Fr → Heap → Prop} {a0 : Fr} {Q : Exit → Act → World → Prop} {I0 : Nat → Prop} {β0 : Nat → Nat} {h0 : Heap} {w0 : World}
    (hQ : ∀ a' h' I' β' c' w', K a' h' → Ext I0 β0 h0 w0 I' β' h' w' → Rel I' β' h' w' → FRel I' β' h'.length w' n a' c' → Q .normal c' w') (hA : A < ops.toList.length) :
    ∀ (fuel : Nat) (listed : Array Bool) (c : Act) (w : World) (I : Nat → Prop) (β : Nat → Nat) (h : Heap) (hist : List (Nat × AV)) (rest1 rest2 : Plan) (done : List (Nat × Fr × AV)),
      (∀ i, i < ops.toList.length → i ∉ hist.map (·.1) → i = A ∨ i = B ∨ A ∈ (presOf ops.toList).getD i [] ∨ B ∈ (presOf ops.toList).getD i []) → A ∉ hist.map (·.1) → B ∉ hist.map (·.1) →
      unl ops.toList.length listed ≤ fuel → listed.size = ops.toList.length → (∀ i, Sof listed i → ∀ e, e ∈ edgesOf ops.toList i → Sof listed e) → Ext I0 β0 h0 w0 I β h w → Rel I β h w → FRel I β h.length w n (frm ops.toList a0 (filt listed hist)) c →
      Inv P n ops.toList plan1 K a0 (Sof listed) hist rest1 h done → Inv P n ops.toList plan2 K a0 (Sof listed) hist rest2 h done → wpAny P .any ops Q fuel listed c w := by
  intro fuel
  have ready_nil : ∀ listed : Array Bool, listed.size = ops.toList.length → Region.ready .any ops listed = [] → ∀ i, i < ops.toList.length → Sof listed i := by
    intro listed hsz hr i
    induction i using Nat.strongRecOn with
    | _ i ih =>
      intro hi
      apply Classical.byContradiction
      intro hs
      have hio : i < ops.size := by simpa using hi
      have : i ∈ Region.ready .any ops listed := by
        rw [mem_ready]
        refine ⟨?_, ops[i], Array.getElem?_eq_getElem hio, fun e he hb => ?_⟩
        · have hil : i < listed.size := by omega
          unfold Sof at hs
          simp only [Array.getD_eq_getD_getElem?, Array.getElem?_eq_getElem hil, Option.getD_some] at hs ⊢
          simpa using hs
        · have hem : e.on ∈ edgesOf ops.toList i := by
            have : ops.toList[i]? = some ops[i] := by simp [hio]
            simp only [edgesOf, this]
            exact List.mem_map.2 ⟨e, List.mem_filter.2 ⟨by simpa using he, hb⟩, rfl⟩
          have := hd1.back i hi _ hem
          exact ih _ this (by omega)
      rw [hr] at this
      cases this
  induction fuel with
  | zero =>
    intro listed c w I β h hist rest1 rest2 done hcond hnA hnB hu hsz hc he hr hf hv1 hv2
    exfalso
    apply hnA
    apply hv1.ran
    apply Classical.byContradiction
    intro hs
    have := unl_lt hA (by omega) hs
    omega
  | succ fuel ih =>
    intro listed c w I β h hist rest1 rest2 done hcond hnA hnB hu hsz hc he hr hf hv1 hv2
    refine ⟨fun hrd => absurd (hv1.ran _ (ready_nil listed hsz hrd A hA)) hnA, fun i hi => ?_⟩
    have hi' := hi
    rw [mem_ready] at hi'
    obtain ⟨hil0, o, ho, hed⟩ := hi'
    have hio : i < ops.size := (Array.getElem?_eq_some_iff.1 ho).1
    have hin : i < ops.toList.length := by simpa using hio
    have hil : i < listed.size := by omega
    by_cases hm : i ∈ hist.map (·.1)
    · refine draw_pick hd1 fuel listed c w I β h hist rest1 done i (fun hx => absurd hm hx) (fun listed1 c1 w1 I1 β1 h1 hist1 r1 done1 el heq _ hu1 hsz1 hc1 he1 hr1 hf1 hv1' => ?_) hu hsz hc he hr hf hv1 hi
      obtain ⟨rfl, rfl, rfl, rfl⟩ := heq hm
      subst el
      refine ih _ c1 w1 I1 β1 _ _ _ rest2 _ hcond hnA hnB hu1 hsz1 hc1 he1 hr1 hf1 hv1' ?_
      refine ⟨hv2.ord, hv2.sub, hv2.run, fun j hj => ?_, fun j hj he => (Sof_set hil).2 (.inr (hv2.effs j hj he)), fun a b d f g k => hv2.val a b d f g (fun x => k ((Sof_set hil).2 (.inr x))), fun a b d f g k x y => hv2.kept a b d f g k (fun z => x ((Sof_set hil).2 (.inr z))) y⟩
      rw [Sof_set hil] at hj
      rcases hj with rfl | hj
      · exact hm
      · exact hv2.ran j hj
    · have hedge : ∀ e, e ∈ edgesOf ops.toList i → Sof listed e := by
        intro e hem
        have ho' : ops.toList[i]? = some o := by simpa using ho
        simp only [edgesOf, ho', List.mem_map, List.mem_filter] at hem
        obtain ⟨x, ⟨h1, h2⟩, rfl⟩ := hem
        exact hed x (by simpa using h1) h2
      rcases hcond i hin hm with rfl | rfl | hp | hp
      · exact draw_pick hd1 fuel listed c w I β h hist rest1 done i (fun _ e he => .inr (List.mem_singleton.1 he)) (fun listed1 c1 w1 I1 β1 h1 hist1 r1 done1 el _ hF1 => draw_any hd1 hQ fuel listed1 c1 w1 I1 β1 h1 hist1 r1 done1 (hF1 hm)) hu hsz hc he hr hf hv1 hi
      · exact draw_pick hd2 fuel listed c w I β h hist rest2 done i (fun _ e he => .inr (List.mem_singleton.1 he)) (fun listed1 c1 w1 I1 β1 h1 hist1 r1 done1 el _ hF1 => draw_any hd2 hQ fuel listed1 c1 w1 I1 β1 h1 hist1 r1 done1 (hF1 hm)) hu hsz hc he hr hf hv2 hi
      · exact absurd (hv1.ran _ (pre_in hd1 hc i hin hedge A hp)) hnA
      · exact absurd (hv1.ran _ (pre_in hd1 hc i hin hedge B hp)) hnB

def keep0 (keep : Bool) (x : Nat × Fr × AV) (l : List (Nat × Fr × AV)) : List (Nat × Fr × AV) := match keep with | true => x :: l | false => l
/-- One more of a plan is looked at, its value known. -/
theorem absorb_v {ops : List Oper} {plan : Plan} {free : List Nat} (hd : DrawOk ops plan free) {K : Fr → Heap → Prop} {a0 : Fr} {S : Nat → Prop} {hist : List (Nat × AV)} {i : Nat} {keep : Bool} {rs : List Nat} {rest : Plan} {h : Heap} {done done' : List (Nat × Fr × AV)}
    (hv : Inv P n ops plan K a0 S hist ((i, keep, rs) :: rest) h done) {o : Oper} (ho : ops[i]? = some o) (hp : isEff ops i = false) (v : AV) (hrun : adr P n ops rest (pt o.dst (frm ops a0 hist) v) h done' K) (hval : Valid P n ops i (frm ops a0 hist) v h)
    (hdone : (gval ops o.guard (frm ops a0 hist) = some true → done' = keep0 keep (i, frm ops a0 hist, v) done) ∧ (done' = keep0 keep (i, frm ops a0 hist, v) done ∨ done' = done)) :
    Inv P n ops plan K a0 S ((i, v) :: hist) rest h done' := by
  have hslot : gslot ops i = o.dst := by simp [gslot, ho]
  have hplan : (i, keep, rs) ∈ plan := by obtain ⟨p, hp⟩ := hv.sub; rw [← hp]; simp
  have hni : i ∉ hist.map (·.1) := by
    have hnd := hd.nodup
    rw [← hv.ord] at hnd
    have h2 := List.nodup_append.1 hnd
    intro hm
    exact h2.2.2 i (by simpa using hm) i (by simp) rfl
  refine ⟨by simpa using hv.ord, by obtain ⟨p, hp⟩ := hv.sub; exact ⟨p ++ [(i, keep, rs)], by simpa using hp⟩, by simp only [frm, hslot]; exact hrun, fun j hj => List.mem_cons_of_mem _ (hv.ran j hj), fun j hj he => ?_, fun l1 j u l2 hl hj => ?_, fun l1 j u l2 hl hy hj hgv => ?_⟩
  · rcases List.mem_cons.1 hj with e | hj
    · rw [e] at he
      simp only at he
      rw [hp] at he
      cases he
    · exact hv.effs j hj he
  · cases l1 with
    | nil =>
      simp only [List.nil_append, List.cons.injEq, Prod.mk.injEq] at hl
      obtain ⟨⟨rfl, rfl⟩, rfl⟩ := hl
      exact hval
    | cons y l1 =>
      simp only [List.cons_append, List.cons.injEq] at hl
      exact hv.val l1 j u l2 hl.2 hj
  · cases l1 with
    | nil =>
      simp only [List.nil_append, List.cons.injEq, Prod.mk.injEq] at hl
      obtain ⟨⟨rfl, rfl⟩, rfl⟩ := hl
      obtain ⟨y, hy, hy1, hy2⟩ := hy
      have key : ∀ (l : Plan), (l.map (·.1)).Nodup → ∀ y z, y ∈ l → z ∈ l → y.1 = z.1 → y = z := by
        intro l
        induction l with
        | nil => intro _ y z hy; cases hy
        | cons a l ih =>
          intro hn y z hy hz e
          simp only [List.map_cons, List.nodup_cons] at hn
          rcases List.mem_cons.1 hy with e1 | k1 <;> rcases List.mem_cons.1 hz with e2 | k2
          · rw [e1, e2]
          · subst e1; exact absurd (List.mem_map.2 ⟨z, k2, e.symm⟩) hn.1
          · subst e2; exact absurd (List.mem_map.2 ⟨y, k1, e⟩) hn.1
          · exact ih hn.2 y z k1 k2 e
      have := key plan hd.nodup y _ hy hplan hy1
      rw [this] at hy2
      simp only at hy2
      rw [hdone.1 (hgv o ho), hy2]
      simp [keep0]
    | cons y l1 =>
      simp only [List.cons_append, List.cons.injEq] at hl
      have hne : j ≠ i := by
        rintro rfl
        exact hni (by rw [hl.2]; simp)
      have h4 : done'.find? (fun x => x.1 == j) = done.find? (fun x => x.1 == j) := by
        rcases hdone.2 with e | e
        · rw [e]
          cases keep with
          | false => rfl
          | true => simp [keep0, List.find?_cons, show (i == j) = false from beq_eq_false_iff_ne.2 (Ne.symm hne)]
        · rw [e]
      rw [h4]
      exact hv.kept l1 j u l2 hl.2 hy hj hgv

/-- The quiet beginning of a plan; what was kept is handed on. -/
def adrX (P : Program) (n : Nat) (all : List Oper) : Plan → Fr → Heap → List (Nat × Fr × AV) → (Fr → List (Nat × Fr × AV) → Prop) → Prop
  | [], a, h, done, K => K a done
  | (i, keep, _) :: rest, a, h, done, K => (match all[i]? with
    | none => False
    | some o => guardK all o.guard a fun run => match run with
      | true => ∃ v, aop P o.op a h (fun v' h' => v' = v ∧ h' = h) ∧ putK n o.dst a v fun a' => adrX P n all rest a' h (keep0 keep (i, a, v) done) K
      | false => putK n o.dst a .undef fun a' => adrX P n all rest a' h done K)
def plain1 (ops : List Oper) (x : Nat × Bool × List Nat) : Bool := !isEff ops x.1
theorem adr_app {ops : List Oper} {K : Fr → Heap → Prop} {tail : Plan} {h : Heap} : ∀ (p : Plan) (a : Fr) (done : List (Nat × Fr × AV)), p.all (plain1 ops) = true → adrX P n ops p a h done (fun a' done' => adr P n ops tail a' h done' K) → adr P n ops (p ++ tail) a h done K
  | [], a, done, _, hk => hk
  | (i, keep, rs) :: p, a, done, hp, hk => by
    simp only [List.all_cons, Bool.and_eq_true] at hp
    obtain ⟨hpe, hp2⟩ := hp
    simp only [plain1, Bool.not_eq_true'] at hpe
    simp only [List.cons_append]
    unfold adrX at hk
    unfold adr
    cases ho : ops[i]? with
    | none => rw [ho] at hk; exact hk.elim
    | some o =>
      rw [ho] at hk
      have hpo : pureOp o.op = true := by simpa [isEff, ho] using hpe
      refine guardK_imp0 (fun b hb => ?_) hk
      cases b with
      | true =>
        simp only [hpo] at hb ⊢
        obtain ⟨v, h1, h2⟩ := hb
        exact ⟨v, h1, putK_imp0 (fun a' h3 => adr_app p a' _ hp2 h3) h2⟩
      | false => exact putK_imp0 (fun a' h3 => adr_app p a' done hp2 h3) hb
theorem adrX_mono {ops : List Oper} {h : Heap} {K K' : Fr → List (Nat × Fr × AV) → Prop} (hK : ∀ a d, K a d → K' a d) : ∀ (p : Plan) (a : Fr) (done : List (Nat × Fr × AV)), adrX P n ops p a h done K → adrX P n ops p a h done K'
  | [], a, done, hk => hK _ _ hk
  | (i, keep, rs) :: p, a, done, hk => by
    unfold adrX at hk ⊢
    cases ho : ops[i]? with
    | none => rw [ho] at hk; exact hk.elim
    | some o =>
      rw [ho] at hk
      refine guardK_imp0 (fun b hb => ?_) hk
      cases b with
      | true =>
        obtain ⟨v, h1, h2⟩ := hb
        exact ⟨v, h1, putK_imp0 (fun a' h3 => adrX_mono hK p a' _ h3) h2⟩
      | false => exact putK_imp0 (fun a' h3 => adrX_mono hK p a' done h3) hb
theorem pre_absorb {ops : List Oper} {plan1 plan2 tail1 tail2 : Plan} {free1 free2 : List Nat} (hd1 : DrawOk ops plan1 free1) (hd2 : DrawOk ops plan2 free2) {K : Fr → Heap → Prop} {a0 : Fr} {S : Nat → Prop} {h : Heap} : ∀ (p : Plan) (hist : List (Nat × AV)) (done : List (Nat × Fr × AV)), p.all (plain1 ops) = true →
    adrX P n ops p (frm ops a0 hist) h done (fun a' d => adr P n ops tail1 a' h d K ∧ adr P n ops tail2 a' h d K) → Inv P n ops plan1 K a0 S hist (p ++ tail1) h done → Inv P n ops plan2 K a0 S hist (p ++ tail2) h done →
    ∃ l d, Inv P n ops plan1 K a0 S (l ++ hist) tail1 h d ∧ Inv P n ops plan2 K a0 S (l ++ hist) tail2 h d ∧ l.map (·.1) = (p.map (·.1)).reverse
  | [], hist, done, _, _, hv1, hv2 => ⟨[], done, hv1, hv2, rfl⟩
  | (i, keep, rs) :: p, hist, done, hp, hk, hv1, hv2 => by
    simp only [List.all_cons, Bool.and_eq_true] at hp
    obtain ⟨hpe, hp2⟩ := hp
    simp only [plain1, Bool.not_eq_true'] at hpe
    simp only [List.cons_append] at hv1 hv2
    unfold adrX at hk
    cases ho : ops[i]? with
    | none => rw [ho] at hk; exact hk.elim
    | some o =>
      rw [ho] at hk
      have hpo : pureOp o.op = true := by simpa [isEff, ho] using hpe
      have hslot : gslot ops i = o.dst := by simp [gslot, ho]
      obtain ⟨r, hg, hk⟩ := guardK_sound hk
      have go : ∀ v done', inb n o.dst → adrX P n ops p (pt o.dst (frm ops a0 hist) v) h done' (fun a' d => adr P n ops tail1 a' h d K ∧ adr P n ops tail2 a' h d K) → Valid P n ops i (frm ops a0 hist) v h →
          ((gval ops o.guard (frm ops a0 hist) = some true → done' = keep0 keep (i, frm ops a0 hist, v) done) ∧ (done' = keep0 keep (i, frm ops a0 hist, v) done ∨ done' = done)) →
          ∃ l d, Inv P n ops plan1 K a0 S (l ++ hist) tail1 h d ∧ Inv P n ops plan2 K a0 S (l ++ hist) tail2 h d ∧ l.map (·.1) = (((i, keep, rs) :: p).map (·.1)).reverse := by
        intro v done' hinb hrun hval hdn
        have w1 := absorb_v hd1 hv1 ho hpe v (adr_app p _ _ hp2 (adrX_mono (fun a' d x => x.1) p _ _ hrun)) hval hdn
        have w2 := absorb_v hd2 hv2 ho hpe v (adr_app p _ _ hp2 (adrX_mono (fun a' d x => x.2) p _ _ hrun)) hval hdn
        obtain ⟨l, d, q1, q2, q3⟩ := pre_absorb hd1 hd2 p ((i, v) :: hist) done' hp2 (by simp only [frm, hslot]; exact hrun) w1 w2
        exact ⟨l ++ [(i, v)], d, by simpa using q1, by simpa using q2, by simp [q3]⟩
      cases r with
      | true =>
        obtain ⟨v, h1, h2⟩ := hk
        have h3 := putK_sound h2
        exact go v _ h3.1 h3.2 ⟨o, ho, h3.1, .inl ⟨hg, hpo, h1⟩⟩ ⟨fun _ => rfl, .inl rfl⟩
      | false =>
        have h3 := putK_sound hk
        exact go .undef _ h3.1 h3.2 ⟨o, ho, h3.1, .inr ⟨hg, rfl, hpo⟩⟩ ⟨fun e => (by rw [hg] at e; cases e), .inr rfl⟩

def twoChk (ops : List Oper) (pre tail1 tail2 : Plan) : Bool :=
  match tail1, tail2 with
  | (A, _, _) :: _, (B, _, _) :: _ => drawChkF ops (pre ++ tail1) [A] && drawChkF ops (pre ++ tail2) [B] && pre.all (plain1 ops) && decide (A < ops.length) && decide (A ∉ pre.map (·.1)) && decide (B ∉ pre.map (·.1)) &&
      (List.range ops.length).all fun i => (pre.map (·.1)).contains i || decide (i = A) || decide (i = B) || ((presOf ops).getD i []).contains A || ((presOf ops).getD i []).contains B
  | _, _ => false
theorem draw2_sound {ops : Array Oper} {pre tail1 tail2 : Plan} {id : Nat} (hm : P.follows .mixedOrders = true) (hd : twoChk ops.toList pre tail1 tail2 = true) {K : Fr → Heap → Prop} {a : Fr} {h : Heap} {Q : Exit → Act → World → Prop} {I : Nat → Prop} {β : Nat → Nat} {w : World} {c : Act}
    (r : Rel I β h w) (f : FRel I β h.length w n a c) (hk : adrX P n ops.toList pre a h [] fun a' d => adr P n ops.toList tail1 a' h d K ∧ adr P n ops.toList tail2 a' h d K)
    (hQ : ∀ a' h' I' β' c' w', K a' h' → Ext I β h w I' β' h' w' → Rel I' β' h' w' → FRel I' β' h'.length w' n a' c' → Q .normal c' w') : (Code.region id ops true).wp P Q c w := by
  refine wp_region_any hm ?_
  unfold twoChk at hd
  split at hd
  · rename_i A _ _ t1 B _ _ t2
    simp only [Bool.and_eq_true, decide_eq_true_eq, List.all_eq_true, List.mem_range, Bool.or_eq_true, List.contains_iff_mem] at hd
    obtain ⟨⟨⟨⟨⟨⟨hd1, hd2⟩, hp⟩, hA⟩, hnA⟩, hnB⟩, hcond⟩ := hd
    have hp' : pre.all (plain1 ops.toList) = true := by rw [List.all_eq_true]; exact hp
    have hd1' := drawOk hd1
    have hd2' := drawOk hd2
    have hnone : ∀ i, ¬ Sof (Array.replicate ops.size false) i := by
      intro i hi
      unfold Sof at hi
      simp only [Array.getD_eq_getD_getElem?, Array.getElem?_replicate] at hi
      split at hi <;> simp at hi
    have start : ∀ (pl : Plan), adr P n ops.toList pl a h [] K → Inv P n ops.toList pl K a (Sof (Array.replicate ops.size false)) [] pl h [] := fun pl hr =>
      ⟨by simp, ⟨[], rfl⟩, hr, fun i hi => absurd hi (hnone i), (fun i hi => by cases hi), (fun l1 i v l2 hl => by cases l1 <;> cases hl), (fun l1 i v l2 hl => by cases l1 <;> cases hl)⟩
    obtain ⟨l, d, q1, q2, q3⟩ := pre_absorb (S := Sof (Array.replicate ops.size false)) hd1' hd2' (a0 := a) pre [] [] hp' hk (start _ (adr_app pre a [] hp' (adrX_mono (fun a' d x => x.1) pre a [] hk))) (start _ (adr_app pre a [] hp' (adrX_mono (fun a' d x => x.2) pre a [] hk)))
    simp only [List.append_nil] at q1 q2
    have hmem : ∀ i, i ∈ l.map (·.1) ↔ i ∈ pre.map (·.1) := fun i => by rw [q3]; simp
    have hfl : filt (Array.replicate ops.size false) l = [] := by
      unfold filt
      rw [List.filter_eq_nil_iff]
      intro y hy hsy
      exact hnone y.1 hsy
    refine draw_two (n := n) hd1' hd2' (a0 := a) hQ hA ops.size (Array.replicate ops.size false) c { w with drawn := w.drawn + 1 } I β h l _ _ d (fun i hi hni => ?_) (fun x => hnA ((hmem A).1 x)) (fun x => hnB ((hmem B).1 x)) ?_ (by simp) (fun i hi => absurd hi (hnone i)) (Ext.heapEq rfl rfl rfl rfl) (r.heapEq rfl) ?_ q1 q2
    · rcases hcond i hi with (((x | x) | x) | x) | x
      · exact absurd ((hmem i).2 x) hni
      · exact .inl x
      · exact .inr (.inl x)
      · exact .inr (.inr (.inl x))
      · exact .inr (.inr (.inr x))
    · unfold unl
      refine Nat.le_trans List.countP_le_length (by simp)
    · rw [hfl]; exact f.heapEq rfl
  · cases hd

/-- A plan, or two with one beginning: the mark tells how long the parts are. -/
def twoOf : Plan → Option (Plan × Plan × Plan)
  | (i, _, [p, q]) :: rest => if i = 1000000 then some (rest.take p, (rest.drop p).take q, rest.drop (p + q)) else none
  | _ => none
def adrD (P : Program) (n : Nat) (ops : List Oper) (plan : Plan) (a : Fr) (h : Heap) (K : Fr → Heap → Prop) : Prop :=
  match twoOf plan with
  | none => adr P n ops plan a h [] K
  | some (p, t1, t2) => adrX P n ops p a h [] fun a' d => adr P n ops t1 a' h d K ∧ adr P n ops t2 a' h d K
def drawChkD (ops : List Oper) (plan : Plan) : Bool :=
  match twoOf plan with
  | none => drawChk ops plan
  | some (p, t1, t2) => twoChk ops p t1 t2
theorem drawD_sound {ops : Array Oper} {plan : Plan} {id : Nat} (hm : P.follows .mixedOrders = true) (hd : drawChkD ops.toList plan = true) {K : Fr → Heap → Prop} {a : Fr} {h : Heap} {Q : Exit → Act → World → Prop} {I : Nat → Prop} {β : Nat → Nat} {w : World} {c : Act}
    (r : Rel I β h w) (f : FRel I β h.length w n a c) (hk : adrD P n ops.toList plan a h K)
    (hQ : ∀ a' h' I' β' c' w', K a' h' → Ext I β h w I' β' h' w' → Rel I' β' h' w' → FRel I' β' h'.length w' n a' c' → Q .normal c' w') : (Code.region id ops true).wp P Q c w := by
  unfold adrD at hk
  unfold drawChkD at hd
  cases ht : twoOf plan with
  | none => rw [ht] at hk hd; exact draw_sound hm hd r f hk hQ
  | some x => obtain ⟨p, t1, t2⟩ := x; rw [ht] at hk hd; exact draw2_sound hm hd r f hk hQ
end
end Go.AL
end
