/- Buckets: lists of numbers, each in an object of its own. No condition. -/
import Derived.Test.YtgdlkhgfehclpaaPOs
namespace Go.Proofs.Ytgdlkhgfehclpaa
open Go Go.AL
set_option linter.unusedVariables false
set_option linter.unusedSimpArgs false
def idOf : AV → Option Nat
  | .osl id _ _ _ _ _ => some id
  | _ => none
/-- A slice that lies in an object of its own, or none. -/
def BC (F : Nat → Prop) (h : Heap) (x : AV) (l : List Int) : Prop :=
  (x = .nils ∧ l = []) ∨ ∃ id len cap ex es ex', x = .osl id 1 0 len cap ex ∧ ¬ F id ∧ h[id]? = some (.arr 1 (List.map intE es) ex') ∧ len ≤ cap ∧ cap ≤ es.length ∧ es.length < 1000000 ∧ es.take len = l
structure PS (F : Nat → Prop) (n : Nat) (h : Heap) (cells : List (List AV)) (B : Nat → List Int) : Prop where
  fix : ∀ i : Nat, F i → i < h.length
  len : cells.length = n + 1
  bc : ∀ d : Nat, d ≤ n → ∃ x, cells[d]? = some [x] ∧ BC F h x (B d)
  dj : ∀ (d d' : Nat) (x y : AV) (i : Nat), d ≠ d' → cells[d]? = some [x] → cells[d']? = some [y] → idOf x = some i → idOf y ≠ some i
def updB (B : Nat → List Int) (d : Nat) (l : List Int) : Nat → List Int := fun e => if e = d then l else B e
theorem updB_same {B : Nat → List Int} {d : Nat} {l : List Int} : updB B d l d = l := if_pos rfl
theorem updB_ne {B : Nat → List Int} {d e : Nat} {l : List Int} (h : e ≠ d) : updB B d l e = B e := if_neg h
theorem BC.keep {F F' : Nat → Prop} {h h' : Heap} {x : AV} {l : List Int} (hb : BC F h x l) (hh : ∀ id, idOf x = some id → id < h.length → ¬ F id → ¬ F' id ∧ h'[id]? = h[id]?) : BC F' h' x l := by
  rcases hb with hb | ⟨id, len, cap, ex, es, ex', rfl, h1, h2, h3⟩
  · exact .inl hb
  · obtain ⟨q1, q2⟩ := hh _ rfl (List.getElem?_eq_some_iff.1 h2).1 h1
    exact .inr ⟨id, len, cap, ex, es, ex', rfl, q1, by rw [q2]; exact h2, h3⟩
theorem BC.lt {F : Nat → Prop} {h : Heap} {x : AV} {l : List Int} (hb : BC F h x l) {id : Nat} (e : idOf x = some id) : id < h.length ∧ ¬ F id := by
  rcases hb with ⟨rfl, _⟩ | ⟨id, len, cap, ex, es, ex', rfl, h1, h2, h3⟩
  · cases e
  · cases e
    exact ⟨(List.getElem?_eq_some_iff.1 h2).1, h1⟩
theorem PS.mono {F F' : Nat → Prop} {n : Nat} {h : Heap} {cells : List (List AV)} {B : Nat → List Int} (p : PS F n h cells B) (hF : ∀ i, F' i → F i) : PS F' n h cells B :=
  ⟨fun i hi => p.fix i (hF i hi), p.len, fun d hd => by
    obtain ⟨x, h1, h2⟩ := p.bc d hd
    exact ⟨x, h1, h2.keep fun id _ _ hn => ⟨fun e => hn (hF _ e), rfl⟩⟩, p.dj⟩
/-- What is none of the buckets may be written, and more may be laid behind. -/
theorem PS.keep {F : Nat → Prop} {n : Nat} {h h' : Heap} {cells : List (List AV)} {B : Nat → List Int} (p : PS F n h cells B) (hl : h.length ≤ h'.length) (hh : ∀ i, i < h.length → ¬ F i → h'[i]? = h[i]?) : PS F n h' cells B :=
  ⟨fun i hi => Nat.lt_of_lt_of_le (p.fix i hi) hl, p.len, fun d hd => by
    obtain ⟨x, h1, h2⟩ := p.bc d hd
    exact ⟨x, h1, h2.keep fun id _ hlt hn => ⟨hn, hh id hlt hn⟩⟩, p.dj⟩
theorem PS.set {F : Nat → Prop} {n : Nat} {h : Heap} {cells : List (List AV)} {B : Nat → List Int} (p : PS F n h cells B) {i : Nat} (hi : F i) (o : Ob) : PS F n (h.set i o) cells B :=
  p.keep (by simp) fun j _ hj => List.getElem?_set_ne (fun e => hj (by rw [← e]; exact hi))
theorem PS.app {F : Nat → Prop} {n : Nat} {h : Heap} {cells : List (List AV)} {B : Nat → List Int} (p : PS F n h cells B) (l : Heap) : PS F n (h ++ l) cells B :=
  p.keep (by simp) fun j hj _ => List.getElem?_append_left hj
/-- New objects that no bucket may be. -/
theorem PS.more {F F' : Nat → Prop} {n : Nat} {h h' : Heap} {cells : List (List AV)} {B : Nat → List Int} (p : PS F n h cells B) (hh : ∀ i, i < h.length → h'[i]? = h[i]?) (hl : h.length ≤ h'.length) (hF : ∀ i, F' i → F i ∨ (h.length ≤ i ∧ i < h'.length)) : PS F' n h' cells B :=
  ⟨fun i hi => by
    rcases hF i hi with h1 | h1
    · have := p.fix i h1; omega
    · exact h1.2, p.len, fun d hd => by
    obtain ⟨x, h1, h2⟩ := p.bc d hd
    refine ⟨x, h1, h2.keep fun id _ hlt hn => ⟨fun e => ?_, hh id hlt⟩⟩
    rcases hF id e with h3 | h3
    · exact hn h3
    · omega, p.dj⟩
/-- One bucket turned. -/
theorem PS.turn {F : Nat → Prop} {n : Nat} {h h' : Heap} {cells : List (List AV)} {B : Nat → List Int} (p : PS F n h cells B) {d : Nat} (hd : d ≤ n) {x x' : AV} {l' : List Int} (hx : cells[d]? = some [x]) (hl : h.length ≤ h'.length) (hk : ∀ i, i < h.length → idOf x ≠ some i → h'[i]? = h[i]?)
    (hb : BC F h' x' l') (hid : ∀ i, idOf x' = some i → idOf x = some i ∨ h.length ≤ i) : PS F n h' (cells.set d [x']) (updB B d l') := by
  have hdl : d < cells.length := by rw [p.len]; omega
  have old : ∀ {e y}, e ≠ d → (cells.set d [x'])[e]? = some [y] → cells[e]? = some [y] := fun he hy => by rwa [List.getElem?_set_ne (Ne.symm he)] at hy
  have here : ∀ {y}, (cells.set d [x'])[d]? = some [y] → y = x' := fun hy => by
    rw [List.getElem?_set_self hdl] at hy
    simp at hy
    exact hy.symm
  have lt : ∀ {e y i}, cells[e]? = some [y] → idOf y = some i → i < h.length := fun {e y i} hy hi => by
    have hle : e ≤ n := by
      have := (List.getElem?_eq_some_iff.1 hy).1
      rw [p.len] at this
      omega
    obtain ⟨z, h1, h2⟩ := p.bc e hle
    rw [hy] at h1
    simp at h1
    subst h1
    exact (h2.lt hi).1
  refine ⟨fun i hi => Nat.lt_of_lt_of_le (p.fix i hi) hl, by simp [p.len], fun e he => ?_, fun e e' y z i hee hy hz hi hz2 => ?_⟩
  · by_cases hed : e = d
    · subst hed
      exact ⟨x', List.getElem?_set_self hdl, by rw [updB_same]; exact hb⟩
    · obtain ⟨y, h1, h2⟩ := p.bc e he
      refine ⟨y, by rw [List.getElem?_set_ne (Ne.symm hed)]; exact h1, ?_⟩
      rw [updB_ne hed]
      exact h2.keep fun id hi hlt hn => ⟨hn, hk id hlt (p.dj e d y x id hed h1 hx hi)⟩
  · by_cases h1 : e = d
    · subst h1
      rw [here hy] at hi
      have hz' := old (Ne.symm hee) hz
      rcases hid i hi with h2 | h2
      · exact p.dj e e' x z i hee hx hz' h2 hz2
      · have := lt hz' hz2
        omega
    · have hy' := old h1 hy
      by_cases h3 : e' = d
      · subst h3
        rw [here hz] at hz2
        rcases hid i hz2 with h2 | h2
        · exact p.dj e e' y x i hee hy' hx hi h2
        · have := lt hy' hi
          omega
      · exact p.dj e e' y z i hee hy' (old h3 hz) hi hz2
theorem lenK_bc {P : Program} {t : TypeId} {F : Nat → Prop} {h : Heap} {x : AV} {l : List Int} {K : AV → Prop} (hb : BC F h x l) : lenK P t x K = ((telem P t).isSome = true ∧ K (.int .i64 (l.length : Nat))) := by
  rcases hb with ⟨rfl, rfl⟩ | ⟨id, len, cap, ex, es, ex', rfl, q1, q2, q3, q4, q5, rfl⟩
  · rfl
  · rw [show (es.take len).length = len by simp; omega]
    rfl
theorem max_bc {F : Nat → Prop} {h : Heap} {x : AV} {l : List Int} {Q : AV → Heap → Prop} (hb : BC F h x l) (h0 : 0 < l.length) (hq : Q (.int .i64 (maxK l (l.length - 1))) h) : ACalls Try.prog 77 [x] h Q := by
  rcases hb with ⟨rfl, rfl⟩ | ⟨id, len, cap, ex, es, ex', rfl, q1, q2, q3, q4, q5, rfl⟩
  · simp at h0
  · have hl : (es.take len).length = len := by simp; omega
    exact acalls_lend (max_c (es.take len) (by omega) h0) (.cons (frz_ints q2 rfl hl) .nil) rfl hq
theorem del_ps {c : FuncId} (hclo : Clo c) {F : Nat → Prop} {n : Nat} {h : Heap} {cells : List (List AV)} {B : Nat → List Int} (p : PS F n h cells B) {d : Nat} (hd : d ≤ n) {x : AV} (hx : cells[d]? = some [x]) (h0 : 0 < (B d).length) {vid : Nat} {exv : Bool} {v : Int} (hv : F vid) (hvid : h[vid]? = some (.arr 1 [[.int .i64 v]] exv)) {Q : AV → Heap → Prop}
    (hq : ∀ x' h', (∃ id len cap ex, x' = AV.osl id 1 0 len cap ex) → h'.length = h.length → (∀ i, F i → h'[i]? = h[i]?) → PS F n h' (cells.set d [x']) (updB B d (rid v (B d))) → Q x' h') : ACalls Try.prog 78 [x, .fn (.func c) [] [.op vid 1 0 0]] h Q := by
  obtain ⟨y, h1, h2⟩ := p.bc d hd
  rw [hx] at h1
  simp at h1
  subst h1
  rcases h2 with ⟨rfl, h2⟩ | ⟨id, len, cap, ex, es, ex', rfl, q1, q2, q3, q4, q5, q6⟩
  · rw [h2] at h0; simp at h0
  · have hlt : id < h.length := (List.getElem?_eq_some_iff.1 q2).1
    refine del_c hclo (by omega) q2 hvid (fun e => q1 (e ▸ hv)) (by omega) q3 fun es' h3 h4 => ?_
    rw [q6] at h4 ⊢
    have hle : (rid v (B d)).length ≤ (B d).length := List.length_filter_le _ _
    have hBl : (B d).length = len := by rw [← q6]; simp; omega
    refine hq _ _ ⟨_, _, _, _, rfl⟩ (by simp) (fun i hi => List.getElem?_set_ne (fun e => q1 (by rw [e]; exact hi))) (p.turn hd hx (by simp) (fun i _ hi => List.getElem?_set_ne (fun e => hi (by rw [← e]; rfl))) (.inr ⟨id, _, cap, ex, es', ex', rfl, q1, List.getElem?_set_self hlt, by omega, by omega, by omega, h4⟩) (fun i hi => .inl hi))
/-- One more in a bucket. -/
theorem push_ps {F : Nat → Prop} {n : Nat} {h : Heap} {cells : List (List AV)} {B : Nat → List Int} (p : PS F n h cells B) {d : Nat} (hd : d ≤ n) {x : AV} (hx : cells[d]? = some [x]) (hsm : (B d).length < 900000) {w : Int} {K : AV → Heap → Prop}
    (hq : ∀ x' h', (∃ id len cap ex, x' = AV.osl id 1 0 len cap ex) → h.length ≤ h'.length → (∀ i, F i → h'[i]? = h[i]?) → PS F n h' (cells.set d [x']) (updB B d (B d ++ [w])) → K x' h') : apK 1 8 h x [[.int .i64 w]] K := by
  obtain ⟨y, h1, h2⟩ := p.bc d hd
  rw [hx] at h1
  simp at h1
  subst h1
  rcases h2 with ⟨rfl, h2⟩ | ⟨id, len, cap, ex, es, ex', rfl, q1, q2, q3, q4, q5, q6⟩
  · rw [apK_nils, letH_eq]
    refine ⟨by simp, hq _ _ ⟨_, _, _, _, rfl⟩ (by simp) (fun i hi => List.getElem?_append_left (p.fix i hi)) (p.turn hd hx (by simp) (fun i hi _ => List.getElem?_append_left hi) (.inr ⟨h.length, 1, 1, false, [w], false, rfl, fun e => absurd (p.fix _ e) (Nat.lt_irrefl _), by simp [intE], by omega, by simp, by simp, by rw [h2]; rfl⟩) (fun i hi => .inr (by cases hi; exact Nat.le_refl _)))⟩
  · have hlt : id < h.length := (List.getElem?_eq_some_iff.1 q2).1
    have hBl : (B d).length = len := by rw [← q6]; simp; omega
    have hq6 : (es.take len).length = len := by simp; omega
    refine ⟨rfl, by simp; omega, List.map intE es, ex', q2, by simp; omega, fun hin => ⟨by simp at hin ⊢; omega, ?_⟩, fun hout => ?_⟩
    · simp only [List.length_singleton] at hin
      refine hq _ _ ⟨_, _, _, _, rfl⟩ (by simp) (fun i hi => List.getElem?_set_ne (fun e => q1 (by rw [e]; exact hi))) (p.turn hd hx (by simp) (fun i _ hi => List.getElem?_set_ne (fun e => hi (by rw [← e]; rfl))) (.inr ⟨id, len + 1, cap, ex, es.take len ++ [w] ++ es.drop (len + 1), ex', rfl, q1, ?_, hin, ?_, ?_, ?_⟩) (fun i hi => .inl hi))
      · rw [List.getElem?_set_self hlt]
        simp [List.map_take, List.map_drop, intE]
      · simp only [List.length_append, hq6, List.length_drop, List.length_singleton]; omega
      · simp only [List.length_append, hq6, List.length_drop, List.length_singleton]; omega
      · rw [List.take_left' (by simp [hq6]), q6]
    · have hnew : ∀ g : Heap, g.length = h.length → (∀ i, i < h.length → idOf (.osl id 1 0 len cap ex) ≠ some i → g[i]? = h[i]?) → K (.osl h.length 1 0 (len + 1) (len + 1) false) (g ++ [.arr 1 ((List.map intE es).take len ++ [[.int .i64 w]]) false]) := fun g hg hgk => by
        refine hq _ _ ⟨_, _, _, _, rfl⟩ (by simp [hg]) (fun i hi => ?_) (p.turn hd hx (by simp [hg]) (fun i hi hni => ?_) (.inr ⟨h.length, len + 1, len + 1, false, es.take len ++ [w], false, rfl, fun e => absurd (p.fix _ e) (Nat.lt_irrefl _), ?_, Nat.le_refl _, ?_, ?_, ?_⟩) (fun i hi => .inr (by cases hi; exact Nat.le_refl _)))
        · have hf := p.fix i hi
          rw [List.getElem?_append_left (by omega)]
          exact hgk i hf (fun e => by cases e; exact q1 hi)
        · rw [List.getElem?_append_left (by omega)]
          exact hgk i hi hni
        · rw [List.getElem?_append_right (by omega), hg]
          simp [intE, List.map_take]
        · simp [hq6]
        · simp [hq6]; omega
        · rw [List.take_of_length_le (by simp [hq6]), q6]
      cases ex with
      | true => exact hnew h rfl (fun _ _ _ => rfl)
      | false => exact ⟨rfl, hnew (h.set id .dead) (by simp) (fun i _ hi => List.getElem?_set_ne (fun e => hi (by rw [← e]; rfl)))⟩
end Go.Proofs.Ytgdlkhgfehclpaa
