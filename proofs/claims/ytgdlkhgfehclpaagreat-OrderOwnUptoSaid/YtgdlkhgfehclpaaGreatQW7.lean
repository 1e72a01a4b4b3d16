/- Texts of one claim bound together: PQd, PQe, PPg, PQf, POc, POG, PQg, PQi, PPi, PQj, PQh. -/
import Derived.Test.YtgdlkhgfehclpaaGreatQW6
import Derived.Test.YtgdlkhgfehclpaaGreatQW4
import Derived.Test.YtgdlkhgfehclpaaGreatQW5

section
/- Lists of numbers, each with its own mark, are apart: plain part. No condition. -/
namespace Go.Proofs.YtgdlkhgfehclpaaGreat
open Go Go.AL
set_option linter.unusedVariables false
set_option linter.unusedSimpArgs false
def mkI (i k : Nat) : Int := 1 + 100003 * ((i : Int) + 1) + 7 * (k : Int)
theorem mark_c (i k : Nat) (hi : i < 1000000) (hk : k < 10000000) : APure Tryz.prog 63 [.int .i64 i, .int .i64 k] (.int .i64 (mkI i k)) := by
  refine apure_of (wp63 rfl rfl ?_)
  simp (maxSteps := 4000000) only [↓packA, ↓reduceIte, packB, pureOp, quietOp, loadOp, quietB, fr0, cellsK, implies_true, ite_true, ite_false, eq_self, ne_eq, reduceCtorEq, Nat.reduceLT, Nat.reduceLeDiff, Nat.reduceAdd, Nat.reduceMul, Nat.reduceBEq, Nat.reduceEqDiff, Int.reduceToNat, Int.reduceLT, Int.reduceLE, Nat.reduceSub, pl63, ft3]
  refine ⟨by omega, by omega, by omega, by omega, by omega, ?_⟩
  exact .pure _ rfl
def marks (i n : Nat) : List Int := (List.range n).map (mkI i)
theorem marks_len {i n : Nat} : (marks i n).length = n := by simp [marks]
theorem marks_succ {i n : Nat} : marks i (n + 1) = marks i n ++ [mkI i n] := by simp [marks, List.range_succ]
theorem marks_get {i n k : Nat} (h : k < n) : (marks i n).getD k default = mkI i k := by
  simp [marks, List.getD_eq_getElem?_getD, List.getElem?_map, List.getElem?_range h]
theorem marks_take {i n k : Nat} (h : k ≤ n) : (marks i n).take k = marks i k := by
  simp only [marks, ← List.map_take]
  congr 1
  rw [List.take_range, Nat.min_eq_left h]
theorem marks_set {i k : Nat} {l : List Int} (h : k < l.length) : (marks i k ++ l.drop k).set k (mkI i k) = marks i (k + 1) ++ l.drop (k + 1) := by
  rw [List.set_append_right _ _ (by rw [marks_len]; omega), marks_len, Nat.sub_self, List.drop_eq_getElem_cons h, List.set_cons_zero, marks_succ, List.append_assoc]
  rfl
def fup (f : Nat → AV) (d : Nat) (x : AV) : Nat → AV := fun e => if e = d then x else f e
theorem fup_same {f : Nat → AV} {d : Nat} {x : AV} : fup f d x d = x := if_pos rfl
theorem fup_ne {f : Nat → AV} {d e : Nat} {x : AV} (h : e ≠ d) : fup f d x e = f e := if_neg h
theorem intE_inj {a b : List Int} (h : List.map intE a = List.map intE b) : a = b := by
  refine List.map_inj_right (f := intE) (fun x y e => ?_) |>.1 h
  simp only [intE, List.cons.injEq, AV.int.injEq] at e
  exact e.1.2
/-- What is behind a list's end may be written. -/
theorem BC.over {F : Nat → Prop} {h : Heap} {x : AV} {l : List Int} (hb : BC F h x l) {id : Nat} {es es' : List Int} {ex' : Bool} (hx : idOf x = some id) (hid : h[id]? = some (.arr 1 (List.map intE es) ex')) (hl : es'.length = es.length) (ht : es'.take l.length = es.take l.length) : BC F (h.set id (.arr 1 (List.map intE es') ex')) x l := by
  rcases hb with ⟨rfl, _⟩ | ⟨i, len, cap, ex, es2, ex2, rfl, q1, q2, q3, q4, q5, q6⟩
  · cases hx
  · cases hx
    rw [hid] at q2
    injection q2 with q2
    injection q2 with _ q2 q7
    have := intE_inj q2
    subst this q7
    have hll : l.length = len := by rw [← q6]; simp; omega
    rw [hll] at ht
    exact .inr ⟨id, len, cap, ex, es', ex', rfl, q1, List.getElem?_set_self (List.getElem?_eq_some_iff.1 hid).1, q3, by omega, q5, by rw [ht]; exact q6⟩
structure AP (F : Nat → Prop) (h : Heap) (m : Nat) (xs ys : Nat → AV) (X Y : Nat → List Int) : Prop where
  fix : ∀ i, F i → i < h.length
  bx : ∀ d, d < m → BC F h (xs d) (X d)
  yy : ∀ d, d < m → BC F h (ys d) (Y d)
  pre : ∀ d, d < m → (X d).length ≤ (Y d).length
  dj : ∀ d e, d < m → e < m → d ≠ e → ∀ i, (idOf (xs d) = some i ∨ idOf (ys d) = some i) → ¬ (idOf (xs e) = some i ∨ idOf (ys e) = some i)
theorem AP.keep {F F' : Nat → Prop} {h h' : Heap} {m : Nat} {xs ys : Nat → AV} {X Y : Nat → List Int} (p : AP F h m xs ys X Y) (hl : h.length ≤ h'.length) (hh : ∀ i, i < h.length → ¬ F i → h'[i]? = h[i]?) (hF : ∀ i, F' i → F i ∨ (h.length ≤ i ∧ i < h'.length)) : AP F' h' m xs ys X Y :=
  have hk : ∀ id, id < h.length → ¬ F id → ¬ F' id ∧ h'[id]? = h[id]? := fun id h1 h2 => ⟨fun e => by
    rcases hF id e with h3 | h3
    · exact h2 h3
    · omega, hh id h1 h2⟩
  ⟨fun i hi => by
    rcases hF i hi with h1 | h1
    · have := p.fix i h1; omega
    · exact h1.2, fun d hd => (p.bx d hd).keep fun id _ h1 h2 => hk id h1 h2, fun d hd => (p.yy d hd).keep fun id _ h1 h2 => hk id h1 h2, p.pre, p.dj⟩
theorem AP.app {F : Nat → Prop} {h : Heap} {m : Nat} {xs ys : Nat → AV} {X Y : Nat → List Int} (p : AP F h m xs ys X Y) (t : Heap) : AP F (h ++ t) m xs ys X Y :=
  p.keep (by simp) (fun i hi _ => List.getElem?_append_left hi) fun i hi => .inl hi
/-- One more behind a list. -/
theorem AP.push {F : Nat → Prop} {h : Heap} {m : Nat} {xs ys : Nat → AV} {X Y : Nat → List Int} (p : AP F h m xs ys X Y) {d : Nat} (hd : d < m) (hsm : (Y d).length < 900000) {w : Int} {K : AV → Heap → Prop}
    (hq : ∀ y' h', (∃ id len cap ex, y' = AV.osl id 1 0 len cap ex) → h.length ≤ h'.length → (∀ i, F i → h'[i]? = h[i]?) → AP F h' m xs (fup ys d y') X (updB Y d (Y d ++ [w])) → K y' h') : apK [.int .i64 0] 8 h (ys d) [[.int .i64 w]] K := by
  -- a new row
  have hnew : ∀ (l : List Int) (c n : Nat), l = Y d → l.length + 1 ≤ c → c = l.length + 1 + n → K (.osl h.length 1 0 (l.length + 1) c true) (h ++ [.arr 1 (List.map intE (l ++ [w] ++ List.replicate n 0)) true]) := fun l c n hl hc hn => by
    refine hq _ _ ⟨_, _, _, _, rfl⟩ (by simp) (fun i hi => List.getElem?_append_left (p.fix i hi)) ?_
    have p2 := p.app [.arr 1 (List.map intE (l ++ [w] ++ List.replicate n 0)) true]
    refine ⟨p2.fix, p2.bx, fun e he => ?_, fun e he => ?_, fun e f he hf hne i hi => ?_⟩
    · by_cases c1 : e = d
      · subst c1
        rw [fup_same, updB_same, ← hl]
        exact .inr ⟨h.length, l.length + 1, c, true, l ++ [w] ++ List.replicate n 0, true, rfl, fun e => absurd (p.fix _ e) (Nat.lt_irrefl _), by simp, hc, by simp; omega, ⟨by rw [hl]; omega, rfl⟩, List.take_left' (by simp)⟩
      · rw [fup_ne c1, updB_ne c1]; exact p2.yy e he
    · by_cases c1 : e = d
      · subst c1
        have := p.pre e he
        rw [updB_same]; simp; omega
      · rw [updB_ne c1]; exact p.pre e he
    · have lx : ∀ e, e < m → ∀ i, idOf (xs e) = some i → i < h.length := fun e he i hi => ((p.bx e he).lt hi).1
      have ly : ∀ e, e < m → ∀ i, idOf (ys e) = some i → i < h.length := fun e he i hi => ((p.yy e he).lt hi).1
      by_cases c1 : e = d
      · subst c1
        rw [fup_same] at hi
        rw [fup_ne (Ne.symm hne)]
        rcases hi with hi | hi
        · exact p.dj e f he hf hne i (.inl hi)
        · cases hi
          rintro (h2 | h2)
          · have := lx f hf _ h2; omega
          · have := ly f hf _ h2; omega
      · rw [fup_ne c1] at hi
        by_cases c2 : f = d
        · subst c2
          rw [fup_same]
          rintro (h2 | h2)
          · exact p.dj e f he hf hne i hi (.inl h2)
          · cases h2
            rcases hi with h2 | h2
            · have := lx e he _ h2; omega
            · have := ly e he _ h2; omega
        · rw [fup_ne c2]
          exact p.dj e f he hf hne i hi
  rcases p.yy d hd with ⟨hy, h2⟩ | ⟨id, len, cap, ex, es, ex', hy, q1, q2, q3, q4, q5, q6⟩
  · rw [hy]
    refine ⟨by simp, fun e => absurd e (by simp), fun _ => ?_⟩
    show growK 1 8 _ _ _ _ K
    unfold growK
    rw [if_pos rfl]
    intro c hc
    have := hnew [] c (c - 1) h2.symm (by simpa using hc) (by simp at hc ⊢; omega)
    simpa [intE] using this
  · have hlt : id < h.length := (List.getElem?_eq_some_iff.1 q2).1
    have hYl : (Y d).length = len := by rw [← q6]; simp; omega
    have hq6 : (es.take len).length = len := by simp; omega
    rw [hy]
    refine ⟨rfl, by simp; omega, List.map intE es, ex', q2, by simp; omega, fun hin => ⟨by simp at hin ⊢; omega, ?_⟩, fun hout => ?_⟩
    · simp only [List.length_singleton] at hin
      have hes : (es.take len ++ [w] ++ es.drop (len + 1)).length = es.length := by simp only [List.length_append, hq6, List.length_drop, List.length_singleton]; omega
      have hset : (h.set id (.arr 1 ((List.map intE es).take (0 + len) ++ [[AV.int .i64 w]] ++ (List.map intE es).drop (0 + len + [[AV.int .i64 w]].length)) ex')) = h.set id (.arr 1 (List.map intE (es.take len ++ [w] ++ es.drop (len + 1))) ex') := by
        simp [List.map_take, List.map_drop, intE]
      rw [hset]
      refine hq _ _ ⟨_, _, _, _, rfl⟩ (by simp) (fun i hi => List.getElem?_set_ne (fun e => q1 (by rw [e]; exact hi))) ?_
      have hkeep : ∀ {x : AV} {l : List Int}, BC F h x l → idOf x ≠ some id → BC F (h.set id (.arr 1 (List.map intE (es.take len ++ [w] ++ es.drop (len + 1))) ex')) x l := fun hb hne => hb.keep fun j hj _ hn => ⟨hn, List.getElem?_set_ne (fun e => hne (by rw [e]; exact hj))⟩
      have hidy : idOf (ys d) = some id := by rw [hy]; rfl
      refine ⟨fun i hi => by simpa using p.fix i hi, fun e he => ?_, fun e he => ?_, fun e he => ?_, fun e f he hf hne i hi => ?_⟩
      · by_cases c1 : idOf (xs e) = some id
        · have : e = d := by
            apply Classical.byContradiction
            intro c2
            exact p.dj e d he hd c2 id (.inl c1) (.inr hidy)
          subst this
          refine (p.bx e he).over c1 q2 hes ?_
          have := p.pre e he
          rw [List.append_assoc, List.take_append_of_le_length (by omega), List.take_take, Nat.min_eq_left (by omega)]
        · exact hkeep (p.bx e he) c1
      · by_cases c1 : e = d
        · subst c1
          rw [fup_same, updB_same]
          refine .inr ⟨id, len + 1, cap, ex, es.take len ++ [w] ++ es.drop (len + 1), ex', rfl, q1, List.getElem?_set_self hlt, hin, by omega, ⟨by omega, q5.2⟩, ?_⟩
          rw [List.take_left' (by simp [hq6]), q6]
        · rw [fup_ne c1, updB_ne c1]
          exact hkeep (p.yy e he) fun e2 => p.dj e d he hd c1 id (.inr e2) (.inr hidy)
      · by_cases c1 : e = d
        · subst c1
          have := p.pre e he
          rw [updB_same]; simp; omega
        · rw [updB_ne c1]; exact p.pre e he
      · have key : ∀ e, ∀ i, (idOf (xs e) = some i ∨ idOf (fup ys d (.osl id 1 0 (len + 1) cap ex) e) = some i) → (idOf (xs e) = some i ∨ idOf (ys e) = some i) := fun e i hi => by
          by_cases c1 : e = d
          · subst c1
            rw [fup_same] at hi
            exact hi.imp_right fun h3 => by rw [hidy]; exact h3
          · rwa [fup_ne c1] at hi
        exact fun h3 => p.dj e f he hf hne i (key e i hi) (key f i h3)
    · simp only [List.length_singleton] at hout
      obtain rfl : ex = true := q5.2
      show growK 1 8 _ _ _ _ K
      unfold growK
      rw [if_pos rfl]
      intro c hc
      have hlr : (List.take len (List.drop 0 (List.map intE es)) ++ [[AV.int .i64 w]]).length = len + 1 := by simp; omega
      rw [hlr] at hc ⊢
      have := hnew (es.take len) c (c - (len + 1)) q6 (by rw [hq6]; exact hc) (by rw [hq6]; omega)
      rw [hq6] at this
      simpa [intE, List.map_take] using this
/-- Lists of numbers, each in an object of its own. -/
structure OL (F : Nat → Prop) (h : Heap) (m : Nat) (xs : Nat → AV) (X : Nat → List Int) : Prop where
  fix : ∀ i, F i → i < h.length
  bx : ∀ d, d < m → BC F h (xs d) (X d)
  dj : ∀ d e, d < m → e < m → d ≠ e → ∀ i, idOf (xs d) = some i → idOf (xs e) ≠ some i
theorem OL.toAP {F : Nat → Prop} {h : Heap} {m : Nat} {xs : Nat → AV} {X : Nat → List Int} (p : OL F h m xs X) : AP F h m xs xs X X :=
  ⟨p.fix, p.bx, p.bx, fun _ _ => Nat.le_refl _, fun d e hd he hne i hi h2 => p.dj d e hd he hne i (hi.elim id id) (h2.elim id id)⟩
/-- One number written. -/
theorem OL.write {F : Nat → Prop} {h : Heap} {m : Nat} {xs : Nat → AV} {X : Nat → List Int} (p : OL F h m xs X) {d k : Nat} (hd : d < m) {id len cap : Nat} {ex ex' : Bool} {es : List Int} {v : Int} (hx : xs d = .osl id 1 0 len cap ex) (hid : h[id]? = some (.arr 1 (List.map intE es) ex')) (hk : k < len) : OL F (h.set id (.arr 1 (List.map intE (es.set k v)) ex')) m xs (updB X d ((X d).set k v)) := by
  have hidx : idOf (xs d) = some id := by rw [hx]; rfl
  refine ⟨fun i hi => by simpa using p.fix i hi, fun e he => ?_, p.dj⟩
  by_cases c1 : e = d
  · subst c1
    rw [updB_same]
    rcases p.bx e he with ⟨h1, _⟩ | ⟨i, len2, cap2, ex2, es2, ex3, h1, q1, q2, q3, q4, q5, q6⟩
    · rw [hx] at h1; cases h1
    · rw [hx] at h1
      cases h1
      rw [hid] at q2
      injection q2 with q2
      injection q2 with _ q2 q7
      have := intE_inj q2
      subst this q7
      rw [hx]
      refine .inr ⟨id, len, cap, ex, es.set k v, ex', rfl, q1, List.getElem?_set_self (List.getElem?_eq_some_iff.1 hid).1, q3, by simpa using q4, q5, ?_⟩
      rw [List.take_set, q6]
  · rw [updB_ne c1]
    exact (p.bx e he).keep fun j hj _ hn => ⟨hn, List.getElem?_set_ne (fun e2 => p.dj e d he hd c1 j hj (by rw [← e2]; exact hidx))⟩
/-- A list with something in it: where it lies. -/
theorem BC.open {F : Nat → Prop} {h : Heap} {x : AV} {l : List Int} (hb : BC F h x l) (h0 : 0 < l.length) : ∃ id cap ex es ex', x = .osl id 1 0 l.length cap ex ∧ ¬ F id ∧ h[id]? = some (.arr 1 (List.map intE es) ex') ∧ l.length ≤ es.length ∧ es.take l.length = l := by
  rcases hb with ⟨_, rfl⟩ | ⟨id, len, cap, ex, es, ex', rfl, q1, q2, q3, q4, q5, q6⟩
  · simp at h0
  · have hll : l.length = len := by rw [← q6]; simp; omega
    rw [hll]
    exact ⟨id, cap, ex, es, ex', rfl, q1, q2, by omega, q6⟩
theorem take_getD {es l : List Int} {n k : Nat} (h : es.take n = l) (hk : k < n) : es.getD k default = l.getD k default := by
  rw [← h, List.getD_eq_getElem?_getD, List.getD_eq_getElem?_getD, List.getElem?_take_of_lt hk]
end Go.Proofs.YtgdlkhgfehclpaaGreat
end

section
/- Lists of numbers are apart, walked. No condition. -/
namespace Go.Proofs.YtgdlkhgfehclpaaGreat
open Go Go.AL
set_option linter.unusedVariables false
set_option linter.unusedSimpArgs false
theorem updB_twice {B : Nat → List Int} {d : Nat} {l l' : List Int} : updB (updB B d l) d l' = updB B d l' := by
  funext e
  by_cases c : e = d
  · subst c; rw [updB_same, updB_same]
  · rw [updB_ne c, updB_ne c, updB_ne c]
theorem lenK_ca {P : Program} {t : TypeId} {F : Nat → Prop} {h : Heap} {x : AV} {cells : List AV} {K : AV → Prop} (hb : CA F h x cells) : lenK P t x K = ((telem P t).isSome = true ∧ K (.int .i64 (cells.length : Nat))) := by
  rcases hb with ⟨rfl, rfl⟩ | ⟨J, cap, ex, es, ex', rfl, _⟩ <;> rfl
set_option maxHeartbeats 8000000 in
set_option maxRecDepth 100000 in
theorem apart26 {F : Nat → Prop} {B J m cap : Nat} {ex ex' : Bool} {h : Heap} {es : List (List AV)} {xs : Nat → AV} {X : Nat → List Int} {Q : AV → Heap → Prop} (hB : h[B]? = some (.arr 14 [bookCells (.osl J 1 0 m cap ex)] true)) (hJ : h[J]? = some (.arr 1 es ex')) (hes : ∀ d, d < m → es[d]? = some [xs d]) (hFB : F B) (hFJ : F J)
    (hol : OL F h m xs X) (hm : m ≤ 1000) (hX : ∀ d, d < m → (X d).length ≤ 100000) (hq : ∀ h', (∀ i, F i → h'[i]? = h[i]?) → h.length ≤ h'.length → Q (.bool true) h') : ACalls Tryz.prog 26 [.op B 14 0 0] h Q := by
  have hml : m ≤ es.length := by
    rcases Nat.eq_zero_or_pos m with h0 | h0
    · omega
    · have := (List.getElem?_eq_some_iff.1 (hes (m - 1) (by omega))).1
      omega
  unfold bookCells at hB
  refine (wp26 rfl rfl ?_)
  simp (maxSteps := 4000000) only [↓packA, ↓reduceIte, packB, pureOp, quietOp, loadOp, quietB, fr0, cellsK, implies_true, ite_true, ite_false, eq_self, ne_eq, reduceCtorEq, Nat.reduceLT, Nat.reduceLeDiff, Nat.reduceAdd, Nat.reduceMul, Nat.reduceBEq, Nat.reduceEqDiff, Int.reduceToNat, Int.reduceLT, Int.reduceLE, Nat.reduceSub, pl26, ft1, ft2, ft3, ft22, ft26, ft27, ft28, ft29, ft30, ft31, ft32, ft33, ft41, ft42, ft43, ft44, ft45, ft46, ft48, ft73, ft75, ft78, ft80, ft96, ft103, ft106, ft110, ft113, ft116, ft119, ft124]
  refine LoopK.intro (fun w a g => ∃ (i : Nat) (Z : Nat → List Int), w = m - i ∧ i ≤ m ∧ OL F g m xs Z ∧ (∀ d, d < i → Z d = marks d (X d).length) ∧ (∀ d, i ≤ d → Z d = X d) ∧ (∀ k, F k → g[k]? = h[k]?) ∧ h.length = g.length ∧ a 0 = .op B 14 0 0 ∧ a 3 = .nils ∧ a 4 = .int .i64 i) m ⟨0, X, rfl, Nat.zero_le _, hol, fun d hd => absurd hd (Nat.not_lt_zero _), fun d _ => rfl, fun k _ => rfl, rfl, ?_⟩ ?_
  · simp (maxSteps := 4000000) only [↓packA, ↓reduceIte, packB, pureOp, quietOp, loadOp, quietB, fr0, cellsK, implies_true, ite_true, ite_false, eq_self, ne_eq, reduceCtorEq, Nat.reduceLT, Nat.reduceLeDiff, Nat.reduceAdd, Nat.reduceMul, Nat.reduceBEq, Nat.reduceEqDiff, Int.reduceToNat, Int.reduceLT, Int.reduceLE, Nat.reduceSub, pl26, ft1, ft2, ft3, ft22, ft26, ft27, ft28, ft29, ft30, ft31, ft32, ft33, ft41, ft42, ft43, ft44, ft45, ft46, ft48, ft73, ft75, ft78, ft80, ft96, ft103, ft106, ft110, ft113, ft116, ft119, ft124, Int.natCast_zero]
  rintro w a g ⟨i, Z, rfl, hi, hol1, hZ1, hZ2, hF1, hl1, a0, a3, a4⟩
  have b1 := (hF1 B hFB).trans hB
  have j1 := (hF1 J hFJ).trans hJ
  by_cases r : i < m
  · have r1 : (i : Int) < (m : Int) := by omega
    simp (maxSteps := 4000000) only [↓packA, ↓reduceIte, packB, pureOp, quietOp, loadOp, quietB, fr0, cellsK, implies_true, ite_true, ite_false, eq_self, ne_eq, reduceCtorEq, Nat.reduceLT, Nat.reduceLeDiff, Nat.reduceAdd, Nat.reduceMul, Nat.reduceBEq, Nat.reduceEqDiff, Int.reduceToNat, Int.reduceLT, Int.reduceLE, Nat.reduceSub, pl26, ft1, ft2, ft3, ft22, ft26, ft27, ft28, ft29, ft30, ft31, ft32, ft33, ft41, ft42, ft43, ft44, ft45, ft46, ft48, ft73, ft75, ft78, ft80, ft96, ft103, ft106, ft110, ft113, ft116, ft119, ft124, a0, a3, a4, b1, j1, r1]
    refine LoopK.intro (fun w a g => ∃ (k : Nat), w = (X i).length - k ∧ k ≤ (X i).length ∧ OL F g m xs (updB Z i (marks i k ++ (X i).drop k)) ∧ (∀ k, F k → g[k]? = h[k]?) ∧ h.length = g.length ∧ a 0 = .op B 14 0 0 ∧ a 3 = .nils ∧ a 4 = .int .i64 i ∧ a 5 = .int .i64 k) (X i).length ⟨0, rfl, Nat.zero_le _, ?_, hF1, hl1, ?_⟩ ?_
    · have e : updB Z i (marks i 0 ++ (X i).drop 0) = Z := by
        funext d
        by_cases c : d = i
        · subst c; rw [updB_same, hZ2 d (Nat.le_refl _)]; rfl
        · rw [updB_ne c]
      rw [e]; exact hol1
    · simp (maxSteps := 4000000) only [↓packA, ↓reduceIte, packB, pureOp, quietOp, loadOp, quietB, fr0, cellsK, implies_true, ite_true, ite_false, eq_self, ne_eq, reduceCtorEq, Nat.reduceLT, Nat.reduceLeDiff, Nat.reduceAdd, Nat.reduceMul, Nat.reduceBEq, Nat.reduceEqDiff, Int.reduceToNat, Int.reduceLT, Int.reduceLE, Nat.reduceSub, pl26, ft1, ft2, ft3, ft22, ft26, ft27, ft28, ft29, ft30, ft31, ft32, ft33, ft41, ft42, ft43, ft44, ft45, ft46, ft48, ft73, ft75, ft78, ft80, ft96, ft103, ft106, ft110, ft113, ft116, ft119, ft124, a0, a3, a4, Int.natCast_zero]
    clear a0 a3 a4 b1 j1 hol1 hF1 hl1
    rintro w a g' ⟨k, rfl, hk, hol1, hF1, hl1, a0, a3, a4, a5⟩
    have b1 := (hF1 B hFB).trans hB
    have j1 := (hF1 J hFJ).trans hJ
    have hei := hes i r
    have hbi := hol1.bx i r
    rw [updB_same] at hbi
    have hll : (marks i k ++ (X i).drop k).length = (X i).length := by rw [List.length_append, marks_len, List.length_drop]; omega
    have hXi := hX i r
    by_cases r2 : k < (X i).length
    · have r3 : (k : Int) < ((X i).length : Int) := by omega
      obtain ⟨id, xc, xe, es2, ex2, hxi, q1, q2, q3, q4⟩ := hbi.open (by omega)
      rw [hll] at hxi q3 q4
      rw [hxi] at hei
      simp (maxSteps := 4000000) only [↓packA, ↓reduceIte, packB, pureOp, quietOp, loadOp, quietB, fr0, cellsK, implies_true, ite_true, ite_false, eq_self, ne_eq, reduceCtorEq, Nat.reduceLT, Nat.reduceLeDiff, Nat.reduceAdd, Nat.reduceMul, Nat.reduceBEq, Nat.reduceEqDiff, Int.reduceToNat, Int.reduceLT, Int.reduceLE, Nat.reduceSub, pl26, ft1, ft2, ft3, ft22, ft26, ft27, ft28, ft29, ft30, ft31, ft32, ft33, ft41, ft42, ft43, ft44, ft45, ft46, ft48, ft73, ft75, ft78, ft80, ft96, ft103, ft106, ft110, ft113, ft116, ft119, ft124, a0, a3, a4, a5, b1, j1, r1, r3, hei]
      refine ⟨by omega, by omega, acalls_pure (mark_c i k (by omega) (by omega)) rfl ?_⟩
      simp (maxSteps := 4000000) only [↓packA, ↓reduceIte, packB, pureOp, quietOp, loadOp, quietB, fr0, cellsK, implies_true, ite_true, ite_false, eq_self, ne_eq, reduceCtorEq, Nat.reduceLT, Nat.reduceLeDiff, Nat.reduceAdd, Nat.reduceMul, Nat.reduceBEq, Nat.reduceEqDiff, Int.reduceToNat, Int.reduceLT, Int.reduceLE, Nat.reduceSub, pl26, ft1, ft2, ft3, ft22, ft26, ft27, ft28, ft29, ft30, ft31, ft32, ft33, ft41, ft42, ft43, ft44, ft45, ft46, ft48, ft73, ft75, ft78, ft80, ft96, ft103, ft106, ft110, ft113, ft116, ft119, ft124, a0, a3, a4, a5, b1, j1, r1, r3, hei, q2]
      have hw := hol1.write (v := mkI i k) r hxi q2 r2
      rw [updB_same, marks_set r2, updB_twice] at hw
      exact ⟨by omega, by omega, by omega, .inl ⟨(X i).length - (k + 1), by omega, k + 1, rfl, by omega, hw, fun k2 hk2 => (List.getElem?_set_ne (fun e => q1 (by rw [e]; exact hk2))).trans (hF1 k2 hk2), by simpa using hl1, by omega⟩⟩
    · obtain rfl : k = (X i).length := by omega
      have r3 : ¬ (((X i).length : Nat) : Int) < ((X i).length : Int) := by omega
      simp (maxSteps := 4000000) only [↓packA, ↓reduceIte, packB, pureOp, quietOp, loadOp, quietB, fr0, cellsK, implies_true, ite_true, ite_false, eq_self, ne_eq, reduceCtorEq, Nat.reduceLT, Nat.reduceLeDiff, Nat.reduceAdd, Nat.reduceMul, Nat.reduceBEq, Nat.reduceEqDiff, Int.reduceToNat, Int.reduceLT, Int.reduceLE, Nat.reduceSub, pl26, ft1, ft2, ft3, ft22, ft26, ft27, ft28, ft29, ft30, ft31, ft32, ft33, ft41, ft42, ft43, ft44, ft45, ft46, ft48, ft73, ft75, ft78, ft80, ft96, ft103, ft106, ft110, ft113, ft116, ft119, ft124, a0, a3, a4, a5, b1, j1, r1, r3, hei, lenK_bc hbi, hll]
      rw [List.drop_length, List.append_nil] at hol1
      refine ⟨by omega, by omega, .inl ⟨m - (i + 1), by omega, i + 1, updB Z i (marks i (X i).length), rfl, by omega, hol1, fun d hd => ?_, fun d hd => ?_, hF1, hl1, by omega⟩⟩
      · by_cases c : d = i
        · subst c; rw [updB_same]
        · rw [updB_ne c]; exact hZ1 d (by omega)
      · rw [updB_ne (by omega)]; exact hZ2 d (by omega)
  · have r1 : ¬ (i : Int) < (m : Int) := by omega
    obtain rfl : i = m := by omega
    simp (maxSteps := 4000000) only [↓packA, ↓reduceIte, packB, pureOp, quietOp, loadOp, quietB, fr0, cellsK, implies_true, ite_true, ite_false, eq_self, ne_eq, reduceCtorEq, Nat.reduceLT, Nat.reduceLeDiff, Nat.reduceAdd, Nat.reduceMul, Nat.reduceBEq, Nat.reduceEqDiff, Int.reduceToNat, Int.reduceLT, Int.reduceLE, Nat.reduceSub, pl26, ft1, ft2, ft3, ft22, ft26, ft27, ft28, ft29, ft30, ft31, ft32, ft33, ft41, ft42, ft43, ft44, ft45, ft46, ft48, ft73, ft75, ft78, ft80, ft96, ft103, ft106, ft110, ft113, ft116, ft119, ft124, a0, a3, a4, b1, j1, r1]
    have hap : AP F g i xs xs Z Z := hol1.toAP
    refine LoopK.intro (fun w a g => ∃ (j : Nat) (ys : Nat → AV) (Y : Nat → List Int) (t : AV), w = i - j ∧ j ≤ i ∧ AP (fun k => F k ∨ idOf t = some k) g i xs ys Z Y ∧ CA F g t ((List.range j).map ys) ∧ (∀ d, d < j → Y d = marks d ((X d).length + 80)) ∧ (∀ d, j ≤ d → Y d = Z d ∧ ys d = xs d) ∧ (∀ k, F k → g[k]? = h[k]?) ∧ h.length ≤ g.length ∧ a 0 = .op B 14 0 0 ∧ a 3 = t ∧ a 6 = .int .i64 j) i ⟨0, xs, Z, .nils, rfl, Nat.zero_le _, hap.keep (Nat.le_refl _) (fun _ _ _ => rfl) (fun k hk => .inl (hk.elim id fun e => by cases e)), .inl ⟨rfl, rfl⟩, fun d hd => absurd hd (Nat.not_lt_zero _), fun d _ => ⟨rfl, rfl⟩, hF1, by omega, ?_⟩ ?_
    · simp (maxSteps := 4000000) only [↓packA, ↓reduceIte, packB, pureOp, quietOp, loadOp, quietB, fr0, cellsK, implies_true, ite_true, ite_false, eq_self, ne_eq, reduceCtorEq, Nat.reduceLT, Nat.reduceLeDiff, Nat.reduceAdd, Nat.reduceMul, Nat.reduceBEq, Nat.reduceEqDiff, Int.reduceToNat, Int.reduceLT, Int.reduceLE, Nat.reduceSub, pl26, ft1, ft2, ft3, ft22, ft26, ft27, ft28, ft29, ft30, ft31, ft32, ft33, ft41, ft42, ft43, ft44, ft45, ft46, ft48, ft73, ft75, ft78, ft80, ft96, ft103, ft106, ft110, ft113, ft116, ft119, ft124, a0, a3, a4, Int.natCast_zero]
    clear a0 a3 a4 b1 j1 hol1 hF1 hl1 hap
    rintro w a g ⟨j, ys, Y, t, rfl, hj, hap, hca, hY1, hY2, hF1, hl1, a0, a3, a6⟩
    have b1 := (hF1 B hFB).trans hB
    have j1 := (hF1 J hFJ).trans hJ
    by_cases r : j < i
    · have r2 : (j : Int) < (i : Int) := by omega
      have hei := hes j r
      have hXj := hX j r
      have hxj : xs j = .nils ∨ ∃ id len cap ex, xs j = .osl id 1 0 len cap ex := bc_form (hap.bx j r)
      simp (maxSteps := 4000000) only [↓packA, ↓reduceIte, packB, pureOp, quietOp, loadOp, quietB, fr0, cellsK, implies_true, ite_true, ite_false, eq_self, ne_eq, reduceCtorEq, Nat.reduceLT, Nat.reduceLeDiff, Nat.reduceAdd, Nat.reduceMul, Nat.reduceBEq, Nat.reduceEqDiff, Int.reduceToNat, Int.reduceLT, Int.reduceLE, Nat.reduceSub, pl26, ft1, ft2, ft3, ft22, ft26, ft27, ft28, ft29, ft30, ft31, ft32, ft33, ft41, ft42, ft43, ft44, ft45, ft46, ft48, ft73, ft75, ft78, ft80, ft96, ft103, ft106, ft110, ft113, ft116, ft119, ft124, a0, a3, a6, b1, j1, r2, hei]
      refine ⟨by omega, LoopK.intro (fun w a g => ∃ (q : Nat) (ys : Nat → AV) (Y : Nat → List Int), w = 80 - q ∧ q ≤ 80 ∧ AP (fun k => F k ∨ idOf t = some k) g i xs ys Z Y ∧ CA F g t ((List.range j).map ys) ∧ (∀ d, d < j → Y d = marks d ((X d).length + 80)) ∧ Y j = marks j ((X j).length + q) ∧ (∀ d, j < d → Y d = Z d ∧ ys d = xs d) ∧ (∀ k, F k → g[k]? = h[k]?) ∧ h.length ≤ g.length ∧ a 0 = .op B 14 0 0 ∧ a 3 = t ∧ a 6 = .int .i64 j ∧ a 7 = ys j ∧ a 8 = .int .i64 q) 80 ⟨0, ys, Y, rfl, Nat.zero_le _, hap, hca, hY1, ?_, fun d hd => hY2 d (by omega), hF1, hl1, ?_⟩ ?_⟩
      · rw [(hY2 j (Nat.le_refl _)).1, hZ1 j r]; rfl
      · simp (maxSteps := 4000000) only [↓packA, ↓reduceIte, packB, pureOp, quietOp, loadOp, quietB, fr0, cellsK, implies_true, ite_true, ite_false, eq_self, ne_eq, reduceCtorEq, Nat.reduceLT, Nat.reduceLeDiff, Nat.reduceAdd, Nat.reduceMul, Nat.reduceBEq, Nat.reduceEqDiff, Int.reduceToNat, Int.reduceLT, Int.reduceLE, Nat.reduceSub, pl26, ft1, ft2, ft3, ft22, ft26, ft27, ft28, ft29, ft30, ft31, ft32, ft33, ft41, ft42, ft43, ft44, ft45, ft46, ft48, ft73, ft75, ft78, ft80, ft96, ft103, ft106, ft110, ft113, ft116, ft119, ft124, a0, a3, a6, Int.natCast_zero, (hY2 j (Nat.le_refl _)).2]
      clear a0 a3 a6 b1 j1 hap hca hY1 hY2 hF1 hl1 hxj
      rintro w a g' ⟨q, ys, Y, rfl, hq8, hap, hca, hY1, hYj, hY2, hF1, hl1, a0, a3, a6, a7, a8⟩
      have b1 := (hF1 B hFB).trans hB
      have j1 := (hF1 J hFJ).trans hJ
      have hyj := hap.yy j r
      have hYl : (Y j).length = (X j).length + q := by rw [hYj, marks_len]
      obtain ⟨M, hM⟩ : ∃ M, g'.length = M := ⟨_, rfl⟩
      have rM : ∀ o, (g' ++ [o])[M]? = some o := fun o => by rw [List.getElem?_append_right (by omega)]; simp [hM]
      by_cases r3 : q < 80
      · have r4 : (q : Int) < 80 := by omega
        simp (maxSteps := 4000000) only [↓packA, ↓reduceIte, packB, pureOp, quietOp, loadOp, quietB, fr0, cellsK, implies_true, ite_true, ite_false, eq_self, ne_eq, reduceCtorEq, Nat.reduceLT, Nat.reduceLeDiff, Nat.reduceAdd, Nat.reduceMul, Nat.reduceBEq, Nat.reduceEqDiff, Int.reduceToNat, Int.reduceLT, Int.reduceLE, Nat.reduceSub, pl26, ft1, ft2, ft3, ft22, ft26, ft27, ft28, ft29, ft30, ft31, ft32, ft33, ft41, ft42, ft43, ft44, ft45, ft46, ft48, ft73, ft75, ft78, ft80, ft96, ft103, ft106, ft110, ft113, ft116, ft119, ft124, a0, a3, a6, a7, a8, b1, j1, r4, lenK_bc hyj]
        refine acalls_pure (mark_c j (Y j).length (by omega) (by omega)) rfl ?_
        simp (maxSteps := 4000000) only [↓packA, ↓reduceIte, packB, pureOp, quietOp, loadOp, quietB, fr0, cellsK, implies_true, ite_true, ite_false, eq_self, ne_eq, reduceCtorEq, Nat.reduceLT, Nat.reduceLeDiff, Nat.reduceAdd, Nat.reduceMul, Nat.reduceBEq, Nat.reduceEqDiff, Int.reduceToNat, Int.reduceLT, Int.reduceLE, Nat.reduceSub, pl26, ft1, ft2, ft3, ft22, ft26, ft27, ft28, ft29, ft30, ft31, ft32, ft33, ft41, ft42, ft43, ft44, ft45, ft46, ft48, ft73, ft75, ft78, ft80, ft96, ft103, ft106, ft110, ft113, ft116, ft119, ft124, a0, a3, a6, a7, a8, b1, j1, r4, hM, rM]
        refine AP.push (hap.app _) r (by omega) fun y' h' hf hl2 hk2 hap2 => ?_
        obtain ⟨yi, yl, yc, ye, rfl⟩ := hf
        simp (maxSteps := 4000000) only [↓packA, ↓reduceIte, packB, pureOp, quietOp, loadOp, quietB, fr0, cellsK, implies_true, ite_true, ite_false, eq_self, ne_eq, reduceCtorEq, Nat.reduceLT, Nat.reduceLeDiff, Nat.reduceAdd, Nat.reduceMul, Nat.reduceBEq, Nat.reduceEqDiff, Int.reduceToNat, Int.reduceLT, Int.reduceLE, Nat.reduceSub, pl26, ft1, ft2, ft3, ft22, ft26, ft27, ft28, ft29, ft30, ft31, ft32, ft33, ft41, ft42, ft43, ft44, ft45, ft46, ft48, ft73, ft75, ft78, ft80, ft96, ft103, ft106, ft110, ft113, ft116, ft119, ft124, a0, a3, a6, a7, a8]
        refine ⟨by omega, .inl ⟨80 - (q + 1), by omega, q + 1, _, _, rfl, by omega, hap2, ?_, fun d hd => ?_, ?_, fun d hd => ?_, fun k hk => ?_, ?_, by rw [fup_same], by omega⟩⟩
        · have e : (List.range j).map (fup ys j (.osl yi 1 0 yl yc ye)) = (List.range j).map ys := List.map_congr_left fun d hd => fup_ne (by have := List.mem_range.1 hd; omega)
          rw [e]
          exact hca.keep fun id e hlt hn => ⟨hn, (hk2 id (.inr e)).trans (List.getElem?_append_left hlt)⟩
        · rw [updB_ne (by omega)]; exact hY1 d hd
        · rw [updB_same, hYl, hYj, ← marks_succ]; rfl
        · rw [updB_ne (by omega), fup_ne (by omega)]; exact hY2 d hd
        · rw [hk2 k (.inl hk), List.getElem?_append_left (by have := hap.fix k (.inl hk); omega), hF1 k hk]
        · simp at hl2; omega
      · obtain rfl : q = 80 := by omega
        have hcall : ∀ t' h', CA F h' t' ((List.range j).map ys ++ [ys j]) → (∀ i, i < (g' ++ [Ob.arr 1 [[ys j]] true]).length → idOf t ≠ some i → h'[i]? = (g' ++ [Ob.arr 1 [[ys j]] true])[i]?) → (g' ++ [Ob.arr 1 [[ys j]] true]).length ≤ h'.length → (∀ i, idOf t' = some i → idOf t = some i ∨ (g' ++ [Ob.arr 1 [[ys j]] true]).length ≤ i) →
            AP (fun k => F k ∨ idOf t' = some k) h' i xs ys Z Y ∧ CA F h' t' ((List.range (j + 1)).map ys) ∧ (∀ d, d < j + 1 → Y d = marks d ((X d).length + 80)) ∧ (∀ d, j + 1 ≤ d → Y d = Z d ∧ ys d = xs d) ∧ (∀ k, F k → h'[k]? = h[k]?) ∧ h.length ≤ h'.length := fun t' h' h1 h2 h3 h4 => by
          simp only [List.length_append, List.length_singleton] at h2 h3 h4
          refine ⟨hap.keep (by omega) (fun k hk hn => ?_) (fun k hk => ?_), by rw [List.range_succ, List.map_append]; exact h1, fun d hd => ?_, fun d hd => hY2 d (by omega), fun k hk => ?_, by omega⟩
          · rw [h2 k (by omega) (fun e => hn (.inr e)), List.getElem?_append_left hk]
          · rcases hk with hk | hk
            · exact .inl (.inl hk)
            · rcases h4 k hk with h5 | h5
              · exact .inl (.inr h5)
              · exact .inr ⟨by omega, (h1.lt hk).1⟩
          · by_cases c : d = j
            · subst c; exact hYj
            · exact hY1 d (by omega)
          · have := hap.fix k (.inl hk)
            rw [h2 k (by omega) (fun e => (hca.lt e).2 hk), List.getElem?_append_left this, hF1 k hk]
        have hcg : CA F (g' ++ [Ob.arr 1 [[ys j]] true]) t ((List.range j).map ys) := hca.keep fun id _ hl hn => ⟨hn, List.getElem?_append_left hl⟩
        have hfg : ∀ k, F k → k < (g' ++ [Ob.arr 1 [[ys j]] true]).length := fun k hk => by have := hap.fix k (.inl hk); simp; omega
        have hsm : ((List.range j).map ys).length < 900000 := by simp; omega
        rcases bc_form hyj with hn | ⟨yi, yl, yc, ye, hn⟩
        · rw [hn] at hcall hcg hfg a7
          simp (maxSteps := 4000000) only [↓packA, ↓reduceIte, packB, pureOp, quietOp, loadOp, quietB, fr0, cellsK, implies_true, ite_true, ite_false, eq_self, ne_eq, reduceCtorEq, Nat.reduceLT, Nat.reduceLeDiff, Nat.reduceAdd, Nat.reduceMul, Nat.reduceBEq, Nat.reduceEqDiff, Int.reduceToNat, Int.reduceLT, Int.reduceLE, Nat.reduceSub, pl26, ft1, ft2, ft3, ft22, ft26, ft27, ft28, ft29, ft30, ft31, ft32, ft33, ft41, ft42, ft43, ft44, ft45, ft46, ft48, ft73, ft75, ft78, ft80, ft96, ft103, ft106, ft110, ft113, ft116, ft119, ft124, a0, a3, a6, a7, a8, b1, j1, hM, rM, Int.cast_ofNat_Int, Int.natCast_zero, Int.natCast_one, Int.reduceAdd, Int.reduceSub, Int.reduceNeg, Int.reduceMul, Int.reduceToNat, Int.reduceLT, Int.reduceLE, Int.reduceEq, Int.reduceBEq, Int.reduceBNe, Nat.reduceSub, Nat.reduceLT, List.getD_cons_zero, List.getD_cons_succ, List.length_singleton, Bool.and_true, Bool.and_false]
          refine push_ca hcg hfg hsm fun t' h' h1 h2 h3 h4 h5 => ?_
          obtain ⟨c1, c2, c3, c4, c5, c6⟩ := hcall t' h' h1 h2 h3 h4
          obtain ⟨J2, n2, cap2, ex2, rfl⟩ := h5
          simp (maxSteps := 4000000) only [↓packA, ↓reduceIte, packB, pureOp, quietOp, loadOp, quietB, fr0, cellsK, implies_true, ite_true, ite_false, eq_self, ne_eq, reduceCtorEq, Nat.reduceLT, Nat.reduceLeDiff, Nat.reduceAdd, Nat.reduceMul, Nat.reduceBEq, Nat.reduceEqDiff, Int.reduceToNat, Int.reduceLT, Int.reduceLE, Nat.reduceSub, pl26, ft1, ft2, ft3, ft22, ft26, ft27, ft28, ft29, ft30, ft31, ft32, ft33, ft41, ft42, ft43, ft44, ft45, ft46, ft48, ft73, ft75, ft78, ft80, ft96, ft103, ft106, ft110, ft113, ft116, ft119, ft124, a0, a3, a6, a7, a8, Int.cast_ofNat_Int, Int.natCast_zero, Int.natCast_one, Int.reduceAdd, Int.reduceSub, Int.reduceNeg, Int.reduceMul, Int.reduceToNat, Int.reduceLT, Int.reduceLE, Int.reduceEq, Int.reduceBEq, Int.reduceBNe, Nat.reduceSub, Nat.reduceLT, List.getD_cons_zero, List.getD_cons_succ, List.length_singleton, Bool.and_true, Bool.and_false]
          exact ⟨by omega, .inl ⟨i - (j + 1), by omega, j + 1, ys, Y, _, rfl, by omega, c1, c2, c3, c4, c5, c6, rfl, by omega⟩⟩
        · rw [hn] at hcall hcg hfg a7
          simp (maxSteps := 4000000) only [↓packA, ↓reduceIte, packB, pureOp, quietOp, loadOp, quietB, fr0, cellsK, implies_true, ite_true, ite_false, eq_self, ne_eq, reduceCtorEq, Nat.reduceLT, Nat.reduceLeDiff, Nat.reduceAdd, Nat.reduceMul, Nat.reduceBEq, Nat.reduceEqDiff, Int.reduceToNat, Int.reduceLT, Int.reduceLE, Nat.reduceSub, pl26, ft1, ft2, ft3, ft22, ft26, ft27, ft28, ft29, ft30, ft31, ft32, ft33, ft41, ft42, ft43, ft44, ft45, ft46, ft48, ft73, ft75, ft78, ft80, ft96, ft103, ft106, ft110, ft113, ft116, ft119, ft124, a0, a3, a6, a7, a8, b1, j1, hM, rM, Int.cast_ofNat_Int, Int.natCast_zero, Int.natCast_one, Int.reduceAdd, Int.reduceSub, Int.reduceNeg, Int.reduceMul, Int.reduceToNat, Int.reduceLT, Int.reduceLE, Int.reduceEq, Int.reduceBEq, Int.reduceBNe, Nat.reduceSub, Nat.reduceLT, List.getD_cons_zero, List.getD_cons_succ, List.length_singleton, Bool.and_true, Bool.and_false]
          refine push_ca hcg hfg hsm fun t' h' h1 h2 h3 h4 h5 => ?_
          obtain ⟨c1, c2, c3, c4, c5, c6⟩ := hcall t' h' h1 h2 h3 h4
          obtain ⟨J2, n2, cap2, ex2, rfl⟩ := h5
          simp (maxSteps := 4000000) only [↓packA, ↓reduceIte, packB, pureOp, quietOp, loadOp, quietB, fr0, cellsK, implies_true, ite_true, ite_false, eq_self, ne_eq, reduceCtorEq, Nat.reduceLT, Nat.reduceLeDiff, Nat.reduceAdd, Nat.reduceMul, Nat.reduceBEq, Nat.reduceEqDiff, Int.reduceToNat, Int.reduceLT, Int.reduceLE, Nat.reduceSub, pl26, ft1, ft2, ft3, ft22, ft26, ft27, ft28, ft29, ft30, ft31, ft32, ft33, ft41, ft42, ft43, ft44, ft45, ft46, ft48, ft73, ft75, ft78, ft80, ft96, ft103, ft106, ft110, ft113, ft116, ft119, ft124, a0, a3, a6, a7, a8, Int.cast_ofNat_Int, Int.natCast_zero, Int.natCast_one, Int.reduceAdd, Int.reduceSub, Int.reduceNeg, Int.reduceMul, Int.reduceToNat, Int.reduceLT, Int.reduceLE, Int.reduceEq, Int.reduceBEq, Int.reduceBNe, Nat.reduceSub, Nat.reduceLT, List.getD_cons_zero, List.getD_cons_succ, List.length_singleton, Bool.and_true, Bool.and_false]
          exact ⟨by omega, .inl ⟨i - (j + 1), by omega, j + 1, ys, Y, _, rfl, by omega, c1, c2, c3, c4, c5, c6, rfl, by omega⟩⟩
    · have r2 : ¬ (j : Int) < (i : Int) := by omega
      obtain rfl : j = i := by omega
      simp (maxSteps := 4000000) only [↓packA, ↓reduceIte, packB, pureOp, quietOp, loadOp, quietB, fr0, cellsK, implies_true, ite_true, ite_false, eq_self, ne_eq, reduceCtorEq, Nat.reduceLT, Nat.reduceLeDiff, Nat.reduceAdd, Nat.reduceMul, Nat.reduceBEq, Nat.reduceEqDiff, Int.reduceToNat, Int.reduceLT, Int.reduceLE, Nat.reduceSub, pl26, ft1, ft2, ft3, ft22, ft26, ft27, ft28, ft29, ft30, ft31, ft32, ft33, ft41, ft42, ft43, ft44, ft45, ft46, ft48, ft73, ft75, ft78, ft80, ft96, ft103, ft106, ft110, ft113, ft116, ft119, ft124, a0, a3, a6, b1, j1, r2]
      refine LoopK.intro (fun w a g' => ∃ (d : Nat), w = j - d ∧ d ≤ j ∧ g' = g ∧ a 0 = .op B 14 0 0 ∧ a 3 = t ∧ a 9 = .int .i64 d) j ⟨0, rfl, Nat.zero_le _, rfl, ?_⟩ ?_
      · simp (maxSteps := 4000000) only [↓packA, ↓reduceIte, packB, pureOp, quietOp, loadOp, quietB, fr0, cellsK, implies_true, ite_true, ite_false, eq_self, ne_eq, reduceCtorEq, Nat.reduceLT, Nat.reduceLeDiff, Nat.reduceAdd, Nat.reduceMul, Nat.reduceBEq, Nat.reduceEqDiff, Int.reduceToNat, Int.reduceLT, Int.reduceLE, Nat.reduceSub, pl26, ft1, ft2, ft3, ft22, ft26, ft27, ft28, ft29, ft30, ft31, ft32, ft33, ft41, ft42, ft43, ft44, ft45, ft46, ft48, ft73, ft75, ft78, ft80, ft96, ft103, ft106, ft110, ft113, ft116, ft119, ft124, a0, a3, a6, Int.natCast_zero]
      clear a0 a3 a6
      rintro w a g' ⟨d, rfl, hd, rfl, a0, a3, a9⟩
      have htl : ((List.range j).map ys).length = j := by simp
      by_cases r3 : d < j
      · have r4 : (d : Int) < (j : Int) := by omega
        simp (maxSteps := 4000000) only [↓packA, ↓reduceIte, packB, pureOp, quietOp, loadOp, quietB, fr0, cellsK, implies_true, ite_true, ite_false, eq_self, ne_eq, reduceCtorEq, Nat.reduceLT, Nat.reduceLeDiff, Nat.reduceAdd, Nat.reduceMul, Nat.reduceBEq, Nat.reduceEqDiff, Int.reduceToNat, Int.reduceLT, Int.reduceLE, Nat.reduceSub, pl26, ft1, ft2, ft3, ft22, ft26, ft27, ft28, ft29, ft30, ft31, ft32, ft33, ft41, ft42, ft43, ft44, ft45, ft46, ft48, ft73, ft75, ft78, ft80, ft96, ft103, ft106, ft110, ft113, ft116, ft119, ft124, a0, a3, a9, b1, j1, r4, lenK_ca hca, htl]
        have hyd := hap.yy d r3
        have hxd := hap.bx d r3
        rw [hZ1 d r3] at hxd
        rw [hY1 d r3] at hyd
        have hed := hes d r3
        have hXd := hX d r3
        have hlx : (marks d (X d).length).length = (X d).length := marks_len
        have hly : (marks d ((X d).length + 80)).length = (X d).length + 80 := marks_len
        obtain ⟨J2, cap2, ex2, es3, ex3, htf, hj2, hed2⟩ : ∃ J2 cap2 ex2 es3 ex3, t = .osl J2 1 0 j cap2 ex2 ∧ g'[J2]? = some (.arr 1 es3 ex3) ∧ es3[d]? = some [ys d] := by
          rcases hca with ⟨_, e⟩ | ⟨J2, cap2, ex2, es3, ex3, h1, h2, h3, h4, h5, h6⟩
          · rw [e] at htl; simp at htl; omega
          · rw [htl] at h1 h6
            refine ⟨J2, cap2, ex2, es3, ex3, h1, h3, ?_⟩
            rw [← List.getElem?_take_of_lt r3, h6]
            simp [List.getElem?_map, List.getElem?_range r3]
        rw [htf] at a3
        refine LoopK.intro (fun w a g2 => ∃ (k : Nat), w = (X d).length + 80 - k ∧ k ≤ (X d).length + 80 ∧ g2 = g' ∧ a 0 = .op B 14 0 0 ∧ a 3 = .osl J2 1 0 j cap2 ex2 ∧ a 9 = .int .i64 d ∧ a 10 = .int .i64 k) ((X d).length + 80) ⟨0, rfl, Nat.zero_le _, rfl, ?_⟩ ?_
        · simp (maxSteps := 4000000) only [↓packA, ↓reduceIte, packB, pureOp, quietOp, loadOp, quietB, fr0, cellsK, implies_true, ite_true, ite_false, eq_self, ne_eq, reduceCtorEq, Nat.reduceLT, Nat.reduceLeDiff, Nat.reduceAdd, Nat.reduceMul, Nat.reduceBEq, Nat.reduceEqDiff, Int.reduceToNat, Int.reduceLT, Int.reduceLE, Nat.reduceSub, pl26, ft1, ft2, ft3, ft22, ft26, ft27, ft28, ft29, ft30, ft31, ft32, ft33, ft41, ft42, ft43, ft44, ft45, ft46, ft48, ft73, ft75, ft78, ft80, ft96, ft103, ft106, ft110, ft113, ft116, ft119, ft124, a0, a3, a9, Int.natCast_zero]
        clear a0 a3 a9
        rintro w a g2 ⟨k, rfl, hk, rfl, a0, a3, a9, a10⟩
        by_cases r5 : k < (X d).length + 80
        · obtain ⟨yi, yc, ye, es4, ex4, hyf, y1, y2, y3, y4⟩ := hyd.open (by omega)
          rw [hly] at hyf y3 y4
          have v4 : es4.getD k default = mkI d k := (take_getD y4 r5).trans (marks_get r5)
          rw [hyf] at hed2
          have r6 : (k : Int) < (((X d).length + 80 : Nat) : Int) := by omega
          by_cases r7 : k < (X d).length
          · obtain ⟨xi, xc, xe, es5, ex5, hxf, x1, x2, x3, x4⟩ := hxd.open (by omega)
            rw [hlx] at hxf x3 x4
            have v5 : es5.getD k default = mkI d k := (take_getD x4 r7).trans (marks_get r7)
            rw [hxf] at hed
            have r8 : (k : Int) < ((X d).length : Int) := by omega
            simp (maxSteps := 4000000) only [↓packA, ↓reduceIte, packB, pureOp, quietOp, loadOp, quietB, fr0, cellsK, implies_true, ite_true, ite_false, eq_self, ne_eq, reduceCtorEq, Nat.reduceLT, Nat.reduceLeDiff, Nat.reduceAdd, Nat.reduceMul, Nat.reduceBEq, Nat.reduceEqDiff, Int.reduceToNat, Int.reduceLT, Int.reduceLE, Nat.reduceSub, pl26, ft1, ft2, ft3, ft22, ft26, ft27, ft28, ft29, ft30, ft31, ft32, ft33, ft41, ft42, ft43, ft44, ft45, ft46, ft48, ft73, ft75, ft78, ft80, ft96, ft103, ft106, ft110, ft113, ft116, ft119, ft124, a0, a3, a9, a10, b1, j1, hj2, hed, hed2, y2, x2, r6, r8, v4, v5]
            refine ⟨by omega, by omega, by omega, by omega, acalls_pure (mark_c d k (by omega) (by omega)) rfl ?_⟩
            simp (maxSteps := 4000000) only [↓packA, ↓reduceIte, packB, pureOp, quietOp, loadOp, quietB, fr0, cellsK, implies_true, ite_true, ite_false, eq_self, ne_eq, reduceCtorEq, Nat.reduceLT, Nat.reduceLeDiff, Nat.reduceAdd, Nat.reduceMul, Nat.reduceBEq, Nat.reduceEqDiff, Int.reduceToNat, Int.reduceLT, Int.reduceLE, Nat.reduceSub, pl26, ft1, ft2, ft3, ft22, ft26, ft27, ft28, ft29, ft30, ft31, ft32, ft33, ft41, ft42, ft43, ft44, ft45, ft46, ft48, ft73, ft75, ft78, ft80, ft96, ft103, ft106, ft110, ft113, ft116, ft119, ft124, a0, a3, a9, a10, b1, j1, hj2, hed, hed2, y2, x2, r6, r8, v4, v5]
            refine ⟨by omega, by omega, by omega, by omega, by omega, acalls_pure (mark_c d k (by omega) (by omega)) rfl ?_⟩
            simp (maxSteps := 4000000) only [↓packA, ↓reduceIte, packB, pureOp, quietOp, loadOp, quietB, fr0, cellsK, implies_true, ite_true, ite_false, eq_self, ne_eq, reduceCtorEq, Nat.reduceLT, Nat.reduceLeDiff, Nat.reduceAdd, Nat.reduceMul, Nat.reduceBEq, Nat.reduceEqDiff, Int.reduceToNat, Int.reduceLT, Int.reduceLE, Nat.reduceSub, pl26, ft1, ft2, ft3, ft22, ft26, ft27, ft28, ft29, ft30, ft31, ft32, ft33, ft41, ft42, ft43, ft44, ft45, ft46, ft48, ft73, ft75, ft78, ft80, ft96, ft103, ft106, ft110, ft113, ft116, ft119, ft124, a0, a3, a9, a10, b1, j1, hj2, hed, hed2, y2, x2, r6, r8, v4, v5]
            exact ⟨by omega, by omega, .inl ⟨(X d).length + 80 - (k + 1), by omega, k + 1, rfl, by omega, by omega⟩⟩
          · have r8 : ¬ (k : Int) < ((X d).length : Int) := by omega
            simp (maxSteps := 4000000) only [↓packA, ↓reduceIte, packB, pureOp, quietOp, loadOp, quietB, fr0, cellsK, implies_true, ite_true, ite_false, eq_self, ne_eq, reduceCtorEq, Nat.reduceLT, Nat.reduceLeDiff, Nat.reduceAdd, Nat.reduceMul, Nat.reduceBEq, Nat.reduceEqDiff, Int.reduceToNat, Int.reduceLT, Int.reduceLE, Nat.reduceSub, pl26, ft1, ft2, ft3, ft22, ft26, ft27, ft28, ft29, ft30, ft31, ft32, ft33, ft41, ft42, ft43, ft44, ft45, ft46, ft48, ft73, ft75, ft78, ft80, ft96, ft103, ft106, ft110, ft113, ft116, ft119, ft124, a0, a3, a9, a10, b1, j1, hj2, hed, hed2, y2, r6, r8, v4, lenK_bc hxd, hlx]
            refine ⟨by omega, by omega, by omega, by omega, acalls_pure (mark_c d k (by omega) (by omega)) rfl ?_⟩
            simp (maxSteps := 4000000) only [↓packA, ↓reduceIte, packB, pureOp, quietOp, loadOp, quietB, fr0, cellsK, implies_true, ite_true, ite_false, eq_self, ne_eq, reduceCtorEq, Nat.reduceLT, Nat.reduceLeDiff, Nat.reduceAdd, Nat.reduceMul, Nat.reduceBEq, Nat.reduceEqDiff, Int.reduceToNat, Int.reduceLT, Int.reduceLE, Nat.reduceSub, pl26, ft1, ft2, ft3, ft22, ft26, ft27, ft28, ft29, ft30, ft31, ft32, ft33, ft41, ft42, ft43, ft44, ft45, ft46, ft48, ft73, ft75, ft78, ft80, ft96, ft103, ft106, ft110, ft113, ft116, ft119, ft124, a0, a3, a9, a10, b1, j1, hj2, hed, hed2, y2, r6, r8, v4, lenK_bc hxd, hlx]
            exact ⟨by omega, by omega, by omega, .inl ⟨(X d).length + 80 - (k + 1), by omega, k + 1, rfl, by omega, by omega⟩⟩
        · obtain rfl : k = (X d).length + 80 := by omega
          have r6 : ¬ (((X d).length + 80 : Nat) : Int) < (((X d).length + 80 : Nat) : Int) := by omega
          simp (maxSteps := 4000000) only [↓packA, ↓reduceIte, packB, pureOp, quietOp, loadOp, quietB, fr0, cellsK, implies_true, ite_true, ite_false, eq_self, ne_eq, reduceCtorEq, Nat.reduceLT, Nat.reduceLeDiff, Nat.reduceAdd, Nat.reduceMul, Nat.reduceBEq, Nat.reduceEqDiff, Int.reduceToNat, Int.reduceLT, Int.reduceLE, Nat.reduceSub, pl26, ft1, ft2, ft3, ft22, ft26, ft27, ft28, ft29, ft30, ft31, ft32, ft33, ft41, ft42, ft43, ft44, ft45, ft46, ft48, ft73, ft75, ft78, ft80, ft96, ft103, ft106, ft110, ft113, ft116, ft119, ft124, a0, a3, a9, a10, b1, j1, hj2, hed, hed2, lenK_bc hyd, hly, r6]
          exact ⟨by omega, by omega, .inl ⟨j - (d + 1), by omega, d + 1, rfl, by omega, htf.symm, by omega⟩⟩
      · have r4 : ¬ (d : Int) < (j : Int) := by omega
        simp (maxSteps := 4000000) only [↓packA, ↓reduceIte, packB, pureOp, quietOp, loadOp, quietB, fr0, cellsK, implies_true, ite_true, ite_false, eq_self, ne_eq, reduceCtorEq, Nat.reduceLT, Nat.reduceLeDiff, Nat.reduceAdd, Nat.reduceMul, Nat.reduceBEq, Nat.reduceEqDiff, Int.reduceToNat, Int.reduceLT, Int.reduceLE, Nat.reduceSub, pl26, ft1, ft2, ft3, ft22, ft26, ft27, ft28, ft29, ft30, ft31, ft32, ft33, ft41, ft42, ft43, ft44, ft45, ft46, ft48, ft73, ft75, ft78, ft80, ft96, ft103, ft106, ft110, ft113, ft116, ft119, ft124, a0, a3, a9, b1, j1, r4, lenK_ca hca, htl]
        exact hq _ hF1 hl1
end Go.Proofs.YtgdlkhgfehclpaaGreat
end

section
/- Order of every kind, the document's. No condition. -/
namespace Go.Proofs.YtgdlkhgfehclpaaGreat
open Go Go.AL
set_option linter.unusedVariables false
set_option linter.unusedSimpArgs false
theorem ofz_two_inv {h : Heap} {u a b : AV} (hz : OFz h u (.tup [a, b])) : ∃ x y, u = .tup [x, y] ∧ OFz h x a ∧ OFz h y b := ofz_pair hz
theorem copy_z (xs : List Int) (hb : xs.length < 1000000000) : ACalls Tryz.prog 14 [ints xs] [] fun v h => OFz h v (ints xs) :=
  (copy_c xs hb).mono fun u h hh => by
    obtain ⟨rfl, rfl⟩ := hh
    have := OFz.osl (h := [Ob.arr 1 (List.map intE (xs ++ [0, 0, 0])) true]) 0 1 0 xs.length (xs.length + 3) true true (List.map intE (xs ++ [0, 0, 0])) rfl (by simp) (fun e he => by
      obtain ⟨x, _, rfl⟩ := List.mem_map.1 he; rfl)
    rw [List.drop_zero, ← List.map_take, List.take_left' rfl] at this
    exact this
set_option maxHeartbeats 4000000 in
set_option maxRecDepth 100000 in
theorem rorder_c (kd rows width : Int) (st cs xs : List Int) (hb : st.length < 1000000000) (hb2 : cs.length < 1000000000) (hbx : xs.length < 1000000000) : ACalls Tryz.prog 72 [.int .i64 kd, pat rows width st cs, ints xs] [] fun v h => OFz h v (ordV kd rows width st cs xs) := by
  refine (wp72 rfl rfl ?_)
  simp (maxSteps := 4000000) only [↓packA, ↓reduceIte, packB, pureOp, quietOp, loadOp, quietB, fr0, cellsK, implies_true, ite_true, ite_false, eq_self, ne_eq, reduceCtorEq, Nat.reduceLT, Nat.reduceLeDiff, Nat.reduceAdd, Nat.reduceMul, Nat.reduceBEq, Nat.reduceEqDiff, Int.reduceToNat, Int.reduceLT, Int.reduceLE, Nat.reduceSub, pl72, ft3, ft4, ft22, ft24, ft49, ints]
  refine acalls_pure (rgraph_c rows width st cs hb hb2) rfl ?_
  by_cases hg : graphP rows width st cs
  · obtain ⟨n, rfl, rfl, hn⟩ := graph_sides hg
    have hm := hg.1.1
    have he : ∀ d l e, d = kd → ordL d n n st cs xs = l → ordE d n n st cs xs = e → ordV kd n n st cs xs = .tup [ints l, .int .i64 e] := fun d l e h1 h2 h3 => by rw [← h2, ← h3, h1]; rfl
    by_cases c1 : kd = 1
    · subst c1
      rw [he 1 (natL n) 0 rfl (by unfold ordL; simp [hg]) (by unfold ordE; simp [hg])]
      simp (maxSteps := 4000000) only [↓packA, ↓reduceIte, packB, pureOp, quietOp, loadOp, quietB, fr0, cellsK, implies_true, ite_true, ite_false, eq_self, ne_eq, reduceCtorEq, Nat.reduceLT, Nat.reduceLeDiff, Nat.reduceAdd, Nat.reduceMul, Nat.reduceBEq, Nat.reduceEqDiff, Int.reduceToNat, Int.reduceLT, Int.reduceLE, Nat.reduceSub, pl72, ft3, ft4, ft22, ft24, ft49, ints, hg, Int.cast_ofNat_Int, Int.natCast_zero, Int.natCast_one, Int.reduceAdd, Int.reduceSub, Int.reduceNeg, Int.reduceMul, Int.reduceToNat, Int.reduceLT, Int.reduceLE, Int.reduceEq, Int.reduceBEq, Int.reduceBNe, Nat.reduceSub, Nat.reduceLT, List.getD_cons_zero, List.getD_cons_succ, List.length_singleton, Bool.and_true, Bool.and_false]
      refine acalls_ofz (rnat_c n hn) rfl (fun u G hz _ => ?_)
      simp (maxSteps := 4000000) only [↓packA, ↓reduceIte, packB, pureOp, quietOp, loadOp, quietB, fr0, cellsK, implies_true, ite_true, ite_false, eq_self, ne_eq, reduceCtorEq, Nat.reduceLT, Nat.reduceLeDiff, Nat.reduceAdd, Nat.reduceMul, Nat.reduceBEq, Nat.reduceEqDiff, Int.reduceToNat, Int.reduceLT, Int.reduceLE, Nat.reduceSub, pl72, ft3, ft4, ft22, ft24, ft49, Int.cast_ofNat_Int, Int.natCast_zero, Int.natCast_one, Int.reduceAdd, Int.reduceSub, Int.reduceNeg, Int.reduceMul, Int.reduceToNat, Int.reduceLT, Int.reduceLE, Int.reduceEq, Int.reduceBEq, Int.reduceBNe, Nat.reduceSub, Nat.reduceLT, List.getD_cons_zero, List.getD_cons_succ, List.length_singleton, Bool.and_true, Bool.and_false]
      exact .two hz (.flat _ rfl)
    by_cases c2 : kd = 2
    · subst c2
      rw [he 2 (lgL st cs n) 0 rfl (by unfold ordL; simp [hg]) (by unfold ordE; simp [hg])]
      simp (maxSteps := 4000000) only [↓packA, ↓reduceIte, packB, pureOp, quietOp, loadOp, quietB, fr0, cellsK, implies_true, ite_true, ite_false, eq_self, ne_eq, reduceCtorEq, Nat.reduceLT, Nat.reduceLeDiff, Nat.reduceAdd, Nat.reduceMul, Nat.reduceBEq, Nat.reduceEqDiff, Int.reduceToNat, Int.reduceLT, Int.reduceLE, Nat.reduceSub, pl72, ft3, ft4, ft22, ft24, ft49, ints, hg, Int.cast_ofNat_Int, Int.natCast_zero, Int.natCast_one, Int.reduceAdd, Int.reduceSub, Int.reduceNeg, Int.reduceMul, Int.reduceToNat, Int.reduceLT, Int.reduceLE, Int.reduceEq, Int.reduceBEq, Int.reduceBNe, Nat.reduceSub, Nat.reduceLT, List.getD_cons_zero, List.getD_cons_succ, List.length_singleton, Bool.and_true, Bool.and_false]
      refine acalls_ofz (rlar_c n hn st cs hb hb2 hm) rfl (fun u G hz _ => ?_)
      simp (maxSteps := 4000000) only [↓packA, ↓reduceIte, packB, pureOp, quietOp, loadOp, quietB, fr0, cellsK, implies_true, ite_true, ite_false, eq_self, ne_eq, reduceCtorEq, Nat.reduceLT, Nat.reduceLeDiff, Nat.reduceAdd, Nat.reduceMul, Nat.reduceBEq, Nat.reduceEqDiff, Int.reduceToNat, Int.reduceLT, Int.reduceLE, Nat.reduceSub, pl72, ft3, ft4, ft22, ft24, ft49, Int.cast_ofNat_Int, Int.natCast_zero, Int.natCast_one, Int.reduceAdd, Int.reduceSub, Int.reduceNeg, Int.reduceMul, Int.reduceToNat, Int.reduceLT, Int.reduceLE, Int.reduceEq, Int.reduceBEq, Int.reduceBNe, Nat.reduceSub, Nat.reduceLT, List.getD_cons_zero, List.getD_cons_succ, List.length_singleton, Bool.and_true, Bool.and_false]
      exact .two hz (.flat _ rfl)
    by_cases c3 : kd = 3
    · subst c3
      rw [he 3 (ordOf st cs n) 0 rfl (by unfold ordL; simp [hg]) (by unfold ordE; simp [hg])]
      simp (maxSteps := 4000000) only [↓packA, ↓reduceIte, packB, pureOp, quietOp, loadOp, quietB, fr0, cellsK, implies_true, ite_true, ite_false, eq_self, ne_eq, reduceCtorEq, Nat.reduceLT, Nat.reduceLeDiff, Nat.reduceAdd, Nat.reduceMul, Nat.reduceBEq, Nat.reduceEqDiff, Int.reduceToNat, Int.reduceLT, Int.reduceLE, Nat.reduceSub, pl72, ft3, ft4, ft22, ft24, ft49, ints, hg, Int.cast_ofNat_Int, Int.natCast_zero, Int.natCast_one, Int.reduceAdd, Int.reduceSub, Int.reduceNeg, Int.reduceMul, Int.reduceToNat, Int.reduceLT, Int.reduceLE, Int.reduceEq, Int.reduceBEq, Int.reduceBNe, Nat.reduceSub, Nat.reduceLT, List.getD_cons_zero, List.getD_cons_succ, List.length_singleton, Bool.and_true, Bool.and_false]
      refine acalls_shift (rsmall_c n hn st cs hb hb2 hm) rfl (fun u G hz => ?_)
      obtain ⟨H, hz⟩ := hz
      obtain ⟨x, y, hu, hx, hy⟩ := ofz_pair (ofz_shift (h := [Ob.arr 4 [[AV.int .i64 n, AV.int .i64 n, AV.isl 1 (List.map intE st), AV.isl 1 (List.map intE cs)]] true]) hz)
      simp only [List.length_singleton] at hu
      simp only [List.length_singleton, hu]
      generalize behind _ G = G' at *
      simp (maxSteps := 4000000) only [↓packA, ↓reduceIte, packB, pureOp, quietOp, loadOp, quietB, fr0, cellsK, implies_true, ite_true, ite_false, eq_self, ne_eq, reduceCtorEq, Nat.reduceLT, Nat.reduceLeDiff, Nat.reduceAdd, Nat.reduceMul, Nat.reduceBEq, Nat.reduceEqDiff, Int.reduceToNat, Int.reduceLT, Int.reduceLE, Nat.reduceSub, pl72, ft3, ft4, ft22, ft24, ft49, Int.cast_ofNat_Int, Int.natCast_zero, Int.natCast_one, Int.reduceAdd, Int.reduceSub, Int.reduceNeg, Int.reduceMul, Int.reduceToNat, Int.reduceLT, Int.reduceLE, Int.reduceEq, Int.reduceBEq, Int.reduceBNe, Nat.reduceSub, Nat.reduceLT, List.getD_cons_zero, List.getD_cons_succ, List.length_singleton, Bool.and_true, Bool.and_false]
      exact .two hx (.flat _ rfl)
    by_cases c4 : kd = 4
    · subst c4
      rw [he 4 (incL st cs n) 0 rfl (by unfold ordL; simp [hg]) (by unfold ordE; simp [hg])]
      simp (maxSteps := 4000000) only [↓packA, ↓reduceIte, packB, pureOp, quietOp, loadOp, quietB, fr0, cellsK, implies_true, ite_true, ite_false, eq_self, ne_eq, reduceCtorEq, Nat.reduceLT, Nat.reduceLeDiff, Nat.reduceAdd, Nat.reduceMul, Nat.reduceBEq, Nat.reduceEqDiff, Int.reduceToNat, Int.reduceLT, Int.reduceLE, Nat.reduceSub, pl72, ft3, ft4, ft22, ft24, ft49, ints, hg, Int.cast_ofNat_Int, Int.natCast_zero, Int.natCast_one, Int.reduceAdd, Int.reduceSub, Int.reduceNeg, Int.reduceMul, Int.reduceToNat, Int.reduceLT, Int.reduceLE, Int.reduceEq, Int.reduceBEq, Int.reduceBNe, Nat.reduceSub, Nat.reduceLT, List.getD_cons_zero, List.getD_cons_succ, List.length_singleton, Bool.and_true, Bool.and_false]
      refine acalls_ofz (rinc_c n hn st cs hb hb2 hm) rfl (fun u G hz _ => ?_)
      simp (maxSteps := 4000000) only [↓packA, ↓reduceIte, packB, pureOp, quietOp, loadOp, quietB, fr0, cellsK, implies_true, ite_true, ite_false, eq_self, ne_eq, reduceCtorEq, Nat.reduceLT, Nat.reduceLeDiff, Nat.reduceAdd, Nat.reduceMul, Nat.reduceBEq, Nat.reduceEqDiff, Int.reduceToNat, Int.reduceLT, Int.reduceLE, Nat.reduceSub, pl72, ft3, ft4, ft22, ft24, ft49, Int.cast_ofNat_Int, Int.natCast_zero, Int.natCast_one, Int.reduceAdd, Int.reduceSub, Int.reduceNeg, Int.reduceMul, Int.reduceToNat, Int.reduceLT, Int.reduceLE, Int.reduceEq, Int.reduceBEq, Int.reduceBNe, Nat.reduceSub, Nat.reduceLT, List.getD_cons_zero, List.getD_cons_succ, List.length_singleton, Bool.and_true, Bool.and_false]
      exact .two hz (.flat _ rfl)
    by_cases c5 : kd = 5
    · subst c5
      rw [he 5 (scrL n xs) (scrE n xs) rfl (by unfold ordL; simp [hg]) (by unfold ordE; simp [hg])]
      simp (maxSteps := 4000000) only [↓packA, ↓reduceIte, packB, pureOp, quietOp, loadOp, quietB, fr0, cellsK, implies_true, ite_true, ite_false, eq_self, ne_eq, reduceCtorEq, Nat.reduceLT, Nat.reduceLeDiff, Nat.reduceAdd, Nat.reduceMul, Nat.reduceBEq, Nat.reduceEqDiff, Int.reduceToNat, Int.reduceLT, Int.reduceLE, Nat.reduceSub, pl72, ft3, ft4, ft22, ft24, ft49, ints, hg, Int.cast_ofNat_Int, Int.natCast_zero, Int.natCast_one, Int.reduceAdd, Int.reduceSub, Int.reduceNeg, Int.reduceMul, Int.reduceToNat, Int.reduceLT, Int.reduceLE, Int.reduceEq, Int.reduceBEq, Int.reduceBNe, Nat.reduceSub, Nat.reduceLT, List.getD_cons_zero, List.getD_cons_succ, List.length_singleton, Bool.and_true, Bool.and_false]
      refine acalls_pure (checkr_c n xs) rfl ?_
      by_cases c : checkR n xs = 0
      · rw [show scrL n xs = xs from if_pos c, show scrE n xs = 0 from if_pos c]
        simp (maxSteps := 4000000) only [↓packA, ↓reduceIte, packB, pureOp, quietOp, loadOp, quietB, fr0, cellsK, implies_true, ite_true, ite_false, eq_self, ne_eq, reduceCtorEq, Nat.reduceLT, Nat.reduceLeDiff, Nat.reduceAdd, Nat.reduceMul, Nat.reduceBEq, Nat.reduceEqDiff, Int.reduceToNat, Int.reduceLT, Int.reduceLE, Nat.reduceSub, pl72, ft3, ft4, ft22, ft24, ft49, ints, c, Int.cast_ofNat_Int, Int.natCast_zero, Int.natCast_one, Int.reduceAdd, Int.reduceSub, Int.reduceNeg, Int.reduceMul, Int.reduceToNat, Int.reduceLT, Int.reduceLE, Int.reduceEq, Int.reduceBEq, Int.reduceBNe, Nat.reduceSub, Nat.reduceLT, List.getD_cons_zero, List.getD_cons_succ, List.length_singleton, Bool.and_true, Bool.and_false]
        refine acalls_ofz (copy_z xs hbx) rfl (fun u G hz _ => ?_)
        simp (maxSteps := 4000000) only [↓packA, ↓reduceIte, packB, pureOp, quietOp, loadOp, quietB, fr0, cellsK, implies_true, ite_true, ite_false, eq_self, ne_eq, reduceCtorEq, Nat.reduceLT, Nat.reduceLeDiff, Nat.reduceAdd, Nat.reduceMul, Nat.reduceBEq, Nat.reduceEqDiff, Int.reduceToNat, Int.reduceLT, Int.reduceLE, Nat.reduceSub, pl72, ft3, ft4, ft22, ft24, ft49, Int.cast_ofNat_Int, Int.natCast_zero, Int.natCast_one, Int.reduceAdd, Int.reduceSub, Int.reduceNeg, Int.reduceMul, Int.reduceToNat, Int.reduceLT, Int.reduceLE, Int.reduceEq, Int.reduceBEq, Int.reduceBNe, Nat.reduceSub, Nat.reduceLT, List.getD_cons_zero, List.getD_cons_succ, List.length_singleton, Bool.and_true, Bool.and_false]
        exact .two hz (.flat _ rfl)
      · rw [show scrL n xs = [] from if_neg c, show scrE n xs = 182 from if_neg c]
        simp (maxSteps := 4000000) only [↓packA, ↓reduceIte, packB, pureOp, quietOp, loadOp, quietB, fr0, cellsK, implies_true, ite_true, ite_false, eq_self, ne_eq, reduceCtorEq, Nat.reduceLT, Nat.reduceLeDiff, Nat.reduceAdd, Nat.reduceMul, Nat.reduceBEq, Nat.reduceEqDiff, Int.reduceToNat, Int.reduceLT, Int.reduceLE, Nat.reduceSub, pl72, ft3, ft4, ft22, ft24, ft49, ints, c, Int.cast_ofNat_Int, Int.natCast_zero, Int.natCast_one, Int.reduceAdd, Int.reduceSub, Int.reduceNeg, Int.reduceMul, Int.reduceToNat, Int.reduceLT, Int.reduceLE, Int.reduceEq, Int.reduceBEq, Int.reduceBNe, Nat.reduceSub, Nat.reduceLT, List.getD_cons_zero, List.getD_cons_succ, List.length_singleton, Bool.and_true, Bool.and_false]
        exact .two (.nils 1) (.flat _ rfl)
    · have e : ordV kd n n st cs xs = .tup [ints [], .int .i64 221] := by
        unfold ordV ordL ordE
        simp only [if_pos hg, if_neg c1, if_neg c2, if_neg c3, if_neg c4, if_neg c5]
      rw [e]
      simp (maxSteps := 4000000) only [↓packA, ↓reduceIte, packB, pureOp, quietOp, loadOp, quietB, fr0, cellsK, implies_true, ite_true, ite_false, eq_self, ne_eq, reduceCtorEq, Nat.reduceLT, Nat.reduceLeDiff, Nat.reduceAdd, Nat.reduceMul, Nat.reduceBEq, Nat.reduceEqDiff, Int.reduceToNat, Int.reduceLT, Int.reduceLE, Nat.reduceSub, pl72, ft3, ft4, ft22, ft24, ft49, ints, hg, c1, c2, c3, c4, c5]
      exact .two (.nils 1) (.flat _ rfl)
  · have e : ordV kd rows width st cs xs = .tup [ints [], .int .i64 220] := by
      unfold ordV ordL ordE
      rw [if_neg hg, if_neg hg]
    rw [e]
    simp (maxSteps := 4000000) only [↓packA, ↓reduceIte, packB, pureOp, quietOp, loadOp, quietB, fr0, cellsK, implies_true, ite_true, ite_false, eq_self, ne_eq, reduceCtorEq, Nat.reduceLT, Nat.reduceLeDiff, Nat.reduceAdd, Nat.reduceMul, Nat.reduceBEq, Nat.reduceEqDiff, Int.reduceToNat, Int.reduceLT, Int.reduceLE, Nat.reduceSub, pl72, ft3, ft4, ft22, ft24, ft49, ints, hg]
    exact .two (.nils 1) (.flat _ rfl)
end Go.Proofs.YtgdlkhgfehclpaaGreat
end

section
/- All calls of these very lists answer as the document does. No condition. -/
namespace Go.Proofs.YtgdlkhgfehclpaaGreat
open Go Go.AL
set_option linter.unusedVariables false
set_option linter.unusedSimpArgs false
theorem ordL_len (kd rows width : Int) (st cs xs : List Int) (hb : xs.length < 10000000) : (ordL kd rows width st cs xs).length < 100000000 := by
  unfold ordL
  split
  · rename_i hg
    obtain ⟨n, rfl, rfl, hn⟩ := graph_sides hg
    rw [Int.toNat_natCast]
    split
    · rw [natL_len]; omega
    split
    · rw [lg_len (lgL_ok hg.1.1)]; omega
    split
    · rw [ordOf_len]; omega
    split
    · rw [show (incL st cs n).length = n from (ist_ok st cs n n (Nat.le_refl _)).ll]; omega
    split
    · unfold scrL
      split
      · omega
      · simp
    · simp
  · simp
set_option maxRecDepth 100000 in
theorem orders_c (kd rows width : Int) (st cs xs : List Int) (hb : st.length < 10000000) (hb2 : cs.length < 10000000) (hb3 : xs.length < 10000000) : APure Tryz.prog 43 [.int .i64 kd, pat rows width st cs, ints xs, pat rows width st cs, ints xs] (.bool true) := by
  have hB1 := order_c kd rows width st cs xs (by omega) (by omega) (by omega)
  have hB2 := rorder_c kd rows width st cs xs (by omega) (by omega) (by omega)
  have hvl := ordL_len kd rows width st cs xs (by omega)
  unfold ordV at hB1 hB2
  generalize ordL kd rows width st cs xs = vl at *
  generalize ordE kd rows width st cs xs = ve at *
  refine apure_of (wp43 rfl rfl ?_)
  simp (maxSteps := 4000000) +contextual only [↓packA, ↓reduceIte, packB, pureOp, quietOp, loadOp, quietB, fr0, cellsK, implies_true, ite_true, ite_false, eq_self, ne_eq, reduceCtorEq, Nat.reduceLT, Nat.reduceLeDiff, Nat.reduceAdd, Nat.reduceMul, Nat.reduceBEq, Nat.reduceEqDiff, Int.reduceToNat, Int.reduceLT, Int.reduceLE, Nat.reduceSub, pl43, ft3, ft22, ft24, ft49, ft50, ints]
  refine acalls_fresh hB1 ?_ (fun u h0 hz => ⟨_, hz, ?_⟩)
  · exact .cons (.pure _ rfl) (.cons (.pure _ rfl) (.cons (.pure _ rfl) .nil))
  simp (maxSteps := 4000000) +contextual only [↓packA, ↓reduceIte, packB, pureOp, quietOp, loadOp, quietB, fr0, cellsK, implies_true, ite_true, ite_false, eq_self, ne_eq, reduceCtorEq, Nat.reduceLT, Nat.reduceLeDiff, Nat.reduceAdd, Nat.reduceMul, Nat.reduceBEq, Nat.reduceEqDiff, Int.reduceToNat, Int.reduceLT, Int.reduceLE, Nat.reduceSub, pl43, ft3, ft22, ft24, ft49, ft50, ints]
  refine acalls_fresh hB2 ?_ (fun u h0 hz => ⟨_, hz, ?_⟩)
  · exact .cons (.pure _ rfl) (.cons (.pure _ rfl) (.cons (.pure _ rfl) .nil))
  simp (maxSteps := 4000000) +contextual only [↓packA, ↓reduceIte, packB, pureOp, quietOp, loadOp, quietB, fr0, cellsK, implies_true, ite_true, ite_false, eq_self, ne_eq, reduceCtorEq, Nat.reduceLT, Nat.reduceLeDiff, Nat.reduceAdd, Nat.reduceMul, Nat.reduceBEq, Nat.reduceEqDiff, Int.reduceToNat, Int.reduceLT, Int.reduceLE, Nat.reduceSub, pl43, ft3, ft22, ft24, ft49, ft50, ints]
  refine wp49 rfl rfl ?_
  simp (maxSteps := 4000000) +contextual only [↓packA, ↓reduceIte, packB, pureOp, quietOp, loadOp, quietB, fr0, cellsK, implies_true, ite_true, ite_false, eq_self, ne_eq, reduceCtorEq, Nat.reduceLT, Nat.reduceLeDiff, Nat.reduceAdd, Nat.reduceMul, Nat.reduceBEq, Nat.reduceEqDiff, Int.reduceToNat, Int.reduceLT, Int.reduceLE, Nat.reduceSub, pl49, pl43, ft3, ft22, ft24, ft49, ft50, ints]
  refine acalls_pure (same_pure vl vl (by omega)) rfl ?_
  simp (maxSteps := 4000000) +contextual only [↓packA, ↓reduceIte, packB, pureOp, quietOp, loadOp, quietB, fr0, cellsK, implies_true, ite_true, ite_false, eq_self, ne_eq, reduceCtorEq, Nat.reduceLT, Nat.reduceLeDiff, Nat.reduceAdd, Nat.reduceMul, Nat.reduceBEq, Nat.reduceEqDiff, Int.reduceToNat, Int.reduceLT, Int.reduceLE, Nat.reduceSub, pl43, ft3, ft22, ft24, ft49, ft50, ints]
  exact .pure _ rfl
set_option maxRecDepth 100000 in
theorem backs_c (rows width : Int) (st cs xs : List Int) (hb : st.length < 10000000) (hb2 : cs.length < 10000000) (hb3 : xs.length < 10000000) : APure Tryz.prog 44 [pat rows width st cs, ints xs, pat rows width st cs, ints xs] (.bool true) := by
  obtain ⟨va, vl, ve, hV, hvl⟩ := backV_form rows width st cs xs
  have hB1 := back_c rows width st cs xs (by omega) (by omega) (by omega)
  have hB2 := rback_c rows width st cs xs (by omega) (by omega) (by omega)
  rw [hV] at hB1 hB2
  refine apure_of (wp44 rfl rfl ?_)
  simp (maxSteps := 4000000) +contextual only [↓packA, ↓reduceIte, packB, pureOp, quietOp, loadOp, quietB, fr0, cellsK, implies_true, ite_true, ite_false, eq_self, ne_eq, reduceCtorEq, Nat.reduceLT, Nat.reduceLeDiff, Nat.reduceAdd, Nat.reduceMul, Nat.reduceBEq, Nat.reduceEqDiff, Int.reduceToNat, Int.reduceLT, Int.reduceLE, Nat.reduceSub, pl44, ft3, ft22, ft24, ft50, ints]
  refine acalls_fresh hB1 ?_ (fun u h0 hz => ⟨_, hz, ?_⟩)
  · exact .cons (.pure _ rfl) (.cons (.pure _ rfl) .nil)
  simp (maxSteps := 4000000) +contextual only [↓packA, ↓reduceIte, packB, pureOp, quietOp, loadOp, quietB, fr0, cellsK, implies_true, ite_true, ite_false, eq_self, ne_eq, reduceCtorEq, Nat.reduceLT, Nat.reduceLeDiff, Nat.reduceAdd, Nat.reduceMul, Nat.reduceBEq, Nat.reduceEqDiff, Int.reduceToNat, Int.reduceLT, Int.reduceLE, Nat.reduceSub, pl44, ft3, ft22, ft24, ft50, ints]
  refine acalls_fresh hB2 ?_ (fun u h0 hz => ⟨_, hz, ?_⟩)
  · exact .cons (.pure _ rfl) (.cons (.pure _ rfl) .nil)
  simp (maxSteps := 4000000) +contextual only [↓packA, ↓reduceIte, packB, pureOp, quietOp, loadOp, quietB, fr0, cellsK, implies_true, ite_true, ite_false, eq_self, ne_eq, reduceCtorEq, Nat.reduceLT, Nat.reduceLeDiff, Nat.reduceAdd, Nat.reduceMul, Nat.reduceBEq, Nat.reduceEqDiff, Int.reduceToNat, Int.reduceLT, Int.reduceLE, Nat.reduceSub, pl44, ft3, ft22, ft24, ft50, ints]
  refine wp49 rfl rfl ?_
  simp (maxSteps := 4000000) +contextual only [↓packA, ↓reduceIte, packB, pureOp, quietOp, loadOp, quietB, fr0, cellsK, implies_true, ite_true, ite_false, eq_self, ne_eq, reduceCtorEq, Nat.reduceLT, Nat.reduceLeDiff, Nat.reduceAdd, Nat.reduceMul, Nat.reduceBEq, Nat.reduceEqDiff, Int.reduceToNat, Int.reduceLT, Int.reduceLE, Nat.reduceSub, pl49, pl44, ft3, ft22, ft24, ft50, ints]
  refine acalls_pure (same_pure vl vl (by omega)) rfl ?_
  simp (maxSteps := 4000000) +contextual only [↓packA, ↓reduceIte, packB, pureOp, quietOp, loadOp, quietB, fr0, cellsK, implies_true, ite_true, ite_false, eq_self, ne_eq, reduceCtorEq, Nat.reduceLT, Nat.reduceLeDiff, Nat.reduceAdd, Nat.reduceMul, Nat.reduceBEq, Nat.reduceEqDiff, Int.reduceToNat, Int.reduceLT, Int.reduceLE, Nat.reduceSub, pl44, ft3, ft22, ft24, ft50, ints]
  exact .pure _ rfl
theorem degen_form2 (rows width : Int) (st cs : List Int) (hb : st.length < 10000000) (hb2 : cs.length < 10000000) : ∃ a l e, l.length ≤ 128 ∧ ACalls Tryz.prog 9 [pat rows width st cs] [] (fun v h => OFz h v (.tup [.int .i64 a, ints l, .int .i64 e])) ∧ ACalls Tryz.prog 74 [pat rows width st cs] [] (fun v h => OFz h v (.tup [.int .i64 a, ints l, .int .i64 e])) := by
  have h1 := degen_c rows width st cs (by omega) (by omega)
  have h2 := rdegen_c rows width st cs (by omega) (by omega)
  by_cases hg : graphP rows width st cs
  · obtain ⟨n, rfl, rfl, hn⟩ := graph_sides hg
    refine ⟨_, coresOf st cs n, _, ?_, h1.mono fun u h hh => hh.1 hg, h2.mono fun u h hh => hh.1 hg⟩
    rw [show (coresOf st cs n).length = n from (pst_len st cs n n).2.2]
    exact hn
  · exact ⟨_, [], _, by simp, h1.mono fun u h hh => hh.2 hg, h2.mono fun u h hh => hh.2 hg⟩
set_option maxRecDepth 100000 in
theorem degens_c (rows width : Int) (st cs : List Int) (hb : st.length < 10000000) (hb2 : cs.length < 10000000) : APure Tryz.prog 45 [pat rows width st cs, pat rows width st cs] (.bool true) := by
  obtain ⟨va, vl, ve, hvl, hB1, hB2⟩ := degen_form2 rows width st cs hb hb2
  refine apure_of (wp45 rfl rfl ?_)
  simp (maxSteps := 4000000) +contextual only [↓packA, ↓reduceIte, packB, pureOp, quietOp, loadOp, quietB, fr0, cellsK, implies_true, ite_true, ite_false, eq_self, ne_eq, reduceCtorEq, Nat.reduceLT, Nat.reduceLeDiff, Nat.reduceAdd, Nat.reduceMul, Nat.reduceBEq, Nat.reduceEqDiff, Int.reduceToNat, Int.reduceLT, Int.reduceLE, Nat.reduceSub, pl45, ft3, ft22, ft24, ft50, ints]
  refine acalls_fresh hB1 ?_ (fun u h0 hz => ⟨_, hz, ?_⟩)
  · exact .cons (.pure _ rfl) .nil
  simp (maxSteps := 4000000) +contextual only [↓packA, ↓reduceIte, packB, pureOp, quietOp, loadOp, quietB, fr0, cellsK, implies_true, ite_true, ite_false, eq_self, ne_eq, reduceCtorEq, Nat.reduceLT, Nat.reduceLeDiff, Nat.reduceAdd, Nat.reduceMul, Nat.reduceBEq, Nat.reduceEqDiff, Int.reduceToNat, Int.reduceLT, Int.reduceLE, Nat.reduceSub, pl45, ft3, ft22, ft24, ft50, ints]
  refine acalls_fresh hB2 ?_ (fun u h0 hz => ⟨_, hz, ?_⟩)
  · exact .cons (.pure _ rfl) .nil
  simp (maxSteps := 4000000) +contextual only [↓packA, ↓reduceIte, packB, pureOp, quietOp, loadOp, quietB, fr0, cellsK, implies_true, ite_true, ite_false, eq_self, ne_eq, reduceCtorEq, Nat.reduceLT, Nat.reduceLeDiff, Nat.reduceAdd, Nat.reduceMul, Nat.reduceBEq, Nat.reduceEqDiff, Int.reduceToNat, Int.reduceLT, Int.reduceLE, Nat.reduceSub, pl45, ft3, ft22, ft24, ft50, ints]
  refine wp49 rfl rfl ?_
  simp (maxSteps := 4000000) +contextual only [↓packA, ↓reduceIte, packB, pureOp, quietOp, loadOp, quietB, fr0, cellsK, implies_true, ite_true, ite_false, eq_self, ne_eq, reduceCtorEq, Nat.reduceLT, Nat.reduceLeDiff, Nat.reduceAdd, Nat.reduceMul, Nat.reduceBEq, Nat.reduceEqDiff, Int.reduceToNat, Int.reduceLT, Int.reduceLE, Nat.reduceSub, pl49, pl45, ft3, ft22, ft24, ft50, ints]
  refine acalls_pure (same_pure vl vl (by omega)) rfl ?_
  simp (maxSteps := 4000000) +contextual only [↓packA, ↓reduceIte, packB, pureOp, quietOp, loadOp, quietB, fr0, cellsK, implies_true, ite_true, ite_false, eq_self, ne_eq, reduceCtorEq, Nat.reduceLT, Nat.reduceLeDiff, Nat.reduceAdd, Nat.reduceMul, Nat.reduceBEq, Nat.reduceEqDiff, Int.reduceToNat, Int.reduceLT, Int.reduceLE, Nat.reduceSub, pl45, ft3, ft22, ft24, ft50, ints]
  exact .pure _ rfl
theorem invR_len (xs : List Int) (h : xs.length < 1000000000) : (invR xs).length < 1000000000 := by
  unfold invR
  split
  · rw [invK_length]; exact h
  · simp
set_option maxRecDepth 100000 in
theorem checks_c (n : Int) (xs : List Int) (hb : xs.length < 10000000) : APure Tryz.prog 46 [.int .i64 n, ints xs, ints xs] (.bool true) := by
  refine apure_of (wp46 rfl rfl ?_)
  simp (maxSteps := 4000000) +contextual only [↓packA, ↓reduceIte, packB, pureOp, quietOp, loadOp, quietB, fr0, cellsK, implies_true, ite_true, ite_false, eq_self, ne_eq, reduceCtorEq, Nat.reduceLT, Nat.reduceLeDiff, Nat.reduceAdd, Nat.reduceMul, Nat.reduceBEq, Nat.reduceEqDiff, Int.reduceToNat, Int.reduceLT, Int.reduceLE, Nat.reduceSub, pl46, ft3, ft22, ft50, ints]
  refine acalls_fresh (inverse_c xs (by omega)) (.cons frz_isl .nil) (fun u h0 hz => ⟨_, hz, ?_⟩)
  simp (maxSteps := 4000000) +contextual only [↓packA, ↓reduceIte, packB, pureOp, quietOp, loadOp, quietB, fr0, cellsK, implies_true, ite_true, ite_false, eq_self, ne_eq, reduceCtorEq, Nat.reduceLT, Nat.reduceLeDiff, Nat.reduceAdd, Nat.reduceMul, Nat.reduceBEq, Nat.reduceEqDiff, Int.reduceToNat, Int.reduceLT, Int.reduceLE, Nat.reduceSub, pl46, ft3, ft22, ft50, ints]
  refine acalls_fresh (inverser_c xs (by omega)) (.cons frz_isl .nil) (fun u h0 hz => ⟨_, hz, ?_⟩)
  simp (maxSteps := 4000000) +contextual only [↓packA, ↓reduceIte, packB, pureOp, quietOp, loadOp, quietB, fr0, cellsK, implies_true, ite_true, ite_false, eq_self, ne_eq, reduceCtorEq, Nat.reduceLT, Nat.reduceLeDiff, Nat.reduceAdd, Nat.reduceMul, Nat.reduceBEq, Nat.reduceEqDiff, Int.reduceToNat, Int.reduceLT, Int.reduceLE, Nat.reduceSub, pl46, ft3, ft22, ft50, ints]
  refine acalls_pure (check_c n xs) rfl ?_
  simp (maxSteps := 4000000) +contextual only [↓packA, ↓reduceIte, packB, pureOp, quietOp, loadOp, quietB, fr0, cellsK, implies_true, ite_true, ite_false, eq_self, ne_eq, reduceCtorEq, Nat.reduceLT, Nat.reduceLeDiff, Nat.reduceAdd, Nat.reduceMul, Nat.reduceBEq, Nat.reduceEqDiff, Int.reduceToNat, Int.reduceLT, Int.reduceLE, Nat.reduceSub, pl46, ft3, ft22, ft50, ints]
  refine wp49 rfl rfl ?_
  simp (maxSteps := 4000000) +contextual only [↓packA, ↓reduceIte, packB, pureOp, quietOp, loadOp, quietB, fr0, cellsK, implies_true, ite_true, ite_false, eq_self, ne_eq, reduceCtorEq, Nat.reduceLT, Nat.reduceLeDiff, Nat.reduceAdd, Nat.reduceMul, Nat.reduceBEq, Nat.reduceEqDiff, Int.reduceToNat, Int.reduceLT, Int.reduceLE, Nat.reduceSub, pl49, pl46, ft3, ft22, ft50, ints]
  refine acalls_pure (checkr_c n xs) rfl ?_
  simp (maxSteps := 4000000) +contextual only [↓packA, ↓reduceIte, packB, pureOp, quietOp, loadOp, quietB, fr0, cellsK, implies_true, ite_true, ite_false, eq_self, ne_eq, reduceCtorEq, Nat.reduceLT, Nat.reduceLeDiff, Nat.reduceAdd, Nat.reduceMul, Nat.reduceBEq, Nat.reduceEqDiff, Int.reduceToNat, Int.reduceLT, Int.reduceLE, Nat.reduceSub, pl46, ft3, ft22, ft50, ints]
  refine wp49 rfl rfl ?_
  simp (maxSteps := 4000000) +contextual only [↓packA, ↓reduceIte, packB, pureOp, quietOp, loadOp, quietB, fr0, cellsK, implies_true, ite_true, ite_false, eq_self, ne_eq, reduceCtorEq, Nat.reduceLT, Nat.reduceLeDiff, Nat.reduceAdd, Nat.reduceMul, Nat.reduceBEq, Nat.reduceEqDiff, Int.reduceToNat, Int.reduceLT, Int.reduceLE, Nat.reduceSub, pl49, pl46, ft3, ft22, ft50, ints]
  refine acalls_pure (same_pure (invR xs) (invR xs) (invR_len xs (by omega))) rfl ?_
  simp (maxSteps := 4000000) +contextual only [↓packA, ↓reduceIte, packB, pureOp, quietOp, loadOp, quietB, fr0, cellsK, implies_true, ite_true, ite_false, eq_self, ne_eq, reduceCtorEq, Nat.reduceLT, Nat.reduceLeDiff, Nat.reduceAdd, Nat.reduceMul, Nat.reduceBEq, Nat.reduceEqDiff, Int.reduceToNat, Int.reduceLT, Int.reduceLE, Nat.reduceSub, pl46, ft3, ft22, ft50, ints]
  exact .pure _ rfl
set_option maxHeartbeats 4000000 in
set_option maxRecDepth 100000 in
theorem every_c (rows width : Int) (st cs xs : List Int) (hb : st.length < 10000000) (hb2 : cs.length < 10000000) (hb3 : xs.length < 10000000) : APure Tryz.prog 15 [pat rows width st cs, ints xs] (.bool true) := by
  refine apure_of (wp15 rfl rfl ?_)
  simp (maxSteps := 4000000) +contextual only [↓packA, ↓reduceIte, packB, pureOp, quietOp, loadOp, quietB, fr0, cellsK, implies_true, ite_true, ite_false, eq_self, ne_eq, reduceCtorEq, Nat.reduceLT, Nat.reduceLeDiff, Nat.reduceAdd, Nat.reduceMul, Nat.reduceBEq, Nat.reduceEqDiff, Int.reduceToNat, Int.reduceLT, Int.reduceLE, Nat.reduceSub, pl15, ft3, ft4, ft22, ft24, ft49, patch, ints]
  refine wp13 rfl rfl ?_
  simp (maxSteps := 4000000) +contextual only [↓packA, ↓reduceIte, packB, pureOp, quietOp, loadOp, quietB, fr0, cellsK, implies_true, ite_true, ite_false, eq_self, ne_eq, reduceCtorEq, Nat.reduceLT, Nat.reduceLeDiff, Nat.reduceAdd, Nat.reduceMul, Nat.reduceBEq, Nat.reduceEqDiff, Int.reduceToNat, Int.reduceLT, Int.reduceLE, Nat.reduceSub, pl13, ft1, ft2, ft3, ft22, ft24, pl15, ft4, ft49, patch, ints]
  refine acalls_shift (copy_c st (by omega)) rfl ?_
  rintro u h0 ⟨rfl, rfl⟩
  simp (maxSteps := 4000000) +contextual only [↓packA, ↓reduceIte, packB, pureOp, quietOp, loadOp, quietB, fr0, cellsK, implies_true, ite_true, ite_false, eq_self, ne_eq, reduceCtorEq, Nat.reduceLT, Nat.reduceLeDiff, Nat.reduceAdd, Nat.reduceMul, Nat.reduceBEq, Nat.reduceEqDiff, Int.reduceToNat, Int.reduceLT, Int.reduceLE, Nat.reduceSub, pl13, ft1, ft2, ft3, ft22, ft24, pl15, ft4, ft49, patch, ints]
  refine acalls_shift (copy_c cs (by omega)) rfl ?_
  rintro u h0 ⟨rfl, rfl⟩
  simp (maxSteps := 4000000) +contextual only [↓packA, ↓reduceIte, packB, pureOp, quietOp, loadOp, quietB, fr0, cellsK, implies_true, ite_true, ite_false, eq_self, ne_eq, reduceCtorEq, Nat.reduceLT, Nat.reduceLeDiff, Nat.reduceAdd, Nat.reduceMul, Nat.reduceBEq, Nat.reduceEqDiff, Int.reduceToNat, Int.reduceLT, Int.reduceLE, Nat.reduceSub, pl13, ft1, ft2, ft3, ft22, ft24, pl15, ft4, ft49, patch, ints]
  refine acalls_shift (copy_c xs (by omega)) rfl ?_
  rintro u h0 ⟨rfl, rfl⟩
  simp (maxSteps := 4000000) +contextual only [↓packA, ↓reduceIte, packB, pureOp, quietOp, loadOp, quietB, fr0, cellsK, implies_true, ite_true, ite_false, eq_self, ne_eq, reduceCtorEq, Nat.reduceLT, Nat.reduceLeDiff, Nat.reduceAdd, Nat.reduceMul, Nat.reduceBEq, Nat.reduceEqDiff, Int.reduceToNat, Int.reduceLT, Int.reduceLE, Nat.reduceSub, pl15, ft3, ft4, ft22, ft24, ft49, patch, ints]
  have hh : ∃ H : Heap, H = [Ob.arr 4 [[AV.int .i64 rows, AV.int .i64 width, AV.isl 1 (List.map intE st), AV.isl 1 (List.map intE cs)]] true, Ob.arr 4 [[AV.int .i64 rows, AV.int .i64 width, AV.isl 1 (List.map intE st), AV.isl 1 (List.map intE cs)]] true,
    Ob.arr 4 [[AV.int .i64 rows, AV.int .i64 width, AV.osl 3 1 0 st.length (st.length + 3) true, AV.osl 4 1 0 cs.length (cs.length + 3) true]] true, Ob.arr 1 (List.map intE (st ++ [0, 0, 0])) true, Ob.arr 1 (List.map intE (cs ++ [0, 0, 0])) true,
    Ob.arr 4 [[AV.int .i64 rows, AV.int .i64 width, AV.osl 3 1 0 st.length (st.length + 3) true, AV.osl 4 1 0 cs.length (cs.length + 3) true]] true, Ob.arr 1 (List.map intE (xs ++ [0, 0, 0])) true] := ⟨_, rfl⟩
  obtain ⟨H, hH⟩ := hh
  rw [← hH]
  have g0 : H[0]? = some (Ob.arr 4 [[AV.int .i64 rows, AV.int .i64 width, AV.isl 1 (List.map intE st), AV.isl 1 (List.map intE cs)]] true) := by rw [hH]; rfl
  have g3 : H[3]? = some (Ob.arr 1 (List.map intE (st ++ [0, 0, 0])) true) := by rw [hH]; rfl
  have g4 : H[4]? = some (Ob.arr 1 (List.map intE (cs ++ [0, 0, 0])) true) := by rw [hH]; rfl
  have g5 : H[5]? = some (Ob.arr 4 [[AV.int .i64 rows, AV.int .i64 width, AV.osl 3 1 0 st.length (st.length + 3) true, AV.osl 4 1 0 cs.length (cs.length + 3) true]] true) := by rw [hH]; rfl
  have g6 : H[6]? = some (Ob.arr 1 (List.map intE (xs ++ [0, 0, 0])) true) := by rw [hH]; rfl
  clear hH
  have f3 : Frz H (.osl 3 1 0 st.length (st.length + 3) true) (ints st) := frz_ints g3 (by simp) rfl
  have f4 : Frz H (.osl 4 1 0 cs.length (cs.length + 3) true) (ints cs) := frz_ints g4 (by simp) rfl
  have f6 : Frz H (.osl 6 1 0 xs.length (xs.length + 3) true) (ints xs) := frz_ints g6 (by simp) rfl
  have fp : Frz H (.agg [.int .i64 rows, .int .i64 width, .osl 3 1 0 st.length (st.length + 3) true, .osl 4 1 0 cs.length (cs.length + 3) true]) (pat rows width st cs) := frz_pat f3 f4
  refine LoopK.intro (fun w a g => ∃ k : Nat, w = 6 - k ∧ 1 ≤ k ∧ k ≤ 6 ∧ g = H ∧ a 1 = ints xs ∧ a 2 = .op 0 4 0 0 ∧ a 5 = .op 5 4 0 0 ∧ a 6 = .osl 6 1 0 xs.length (xs.length + 3) true ∧ a 7 = .int .i64 k) 5 ⟨1, rfl, by omega, by omega, rfl, ?_⟩ ?_
  · simp (maxSteps := 4000000) only [↓packA, ↓reduceIte, packB, pureOp, quietOp, loadOp, quietB, fr0, cellsK, implies_true, ite_true, ite_false, eq_self, ne_eq, reduceCtorEq, Nat.reduceLT, Nat.reduceLeDiff, Nat.reduceAdd, Nat.reduceMul, Nat.reduceBEq, Nat.reduceEqDiff, Int.reduceToNat, Int.reduceLT, Int.reduceLE, Nat.reduceSub, pl15, ft3, ft4, ft22, ft24, ft49, ints, Int.cast_ofNat_Int, Int.natCast_zero, Int.natCast_one, Int.reduceAdd, Int.reduceSub, Int.reduceNeg, Int.reduceMul, Int.reduceToNat, Int.reduceLT, Int.reduceLE, Int.reduceEq, Int.reduceBEq, Int.reduceBNe, Nat.reduceSub, Nat.reduceLT, List.getD_cons_zero, List.getD_cons_succ, List.length_singleton, Bool.and_true, Bool.and_false]
  rintro w a g ⟨k, rfl, hk1, hk6, rfl, a1, a2, a5, a6, a7⟩
  by_cases r : k ≤ 5
  · have r1 : (k : Int) ≤ 5 := by omega
    simp (maxSteps := 4000000) only [↓packA, ↓reduceIte, packB, pureOp, quietOp, loadOp, quietB, fr0, cellsK, implies_true, ite_true, ite_false, eq_self, ne_eq, reduceCtorEq, Nat.reduceLT, Nat.reduceLeDiff, Nat.reduceAdd, Nat.reduceMul, Nat.reduceBEq, Nat.reduceEqDiff, Int.reduceToNat, Int.reduceLT, Int.reduceLE, Nat.reduceSub, pl15, ft3, ft4, ft22, ft24, ft49, ints, a1, a2, a5, a6, a7, r1, g0, g5]
    refine acalls_lend (orders_c k rows width st cs xs hb hb2 hb3) (.cons (.pure _ rfl) (.cons (.pure _ rfl) (.cons (.pure _ rfl) (.cons fp (.cons f6 .nil))))) rfl ?_
    simp (maxSteps := 4000000) only [↓packA, ↓reduceIte, packB, pureOp, quietOp, loadOp, quietB, fr0, cellsK, implies_true, ite_true, ite_false, eq_self, ne_eq, reduceCtorEq, Nat.reduceLT, Nat.reduceLeDiff, Nat.reduceAdd, Nat.reduceMul, Nat.reduceBEq, Nat.reduceEqDiff, Int.reduceToNat, Int.reduceLT, Int.reduceLE, Nat.reduceSub, pl15, ft3, ft4, ft22, ft24, ft49, ints, a1, a2, a5, a6, a7, r1, g0, g5]
    exact ⟨by omega, .inl ⟨6 - (k + 1), by omega, k + 1, rfl, by omega, by omega, by omega⟩⟩
  · have r1 : ¬ (k : Int) ≤ 5 := by omega
    simp (maxSteps := 4000000) only [↓packA, ↓reduceIte, packB, pureOp, quietOp, loadOp, quietB, fr0, cellsK, implies_true, ite_true, ite_false, eq_self, ne_eq, reduceCtorEq, Nat.reduceLT, Nat.reduceLeDiff, Nat.reduceAdd, Nat.reduceMul, Nat.reduceBEq, Nat.reduceEqDiff, Int.reduceToNat, Int.reduceLT, Int.reduceLE, Nat.reduceSub, pl15, ft3, ft4, ft22, ft24, ft49, ints, a1, a2, a5, a6, a7, r1, g0, g5]
    refine acalls_lend (backs_c rows width st cs xs hb hb2 hb3) (.cons (.pure _ rfl) (.cons (.pure _ rfl) (.cons fp (.cons f6 .nil)))) rfl ?_
    simp (maxSteps := 4000000) only [↓packA, ↓reduceIte, packB, pureOp, quietOp, loadOp, quietB, fr0, cellsK, implies_true, ite_true, ite_false, eq_self, ne_eq, reduceCtorEq, Nat.reduceLT, Nat.reduceLeDiff, Nat.reduceAdd, Nat.reduceMul, Nat.reduceBEq, Nat.reduceEqDiff, Int.reduceToNat, Int.reduceLT, Int.reduceLE, Nat.reduceSub, pl15, ft3, ft4, ft22, ft24, ft49, ints, a1, a2, a5, a6, a7, r1, g0, g5]
    refine acalls_lend (degens_c rows width st cs hb hb2) (.cons (.pure _ rfl) (.cons fp .nil)) rfl ?_
    simp (maxSteps := 4000000) only [↓packA, ↓reduceIte, packB, pureOp, quietOp, loadOp, quietB, fr0, cellsK, implies_true, ite_true, ite_false, eq_self, ne_eq, reduceCtorEq, Nat.reduceLT, Nat.reduceLeDiff, Nat.reduceAdd, Nat.reduceMul, Nat.reduceBEq, Nat.reduceEqDiff, Int.reduceToNat, Int.reduceLT, Int.reduceLE, Nat.reduceSub, pl15, ft3, ft4, ft22, ft24, ft49, ints, a1, a2, a5, a6, a7, r1, g0, g5]
    refine acalls_lend (checks_c xs.length xs hb3) (.cons (.pure _ rfl) (.cons (.pure _ rfl) (.cons f6 .nil))) rfl ?_
    simp (maxSteps := 4000000) only [↓packA, ↓reduceIte, packB, pureOp, quietOp, loadOp, quietB, fr0, cellsK, implies_true, ite_true, ite_false, eq_self, ne_eq, reduceCtorEq, Nat.reduceLT, Nat.reduceLeDiff, Nat.reduceAdd, Nat.reduceMul, Nat.reduceBEq, Nat.reduceEqDiff, Int.reduceToNat, Int.reduceLT, Int.reduceLE, Nat.reduceSub, pl15, ft3, ft4, ft22, ft24, ft49, ints, a1, a2, a5, a6, a7, r1, g0, g5]
    exact .pure _ rfl
end Go.Proofs.YtgdlkhgfehclpaaGreat
end

section
/- What was handed in is whole: Given.Intact. No condition. -/
namespace Go.Proofs.YtgdlkhgfehclpaaGreat
open Go Go.AL
set_option linter.unusedVariables false
set_option linter.unusedSimpArgs false
def givenCells (x y : AV) : List AV := [.nils, .nils, .nils, .nils, x, y, .nils, .nils, .nils, .nils, .nils, .nils, .nils, .nils, .nils, .nils, .nils, .nils, .nils, .nils]
structure GL where
  id : Nat
  len : Nat
  cap : Nat
  ex : Bool
def GL.cell (g : GL) : List AV := [.osl g.id 1 0 g.len g.cap g.ex]
def GL.at (h : Heap) (g : GL) (l : List Int) : Prop := ∃ l' ex', h[g.id]? = some (.arr 1 (List.map intE l') ex') ∧ l'.take g.len = l ∧ l.length = g.len
theorem glcell_eq {g : GL} : g.cell = [.osl g.id 1 0 g.len g.cap g.ex] := rfl
instance : Inhabited GL := ⟨⟨0, 0, 0, false⟩⟩
set_option maxRecDepth 100000 in
theorem intact_c {g : Nat} {h : Heap} {Q : AV → Heap → Prop} {a b m ca cb : Nat} {ea eb ea' eb' ev : Bool} {ga gb : List GL}
    (h0 : h[g]? = some (.arr 20 [givenCells (.osl a 1 0 m ca ea) (.osl b 1 0 m cb eb)] ev)) (ha : h[a]? = some (.arr 1 (List.map GL.cell ga) ea')) (hb : h[b]? = some (.arr 1 (List.map GL.cell gb) eb')) (hma : ga.length = m) (hmb : gb.length = m) (hm : m < 1000000)
    (hgl : ∀ i, i < m → ∃ l, l.length < 1000000000 ∧ (ga.getD i default).at h l ∧ (gb.getD i default).at h l) (hq : Q (.bool true) h) : ACalls Tryz.prog 12 [.op g 20 0 0] h Q := by
  refine wp12 rfl rfl ?_
  unfold givenCells at h0
  simp (maxSteps := 4000000) +contextual only [↓packA, ↓reduceIte, packB, pureOp, quietOp, loadOp, quietB, fr0, cellsK, implies_true, ite_true, ite_false, eq_self, ne_eq, reduceCtorEq, Nat.reduceLT, Nat.reduceLeDiff, Nat.reduceAdd, Nat.reduceMul, Nat.reduceBEq, Nat.reduceEqDiff, Int.reduceToNat, Int.reduceLT, Int.reduceLE, Nat.reduceSub, pl12, ft1, ft2, ft3, ft4, ft5, ft6, ft7, ft8, ft9, ft10, ft11, ft22, ft25, ft26, ft27, ft28, ft29, ft30, ft31, ft32, ft33, ft34, ft35, ft37, ft73, ft75, ft78, ft80, ft93, ft95, ft98, ft100, ft103, ft106, ft135, ft138, h0, ha, hb, glcell_eq]
  refine LoopN.loop 1 ?_
  simp (maxSteps := 4000000) +contextual only [↓packA, ↓reduceIte, packB, pureOp, quietOp, loadOp, quietB, fr0, cellsK, implies_true, ite_true, ite_false, eq_self, ne_eq, reduceCtorEq, Nat.reduceLT, Nat.reduceLeDiff, Nat.reduceAdd, Nat.reduceMul, Nat.reduceBEq, Nat.reduceEqDiff, Int.reduceToNat, Int.reduceLT, Int.reduceLE, Nat.reduceSub, pl12, ft1, ft2, ft3, ft4, ft5, ft6, ft7, ft8, ft9, ft10, ft11, ft22, ft25, ft26, ft27, ft28, ft29, ft30, ft31, ft32, ft33, ft34, ft35, ft37, ft73, ft75, ft78, ft80, ft93, ft95, ft98, ft100, ft103, ft106, ft135, ft138, h0, ha, hb, glcell_eq, ↓LoopN_succ]
  refine LoopN.loop 1 ?_
  simp (maxSteps := 4000000) +contextual only [↓packA, ↓reduceIte, packB, pureOp, quietOp, loadOp, quietB, fr0, cellsK, implies_true, ite_true, ite_false, eq_self, ne_eq, reduceCtorEq, Nat.reduceLT, Nat.reduceLeDiff, Nat.reduceAdd, Nat.reduceMul, Nat.reduceBEq, Nat.reduceEqDiff, Int.reduceToNat, Int.reduceLT, Int.reduceLE, Nat.reduceSub, pl12, ft1, ft2, ft3, ft4, ft5, ft6, ft7, ft8, ft9, ft10, ft11, ft22, ft25, ft26, ft27, ft28, ft29, ft30, ft31, ft32, ft33, ft34, ft35, ft37, ft73, ft75, ft78, ft80, ft93, ft95, ft98, ft100, ft103, ft106, ft135, ft138, h0, ha, hb, glcell_eq, ↓LoopN_succ]
  have hga : ∀ {i}, i < m → ∃ l, l.length < 1000000000 ∧ (ga.getD i default).at h l ∧ (gb.getD i default).at h l := fun hi => hgl _ hi
  refine LoopK.intro (fun k a1 h1 => ∃ i : Nat, k = m - i ∧ i ≤ m ∧ a1 0 = .op g 20 0 0 ∧ a1 5 = .int .i64 i ∧ h1 = h) m ⟨0, rfl, Nat.zero_le _, ?_⟩ ?_
  · simp (maxSteps := 4000000) only [↓packA, ↓reduceIte, packB, pureOp, quietOp, loadOp, quietB, fr0, cellsK, implies_true, ite_true, ite_false, eq_self, ne_eq, reduceCtorEq, Nat.reduceLT, Nat.reduceLeDiff, Nat.reduceAdd, Nat.reduceMul, Nat.reduceBEq, Nat.reduceEqDiff, Int.reduceToNat, Int.reduceLT, Int.reduceLE, Nat.reduceSub, pl12, ft1, ft2, ft3, ft4, ft5, ft6, ft7, ft8, ft9, ft10, ft11, ft22, ft25, ft26, ft27, ft28, ft29, ft30, ft31, ft32, ft33, ft34, ft35, ft37, ft73, ft75, ft78, ft80, ft93, ft95, ft98, ft100, ft103, ft106, ft135, ft138, Int.natCast_zero]
  rintro k a1 h1 ⟨i, rfl, hi, a10, a15, rfl⟩
  simp (maxSteps := 4000000) +contextual only [↓packA, ↓reduceIte, packB, pureOp, quietOp, loadOp, quietB, fr0, cellsK, implies_true, ite_true, ite_false, eq_self, ne_eq, reduceCtorEq, Nat.reduceLT, Nat.reduceLeDiff, Nat.reduceAdd, Nat.reduceMul, Nat.reduceBEq, Nat.reduceEqDiff, Int.reduceToNat, Int.reduceLT, Int.reduceLE, Nat.reduceSub, pl12, ft1, ft2, ft3, ft4, ft5, ft6, ft7, ft8, ft9, ft10, ft11, ft22, ft25, ft26, ft27, ft28, ft29, ft30, ft31, ft32, ft33, ft34, ft35, ft37, ft73, ft75, ft78, ft80, ft93, ft95, ft98, ft100, ft103, ft106, ft135, ft138, h0, ha, hb, hma, hmb, glcell_eq, a10, a15]
  refine ⟨fun hlt => ?_, fun hge => ?_⟩
  · refine ⟨by omega, by omega, by omega, by omega, ?_⟩
    obtain ⟨l, hl, ⟨la, ea1, h2, h3, h4⟩, ⟨lb, eb1, h5, h6, h7⟩⟩ := hgl i (by omega)
    refine acalls_lend (same_pure l l hl) (.cons (frz_ints h2 h3 h4) (.cons (frz_ints h5 h6 h7) .nil)) rfl ?_
    simp (maxSteps := 4000000) +contextual only [↓packA, ↓reduceIte, packB, pureOp, quietOp, loadOp, quietB, fr0, cellsK, implies_true, ite_true, ite_false, eq_self, ne_eq, reduceCtorEq, Nat.reduceLT, Nat.reduceLeDiff, Nat.reduceAdd, Nat.reduceMul, Nat.reduceBEq, Nat.reduceEqDiff, Int.reduceToNat, Int.reduceLT, Int.reduceLE, Nat.reduceSub, pl12, ft1, ft2, ft3, ft4, ft5, ft6, ft7, ft8, ft9, ft10, ft11, ft22, ft25, ft26, ft27, ft28, ft29, ft30, ft31, ft32, ft33, ft34, ft35, ft37, ft73, ft75, ft78, ft80, ft93, ft95, ft98, ft100, ft103, ft106, ft135, ft138, h0, ha, hb, hma, hmb, glcell_eq, a10, a15]
    exact ⟨by omega, .inl ⟨m - (i + 1), by omega, i + 1, rfl, by omega, by omega⟩⟩
  · refine LoopN.loop 1 ?_
    simp (maxSteps := 4000000) +contextual only [↓packA, ↓reduceIte, packB, pureOp, quietOp, loadOp, quietB, fr0, cellsK, implies_true, ite_true, ite_false, eq_self, ne_eq, reduceCtorEq, Nat.reduceLT, Nat.reduceLeDiff, Nat.reduceAdd, Nat.reduceMul, Nat.reduceBEq, Nat.reduceEqDiff, Int.reduceToNat, Int.reduceLT, Int.reduceLE, Nat.reduceSub, pl12, ft1, ft2, ft3, ft4, ft5, ft6, ft7, ft8, ft9, ft10, ft11, ft22, ft25, ft26, ft27, ft28, ft29, ft30, ft31, ft32, ft33, ft34, ft35, ft37, ft73, ft75, ft78, ft80, ft93, ft95, ft98, ft100, ft103, ft106, ft135, ft138, h0, a10, ↓LoopN_succ]
    refine LoopN.loop 1 ?_
    simp (maxSteps := 4000000) +contextual only [↓packA, ↓reduceIte, packB, pureOp, quietOp, loadOp, quietB, fr0, cellsK, implies_true, ite_true, ite_false, eq_self, ne_eq, reduceCtorEq, Nat.reduceLT, Nat.reduceLeDiff, Nat.reduceAdd, Nat.reduceMul, Nat.reduceBEq, Nat.reduceEqDiff, Int.reduceToNat, Int.reduceLT, Int.reduceLE, Nat.reduceSub, pl12, ft1, ft2, ft3, ft4, ft5, ft6, ft7, ft8, ft9, ft10, ft11, ft22, ft25, ft26, ft27, ft28, ft29, ft30, ft31, ft32, ft33, ft34, ft35, ft37, ft73, ft75, ft78, ft80, ft93, ft95, ft98, ft100, ft103, ft106, ft135, ft138, h0, a10, ↓LoopN_succ]
    refine LoopN.loop 1 ?_
    simp (maxSteps := 4000000) +contextual only [↓packA, ↓reduceIte, packB, pureOp, quietOp, loadOp, quietB, fr0, cellsK, implies_true, ite_true, ite_false, eq_self, ne_eq, reduceCtorEq, Nat.reduceLT, Nat.reduceLeDiff, Nat.reduceAdd, Nat.reduceMul, Nat.reduceBEq, Nat.reduceEqDiff, Int.reduceToNat, Int.reduceLT, Int.reduceLE, Nat.reduceSub, pl12, ft1, ft2, ft3, ft4, ft5, ft6, ft7, ft8, ft9, ft10, ft11, ft22, ft25, ft26, ft27, ft28, ft29, ft30, ft31, ft32, ft33, ft34, ft35, ft37, ft73, ft75, ft78, ft80, ft93, ft95, ft98, ft100, ft103, ft106, ft135, ft138, h0, a10, ↓LoopN_succ]
    refine wp42 rfl rfl ?_
    simp (maxSteps := 4000000) +contextual only [↓packA, ↓reduceIte, packB, pureOp, quietOp, loadOp, quietB, fr0, cellsK, implies_true, ite_true, ite_false, eq_self, ne_eq, reduceCtorEq, Nat.reduceLT, Nat.reduceLeDiff, Nat.reduceAdd, Nat.reduceMul, Nat.reduceBEq, Nat.reduceEqDiff, Int.reduceToNat, Int.reduceLT, Int.reduceLE, Nat.reduceSub, pl12, ft1, ft2, ft3, ft4, ft5, ft6, ft7, ft8, ft9, ft10, ft11, ft22, ft25, ft26, ft27, ft28, ft29, ft30, ft31, ft32, ft33, ft34, ft35, ft37, ft73, ft75, ft78, ft80, ft93, ft95, ft98, ft100, ft103, ft106, ft135, ft138, pl42, ft12, ft13, ft14, ft15, ft16, ft17, ft18, ft19, ft24, ft105, ft109, ft113, ft115, ft116, ft118, ft119, ft122, ft131, ft134, ft173, ft176, ft185, h0, ↓LoopN_succ]
    refine LoopN.loop 1 ?_
    simp (maxSteps := 4000000) +contextual only [↓packA, ↓reduceIte, packB, pureOp, quietOp, loadOp, quietB, fr0, cellsK, implies_true, ite_true, ite_false, eq_self, ne_eq, reduceCtorEq, Nat.reduceLT, Nat.reduceLeDiff, Nat.reduceAdd, Nat.reduceMul, Nat.reduceBEq, Nat.reduceEqDiff, Int.reduceToNat, Int.reduceLT, Int.reduceLE, Nat.reduceSub, pl42, ft3, ft4, ft9, ft12, ft13, ft14, ft15, ft16, ft17, ft18, ft19, ft22, ft24, ft26, ft27, ft28, ft29, ft30, ft31, ft32, ft33, ft34, ft35, ft37, ft73, ft75, ft78, ft80, ft103, ft105, ft106, ft109, ft113, ft115, ft116, ft118, ft119, ft122, ft131, ft134, ft135, ft138, ft173, ft176, ft185, h0, ↓LoopN_succ]
    refine LoopN.loop 1 ?_
    simp (maxSteps := 4000000) +contextual only [↓packA, ↓reduceIte, packB, pureOp, quietOp, loadOp, quietB, fr0, cellsK, implies_true, ite_true, ite_false, eq_self, ne_eq, reduceCtorEq, Nat.reduceLT, Nat.reduceLeDiff, Nat.reduceAdd, Nat.reduceMul, Nat.reduceBEq, Nat.reduceEqDiff, Int.reduceToNat, Int.reduceLT, Int.reduceLE, Nat.reduceSub, pl42, ft3, ft4, ft9, ft12, ft13, ft14, ft15, ft16, ft17, ft18, ft19, ft22, ft24, ft26, ft27, ft28, ft29, ft30, ft31, ft32, ft33, ft34, ft35, ft37, ft73, ft75, ft78, ft80, ft103, ft105, ft106, ft109, ft113, ft115, ft116, ft118, ft119, ft122, ft131, ft134, ft135, ft138, ft173, ft176, ft185, h0, ↓LoopN_succ]
    refine LoopN.loop 1 ?_
    simp (maxSteps := 4000000) +contextual only [↓packA, ↓reduceIte, packB, pureOp, quietOp, loadOp, quietB, fr0, cellsK, implies_true, ite_true, ite_false, eq_self, ne_eq, reduceCtorEq, Nat.reduceLT, Nat.reduceLeDiff, Nat.reduceAdd, Nat.reduceMul, Nat.reduceBEq, Nat.reduceEqDiff, Int.reduceToNat, Int.reduceLT, Int.reduceLE, Nat.reduceSub, pl42, ft3, ft4, ft9, ft12, ft13, ft14, ft15, ft16, ft17, ft18, ft19, ft22, ft24, ft26, ft27, ft28, ft29, ft30, ft31, ft32, ft33, ft34, ft35, ft37, ft73, ft75, ft78, ft80, ft103, ft105, ft106, ft109, ft113, ft115, ft116, ft118, ft119, ft122, ft131, ft134, ft135, ft138, ft173, ft176, ft185, h0, ↓LoopN_succ]
    refine LoopN.loop 1 ?_
    simp (maxSteps := 4000000) +contextual only [↓packA, ↓reduceIte, packB, pureOp, quietOp, loadOp, quietB, fr0, cellsK, implies_true, ite_true, ite_false, eq_self, ne_eq, reduceCtorEq, Nat.reduceLT, Nat.reduceLeDiff, Nat.reduceAdd, Nat.reduceMul, Nat.reduceBEq, Nat.reduceEqDiff, Int.reduceToNat, Int.reduceLT, Int.reduceLE, Nat.reduceSub, pl42, ft3, ft4, ft9, ft12, ft13, ft14, ft15, ft16, ft17, ft18, ft19, ft22, ft24, ft26, ft27, ft28, ft29, ft30, ft31, ft32, ft33, ft34, ft35, ft37, ft73, ft75, ft78, ft80, ft103, ft105, ft106, ft109, ft113, ft115, ft116, ft118, ft119, ft122, ft131, ft134, ft135, ft138, ft173, ft176, ft185, pl12, ft1, ft2, ft5, ft6, ft7, ft8, ft10, ft11, ft25, ft93, ft95, ft98, ft100, h0, ↓LoopN_succ]
    exact hq
end Go.Proofs.YtgdlkhgfehclpaaGreat
end

section
/- The law OrderSets, walked. No condition. -/
namespace Go.Proofs.YtgdlkhgfehclpaaGreat
open Go Go.AL
set_option linter.unusedVariables false
set_option linter.unusedSimpArgs false
theorem wrong_c (rows width : Int) (st cs : List Int) (hb : st.length < 1000000000) (hb2 : cs.length < 1000000000) : APure Tryz.prog 16 [pat rows width st cs] (.bool (!decide (graphP rows width st cs))) := by
  refine apure_of (wp16 rfl rfl ?_)
  simp (maxSteps := 4000000) +contextual only [↓packA, ↓reduceIte, packB, pureOp, quietOp, loadOp, quietB, fr0, cellsK, implies_true, ite_true, ite_false, eq_self, ne_eq, reduceCtorEq, Nat.reduceLT, Nat.reduceLeDiff, Nat.reduceAdd, Nat.reduceMul, Nat.reduceBEq, Nat.reduceEqDiff, Int.reduceToNat, Int.reduceLT, Int.reduceLE, Nat.reduceSub, pl16, ft3, ft4, ft22, ft24, ints]
  refine acalls_pure (rgraph_c rows width st cs hb hb2) rfl ?_
  simp (maxSteps := 4000000) +contextual only [↓packA, ↓reduceIte, packB, pureOp, quietOp, loadOp, quietB, fr0, cellsK, implies_true, ite_true, ite_false, eq_self, ne_eq, reduceCtorEq, Nat.reduceLT, Nat.reduceLeDiff, Nat.reduceAdd, Nat.reduceMul, Nat.reduceBEq, Nat.reduceEqDiff, Int.reduceToNat, Int.reduceLT, Int.reduceLE, Nat.reduceSub, pl16, ft3, ft4, ft22, ft24, ints]
  exact .pure _ rfl
end Go.Proofs.YtgdlkhgfehclpaaGreat
end

section
/- The law OrderOwn, walked. No condition. -/
namespace Go.Proofs.YtgdlkhgfehclpaaGreat
open Go Go.AL
set_option linter.unusedVariables false
set_option linter.unusedSimpArgs false
set_option maxRecDepth 100000 in
theorem apart_c {F : Nat → Prop} {B J m cap : Nat} {ex ex' : Bool} {h : Heap} {es : List (List AV)} {xs : Nat → AV} {X : Nat → List Int} {Q : AV → Heap → Prop} (hB : h[B]? = some (.arr 14 [bookCells (.osl J 1 0 m cap ex)] true)) (hJ : h[J]? = some (.arr 1 es ex')) (hes : ∀ d, d < m → es[d]? = some [xs d]) (hFB : F B) (hFJ : F J)
    (hol : OL F h m xs X) (hm : m ≤ 1000) (hX : ∀ d, d < m → (X d).length ≤ 100000) (hq : ∀ h', (∀ i, F i → h'[i]? = h[i]?) → h.length ≤ h'.length → Q (.bool true) h') : ACalls Tryz.prog 11 [.op B 14 0 0] h Q := by
  refine (wp11 rfl rfl ?_)
  simp (maxSteps := 4000000) only [↓packA, ↓reduceIte, packB, pureOp, quietOp, loadOp, quietB, fr0, cellsK, implies_true, ite_true, ite_false, eq_self, ne_eq, reduceCtorEq, Nat.reduceLT, Nat.reduceLeDiff, Nat.reduceAdd, Nat.reduceMul, Nat.reduceBEq, Nat.reduceEqDiff, Int.reduceToNat, Int.reduceLT, Int.reduceLE, Nat.reduceSub, pl11, ft40, ft48]
  refine apart24 hB ?_
  simp (maxSteps := 4000000) only [↓packA, ↓reduceIte, packB, pureOp, quietOp, loadOp, quietB, fr0, cellsK, implies_true, ite_true, ite_false, eq_self, ne_eq, reduceCtorEq, Nat.reduceLT, Nat.reduceLeDiff, Nat.reduceAdd, Nat.reduceMul, Nat.reduceBEq, Nat.reduceEqDiff, Int.reduceToNat, Int.reduceLT, Int.reduceLE, Nat.reduceSub, pl11, ft40, ft48]
  refine apart25 hB ?_
  simp (maxSteps := 4000000) only [↓packA, ↓reduceIte, packB, pureOp, quietOp, loadOp, quietB, fr0, cellsK, implies_true, ite_true, ite_false, eq_self, ne_eq, reduceCtorEq, Nat.reduceLT, Nat.reduceLeDiff, Nat.reduceAdd, Nat.reduceMul, Nat.reduceBEq, Nat.reduceEqDiff, Int.reduceToNat, Int.reduceLT, Int.reduceLE, Nat.reduceSub, pl11, ft40, ft48]
  refine apart26 hB hJ hes hFB hFJ hol hm hX fun h' hk hl => ?_
  have hB' := (hk B hFB).trans hB
  simp (maxSteps := 4000000) only [↓packA, ↓reduceIte, packB, pureOp, quietOp, loadOp, quietB, fr0, cellsK, implies_true, ite_true, ite_false, eq_self, ne_eq, reduceCtorEq, Nat.reduceLT, Nat.reduceLeDiff, Nat.reduceAdd, Nat.reduceMul, Nat.reduceBEq, Nat.reduceEqDiff, Int.reduceToNat, Int.reduceLT, Int.reduceLE, Nat.reduceSub, pl11, ft40, ft48]
  refine apart27 hB' ?_
  simp (maxSteps := 4000000) only [↓packA, ↓reduceIte, packB, pureOp, quietOp, loadOp, quietB, fr0, cellsK, implies_true, ite_true, ite_false, eq_self, ne_eq, reduceCtorEq, Nat.reduceLT, Nat.reduceLeDiff, Nat.reduceAdd, Nat.reduceMul, Nat.reduceBEq, Nat.reduceEqDiff, Int.reduceToNat, Int.reduceLT, Int.reduceLE, Nat.reduceSub, pl11, ft40, ft48]
  refine apart28 hB' ?_
  simp (maxSteps := 4000000) only [↓packA, ↓reduceIte, packB, pureOp, quietOp, loadOp, quietB, fr0, cellsK, implies_true, ite_true, ite_false, eq_self, ne_eq, reduceCtorEq, Nat.reduceLT, Nat.reduceLeDiff, Nat.reduceAdd, Nat.reduceMul, Nat.reduceBEq, Nat.reduceEqDiff, Int.reduceToNat, Int.reduceLT, Int.reduceLE, Nat.reduceSub, pl11, ft40, ft48]
  refine apart29 hB' ?_
  simp (maxSteps := 4000000) only [↓packA, ↓reduceIte, packB, pureOp, quietOp, loadOp, quietB, fr0, cellsK, implies_true, ite_true, ite_false, eq_self, ne_eq, reduceCtorEq, Nat.reduceLT, Nat.reduceLeDiff, Nat.reduceAdd, Nat.reduceMul, Nat.reduceBEq, Nat.reduceEqDiff, Int.reduceToNat, Int.reduceLT, Int.reduceLE, Nat.reduceSub, pl11, ft40, ft48]
  refine apart30 hB' ?_
  simp (maxSteps := 4000000) only [↓packA, ↓reduceIte, packB, pureOp, quietOp, loadOp, quietB, fr0, cellsK, implies_true, ite_true, ite_false, eq_self, ne_eq, reduceCtorEq, Nat.reduceLT, Nat.reduceLeDiff, Nat.reduceAdd, Nat.reduceMul, Nat.reduceBEq, Nat.reduceEqDiff, Int.reduceToNat, Int.reduceLT, Int.reduceLE, Nat.reduceSub, pl11, ft40, ft48]
  refine apart31 hB' ?_
  simp (maxSteps := 4000000) only [↓packA, ↓reduceIte, packB, pureOp, quietOp, loadOp, quietB, fr0, cellsK, implies_true, ite_true, ite_false, eq_self, ne_eq, reduceCtorEq, Nat.reduceLT, Nat.reduceLeDiff, Nat.reduceAdd, Nat.reduceMul, Nat.reduceBEq, Nat.reduceEqDiff, Int.reduceToNat, Int.reduceLT, Int.reduceLE, Nat.reduceSub, pl11, ft40, ft48]
  refine apart32 hB' ?_
  simp (maxSteps := 4000000) only [↓packA, ↓reduceIte, packB, pureOp, quietOp, loadOp, quietB, fr0, cellsK, implies_true, ite_true, ite_false, eq_self, ne_eq, reduceCtorEq, Nat.reduceLT, Nat.reduceLeDiff, Nat.reduceAdd, Nat.reduceMul, Nat.reduceBEq, Nat.reduceEqDiff, Int.reduceToNat, Int.reduceLT, Int.reduceLE, Nat.reduceSub, pl11, ft40, ft48]
  refine apart33 hB' ?_
  simp (maxSteps := 4000000) only [↓packA, ↓reduceIte, packB, pureOp, quietOp, loadOp, quietB, fr0, cellsK, implies_true, ite_true, ite_false, eq_self, ne_eq, reduceCtorEq, Nat.reduceLT, Nat.reduceLeDiff, Nat.reduceAdd, Nat.reduceMul, Nat.reduceBEq, Nat.reduceEqDiff, Int.reduceToNat, Int.reduceLT, Int.reduceLE, Nat.reduceSub, pl11, ft40, ft48]
  refine apart34 hB' ?_
  simp (maxSteps := 4000000) only [↓packA, ↓reduceIte, packB, pureOp, quietOp, loadOp, quietB, fr0, cellsK, implies_true, ite_true, ite_false, eq_self, ne_eq, reduceCtorEq, Nat.reduceLT, Nat.reduceLeDiff, Nat.reduceAdd, Nat.reduceMul, Nat.reduceBEq, Nat.reduceEqDiff, Int.reduceToNat, Int.reduceLT, Int.reduceLE, Nat.reduceSub, pl11, ft40, ft48]
  refine apart35 hB' ?_
  simp (maxSteps := 4000000) only [↓packA, ↓reduceIte, packB, pureOp, quietOp, loadOp, quietB, fr0, cellsK, implies_true, ite_true, ite_false, eq_self, ne_eq, reduceCtorEq, Nat.reduceLT, Nat.reduceLeDiff, Nat.reduceAdd, Nat.reduceMul, Nat.reduceBEq, Nat.reduceEqDiff, Int.reduceToNat, Int.reduceLT, Int.reduceLE, Nat.reduceSub, pl11, ft40, ft48]
  exact hq _ hk hl
end Go.Proofs.YtgdlkhgfehclpaaGreat
end

section
/- The book and the answers in it. No condition. -/
namespace Go.Proofs.YtgdlkhgfehclpaaGreat
open Go Go.AL
set_option linter.unusedVariables false
set_option linter.unusedSimpArgs false
/-- The book at object 44, what it holds (cells), and what will be put into it (pend). -/
structure BS (H0 g : Heap) (y : AV) (cells pend : List AV) (X : Nat → List Int) : Prop where
  keep : ∀ i, i < 44 → g[i]? = H0[i]?
  len : 45 ≤ g.length
  book : g[44]? = some (.arr 14 [bookCells y] true)
  ca : CA (fun i => i ≤ 44) g y cells
  ol : OL (fun i => i ≤ 44 ∨ idOf y = some i) g (cells ++ pend).length (fun d => (cells ++ pend).getD d .nils) X
  bd : ∀ d, d < (cells ++ pend).length → (X d).length ≤ 128
theorem BS.other {H0 g g' : Heap} {y : AV} {cells pend : List AV} {X : Nat → List Int} (p : BS H0 g y cells pend X) (hl : g.length ≤ g'.length) (hh : ∀ i, i < g.length → g'[i]? = g[i]?) : BS H0 g' y cells pend X :=
  ⟨fun i hi => (hh i (by have := p.len; omega)).trans (p.keep i hi), by have := p.len; omega, (hh 44 (by have := p.len; omega)).trans p.book, p.ca.keep fun id _ h1 hn => ⟨hn, hh id h1⟩,
    ⟨fun i hi => by have := p.ol.fix i hi; omega, fun d hd => (p.ol.bx d hd).keep fun id _ h1 hn => ⟨hn, hh id h1⟩, p.ol.dj⟩, p.bd⟩
theorem BS.app {H0 g : Heap} {y : AV} {cells pend : List AV} {X : Nat → List Int} (p : BS H0 g y cells pend X) (t : Heap) : BS H0 (g ++ t) y cells pend X :=
  p.other (by simp) fun i hi => List.getElem?_append_left hi
/-- An object that is neither the book's nor an answer's is written. -/
theorem BS.set {H0 g : Heap} {y : AV} {cells pend : List AV} {X : Nat → List Int} (p : BS H0 g y cells pend X) {M : Nat} {o : Ob} (h44 : 44 < M) (hy : idOf y ≠ some M) (ho : ∀ d, d < (cells ++ pend).length → idOf ((cells ++ pend).getD d .nils) ≠ some M) : BS H0 (g.set M o) y cells pend X :=
  ⟨fun i hi => (List.getElem?_set_ne (by omega)).trans (p.keep i hi), by have := p.len; simpa using this, (List.getElem?_set_ne (by omega)).trans p.book, p.ca.keep fun id he h1 hn => ⟨hn, List.getElem?_set_ne fun e => hy (by rw [e]; exact he)⟩,
    ⟨fun i hi => by have := p.ol.fix i hi; simpa using this, fun d hd => (p.ol.bx d hd).keep fun id he h1 hn => ⟨hn, List.getElem?_set_ne fun e => ho d hd (by rw [e]; exact he)⟩, p.ol.dj⟩, p.bd⟩
theorem BS.lt {H0 g : Heap} {y : AV} {cells pend : List AV} {X : Nat → List Int} (p : BS H0 g y cells pend X) {d i : Nat} (hd : d < (cells ++ pend).length) (e : idOf ((cells ++ pend).getD d .nils) = some i) : i < g.length := ((p.ol.bx d hd).lt e).1
theorem getD_snoc {l : List AV} {x : AV} {d : Nat} : (l ++ [x]).getD d .nils = if d = l.length then x else l.getD d .nils := by
  by_cases c : d = l.length
  · subst c
    rw [if_pos rfl, List.getD_eq_getElem?_getD, List.getElem?_append_right (Nat.le_refl _), Nat.sub_self]; rfl
  · rw [if_neg c, List.getD_eq_getElem?_getD, List.getD_eq_getElem?_getD]
    by_cases c2 : d < l.length
    · rw [List.getElem?_append_left c2]
    · rw [List.getElem?_eq_none (by simp; omega), List.getElem?_eq_none (by omega)]
/-- One more answer. -/
theorem BS.got {H0 g : Heap} {y x : AV} {cells pend : List AV} {X : Nat → List Int} {l : List Int} {t : Heap} (p : BS H0 g y cells pend X) (hx : BC (fun i => i < g.length) (g ++ t) x l) (hl : l.length ≤ 128) : ∃ X', BS H0 (g ++ t) y cells (pend ++ [x]) X' := by
  have q := p.app t
  refine ⟨updB X (cells ++ pend).length l, q.keep, q.len, q.book, q.ca, ?_, ?_⟩
  · rw [← List.append_assoc]
    refine ⟨q.ol.fix, fun d hd => ?_, fun d e hd he hne i hi => ?_⟩
    · rw [List.length_append, List.length_singleton] at hd
      simp only [getD_snoc]
      by_cases c : d = (cells ++ pend).length
      · rw [if_pos c, c, updB_same]
        exact hx.keep fun id _ _ hn => ⟨fun h => hn (p.ol.fix id h), rfl⟩
      · rw [if_neg c, updB_ne c]
        exact q.ol.bx d (by omega)
    · rw [List.length_append, List.length_singleton] at hd he
      simp only [getD_snoc] at hi ⊢
      by_cases c : d = (cells ++ pend).length
      · rw [if_pos c] at hi
        rw [if_neg (by omega)]
        intro h2
        exact (hx.lt hi).2 (p.lt (by omega) h2)
      · rw [if_neg c] at hi
        by_cases c2 : e = (cells ++ pend).length
        · rw [if_pos c2]
          intro h2
          exact (hx.lt h2).2 (p.lt (by omega) hi)
        · rw [if_neg c2]
          exact p.ol.dj d e (by omega) (by omega) hne i hi
  · intro d hd
    rw [← List.append_assoc, List.length_append, List.length_singleton] at hd
    by_cases c : d = (cells ++ pend).length
    · rw [c, updB_same]; exact hl
    · rw [updB_ne c]; exact p.bd d (by omega)
/-- An answer is put into the book. -/
theorem BS.put {H0 g : Heap} {y x : AV} {cells pend : List AV} {X : Nat → List Int} {Q : AV → Heap → Prop} (p : BS H0 g y cells (x :: pend) X) (hsm : cells.length < 900000)
    (hq : ∀ h' y', BS H0 h' y' (cells ++ [x]) pend X → g.length ≤ h'.length → (∀ i, i < g.length → i ≠ 44 → idOf y ≠ some i → h'[i]? = g[i]?) → (∀ i, idOf y' = some i → idOf y = some i ∨ g.length ≤ i) → Q (.tup []) h') : ACalls Tryz.prog 7 [.op 44 14 0 0, x] g Q := by
  have hlen := p.len
  have ex : cells ++ x :: pend = cells ++ [x] ++ pend := by simp
  have hx := p.ol.bx cells.length (by simp)
  have hgx : (cells ++ x :: pend).getD cells.length .nils = x := by rw [List.getD_eq_getElem?_getD, List.getElem?_append_right (Nat.le_refl _), Nat.sub_self]; rfl
  simp only [hgx] at hx
  refine book_ints (F := fun i => i ≤ 44) p.book p.ca (Nat.le_refl _) (fun i hi => by omega) hsm (bc_form hx) fun h' y' h1 h2 h3 h4 h5 => ?_
  refine hq h' y' ⟨fun i hi => (h4 i (by omega) (by omega) (fun e => (p.ca.lt e).2 (by omega))).trans (p.keep i hi), by omega, h3, h2, ?_, ?_⟩ h1 h4 h5
  · rw [← ex]
    refine ⟨fun i hi => ?_, fun d hd => ?_, p.ol.dj⟩
    · rcases hi with hi | hi
      · omega
      · exact (h2.lt hi).1
    · refine (p.ol.bx d hd).keep fun id _ hlt hn => ⟨fun h => ?_, h4 id hlt (fun e => hn (.inl (by omega))) (fun e => hn (.inr e))⟩
      rcases h with h | h
      · exact hn (.inl h)
      · rcases h5 id h with h6 | h6
        · exact hn (.inr h6)
        · omega
  · rw [← ex]; exact p.bd
/-- All that the book holds is apart. -/
theorem BS.apart {H0 g : Heap} {y : AV} {cells : List AV} {X : Nat → List Int} {Q : AV → Heap → Prop} (p : BS H0 g y cells [] X) (h0 : 0 < cells.length) (hsm : cells.length ≤ 1000) (hq : ∀ h', (∀ i, i < 44 → h'[i]? = H0[i]?) → 45 ≤ h'.length → Q (.bool true) h') : ACalls Tryz.prog 11 [.op 44 14 0 0] g Q := by
  have hlen := p.len
  have hol := p.ol
  have hbd := p.bd
  rw [List.append_nil] at hol hbd
  rcases p.ca with ⟨_, e⟩ | ⟨J, cap, ex, es, ex', hy, h1, h2, h3, h4, h5⟩
  · rw [e] at h0; simp at h0
  · have hb := p.book
    rw [hy] at hb
    refine apart_c (F := fun i => i ≤ 44 ∨ idOf y = some i) (xs := fun d => cells.getD d .nils) (X := X) hb h2 (fun d hd => ?_) (.inl (Nat.le_refl _)) (.inr (by rw [hy]; rfl)) hol hsm (fun d hd => Nat.le_trans (hbd d hd) (by omega)) fun h' hk hl => hq h' (fun i hi => (hk i (.inl (by omega))).trans (p.keep i hi)) (by omega)
    rw [← List.getElem?_take_of_lt hd, h5, List.getElem?_map, List.getD_eq_getElem?_getD, List.getElem?_eq_getElem hd]
    rfl
end Go.Proofs.YtgdlkhgfehclpaaGreat
end

section
/- What each kind promises of its order: plain part. No condition. -/
namespace Go.Proofs.YtgdlkhgfehclpaaGreat
open Go Go.AL
set_option linter.unusedVariables false
set_option linter.unusedSimpArgs false
theorem ordOK_of {n : Int} {l : List Int} (nd : l.Nodup) (hr : ∀ x, x ∈ l → 0 ≤ x ∧ x < n) : ordOK n l := fun i hi => by
  have hg : ∀ j (h : j < l.length), l.getD j default = l[j] := fun j h => by rw [List.getD_eq_getElem?_getD, List.getElem?_eq_getElem h]; rfl
  have h1 := hr _ (List.getElem_mem hi)
  refine ⟨by rw [hg i hi]; exact h1.1, by rw [hg i hi]; exact h1.2, fun j hj e => ?_⟩
  rw [hg i hi, hg j (by omega)] at e
  exact List.pairwise_iff_getElem.1 nd j i (by omega) hi hj e
structure KindOK (st cs : List Int) (n : Nat) (kd : Int) (l : List Int) : Prop where
  len : l.length = n
  ord : ordOK n l
  k1 : kd = 1 → ∀ i, i < n → l.getD i default = i
  k2 : kd = 2 → ∀ i, 0 < i → i < n → ltD (degI st cs) (l.getD (i - 1) default) (l.getD i default)
  k3 : kd = 3 → ∀ (T : List Bool) i, i < n → T.length = n → seenOK l (i + 1) T → ∀ k, k < i → cnt st cs T (l.getD i default).toNat ≤ cnt st cs T (l.getD k default).toNat
  k4 : kd = 4 → ∀ (T : List Bool) i, i < n → T.length = n → seenOK l i T → ∀ k, i < k → k < n → cnt st cs T (l.getD k default).toNat ≤ cnt st cs T (l.getD i default).toNat
theorem ist_get {st cs : List Int} {n : Nat} : ∀ {k : Nat}, k ≤ n → ∀ i, i < k → (ist st cs n k).L.getD i default = bI st cs (ist st cs n i).P n
  | 0, _, i, h => absurd h (Nat.not_lt_zero _)
  | k + 1, hk, i, h => by
    have hl := (ist_ok st cs n k (by omega)).ll
    simp only [ist]
    by_cases e : i = k
    · subst e
      rw [List.getD_eq_getElem?_getD, List.getElem?_append_right (by omega), hl, Nat.sub_self]; rfl
    · rw [List.getD_eq_getElem?_getD, List.getElem?_append_left (by omega), ← List.getD_eq_getElem?_getD]
      exact ist_get (by omega) i (by omega)
theorem ist_mem {st cs : List Int} {n i u : Nat} (hi : i ≤ n) (hu : u < n) : (ist st cs n i).P.getD u false = true ↔ ∃ j, j < i ∧ (incL st cs n).getD j default = u := by
  have h := ist_ok st cs n i hi
  rw [h.mem u hu]
  constructor
  · intro hm
    obtain ⟨j, hj, e⟩ := mem_getD.1 hm
    rw [h.ll] at hj
    exact ⟨j, hj, by unfold incL; rw [ist_get (Nat.le_refl n) j (by omega), ← ist_get hi j hj]; exact e⟩
  · rintro ⟨j, hj, e⟩
    unfold incL at e
    rw [ist_get (Nat.le_refl n) j (by omega), ← ist_get hi j hj] at e
    exact mem_getD.2 ⟨j, by rw [h.ll]; exact hj, e⟩
theorem kinds_ok {st cs : List Int} {n : Nat} (hg : graphP n n st cs) {kd : Int} {l : List Int} (hk : (kd = 1 ∧ l = natL n) ∨ (kd = 2 ∧ l = lgL st cs n) ∨ (kd = 3 ∧ l = ordOf st cs n) ∨ (kd = 4 ∧ l = incL st cs n)) : KindOK st cs n kd l := by
  have hm := hg.1.1
  rcases hk with ⟨rfl, rfl⟩ | ⟨rfl, rfl⟩ | ⟨rfl, rfl⟩ | ⟨rfl, rfl⟩
  · exact ⟨natL_len, ordOK_of nodup_natL (fun x hx => natL_mem.1 hx), fun _ i hi => natL_get hi, by simp, by simp, by simp⟩
  · have hl := lgL_ok hm
    have hll := lg_len hl
    refine ⟨hll, ordOK_of hl.nodup (fun x hx => (hl.mem x).1 hx), by simp, fun _ i h0 hi => ?_, by simp, by simp⟩
    have := List.pairwise_iff_getElem.1 hl.pw (i - 1) i (by omega) (by omega) (by omega)
    rw [← gv_eq, ← gv_eq] at this
    exact this
  · refine ⟨ordOf_len, by have := ordOf_ok (st := st) (cs := cs) (n := n); rwa [ordOf_len] at this, by simp, by simp, fun _ T i hi hT hs k hki => ?_, by simp⟩
    have hi1 : n - 1 - i < n := by omega
    have hb := bv_best (st := st) (cs := cs) hi1
    have hsT : ∀ u, u < n → (T.getD u false = true ↔ (pst st cs n (n - 1 - i)).S.getD u false = true) := fun u hu => by
      rw [S_iff (by omega) hu]
      refine (hs u (by omega)).trans ⟨?_, ?_⟩
      · rintro ⟨j, hj, e⟩
        rw [ordOf_get (by omega)] at e
        exact ⟨n - 1 - j, by omega, by omega, by omega⟩
      · rintro ⟨j, h1, h2, e⟩
        refine ⟨n - 1 - j, by omega, ?_⟩
        rw [ordOf_get (by omega), show n - 1 - (n - 1 - j) = j by omega, e]
    rw [ordOf_get hi, ordOf_get (by omega), Int.toNat_natCast, Int.toNat_natCast]
    have hb2 := (bv_best (st := st) (cs := cs) (show n - 1 - k < n by omega)).1
    rw [cnt_congr hm hb.1 hsT, cnt_congr hm hb2 hsT]
    exact (hb.2.2 _ hb2 ((S_iff (by omega) hb2).2 ⟨n - 1 - k, by omega, by omega, rfl⟩)).1
  · have hI := ist_ok st cs n n (Nat.le_refl _)
    have hord : ordOK n (incL st cs n) := ordOK_of hI.nd hI.rng
    refine ⟨hI.ll, hord, by simp, by simp, by simp, fun _ T i hi hT hs k hki hk => ?_⟩
    have hII := ist_ok st cs n i (by omega)
    have hbi := ist_best hII hi
    have hbn := bI_in (st := st) (cs := cs) (P := (ist st cs n i).P) n
    have hsT : ∀ u, u < n → (T.getD u false = true ↔ (ist st cs n i).P.getD u false = true) := fun u hu => by
      rw [ist_mem (by omega) hu]
      exact hs u (by omega)
    have e1 : (incL st cs n).getD i default = bI st cs (ist st cs n i).P n := ist_get (Nat.le_refl n) i hi
    have h2 := hord k (by rw [show (incL st cs n).length = n from hI.ll]; exact hk)
    have hvn : ((incL st cs n).getD k default).toNat < n := by have := h2.1; have := h2.2.1; omega
    rw [e1, cnt_congr hm hvn hsT, cnt_congr hm (by omega) hsT]
    have h3 : (ist st cs n i).P.getD ((incL st cs n).getD k default).toNat false = false := by
      cases hc : (ist st cs n i).P.getD ((incL st cs n).getD k default).toNat false with
      | false => rfl
      | true =>
        obtain ⟨j, hj, e⟩ := (ist_mem (by omega) hvn).1 hc
        have := h2.1
        exact absurd (by omega) (h2.2.2 j (by omega))
    have h4 := (bI_pos n hbi).2 _ hvn h3
    unfold bts at h4
    omega
end Go.Proofs.YtgdlkhgfehclpaaGreat
end

section
/- Copies of a pattern; the other way round. No condition. -/
namespace Go.Proofs.YtgdlkhgfehclpaaGreat
open Go Go.AL
set_option linter.unusedVariables false
set_option linter.unusedSimpArgs false
theorem bc_frz {F : Nat → Prop} {h : Heap} {x : AV} {l : List Int} (hb : BC F h x l) : Frz h x (ints l) := by
  rcases hb with ⟨rfl, rfl⟩ | ⟨id, len, cap, ex, es, ex', rfl, q1, q2, q3, q4, q5, rfl⟩
  · exact .nils 1
  · exact frz_ints q2 rfl (by simp; omega)
set_option maxRecDepth 100000 in
theorem copyp_c (rows width : Int) (st cs : List Int) (hb : st.length < 10000000) (hb2 : cs.length < 10000000) : ACalls Tryz.prog 13 [pat rows width st cs] [] fun v h => v = .agg [.int .i64 rows, .int .i64 width, .osl 0 1 0 st.length (st.length + 3) true, .osl 1 1 0 cs.length (cs.length + 3) true] ∧ h = [.arr 1 (List.map intE (st ++ [0, 0, 0])) true, .arr 1 (List.map intE (cs ++ [0, 0, 0])) true] := by
  refine acalls_gc ?_
  refine wp13 rfl rfl ?_
  simp (maxSteps := 4000000) +contextual only [↓packA, ↓reduceIte, packB, pureOp, quietOp, loadOp, quietB, fr0, cellsK, implies_true, ite_true, ite_false, eq_self, ne_eq, reduceCtorEq, Nat.reduceLT, Nat.reduceLeDiff, Nat.reduceAdd, Nat.reduceMul, Nat.reduceBEq, Nat.reduceEqDiff, Int.reduceToNat, Int.reduceLT, Int.reduceLE, Nat.reduceSub, pl13, ft1, ft2, ft3, ft22, ft24, patch, ints]
  refine acalls_shift (copy_c st (by omega)) rfl ?_
  rintro u h0 ⟨rfl, rfl⟩
  simp (maxSteps := 4000000) +contextual only [↓packA, ↓reduceIte, packB, pureOp, quietOp, loadOp, quietB, fr0, cellsK, implies_true, ite_true, ite_false, eq_self, ne_eq, reduceCtorEq, Nat.reduceLT, Nat.reduceLeDiff, Nat.reduceAdd, Nat.reduceMul, Nat.reduceBEq, Nat.reduceEqDiff, Int.reduceToNat, Int.reduceLT, Int.reduceLE, Nat.reduceSub, pl13, ft1, ft2, ft3, ft22, ft24, patch, ints]
  refine acalls_shift (copy_c cs (by omega)) rfl ?_
  rintro u h0 ⟨rfl, rfl⟩
  simp (maxSteps := 4000000) +contextual only [↓packA, ↓reduceIte, packB, pureOp, quietOp, loadOp, quietB, fr0, cellsK, implies_true, ite_true, ite_false, eq_self, ne_eq, reduceCtorEq, Nat.reduceLT, Nat.reduceLeDiff, Nat.reduceAdd, Nat.reduceMul, Nat.reduceBEq, Nat.reduceEqDiff, Int.reduceToNat, Int.reduceLT, Int.reduceLE, Nat.reduceSub, pl13, ft1, ft2, ft3, ft22, ft24, patch, ints]
  refine ⟨[2, 3], ⟨by decide, rfl⟩, rfl, ?_⟩
  simp only [gcH, List.map_cons, List.map_nil, List.getElem?_cons_succ, List.getElem?_cons_zero, ren_intEs]
def downL (n i : Nat) : List Int := (List.range i).map (fun j => ((n : Int) - 1 - (j : Nat)))
theorem downL_len {n i : Nat} : (downL n i).length = i := by simp [downL]
theorem downL_succ {n i : Nat} : downL n (i + 1) = downL n i ++ [(n : Int) - 1 - i] := by simp [downL, List.range_succ]
theorem downL_ok {n : Nat} : ordOK (downL n n).length (downL n n) := by
  have : ordOK (n : Int) (downL n n) := by
    refine ordOK_of ?_ (fun x hx => ?_)
    · unfold downL
      rw [List.Nodup, List.pairwise_map]
      exact List.Pairwise.imp (fun h => by omega) List.pairwise_lt_range
    · obtain ⟨j, hj, rfl⟩ := List.mem_map.1 hx
      have := List.mem_range.1 hj
      omega
  rwa [downL_len]
theorem csQ_full {st cs xs : List Int} {n : Nat} (hg : graphP n n st cs) (hn : n ≤ 128) (hxl : xs.length = n) (hord : ordOK xs.length xs) : (csQ st cs xs n n).length = cs.length := by
  have hT : ∀ w : Nat, w < n → (List.replicate n true).getD w false = true := fun w hw => by rw [List.getD_eq_getElem?_getD, List.getElem?_replicate, if_pos hw]; rfl
  rw [← degs_all (may_q (st := st) (cs := cs) (xs := xs) hn), ← degs_all hg.1.1]
  unfold degs
  rw [← rsum_perm hxl hord (fun u => if (List.replicate n true).getD u false = true then cnt st cs (List.replicate n true) u else 0)]
  refine rsum_congr fun i hi => ?_
  obtain ⟨v, hv, hvn⟩ := xs_in hxl hord hi
  rw [if_pos (hT i hi), hv, Int.toNat_natCast, if_pos (hT v hvn)]
  have := cnt_q (i := i) (T := List.replicate n true) (H := List.replicate n true) hg.1.1 hxl hord hi (fun k hk => by
    obtain ⟨u, hu, hun⟩ := xs_in hxl hord hk
    rw [hu, Int.toNat_natCast, hT k hk, hT u hun])
  rw [this, hv, Int.toNat_natCast]
end Go.Proofs.YtgdlkhgfehclpaaGreat
end

section
/- The law OrderOwn, walked. No condition. -/
namespace Go.Proofs.YtgdlkhgfehclpaaGreat
open Go Go.AL
set_option linter.unusedVariables false
set_option linter.unusedSimpArgs false
def ownH (rows width rows2 width2 : Int) (st cs st2 cs2 xs : List Int) : Heap := [Ob.arr 4 [[AV.int IntKind.i64 rows, AV.int IntKind.i64 width, AV.isl 1 (List.map intE st), AV.isl 1 (List.map intE cs)]] true, Ob.arr 4 [[AV.int IntKind.i64 rows2, AV.int IntKind.i64 width2, AV.isl 1 (List.map intE st2), AV.isl 1 (List.map intE cs2)]] true, Ob.arr 20 [[AV.nils, AV.nils, AV.nils, AV.nils, AV.osl 40 1 0 5 5 false, AV.osl 43 1 0 5 5 false, AV.nils, AV.nils, AV.nils, AV.nils, AV.nils, AV.nils, AV.nils, AV.nils, AV.nils, AV.nils, AV.nils, AV.nils, AV.nils, AV.nils]] true, Ob.arr 4 [[AV.int IntKind.i64 rows, AV.int IntKind.i64 width, AV.isl 1 (List.map intE st), AV.isl 1 (List.map intE cs)]] true, Ob.arr 4 [[AV.int IntKind.i64 rows, AV.int IntKind.i64 width, AV.osl 5 1 0 st.length (st.length + 3) true, AV.osl 12 1 0 cs.length (cs.length + 3) true]] true, Ob.arr 1 (List.map intE (st ++ [-41, -42, -43])) true, Ob.arr 1 [[AV.int IntKind.i64 (-41)], [AV.int IntKind.i64 (-42)], [AV.int IntKind.i64 (-43)]] true, Ob.arr 1 [[AV.osl 5 1 0 (st.length + 3) (st.length + 3) true]] true, Ob.dead, Ob.arr 1 (List.map intE (st ++ [-41, -42, -43] ++ [0, 0, 0])) true, Ob.arr 1 [[AV.osl 9 1 0 (st.length + 3) (st.length + 3 + 3) true]] true, Ob.dead, Ob.arr 1 (List.map intE (cs ++ [-41, -42, -43])) true, Ob.arr 1 [[AV.int IntKind.i64 (-41)], [AV.int IntKind.i64 (-42)], [AV.int IntKind.i64 (-43)]] true, Ob.arr 1 [[AV.osl 12 1 0 (cs.length + 3) (cs.length + 3) true]] true, Ob.dead, Ob.arr 1 (List.map intE (cs ++ [-41, -42, -43] ++ [0, 0, 0])) true, Ob.arr 1 [[AV.osl 16 1 0 (cs.length + 3) (cs.length + 3 + 3) true]] true, Ob.dead, Ob.arr 4 [[AV.int IntKind.i64 rows, AV.int IntKind.i64 width, AV.osl 5 1 0 st.length (st.length + 3) true, AV.osl 12 1 0 cs.length (cs.length + 3) true]] true, Ob.arr 4 [[AV.int IntKind.i64 rows2, AV.int IntKind.i64 width2, AV.isl 1 (List.map intE st2), AV.isl 1 (List.map intE cs2)]] true, Ob.arr 4 [[AV.int IntKind.i64 rows2, AV.int IntKind.i64 width2, AV.osl 22 1 0 st2.length (st2.length + 3) true, AV.osl 29 1 0 cs2.length (cs2.length + 3) true]] true, Ob.arr 1 (List.map intE (st2 ++ [-41, -42, -43])) true, Ob.arr 1 [[AV.int IntKind.i64 (-41)], [AV.int IntKind.i64 (-42)], [AV.int IntKind.i64 (-43)]] true, Ob.arr 1 [[AV.osl 22 1 0 (st2.length + 3) (st2.length + 3) true]] true, Ob.dead, Ob.arr 1 (List.map intE (st2 ++ [-41, -42, -43] ++ [0, 0, 0])) true, Ob.arr 1 [[AV.osl 26 1 0 (st2.length + 3) (st2.length + 3 + 3) true]] true, Ob.dead, Ob.arr 1 (List.map intE (cs2 ++ [-41, -42, -43])) true, Ob.arr 1 [[AV.int IntKind.i64 (-41)], [AV.int IntKind.i64 (-42)], [AV.int IntKind.i64 (-43)]] true, Ob.arr 1 [[AV.osl 29 1 0 (cs2.length + 3) (cs2.length + 3) true]] true, Ob.dead, Ob.arr 1 (List.map intE (cs2 ++ [-41, -42, -43] ++ [0, 0, 0])) true, Ob.arr 1 [[AV.osl 33 1 0 (cs2.length + 3) (cs2.length + 3 + 3) true]] true, Ob.dead, Ob.arr 4 [[AV.int IntKind.i64 rows2, AV.int IntKind.i64 width2, AV.osl 22 1 0 st2.length (st2.length + 3) true, AV.osl 29 1 0 cs2.length (cs2.length + 3) true]] true, Ob.arr 1 (List.map intE (xs ++ [-41, -42, -43])) true, Ob.arr 1 [[AV.int IntKind.i64 (-41)], [AV.int IntKind.i64 (-42)], [AV.int IntKind.i64 (-43)]] true, Ob.arr 1 [[AV.osl 37 1 0 (xs.length + 3) (xs.length + 3) true]] true, Ob.arr 1 [[AV.osl 5 1 0 (st.length + 3) (st.length + 3) true], [AV.osl 12 1 0 (cs.length + 3) (cs.length + 3) true], [AV.osl 22 1 0 (st2.length + 3) (st2.length + 3) true], [AV.osl 29 1 0 (cs2.length + 3) (cs2.length + 3) true], [AV.osl 37 1 0 (xs.length + 3) (xs.length + 3) true]] false, Ob.arr 1 (List.map intE (xs ++ [-41, -42, -43] ++ [0, 0, 0])) true, Ob.arr 1 [[AV.osl 41 1 0 (xs.length + 3) (xs.length + 3 + 3) true]] true, Ob.arr 1 [[AV.osl 9 1 0 (st.length + 3) (st.length + 3 + 3) true], [AV.osl 16 1 0 (cs.length + 3) (cs.length + 3 + 3) true], [AV.osl 26 1 0 (st2.length + 3) (st2.length + 3 + 3) true], [AV.osl 33 1 0 (cs2.length + 3) (cs2.length + 3 + 3) true], [AV.osl 41 1 0 (xs.length + 3) (xs.length + 3 + 3) true]] false, Ob.arr 14 [[AV.nils, AV.nils, AV.nils, AV.nils, AV.nils, AV.nils, AV.nils, AV.nils, AV.nils, AV.nils, AV.nils, AV.nils, AV.nils, AV.nils]] true]
def pcell (rows width : Int) (i j n m : Nat) : List AV := [.int .i64 rows, .int .i64 width, .osl i 1 0 n (n + 3) true, .osl j 1 0 m (m + 3) true]
theorem half_i64 {n : Nat} (h : n < 10000000) : IntKind.i64.wrap ((n : Int).tdiv 2) = ((n / 2 : Nat) : Int) := by
  rw [show (n : Int).tdiv 2 = ((n / 2 : Nat) : Int) from (Int.ofNat_tdiv n 2).symm]
  rw [IntKind.wrap_i64]
  omega
theorem frz_mark {h : Heap} {i : Nat} {l : List Int} (hi : h[i]? = some (.arr 1 (List.map intE (l ++ [-41, -42, -43])) true)) : Frz h (.osl i 1 0 l.length (l.length + 3) true) (ints l) := frz_ints hi (by simp) rfl
set_option maxHeartbeats 16000000 in
set_option maxRecDepth 100000 in
theorem law_own (rows width : Int) (st cs : List Int) (rows2 width2 : Int) (st2 cs2 xs : List Int) (hb : st.length < 10000000) (hb2 : cs.length < 10000000) (hb3 : st2.length < 10000000) (hb4 : cs2.length < 10000000) (hb5 : xs.length < 10000000) : ACalls Tryz.prog 3 [pat rows width st cs, pat rows2 width2 st2 cs2, ints xs] [] fun v h => OFz h v (.bool true) := by
  refine (wp3 rfl rfl ?_)
  simp (maxSteps := 4000000) +contextual only [↓packA, ↓reduceIte, packB, pureOp, quietOp, loadOp, quietB, fr0, cellsK, implies_true, ite_true, ite_false, eq_self, ne_eq, reduceCtorEq, Nat.reduceLT, Nat.reduceLeDiff, Nat.reduceAdd, Nat.reduceMul, Nat.reduceBEq, Nat.reduceEqDiff, Int.reduceToNat, Int.reduceLT, Int.reduceLE, Nat.reduceSub, pl3, ft1, ft2, ft3, ft4, ft22, ft24, ft25, ft26, ft27, ft28, ft29, ft30, ft31, ft32, ft33, ft34, ft35, ft37, ft40, ft41, ft42, ft43, ft44, ft45, ft46, ft48, ft49, ft73, ft75, ft78, ft80, ft96, ft103, ft106, ft110, ft113, ft116, ft119, ft124, ft135, ft138, patch, ints]
  refine wp4 rfl rfl ?_
  simp (maxSteps := 4000000) +contextual only [↓packA, ↓reduceIte, packB, pureOp, quietOp, loadOp, quietB, fr0, cellsK, implies_true, ite_true, ite_false, eq_self, ne_eq, reduceCtorEq, Nat.reduceLT, Nat.reduceLeDiff, Nat.reduceAdd, Nat.reduceMul, Nat.reduceBEq, Nat.reduceEqDiff, Int.reduceToNat, Int.reduceLT, Int.reduceLE, Nat.reduceSub, pl4, ft1, ft2, ft3, ft4, ft22, ft24, ft25, ft37, pl3, ft26, ft27, ft28, ft29, ft30, ft31, ft32, ft33, ft34, ft35, ft40, ft41, ft42, ft43, ft44, ft45, ft46, ft48, ft49, ft73, ft75, ft78, ft80, ft96, ft103, ft106, ft110, ft113, ft116, ft119, ft124, ft135, ft138, patch, ints]
  refine wp5 rfl rfl ?_
  simp (maxSteps := 4000000) +contextual only [↓packA, ↓reduceIte, packB, pureOp, quietOp, loadOp, quietB, fr0, cellsK, implies_true, ite_true, ite_false, eq_self, ne_eq, reduceCtorEq, Nat.reduceLT, Nat.reduceLeDiff, Nat.reduceAdd, Nat.reduceMul, Nat.reduceBEq, Nat.reduceEqDiff, Int.reduceToNat, Int.reduceLT, Int.reduceLE, Nat.reduceSub, pl5, ft1, ft3, ft4, ft5, ft22, ft26, ft27, ft28, ft29, ft30, ft31, ft32, ft33, ft34, ft35, ft37, ft73, ft75, ft78, ft80, ft103, ft106, ft135, ft138, pl4, ft2, ft24, ft25, pl3, ft40, ft41, ft42, ft43, ft44, ft45, ft46, ft48, ft49, ft96, ft110, ft113, ft116, ft119, ft124, patch, ints]
  refine acalls_shift (copy_c st (by omega)) rfl ?_
  rintro u h0 ⟨rfl, rfl⟩
  simp (maxSteps := 4000000) +contextual only [↓packA, ↓reduceIte, packB, pureOp, quietOp, loadOp, quietB, fr0, cellsK, implies_true, ite_true, ite_false, eq_self, ne_eq, reduceCtorEq, Nat.reduceLT, Nat.reduceLeDiff, Nat.reduceAdd, Nat.reduceMul, Nat.reduceBEq, Nat.reduceEqDiff, Int.reduceToNat, Int.reduceLT, Int.reduceLE, Nat.reduceSub, pl5, ft1, ft3, ft4, ft5, ft22, ft26, ft27, ft28, ft29, ft30, ft31, ft32, ft33, ft34, ft35, ft37, ft73, ft75, ft78, ft80, ft103, ft106, ft135, ft138, pl4, ft2, ft24, ft25, pl3, ft40, ft41, ft42, ft43, ft44, ft45, ft46, ft48, ft49, ft96, ft110, ft113, ft116, ft119, ft124, patch, ints]
  refine ⟨by omega, by omega, ?_⟩
  refine acalls_lend_shift (copy_c (st ++ [-41, -42, -43]) (by simp; omega)) (.cons (frz_ints (l := st ++ [-41, -42, -43]) rfl (by rw [List.take_of_length_le]; simp) (by simp)) .nil) ?_
  rintro u h0 ⟨rfl, rfl⟩
  refine ⟨⟨rfl, fun o ho => by rw [List.mem_singleton.1 ho]; exact lean_intEs⟩, ?_⟩
  simp (maxSteps := 4000000) +contextual only [↓packA, ↓reduceIte, packB, pureOp, quietOp, loadOp, quietB, fr0, cellsK, implies_true, ite_true, ite_false, eq_self, ne_eq, reduceCtorEq, Nat.reduceLT, Nat.reduceLeDiff, Nat.reduceAdd, Nat.reduceMul, Nat.reduceBEq, Nat.reduceEqDiff, Int.reduceToNat, Int.reduceLT, Int.reduceLE, Nat.reduceSub, pl5, ft1, ft3, ft4, ft5, ft22, ft26, ft27, ft28, ft29, ft30, ft31, ft32, ft33, ft34, ft35, ft37, ft73, ft75, ft78, ft80, ft103, ft106, ft135, ft138, pl4, ft2, ft24, ft25, pl3, ft40, ft41, ft42, ft43, ft44, ft45, ft46, ft48, ft49, ft96, ft110, ft113, ft116, ft119, ft124, patch, ints]
  refine ⟨by omega, by omega, ?_⟩
  refine wp5 rfl rfl ?_
  simp (maxSteps := 4000000) +contextual only [↓packA, ↓reduceIte, packB, pureOp, quietOp, loadOp, quietB, fr0, cellsK, implies_true, ite_true, ite_false, eq_self, ne_eq, reduceCtorEq, Nat.reduceLT, Nat.reduceLeDiff, Nat.reduceAdd, Nat.reduceMul, Nat.reduceBEq, Nat.reduceEqDiff, Int.reduceToNat, Int.reduceLT, Int.reduceLE, Nat.reduceSub, pl5, ft1, ft3, ft4, ft5, ft22, ft26, ft27, ft28, ft29, ft30, ft31, ft32, ft33, ft34, ft35, ft37, ft73, ft75, ft78, ft80, ft103, ft106, ft135, ft138, pl4, ft2, ft24, ft25, pl3, ft40, ft41, ft42, ft43, ft44, ft45, ft46, ft48, ft49, ft96, ft110, ft113, ft116, ft119, ft124, patch, ints]
  refine acalls_shift (copy_c cs (by omega)) rfl ?_
  rintro u h0 ⟨rfl, rfl⟩
  simp (maxSteps := 4000000) +contextual only [↓packA, ↓reduceIte, packB, pureOp, quietOp, loadOp, quietB, fr0, cellsK, implies_true, ite_true, ite_false, eq_self, ne_eq, reduceCtorEq, Nat.reduceLT, Nat.reduceLeDiff, Nat.reduceAdd, Nat.reduceMul, Nat.reduceBEq, Nat.reduceEqDiff, Int.reduceToNat, Int.reduceLT, Int.reduceLE, Nat.reduceSub, pl5, ft1, ft3, ft4, ft5, ft22, ft26, ft27, ft28, ft29, ft30, ft31, ft32, ft33, ft34, ft35, ft37, ft73, ft75, ft78, ft80, ft103, ft106, ft135, ft138, pl4, ft2, ft24, ft25, pl3, ft40, ft41, ft42, ft43, ft44, ft45, ft46, ft48, ft49, ft96, ft110, ft113, ft116, ft119, ft124, patch, ints]
  refine ⟨by omega, by omega, ?_⟩
  refine acalls_lend_shift (copy_c (cs ++ [-41, -42, -43]) (by simp; omega)) (.cons (frz_ints (l := cs ++ [-41, -42, -43]) rfl (by rw [List.take_of_length_le]; simp) (by simp)) .nil) ?_
  rintro u h0 ⟨rfl, rfl⟩
  refine ⟨⟨rfl, fun o ho => by rw [List.mem_singleton.1 ho]; exact lean_intEs⟩, ?_⟩
  simp (maxSteps := 4000000) +contextual only [↓packA, ↓reduceIte, packB, pureOp, quietOp, loadOp, quietB, fr0, cellsK, implies_true, ite_true, ite_false, eq_self, ne_eq, reduceCtorEq, Nat.reduceLT, Nat.reduceLeDiff, Nat.reduceAdd, Nat.reduceMul, Nat.reduceBEq, Nat.reduceEqDiff, Int.reduceToNat, Int.reduceLT, Int.reduceLE, Nat.reduceSub, pl5, ft1, ft3, ft4, ft5, ft22, ft26, ft27, ft28, ft29, ft30, ft31, ft32, ft33, ft34, ft35, ft37, ft73, ft75, ft78, ft80, ft103, ft106, ft135, ft138, pl4, ft2, ft24, ft25, pl3, ft40, ft41, ft42, ft43, ft44, ft45, ft46, ft48, ft49, ft96, ft110, ft113, ft116, ft119, ft124, patch, ints]
  refine ⟨by omega, by omega, ?_⟩
  simp (maxSteps := 4000000) +contextual only [↓packA, ↓reduceIte, packB, pureOp, quietOp, loadOp, quietB, fr0, cellsK, implies_true, ite_true, ite_false, eq_self, ne_eq, reduceCtorEq, Nat.reduceLT, Nat.reduceLeDiff, Nat.reduceAdd, Nat.reduceMul, Nat.reduceBEq, Nat.reduceEqDiff, Int.reduceToNat, Int.reduceLT, Int.reduceLE, Nat.reduceSub, pl3, ft1, ft2, ft3, ft4, ft22, ft24, ft25, ft26, ft27, ft28, ft29, ft30, ft31, ft32, ft33, ft34, ft35, ft37, ft40, ft41, ft42, ft43, ft44, ft45, ft46, ft48, ft49, ft73, ft75, ft78, ft80, ft96, ft103, ft106, ft110, ft113, ft116, ft119, ft124, ft135, ft138, patch, ints]
  refine wp4 rfl rfl ?_
  simp (maxSteps := 4000000) +contextual only [↓packA, ↓reduceIte, packB, pureOp, quietOp, loadOp, quietB, fr0, cellsK, implies_true, ite_true, ite_false, eq_self, ne_eq, reduceCtorEq, Nat.reduceLT, Nat.reduceLeDiff, Nat.reduceAdd, Nat.reduceMul, Nat.reduceBEq, Nat.reduceEqDiff, Int.reduceToNat, Int.reduceLT, Int.reduceLE, Nat.reduceSub, pl4, ft1, ft2, ft3, ft4, ft22, ft24, ft25, ft37, pl3, ft26, ft27, ft28, ft29, ft30, ft31, ft32, ft33, ft34, ft35, ft40, ft41, ft42, ft43, ft44, ft45, ft46, ft48, ft49, ft73, ft75, ft78, ft80, ft96, ft103, ft106, ft110, ft113, ft116, ft119, ft124, ft135, ft138, patch, ints]
  refine wp5 rfl rfl ?_
  simp (maxSteps := 4000000) +contextual only [↓packA, ↓reduceIte, packB, pureOp, quietOp, loadOp, quietB, fr0, cellsK, implies_true, ite_true, ite_false, eq_self, ne_eq, reduceCtorEq, Nat.reduceLT, Nat.reduceLeDiff, Nat.reduceAdd, Nat.reduceMul, Nat.reduceBEq, Nat.reduceEqDiff, Int.reduceToNat, Int.reduceLT, Int.reduceLE, Nat.reduceSub, pl5, ft1, ft3, ft4, ft5, ft22, ft26, ft27, ft28, ft29, ft30, ft31, ft32, ft33, ft34, ft35, ft37, ft73, ft75, ft78, ft80, ft103, ft106, ft135, ft138, pl4, ft2, ft24, ft25, pl3, ft40, ft41, ft42, ft43, ft44, ft45, ft46, ft48, ft49, ft96, ft110, ft113, ft116, ft119, ft124, patch, ints]
  refine acalls_shift (copy_c st2 (by omega)) rfl ?_
  rintro u h0 ⟨rfl, rfl⟩
  simp (maxSteps := 4000000) +contextual only [↓packA, ↓reduceIte, packB, pureOp, quietOp, loadOp, quietB, fr0, cellsK, implies_true, ite_true, ite_false, eq_self, ne_eq, reduceCtorEq, Nat.reduceLT, Nat.reduceLeDiff, Nat.reduceAdd, Nat.reduceMul, Nat.reduceBEq, Nat.reduceEqDiff, Int.reduceToNat, Int.reduceLT, Int.reduceLE, Nat.reduceSub, pl5, ft1, ft3, ft4, ft5, ft22, ft26, ft27, ft28, ft29, ft30, ft31, ft32, ft33, ft34, ft35, ft37, ft73, ft75, ft78, ft80, ft103, ft106, ft135, ft138, pl4, ft2, ft24, ft25, pl3, ft40, ft41, ft42, ft43, ft44, ft45, ft46, ft48, ft49, ft96, ft110, ft113, ft116, ft119, ft124, patch, ints]
  refine ⟨by omega, by omega, ?_⟩
  refine acalls_lend_shift (copy_c (st2 ++ [-41, -42, -43]) (by simp; omega)) (.cons (frz_ints (l := st2 ++ [-41, -42, -43]) rfl (by rw [List.take_of_length_le]; simp) (by simp)) .nil) ?_
  rintro u h0 ⟨rfl, rfl⟩
  refine ⟨⟨rfl, fun o ho => by rw [List.mem_singleton.1 ho]; exact lean_intEs⟩, ?_⟩
  simp (maxSteps := 4000000) +contextual only [↓packA, ↓reduceIte, packB, pureOp, quietOp, loadOp, quietB, fr0, cellsK, implies_true, ite_true, ite_false, eq_self, ne_eq, reduceCtorEq, Nat.reduceLT, Nat.reduceLeDiff, Nat.reduceAdd, Nat.reduceMul, Nat.reduceBEq, Nat.reduceEqDiff, Int.reduceToNat, Int.reduceLT, Int.reduceLE, Nat.reduceSub, pl5, ft1, ft3, ft4, ft5, ft22, ft26, ft27, ft28, ft29, ft30, ft31, ft32, ft33, ft34, ft35, ft37, ft73, ft75, ft78, ft80, ft103, ft106, ft135, ft138, pl4, ft2, ft24, ft25, pl3, ft40, ft41, ft42, ft43, ft44, ft45, ft46, ft48, ft49, ft96, ft110, ft113, ft116, ft119, ft124, patch, ints]
  refine ⟨by omega, by omega, ?_⟩
  refine wp5 rfl rfl ?_
  simp (maxSteps := 4000000) +contextual only [↓packA, ↓reduceIte, packB, pureOp, quietOp, loadOp, quietB, fr0, cellsK, implies_true, ite_true, ite_false, eq_self, ne_eq, reduceCtorEq, Nat.reduceLT, Nat.reduceLeDiff, Nat.reduceAdd, Nat.reduceMul, Nat.reduceBEq, Nat.reduceEqDiff, Int.reduceToNat, Int.reduceLT, Int.reduceLE, Nat.reduceSub, pl5, ft1, ft3, ft4, ft5, ft22, ft26, ft27, ft28, ft29, ft30, ft31, ft32, ft33, ft34, ft35, ft37, ft73, ft75, ft78, ft80, ft103, ft106, ft135, ft138, pl4, ft2, ft24, ft25, pl3, ft40, ft41, ft42, ft43, ft44, ft45, ft46, ft48, ft49, ft96, ft110, ft113, ft116, ft119, ft124, patch, ints]
  refine acalls_shift (copy_c cs2 (by omega)) rfl ?_
  rintro u h0 ⟨rfl, rfl⟩
  simp (maxSteps := 4000000) +contextual only [↓packA, ↓reduceIte, packB, pureOp, quietOp, loadOp, quietB, fr0, cellsK, implies_true, ite_true, ite_false, eq_self, ne_eq, reduceCtorEq, Nat.reduceLT, Nat.reduceLeDiff, Nat.reduceAdd, Nat.reduceMul, Nat.reduceBEq, Nat.reduceEqDiff, Int.reduceToNat, Int.reduceLT, Int.reduceLE, Nat.reduceSub, pl5, ft1, ft3, ft4, ft5, ft22, ft26, ft27, ft28, ft29, ft30, ft31, ft32, ft33, ft34, ft35, ft37, ft73, ft75, ft78, ft80, ft103, ft106, ft135, ft138, pl4, ft2, ft24, ft25, pl3, ft40, ft41, ft42, ft43, ft44, ft45, ft46, ft48, ft49, ft96, ft110, ft113, ft116, ft119, ft124, patch, ints]
  refine ⟨by omega, by omega, ?_⟩
  refine acalls_lend_shift (copy_c (cs2 ++ [-41, -42, -43]) (by simp; omega)) (.cons (frz_ints (l := cs2 ++ [-41, -42, -43]) rfl (by rw [List.take_of_length_le]; simp) (by simp)) .nil) ?_
  rintro u h0 ⟨rfl, rfl⟩
  refine ⟨⟨rfl, fun o ho => by rw [List.mem_singleton.1 ho]; exact lean_intEs⟩, ?_⟩
  simp (maxSteps := 4000000) +contextual only [↓packA, ↓reduceIte, packB, pureOp, quietOp, loadOp, quietB, fr0, cellsK, implies_true, ite_true, ite_false, eq_self, ne_eq, reduceCtorEq, Nat.reduceLT, Nat.reduceLeDiff, Nat.reduceAdd, Nat.reduceMul, Nat.reduceBEq, Nat.reduceEqDiff, Int.reduceToNat, Int.reduceLT, Int.reduceLE, Nat.reduceSub, pl5, ft1, ft3, ft4, ft5, ft22, ft26, ft27, ft28, ft29, ft30, ft31, ft32, ft33, ft34, ft35, ft37, ft73, ft75, ft78, ft80, ft103, ft106, ft135, ft138, pl4, ft2, ft24, ft25, pl3, ft40, ft41, ft42, ft43, ft44, ft45, ft46, ft48, ft49, ft96, ft110, ft113, ft116, ft119, ft124, patch, ints]
  refine ⟨by omega, by omega, ?_⟩
  simp (maxSteps := 4000000) +contextual only [↓packA, ↓reduceIte, packB, pureOp, quietOp, loadOp, quietB, fr0, cellsK, implies_true, ite_true, ite_false, eq_self, ne_eq, reduceCtorEq, Nat.reduceLT, Nat.reduceLeDiff, Nat.reduceAdd, Nat.reduceMul, Nat.reduceBEq, Nat.reduceEqDiff, Int.reduceToNat, Int.reduceLT, Int.reduceLE, Nat.reduceSub, pl3, ft1, ft2, ft3, ft4, ft22, ft24, ft25, ft26, ft27, ft28, ft29, ft30, ft31, ft32, ft33, ft34, ft35, ft37, ft40, ft41, ft42, ft43, ft44, ft45, ft46, ft48, ft49, ft73, ft75, ft78, ft80, ft96, ft103, ft106, ft110, ft113, ft116, ft119, ft124, ft135, ft138, patch, ints]
  refine wp5 rfl rfl ?_
  simp (maxSteps := 4000000) +contextual only [↓packA, ↓reduceIte, packB, pureOp, quietOp, loadOp, quietB, fr0, cellsK, implies_true, ite_true, ite_false, eq_self, ne_eq, reduceCtorEq, Nat.reduceLT, Nat.reduceLeDiff, Nat.reduceAdd, Nat.reduceMul, Nat.reduceBEq, Nat.reduceEqDiff, Int.reduceToNat, Int.reduceLT, Int.reduceLE, Nat.reduceSub, pl5, ft1, ft3, ft4, ft5, ft22, ft26, ft27, ft28, ft29, ft30, ft31, ft32, ft33, ft34, ft35, ft37, ft73, ft75, ft78, ft80, ft103, ft106, ft135, ft138, pl3, ft2, ft24, ft25, ft40, ft41, ft42, ft43, ft44, ft45, ft46, ft48, ft49, ft96, ft110, ft113, ft116, ft119, ft124, patch, ints]
  refine acalls_shift (copy_c xs (by omega)) rfl ?_
  rintro u h0 ⟨rfl, rfl⟩
  simp (maxSteps := 4000000) +contextual only [↓packA, ↓reduceIte, packB, pureOp, quietOp, loadOp, quietB, fr0, cellsK, implies_true, ite_true, ite_false, eq_self, ne_eq, reduceCtorEq, Nat.reduceLT, Nat.reduceLeDiff, Nat.reduceAdd, Nat.reduceMul, Nat.reduceBEq, Nat.reduceEqDiff, Int.reduceToNat, Int.reduceLT, Int.reduceLE, Nat.reduceSub, pl5, ft1, ft3, ft4, ft5, ft22, ft26, ft27, ft28, ft29, ft30, ft31, ft32, ft33, ft34, ft35, ft37, ft73, ft75, ft78, ft80, ft103, ft106, ft135, ft138, pl3, ft2, ft24, ft25, ft40, ft41, ft42, ft43, ft44, ft45, ft46, ft48, ft49, ft96, ft110, ft113, ft116, ft119, ft124, patch, ints]
  refine ⟨by omega, by omega, ?_⟩
  refine acalls_lend_shift (copy_c (xs ++ [-41, -42, -43]) (by simp; omega)) (.cons (frz_ints (l := xs ++ [-41, -42, -43]) rfl (by rw [List.take_of_length_le]; simp) (by simp)) .nil) ?_
  rintro u h0 ⟨rfl, rfl⟩
  refine ⟨⟨rfl, fun o ho => by rw [List.mem_singleton.1 ho]; exact lean_intEs⟩, ?_⟩
  simp (maxSteps := 4000000) +contextual only [↓packA, ↓reduceIte, packB, pureOp, quietOp, loadOp, quietB, fr0, cellsK, implies_true, ite_true, ite_false, eq_self, ne_eq, reduceCtorEq, Nat.reduceLT, Nat.reduceLeDiff, Nat.reduceAdd, Nat.reduceMul, Nat.reduceBEq, Nat.reduceEqDiff, Int.reduceToNat, Int.reduceLT, Int.reduceLE, Nat.reduceSub, pl5, ft1, ft3, ft4, ft5, ft22, ft26, ft27, ft28, ft29, ft30, ft31, ft32, ft33, ft34, ft35, ft37, ft73, ft75, ft78, ft80, ft103, ft106, ft135, ft138, pl3, ft2, ft24, ft25, ft40, ft41, ft42, ft43, ft44, ft45, ft46, ft48, ft49, ft96, ft110, ft113, ft116, ft119, ft124, patch, ints]
  refine ⟨by omega, by omega, ?_⟩
  simp (maxSteps := 4000000) +contextual only [↓packA, ↓reduceIte, packB, pureOp, quietOp, loadOp, quietB, fr0, cellsK, implies_true, ite_true, ite_false, eq_self, ne_eq, reduceCtorEq, Nat.reduceLT, Nat.reduceLeDiff, Nat.reduceAdd, Nat.reduceMul, Nat.reduceBEq, Nat.reduceEqDiff, Int.reduceToNat, Int.reduceLT, Int.reduceLE, Nat.reduceSub, pl3, ft1, ft2, ft3, ft4, ft22, ft24, ft25, ft26, ft27, ft28, ft29, ft30, ft31, ft32, ft33, ft34, ft35, ft37, ft40, ft41, ft42, ft43, ft44, ft45, ft46, ft48, ft49, ft73, ft75, ft78, ft80, ft96, ft103, ft106, ft110, ft113, ft116, ft119, ft124, ft135, ft138, patch, ints]
  refine (show LoopK _ _ _ (ownH rows width rows2 width2 st cs st2 cs2 xs) from ?_)
  have e0 : (ownH rows width rows2 width2 st cs st2 cs2 xs)[0]? = some (.arr 4 [[.int .i64 rows, .int .i64 width, .isl 1 (List.map intE st), .isl 1 (List.map intE cs)]] true) := rfl
  have e2 : (ownH rows width rows2 width2 st cs st2 cs2 xs)[2]? = some (.arr 20 [givenCells (.osl 40 1 0 5 5 false) (.osl 43 1 0 5 5 false)] true) := rfl
  have e5 : (ownH rows width rows2 width2 st cs st2 cs2 xs)[5]? = some (.arr 1 (List.map intE (st ++ [-41, -42, -43])) true) := rfl
  have e9 : (ownH rows width rows2 width2 st cs st2 cs2 xs)[9]? = some (.arr 1 (List.map intE (st ++ [-41, -42, -43] ++ [0, 0, 0])) true) := rfl
  have e12 : (ownH rows width rows2 width2 st cs st2 cs2 xs)[12]? = some (.arr 1 (List.map intE (cs ++ [-41, -42, -43])) true) := rfl
  have e16 : (ownH rows width rows2 width2 st cs st2 cs2 xs)[16]? = some (.arr 1 (List.map intE (cs ++ [-41, -42, -43] ++ [0, 0, 0])) true) := rfl
  have e19 : (ownH rows width rows2 width2 st cs st2 cs2 xs)[19]? = some (.arr 4 [[.int .i64 rows, .int .i64 width, .osl 5 1 0 st.length (st.length + 3) true, .osl 12 1 0 cs.length (cs.length + 3) true]] true) := rfl
  have e22 : (ownH rows width rows2 width2 st cs st2 cs2 xs)[22]? = some (.arr 1 (List.map intE (st2 ++ [-41, -42, -43])) true) := rfl
  have e26 : (ownH rows width rows2 width2 st cs st2 cs2 xs)[26]? = some (.arr 1 (List.map intE (st2 ++ [-41, -42, -43] ++ [0, 0, 0])) true) := rfl
  have e29 : (ownH rows width rows2 width2 st cs st2 cs2 xs)[29]? = some (.arr 1 (List.map intE (cs2 ++ [-41, -42, -43])) true) := rfl
  have e33 : (ownH rows width rows2 width2 st cs st2 cs2 xs)[33]? = some (.arr 1 (List.map intE (cs2 ++ [-41, -42, -43] ++ [0, 0, 0])) true) := rfl
  have e36 : (ownH rows width rows2 width2 st cs st2 cs2 xs)[36]? = some (.arr 4 [[.int .i64 rows2, .int .i64 width2, .osl 22 1 0 st2.length (st2.length + 3) true, .osl 29 1 0 cs2.length (cs2.length + 3) true]] true) := rfl
  have e37 : (ownH rows width rows2 width2 st cs st2 cs2 xs)[37]? = some (.arr 1 (List.map intE (xs ++ [-41, -42, -43])) true) := rfl
  have e41 : (ownH rows width rows2 width2 st cs st2 cs2 xs)[41]? = some (.arr 1 (List.map intE (xs ++ [-41, -42, -43] ++ [0, 0, 0])) true) := rfl
  have e40 : (ownH rows width rows2 width2 st cs st2 cs2 xs)[40]? = some (.arr 1 (List.map GL.cell [⟨5, st.length + 3, st.length + 3, true⟩, ⟨12, cs.length + 3, cs.length + 3, true⟩, ⟨22, st2.length + 3, st2.length + 3, true⟩, ⟨29, cs2.length + 3, cs2.length + 3, true⟩, ⟨37, xs.length + 3, xs.length + 3, true⟩]) false) := rfl
  have e43 : (ownH rows width rows2 width2 st cs st2 cs2 xs)[43]? = some (.arr 1 (List.map GL.cell [⟨9, st.length + 3, st.length + 3 + 3, true⟩, ⟨16, cs.length + 3, cs.length + 3 + 3, true⟩, ⟨26, st2.length + 3, st2.length + 3 + 3, true⟩, ⟨33, cs2.length + 3, cs2.length + 3 + 3, true⟩, ⟨41, xs.length + 3, xs.length + 3 + 3, true⟩]) false) := rfl
  have e44 : (ownH rows width rows2 width2 st cs st2 cs2 xs)[44]? = some (.arr 14 [bookCells .nils] true) := rfl
  have el : (ownH rows width rows2 width2 st cs st2 cs2 xs).length = 45 := rfl
  generalize ownH rows width rows2 width2 st cs st2 cs2 xs = H0 at *
  refine LoopK.intro (fun w a g => ∃ (k : Nat) (y : AV) (cells : List AV) (X : Nat → List Int), w = 3 - k ∧ k ≤ 3 ∧ BS H0 g y cells [] X ∧ cells.length = 8 * k ∧ a 2 = ints xs ∧ a 3 = .op 0 4 0 0 ∧ a 7 = .op 2 20 0 0 ∧ a 8 = .op 19 4 0 0 ∧ a 9 = .op 36 4 0 0 ∧ a 10 = .osl 37 1 0 xs.length (xs.length + 3) true ∧ a 11 = .op 44 14 0 0 ∧ a 12 = .int .i64  k) 3 ⟨0, .nils, [], fun _ => [], rfl, by omega, ⟨fun i _ => rfl, by omega, e44, .inl ⟨rfl, rfl⟩, ⟨fun i hi => hi.elim (fun h => by omega) (fun h => by cases h), fun d hd => absurd hd (by simp), fun d e hd => absurd hd (by simp)⟩, fun d hd => absurd hd (by simp)⟩, rfl, ?_⟩ ?_
  · simp (maxSteps := 4000000) only [↓packA, ↓reduceIte, packB, pureOp, quietOp, loadOp, quietB, fr0, cellsK, implies_true, ite_true, ite_false, eq_self, ne_eq, reduceCtorEq, Nat.reduceLT, Nat.reduceLeDiff, Nat.reduceAdd, Nat.reduceMul, Nat.reduceBEq, Nat.reduceEqDiff, Int.reduceToNat, Int.reduceLT, Int.reduceLE, Nat.reduceSub, pl3, ft1, ft2, ft3, ft4, ft22, ft24, ft25, ft26, ft27, ft28, ft29, ft30, ft31, ft32, ft33, ft34, ft35, ft37, ft40, ft41, ft42, ft43, ft44, ft45, ft46, ft48, ft49, ft73, ft75, ft78, ft80, ft96, ft103, ft106, ft110, ft113, ft116, ft119, ft124, ft135, ft138, ints, Int.natCast_zero]
  rintro w a g ⟨k, y, cells, X, rfl, hk, p, hcl, a2, a3, a7, a8, a9, a10, a11, a12⟩
  have hgl := p.len
  have q0 := (p.keep 0 (by omega)).trans e0
  have q19 := (p.keep 19 (by omega)).trans e19
  have q36 := (p.keep 36 (by omega)).trans e36
  by_cases r : k < 3
  · have r1 : (k : Int) < 3 := by omega
    obtain ⟨M, hM⟩ : ∃ M, g.length = M := ⟨_, rfl⟩
    have rM : ∀ o, (g ++ [o])[M]? = some o := fun o => by rw [List.getElem?_append_right (by omega)]; simp [hM]
    have sM : ∀ o o', (g ++ [o]).set M o' = g ++ [o'] := fun o o' => by rw [List.set_append_right _ _ (by omega)]; simp [hM]
    have ra36 : ∀ o, (g ++ [o])[36]? = _ := fun o => (List.getElem?_append_left (by omega)).trans q36
    have hyM : idOf y ≠ some M := fun e => by have := (p.ca.lt e).1; omega
    by_cases c : k = 1
    · have c1 : (k : Int) = 1 := by omega
      simp (maxSteps := 4000000) only [↓packA, ↓reduceIte, packB, pureOp, quietOp, loadOp, quietB, fr0, cellsK, implies_true, ite_true, ite_false, eq_self, ne_eq, reduceCtorEq, Nat.reduceLT, Nat.reduceLeDiff, Nat.reduceAdd, Nat.reduceMul, Nat.reduceBEq, Nat.reduceEqDiff, Int.reduceToNat, Int.reduceLT, Int.reduceLE, Nat.reduceSub, pl3, ft1, ft2, ft3, ft4, ft22, ft24, ft25, ft26, ft27, ft28, ft29, ft30, ft31, ft32, ft33, ft34, ft35, ft37, ft40, ft41, ft42, ft43, ft44, ft45, ft46, ft48, ft49, ft73, ft75, ft78, ft80, ft96, ft103, ft106, ft110, ft113, ft116, ft119, ft124, ft135, ft138, patch, ints, a2, a3, a7, a8, a9, a10, a11, a12, r1, c1, q19, q36, hM, rM, sM, ra36]
      refine LoopK.intro (fun w a g2 => ∃ (kd : Nat) (y : AV) (cells : List AV) (X : Nat → List Int), w = 6 - kd ∧ 1 ≤ kd ∧ kd ≤ 6 ∧ BS H0 g2 y cells [] X ∧ cells.length = 8 * k + (kd - 1) ∧ g2[M]? = some (.arr 4 [[.int .i64 rows2, .int .i64 width2, .osl 22 1 0 st2.length (st2.length + 3) true, .osl 29 1 0 cs2.length (cs2.length + 3) true]] true) ∧ idOf y ≠ some M ∧ M < g2.length ∧ a 2 = ints xs ∧ a 3 = .op 0 4 0 0 ∧ a 7 = .op 2 20 0 0 ∧ a 8 = .op 19 4 0 0 ∧ a 9 = .op 36 4 0 0 ∧ a 10 = .osl 37 1 0 xs.length (xs.length + 3) true ∧ a 11 = .op 44 14 0 0 ∧ a 12 = .int .i64  k ∧ a 13 = .op M 4 0 0 ∧ a 14 = .int .i64 kd) 5 ⟨1, y, cells, X, rfl, by omega, by omega, p.app _, by omega, rM _, hyM, by simp; omega, ?_⟩ ?_
      · simp (maxSteps := 4000000) only [↓packA, ↓reduceIte, packB, pureOp, quietOp, loadOp, quietB, fr0, cellsK, implies_true, ite_true, ite_false, eq_self, ne_eq, reduceCtorEq, Nat.reduceLT, Nat.reduceLeDiff, Nat.reduceAdd, Nat.reduceMul, Nat.reduceBEq, Nat.reduceEqDiff, Int.reduceToNat, Int.reduceLT, Int.reduceLE, Nat.reduceSub, pl3, ft1, ft2, ft3, ft4, ft22, ft24, ft25, ft26, ft27, ft28, ft29, ft30, ft31, ft32, ft33, ft34, ft35, ft37, ft40, ft41, ft42, ft43, ft44, ft45, ft46, ft48, ft49, ft73, ft75, ft78, ft80, ft96, ft103, ft106, ft110, ft113, ft116, ft119, ft124, ft135, ft138, a2, a3, a7, a8, a9, a10, a11, a12, Int.cast_ofNat_Int, Int.natCast_zero, Int.natCast_one, Int.reduceAdd, Int.reduceSub, Int.reduceNeg, Int.reduceMul, Int.reduceToNat, Int.reduceLT, Int.reduceLE, Int.reduceEq, Int.reduceBEq, Int.reduceBNe, Nat.reduceSub, Nat.reduceLT, List.getD_cons_zero, List.getD_cons_succ, List.length_singleton, Bool.and_true, Bool.and_false]
      clear a2 a3 a7 a8 a9 a10 a11 a12 p hyM
      rintro w a g2 ⟨kd, y, cells, X, rfl, hk1, hk6, p, hcl, zM, hyM, hMl, a2, a3, a7, a8, a9, a10, a11, a12, a13, a14⟩
      have fz : ∀ g3 : Heap, (∀ i, i < 44 → g3[i]? = H0[i]?) → Frz g3 (.agg [.int .i64 rows2, .int .i64 width2, .osl 22 1 0 st2.length (st2.length + 3) true, .osl 29 1 0 cs2.length (cs2.length + 3) true]) (pat rows2 width2 st2 cs2) := fun g3 hg => frz_pat (frz_mark ((hg 22 (by omega)).trans e22)) (frz_mark ((hg 29 (by omega)).trans e29))
      have fs : ∀ g3 : Heap, (∀ i, i < 44 → g3[i]? = H0[i]?) → Frz g3 (.osl 37 1 0 xs.length (xs.length + 3) true) (ints xs) := fun g3 hg => frz_mark ((hg 37 (by omega)).trans e37)
      by_cases r2 : kd ≤ 5
      · have r3 : (kd : Int) ≤ 5 := by omega
        simp (maxSteps := 4000000) only [↓packA, ↓reduceIte, packB, pureOp, quietOp, loadOp, quietB, fr0, cellsK, implies_true, ite_true, ite_false, eq_self, ne_eq, reduceCtorEq, Nat.reduceLT, Nat.reduceLeDiff, Nat.reduceAdd, Nat.reduceMul, Nat.reduceBEq, Nat.reduceEqDiff, Int.reduceToNat, Int.reduceLT, Int.reduceLE, Nat.reduceSub, pl3, ft1, ft2, ft3, ft4, ft22, ft24, ft25, ft26, ft27, ft28, ft29, ft30, ft31, ft32, ft33, ft34, ft35, ft37, ft40, ft41, ft42, ft43, ft44, ft45, ft46, ft48, ft49, ft73, ft75, ft78, ft80, ft96, ft103, ft106, ft110, ft113, ft116, ft119, ft124, ft135, ft138, a2, a3, a7, a8, a9, a10, a11, a12, a13, a14, r3, zM]
        refine own_order kd rows2 width2 st2 cs2 xs (by omega) (by omega) (by omega) (.cons (.pure _ rfl) (.cons (fz g2 p.keep) (.cons (fs g2 p.keep) .nil))) fun x l e t hx hl => ?_
        obtain ⟨X', p'⟩ := p.got hx hl
        simp (maxSteps := 4000000) only [↓packA, ↓reduceIte, packB, pureOp, quietOp, loadOp, quietB, fr0, cellsK, implies_true, ite_true, ite_false, eq_self, ne_eq, reduceCtorEq, Nat.reduceLT, Nat.reduceLeDiff, Nat.reduceAdd, Nat.reduceMul, Nat.reduceBEq, Nat.reduceEqDiff, Int.reduceToNat, Int.reduceLT, Int.reduceLE, Nat.reduceSub, pl3, ft1, ft2, ft3, ft4, ft22, ft24, ft25, ft26, ft27, ft28, ft29, ft30, ft31, ft32, ft33, ft34, ft35, ft37, ft40, ft41, ft42, ft43, ft44, ft45, ft46, ft48, ft49, ft73, ft75, ft78, ft80, ft96, ft103, ft106, ft110, ft113, ft116, ft119, ft124, ft135, ft138, a2, a3, a7, a8, a9, a10, a11, a12, a13, a14]
        refine BS.put (pend := []) p' (by omega) fun h' y' p2 h1 h2 h3 => ?_
        simp (maxSteps := 4000000) only [↓packA, ↓reduceIte, packB, pureOp, quietOp, loadOp, quietB, fr0, cellsK, implies_true, ite_true, ite_false, eq_self, ne_eq, reduceCtorEq, Nat.reduceLT, Nat.reduceLeDiff, Nat.reduceAdd, Nat.reduceMul, Nat.reduceBEq, Nat.reduceEqDiff, Int.reduceToNat, Int.reduceLT, Int.reduceLE, Nat.reduceSub, pl3, ft1, ft2, ft3, ft4, ft22, ft24, ft25, ft26, ft27, ft28, ft29, ft30, ft31, ft32, ft33, ft34, ft35, ft37, ft40, ft41, ft42, ft43, ft44, ft45, ft46, ft48, ft49, ft73, ft75, ft78, ft80, ft96, ft103, ft106, ft110, ft113, ft116, ft119, ft124, ft135, ft138, a2, a3, a7, a8, a9, a10, a11, a12, a13, a14]
        refine ⟨by omega, .inl ⟨6 - (kd + 1), by omega, kd + 1, y', cells ++ [x], X', rfl, by omega, by omega, p2, by simp; omega, ?_, fun e => ?_, ?_, by omega⟩⟩
        · rw [h2 M (by simp; omega) (by omega) hyM, List.getElem?_append_left hMl, zM]
        · rcases h3 M e with h4 | h4
          · exact hyM h4
          · simp at h4; omega
        · simp at h1; omega
      · have r3 : ¬ (kd : Int) ≤ 5 := by omega
        simp (maxSteps := 4000000) only [↓packA, ↓reduceIte, packB, pureOp, quietOp, loadOp, quietB, fr0, cellsK, implies_true, ite_true, ite_false, eq_self, ne_eq, reduceCtorEq, Nat.reduceLT, Nat.reduceLeDiff, Nat.reduceAdd, Nat.reduceMul, Nat.reduceBEq, Nat.reduceEqDiff, Int.reduceToNat, Int.reduceLT, Int.reduceLE, Nat.reduceSub, pl3, ft1, ft2, ft3, ft4, ft22, ft24, ft25, ft26, ft27, ft28, ft29, ft30, ft31, ft32, ft33, ft34, ft35, ft37, ft40, ft41, ft42, ft43, ft44, ft45, ft46, ft48, ft49, ft73, ft75, ft78, ft80, ft96, ft103, ft106, ft110, ft113, ft116, ft119, ft124, ft135, ft138, a2, a3, a7, a8, a9, a10, a11, a12, a13, a14, r3, zM]
        refine own_back rows2 width2 st2 cs2 xs (by omega) (by omega) (by omega) (.cons (fz g2 p.keep) (.cons (fs g2 p.keep) .nil)) fun x l mm e t hx hl => ?_
        obtain ⟨X1, p1⟩ := p.got hx hl
        have zM1 : (g2 ++ t)[M]? = _ := (List.getElem?_append_left hMl).trans zM
        have hM1 : M < (g2 ++ t).length := by simp; omega
        generalize g2 ++ t = g3 at *
        simp (maxSteps := 4000000) only [↓packA, ↓reduceIte, packB, pureOp, quietOp, loadOp, quietB, fr0, cellsK, implies_true, ite_true, ite_false, eq_self, ne_eq, reduceCtorEq, Nat.reduceLT, Nat.reduceLeDiff, Nat.reduceAdd, Nat.reduceMul, Nat.reduceBEq, Nat.reduceEqDiff, Int.reduceToNat, Int.reduceLT, Int.reduceLE, Nat.reduceSub, pl3, ft1, ft2, ft3, ft4, ft22, ft24, ft25, ft26, ft27, ft28, ft29, ft30, ft31, ft32, ft33, ft34, ft35, ft37, ft40, ft41, ft42, ft43, ft44, ft45, ft46, ft48, ft49, ft73, ft75, ft78, ft80, ft96, ft103, ft106, ft110, ft113, ft116, ft119, ft124, ft135, ft138, a2, a3, a7, a8, a9, a10, a11, a12, a13, a14, zM1]
        refine own_degen rows2 width2 st2 cs2 (by omega) (by omega) (.cons (fz g3 p1.keep) .nil) fun x2 l2 mm2 e2 t2 hx2 hl2 => ?_
        obtain ⟨X2, p2⟩ := p1.got hx2 hl2
        generalize g3 ++ t2 = g4 at *
        simp (maxSteps := 4000000) only [↓packA, ↓reduceIte, packB, pureOp, quietOp, loadOp, quietB, fr0, cellsK, implies_true, ite_true, ite_false, eq_self, ne_eq, reduceCtorEq, Nat.reduceLT, Nat.reduceLeDiff, Nat.reduceAdd, Nat.reduceMul, Nat.reduceBEq, Nat.reduceEqDiff, Int.reduceToNat, Int.reduceLT, Int.reduceLE, Nat.reduceSub, pl3, ft1, ft2, ft3, ft4, ft22, ft24, ft25, ft26, ft27, ft28, ft29, ft30, ft31, ft32, ft33, ft34, ft35, ft37, ft40, ft41, ft42, ft43, ft44, ft45, ft46, ft48, ft49, ft73, ft75, ft78, ft80, ft96, ft103, ft106, ft110, ft113, ft116, ft119, ft124, ft135, ft138, a2, a3, a7, a8, a9, a10, a11, a12, a13, a14]
        refine own_inv xs (by omega) (.cons (fs g4 p2.keep) .nil) fun x3 l3 e3 t3 hx3 hl3 => ?_
        obtain ⟨X3, p3⟩ := p2.got hx3 hl3
        generalize g4 ++ t3 = g5 at *
        simp (maxSteps := 4000000) only [↓packA, ↓reduceIte, packB, pureOp, quietOp, loadOp, quietB, fr0, cellsK, implies_true, ite_true, ite_false, eq_self, ne_eq, reduceCtorEq, Nat.reduceLT, Nat.reduceLeDiff, Nat.reduceAdd, Nat.reduceMul, Nat.reduceBEq, Nat.reduceEqDiff, Int.reduceToNat, Int.reduceLT, Int.reduceLE, Nat.reduceSub, pl3, ft1, ft2, ft3, ft4, ft22, ft24, ft25, ft26, ft27, ft28, ft29, ft30, ft31, ft32, ft33, ft34, ft35, ft37, ft40, ft41, ft42, ft43, ft44, ft45, ft46, ft48, ft49, ft73, ft75, ft78, ft80, ft96, ft103, ft106, ft110, ft113, ft116, ft119, ft124, ft135, ft138, a2, a3, a7, a8, a9, a10, a11, a12, a13, a14]
        refine BS.put (pend := [x2, x3]) p3 (by omega) fun h5 y5 p5 _ _ _ => ?_
        simp (maxSteps := 4000000) only [↓packA, ↓reduceIte, packB, pureOp, quietOp, loadOp, quietB, fr0, cellsK, implies_true, ite_true, ite_false, eq_self, ne_eq, reduceCtorEq, Nat.reduceLT, Nat.reduceLeDiff, Nat.reduceAdd, Nat.reduceMul, Nat.reduceBEq, Nat.reduceEqDiff, Int.reduceToNat, Int.reduceLT, Int.reduceLE, Nat.reduceSub, pl3, ft1, ft2, ft3, ft4, ft22, ft24, ft25, ft26, ft27, ft28, ft29, ft30, ft31, ft32, ft33, ft34, ft35, ft37, ft40, ft41, ft42, ft43, ft44, ft45, ft46, ft48, ft49, ft73, ft75, ft78, ft80, ft96, ft103, ft106, ft110, ft113, ft116, ft119, ft124, ft135, ft138, a2, a3, a7, a8, a9, a10, a11, a12, a13, a14]
        refine BS.put (pend := [x3]) p5 (by simp; omega) fun h6 y6 p6 _ _ _ => ?_
        simp (maxSteps := 4000000) only [↓packA, ↓reduceIte, packB, pureOp, quietOp, loadOp, quietB, fr0, cellsK, implies_true, ite_true, ite_false, eq_self, ne_eq, reduceCtorEq, Nat.reduceLT, Nat.reduceLeDiff, Nat.reduceAdd, Nat.reduceMul, Nat.reduceBEq, Nat.reduceEqDiff, Int.reduceToNat, Int.reduceLT, Int.reduceLE, Nat.reduceSub, pl3, ft1, ft2, ft3, ft4, ft22, ft24, ft25, ft26, ft27, ft28, ft29, ft30, ft31, ft32, ft33, ft34, ft35, ft37, ft40, ft41, ft42, ft43, ft44, ft45, ft46, ft48, ft49, ft73, ft75, ft78, ft80, ft96, ft103, ft106, ft110, ft113, ft116, ft119, ft124, ft135, ft138, a2, a3, a7, a8, a9, a10, a11, a12, a13, a14]
        refine BS.put (pend := []) p6 (by simp; omega) fun h7 y7 p7 _ _ _ => ?_
        simp (maxSteps := 4000000) only [↓packA, ↓reduceIte, packB, pureOp, quietOp, loadOp, quietB, fr0, cellsK, implies_true, ite_true, ite_false, eq_self, ne_eq, reduceCtorEq, Nat.reduceLT, Nat.reduceLeDiff, Nat.reduceAdd, Nat.reduceMul, Nat.reduceBEq, Nat.reduceEqDiff, Int.reduceToNat, Int.reduceLT, Int.reduceLE, Nat.reduceSub, pl3, ft1, ft2, ft3, ft4, ft22, ft24, ft25, ft26, ft27, ft28, ft29, ft30, ft31, ft32, ft33, ft34, ft35, ft37, ft40, ft41, ft42, ft43, ft44, ft45, ft46, ft48, ft49, ft73, ft75, ft78, ft80, ft96, ft103, ft106, ft110, ft113, ft116, ft119, ft124, ft135, ft138, a2, a3, a7, a8, a9, a10, a11, a12, a13, a14]
        exact ⟨by omega, .inl ⟨3 - (k + 1), by omega, k + 1, y7, _, X3, rfl, by omega, p7, by simp; omega, by omega⟩⟩
    · have c1 : ¬ (k : Int) = 1 := by omega
      simp (maxSteps := 4000000) only [↓packA, ↓reduceIte, packB, pureOp, quietOp, loadOp, quietB, fr0, cellsK, implies_true, ite_true, ite_false, eq_self, ne_eq, reduceCtorEq, Nat.reduceLT, Nat.reduceLeDiff, Nat.reduceAdd, Nat.reduceMul, Nat.reduceBEq, Nat.reduceEqDiff, Int.reduceToNat, Int.reduceLT, Int.reduceLE, Nat.reduceSub, pl3, ft1, ft2, ft3, ft4, ft22, ft24, ft25, ft26, ft27, ft28, ft29, ft30, ft31, ft32, ft33, ft34, ft35, ft37, ft40, ft41, ft42, ft43, ft44, ft45, ft46, ft48, ft49, ft73, ft75, ft78, ft80, ft96, ft103, ft106, ft110, ft113, ft116, ft119, ft124, ft135, ft138, patch, ints, a2, a3, a7, a8, a9, a10, a11, a12, r1, c1, q19, q36, hM, rM, sM, ra36]
      refine LoopK.intro (fun w a g2 => ∃ (kd : Nat) (y : AV) (cells : List AV) (X : Nat → List Int), w = 6 - kd ∧ 1 ≤ kd ∧ kd ≤ 6 ∧ BS H0 g2 y cells [] X ∧ cells.length = 8 * k + (kd - 1) ∧ g2[M]? = some (.arr 4 [[.int .i64 rows, .int .i64 width, .osl 5 1 0 st.length (st.length + 3) true, .osl 12 1 0 cs.length (cs.length + 3) true]] true) ∧ idOf y ≠ some M ∧ M < g2.length ∧ a 2 = ints xs ∧ a 3 = .op 0 4 0 0 ∧ a 7 = .op 2 20 0 0 ∧ a 8 = .op 19 4 0 0 ∧ a 9 = .op 36 4 0 0 ∧ a 10 = .osl 37 1 0 xs.length (xs.length + 3) true ∧ a 11 = .op 44 14 0 0 ∧ a 12 = .int .i64  k ∧ a 13 = .op M 4 0 0 ∧ a 14 = .int .i64 kd) 5 ⟨1, y, cells, X, rfl, by omega, by omega, p.app _, by omega, rM _, hyM, by simp; omega, ?_⟩ ?_
      · simp (maxSteps := 4000000) only [↓packA, ↓reduceIte, packB, pureOp, quietOp, loadOp, quietB, fr0, cellsK, implies_true, ite_true, ite_false, eq_self, ne_eq, reduceCtorEq, Nat.reduceLT, Nat.reduceLeDiff, Nat.reduceAdd, Nat.reduceMul, Nat.reduceBEq, Nat.reduceEqDiff, Int.reduceToNat, Int.reduceLT, Int.reduceLE, Nat.reduceSub, pl3, ft1, ft2, ft3, ft4, ft22, ft24, ft25, ft26, ft27, ft28, ft29, ft30, ft31, ft32, ft33, ft34, ft35, ft37, ft40, ft41, ft42, ft43, ft44, ft45, ft46, ft48, ft49, ft73, ft75, ft78, ft80, ft96, ft103, ft106, ft110, ft113, ft116, ft119, ft124, ft135, ft138, a2, a3, a7, a8, a9, a10, a11, a12, Int.cast_ofNat_Int, Int.natCast_zero, Int.natCast_one, Int.reduceAdd, Int.reduceSub, Int.reduceNeg, Int.reduceMul, Int.reduceToNat, Int.reduceLT, Int.reduceLE, Int.reduceEq, Int.reduceBEq, Int.reduceBNe, Nat.reduceSub, Nat.reduceLT, List.getD_cons_zero, List.getD_cons_succ, List.length_singleton, Bool.and_true, Bool.and_false]
      clear a2 a3 a7 a8 a9 a10 a11 a12 p hyM
      rintro w a g2 ⟨kd, y, cells, X, rfl, hk1, hk6, p, hcl, zM, hyM, hMl, a2, a3, a7, a8, a9, a10, a11, a12, a13, a14⟩
      have fz : ∀ g3 : Heap, (∀ i, i < 44 → g3[i]? = H0[i]?) → Frz g3 (.agg [.int .i64 rows, .int .i64 width, .osl 5 1 0 st.length (st.length + 3) true, .osl 12 1 0 cs.length (cs.length + 3) true]) (pat rows width st cs) := fun g3 hg => frz_pat (frz_mark ((hg 5 (by omega)).trans e5)) (frz_mark ((hg 12 (by omega)).trans e12))
      have fs : ∀ g3 : Heap, (∀ i, i < 44 → g3[i]? = H0[i]?) → Frz g3 (.osl 37 1 0 xs.length (xs.length + 3) true) (ints xs) := fun g3 hg => frz_mark ((hg 37 (by omega)).trans e37)
      by_cases r2 : kd ≤ 5
      · have r3 : (kd : Int) ≤ 5 := by omega
        simp (maxSteps := 4000000) only [↓packA, ↓reduceIte, packB, pureOp, quietOp, loadOp, quietB, fr0, cellsK, implies_true, ite_true, ite_false, eq_self, ne_eq, reduceCtorEq, Nat.reduceLT, Nat.reduceLeDiff, Nat.reduceAdd, Nat.reduceMul, Nat.reduceBEq, Nat.reduceEqDiff, Int.reduceToNat, Int.reduceLT, Int.reduceLE, Nat.reduceSub, pl3, ft1, ft2, ft3, ft4, ft22, ft24, ft25, ft26, ft27, ft28, ft29, ft30, ft31, ft32, ft33, ft34, ft35, ft37, ft40, ft41, ft42, ft43, ft44, ft45, ft46, ft48, ft49, ft73, ft75, ft78, ft80, ft96, ft103, ft106, ft110, ft113, ft116, ft119, ft124, ft135, ft138, a2, a3, a7, a8, a9, a10, a11, a12, a13, a14, r3, zM]
        refine own_order kd rows width st cs xs (by omega) (by omega) (by omega) (.cons (.pure _ rfl) (.cons (fz g2 p.keep) (.cons (fs g2 p.keep) .nil))) fun x l e t hx hl => ?_
        obtain ⟨X', p'⟩ := p.got hx hl
        simp (maxSteps := 4000000) only [↓packA, ↓reduceIte, packB, pureOp, quietOp, loadOp, quietB, fr0, cellsK, implies_true, ite_true, ite_false, eq_self, ne_eq, reduceCtorEq, Nat.reduceLT, Nat.reduceLeDiff, Nat.reduceAdd, Nat.reduceMul, Nat.reduceBEq, Nat.reduceEqDiff, Int.reduceToNat, Int.reduceLT, Int.reduceLE, Nat.reduceSub, pl3, ft1, ft2, ft3, ft4, ft22, ft24, ft25, ft26, ft27, ft28, ft29, ft30, ft31, ft32, ft33, ft34, ft35, ft37, ft40, ft41, ft42, ft43, ft44, ft45, ft46, ft48, ft49, ft73, ft75, ft78, ft80, ft96, ft103, ft106, ft110, ft113, ft116, ft119, ft124, ft135, ft138, a2, a3, a7, a8, a9, a10, a11, a12, a13, a14]
        refine BS.put (pend := []) p' (by omega) fun h' y' p2 h1 h2 h3 => ?_
        simp (maxSteps := 4000000) only [↓packA, ↓reduceIte, packB, pureOp, quietOp, loadOp, quietB, fr0, cellsK, implies_true, ite_true, ite_false, eq_self, ne_eq, reduceCtorEq, Nat.reduceLT, Nat.reduceLeDiff, Nat.reduceAdd, Nat.reduceMul, Nat.reduceBEq, Nat.reduceEqDiff, Int.reduceToNat, Int.reduceLT, Int.reduceLE, Nat.reduceSub, pl3, ft1, ft2, ft3, ft4, ft22, ft24, ft25, ft26, ft27, ft28, ft29, ft30, ft31, ft32, ft33, ft34, ft35, ft37, ft40, ft41, ft42, ft43, ft44, ft45, ft46, ft48, ft49, ft73, ft75, ft78, ft80, ft96, ft103, ft106, ft110, ft113, ft116, ft119, ft124, ft135, ft138, a2, a3, a7, a8, a9, a10, a11, a12, a13, a14]
        refine ⟨by omega, .inl ⟨6 - (kd + 1), by omega, kd + 1, y', cells ++ [x], X', rfl, by omega, by omega, p2, by simp; omega, ?_, fun e => ?_, ?_, by omega⟩⟩
        · rw [h2 M (by simp; omega) (by omega) hyM, List.getElem?_append_left hMl, zM]
        · rcases h3 M e with h4 | h4
          · exact hyM h4
          · simp at h4; omega
        · simp at h1; omega
      · have r3 : ¬ (kd : Int) ≤ 5 := by omega
        simp (maxSteps := 4000000) only [↓packA, ↓reduceIte, packB, pureOp, quietOp, loadOp, quietB, fr0, cellsK, implies_true, ite_true, ite_false, eq_self, ne_eq, reduceCtorEq, Nat.reduceLT, Nat.reduceLeDiff, Nat.reduceAdd, Nat.reduceMul, Nat.reduceBEq, Nat.reduceEqDiff, Int.reduceToNat, Int.reduceLT, Int.reduceLE, Nat.reduceSub, pl3, ft1, ft2, ft3, ft4, ft22, ft24, ft25, ft26, ft27, ft28, ft29, ft30, ft31, ft32, ft33, ft34, ft35, ft37, ft40, ft41, ft42, ft43, ft44, ft45, ft46, ft48, ft49, ft73, ft75, ft78, ft80, ft96, ft103, ft106, ft110, ft113, ft116, ft119, ft124, ft135, ft138, a2, a3, a7, a8, a9, a10, a11, a12, a13, a14, r3, zM]
        refine own_back rows width st cs xs (by omega) (by omega) (by omega) (.cons (fz g2 p.keep) (.cons (fs g2 p.keep) .nil)) fun x l mm e t hx hl => ?_
        obtain ⟨X1, p1⟩ := p.got hx hl
        have zM1 : (g2 ++ t)[M]? = _ := (List.getElem?_append_left hMl).trans zM
        have hM1 : M < (g2 ++ t).length := by simp; omega
        generalize g2 ++ t = g3 at *
        simp (maxSteps := 4000000) only [↓packA, ↓reduceIte, packB, pureOp, quietOp, loadOp, quietB, fr0, cellsK, implies_true, ite_true, ite_false, eq_self, ne_eq, reduceCtorEq, Nat.reduceLT, Nat.reduceLeDiff, Nat.reduceAdd, Nat.reduceMul, Nat.reduceBEq, Nat.reduceEqDiff, Int.reduceToNat, Int.reduceLT, Int.reduceLE, Nat.reduceSub, pl3, ft1, ft2, ft3, ft4, ft22, ft24, ft25, ft26, ft27, ft28, ft29, ft30, ft31, ft32, ft33, ft34, ft35, ft37, ft40, ft41, ft42, ft43, ft44, ft45, ft46, ft48, ft49, ft73, ft75, ft78, ft80, ft96, ft103, ft106, ft110, ft113, ft116, ft119, ft124, ft135, ft138, a2, a3, a7, a8, a9, a10, a11, a12, a13, a14, zM1]
        refine own_degen rows width st cs (by omega) (by omega) (.cons (fz g3 p1.keep) .nil) fun x2 l2 mm2 e2 t2 hx2 hl2 => ?_
        obtain ⟨X2, p2⟩ := p1.got hx2 hl2
        generalize g3 ++ t2 = g4 at *
        simp (maxSteps := 4000000) only [↓packA, ↓reduceIte, packB, pureOp, quietOp, loadOp, quietB, fr0, cellsK, implies_true, ite_true, ite_false, eq_self, ne_eq, reduceCtorEq, Nat.reduceLT, Nat.reduceLeDiff, Nat.reduceAdd, Nat.reduceMul, Nat.reduceBEq, Nat.reduceEqDiff, Int.reduceToNat, Int.reduceLT, Int.reduceLE, Nat.reduceSub, pl3, ft1, ft2, ft3, ft4, ft22, ft24, ft25, ft26, ft27, ft28, ft29, ft30, ft31, ft32, ft33, ft34, ft35, ft37, ft40, ft41, ft42, ft43, ft44, ft45, ft46, ft48, ft49, ft73, ft75, ft78, ft80, ft96, ft103, ft106, ft110, ft113, ft116, ft119, ft124, ft135, ft138, a2, a3, a7, a8, a9, a10, a11, a12, a13, a14]
        refine own_inv xs (by omega) (.cons (fs g4 p2.keep) .nil) fun x3 l3 e3 t3 hx3 hl3 => ?_
        obtain ⟨X3, p3⟩ := p2.got hx3 hl3
        generalize g4 ++ t3 = g5 at *
        simp (maxSteps := 4000000) only [↓packA, ↓reduceIte, packB, pureOp, quietOp, loadOp, quietB, fr0, cellsK, implies_true, ite_true, ite_false, eq_self, ne_eq, reduceCtorEq, Nat.reduceLT, Nat.reduceLeDiff, Nat.reduceAdd, Nat.reduceMul, Nat.reduceBEq, Nat.reduceEqDiff, Int.reduceToNat, Int.reduceLT, Int.reduceLE, Nat.reduceSub, pl3, ft1, ft2, ft3, ft4, ft22, ft24, ft25, ft26, ft27, ft28, ft29, ft30, ft31, ft32, ft33, ft34, ft35, ft37, ft40, ft41, ft42, ft43, ft44, ft45, ft46, ft48, ft49, ft73, ft75, ft78, ft80, ft96, ft103, ft106, ft110, ft113, ft116, ft119, ft124, ft135, ft138, a2, a3, a7, a8, a9, a10, a11, a12, a13, a14]
        refine BS.put (pend := [x2, x3]) p3 (by omega) fun h5 y5 p5 _ _ _ => ?_
        simp (maxSteps := 4000000) only [↓packA, ↓reduceIte, packB, pureOp, quietOp, loadOp, quietB, fr0, cellsK, implies_true, ite_true, ite_false, eq_self, ne_eq, reduceCtorEq, Nat.reduceLT, Nat.reduceLeDiff, Nat.reduceAdd, Nat.reduceMul, Nat.reduceBEq, Nat.reduceEqDiff, Int.reduceToNat, Int.reduceLT, Int.reduceLE, Nat.reduceSub, pl3, ft1, ft2, ft3, ft4, ft22, ft24, ft25, ft26, ft27, ft28, ft29, ft30, ft31, ft32, ft33, ft34, ft35, ft37, ft40, ft41, ft42, ft43, ft44, ft45, ft46, ft48, ft49, ft73, ft75, ft78, ft80, ft96, ft103, ft106, ft110, ft113, ft116, ft119, ft124, ft135, ft138, a2, a3, a7, a8, a9, a10, a11, a12, a13, a14]
        refine BS.put (pend := [x3]) p5 (by simp; omega) fun h6 y6 p6 _ _ _ => ?_
        simp (maxSteps := 4000000) only [↓packA, ↓reduceIte, packB, pureOp, quietOp, loadOp, quietB, fr0, cellsK, implies_true, ite_true, ite_false, eq_self, ne_eq, reduceCtorEq, Nat.reduceLT, Nat.reduceLeDiff, Nat.reduceAdd, Nat.reduceMul, Nat.reduceBEq, Nat.reduceEqDiff, Int.reduceToNat, Int.reduceLT, Int.reduceLE, Nat.reduceSub, pl3, ft1, ft2, ft3, ft4, ft22, ft24, ft25, ft26, ft27, ft28, ft29, ft30, ft31, ft32, ft33, ft34, ft35, ft37, ft40, ft41, ft42, ft43, ft44, ft45, ft46, ft48, ft49, ft73, ft75, ft78, ft80, ft96, ft103, ft106, ft110, ft113, ft116, ft119, ft124, ft135, ft138, a2, a3, a7, a8, a9, a10, a11, a12, a13, a14]
        refine BS.put (pend := []) p6 (by simp; omega) fun h7 y7 p7 _ _ _ => ?_
        simp (maxSteps := 4000000) only [↓packA, ↓reduceIte, packB, pureOp, quietOp, loadOp, quietB, fr0, cellsK, implies_true, ite_true, ite_false, eq_self, ne_eq, reduceCtorEq, Nat.reduceLT, Nat.reduceLeDiff, Nat.reduceAdd, Nat.reduceMul, Nat.reduceBEq, Nat.reduceEqDiff, Int.reduceToNat, Int.reduceLT, Int.reduceLE, Nat.reduceSub, pl3, ft1, ft2, ft3, ft4, ft22, ft24, ft25, ft26, ft27, ft28, ft29, ft30, ft31, ft32, ft33, ft34, ft35, ft37, ft40, ft41, ft42, ft43, ft44, ft45, ft46, ft48, ft49, ft73, ft75, ft78, ft80, ft96, ft103, ft106, ft110, ft113, ft116, ft119, ft124, ft135, ft138, a2, a3, a7, a8, a9, a10, a11, a12, a13, a14]
        exact ⟨by omega, .inl ⟨3 - (k + 1), by omega, k + 1, y7, _, X3, rfl, by omega, p7, by simp; omega, by omega⟩⟩
  · have r1 : ¬ (k : Int) < 3 := by omega
    simp (maxSteps := 4000000) only [↓packA, ↓reduceIte, packB, pureOp, quietOp, loadOp, quietB, fr0, cellsK, implies_true, ite_true, ite_false, eq_self, ne_eq, reduceCtorEq, Nat.reduceLT, Nat.reduceLeDiff, Nat.reduceAdd, Nat.reduceMul, Nat.reduceBEq, Nat.reduceEqDiff, Int.reduceToNat, Int.reduceLT, Int.reduceLE, Nat.reduceSub, pl3, ft1, ft2, ft3, ft4, ft22, ft24, ft25, ft26, ft27, ft28, ft29, ft30, ft31, ft32, ft33, ft34, ft35, ft37, ft40, ft41, ft42, ft43, ft44, ft45, ft46, ft48, ft49, ft73, ft75, ft78, ft80, ft96, ft103, ft106, ft110, ft113, ft116, ft119, ft124, ft135, ft138, a2, a3, a7, a8, a9, a10, a11, a12, r1]
    refine p.apart (by omega) (by omega) fun G hG hGl => ?_
    have q0 := (hG 0 (by omega)).trans e0
    have at_ : ∀ (i j : Nat) (l : List Int) (n : Nat), i < 44 → j < 44 → H0[i]? = some (.arr 1 (List.map intE (l ++ [-41, -42, -43])) true) → H0[j]? = some (.arr 1 (List.map intE (l ++ [-41, -42, -43] ++ [0, 0, 0])) true) → l.length < 10000000 → n = l.length + 3 → ∀ c1 c2 b1 b2, ∃ l', l'.length < 1000000000 ∧ GL.at G ⟨i, n, c1, b1⟩ l' ∧ GL.at G ⟨j, n, c2, b2⟩ l' := fun i j l n hi hj h1 h2 h3 hn c1 c2 b1 b2 =>
      ⟨l ++ [-41, -42, -43], by simp; omega, ⟨_, _, (hG i hi).trans h1, by rw [List.take_of_length_le]; simp [GL.len, hn], by simp [hn]⟩, ⟨l ++ [-41, -42, -43] ++ [0, 0, 0], _, (hG j hj).trans h2, List.take_left' (by simp [hn]), by simp [hn]⟩⟩
    simp (maxSteps := 4000000) only [↓packA, ↓reduceIte, packB, pureOp, quietOp, loadOp, quietB, fr0, cellsK, implies_true, ite_true, ite_false, eq_self, ne_eq, reduceCtorEq, Nat.reduceLT, Nat.reduceLeDiff, Nat.reduceAdd, Nat.reduceMul, Nat.reduceBEq, Nat.reduceEqDiff, Int.reduceToNat, Int.reduceLT, Int.reduceLE, Nat.reduceSub, pl3, ft1, ft2, ft3, ft4, ft22, ft24, ft25, ft26, ft27, ft28, ft29, ft30, ft31, ft32, ft33, ft34, ft35, ft37, ft40, ft41, ft42, ft43, ft44, ft45, ft46, ft48, ft49, ft73, ft75, ft78, ft80, ft96, ft103, ft106, ft110, ft113, ft116, ft119, ft124, ft135, ft138, a2, a3, a7, a8, a9, a10, a11, a12, r1]
    refine intact_c (g := 2) (m := 5) ((hG 2 (by omega)).trans e2) ((hG 40 (by omega)).trans e40) ((hG 43 (by omega)).trans e43) rfl rfl (by omega) ?_ ?_
    · intro i hi
      match i, hi with
      | 0, _ => exact at_ 5 9 st _ (by omega) (by omega) e5 e9 hb rfl _ _ _ _
      | 1, _ => exact at_ 12 16 cs _ (by omega) (by omega) e12 e16 hb2 rfl _ _ _ _
      | 2, _ => exact at_ 22 26 st2 _ (by omega) (by omega) e22 e26 hb3 rfl _ _ _ _
      | 3, _ => exact at_ 29 33 cs2 _ (by omega) (by omega) e29 e33 hb4 rfl _ _ _ _
      | 4, _ => exact at_ 37 41 xs _ (by omega) (by omega) e37 e41 hb5 rfl _ _ _ _
      | i + 5, h => exact absurd h (by omega)
    clear at_ e0 e2 e5 e9 e12 e16 e19 e22 e26 e29 e33 e36 e37 e40 e41 e43 e44 p hcl q19 q36 hgl
    simp (maxSteps := 4000000) only [↓packA, ↓reduceIte, packB, pureOp, quietOp, loadOp, quietB, fr0, cellsK, implies_true, ite_true, ite_false, eq_self, ne_eq, reduceCtorEq, Nat.reduceLT, Nat.reduceLeDiff, Nat.reduceAdd, Nat.reduceMul, Nat.reduceBEq, Nat.reduceEqDiff, Int.reduceToNat, Int.reduceLT, Int.reduceLE, Nat.reduceSub, pl3, ft1, ft2, ft3, ft4, ft22, ft24, ft25, ft26, ft27, ft28, ft29, ft30, ft31, ft32, ft33, ft34, ft35, ft37, ft40, ft41, ft42, ft43, ft44, ft45, ft46, ft48, ft49, ft73, ft75, ft78, ft80, ft96, ft103, ft106, ft110, ft113, ft116, ft119, ft124, ft135, ft138, a2, a3, a7, a8, a9, a10, a11, a12, r1, q0]
    refine acalls_shift (copyp_c rows width st cs hb hb2) rfl ?_
    rintro u h0 ⟨rfl, rfl⟩
    obtain ⟨N, hN⟩ : ∃ N, G.length = N := ⟨_, rfl⟩
    simp only [behind_eq, List.map_cons, List.map_nil, ren_intEs]
    obtain ⟨G1, hG1⟩ : ∃ G1, G1 = G ++ [Ob.arr 1 (List.map intE (st ++ [0, 0, 0])) true, Ob.arr 1 (List.map intE (cs ++ [0, 0, 0])) true] := ⟨_, rfl⟩
    rw [← hG1]
    have l1 : G1.length = N + 2 := by rw [hG1]; simp [hN]
    have gA : G1[N]? = some (Ob.arr 1 (List.map intE (st ++ [0, 0, 0])) true) := by rw [hG1, List.getElem?_append_right (by omega)]; simp [hN]
    have gB : G1[1 + N]? = some (Ob.arr 1 (List.map intE (cs ++ [0, 0, 0])) true) := by rw [hG1, List.getElem?_append_right (by omega)]; simp [hN]
    have rZ : ∀ o, (G1 ++ [o])[N + 2]? = some o := fun o => by rw [List.getElem?_append_right (by omega)]; simp [l1]
    have sZ : ∀ o o', (G1 ++ [o]).set (N + 2) o' = G1 ++ [o'] := fun o o' => by rw [List.set_append_right _ _ (by omega)]; simp [l1]
    clear hG1
    simp (maxSteps := 4000000) only [↓packA, ↓reduceIte, packB, pureOp, quietOp, loadOp, quietB, fr0, cellsK, implies_true, ite_true, ite_false, eq_self, ne_eq, reduceCtorEq, Nat.reduceLT, Nat.reduceLeDiff, Nat.reduceAdd, Nat.reduceMul, Nat.reduceBEq, Nat.reduceEqDiff, Int.reduceToNat, Int.reduceLT, Int.reduceLE, Nat.reduceSub, pl3, ft1, ft2, ft3, ft4, ft22, ft24, ft25, ft26, ft27, ft28, ft29, ft30, ft31, ft32, ft33, ft34, ft35, ft37, ft40, ft41, ft42, ft43, ft44, ft45, ft46, ft48, ft49, ft73, ft75, ft78, ft80, ft96, ft103, ft106, ft110, ft113, ft116, ft119, ft124, ft135, ft138, a2, a3, a7, a8, a9, a10, a11, a12, r1, hN, l1, rZ, sZ, patch, patch']
    refine acalls_shift (copy_c xs (by omega)) rfl ?_
    rintro u h0 ⟨rfl, rfl⟩
    simp only [behind_eq, List.map_cons, List.map_nil, ren_intEs]
    obtain ⟨G2, hG2⟩ : ∃ G2, G2 = G1 ++ [Ob.arr 4 [[.int .i64 rows, .int .i64 width, .osl N 1 0 st.length (st.length + 3) true, .osl (1 + N) 1 0 cs.length (cs.length + 3) true]] true] ++ [Ob.arr 1 (List.map intE (xs ++ [0, 0, 0])) true] := ⟨_, rfl⟩
    rw [← hG2]
    have hlen3 : (G1 ++ [Ob.arr 4 [[AV.int .i64 rows, .int .i64 width, .osl N 1 0 st.length (st.length + 3) true, .osl (1 + N) 1 0 cs.length (cs.length + 3) true]] true]).length = N + 3 := by simp [l1]
    have l2 : G2.length = N + 4 := by rw [hG2]; simp [l1]
    have gA2 : G2[N]? = some (Ob.arr 1 (List.map intE (st ++ [0, 0, 0])) true) := by rw [hG2, List.append_assoc, List.getElem?_append_left (by omega)]; exact gA
    have gB2 : G2[1 + N]? = some (Ob.arr 1 (List.map intE (cs ++ [0, 0, 0])) true) := by rw [hG2, List.append_assoc, List.getElem?_append_left (by omega)]; exact gB
    have gZ2 : G2[N + 2]? = some (Ob.arr 4 [[.int .i64 rows, .int .i64 width, .osl N 1 0 st.length (st.length + 3) true, .osl (1 + N) 1 0 cs.length (cs.length + 3) true]] true) := by rw [hG2, List.append_assoc, List.getElem?_append_right (by omega)]; simp [l1]
    have gX2 : G2[N + 3]? = some (Ob.arr 1 (List.map intE (xs ++ [0, 0, 0])) true) := by rw [hG2, List.getElem?_append_right (by omega)]; simp [l1]
    clear hG2
    simp (maxSteps := 4000000) only [↓packA, ↓reduceIte, packB, pureOp, quietOp, loadOp, quietB, fr0, cellsK, implies_true, ite_true, ite_false, eq_self, ne_eq, reduceCtorEq, Nat.reduceLT, Nat.reduceLeDiff, Nat.reduceAdd, Nat.reduceMul, Nat.reduceBEq, Nat.reduceEqDiff, Int.reduceToNat, Int.reduceLT, Int.reduceLE, Nat.reduceSub, pl3, ft1, ft2, ft3, ft4, ft22, ft24, ft25, ft26, ft27, ft28, ft29, ft30, ft31, ft32, ft33, ft34, ft35, ft37, ft40, ft41, ft42, ft43, ft44, ft45, ft46, ft48, ft49, ft73, ft75, ft78, ft80, ft96, ft103, ft106, ft110, ft113, ft116, ft119, ft124, ft135, ft138, a2, a3, a7, a8, a9, a10, a11, a12, r1, hN, l1, hlen3, gZ2]
    have fA : ∀ g : Heap, (∀ j, j < N + 4 → g[j]? = G2[j]?) → Frz g (.agg [.int .i64 rows, .int .i64 width, .osl N 1 0 st.length (st.length + 3) true, .osl (1 + N) 1 0 cs.length (cs.length + 3) true]) (pat rows width st cs) := fun g hg => frz_pat (frz_ints ((hg N (by omega)).trans gA2) (by simp) rfl) (frz_ints ((hg (1 + N) (by omega)).trans gB2) (by simp) rfl)
    refine acalls_lend (every_c rows width st cs xs hb hb2 hb5) (.cons (fA G2 fun _ _ => rfl) (.cons (frz_ints gX2 (by simp) rfl) .nil)) rfl ?_
    simp (maxSteps := 4000000) only [↓packA, ↓reduceIte, packB, pureOp, quietOp, loadOp, quietB, fr0, cellsK, implies_true, ite_true, ite_false, eq_self, ne_eq, reduceCtorEq, Nat.reduceLT, Nat.reduceLeDiff, Nat.reduceAdd, Nat.reduceMul, Nat.reduceBEq, Nat.reduceEqDiff, Int.reduceToNat, Int.reduceLT, Int.reduceLE, Nat.reduceSub, pl3, ft1, ft2, ft3, ft4, ft22, ft24, ft25, ft26, ft27, ft28, ft29, ft30, ft31, ft32, ft33, ft34, ft35, ft37, ft40, ft41, ft42, ft43, ft44, ft45, ft46, ft48, ft49, ft73, ft75, ft78, ft80, ft96, ft103, ft106, ft110, ft113, ft116, ft119, ft124, ft135, ft138, a2, a3, a7, a8, a9, a10, a11, a12, r1, hN, l1, hlen3, gZ2]
    refine acalls_lend (wrong_c rows width st cs (by omega) (by omega)) (.cons (fA G2 fun _ _ => rfl) .nil) rfl ?_
    by_cases hg : graphP rows width st cs
    · simp (maxSteps := 4000000) only [↓packA, ↓reduceIte, packB, pureOp, quietOp, loadOp, quietB, fr0, cellsK, implies_true, ite_true, ite_false, eq_self, ne_eq, reduceCtorEq, Nat.reduceLT, Nat.reduceLeDiff, Nat.reduceAdd, Nat.reduceMul, Nat.reduceBEq, Nat.reduceEqDiff, Int.reduceToNat, Int.reduceLT, Int.reduceLE, Nat.reduceSub, pl3, ft1, ft2, ft3, ft4, ft22, ft24, ft25, ft26, ft27, ft28, ft29, ft30, ft31, ft32, ft33, ft34, ft35, ft37, ft40, ft41, ft42, ft43, ft44, ft45, ft46, ft48, ft49, ft73, ft75, ft78, ft80, ft96, ft103, ft106, ft110, ft113, ft116, ft119, ft124, ft135, ft138, a2, a3, a7, a8, a9, a10, a11, a12, r1, hN, l1, hlen3, gZ2, hg]
      obtain ⟨n, rfl, rfl, hn⟩ := graph_sides hg
      have hm := hg.1.1
      have hstl : st.length = n + 1 := by have := hm.2.2.1; omega
      refine ⟨by omega, ?_⟩
      refine LoopK.intro (fun w a g => ∃ (i : Nat) (x : AV), w = n - i ∧ i ≤ n ∧ BC (fun j => j < N + 4) g x (downL n i) ∧ N + 4 ≤ g.length ∧ (∀ j, j < N + 4 → g[j]? = G2[j]?) ∧ a 25 = .op (N + 2) 4 0 0 ∧ a 26 = .osl (N + 3) 1 0 xs.length (xs.length + 3) true ∧ a 27 = x ∧ a 28 = .int .i64 ((n : Int) - 1 - i)) n ⟨0, .nils, rfl, Nat.zero_le _, .inl ⟨rfl, rfl⟩, by omega, fun _ _ => rfl, ?_⟩ ?_
      · simp (maxSteps := 4000000) only [↓packA, ↓reduceIte, packB, pureOp, quietOp, loadOp, quietB, fr0, cellsK, implies_true, ite_true, ite_false, eq_self, ne_eq, reduceCtorEq, Nat.reduceLT, Nat.reduceLeDiff, Nat.reduceAdd, Nat.reduceMul, Nat.reduceBEq, Nat.reduceEqDiff, Int.reduceToNat, Int.reduceLT, Int.reduceLE, Nat.reduceSub, pl3, ft1, ft2, ft3, ft4, ft22, ft24, ft25, ft26, ft27, ft28, ft29, ft30, ft31, ft32, ft33, ft34, ft35, ft37, ft40, ft41, ft42, ft43, ft44, ft45, ft46, ft48, ft49, ft73, ft75, ft78, ft80, ft96, ft103, ft106, ft110, ft113, ft116, ft119, ft124, ft135, ft138, hN, l1, hlen3, Int.natCast_zero, Int.sub_zero]
      rintro w a g ⟨i, x, rfl, hi, hbx, hgl, hgk, a25, a26, a27, a28⟩
      obtain ⟨M, hM⟩ : ∃ M, g.length = M := ⟨_, rfl⟩
      have rM : ∀ o, (g ++ [o])[M]? = some o := fun o => by rw [List.getElem?_append_right (by omega)]; simp [hM]
      have sM : ∀ o o', (g ++ [o]).set M o' = g ++ [o'] := fun o o' => by rw [List.set_append_right _ _ (by omega)]; simp [hM]
      by_cases r2 : i < n
      · have r3 : (n : Int) - 1 - (i : Int) ≥ 0 := by omega
        simp (maxSteps := 4000000) only [↓packA, ↓reduceIte, packB, pureOp, quietOp, loadOp, quietB, fr0, cellsK, implies_true, ite_true, ite_false, eq_self, ne_eq, reduceCtorEq, Nat.reduceLT, Nat.reduceLeDiff, Nat.reduceAdd, Nat.reduceMul, Nat.reduceBEq, Nat.reduceEqDiff, Int.reduceToNat, Int.reduceLT, Int.reduceLE, Nat.reduceSub, pl3, ft1, ft2, ft3, ft4, ft22, ft24, ft25, ft26, ft27, ft28, ft29, ft30, ft31, ft32, ft33, ft34, ft35, ft37, ft40, ft41, ft42, ft43, ft44, ft45, ft46, ft48, ft49, ft73, ft75, ft78, ft80, ft96, ft103, ft106, ft110, ft113, ft116, ft119, ft124, ft135, ft138, a25, a26, a27, a28, r3, hM, rM]
        refine push_bc (F := fun j => j < N + 4) (fun j hj => by simp; omega) hbx.app (by rw [downL_len]; omega) fun x' G' hcx hl' hf' hb' => ?_
        obtain ⟨xi, xl, xc, xe, rfl⟩ := hcx
        simp (maxSteps := 4000000) only [↓packA, ↓reduceIte, packB, pureOp, quietOp, loadOp, quietB, fr0, cellsK, implies_true, ite_true, ite_false, eq_self, ne_eq, reduceCtorEq, Nat.reduceLT, Nat.reduceLeDiff, Nat.reduceAdd, Nat.reduceMul, Nat.reduceBEq, Nat.reduceEqDiff, Int.reduceToNat, Int.reduceLT, Int.reduceLE, Nat.reduceSub, pl3, ft1, ft2, ft3, ft4, ft22, ft24, ft25, ft26, ft27, ft28, ft29, ft30, ft31, ft32, ft33, ft34, ft35, ft37, ft40, ft41, ft42, ft43, ft44, ft45, ft46, ft48, ft49, ft73, ft75, ft78, ft80, ft96, ft103, ft106, ft110, ft113, ft116, ft119, ft124, ft135, ft138, a25, a26, a27, a28]
        exact ⟨by omega, .inl ⟨n - (i + 1), by omega, i + 1, _, rfl, by omega, by rw [downL_succ]; exact hb', by simp at hl'; omega, fun j hj => by rw [hf' j hj, List.getElem?_append_left (by omega), hgk j hj], rfl, by omega⟩⟩
      · have r3 : ¬ (n : Int) - 1 - (i : Int) ≥ 0 := by omega
        obtain rfl : i = n := by omega
        have gZ := (hgk (N + 2) (by omega)).trans gZ2
        have hsl : (stQ st cs (downL i i) i i).length = i + 1 := stQ_len
        have hcl : (csQ st cs (downL i i) i i).length = cs.length := csQ_full hg hn downL_len downL_ok
        simp (maxSteps := 4000000) only [↓packA, ↓reduceIte, packB, pureOp, quietOp, loadOp, quietB, fr0, cellsK, implies_true, ite_true, ite_false, eq_self, ne_eq, reduceCtorEq, Nat.reduceLT, Nat.reduceLeDiff, Nat.reduceAdd, Nat.reduceMul, Nat.reduceBEq, Nat.reduceEqDiff, Int.reduceToNat, Int.reduceLT, Int.reduceLE, Nat.reduceSub, pl3, ft1, ft2, ft3, ft4, ft22, ft24, ft25, ft26, ft27, ft28, ft29, ft30, ft31, ft32, ft33, ft34, ft35, ft37, ft40, ft41, ft42, ft43, ft44, ft45, ft46, ft48, ft49, ft73, ft75, ft78, ft80, ft96, ft103, ft106, ft110, ft113, ft116, ft119, ft124, ft135, ft138, a25, a26, a27, a28, r3, gZ]
        refine acalls_fresh (renamed_c i st cs (downL i i) (by omega) (by omega) hm hn downL_len downL_ok) (.cons (fA g hgk) (.cons (bc_frz hbx) .nil)) (fun u h0 hz => ⟨_, hz, ?_⟩)
        generalize stQ st cs (downL i i) i i = S at *
        generalize csQ st cs (downL i i) i i = C at *
        simp (maxSteps := 4000000) only [↓packA, ↓reduceIte, packB, pureOp, quietOp, loadOp, quietB, fr0, cellsK, implies_true, ite_true, ite_false, eq_self, ne_eq, reduceCtorEq, Nat.reduceLT, Nat.reduceLeDiff, Nat.reduceAdd, Nat.reduceMul, Nat.reduceBEq, Nat.reduceEqDiff, Int.reduceToNat, Int.reduceLT, Int.reduceLE, Nat.reduceSub, pl3, ft1, ft2, ft3, ft4, ft22, ft24, ft25, ft26, ft27, ft28, ft29, ft30, ft31, ft32, ft33, ft34, ft35, ft37, ft40, ft41, ft42, ft43, ft44, ft45, ft46, ft48, ft49, ft73, ft75, ft78, ft80, ft96, ft103, ft106, ft110, ft113, ft116, ft119, ft124, ft135, ft138, ints, a25, a26, a27, a28, r3, gZ, hM, rM, sM, patch, patch']
        obtain ⟨G4, hG4⟩ : ∃ G4, G4 = g ++ [Ob.arr 4 [[.int .i64 i, .int .i64 i, .isl 1 (List.map intE S), .isl 1 (List.map intE C)]] true] := ⟨_, rfl⟩
        rw [← hG4]
        have g4R : G4[M]? = some (Ob.arr 4 [[.int .i64 i, .int .i64 i, .isl 1 (List.map intE S), .isl 1 (List.map intE C)]] true) := by rw [hG4]; exact rM _
        have g4k : ∀ j, j < N + 4 → G4[j]? = G2[j]? := fun j hj => by rw [hG4, List.getElem?_append_left (by omega), hgk j hj]
        clear hG4 rM sM hgk hbx gZ
        have k1 := (g4k N (by omega)).trans gA2
        have k2 := (g4k (1 + N) (by omega)).trans gB2
        have k3 := (g4k (N + 2) (by omega)).trans gZ2
        have k4 := (g4k (N + 3) (by omega)).trans gX2
        refine LoopK.intro (fun w a g => ∃ (j : Nat) (S2 : List Int), w = i + 1 - j ∧ j ≤ i + 1 ∧ S2.length = st.length + 3 ∧ g[N]? = some (.arr 1 (List.map intE S2) true) ∧ g[1 + N]? = some (.arr 1 (List.map intE (cs ++ [0, 0, 0])) true) ∧ g[N + 2]? = some (Ob.arr 4 [[.int .i64 i, .int .i64 i, .osl N 1 0 st.length (st.length + 3) true, .osl (1 + N) 1 0 cs.length (cs.length + 3) true]] true) ∧ g[N + 3]? = some (.arr 1 (List.map intE (xs ++ [0, 0, 0])) true) ∧ g[M]? = some (Ob.arr 4 [[.int .i64 i, .int .i64 i, .isl 1 (List.map intE S), .isl 1 (List.map intE C)]] true) ∧ a 25 = .op (N + 2) 4 0 0 ∧ a 26 = .osl (N + 3) 1 0 xs.length (xs.length + 3) true ∧ a 29 = .op M 4 0 0 ∧ a 30 = .int .i64 j) (i + 1) ⟨0, st ++ [0, 0, 0], rfl, Nat.zero_le _, by simp, k1, k2, k3, k4, g4R, ?_⟩ ?_
        · simp (maxSteps := 4000000) only [↓packA, ↓reduceIte, packB, pureOp, quietOp, loadOp, quietB, fr0, cellsK, implies_true, ite_true, ite_false, eq_self, ne_eq, reduceCtorEq, Nat.reduceLT, Nat.reduceLeDiff, Nat.reduceAdd, Nat.reduceMul, Nat.reduceBEq, Nat.reduceEqDiff, Int.reduceToNat, Int.reduceLT, Int.reduceLE, Nat.reduceSub, pl3, ft1, ft2, ft3, ft4, ft22, ft24, ft25, ft26, ft27, ft28, ft29, ft30, ft31, ft32, ft33, ft34, ft35, ft37, ft40, ft41, ft42, ft43, ft44, ft45, ft46, ft48, ft49, ft73, ft75, ft78, ft80, ft96, ft103, ft106, ft110, ft113, ft116, ft119, ft124, ft135, ft138, a25, a26, Int.natCast_zero]
        clear a25 a26 a27 a28 k1 k2 k3 k4 g4R g4k
        rintro w a g ⟨j, S2, rfl, hj, hS2, k1, k2, k3, k4, g4R, a25, a26, a29, a30⟩
        by_cases r4 : j < i + 1
        · have r5 : (j : Int) < ((i + 1 : Nat) : Int) := by omega
          simp (maxSteps := 4000000) only [↓packA, ↓reduceIte, packB, pureOp, quietOp, loadOp, quietB, fr0, cellsK, implies_true, ite_true, ite_false, eq_self, ne_eq, reduceCtorEq, Nat.reduceLT, Nat.reduceLeDiff, Nat.reduceAdd, Nat.reduceMul, Nat.reduceBEq, Nat.reduceEqDiff, Int.reduceToNat, Int.reduceLT, Int.reduceLE, Nat.reduceSub, pl3, ft1, ft2, ft3, ft4, ft22, ft24, ft25, ft26, ft27, ft28, ft29, ft30, ft31, ft32, ft33, ft34, ft35, ft37, ft40, ft41, ft42, ft43, ft44, ft45, ft46, ft48, ft49, ft73, ft75, ft78, ft80, ft96, ft103, ft106, ft110, ft113, ft116, ft119, ft124, ft135, ft138, a25, a26, a29, a30, k1, k3, g4R, hsl, r5]
          have ltN := (List.getElem?_eq_some_iff.1 k1).1
          exact ⟨by omega, by omega, by omega, by omega, by omega, .inl ⟨i + 1 - (j + 1), by omega, j + 1, _, rfl, by omega, by rw [List.length_set]; exact hS2, List.getElem?_set_self ltN, (List.getElem?_set_ne (by omega)).trans k2, (List.getElem?_set_ne (by omega)).trans k3, (List.getElem?_set_ne (by omega)).trans k4, (List.getElem?_set_ne (by omega)).trans g4R, by omega⟩⟩
        · have r5 : ¬ (j : Int) < ((i + 1 : Nat) : Int) := by omega
          simp (maxSteps := 4000000) only [↓packA, ↓reduceIte, packB, pureOp, quietOp, loadOp, quietB, fr0, cellsK, implies_true, ite_true, ite_false, eq_self, ne_eq, reduceCtorEq, Nat.reduceLT, Nat.reduceLeDiff, Nat.reduceAdd, Nat.reduceMul, Nat.reduceBEq, Nat.reduceEqDiff, Int.reduceToNat, Int.reduceLT, Int.reduceLE, Nat.reduceSub, pl3, ft1, ft2, ft3, ft4, ft22, ft24, ft25, ft26, ft27, ft28, ft29, ft30, ft31, ft32, ft33, ft34, ft35, ft37, ft40, ft41, ft42, ft43, ft44, ft45, ft46, ft48, ft49, ft73, ft75, ft78, ft80, ft96, ft103, ft106, ft110, ft113, ft116, ft119, ft124, ft135, ft138, a25, a26, a29, a30, k1, k3, g4R, hsl, r5]
          refine LoopK.intro (fun w a g => ∃ (j : Nat) (C2 : List Int), w = cs.length - j ∧ j ≤ cs.length ∧ C2.length = cs.length + 3 ∧ g[N]? = some (.arr 1 (List.map intE S2) true) ∧ g[1 + N]? = some (.arr 1 (List.map intE C2) true) ∧ g[N + 2]? = some (Ob.arr 4 [[.int .i64 i, .int .i64 i, .osl N 1 0 st.length (st.length + 3) true, .osl (1 + N) 1 0 cs.length (cs.length + 3) true]] true) ∧ g[N + 3]? = some (.arr 1 (List.map intE (xs ++ [0, 0, 0])) true) ∧ g[M]? = some (Ob.arr 4 [[.int .i64 i, .int .i64 i, .isl 1 (List.map intE S), .isl 1 (List.map intE C)]] true) ∧ a 25 = .op (N + 2) 4 0 0 ∧ a 26 = .osl (N + 3) 1 0 xs.length (xs.length + 3) true ∧ a 29 = .op M 4 0 0 ∧ a 31 = .int .i64 j) cs.length ⟨0, cs ++ [0, 0, 0], rfl, Nat.zero_le _, by simp, k1, k2, k3, k4, g4R, ?_⟩ ?_
          · simp (maxSteps := 4000000) only [↓packA, ↓reduceIte, packB, pureOp, quietOp, loadOp, quietB, fr0, cellsK, implies_true, ite_true, ite_false, eq_self, ne_eq, reduceCtorEq, Nat.reduceLT, Nat.reduceLeDiff, Nat.reduceAdd, Nat.reduceMul, Nat.reduceBEq, Nat.reduceEqDiff, Int.reduceToNat, Int.reduceLT, Int.reduceLE, Nat.reduceSub, pl3, ft1, ft2, ft3, ft4, ft22, ft24, ft25, ft26, ft27, ft28, ft29, ft30, ft31, ft32, ft33, ft34, ft35, ft37, ft40, ft41, ft42, ft43, ft44, ft45, ft46, ft48, ft49, ft73, ft75, ft78, ft80, ft96, ft103, ft106, ft110, ft113, ft116, ft119, ft124, ft135, ft138, a25, a26, a29, Int.natCast_zero]
          clear a25 a26 a29 a30 k1 k2 k3 k4 g4R
          rintro w a g ⟨j2, C2, rfl, hj2, hC2l, c1, hC2, c3, c4, g4R, a25, a26, a29, a31⟩
          by_cases r6 : j2 < cs.length
          · have r7 : (j2 : Int) < (cs.length : Int) := by omega
            simp (maxSteps := 4000000) only [↓packA, ↓reduceIte, packB, pureOp, quietOp, loadOp, quietB, fr0, cellsK, implies_true, ite_true, ite_false, eq_self, ne_eq, reduceCtorEq, Nat.reduceLT, Nat.reduceLeDiff, Nat.reduceAdd, Nat.reduceMul, Nat.reduceBEq, Nat.reduceEqDiff, Int.reduceToNat, Int.reduceLT, Int.reduceLE, Nat.reduceSub, pl3, ft1, ft2, ft3, ft4, ft22, ft24, ft25, ft26, ft27, ft28, ft29, ft30, ft31, ft32, ft33, ft34, ft35, ft37, ft40, ft41, ft42, ft43, ft44, ft45, ft46, ft48, ft49, ft73, ft75, ft78, ft80, ft96, ft103, ft106, ft110, ft113, ft116, ft119, ft124, ft135, ft138, a25, a26, a29, a31, hC2, c3, g4R, hcl, r7]
            have ltN := (List.getElem?_eq_some_iff.1 hC2).1
            exact ⟨by omega, by omega, by omega, by omega, by omega, .inl ⟨cs.length - (j2 + 1), by omega, j2 + 1, _, rfl, by omega, by rw [List.length_set]; exact hC2l, (List.getElem?_set_ne (by omega)).trans c1, List.getElem?_set_self ltN, (List.getElem?_set_ne (by omega)).trans c3, (List.getElem?_set_ne (by omega)).trans c4, (List.getElem?_set_ne (by omega)).trans g4R, by omega⟩⟩
          · have r7 : ¬ (j2 : Int) < (cs.length : Int) := by omega
            simp (maxSteps := 4000000) only [↓packA, ↓reduceIte, packB, pureOp, quietOp, loadOp, quietB, fr0, cellsK, implies_true, ite_true, ite_false, eq_self, ne_eq, reduceCtorEq, Nat.reduceLT, Nat.reduceLeDiff, Nat.reduceAdd, Nat.reduceMul, Nat.reduceBEq, Nat.reduceEqDiff, Int.reduceToNat, Int.reduceLT, Int.reduceLE, Nat.reduceSub, pl3, ft1, ft2, ft3, ft4, ft22, ft24, ft25, ft26, ft27, ft28, ft29, ft30, ft31, ft32, ft33, ft34, ft35, ft37, ft40, ft41, ft42, ft43, ft44, ft45, ft46, ft48, ft49, ft73, ft75, ft78, ft80, ft96, ft103, ft106, ft110, ft113, ft116, ft119, ft124, ft135, ft138, a25, a26, a29, a31, hC2, c3, g4R, hcl, r7]
            obtain ⟨i0, hi0⟩ : ∃ i0, i0 = i := ⟨_, rfl⟩
            rw [← hi0] at c3
            refine LoopK.intro (fun w a g => ∃ (i : Nat) (L : List Int), w = xs.length / 2 - i ∧ i ≤ xs.length / 2 ∧ L.length = xs.length + 3 ∧ g[N]? = some (.arr 1 (List.map intE S2) true) ∧ g[1 + N]? = some (.arr 1 (List.map intE C2) true) ∧ g[N + 2]? = some (Ob.arr 4 [[AV.int .i64 i0, .int .i64 i0, .osl N 1 0 st.length (st.length + 3) true, .osl (1 + N) 1 0 cs.length (cs.length + 3) true]] true) ∧ g[N + 3]? = some (.arr 1 (List.map intE L) true) ∧ a 25 = .op (N + 2) 4 0 0 ∧ a 26 = .osl (N + 3) 1 0 xs.length (xs.length + 3) true ∧ a 32 = .int .i64 i) (xs.length / 2) ⟨0, xs ++ [0, 0, 0], rfl, Nat.zero_le _, by simp, c1, hC2, c3, c4, ?_⟩ ?_
            · simp (maxSteps := 4000000) only [↓packA, ↓reduceIte, packB, pureOp, quietOp, loadOp, quietB, fr0, cellsK, implies_true, ite_true, ite_false, eq_self, ne_eq, reduceCtorEq, Nat.reduceLT, Nat.reduceLeDiff, Nat.reduceAdd, Nat.reduceMul, Nat.reduceBEq, Nat.reduceEqDiff, Int.reduceToNat, Int.reduceLT, Int.reduceLE, Nat.reduceSub, pl3, ft1, ft2, ft3, ft4, ft22, ft24, ft25, ft26, ft27, ft28, ft29, ft30, ft31, ft32, ft33, ft34, ft35, ft37, ft40, ft41, ft42, ft43, ft44, ft45, ft46, ft48, ft49, ft73, ft75, ft78, ft80, ft96, ft103, ft106, ft110, ft113, ft116, ft119, ft124, ft135, ft138, a25, a26, Int.natCast_zero]
            clear a25 a26
            rintro w a g ⟨i, L, rfl, hi, hL, tN, tC, tZ, tX, a25, a26, a32⟩
            have hdv := half_i64 (n := xs.length) (by omega)
            have ltX := (List.getElem?_eq_some_iff.1 tX).1
            by_cases r7 : i < xs.length / 2
            · have r8 : (i : Int) < ((xs.length / 2 : Nat) : Int) := by omega
              have e1 : ((xs.length : Int) - 1 - (i : Int)).toNat = xs.length - 1 - i := by omega
              have rS : ∀ o, (g.set (N + 3) o)[N + 3]? = some o := fun o => List.getElem?_set_self ltX
              simp (maxSteps := 4000000) only [↓packA, ↓reduceIte, packB, pureOp, quietOp, loadOp, quietB, fr0, cellsK, implies_true, ite_true, ite_false, eq_self, ne_eq, reduceCtorEq, Nat.reduceLT, Nat.reduceLeDiff, Nat.reduceAdd, Nat.reduceMul, Nat.reduceBEq, Nat.reduceEqDiff, Int.reduceToNat, Int.reduceLT, Int.reduceLE, Nat.reduceSub, pl3, ft1, ft2, ft3, ft4, ft22, ft24, ft25, ft26, ft27, ft28, ft29, ft30, ft31, ft32, ft33, ft34, ft35, ft37, ft40, ft41, ft42, ft43, ft44, ft45, ft46, ft48, ft49, ft73, ft75, ft78, ft80, ft96, ft103, ft106, ft110, ft113, ft116, ft119, ft124, ft135, ft138, a25, a26, a32, tX, r8, hdv, e1, rS, List.set_set, Int.cast_ofNat_Int, Int.natCast_zero, Int.natCast_one, Int.reduceAdd, Int.reduceSub, Int.reduceNeg, Int.reduceMul, Int.reduceToNat, Int.reduceLT, Int.reduceLE, Int.reduceEq, Int.reduceBEq, Int.reduceBNe, Nat.reduceSub, Nat.reduceLT, List.getD_cons_zero, List.getD_cons_succ, List.length_singleton, Bool.and_true, Bool.and_false]
              exact ⟨by omega, by omega, by omega, by omega, by omega, by omega, by omega, by omega, by omega, by omega, by omega, by omega, by omega, .inl ⟨xs.length / 2 - (i + 1), by omega, i + 1, _, rfl, by omega, by simp [hL], (List.getElem?_set_ne (by omega)).trans tN, (List.getElem?_set_ne (by omega)).trans tC, (List.getElem?_set_ne (by omega)).trans tZ, rfl, by omega⟩⟩
            · have r8 : ¬ (i : Int) < ((xs.length / 2 : Nat) : Int) := by omega
              simp (maxSteps := 4000000) only [↓packA, ↓reduceIte, packB, pureOp, quietOp, loadOp, quietB, fr0, cellsK, implies_true, ite_true, ite_false, eq_self, ne_eq, reduceCtorEq, Nat.reduceLT, Nat.reduceLeDiff, Nat.reduceAdd, Nat.reduceMul, Nat.reduceBEq, Nat.reduceEqDiff, Int.reduceToNat, Int.reduceLT, Int.reduceLE, Nat.reduceSub, pl3, ft1, ft2, ft3, ft4, ft22, ft24, ft25, ft26, ft27, ft28, ft29, ft30, ft31, ft32, ft33, ft34, ft35, ft37, ft40, ft41, ft42, ft43, ft44, ft45, ft46, ft48, ft49, ft73, ft75, ft78, ft80, ft96, ft103, ft106, ft110, ft113, ft116, ft119, ft124, ft135, ft138, a25, a26, a32, tX, tZ, r8, hdv, Int.cast_ofNat_Int, Int.natCast_zero, Int.natCast_one, Int.reduceAdd, Int.reduceSub, Int.reduceNeg, Int.reduceMul, Int.reduceToNat, Int.reduceLT, Int.reduceLE, Int.reduceEq, Int.reduceBEq, Int.reduceBNe, Nat.reduceSub, Nat.reduceLT, List.getD_cons_zero, List.getD_cons_succ, List.length_singleton, Bool.and_true, Bool.and_false]
              refine acalls_lend (every_c i0 i0 (S2.take st.length) (C2.take cs.length) (L.take xs.length) (by rw [List.length_take]; omega) (by rw [List.length_take]; omega) (by rw [List.length_take]; omega)) (.cons (frz_pat (frz_ints tN rfl (by rw [List.length_take]; omega)) (frz_ints tC rfl (by rw [List.length_take]; omega))) (.cons (frz_ints tX rfl (by rw [List.length_take]; omega)) .nil)) rfl ?_
              simp (maxSteps := 4000000) only [↓packA, ↓reduceIte, packB, pureOp, quietOp, loadOp, quietB, fr0, cellsK, implies_true, ite_true, ite_false, eq_self, ne_eq, reduceCtorEq, Nat.reduceLT, Nat.reduceLeDiff, Nat.reduceAdd, Nat.reduceMul, Nat.reduceBEq, Nat.reduceEqDiff, Int.reduceToNat, Int.reduceLT, Int.reduceLE, Nat.reduceSub, pl3, ft1, ft2, ft3, ft4, ft22, ft24, ft25, ft26, ft27, ft28, ft29, ft30, ft31, ft32, ft33, ft34, ft35, ft37, ft40, ft41, ft42, ft43, ft44, ft45, ft46, ft48, ft49, ft73, ft75, ft78, ft80, ft96, ft103, ft106, ft110, ft113, ft116, ft119, ft124, ft135, ft138, a25, a26, a32]
              refine acalls_fresh alive_c .nil (fun u h0 hz => ⟨_, hz, ?_⟩)
              simp (maxSteps := 4000000) only [↓packA, ↓reduceIte, packB, pureOp, quietOp, loadOp, quietB, fr0, cellsK, implies_true, ite_true, ite_false, eq_self, ne_eq, reduceCtorEq, Nat.reduceLT, Nat.reduceLeDiff, Nat.reduceAdd, Nat.reduceMul, Nat.reduceBEq, Nat.reduceEqDiff, Int.reduceToNat, Int.reduceLT, Int.reduceLE, Nat.reduceSub, pl3, ft1, ft2, ft3, ft4, ft22, ft24, ft25, ft26, ft27, ft28, ft29, ft30, ft31, ft32, ft33, ft34, ft35, ft37, ft40, ft41, ft42, ft43, ft44, ft45, ft46, ft48, ft49, ft73, ft75, ft78, ft80, ft96, ft103, ft106, ft110, ft113, ft116, ft119, ft124, ft135, ft138]
              exact .flat _ rfl
    · simp (maxSteps := 4000000) only [↓packA, ↓reduceIte, packB, pureOp, quietOp, loadOp, quietB, fr0, cellsK, implies_true, ite_true, ite_false, eq_self, ne_eq, reduceCtorEq, Nat.reduceLT, Nat.reduceLeDiff, Nat.reduceAdd, Nat.reduceMul, Nat.reduceBEq, Nat.reduceEqDiff, Int.reduceToNat, Int.reduceLT, Int.reduceLE, Nat.reduceSub, pl3, ft1, ft2, ft3, ft4, ft22, ft24, ft25, ft26, ft27, ft28, ft29, ft30, ft31, ft32, ft33, ft34, ft35, ft37, ft40, ft41, ft42, ft43, ft44, ft45, ft46, ft48, ft49, ft73, ft75, ft78, ft80, ft96, ft103, ft106, ft110, ft113, ft116, ft119, ft124, ft135, ft138, a2, a3, a7, a8, a9, a10, a11, a12, r1, hN, l1, hlen3, gZ2, hg]
      refine LoopK.intro (fun w a g => ∃ (i : Nat) (L : List Int), w = xs.length / 2 - i ∧ i ≤ xs.length / 2 ∧ L.length = xs.length + 3 ∧ g[N]? = some (.arr 1 (List.map intE (st ++ [0, 0, 0])) true) ∧ g[1 + N]? = some (.arr 1 (List.map intE (cs ++ [0, 0, 0])) true) ∧ g[N + 2]? = some (Ob.arr 4 [[AV.int .i64 rows, .int .i64 width, .osl N 1 0 st.length (st.length + 3) true, .osl (1 + N) 1 0 cs.length (cs.length + 3) true]] true) ∧ g[N + 3]? = some (.arr 1 (List.map intE L) true) ∧ a 25 = .op (N + 2) 4 0 0 ∧ a 26 = .osl (N + 3) 1 0 xs.length (xs.length + 3) true ∧ a 32 = .int .i64 i) (xs.length / 2) ⟨0, xs ++ [0, 0, 0], rfl, Nat.zero_le _, by simp, gA2, gB2, gZ2, gX2, ?_⟩ ?_
      · simp (maxSteps := 4000000) only [↓packA, ↓reduceIte, packB, pureOp, quietOp, loadOp, quietB, fr0, cellsK, implies_true, ite_true, ite_false, eq_self, ne_eq, reduceCtorEq, Nat.reduceLT, Nat.reduceLeDiff, Nat.reduceAdd, Nat.reduceMul, Nat.reduceBEq, Nat.reduceEqDiff, Int.reduceToNat, Int.reduceLT, Int.reduceLE, Nat.reduceSub, pl3, ft1, ft2, ft3, ft4, ft22, ft24, ft25, ft26, ft27, ft28, ft29, ft30, ft31, ft32, ft33, ft34, ft35, ft37, ft40, ft41, ft42, ft43, ft44, ft45, ft46, ft48, ft49, ft73, ft75, ft78, ft80, ft96, ft103, ft106, ft110, ft113, ft116, ft119, ft124, ft135, ft138, a2, a3, a7, a8, a9, a10, a11, a12, r1, hN, l1, hlen3, gZ2, Int.natCast_zero]
      rintro w a g ⟨i, L, rfl, hi, hL, tN, tC, tZ, tX, a25, a26, a32⟩
      have hdv := half_i64 (n := xs.length) (by omega)
      have ltX := (List.getElem?_eq_some_iff.1 tX).1
      by_cases r7 : i < xs.length / 2
      · have r8 : (i : Int) < ((xs.length / 2 : Nat) : Int) := by omega
        have e1 : ((xs.length : Int) - 1 - (i : Int)).toNat = xs.length - 1 - i := by omega
        have rS : ∀ o, (g.set (N + 3) o)[N + 3]? = some o := fun o => List.getElem?_set_self ltX
        simp (maxSteps := 4000000) only [↓packA, ↓reduceIte, packB, pureOp, quietOp, loadOp, quietB, fr0, cellsK, implies_true, ite_true, ite_false, eq_self, ne_eq, reduceCtorEq, Nat.reduceLT, Nat.reduceLeDiff, Nat.reduceAdd, Nat.reduceMul, Nat.reduceBEq, Nat.reduceEqDiff, Int.reduceToNat, Int.reduceLT, Int.reduceLE, Nat.reduceSub, pl3, ft1, ft2, ft3, ft4, ft22, ft24, ft25, ft26, ft27, ft28, ft29, ft30, ft31, ft32, ft33, ft34, ft35, ft37, ft40, ft41, ft42, ft43, ft44, ft45, ft46, ft48, ft49, ft73, ft75, ft78, ft80, ft96, ft103, ft106, ft110, ft113, ft116, ft119, ft124, ft135, ft138, a25, a26, a32, tX, r8, hdv, e1, rS, List.set_set, Int.cast_ofNat_Int, Int.natCast_zero, Int.natCast_one, Int.reduceAdd, Int.reduceSub, Int.reduceNeg, Int.reduceMul, Int.reduceToNat, Int.reduceLT, Int.reduceLE, Int.reduceEq, Int.reduceBEq, Int.reduceBNe, Nat.reduceSub, Nat.reduceLT, List.getD_cons_zero, List.getD_cons_succ, List.length_singleton, Bool.and_true, Bool.and_false]
        exact ⟨by omega, by omega, by omega, by omega, by omega, by omega, by omega, by omega, by omega, by omega, by omega, by omega, by omega, .inl ⟨xs.length / 2 - (i + 1), by omega, i + 1, _, rfl, by omega, by simp [hL], (List.getElem?_set_ne (by omega)).trans tN, (List.getElem?_set_ne (by omega)).trans tC, (List.getElem?_set_ne (by omega)).trans tZ, rfl, by omega⟩⟩
      · have r8 : ¬ (i : Int) < ((xs.length / 2 : Nat) : Int) := by omega
        simp (maxSteps := 4000000) only [↓packA, ↓reduceIte, packB, pureOp, quietOp, loadOp, quietB, fr0, cellsK, implies_true, ite_true, ite_false, eq_self, ne_eq, reduceCtorEq, Nat.reduceLT, Nat.reduceLeDiff, Nat.reduceAdd, Nat.reduceMul, Nat.reduceBEq, Nat.reduceEqDiff, Int.reduceToNat, Int.reduceLT, Int.reduceLE, Nat.reduceSub, pl3, ft1, ft2, ft3, ft4, ft22, ft24, ft25, ft26, ft27, ft28, ft29, ft30, ft31, ft32, ft33, ft34, ft35, ft37, ft40, ft41, ft42, ft43, ft44, ft45, ft46, ft48, ft49, ft73, ft75, ft78, ft80, ft96, ft103, ft106, ft110, ft113, ft116, ft119, ft124, ft135, ft138, a25, a26, a32, tX, tZ, r8, hdv, Int.cast_ofNat_Int, Int.natCast_zero, Int.natCast_one, Int.reduceAdd, Int.reduceSub, Int.reduceNeg, Int.reduceMul, Int.reduceToNat, Int.reduceLT, Int.reduceLE, Int.reduceEq, Int.reduceBEq, Int.reduceBNe, Nat.reduceSub, Nat.reduceLT, List.getD_cons_zero, List.getD_cons_succ, List.length_singleton, Bool.and_true, Bool.and_false]
        refine acalls_lend (every_c rows width ((st ++ [0, 0, 0]).take st.length) ((cs ++ [0, 0, 0]).take cs.length) (L.take xs.length) (by rw [List.length_take]; omega) (by rw [List.length_take]; omega) (by rw [List.length_take]; omega)) (.cons (frz_pat (frz_ints tN rfl (by rw [List.length_take]; simp)) (frz_ints tC rfl (by rw [List.length_take]; simp))) (.cons (frz_ints tX rfl (by rw [List.length_take]; omega)) .nil)) rfl ?_
        simp (maxSteps := 4000000) only [↓packA, ↓reduceIte, packB, pureOp, quietOp, loadOp, quietB, fr0, cellsK, implies_true, ite_true, ite_false, eq_self, ne_eq, reduceCtorEq, Nat.reduceLT, Nat.reduceLeDiff, Nat.reduceAdd, Nat.reduceMul, Nat.reduceBEq, Nat.reduceEqDiff, Int.reduceToNat, Int.reduceLT, Int.reduceLE, Nat.reduceSub, pl3, ft1, ft2, ft3, ft4, ft22, ft24, ft25, ft26, ft27, ft28, ft29, ft30, ft31, ft32, ft33, ft34, ft35, ft37, ft40, ft41, ft42, ft43, ft44, ft45, ft46, ft48, ft49, ft73, ft75, ft78, ft80, ft96, ft103, ft106, ft110, ft113, ft116, ft119, ft124, ft135, ft138, a25, a26, a32]
        refine acalls_fresh alive_c .nil (fun u h0 hz => ⟨_, hz, ?_⟩)
        simp (maxSteps := 4000000) only [↓packA, ↓reduceIte, packB, pureOp, quietOp, loadOp, quietB, fr0, cellsK, implies_true, ite_true, ite_false, eq_self, ne_eq, reduceCtorEq, Nat.reduceLT, Nat.reduceLeDiff, Nat.reduceAdd, Nat.reduceMul, Nat.reduceBEq, Nat.reduceEqDiff, Int.reduceToNat, Int.reduceLT, Int.reduceLE, Nat.reduceSub, pl3, ft1, ft2, ft3, ft4, ft22, ft24, ft25, ft26, ft27, ft28, ft29, ft30, ft31, ft32, ft33, ft34, ft35, ft37, ft40, ft41, ft42, ft43, ft44, ft45, ft46, ft48, ft49, ft73, ft75, ft78, ft80, ft96, ft103, ft106, ft110, ft113, ft116, ft119, ft124, ft135, ft138]
        exact .flat _ rfl
end Go.Proofs.YtgdlkhgfehclpaaGreat
end
