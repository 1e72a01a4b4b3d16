import Derived.Test.YtclbobielhllmaaGreatRD4
import Derived.Test.YtclbobielhllmaaGreatRD2
import Derived.Test.YtclbobielhllmaaGreatRD3
section
namespace Go.Proofs.YtclbobielhllmaaGreat
open Go Go.AL
set_option linter.unusedVariables false
set_option linter.unusedSimpArgs false
def upB (B : Nat → List (List AV)) (j : Nat) (l : List (List AV)) : Nat → List (List AV) := fun i => if i = j then l else B i
theorem upB_same {B : Nat → List (List AV)} {j : Nat} {l : List (List AV)} : upB B j l j = l := if_pos rfl
theorem upB_ne {B : Nat → List (List AV)} {i j : Nat} {l : List (List AV)} (h : i ≠ j) : upB B j l i = B i := if_neg h
structure Bk (F : Nat → Prop) (g : Nat) (h : Heap) (cs : List AV) (B : Nat → List (List AV)) : Prop where
  fix : ∀ i, F i → i < h.length
  ng : ¬ F g
  len : cs.length = 20
  obj : ∃ ev, h[g]? = some (.arr 20 [cs] ev)
  ol : ∀ (j : Nat) (c : AV), cs[j]? = some c → OL (fun i => F i ∨ i = g) 1 h c (B j)
  dj : ∀ (j j' : Nat) (c c' : AV) (i : Nat), j ≠ j' → cs[j]? = some c → cs[j']? = some c' → oid c = some i → oid c' ≠ some i
section
variable {F F' : Nat → Prop} {g : Nat} {h h' : Heap} {cs : List AV} {B : Nat → List (List AV)}
theorem Bk.lt (b : Bk F g h cs B) : g < h.length := by
  obtain ⟨ev, e⟩ := b.obj
  exact (List.getElem?_eq_some_iff.1 e).1
theorem Bk.get (b : Bk F g h cs B) {j : Nat} (hj : j < 20) : ∃ c, cs[j]? = some c := ⟨_, List.getElem?_eq_getElem (by rw [b.len]; exact hj)⟩
theorem Bk.keep (b : Bk F g h cs B) (hl : h.length ≤ h'.length) (hh : ∀ i, i < h.length → ¬ F i → h'[i]? = h[i]?) : Bk F g h' cs B :=
  ⟨fun i hi => Nat.lt_of_lt_of_le (b.fix i hi) hl, b.ng, b.len, by
    obtain ⟨ev, e⟩ := b.obj
    exact ⟨ev, by rw [hh g b.lt b.ng]; exact e⟩, fun j c hc => (b.ol j c hc).keep fun id _ hlt hn => ⟨hn, hh id hlt fun e => hn (.inl e)⟩, b.dj⟩
theorem Bk.app (b : Bk F g h cs B) (t : Heap) : Bk F g (h ++ t) cs B := b.keep (by simp) fun i hi _ => List.getElem?_append_left hi
theorem Bk.set (b : Bk F g h cs B) {i : Nat} (hi : F i) (o : Ob) : Bk F g (h.set i o) cs B :=
  b.keep (by simp) fun j _ hj => List.getElem?_set_ne (fun e => hj (by rw [← e]; exact hi))
theorem Bk.more (b : Bk F g h cs B) (hl : h.length ≤ h'.length) (hh : ∀ i, i < h.length → ¬ F i → h'[i]? = h[i]?) (hF : ∀ i, F' i → F i ∨ (h.length ≤ i ∧ i < h'.length)) : Bk F' g h' cs B :=
  ⟨fun i hi => by
    rcases hF i hi with h1 | h1
    · have := b.fix i h1; omega
    · exact h1.2, fun e => by
    rcases hF g e with h1 | h1
    · exact b.ng h1
    · have := b.lt; omega, b.len, by
    obtain ⟨ev, e⟩ := b.obj
    exact ⟨ev, by rw [hh g b.lt b.ng]; exact e⟩, fun j c hc => (b.ol j c hc).keep fun id _ hlt hn => ⟨fun e => by
      rcases e with e | e
      · rcases hF id e with h1 | h1
        · exact hn (.inl h1)
        · omega
      · exact hn (.inr e), hh id hlt fun e => hn (.inl e)⟩, b.dj⟩
theorem Bk.less (b : Bk F g h cs B) (hF : ∀ i, F' i → F i) : Bk F' g h cs B := b.more (Nat.le_refl _) (fun _ _ _ => rfl) fun i hi => .inl (hF i hi)
theorem Bk.push (b : Bk F g h cs B) {j : Nat} {c : AV} (hj : cs[j]? = some c) {bb : Nat} {z row : List AV} {K : AV → Heap → Prop} (hz : z.length = 1) (hzf : flats z = true) (hs : ((B j).length + 1) * bb ≤ 140737488355328)
    (hK : ∀ c' h', (∃ id l cap ex, c' = .osl id 1 0 l cap ex) → h'[g]? = h[g]? → (∀ ev, Bk F g (h'.set g (.arr 20 [cs.set j c'] ev)) (cs.set j c') (upB B j (B j ++ [row]))) → (∀ i, F i → h'[i]? = h[i]?) → h.length ≤ h'.length → K c' h') : apK z bb h c [row] K := by
  have hjl := (List.getElem?_eq_some_iff.1 hj).1
  refine ol_push (F := fun i => F i ∨ i = g) 1 hz hzf (fun i hi => ?_) (b.ol j c hj) hs fun c' h' ⟨id, cap, ex, e1, e2⟩ hO hl hk hF => ?_
  · rcases hi with hi | rfl
    · exact b.fix i hi
    · exact b.lt
  have old : ∀ {q x}, q ≠ j → (cs.set j c')[q]? = some x → cs[q]? = some x := fun hq hx => by rwa [List.getElem?_set_ne (Ne.symm hq)] at hx
  have here : ∀ {x}, (cs.set j c')[j]? = some x → x = c' := fun hx => by
    rw [List.getElem?_set_self hjl] at hx
    exact (Option.some.inj hx).symm
  have hgl : g < h'.length := Nat.lt_of_lt_of_le b.lt hl
  refine hK c' h' ⟨_, _, _, _, e1⟩ (hF g (.inr rfl)) (fun ev => ⟨fun i hi => by rw [List.length_set]; exact Nat.lt_of_lt_of_le (b.fix i hi) hl, b.ng, by rw [List.length_set]; exact b.len, ⟨ev, List.getElem?_set_self hgl⟩, fun q x hx => ?_, fun q q' x x' i hq hx hx' hi => ?_⟩) (fun i hi => hF i (.inl hi)) hl
  · by_cases hq : q = j
    · subst hq
      obtain rfl := here hx
      rw [upB_same]
      exact hO.set (.inr rfl) _
    · rw [upB_ne hq]
      have hx0 := old hq hx
      refine ((b.ol q x hx0).keep fun i hi hlt hn => ⟨hn, hk i hlt fun e => b.dj j q c x i (Ne.symm hq) hj hx0 e hi⟩).set (.inr rfl) _
  · have hnew : ∀ {q x i}, q ≠ j → cs[q]? = some x → oid x = some i → oid c' ≠ some i := fun {q x i} hq hx hi => by
      rw [e1]
      intro e
      cases e
      rcases e2 with e2 | e2
      · exact b.dj j q c x _ (Ne.symm hq) hj hx e2 hi
      · rcases b.ol q x hx with ⟨rfl, _⟩ | ⟨id', _, _, _, _, rfl, _, hrow, _⟩
        · cases hi
        · cases hi
          have := (List.getElem?_eq_some_iff.1 hrow).1
          omega
    by_cases h1 : q = j
    · subst h1
      obtain rfl := here hx
      exact fun e => hnew (Ne.symm hq) (old (Ne.symm hq) hx') e hi
    · by_cases h2 : q' = j
      · subst h2
        obtain rfl := here hx'
        exact hnew h1 (old h1 hx) hi
      · exact b.dj q q' x x' i hq (old h1 hx) (old h2 hx') hi
theorem Bk.freeze (b : Bk F g h cs B) {j : Nat} (hj : j < 20) {R : List (List AV)} {u u' : AV} {M : Nat} {o : Ob} (hB : B j = R ++ [[u]]) (hM : h[M]? = some o) (hd : o ≠ .dead) (hMF : F M) (hu : Frz ((List.replicate h.length Ob.dead).set M o) u u') :
    ∃ hK, Frozen h ((List.replicate h.length Ob.dead).set M o) hK ∧ Bk (fun i => F i ∧ i ≠ M) g hK cs (upB B j (R ++ [[u']])) ∧ (∀ i, F i → i ≠ M → hK[i]? = h[i]?) ∧ hK.length = h.length := by
  obtain ⟨c, hc⟩ := b.get hj
  have hO := b.ol j c hc
  rw [hB] at hO
  rcases hO with ⟨_, h0⟩ | ⟨L, cap, ex, rest, ex', rfl, hL, hrow, hlc, hce, hre⟩
  · exact absurd h0 (by simp)
  have hLM : L ≠ M := fun e => hL (.inl (e ▸ hMF))
  have hLg : L ≠ g := fun e => hL (.inr e)
  have hgM : g ≠ M := fun e => b.ng (e ▸ hMF)
  have hLl := (List.getElem?_eq_some_iff.1 hrow).1
  refine ⟨(h.set M .dead).set L (.arr 1 (R ++ [[u']] ++ rest) ex'), frozen_one hM hd hLM hrow (by simp) (fun i e e' he he' => ?_), ⟨fun i hi => by simp; exact b.fix i hi.1, fun e => b.ng e.1, b.len, ?_, fun q x hx => ?_, b.dj⟩, fun i hi hne => ?_, by simp⟩
  · by_cases c1 : i < R.length
    · rw [List.append_assoc, List.getElem?_append_left c1] at he he'
      rw [he] at he'
      obtain rfl := Option.some.inj he'
      exact .same _
    · rw [List.append_assoc, List.getElem?_append_right (by omega)] at he he'
      cases hq : i - R.length with
      | zero =>
        rw [hq] at he he'
        simp at he he'
        subst he he'
        exact .one (.frz _ _ hu)
      | succ q =>
        rw [hq] at he he'
        simp at he he'
        rw [he] at he'
        obtain rfl := Option.some.inj he'
        exact .same _
  · obtain ⟨ev, e⟩ := b.obj
    exact ⟨ev, by rw [List.getElem?_set_ne hLg, List.getElem?_set_ne (Ne.symm hgM)]; exact e⟩
  · by_cases hq : q = j
    · subst hq
      rw [hc] at hx
      obtain rfl := Option.some.inj hx
      rw [upB_same]
      exact .inr ⟨L, cap, ex, rest, ex', by simp, fun e => hL (by rcases e with e | e; exact .inl e.1; exact .inr e), List.getElem?_set_self (by simpa using hLl), by simpa using hlc, by simpa using hce, hre⟩
    · rw [upB_ne hq]
      refine (b.ol q x hx).keep fun i hi hlt hn => ⟨fun e => hn (by rcases e with e | e; exact .inl e.1; exact .inr e), ?_⟩
      rw [List.getElem?_set_ne (fun e => b.dj j q _ x i (Ne.symm hq) hc hx (by rw [← e]; rfl) hi), List.getElem?_set_ne (fun e => hn (.inl (by rw [← e]; exact hMF)))]
  · rw [List.getElem?_set_ne (fun e => hL (.inl (by rw [e]; exact hi))), List.getElem?_set_ne (Ne.symm hne)]
end
end Go.Proofs.YtclbobielhllmaaGreat
end
section
namespace Go.Proofs.YtclbobielhllmaaGreat
open Go Go.AL
set_option linter.unusedVariables false
set_option linter.unusedSimpArgs false
def limM (l : List Int) : List Int := l ++ [42405, 23130, 42330]
theorem limM_ok {l : List Int} (h : LI l) : LI (limM l) := h.app fun x hx => by simp at hx; omega
def bkNat (B : Nat → List (List AV)) (l : List Int) : Nat → List (List AV) := upB (upB B 0 (B 0 ++ [[lims (limM l)]])) 1 (B 1 ++ [[lims (limM l)]])
theorem copyNat_f (l : List Int) (hL : LI l) (hl : l.length < 100000000) : ACalls Tryz.prog 60 [lims l] [] fun v h => OFz h v (lims l) := copyNat_o l hL hl (ofz_pre (t := [0, 0, 0]) rfl)
theorem upB_swap {B : Nat → List (List AV)} {i j : Nat} {x y z : List (List AV)} (h : i ≠ j) : upB (upB (upB B i x) j y) i z = upB (upB B i z) j y := by
  funext q
  unfold upB
  by_cases h1 : q = i
  · subst h1
    rw [if_pos rfl, if_neg h, if_pos rfl]
  · rw [if_neg h1, if_neg h1, if_neg h1]
theorem only_get {h : Heap} {M : Nat} {o : Ob} (hM : M < h.length) : ((List.replicate h.length Ob.dead).set M o)[M]? = some o := List.getElem?_set_self (by simpa using hM)
set_option maxHeartbeats 4000000 in
set_option maxRecDepth 100000 in
theorem gnat_c (l : List Int) (hL : LI l) (hl : l.length < 10000000) {F : Nat → Prop} {g : Nat} {h : Heap} {cs : List AV} {B : Nat → List (List AV)} (b : Bk F g h cs B) (hb0 : (B 0).length < 100000000) (hb1 : (B 1).length < 100000000) {Q : AV → Heap → Prop}
    (hq : ∀ h' cs', Bk F g h' cs' (bkNat B l) → (∀ i, F i → h'[i]? = h[i]?) → h.length ≤ h'.length → Q (lims l) h') : ACalls Tryz.prog 38 [.op g 20 0 0, lims l] h Q := by
  refine acalls_freeze (wp38 rfl rfl ?_)
  obtain ⟨M, hM⟩ : ∃ M, h.length = M := ⟨_, rfl⟩
  have tM := tailR hM
  have e3 : List.take l.length (List.map u32E (l ++ [0, 0, 0])) ++ [[AV.int IntKind.u32 42405], [AV.int IntKind.u32 23130], [AV.int IntKind.u32 42330]] ++ List.drop (l.length + 3) (List.map u32E (l ++ [0, 0, 0])) = List.map u32E (limM l) := by
    rw [← List.map_take, ← List.map_drop, List.take_left, List.drop_of_length_le (by simp), limM, List.map_append, List.map_nil, List.append_nil]
    rfl
  obtain ⟨ev, hg⟩ := b.obj
  have hgl := b.lt
  have rg : ∀ t, (h ++ t)[g]? = some (.arr 20 [cs] ev) := fun t => by rw [List.getElem?_append_left hgl]; exact hg
  obtain ⟨c0, hc0⟩ := b.get (j := 0) (by decide)
  have en : ((l.length + 3 : Nat) : Int) = (l.length : Int) + 3 := by omega
  simp (maxSteps := 4000000) only [↓packA, ↓reduceIte, packB, pureOp, quietOp, loadOp, quietB, fr0, cellsK, implies_true, ite_true, ite_false, eq_self, ne_eq, reduceCtorEq, Nat.reduceLT, Nat.reduceLeDiff, Nat.reduceAdd, Nat.reduceMul, Nat.reduceBEq, Nat.reduceEqDiff, Int.reduceToNat, Int.reduceLT, Int.reduceLE, Nat.reduceSub, pl38, ft1, ft3, ft22, ft23, ft26, ft27, ft28, ft29, ft30, ft31, ft32, ft33, ft34, ft35, ft37, ft58, ft59, ft84, ft86, ft88, ft92, ft109, ft114, ft123, lims]
  refine copyNat_o l hL (by omega) ?_
  simp (maxSteps := 4000000) only [↓packA, ↓reduceIte, packB, pureOp, quietOp, loadOp, quietB, fr0, cellsK, implies_true, ite_true, ite_false, eq_self, ne_eq, reduceCtorEq, Nat.reduceLT, Nat.reduceLeDiff, Nat.reduceAdd, Nat.reduceMul, Nat.reduceBEq, Nat.reduceEqDiff, Int.reduceToNat, Int.reduceLT, Int.reduceLE, Nat.reduceSub, pl38, ft1, ft3, ft22, ft23, ft26, ft27, ft28, ft29, ft30, ft31, ft32, ft33, ft34, ft35, ft37, ft58, ft59, ft84, ft86, ft88, ft92, ft109, ft114, ft123, lims, limR, hM, tM, e3, rg, hc0]
  refine ⟨by omega, by omega, ?_⟩
  have b1 : Bk (fun i => F i ∨ i = M) g (h ++ [Ob.arr 1 (List.map u32E (limM l)) true, Ob.arr 1 [[AV.int IntKind.u32 42405], [AV.int IntKind.u32 23130], [AV.int IntKind.u32 42330]] true, Ob.arr 1 [[AV.osl M 1 0 (l.length + 3) (l.length + 3) true]] true]) cs B := b.more (by simp) (fun i hi _ => List.getElem?_append_left hi) fun i hi => by
    rcases hi with hi | rfl
    · exact .inl hi
    · exact .inr ⟨by omega, by simp; omega⟩
  refine b1.push hc0 rfl rfl (by omega) fun c1 h1 ⟨_, _, _, _, ec1⟩ hg1 hb1' hF1 hl1 => ?_
  subst ec1
  have b2 := hb1' ev
  have hM1 : h1[M]? = some (Ob.arr 1 (List.map u32E (limM l)) true) := by rw [hF1 M (.inr rfl)]; exact tM.1 _
  have hg1' : h1[g]? = some (.arr 20 [cs] ev) := by rw [hg1]; exact rg _
  have hgl1 : g < h1.length := by simp at hl1; omega
  have hgM : g ≠ M := by omega
  have sg : ∀ o, (h1.set g o)[g]? = some o := fun o => List.getElem?_set_self hgl1
  obtain ⟨c1, hc1⟩ := b.get (j := 1) (by decide)
  have hc1' : ∀ x, (cs.set 0 x)[1]? = some c1 := fun x => by rw [List.getElem?_set_ne (by decide)]; exact hc1
  have hcl : 1 ≤ cs.length := by rw [b.len]; decide
  simp (maxSteps := 4000000) only [↓packA, ↓reduceIte, packB, pureOp, quietOp, loadOp, quietB, fr0, cellsK, implies_true, ite_true, ite_false, eq_self, ne_eq, reduceCtorEq, Nat.reduceLT, Nat.reduceLeDiff, Nat.reduceAdd, Nat.reduceMul, Nat.reduceBEq, Nat.reduceEqDiff, Int.reduceToNat, Int.reduceLT, Int.reduceLE, Nat.reduceSub, pl38, ft1, ft3, ft22, ft23, ft26, ft27, ft28, ft29, ft30, ft31, ft32, ft33, ft34, ft35, ft37, ft58, ft59, ft84, ft86, ft88, ft92, ft109, ft114, ft123, lims, limR, hM, hg1', hc0, sg, hc1', hcl]
  refine acalls_fresh (copyNat_f (limM l) (limM_ok hL) (by simp [limM]; omega)) (.cons (Frz.whole (es := List.map u32E (limM l)) (ex' := true) (by rw [List.getElem?_set_ne hgM]; exact hM1) (fun e he => by obtain ⟨x, _, rfl⟩ := List.mem_map.1 he; rfl) (by simp [limM])) .nil) fun u hx hz => ⟨_, hz, ?_⟩
  generalize hcs2 : cs.set 0 _ = cs2 at *
  generalize hh2 : h1.set g _ = h2 at *
  have hg2 : h2[g]? = some (.arr 20 [cs2] ev) := by rw [← hh2]; exact sg _
  have hc2 : cs2[1]? = some c1 := by rw [← hcs2]; exact hc1' _
  have hl2 : h2.length = h1.length := by rw [← hh2]; simp
  have rg2 : ∀ t, (h2 ++ t)[g]? = some (.arr 20 [cs2] ev) := fun t => by rw [List.getElem?_append_left (by omega)]; exact hg2
  obtain ⟨M2, hM2⟩ : ∃ M2, h2.length = M2 := ⟨_, rfl⟩
  have tM2 := tailR hM2
  simp (maxSteps := 4000000) only [↓packA, ↓reduceIte, packB, pureOp, quietOp, loadOp, quietB, fr0, cellsK, implies_true, ite_true, ite_false, eq_self, ne_eq, reduceCtorEq, Nat.reduceLT, Nat.reduceLeDiff, Nat.reduceAdd, Nat.reduceMul, Nat.reduceBEq, Nat.reduceEqDiff, Int.reduceToNat, Int.reduceLT, Int.reduceLE, Nat.reduceSub, pl38, ft1, ft3, ft22, ft23, ft26, ft27, ft28, ft29, ft30, ft31, ft32, ft33, ft34, ft35, ft37, ft58, ft59, ft84, ft86, ft88, ft92, ft109, ft114, ft123, lims, limR, hM2, tM2, hg2, rg2, hc2]
  have eB1 : upB B 0 (B 0 ++ [[AV.osl M 1 0 (l.length + 3) (l.length + 3) true]]) 1 = B 1 := upB_ne (by decide)
  refine (b2.app _).push hc2 rfl rfl (by rw [eB1]; omega) fun c3 h3 ⟨_, _, _, _, ec3⟩ hg3 hb3 hF3 hl3 => ?_
  subst ec3
  have hg3' : h3[g]? = some (.arr 20 [cs2] ev) := by rw [hg3]; exact rg2 _
  have hgl3 : g < h3.length := by simp at hl3; omega
  have hcl2 : 1 + 1 ≤ cs2.length := by rw [← hcs2, List.length_set, b.len]; decide
  have b3 := hb3 ev
  simp (maxSteps := 4000000) only [↓packA, ↓reduceIte, packB, pureOp, quietOp, loadOp, quietB, fr0, cellsK, implies_true, ite_true, ite_false, eq_self, ne_eq, reduceCtorEq, Nat.reduceLT, Nat.reduceLeDiff, Nat.reduceAdd, Nat.reduceMul, Nat.reduceBEq, Nat.reduceEqDiff, Int.reduceToNat, Int.reduceLT, Int.reduceLE, Nat.reduceSub, pl38, ft1, ft3, ft22, ft23, ft26, ft27, ft28, ft29, ft30, ft31, ft32, ft33, ft34, ft35, ft37, ft58, ft59, ft84, ft86, ft88, ft92, ft109, ft114, ft123, lims, limR, hg3', hc2, hcl2]
  generalize hcs4 : cs2.set 1 _ = cs4 at *
  generalize hh4 : h3.set g _ = h4 at *
  refine ⟨by omega, ?_⟩
  have hM4 : h4[M]? = some (Ob.arr 1 (List.map u32E (limM l)) true) := by
    rw [← hh4, List.getElem?_set_ne hgM, hF3 M (.inr rfl), List.getElem?_append_left (by rw [hl2]; exact (List.getElem?_eq_some_iff.1 hM1).1), ← hh2, List.getElem?_set_ne hgM]
    exact hM1
  rw [eB1] at b3
  have hMl4 := (List.getElem?_eq_some_iff.1 hM4).1
  obtain ⟨hK, f1, f2, f3, f4⟩ := b3.freeze (j := 0) (by decide) (R := B 0) (by rw [upB_ne (by decide), upB_same]) hM4 (by simp) (.inr rfl) (u' := lims (limM l)) (Frz.whole (only_get hMl4) (fun e he => by obtain ⟨x, _, rfl⟩ := List.mem_map.1 he; rfl) (by simp [limM]))
  refine ⟨by omega, _, hK, lims l, f1, .frz _ _ ?_, hq hK cs4 ?_ (fun i hi => ?_) ?_⟩
  · have := Frz.flat (id := M) (k := 1) (i := 0) (len := l.length) (cap := l.length + 3) (ex := true) (only_get (o := Ob.arr 1 (List.map u32E (limM l)) true) hMl4) (by simp [limM]) (fun e he => by obtain ⟨x, _, rfl⟩ := List.mem_map.1 he; rfl)
    rw [List.drop_zero, ← List.map_take, limM, List.take_left] at this
    exact this
  · rw [upB_swap (by decide)] at f2
    exact f2.less fun i hi => ⟨.inl hi, fun e => by have := b.fix i hi; omega⟩
  · have hil := b.fix i hi
    rw [f3 i (.inl hi) (by omega), ← hh4, List.getElem?_set_ne (fun e => b.ng (by rw [e]; exact hi)), hF3 i (.inl hi)]
    simp only [List.length_append] at hl1
    rw [List.getElem?_append_left (by omega), ← hh2, List.getElem?_set_ne (fun e => b.ng (by rw [e]; exact hi)), hF1 i (.inl hi), List.getElem?_append_left hil]
  · rw [f4, ← hh4, List.length_set]
    simp at hl1 hl3
    omega
def intM (l : List Int) : List Int := l ++ [-41, -42, -43]
def bkInts (B : Nat → List (List AV)) (l : List Int) : Nat → List (List AV) := upB (upB B 4 (B 4 ++ [[ints (intM l)]])) 5 (B 5 ++ [[ints (intM l)]])
theorem copyInts_o (l : List Int) (hl : l.length < 100000000) {h : Heap} {Q : AV → Heap → Prop} (hq : Q (.osl h.length 1 0 l.length (l.length + 3) true) (h ++ [.arr 1 (List.map intE (l ++ [0, 0, 0])) true])) : ACalls Tryz.prog 40 [ints l] h Q := by
  refine acalls_shift (copy_c l (by omega)) rfl fun u h0 ⟨hu, hh⟩ => ?_
  subst hu hh
  rw [behind_eq, map_one, ren_intEs, ren_osl, Nat.zero_add]
  exact hq
theorem copyInts_f (l : List Int) (hl : l.length < 100000000) : ACalls Tryz.prog 40 [ints l] [] fun v h => OFz h v (ints l) := copyInts_o l hl (by
  have := OFz.osl (h := [.arr 1 (List.map intE (l ++ [0, 0, 0])) true]) 0 1 0 l.length (l.length + 3) true true _ rfl (by simp) (fun e he => by obtain ⟨x, _, rfl⟩ := List.mem_map.1 he; rfl)
  rw [List.drop_zero, ← List.map_take, List.take_left] at this
  exact this)
set_option maxHeartbeats 4000000 in
set_option maxRecDepth 100000 in
theorem gints_c (l : List Int) (hl : l.length < 10000000) {F : Nat → Prop} {g : Nat} {h : Heap} {cs : List AV} {B : Nat → List (List AV)} (b : Bk F g h cs B) (hb0 : (B 4).length < 100000000) (hb1 : (B 5).length < 100000000) {Q : AV → Heap → Prop}
    (hq : ∀ h' cs', Bk F g h' cs' (bkInts B l) → (∀ i, F i → h'[i]? = h[i]?) → h.length ≤ h'.length → Q (ints l) h') : ACalls Tryz.prog 17 [.op g 20 0 0, ints l] h Q := by
  refine acalls_freeze (wp17 rfl rfl ?_)
  obtain ⟨M, hM⟩ : ∃ M, h.length = M := ⟨_, rfl⟩
  have tM := tailR hM
  have e3 : List.take l.length (List.map intE (l ++ [0, 0, 0])) ++ [[AV.int IntKind.i64 (-41)], [AV.int IntKind.i64 (-42)], [AV.int IntKind.i64 (-43)]] ++ List.drop (l.length + 3) (List.map intE (l ++ [0, 0, 0])) = List.map intE (intM l) := by
    rw [← List.map_take, ← List.map_drop, List.take_left, List.drop_of_length_le (by simp), intM, List.map_append, List.map_nil, List.append_nil]
    rfl
  obtain ⟨ev, hg⟩ := b.obj
  have hgl := b.lt
  have rg : ∀ t, (h ++ t)[g]? = some (.arr 20 [cs] ev) := fun t => by rw [List.getElem?_append_left hgl]; exact hg
  obtain ⟨c0, hc0⟩ := b.get (j := 4) (by decide)
  have en : ((l.length + 3 : Nat) : Int) = (l.length : Int) + 3 := by omega
  simp (maxSteps := 4000000) only [↓packA, ↓reduceIte, packB, pureOp, quietOp, loadOp, quietB, fr0, cellsK, implies_true, ite_true, ite_false, eq_self, ne_eq, reduceCtorEq, Nat.reduceLT, Nat.reduceLeDiff, Nat.reduceAdd, Nat.reduceMul, Nat.reduceBEq, Nat.reduceEqDiff, Int.reduceToNat, Int.reduceLT, Int.reduceLE, Nat.reduceSub, pl17, ft1, ft3, ft4, ft5, ft22, ft23, ft26, ft27, ft28, ft29, ft30, ft31, ft32, ft33, ft34, ft35, ft37, ft58, ft84, ft86, ft88, ft92, ft114, ft123, ints]
  refine copyInts_o l (by omega) ?_
  simp (maxSteps := 4000000) only [↓packA, ↓reduceIte, packB, pureOp, quietOp, loadOp, quietB, fr0, cellsK, implies_true, ite_true, ite_false, eq_self, ne_eq, reduceCtorEq, Nat.reduceLT, Nat.reduceLeDiff, Nat.reduceAdd, Nat.reduceMul, Nat.reduceBEq, Nat.reduceEqDiff, Int.reduceToNat, Int.reduceLT, Int.reduceLE, Nat.reduceSub, pl17, ft1, ft3, ft4, ft5, ft22, ft23, ft26, ft27, ft28, ft29, ft30, ft31, ft32, ft33, ft34, ft35, ft37, ft58, ft84, ft86, ft88, ft92, ft114, ft123, ints, hM, tM, e3, rg, hc0]
  refine ⟨by omega, by omega, ?_⟩
  have b1 : Bk (fun i => F i ∨ i = M) g (h ++ [Ob.arr 1 (List.map intE (intM l)) true, Ob.arr 1 [[AV.int IntKind.i64 (-41)], [AV.int IntKind.i64 (-42)], [AV.int IntKind.i64 (-43)]] true, Ob.arr 1 [[AV.osl M 1 0 (l.length + 3) (l.length + 3) true]] true]) cs B := b.more (by simp) (fun i hi _ => List.getElem?_append_left hi) fun i hi => by
    rcases hi with hi | rfl
    · exact .inl hi
    · exact .inr ⟨by omega, by simp; omega⟩
  refine b1.push hc0 rfl rfl (by omega) fun c1 h1 ⟨_, _, _, _, ec1⟩ hg1 hb1' hF1 hl1 => ?_
  subst ec1
  have b2 := hb1' ev
  have hM1 : h1[M]? = some (Ob.arr 1 (List.map intE (intM l)) true) := by rw [hF1 M (.inr rfl)]; exact tM.1 _
  have hg1' : h1[g]? = some (.arr 20 [cs] ev) := by rw [hg1]; exact rg _
  have hgl1 : g < h1.length := by simp at hl1; omega
  have hgM : g ≠ M := by omega
  have sg : ∀ o, (h1.set g o)[g]? = some o := fun o => List.getElem?_set_self hgl1
  obtain ⟨c1, hc1⟩ := b.get (j := 5) (by decide)
  have hc1' : ∀ x, (cs.set 4 x)[5]? = some c1 := fun x => by rw [List.getElem?_set_ne (by decide)]; exact hc1
  have hcl : 5 ≤ cs.length := by rw [b.len]; decide
  simp (maxSteps := 4000000) only [↓packA, ↓reduceIte, packB, pureOp, quietOp, loadOp, quietB, fr0, cellsK, implies_true, ite_true, ite_false, eq_self, ne_eq, reduceCtorEq, Nat.reduceLT, Nat.reduceLeDiff, Nat.reduceAdd, Nat.reduceMul, Nat.reduceBEq, Nat.reduceEqDiff, Int.reduceToNat, Int.reduceLT, Int.reduceLE, Nat.reduceSub, pl17, ft1, ft3, ft4, ft5, ft22, ft23, ft26, ft27, ft28, ft29, ft30, ft31, ft32, ft33, ft34, ft35, ft37, ft58, ft84, ft86, ft88, ft92, ft114, ft123, ints, hM, hg1', hc0, sg, hc1', hcl]
  refine acalls_fresh (copyInts_f (intM l) (by simp [intM]; omega)) (.cons (Frz.whole (es := List.map intE (intM l)) (ex' := true) (by rw [List.getElem?_set_ne hgM]; exact hM1) (fun e he => by obtain ⟨x, _, rfl⟩ := List.mem_map.1 he; rfl) (by simp [intM])) .nil) fun u hx hz => ⟨_, hz, ?_⟩
  generalize hcs2 : cs.set 4 _ = cs2 at *
  generalize hh2 : h1.set g _ = h2 at *
  have hg2 : h2[g]? = some (.arr 20 [cs2] ev) := by rw [← hh2]; exact sg _
  have hc2 : cs2[5]? = some c1 := by rw [← hcs2]; exact hc1' _
  have hl2 : h2.length = h1.length := by rw [← hh2]; simp
  have rg2 : ∀ t, (h2 ++ t)[g]? = some (.arr 20 [cs2] ev) := fun t => by rw [List.getElem?_append_left (by omega)]; exact hg2
  obtain ⟨M2, hM2⟩ : ∃ M2, h2.length = M2 := ⟨_, rfl⟩
  have tM2 := tailR hM2
  simp (maxSteps := 4000000) only [↓packA, ↓reduceIte, packB, pureOp, quietOp, loadOp, quietB, fr0, cellsK, implies_true, ite_true, ite_false, eq_self, ne_eq, reduceCtorEq, Nat.reduceLT, Nat.reduceLeDiff, Nat.reduceAdd, Nat.reduceMul, Nat.reduceBEq, Nat.reduceEqDiff, Int.reduceToNat, Int.reduceLT, Int.reduceLE, Nat.reduceSub, pl17, ft1, ft3, ft4, ft5, ft22, ft23, ft26, ft27, ft28, ft29, ft30, ft31, ft32, ft33, ft34, ft35, ft37, ft58, ft84, ft86, ft88, ft92, ft114, ft123, ints, hM2, tM2, hg2, rg2, hc2]
  have eB1 : upB B 4 (B 4 ++ [[AV.osl M 1 0 (l.length + 3) (l.length + 3) true]]) 5 = B 5 := upB_ne (by decide)
  refine (b2.app _).push hc2 rfl rfl (by rw [eB1]; omega) fun c3 h3 ⟨_, _, _, _, ec3⟩ hg3 hb3 hF3 hl3 => ?_
  subst ec3
  have hg3' : h3[g]? = some (.arr 20 [cs2] ev) := by rw [hg3]; exact rg2 _
  have hgl3 : g < h3.length := by simp at hl3; omega
  have hcl2 : 5 + 1 ≤ cs2.length := by rw [← hcs2, List.length_set, b.len]; decide
  have b3 := hb3 ev
  simp (maxSteps := 4000000) only [↓packA, ↓reduceIte, packB, pureOp, quietOp, loadOp, quietB, fr0, cellsK, implies_true, ite_true, ite_false, eq_self, ne_eq, reduceCtorEq, Nat.reduceLT, Nat.reduceLeDiff, Nat.reduceAdd, Nat.reduceMul, Nat.reduceBEq, Nat.reduceEqDiff, Int.reduceToNat, Int.reduceLT, Int.reduceLE, Nat.reduceSub, pl17, ft1, ft3, ft4, ft5, ft22, ft23, ft26, ft27, ft28, ft29, ft30, ft31, ft32, ft33, ft34, ft35, ft37, ft58, ft84, ft86, ft88, ft92, ft114, ft123, ints, hg3', hc2, hcl2]
  generalize hcs4 : cs2.set 5 _ = cs4 at *
  generalize hh4 : h3.set g _ = h4 at *
  refine ⟨by omega, ?_⟩
  have hM4 : h4[M]? = some (Ob.arr 1 (List.map intE (intM l)) true) := by
    rw [← hh4, List.getElem?_set_ne hgM, hF3 M (.inr rfl), List.getElem?_append_left (by rw [hl2]; exact (List.getElem?_eq_some_iff.1 hM1).1), ← hh2, List.getElem?_set_ne hgM]
    exact hM1
  rw [eB1] at b3
  have hMl4 := (List.getElem?_eq_some_iff.1 hM4).1
  obtain ⟨hK, f1, f2, f3, f4⟩ := b3.freeze (j := 4) (by decide) (R := B 4) (by rw [upB_ne (by decide), upB_same]) hM4 (by simp) (.inr rfl) (u' := ints (intM l)) (Frz.whole (only_get hMl4) (fun e he => by obtain ⟨x, _, rfl⟩ := List.mem_map.1 he; rfl) (by simp [intM]))
  refine ⟨by omega, _, hK, ints l, f1, .frz _ _ ?_, hq hK cs4 ?_ (fun i hi => ?_) ?_⟩
  · have := Frz.flat (id := M) (k := 1) (i := 0) (len := l.length) (cap := l.length + 3) (ex := true) (only_get (o := Ob.arr 1 (List.map intE (intM l)) true) hMl4) (by simp [intM]) (fun e he => by obtain ⟨x, _, rfl⟩ := List.mem_map.1 he; rfl)
    rw [List.drop_zero, ← List.map_take, intM, List.take_left] at this
    exact this
  · rw [upB_swap (by decide)] at f2
    exact f2.less fun i hi => ⟨.inl hi, fun e => by have := b.fix i hi; omega⟩
  · have hil := b.fix i hi
    rw [f3 i (.inl hi) (by omega), ← hh4, List.getElem?_set_ne (fun e => b.ng (by rw [e]; exact hi)), hF3 i (.inl hi)]
    simp only [List.length_append] at hl1
    rw [List.getElem?_append_left (by omega), ← hh2, List.getElem?_set_ne (fun e => b.ng (by rw [e]; exact hi)), hF1 i (.inl hi), List.getElem?_append_left hil]
  · rw [f4, ← hh4, List.length_set]
    simp at hl1 hl3
    omega
end Go.Proofs.YtclbobielhllmaaGreat
end
section
namespace Go.Proofs.YtclbobielhllmaaGreat
open Go Go.AL
set_option linter.unusedVariables false
set_option linter.unusedSimpArgs false
set_option maxHeartbeats 4000000 in
set_option maxRecDepth 100000 in
theorem grat_c (neg : Bool) (num den : List Int) (hnL : LI num) (hdL : LI den) (hn : num.length < 10000000) (hd : den.length < 10000000) {F : Nat → Prop} {g : Nat} {h : Heap} {cs : List AV} {B : Nat → List (List AV)} (b : Bk F g h cs B) (hb0 : (B 0).length < 90000000) (hb1 : (B 1).length < 90000000) {Q : AV → Heap → Prop}
    (hq : ∀ h' cs', Bk F g h' cs' (bkNat (bkNat B num) den) → (∀ i, F i → h'[i]? = h[i]?) → h.length ≤ h'.length → Q (ratV neg num den) h') : ACalls Tryz.prog 15 [.op g 20 0 0, ratV neg num den] h Q := by
  refine wp15 rfl rfl ?_
  obtain ⟨M, hM⟩ : ∃ M, h.length = M := ⟨_, rfl⟩
  have tM := tailR hM
  have bm : ∀ x y : Ob, Bk (fun i => F i ∨ i = M ∨ i = M + 1) g (h ++ [x, y]) cs B := fun x y => b.more (by simp) (fun i hi _ => List.getElem?_append_left hi) fun i hi => by
    rcases hi with hi | hi
    · exact .inl hi
    · exact .inr ⟨by omega, by simp; omega⟩
  simp (maxSteps := 4000000) only [↓packA, ↓reduceIte, packB, pureOp, quietOp, loadOp, quietB, fr0, cellsK, implies_true, ite_true, ite_false, eq_self, ne_eq, reduceCtorEq, Nat.reduceLT, Nat.reduceLeDiff, Nat.reduceAdd, Nat.reduceMul, Nat.reduceBEq, Nat.reduceEqDiff, Int.reduceToNat, Int.reduceLT, Int.reduceLE, Nat.reduceSub, pl15, ft1, ft2, ft4, ft37, ft59, ft61, ft65, ft109, ratV, hM, tM]
  refine gnat_c num hnL hn (bm _ _) (by omega) (by omega) fun h1 cs1 b1 hF1 hl1 => ?_
  have e0 : h1[M]? = some (.arr 3 [[.bool neg, lims num, lims den]] true) := by rw [hF1 M (.inr (.inl rfl))]; exact tM.1 _
  have e1 : h1[M + 1]? = some (.arr 3 [[.bool false, .nils, .nils]] true) := by rw [hF1 (M + 1) (.inr (.inr rfl))]; exact tM.2.1 _ 1
  simp (maxSteps := 4000000) only [↓packA, ↓reduceIte, packB, pureOp, quietOp, loadOp, quietB, fr0, cellsK, implies_true, ite_true, ite_false, eq_self, ne_eq, reduceCtorEq, Nat.reduceLT, Nat.reduceLeDiff, Nat.reduceAdd, Nat.reduceMul, Nat.reduceBEq, Nat.reduceEqDiff, Int.reduceToNat, Int.reduceLT, Int.reduceLE, Nat.reduceSub, pl15, ft1, ft2, ft4, ft37, ft59, ft61, ft65, ft109, e0, e1]
  refine gnat_c den hdL hd b1 (by simp [bkNat, upB]; omega) (by simp [bkNat, upB]; omega) fun h2 cs2 b2 hF2 hl2 => ?_
  have e2 : h2[M]? = some (.arr 3 [[.bool neg, lims num, lims den]] true) := by rw [hF2 M (.inr (.inl rfl))]; exact e0
  have e3 : h2[M + 1]? = some (.arr 3 [[.bool false, .nils, .nils]] true) := by rw [hF2 (M + 1) (.inr (.inr rfl))]; exact e1
  have e4 : ∀ o, (h2.set (M + 1) o)[M + 1]? = some o := fun o => List.getElem?_set_self (by simp at hl1; omega)
  simp (maxSteps := 4000000) only [↓packA, ↓reduceIte, packB, pureOp, quietOp, loadOp, quietB, fr0, cellsK, implies_true, ite_true, ite_false, eq_self, ne_eq, reduceCtorEq, Nat.reduceLT, Nat.reduceLeDiff, Nat.reduceAdd, Nat.reduceMul, Nat.reduceBEq, Nat.reduceEqDiff, Int.reduceToNat, Int.reduceLT, Int.reduceLE, Nat.reduceSub, pl15, ft1, ft2, ft4, ft37, ft59, ft61, ft65, ft109, lims, ratV, e2, e3, e4, patch, patch', concA, Int.reduceAdd, Int.reduceSub, Int.reduceNeg, Int.reduceMul, Int.reduceEq, Int.reduceBEq, Int.reduceBNe]
  refine hq _ cs2 ((b2.set (.inr (.inr rfl)) _).less fun i hi => .inl hi) (fun i hi => ?_) (by simp at hl1 ⊢; omega)
  have := b.fix i hi
  rw [List.getElem?_set_ne (by omega), hF2 i (.inl hi), hF1 i (.inl hi), List.getElem?_append_left this]
end Go.Proofs.YtclbobielhllmaaGreat
end
section
namespace Go.Proofs.YtclbobielhllmaaGreat
open Go Go.AL
set_option linter.unusedVariables false
set_option linter.unusedSimpArgs false
theorem frozen_none {h : Heap} {M : Nat} {o : Ob} (hM : h[M]? = some o) (hd : o ≠ .dead) : Frozen h ((List.replicate h.length Ob.dead).set M o) (h.set M .dead) := by
  have hMl := (List.getElem?_eq_some_iff.1 hM).1
  refine ⟨by simp, by simp, fun id x h1 h2 => ?_, fun id x h1 h2 => ?_⟩
  · by_cases e : id = M
    · subst e
      rw [only_get hMl] at h1
      rw [← h1]
      exact hM
    · rw [List.getElem?_set_ne (Ne.symm e), List.getElem?_replicate] at h1
      split at h1
      · exact absurd (Option.some.inj h1).symm h2
      · cases h1
  · have hlt := (List.getElem?_eq_some_iff.1 h1).1
    rw [List.length_set] at hlt
    by_cases e : id = M
    · subst e
      rw [List.getElem?_set_self hMl] at h1
      exact absurd (Option.some.inj h1).symm h2
    · rw [List.getElem?_set_ne (Ne.symm e)] at h1
      exact ⟨by rw [List.getElem?_set_ne (Ne.symm e), List.getElem?_replicate, if_pos hlt], x, h1, h2, ObF.same h2⟩
theorem rowok_xy {row : List AV} {n : Nd} (h : RowOk row n) : ∃ X Y, row = [.int .i64 n.op, .int .i64 n.a, .int .i64 n.b, .int .i64 n.c, .bool n.neg, X, Y] ∧ (∀ h, Frz h X (lims n.num)) ∧ ∀ h, Frz h Y (lims n.den) := by
  rcases h with rfl | ⟨e1, e2, rfl⟩
  · exact ⟨_, _, rfl, fun _ => .pure _ rfl, fun _ => .pure _ rfl⟩
  · exact ⟨_, _, rfl, fun _ => by rw [e1]; exact .nils 1, fun _ => by rw [e2]; exact .nils 1⟩
theorem frz_rat {h : Heap} {neg : Bool} {X Y : AV} {num den : List Int} (hX : Frz h X (lims num)) (hY : Frz h Y (lims den)) : Frz h (.agg [.bool neg, X, Y]) (ratV neg num den) := .agg _ _ rfl fun q u u' hu hu' => by
  match q with
  | 0 => simp at hu hu'; subst hu hu'; exact .pure _ rfl
  | 1 => simp at hu hu'; subst hu hu'; exact hX
  | 2 => simp at hu hu'; subst hu hu'; exact hY
  | q + 3 => simp at hu
set_option maxHeartbeats 4000000 in
set_option maxRecDepth 100000 in
theorem copyTapeO_c (vars : Int) (ns : List Nd) (hns : ∀ n, n ∈ ns → n.Ok) (hn : ns.length < 100000000) {h : Heap} {A cap : Nat} {ex ex' : Bool} {rows : List (List AV)} (hA : h[A]? = some (.arr 7 rows ex')) (hR : RowsOk rows ns) {Q : AV → Heap → Prop}
    (hq : ∀ h', (∀ i, i < h.length → h'[i]? = h[i]?) → h.length ≤ h'.length → Q (.agg [.int .i64 vars, .isl 7 (ns.map Nd.cells), .isl 1 []]) h') : ACalls Tryz.prog 16 [.agg [.int .i64 vars, .osl A 7 0 ns.length cap ex, .nils]] h Q := by
  refine acalls_freeze (wp16 rfl rfl ?_)
  obtain ⟨M, hM⟩ : ∃ M, h.length = M := ⟨_, rfl⟩
  have hAl := (List.getElem?_eq_some_iff.1 hA).1
  have hrl := hR.1
  have tM := tailR hM
  have rA : ∀ t, (h ++ t)[A]? = some (.arr 7 rows ex') := fun t => by rw [List.getElem?_append_left hAl]; exact hA
  have en : (ns.length : Int) + 3 = ((ns.length + 3 : Nat) : Int) := by omega
  simp (maxSteps := 4000000) only [↓packA, ↓reduceIte, packB, pureOp, quietOp, loadOp, quietB, fr0, cellsK, implies_true, ite_true, ite_false, eq_self, ne_eq, reduceCtorEq, Nat.reduceLT, Nat.reduceLeDiff, Nat.reduceAdd, Nat.reduceMul, Nat.reduceBEq, Nat.reduceEqDiff, Int.reduceToNat, Int.reduceLT, Int.reduceLE, Nat.reduceSub, pl16, ft1, ft2, ft3, ft4, ft22, ft23, ft25, ft57, ft59, ft61, ft63, ft109, hM, tM, List.length_map, en]
  refine ⟨by omega, by omega, ?_⟩
  refine LoopK.intro (fun x w z => ∃ (k : Nat) (R : List (List AV)), x = ns.length - k ∧ k ≤ ns.length ∧ RowsW R ns k (ns.length + 3) ∧ w 1 = .op M 3 0 0 ∧ w 2 = .op (M + 1) 3 0 0 ∧ w 3 = .osl (M + 2) 7 0 ns.length (ns.length + 3) true ∧ w 4 = .int .i64 k ∧ z = h ++ [.arr 3 [[AV.int IntKind.i64 vars, .osl A 7 0 ns.length cap ex, .nils]] true, .arr 3 [[AV.int IntKind.i64 0, AV.nils, AV.nils]] true, .arr 7 R true]) ns.length ⟨0, _, rfl, by omega, RowsW.start, ?_, ?_, ?_, ?_, rfl⟩ ?_
  rotate_right
  all_goals (try (simp (maxSteps := 4000000) only [↓packA, ↓reduceIte, packB, pureOp, quietOp, loadOp, quietB, fr0, cellsK, implies_true, ite_true, ite_false, eq_self, ne_eq, reduceCtorEq, Nat.reduceLT, Nat.reduceLeDiff, Nat.reduceAdd, Nat.reduceMul, Nat.reduceBEq, Nat.reduceEqDiff, Int.reduceToNat, Int.reduceLT, Int.reduceLE, Nat.reduceSub, pl16, ft1, ft2, ft3, ft4, ft22, ft23, ft25, ft57, ft59, ft61, ft63, ft109, Int.natCast_zero]; done))
  rintro x w z ⟨k, R, rfl, hk, hW, a1, a2, a3, a4, rfl⟩
  by_cases c : k < ns.length
  · have q1 : (k : Int) < (ns.length : Int) := by omega
    obtain ⟨n, hnk⟩ : ∃ n, ns[k]? = some n := ⟨_, List.getElem?_eq_getElem c⟩
    obtain ⟨row, hrk⟩ : ∃ row, rows[k]? = some row := ⟨_, List.getElem?_eq_getElem (by omega)⟩
    obtain ⟨X, Y, erow, hX, hY⟩ := rowok_xy (hR.2 k row n hrk hnk)
    subst erow
    have hnok : n.Ok := hns n (List.mem_of_getElem? hnk)
    have hcp := copyRat_c n.neg n.num n.den hnok.num hnok.den hnok.ln hnok.ld
    have rR : R[k]? = some zrow := hW.2.2 k (Nat.le_refl _) (by omega)
    have hRl := hW.1
    have rS : ∀ e, (R.set k e)[k]? = some e := fun e => List.getElem?_set_self (by omega)
    have hst := hW.step hnk (by omega)
    simp (maxSteps := 4000000) only [↓packA, ↓reduceIte, packB, pureOp, quietOp, loadOp, quietB, fr0, cellsK, implies_true, ite_true, ite_false, eq_self, ne_eq, reduceCtorEq, Nat.reduceLT, Nat.reduceLeDiff, Nat.reduceAdd, Nat.reduceMul, Nat.reduceBEq, Nat.reduceEqDiff, Int.reduceToNat, Int.reduceLT, Int.reduceLE, Nat.reduceSub, pl16, ft1, ft2, ft3, ft4, ft22, ft23, ft25, ft57, ft59, ft61, ft63, ft109, a1, a2, a3, a4, q1, rR, rS, rA, hrk, hM, tM, List.length_map, List.set_set, zrow, patch, patch', Nat.zero_add, concA, Int.reduceAdd, Int.reduceSub, Int.reduceNeg, Int.reduceMul, Int.reduceEq, Int.reduceBEq, Int.reduceBNe]
    refine ⟨by omega, by omega, by omega, acalls_fresh hcp (.cons (frz_rat (hX _) (hY _)) .nil) fun u hx hz => ⟨_, hz, ?_⟩⟩
    simp (maxSteps := 4000000) only [↓packA, ↓reduceIte, packB, pureOp, quietOp, loadOp, quietB, fr0, cellsK, implies_true, ite_true, ite_false, eq_self, ne_eq, reduceCtorEq, Nat.reduceLT, Nat.reduceLeDiff, Nat.reduceAdd, Nat.reduceMul, Nat.reduceBEq, Nat.reduceEqDiff, Int.reduceToNat, Int.reduceLT, Int.reduceLE, Nat.reduceSub, pl16, ft1, ft2, ft3, ft4, ft22, ft23, ft25, ft57, ft59, ft61, ft63, ft109, ratV, lims, a1, a2, a3, a4, q1, rR, rS, rA, hrk, hM, tM, List.length_map, List.set_set, zrow, patch, patch', Nat.zero_add, concA, Int.reduceAdd, Int.reduceSub, Int.reduceNeg, Int.reduceMul, Int.reduceEq, Int.reduceBEq, Int.reduceBNe]
    exact ⟨by omega, by omega, .inl ⟨ns.length - (k + 1), by omega, k + 1, _, rfl, by omega, hst, by omega, rfl⟩⟩
  · have q1 : ¬ (k : Int) < (ns.length : Int) := by omega
    obtain rfl : k = ns.length := by omega
    have hRf := hW.full
    simp (maxSteps := 4000000) only [↓packA, ↓reduceIte, packB, pureOp, quietOp, loadOp, quietB, fr0, cellsK, implies_true, ite_true, ite_false, eq_self, ne_eq, reduceCtorEq, Nat.reduceLT, Nat.reduceLeDiff, Nat.reduceAdd, Nat.reduceMul, Nat.reduceBEq, Nat.reduceEqDiff, Int.reduceToNat, Int.reduceLT, Int.reduceLE, Nat.reduceSub, pl16, ft1, ft2, ft3, ft4, ft22, ft23, ft25, ft57, ft59, ft61, ft63, ft109, a1, a2, a3, a4, q1, hM, tM, List.length_map]
    refine acalls_fresh (copyInts_f [] (by decide)) (.cons (.nils 1) .nil) fun u hx hz => ⟨_, hz, ?_⟩
    simp (maxSteps := 4000000) only [↓packA, ↓reduceIte, packB, pureOp, quietOp, loadOp, quietB, fr0, cellsK, implies_true, ite_true, ite_false, eq_self, ne_eq, reduceCtorEq, Nat.reduceLT, Nat.reduceLeDiff, Nat.reduceAdd, Nat.reduceMul, Nat.reduceBEq, Nat.reduceEqDiff, Int.reduceToNat, Int.reduceLT, Int.reduceLE, Nat.reduceSub, pl16, ft1, ft2, ft3, ft4, ft22, ft23, ft25, ft57, ft59, ft61, ft63, ft109, ints, a1, a2, a3, a4, q1, hM, tM, List.map_nil, List.length_map, patch, patch', concA, Int.reduceAdd, Int.reduceSub, Int.reduceNeg, Int.reduceMul, Int.reduceEq, Int.reduceBEq, Int.reduceBNe]
    have hg1 : ∀ x y : Ob, (h ++ [x, y, Ob.arr 7 R true])[M + 2]? = some (Ob.arr 7 R true) := fun x y => gR hM _ 2
    refine ⟨_, _, .agg [.int .i64 vars, .isl 7 (ns.map Nd.cells), .isl 1 []], frozen_none (hg1 _ _) (by simp), .agg _ _ rfl fun q u u' hu hu' => ?_, hq _ (fun i hi => ?_) (by simp)⟩
    · match q with
      | 0 => simp at hu hu'; subst hu hu'; exact .same _
      | 1 =>
        simp at hu hu'; subst hu hu'
        have := Frz.flat (k := 7) (i := 0) (len := ns.length) (cap := ns.length + 3) (ex := true) (only_get (h := h ++ [Ob.arr 3 [[AV.int IntKind.i64 vars, AV.osl A 7 0 ns.length cap ex, AV.nils]] true, Ob.arr 3 [[AV.int IntKind.i64 vars, AV.osl (M + 2) 7 0 ns.length (ns.length + 3) true, AV.isl 1 []]] true, Ob.arr 7 R true]) (M := M + 2) (o := Ob.arr 7 R true) (by simp; omega)) (by rw [hRf]; simp) (fun e he => by
          rw [hRf] at he
          rcases List.mem_append.1 he with h1 | h1
          · obtain ⟨n, _, rfl⟩ := List.mem_map.1 h1; rfl
          · simp at h1; subst h1; rfl)
        rw [List.drop_zero, hRf, List.take_left' (by simp)] at this
        rw [hRf]
        exact .frz _ _ this
      | 2 => simp at hu hu'; subst hu hu'; exact .same _
      | q + 3 => simp at hu
    · rw [List.getElem?_set_ne (by omega), List.getElem?_append_left hi]
end Go.Proofs.YtclbobielhllmaaGreat
end
section
namespace Go.Proofs.YtclbobielhllmaaGreat
open Go Go.AL
set_option linter.unusedVariables false
set_option linter.unusedSimpArgs false
def bkNs (B : Nat → List (List AV)) (ns : List Nd) : Nat → List (List AV) := ns.foldl (fun B n => bkNat (bkNat B n.num) n.den) B
theorem bkNs_succ {B : Nat → List (List AV)} {ns : List Nd} {k : Nat} {n : Nd} (h : ns[k]? = some n) : bkNs B (ns.take (k + 1)) = bkNat (bkNat (bkNs B (ns.take k)) n.num) n.den := by
  unfold bkNs
  rw [List.take_add_one, h, List.foldl_append]
  rfl
theorem bkNat_len (B : Nat → List (List AV)) (l : List Int) : (bkNat B l 0).length = (B 0).length + 1 ∧ (bkNat B l 1).length = (B 1).length + 1 ∧ ∀ i, 2 ≤ i → bkNat B l i = B i := by
  refine ⟨?_, ?_, fun i hi => ?_⟩
  · unfold bkNat; rw [upB_ne (by decide), upB_same]; simp
  · unfold bkNat; rw [upB_same]; simp
  · unfold bkNat; rw [upB_ne (by omega), upB_ne (by omega)]
theorem bkNs_len (ns : List Nd) : ∀ B : Nat → List (List AV), (bkNs B ns 0).length = (B 0).length + 2 * ns.length ∧ (bkNs B ns 1).length = (B 1).length + 2 * ns.length ∧ ∀ i, 2 ≤ i → bkNs B ns i = B i := by
  induction ns with
  | nil => intro B; exact ⟨rfl, rfl, fun _ _ => rfl⟩
  | cons n ns ih =>
    intro B
    obtain ⟨h1, h2, h3⟩ := ih (bkNat (bkNat B n.num) n.den)
    obtain ⟨a1, a2, a3⟩ := bkNat_len B n.num
    obtain ⟨b1, b2, b3⟩ := bkNat_len (bkNat B n.num) n.den
    refine ⟨?_, ?_, fun i hi => ?_⟩
    · show (bkNs (bkNat (bkNat B n.num) n.den) ns 0).length = _
      rw [h1, b1, a1]; simp; omega
    · show (bkNs (bkNat (bkNat B n.num) n.den) ns 1).length = _
      rw [h2, b2, a2]; simp; omega
    · show bkNs (bkNat (bkNat B n.num) n.den) ns i = _
      rw [h3 i hi, b3 i hi, a3 i hi]
def markN (x : Int) : Nd := ⟨0, x, 0, 0, false, [], []⟩
def opM (ns : List Nd) : List Nd := ns ++ [markN (-41), markN (-42), markN (-43)]
def markR (x : Int) : List AV := [.int .i64 0, .int .i64 x, .int .i64 0, .int .i64 0, .bool false, .nils, .nils]
def bkOps (B : Nat → List (List AV)) (ns : List Nd) : Nat → List (List AV) := upB (upB B 14 (B 14 ++ [[.isl 7 ((opM ns).map Nd.cells)]])) 15 (B 15 ++ [[.isl 7 ((opM ns).map Nd.cells)]])
def bkTape (B : Nat → List (List AV)) (t : Tp) : Nat → List (List AV) := bkInts (bkOps (bkNs B t.ns) t.ns) t.outs
theorem rows_opM {ns : List Nd} : RowsOk (ns.map Nd.cells ++ [markR (-41), markR (-42), markR (-43)]) (opM ns) := by
  have h1 : ∀ x, RowOk (markR x) (markN x) := fun x => .inr ⟨rfl, rfl, rfl⟩
  have := (((RowsOk.refl (ns := ns)).snoc (h1 (-41))).snoc (h1 (-42))).snoc (h1 (-43))
  simpa [opM] using this
set_option maxHeartbeats 4000000 in
set_option maxRecDepth 100000 in
theorem gtape_c (t : Tp) (ht : t.Ok) (hn : t.ns.length < 10000000) (ho : t.outs.length < 10000000) (hnl : ∀ n, n ∈ t.ns → n.num.length < 10000000 ∧ n.den.length < 10000000) {F : Nat → Prop} {g : Nat} {h : Heap} {cs : List AV} {B : Nat → List (List AV)} (b : Bk F g h cs B) (hb : ∀ i, (B i).length < 60000000) {Q : AV → Heap → Prop}
    (hq : ∀ h' cs', Bk F g h' cs' (bkTape B t) → (∀ i, F i → h'[i]? = h[i]?) → h.length ≤ h'.length → Q t.V h') : ACalls Tryz.prog 5 [.op g 20 0 0, t.V] h Q := by
  refine acalls_freeze (wp5 rfl rfl ?_)
  have hns := ht.ns
  obtain ⟨vars, ns, outs⟩ := t
  simp only at hns hn ho hnl hq
  obtain ⟨M, hM⟩ : ∃ M, h.length = M := ⟨_, rfl⟩
  have tM := tailR hM
  have en : (ns.length : Int) + 3 = ((ns.length + 3 : Nat) : Int) := by omega
  have hgl := b.lt
  have bm : ∀ x y z : Ob, Bk (fun i => F i ∨ i = M ∨ i = M + 1 ∨ i = M + 2) g (h ++ [x, y, z]) cs B := fun x y z => b.more (by simp) (fun i hi _ => List.getElem?_append_left hi) fun i hi => by
    rcases hi with hi | hi
    · exact .inl hi
    · exact .inr ⟨by omega, by simp; omega⟩
  simp (maxSteps := 4000000) only [↓packA, ↓reduceIte, packB, pureOp, quietOp, loadOp, quietB, fr0, cellsK, implies_true, ite_true, ite_false, eq_self, ne_eq, reduceCtorEq, Nat.reduceLT, Nat.reduceLeDiff, Nat.reduceAdd, Nat.reduceMul, Nat.reduceBEq, Nat.reduceEqDiff, Int.reduceToNat, Int.reduceLT, Int.reduceLE, Nat.reduceSub, pl5, ft1, ft2, ft3, ft4, ft9, ft12, ft14, ft15, ft22, ft23, ft25, ft26, ft27, ft28, ft29, ft30, ft31, ft32, ft33, ft34, ft35, ft37, ft57, ft58, ft59, ft61, ft63, ft65, ft84, ft86, ft88, ft92, ft109, ft114, ft123, ft183, Tp.V, ints, hM, tM, List.length_map, en]
  refine ⟨by omega, by omega, ?_⟩
  refine LoopK.intro (fun x w z => ∃ (k : Nat) (R : List (List AV)) (cs' : List AV), x = ns.length - k ∧ k ≤ ns.length ∧ RowsW R ns k (ns.length + 3) ∧ Bk (fun i => F i ∨ i = M ∨ i = M + 1 ∨ i = M + 2) g z cs' (bkNs B (ns.take k)) ∧ (∀ i, F i → z[i]? = h[i]?) ∧ w 0 = .op g 20 0 0 ∧ w 3 = .op M 3 0 0 ∧ w 4 = .op (M + 1) 3 0 0 ∧ w 5 = .osl (M + 2) 7 0 ns.length (ns.length + 3) true ∧ w 6 = .int .i64 k ∧ z[M]? = some (.arr 3 [[AV.int IntKind.i64 vars, AV.isl 7 (List.map Nd.cells ns), AV.isl 1 (List.map intE outs)]] true) ∧ z[M + 1]? = some (.arr 3 [[AV.int IntKind.i64 0, AV.nils, AV.nils]] true) ∧ z[M + 2]? = some (.arr 7 R true)) ns.length ⟨0, _, cs, rfl, by omega, RowsW.start, bm _ _ _, fun i hi => List.getElem?_append_left (b.fix i hi), ?_, ?_, ?_, ?_, ?_, tM.1 _, tM.2.1 _ 1, tM.2.1 _ 2⟩ ?_
  rotate_right
  all_goals (try (simp (maxSteps := 4000000) only [↓packA, ↓reduceIte, packB, pureOp, quietOp, loadOp, quietB, fr0, cellsK, implies_true, ite_true, ite_false, eq_self, ne_eq, reduceCtorEq, Nat.reduceLT, Nat.reduceLeDiff, Nat.reduceAdd, Nat.reduceMul, Nat.reduceBEq, Nat.reduceEqDiff, Int.reduceToNat, Int.reduceLT, Int.reduceLE, Nat.reduceSub, pl5, ft1, ft2, ft3, ft4, ft9, ft12, ft14, ft15, ft22, ft23, ft25, ft26, ft27, ft28, ft29, ft30, ft31, ft32, ft33, ft34, ft35, ft37, ft57, ft58, ft59, ft61, ft63, ft65, ft84, ft86, ft88, ft92, ft109, ft114, ft123, ft183, Int.natCast_zero]; done))
  rintro x w z ⟨k, R, cs', rfl, hk, hW, hB, hF, a0, a3, a4, a5, a6, z0, z1, z2⟩
  have hzl : M + 2 < z.length := (List.getElem?_eq_some_iff.1 z2).1
  have hBl := bkNs_len (ns.take k) B
  have hb0 := hb 0
  have hb1 := hb 1
  by_cases c : k < ns.length
  · have q1 : (k : Int) < (ns.length : Int) := by omega
    obtain ⟨n, hnk⟩ : ∃ n, ns[k]? = some n := ⟨_, List.getElem?_eq_getElem c⟩
    have rk : (List.map Nd.cells ns)[k]? = some (Nd.cells n) := by rw [List.getElem?_map, hnk]; rfl
    have hnok : n.Ok := hns n (List.mem_of_getElem? hnk)
    have hnn := hnl n (List.mem_of_getElem? hnk)
    have rR : R[k]? = some zrow := hW.2.2 k (Nat.le_refl _) (by omega)
    have hRl := hW.1
    have rS : ∀ e, (R.set k e)[k]? = some e := fun e => List.getElem?_set_self (by omega)
    have hst := hW.step hnk (by omega)
    have y0 : ∀ o, (z.set (M + 2) o)[M]? = some (.arr 3 [[AV.int IntKind.i64 vars, AV.isl 7 (List.map Nd.cells ns), AV.isl 1 (List.map intE outs)]] true) := fun o => by rw [List.getElem?_set_ne (by omega)]; exact z0
    have y2 : ∀ o, (z.set (M + 2) o)[M + 2]? = some o := fun o => List.getElem?_set_self hzl
    simp (maxSteps := 4000000) only [↓packA, ↓reduceIte, packB, pureOp, quietOp, loadOp, quietB, fr0, cellsK, implies_true, ite_true, ite_false, eq_self, ne_eq, reduceCtorEq, Nat.reduceLT, Nat.reduceLeDiff, Nat.reduceAdd, Nat.reduceMul, Nat.reduceBEq, Nat.reduceEqDiff, Int.reduceToNat, Int.reduceLT, Int.reduceLE, Nat.reduceSub, pl5, ft1, ft2, ft3, ft4, ft9, ft12, ft14, ft15, ft22, ft23, ft25, ft26, ft27, ft28, ft29, ft30, ft31, ft32, ft33, ft34, ft35, ft37, ft57, ft58, ft59, ft61, ft63, ft65, ft84, ft86, ft88, ft92, ft109, ft114, ft123, ft183, a0, a3, a4, a5, a6, q1, rk, rR, rS, z0, z1, z2, y0, y2, List.length_map, zrow, Nd.cells, patch, patch', Nat.zero_add, concA, Int.reduceAdd, Int.reduceSub, Int.reduceNeg, Int.reduceMul, Int.reduceEq, Int.reduceBEq, Int.reduceBNe]
    refine ⟨by omega, by omega, by omega, ?_⟩
    refine grat_c n.neg n.num n.den hnok.num hnok.den hnn.1 hnn.2 (hB.set (.inr (.inr (.inr rfl))) _) (by rw [hBl.1, List.length_take]; omega) (by rw [hBl.2.1, List.length_take]; omega) fun h1 cs1 b1 hF1 hl1 => ?_
    rw [← bkNs_succ hnk] at b1
    have y0' : h1[M]? = some (.arr 3 [[AV.int IntKind.i64 vars, AV.isl 7 (List.map Nd.cells ns), AV.isl 1 (List.map intE outs)]] true) := by rw [hF1 M (.inr (.inl rfl))]; exact y0 _
    have y1' : h1[M + 1]? = some (.arr 3 [[AV.int IntKind.i64 0, AV.nils, AV.nils]] true) := by rw [hF1 (M + 1) (.inr (.inr (.inl rfl))), List.getElem?_set_ne (by omega)]; exact z1
    have y2' := (hF1 (M + 2) (.inr (.inr (.inr rfl)))).trans (y2 _)
    rw [List.length_set] at hl1
    simp (maxSteps := 4000000) only [↓packA, ↓reduceIte, packB, pureOp, quietOp, loadOp, quietB, fr0, cellsK, implies_true, ite_true, ite_false, eq_self, ne_eq, reduceCtorEq, Nat.reduceLT, Nat.reduceLeDiff, Nat.reduceAdd, Nat.reduceMul, Nat.reduceBEq, Nat.reduceEqDiff, Int.reduceToNat, Int.reduceLT, Int.reduceLE, Nat.reduceSub, pl5, ft1, ft2, ft3, ft4, ft9, ft12, ft14, ft15, ft22, ft23, ft25, ft26, ft27, ft28, ft29, ft30, ft31, ft32, ft33, ft34, ft35, ft37, ft57, ft58, ft59, ft61, ft63, ft65, ft84, ft86, ft88, ft92, ft109, ft114, ft123, ft183, ratV, lims, a0, a3, a4, a5, a6, q1, rk, rR, rS, y0', y1', y2', List.length_map, List.set_set, zrow, Nd.cells, patch, patch', Nat.zero_add, concA, Int.reduceAdd, Int.reduceSub, Int.reduceNeg, Int.reduceMul, Int.reduceEq, Int.reduceBEq, Int.reduceBNe]
    refine ⟨by omega, by omega, .inl ⟨ns.length - (k + 1), by omega, k + 1, _, cs1, rfl, by omega, hst, b1.set (.inr (.inr (.inr rfl))) _, fun i hi => ?_, by omega, ?_, ?_, ?_⟩⟩
    · have := b.fix i hi
      rw [List.getElem?_set_ne (by omega), hF1 i (.inl hi), List.getElem?_set_ne (by omega), hF i hi]
    · rw [List.getElem?_set_ne (by omega)]; exact y0'
    · rw [List.getElem?_set_ne (by omega)]; exact y1'
    · rw [List.getElem?_set_self (by omega)]; rfl
  · have q1 : ¬ (k : Int) < (ns.length : Int) := by omega
    obtain rfl : k = ns.length := by omega
    have hRf := hW.full
    subst hRf
    rw [List.take_length] at hB hBl
    obtain ⟨N, hN⟩ : ∃ N, z.length = N := ⟨_, rfl⟩
    have tN := tailR hN
    have x0 : ∀ t, (z ++ t)[M]? = some (.arr 3 [[AV.int IntKind.i64 vars, AV.isl 7 (List.map Nd.cells ns), AV.isl 1 (List.map intE outs)]] true) := fun t => by rw [List.getElem?_append_left (by omega)]; exact z0
    have x2 : ∀ t, (z ++ t)[M + 2]? = some (.arr 7 (List.map Nd.cells ns ++ [zrow, zrow, zrow]) true) := fun t => by rw [List.getElem?_append_left (by omega)]; exact z2
    have s2 : ∀ t o, (z ++ t).set (M + 2) o = z.set (M + 2) o ++ t := fun t o => List.set_append_left _ _ (by omega)
    have eR : ∀ a b c : List AV, List.take ns.length (List.map Nd.cells ns ++ [zrow, zrow, zrow]) ++ [a, b, c] ++ List.drop (ns.length + 3) (List.map Nd.cells ns ++ [zrow, zrow, zrow]) = List.map Nd.cells ns ++ [a, b, c] := fun a b c => by
      rw [List.take_left' (by simp), List.drop_of_length_le (by simp), List.append_nil]
    obtain ⟨ev, hg⟩ := hB.obj
    have hgz : g < z.length := hB.lt
    have xg : ∀ o t, (z.set (M + 2) o ++ t)[g]? = some (.arr 20 [cs'] ev) := fun o t => by rw [List.getElem?_append_left (by simpa using hgz), List.getElem?_set_ne (by omega)]; exact hg
    obtain ⟨c14, hc14⟩ := hB.get (j := 14) (by decide)
    have n0 : ∀ o t, (z.set (M + 2) o ++ t)[N]? = t[0]? := fun o t => gR0 (by simpa using hN) t
    have n1 : ∀ o t j, (z.set (M + 2) o ++ t)[N + j]? = t[j]? := fun o t j => gR (by simpa using hN) t j
    simp (maxSteps := 4000000) only [↓packA, ↓reduceIte, packB, pureOp, quietOp, loadOp, quietB, fr0, cellsK, implies_true, ite_true, ite_false, eq_self, ne_eq, reduceCtorEq, Nat.reduceLT, Nat.reduceLeDiff, Nat.reduceAdd, Nat.reduceMul, Nat.reduceBEq, Nat.reduceEqDiff, Int.reduceToNat, Int.reduceLT, Int.reduceLE, Nat.reduceSub, pl5, ft1, ft2, ft3, ft4, ft9, ft12, ft14, ft15, ft22, ft23, ft25, ft26, ft27, ft28, ft29, ft30, ft31, ft32, ft33, ft34, ft35, ft37, ft57, ft58, ft59, ft61, ft63, ft65, ft84, ft86, ft88, ft92, ft109, ft114, ft123, ft183, a0, a3, a4, a5, a6, q1, z0, z1, z2, hN, tN, n0, n1, x0, x2, s2, eR, xg, hc14, List.length_map, patch, patch', concA, Int.reduceAdd, Int.reduceSub, Int.reduceNeg, Int.reduceMul, Int.reduceEq, Int.reduceBEq, Int.reduceBNe]
    refine ⟨by omega, by omega, ?_⟩
    refine ((hB.set (.inr (.inr (.inr rfl))) _).app _).push hc14 rfl rfl (by rw [hBl.2.2 14 (by omega)]; have := hb 14; omega) fun c1 h1 ⟨_, _, _, _, ec1⟩ hg1 hb1' hF1 hl1 => ?_
    subst ec1
    have b1 := hb1' ev
    rw [hBl.2.2 14 (by omega)] at b1
    have hg1' : h1[g]? = some (.arr 20 [cs'] ev) := by rw [hg1]; exact xg _ _
    simp only [List.length_append, List.length_set] at hl1
    have hgl1 : g < h1.length := by omega
    have hcl : 14 + 1 ≤ cs'.length := by rw [hB.len]; decide
    have hgM : g ≠ M + 2 := by omega
    have hM1 : h1[M + 2]? = some (.arr 7 (List.map Nd.cells ns ++ [markR (-41), markR (-42), markR (-43)]) true) := by rw [hF1 (M + 2) (.inr (.inr (.inr rfl))), List.getElem?_append_left (by simpa using hzl), List.getElem?_set_self hzl]; rfl
    have hM0 : h1[M]? = some (.arr 3 [[AV.int IntKind.i64 vars, AV.isl 7 (List.map Nd.cells ns), AV.isl 1 (List.map intE outs)]] true) := by rw [hF1 M (.inr (.inl rfl)), List.getElem?_append_left (by simp; omega), List.getElem?_set_ne (by omega)]; exact z0
    have hMy : h1[M + 1]? = some (.arr 3 [[AV.int IntKind.i64 0, AV.nils, AV.nils]] true) := by rw [hF1 (M + 1) (.inr (.inr (.inl rfl))), List.getElem?_append_left (by simp; omega), List.getElem?_set_ne (by omega)]; exact z1
    have hFh1 : ∀ i, F i → h1[i]? = h[i]? := fun i hi => by
      have := b.fix i hi
      rw [hF1 i (.inl hi), List.getElem?_append_left (by simp; omega), List.getElem?_set_ne (by omega), hF i hi]
    have sg : ∀ o, (h1.set g o)[g]? = some o := fun o => List.getElem?_set_self hgl1
    obtain ⟨c15, hc15⟩ := hB.get (j := 15) (by decide)
    have hc15' : ∀ x, (cs'.set 14 x)[15]? = some c15 := fun x => by rw [List.getElem?_set_ne (by decide)]; exact hc15
    simp (maxSteps := 4000000) only [↓packA, ↓reduceIte, packB, pureOp, quietOp, loadOp, quietB, fr0, cellsK, implies_true, ite_true, ite_false, eq_self, ne_eq, reduceCtorEq, Nat.reduceLT, Nat.reduceLeDiff, Nat.reduceAdd, Nat.reduceMul, Nat.reduceBEq, Nat.reduceEqDiff, Int.reduceToNat, Int.reduceLT, Int.reduceLE, Nat.reduceSub, pl5, ft1, ft2, ft3, ft4, ft9, ft12, ft14, ft15, ft22, ft23, ft25, ft26, ft27, ft28, ft29, ft30, ft31, ft32, ft33, ft34, ft35, ft37, ft57, ft58, ft59, ft61, ft63, ft65, ft84, ft86, ft88, ft92, ft109, ft114, ft123, ft183, a0, a3, a4, hg1', hc14, sg, hc15', hcl, List.length_map, patch, patch', concA, Int.reduceAdd, Int.reduceSub, Int.reduceNeg, Int.reduceMul, Int.reduceEq, Int.reduceBEq, Int.reduceBNe]
    generalize hcs2 : cs'.set 14 _ = cs2 at *
    generalize hh2 : h1.set g _ = h2 at *
    have hM2 : h2[M + 2]? = some (.arr 7 (List.map Nd.cells ns ++ [markR (-41), markR (-42), markR (-43)]) true) := by rw [← hh2, List.getElem?_set_ne hgM]; exact hM1
    have hgF : ∀ i, (F i ∨ i = M ∨ i = M + 1 ∨ i = M + 2) → h2[i]? = h1[i]? := fun i hi => by rw [← hh2, List.getElem?_set_ne (fun e => hB.ng (by rw [e]; exact hi))]
    have hl2 : h2.length = h1.length := by rw [← hh2]; simp
    have hg2 : h2[g]? = some (.arr 20 [cs2] ev) := by rw [← hh2]; exact sg _
    have hc2 : cs2[15]? = some c15 := by rw [← hcs2]; exact hc15' _
    have el : (opM ns).length = ns.length + 3 := by simp [opM]
    have hok : ∀ n, n ∈ opM ns → n.Ok := fun n hm => by
      rcases List.mem_append.1 hm with h1 | h1
      · exact hns n h1
      · have h0 : ∀ x, (markN x).Ok := fun x => ⟨LI.nil, LI.nil, (by decide : 0 < 100000000), (by decide : 0 < 100000000)⟩
        simp at h1
        rcases h1 with rfl | rfl | rfl <;> exact h0 _
    have hco := fun Q => copyTapeO_c 0 (opM ns) hok (by omega) (cap := ns.length + 3) (ex := true) hM2 rows_opM (Q := Q)
    rw [el] at hco
    refine hco _ fun h3 hH3 hl3 => ?_
    clear hco
    have hg3 : h3[g]? = some (.arr 20 [cs2] ev) := by rw [hH3 g (by omega)]; exact hg2
    have hM3 : h3[M + 2]? = some (.arr 7 (List.map Nd.cells ns ++ [markR (-41), markR (-42), markR (-43)]) true) := by rw [hH3 (M + 2) (by omega)]; exact hM2
    have b3 := b1.keep hl3 fun i hi _ => hH3 i hi
    obtain ⟨N3, hN3⟩ : ∃ N3, h3.length = N3 := ⟨_, rfl⟩
    have tN3 := tailR hN3
    have rg3 : ∀ t, (h3 ++ t)[g]? = some (.arr 20 [cs2] ev) := fun t => by rw [List.getElem?_append_left (by omega)]; exact hg3
    simp (maxSteps := 4000000) only [↓packA, ↓reduceIte, packB, pureOp, quietOp, loadOp, quietB, fr0, cellsK, implies_true, ite_true, ite_false, eq_self, ne_eq, reduceCtorEq, Nat.reduceLT, Nat.reduceLeDiff, Nat.reduceAdd, Nat.reduceMul, Nat.reduceBEq, Nat.reduceEqDiff, Int.reduceToNat, Int.reduceLT, Int.reduceLE, Nat.reduceSub, pl5, ft1, ft2, ft3, ft4, ft9, ft12, ft14, ft15, ft22, ft23, ft25, ft26, ft27, ft28, ft29, ft30, ft31, ft32, ft33, ft34, ft35, ft37, ft57, ft58, ft59, ft61, ft63, ft65, ft84, ft86, ft88, ft92, ft109, ft114, ft123, ft183, a0, a3, a4, hN3, tN3, hg3, rg3, hc2, List.length_map, patch, patch', concA, Int.reduceAdd, Int.reduceSub, Int.reduceNeg, Int.reduceMul, Int.reduceEq, Int.reduceBEq, Int.reduceBNe]
    have e15 : upB (bkNs B ns) 14 (B 14 ++ [[AV.osl (M + 2) 7 0 (ns.length + 3) (ns.length + 3) true]]) 15 = B 15 := by rw [upB_ne (by decide), hBl.2.2 15 (by omega)]
    refine (b3.app _).push hc2 rfl rfl (by rw [e15]; have := hb 15; omega) fun c4 h4 ⟨_, _, _, _, ec4⟩ hg4 hb4' hF4 hl4 => ?_
    subst ec4
    have b4 := hb4' ev
    rw [e15] at b4
    have hg4' : h4[g]? = some (.arr 20 [cs2] ev) := by rw [hg4]; exact rg3 _
    simp only [List.length_append] at hl4
    have hgl4 : g < h4.length := by omega
    have hcl2 : 15 + 1 ≤ cs2.length := by rw [← hcs2, List.length_set, hB.len]; decide
    have sg4 : ∀ o, (h4.set g o)[g]? = some o := fun o => List.getElem?_set_self hgl4
    have hF4' : ∀ i, (F i ∨ i = M ∨ i = M + 1 ∨ i = M + 2) → ∀ o, (h4.set g o)[i]? = h1[i]? := fun i hi o => by
      have hil : i < h2.length := by rw [hl2]; have := hB.fix i hi; omega
      rw [List.getElem?_set_ne (fun e => hB.ng (by rw [e]; exact hi)), hF4 i hi, List.getElem?_append_left (by omega), hH3 i hil, hgF i hi]
    have e40 := fun o => (hF4' M (.inr (.inl rfl)) o).trans hM0
    have e41 := fun o => (hF4' (M + 1) (.inr (.inr (.inl rfl))) o).trans hMy
    have e42 := fun o => (hF4' (M + 2) (.inr (.inr (.inr rfl))) o).trans hM1
    simp (maxSteps := 4000000) only [↓packA, ↓reduceIte, packB, pureOp, quietOp, loadOp, quietB, fr0, cellsK, implies_true, ite_true, ite_false, eq_self, ne_eq, reduceCtorEq, Nat.reduceLT, Nat.reduceLeDiff, Nat.reduceAdd, Nat.reduceMul, Nat.reduceBEq, Nat.reduceEqDiff, Int.reduceToNat, Int.reduceLT, Int.reduceLE, Nat.reduceSub, pl5, ft1, ft2, ft3, ft4, ft9, ft12, ft14, ft15, ft22, ft23, ft25, ft26, ft27, ft28, ft29, ft30, ft31, ft32, ft33, ft34, ft35, ft37, ft57, ft58, ft59, ft61, ft63, ft65, ft84, ft86, ft88, ft92, ft109, ft114, ft123, ft183, a0, a3, a4, hg4', sg4, hc2, hcl2, e40, e41, e42, List.length_map, patch, patch', concA, Int.reduceAdd, Int.reduceSub, Int.reduceNeg, Int.reduceMul, Int.reduceEq, Int.reduceBEq, Int.reduceBNe]
    refine ⟨by omega, by omega, ?_⟩
    have e4 : upB (upB (bkNs B ns) 14 (B 14 ++ [[AV.osl (M + 2) 7 0 (ns.length + 3) (ns.length + 3) true]])) 15 (B 15 ++ [[.isl 7 ((opM ns).map Nd.cells)]]) 4 = B 4 := by rw [upB_ne (by decide), upB_ne (by decide), hBl.2.2 4 (by omega)]
    have e5 : upB (upB (bkNs B ns) 14 (B 14 ++ [[AV.osl (M + 2) 7 0 (ns.length + 3) (ns.length + 3) true]])) 15 (B 15 ++ [[.isl 7 ((opM ns).map Nd.cells)]]) 5 = B 5 := by rw [upB_ne (by decide), upB_ne (by decide), hBl.2.2 5 (by omega)]
    refine gints_c outs ho b4 (by rw [e4]; have := hb 4; omega) (by rw [e5]; have := hb 5; omega) fun h5 cs5 b5 hF5 hl5 => ?_
    rw [List.length_set] at hl5
    have f50 := (hF5 M (.inr (.inl rfl))).trans (e40 _)
    have f51 := (hF5 (M + 1) (.inr (.inr (.inl rfl)))).trans (e41 _)
    have f52 := (hF5 (M + 2) (.inr (.inr (.inr rfl)))).trans (e42 _)
    have s51 : ∀ o, (h5.set (M + 1) o)[M + 1]? = some o := fun o => List.getElem?_set_self (by omega)
    simp (maxSteps := 4000000) only [↓packA, ↓reduceIte, packB, pureOp, quietOp, loadOp, quietB, fr0, cellsK, implies_true, ite_true, ite_false, eq_self, ne_eq, reduceCtorEq, Nat.reduceLT, Nat.reduceLeDiff, Nat.reduceAdd, Nat.reduceMul, Nat.reduceBEq, Nat.reduceEqDiff, Int.reduceToNat, Int.reduceLT, Int.reduceLE, Nat.reduceSub, pl5, ft1, ft2, ft3, ft4, ft9, ft12, ft14, ft15, ft22, ft23, ft25, ft26, ft27, ft28, ft29, ft30, ft31, ft32, ft33, ft34, ft35, ft37, ft57, ft58, ft59, ft61, ft63, ft65, ft84, ft86, ft88, ft92, ft109, ft114, ft123, ft183, a0, a3, a4, f50, f51, f52, s51, ints, List.length_map, patch, patch', concA, Int.reduceAdd, Int.reduceSub, Int.reduceNeg, Int.reduceMul, Int.reduceEq, Int.reduceBEq, Int.reduceBNe]
    generalize hh6 : h5.set (M + 1) _ = h6 at *
    have f62 : h6[M + 2]? = some (.arr 7 (List.map Nd.cells ns ++ [markR (-41), markR (-42), markR (-43)]) true) := by rw [← hh6, List.getElem?_set_ne (by omega)]; exact f52
    have hMl6 := (List.getElem?_eq_some_iff.1 f62).1
    have b6 := b5.set (i := M + 1) (.inr (.inr (.inl rfl))) (.arr 3 [[AV.int IntKind.i64 vars, AV.osl (M + 2) 7 0 ns.length (ns.length + 3) true, AV.isl 1 (List.map intE outs)]] true)
    rw [hh6] at b6
    have fr : ∀ len cap ex rows', len ≤ ns.length + 3 → rows' = ((opM ns).map Nd.cells).take len → Frz ((List.replicate h6.length Ob.dead).set (M + 2) (.arr 7 (List.map Nd.cells ns ++ [markR (-41), markR (-42), markR (-43)]) true)) (.osl (M + 2) 7 0 len cap ex) (.isl 7 rows') := fun len cap ex rows' hle he => by
      have hro := rows_opM (ns := ns)
      subst he
      have key : ∀ (j : Nat) (e e' : List AV), (List.map Nd.cells ns ++ [markR (-41), markR (-42), markR (-43)])[0 + j]? = some e → (((opM ns).map Nd.cells).take len)[j]? = some e' → ∃ n, e' = Nd.cells n ∧ RowOk e n := fun j e e' h1 h2 => by
        rw [List.getElem?_take] at h2
        split at h2
        · rw [List.getElem?_map] at h2
          cases hx : (opM ns)[j]? with
          | none => rw [hx] at h2; cases h2
          | some n =>
            rw [hx] at h2
            rw [Nat.zero_add] at h1
            exact ⟨n, (Option.some.inj h2).symm, hro.2 j e n h1 hx⟩
        · cases h2
      refine .osl (M + 2) 7 0 len cap ex true _ _ (only_get hMl6) (by simp; omega) (by simp [el]; omega) (fun j e e' h1 h2 => ?_) (fun j e e' q u u' h1 h2 => ?_)
      · obtain ⟨n, rfl, hr⟩ := key j e e' h1 h2
        exact (rowok_frz (h := []) hr).1
      · obtain ⟨n, rfl, hr⟩ := key j e e' h1 h2
        exact (rowok_frz hr).2 q u u'
    obtain ⟨hK, g1, g2, g3, g4⟩ := b6.freeze (j := 14) (by decide) (R := B 14) (by unfold bkInts; rw [upB_ne (by decide), upB_ne (by decide), upB_ne (by decide), upB_same]) f62 (by simp) (.inr (.inr (.inr rfl))) (u' := .isl 7 ((opM ns).map Nd.cells)) (fr _ _ _ _ (Nat.le_refl _) (by rw [List.take_of_length_le (by simp [el])]))
    refine ⟨_, hK, Tp.V ⟨vars, ns, outs⟩, g1, .agg _ _ rfl fun q u u' hu hu' => ?_, hq hK cs5 ?_ (fun i hi => ?_) ?_⟩
    · match q with
      | 0 => simp at hu hu'; subst hu hu'; exact .same _
      | 1 => simp at hu hu'; subst hu hu'; exact .frz _ _ (fr _ _ _ _ (by omega) (by rw [opM, List.map_append, List.take_left' (by simp)]))
      | 2 => simp at hu hu'; subst hu hu'; exact .same _
      | q + 3 => simp at hu
    · have e : upB (bkInts (upB (upB (bkNs B ns) 14 (B 14 ++ [[AV.osl (M + 2) 7 0 (ns.length + 3) (ns.length + 3) true]])) 15 (B 15 ++ [[.isl 7 ((opM ns).map Nd.cells)]])) outs) 14 (B 14 ++ [[.isl 7 ((opM ns).map Nd.cells)]]) = bkTape B ⟨vars, ns, outs⟩ := by
        funext q
        simp only [bkTape, bkInts, bkOps, upB, hBl.2.2 14 (by omega), hBl.2.2 15 (by omega)]
        by_cases h14 : q = 14
        · subst h14; simp
        · simp [h14]
      rw [e] at g2
      exact g2.less fun i hi => ⟨.inl hi, fun e => by have := b.fix i hi; omega⟩
    · have := b.fix i hi
      rw [g3 i (.inl hi) (by omega), ← hh6, List.getElem?_set_ne (by omega), hF5 i (.inl hi), hF4' i (.inl hi), hFh1 i hi]
    · rw [g4, ← hh6, List.length_set]
      omega
end Go.Proofs.YtclbobielhllmaaGreat
end
section
namespace Go.Proofs.YtclbobielhllmaaGreat
open Go Go.AL
set_option linter.unusedVariables false
set_option linter.unusedSimpArgs false
structure BkI (B : Nat → List (List AV)) : Prop where
  e0 : B 1 = B 0
  r0 : ∀ row, row ∈ B 0 → ∃ l, row = [lims l] ∧ l.length < 100000000
  e4 : B 5 = B 4
  r4 : ∀ row, row ∈ B 4 → ∃ l, row = [ints l] ∧ l.length < 100000000
  e14 : B 15 = B 14
  r14 : ∀ row, row ∈ B 14 → ∃ ns : List Nd, row = [.isl 7 (ns.map Nd.cells)] ∧ (∀ n, n ∈ ns → n.Ok) ∧ ns.length < 100000000
  z : ∀ j, 2 ≤ j → j ≠ 4 → j ≠ 5 → j ≠ 14 → j ≠ 15 → B j = []
  sm : ∀ j, (B j).length < 100000000
theorem ol_len {F : Nat → Prop} {k : Nat} {h : Heap} {c : AV} {rows : List (List AV)} (o : OL F k h c rows) : ∀ (t : TypeId) (K : AV → Prop), lenK Tryz.prog t c K = ((telem Tryz.prog t).isSome = true ∧ K (.int .i64 rows.length)) := by
  intro t K
  rcases o with ⟨rfl, rfl⟩ | ⟨id, cap, ex, rest, ex', rfl, h1⟩
  · rw [lenK_nils]; rfl
  · rw [lenK_osl]
theorem ol_row {F : Nat → Prop} {k : Nat} {h : Heap} {c : AV} {rows : List (List AV)} {i : Nat} {e : List AV} (o : OL F k h c rows) (he : rows[i]? = some e) : ∃ (id cap : Nat) (ex ex' : Bool) (es : List (List AV)), c = .osl id k 0 rows.length cap ex ∧ h[id]? = some (.arr k es ex') ∧ es[i]? = some e := by
  have hl := (List.getElem?_eq_some_iff.1 he).1
  rcases o with ⟨rfl, rfl⟩ | ⟨id, cap, ex, rest, ex', rfl, h1, h2, h3⟩
  · simp at hl
  · exact ⟨id, cap, ex, ex', _, rfl, h2, by rw [List.getElem?_append_left hl]; exact he⟩
set_option maxHeartbeats 4000000 in
set_option maxRecDepth 100000 in
theorem whole_c {F : Nat → Prop} {g : Nat} {h : Heap} {cs : List AV} {B : Nat → List (List AV)} (b : Bk F g h cs B) (bi : BkI B) {Q : AV → Heap → Prop} (hq : Q (.bool true) h) : ACalls Tryz.prog 33 [.op g 20 0 0] h Q := by
  refine wp33 rfl rfl ?_
  obtain ⟨ev, hg⟩ := b.obj
  obtain ⟨c12, hc12⟩ := b.get (j := 12) (by decide)
  obtain ⟨c14, hc14⟩ := b.get (j := 14) (by decide)
  obtain ⟨c15, hc15⟩ := b.get (j := 15) (by decide)
  obtain ⟨c16, hc16⟩ := b.get (j := 16) (by decide)
  obtain ⟨c18, hc18⟩ := b.get (j := 18) (by decide)
  have o14 := b.ol 14 c14 hc14
  have o15 := b.ol 15 c15 hc15
  rw [bi.e14] at o15
  have l12 := ol_len (b.ol 12 c12 hc12)
  have l14 := ol_len o14
  have l16 := ol_len (b.ol 16 c16 hc16)
  have l18 := ol_len (b.ol 18 c18 hc18)
  rw [bi.z 12 (by omega) (by omega) (by omega) (by omega) (by omega)] at l12
  rw [bi.z 16 (by omega) (by omega) (by omega) (by omega) (by omega)] at l16
  rw [bi.z 18 (by omega) (by omega) (by omega) (by omega) (by omega)] at l18
  have hs := bi.sm 14
  simp (maxSteps := 4000000) only [↓packA, ↓reduceIte, packB, pureOp, quietOp, loadOp, quietB, fr0, cellsK, implies_true, ite_true, ite_false, eq_self, ne_eq, reduceCtorEq, Nat.reduceLT, Nat.reduceLeDiff, Nat.reduceAdd, Nat.reduceMul, Nat.reduceBEq, Nat.reduceEqDiff, Int.reduceToNat, Int.reduceLT, Int.reduceLE, Nat.reduceSub, pl33, ft3, ft4, ft9, ft12, ft13, ft14, ft15, ft16, ft17, ft18, ft19, ft22, ft23, ft25, ft26, ft27, ft28, ft29, ft30, ft31, ft32, ft33, ft34, ft35, ft37, ft58, ft63, ft84, ft86, ft88, ft92, ft94, ft100, ft114, ft117, ft119, ft120, ft121, ft123, ft138, ft140, ft143, ft183, ft186, ft195, hg, hc12, l12, concA, Int.reduceAdd, Int.reduceSub, Int.reduceNeg, Int.reduceMul, Int.reduceEq, Int.reduceBEq, Int.reduceBNe]
  refine LoopN.loop 1 ?_
  simp (maxSteps := 4000000) only [↓packA, ↓reduceIte, packB, pureOp, quietOp, loadOp, quietB, fr0, cellsK, implies_true, ite_true, ite_false, eq_self, ne_eq, reduceCtorEq, Nat.reduceLT, Nat.reduceLeDiff, Nat.reduceAdd, Nat.reduceMul, Nat.reduceBEq, Nat.reduceEqDiff, Int.reduceToNat, Int.reduceLT, Int.reduceLE, Nat.reduceSub, pl33, ft3, ft4, ft9, ft12, ft13, ft14, ft15, ft16, ft17, ft18, ft19, ft22, ft23, ft25, ft26, ft27, ft28, ft29, ft30, ft31, ft32, ft33, ft34, ft35, ft37, ft58, ft63, ft84, ft86, ft88, ft92, ft94, ft100, ft114, ft117, ft119, ft120, ft121, ft123, ft138, ft140, ft143, ft183, ft186, ft195, hg, hc12, l12, ↓LoopN_succ, concA, Int.reduceAdd, Int.reduceSub, Int.reduceNeg, Int.reduceMul, Int.reduceEq, Int.reduceBEq, Int.reduceBNe]
  refine LoopK.intro (fun m w z => ∃ i : Nat, m = (B 14).length - i ∧ i ≤ (B 14).length ∧ w 0 = .op g 20 0 0 ∧ w 4 = .int .i64 i ∧ z = h) (B 14).length ⟨0, rfl, Nat.zero_le _, ?_, ?_, rfl⟩ ?_
  · simp (maxSteps := 4000000) only [↓packA, ↓reduceIte, packB, pureOp, quietOp, loadOp, quietB, fr0, cellsK, implies_true, ite_true, ite_false, eq_self, ne_eq, reduceCtorEq, Nat.reduceLT, Nat.reduceLeDiff, Nat.reduceAdd, Nat.reduceMul, Nat.reduceBEq, Nat.reduceEqDiff, Int.reduceToNat, Int.reduceLT, Int.reduceLE, Nat.reduceSub, pl33, ft3, ft4, ft9, ft12, ft13, ft14, ft15, ft16, ft17, ft18, ft19, ft22, ft23, ft25, ft26, ft27, ft28, ft29, ft30, ft31, ft32, ft33, ft34, ft35, ft37, ft58, ft63, ft84, ft86, ft88, ft92, ft94, ft100, ft114, ft117, ft119, ft120, ft121, ft123, ft138, ft140, ft143, ft183, ft186, ft195]
  · simp (maxSteps := 4000000) only [↓packA, ↓reduceIte, packB, pureOp, quietOp, loadOp, quietB, fr0, cellsK, implies_true, ite_true, ite_false, eq_self, ne_eq, reduceCtorEq, Nat.reduceLT, Nat.reduceLeDiff, Nat.reduceAdd, Nat.reduceMul, Nat.reduceBEq, Nat.reduceEqDiff, Int.reduceToNat, Int.reduceLT, Int.reduceLE, Nat.reduceSub, pl33, ft3, ft4, ft9, ft12, ft13, ft14, ft15, ft16, ft17, ft18, ft19, ft22, ft23, ft25, ft26, ft27, ft28, ft29, ft30, ft31, ft32, ft33, ft34, ft35, ft37, ft58, ft63, ft84, ft86, ft88, ft92, ft94, ft100, ft114, ft117, ft119, ft120, ft121, ft123, ft138, ft140, ft143, ft183, ft186, ft195, Int.natCast_zero]
  rintro m w z ⟨i, rfl, hi, a0, a4, rfl⟩
  by_cases c : i < (B 14).length
  · have q1 : (i : Int) < ((B 14).length : Int) := by omega
    obtain ⟨row, hrow⟩ : ∃ row, (B 14)[i]? = some row := ⟨_, List.getElem?_eq_getElem c⟩
    obtain ⟨ns, rfl, hok, hnl⟩ := bi.r14 row (List.mem_of_getElem? hrow)
    obtain ⟨id1, cap1, ex1, ex1', es1, rfl, ho1, he1⟩ := ol_row o14 hrow
    obtain ⟨id2, cap2, ex2, ex2', es2, rfl, ho2, he2⟩ := ol_row o15 hrow
    have hsame := sameTape_c ⟨0, ns, []⟩ ⟨hok⟩ hnl (by simp)
    simp (maxSteps := 4000000) only [↓packA, ↓reduceIte, packB, pureOp, quietOp, loadOp, quietB, fr0, cellsK, implies_true, ite_true, ite_false, eq_self, ne_eq, reduceCtorEq, Nat.reduceLT, Nat.reduceLeDiff, Nat.reduceAdd, Nat.reduceMul, Nat.reduceBEq, Nat.reduceEqDiff, Int.reduceToNat, Int.reduceLT, Int.reduceLE, Nat.reduceSub, pl33, ft3, ft4, ft9, ft12, ft13, ft14, ft15, ft16, ft17, ft18, ft19, ft22, ft23, ft25, ft26, ft27, ft28, ft29, ft30, ft31, ft32, ft33, ft34, ft35, ft37, ft58, ft63, ft84, ft86, ft88, ft92, ft94, ft100, ft114, ft117, ft119, ft120, ft121, ft123, ft138, ft140, ft143, ft183, ft186, ft195, hg, hc14, hc15, a0, a4, q1, ho1, he1, ho2, he2, patch, patch', concA, Int.reduceAdd, Int.reduceSub, Int.reduceNeg, Int.reduceMul, Int.reduceEq, Int.reduceBEq, Int.reduceBNe]
    have hfz : Frz z (.agg [.int .i64 0, .isl 7 (List.map Nd.cells ns), .nils]) (Tp.V ⟨0, ns, []⟩) := .agg _ _ rfl fun q u u' hu hu' => by
      match q with
      | 0 => simp at hu hu'; subst hu hu'; exact .pure _ rfl
      | 1 => simp at hu hu'; subst hu hu'; exact .pure _ rfl
      | 2 => simp at hu hu'; subst hu hu'; exact .nils 1
      | q + 3 => simp at hu
    refine ⟨by omega, by omega, acalls_lend hsame (.cons hfz (.cons hfz .nil)) rfl ?_⟩
    simp (maxSteps := 4000000) only [↓packA, ↓reduceIte, packB, pureOp, quietOp, loadOp, quietB, fr0, cellsK, implies_true, ite_true, ite_false, eq_self, ne_eq, reduceCtorEq, Nat.reduceLT, Nat.reduceLeDiff, Nat.reduceAdd, Nat.reduceMul, Nat.reduceBEq, Nat.reduceEqDiff, Int.reduceToNat, Int.reduceLT, Int.reduceLE, Nat.reduceSub, pl33, ft3, ft4, ft9, ft12, ft13, ft14, ft15, ft16, ft17, ft18, ft19, ft22, ft23, ft25, ft26, ft27, ft28, ft29, ft30, ft31, ft32, ft33, ft34, ft35, ft37, ft58, ft63, ft84, ft86, ft88, ft92, ft94, ft100, ft114, ft117, ft119, ft120, ft121, ft123, ft138, ft140, ft143, ft183, ft186, ft195, hg, hc14, hc15, a0, a4, q1, ho1, he1, ho2, he2, patch, patch', concA, Int.reduceAdd, Int.reduceSub, Int.reduceNeg, Int.reduceMul, Int.reduceEq, Int.reduceBEq, Int.reduceBNe]
    exact ⟨by omega, .inl ⟨(B 14).length - (i + 1), by omega, i + 1, rfl, by omega, by omega⟩⟩
  · have q1 : ¬ (i : Int) < ((B 14).length : Int) := by omega
    simp (maxSteps := 4000000) only [↓packA, ↓reduceIte, packB, pureOp, quietOp, loadOp, quietB, fr0, cellsK, implies_true, ite_true, ite_false, eq_self, ne_eq, reduceCtorEq, Nat.reduceLT, Nat.reduceLeDiff, Nat.reduceAdd, Nat.reduceMul, Nat.reduceBEq, Nat.reduceEqDiff, Int.reduceToNat, Int.reduceLT, Int.reduceLE, Nat.reduceSub, pl33, ft3, ft4, ft9, ft12, ft13, ft14, ft15, ft16, ft17, ft18, ft19, ft22, ft23, ft25, ft26, ft27, ft28, ft29, ft30, ft31, ft32, ft33, ft34, ft35, ft37, ft58, ft63, ft84, ft86, ft88, ft92, ft94, ft100, ft114, ft117, ft119, ft120, ft121, ft123, ft138, ft140, ft143, ft183, ft186, ft195, hg, hc14, l14, a0, a4, q1, concA, Int.reduceAdd, Int.reduceSub, Int.reduceNeg, Int.reduceMul, Int.reduceEq, Int.reduceBEq, Int.reduceBNe]
    refine LoopN.loop 1 ?_
    simp (maxSteps := 4000000) only [↓packA, ↓reduceIte, packB, pureOp, quietOp, loadOp, quietB, fr0, cellsK, implies_true, ite_true, ite_false, eq_self, ne_eq, reduceCtorEq, Nat.reduceLT, Nat.reduceLeDiff, Nat.reduceAdd, Nat.reduceMul, Nat.reduceBEq, Nat.reduceEqDiff, Int.reduceToNat, Int.reduceLT, Int.reduceLE, Nat.reduceSub, pl33, ft3, ft4, ft9, ft12, ft13, ft14, ft15, ft16, ft17, ft18, ft19, ft22, ft23, ft25, ft26, ft27, ft28, ft29, ft30, ft31, ft32, ft33, ft34, ft35, ft37, ft58, ft63, ft84, ft86, ft88, ft92, ft94, ft100, ft114, ft117, ft119, ft120, ft121, ft123, ft138, ft140, ft143, ft183, ft186, ft195, hg, hc16, l16, a0, ↓LoopN_succ, concA, Int.reduceAdd, Int.reduceSub, Int.reduceNeg, Int.reduceMul, Int.reduceEq, Int.reduceBEq, Int.reduceBNe]
    refine LoopN.loop 1 ?_
    simp (maxSteps := 4000000) only [↓packA, ↓reduceIte, packB, pureOp, quietOp, loadOp, quietB, fr0, cellsK, implies_true, ite_true, ite_false, eq_self, ne_eq, reduceCtorEq, Nat.reduceLT, Nat.reduceLeDiff, Nat.reduceAdd, Nat.reduceMul, Nat.reduceBEq, Nat.reduceEqDiff, Int.reduceToNat, Int.reduceLT, Int.reduceLE, Nat.reduceSub, pl33, ft3, ft4, ft9, ft12, ft13, ft14, ft15, ft16, ft17, ft18, ft19, ft22, ft23, ft25, ft26, ft27, ft28, ft29, ft30, ft31, ft32, ft33, ft34, ft35, ft37, ft58, ft63, ft84, ft86, ft88, ft92, ft94, ft100, ft114, ft117, ft119, ft120, ft121, ft123, ft138, ft140, ft143, ft183, ft186, ft195, hg, hc18, l18, a0, ↓LoopN_succ, concA, Int.reduceAdd, Int.reduceSub, Int.reduceNeg, Int.reduceMul, Int.reduceEq, Int.reduceBEq, Int.reduceBNe]
    exact hq
set_option maxHeartbeats 4000000 in
set_option maxRecDepth 100000 in
theorem intactB_c {F : Nat → Prop} {g : Nat} {h : Heap} {cs : List AV} {B : Nat → List (List AV)} (b : Bk F g h cs B) (bi : BkI B) {Q : AV → Heap → Prop} (hq : Q (.bool true) h) : ACalls Tryz.prog 12 [.op g 20 0 0] h Q := by
  refine wp12 rfl rfl ?_
  obtain ⟨ev, hg⟩ := b.obj
  obtain ⟨c0, hc0⟩ := b.get (j := 0) (by decide)
  obtain ⟨c1, hc1⟩ := b.get (j := 1) (by decide)
  obtain ⟨c2, hc2⟩ := b.get (j := 2) (by decide)
  obtain ⟨c4, hc4⟩ := b.get (j := 4) (by decide)
  obtain ⟨c5, hc5⟩ := b.get (j := 5) (by decide)
  obtain ⟨c6, hc6⟩ := b.get (j := 6) (by decide)
  obtain ⟨c8, hc8⟩ := b.get (j := 8) (by decide)
  obtain ⟨c10, hc10⟩ := b.get (j := 10) (by decide)
  have o0 := b.ol 0 c0 hc0
  have o1 := b.ol 1 c1 hc1
  have o4 := b.ol 4 c4 hc4
  have o5 := b.ol 5 c5 hc5
  rw [bi.e0] at o1
  rw [bi.e4] at o5
  have l0 := ol_len o0
  have l4 := ol_len o4
  have l2 := ol_len (b.ol 2 c2 hc2)
  have l6 := ol_len (b.ol 6 c6 hc6)
  have l8 := ol_len (b.ol 8 c8 hc8)
  have l10 := ol_len (b.ol 10 c10 hc10)
  rw [bi.z 2 (by omega) (by omega) (by omega) (by omega) (by omega)] at l2
  rw [bi.z 6 (by omega) (by omega) (by omega) (by omega) (by omega)] at l6
  rw [bi.z 8 (by omega) (by omega) (by omega) (by omega) (by omega)] at l8
  rw [bi.z 10 (by omega) (by omega) (by omega) (by omega) (by omega)] at l10
  have hs0 := bi.sm 0
  have hs4 := bi.sm 4
  simp (maxSteps := 4000000) only [↓packA, ↓reduceIte, packB, pureOp, quietOp, loadOp, quietB, fr0, cellsK, implies_true, ite_true, ite_false, eq_self, ne_eq, reduceCtorEq, Nat.reduceLT, Nat.reduceLeDiff, Nat.reduceAdd, Nat.reduceMul, Nat.reduceBEq, Nat.reduceEqDiff, Int.reduceToNat, Int.reduceLT, Int.reduceLE, Nat.reduceSub, pl12, ft1, ft2, ft3, ft4, ft5, ft6, ft7, ft8, ft9, ft10, ft11, ft22, ft23, ft26, ft27, ft28, ft29, ft30, ft31, ft32, ft33, ft34, ft35, ft37, ft58, ft59, ft61, ft65, ft84, ft86, ft88, ft92, ft109, ft110, ft114, ft123, hg, hc0, l0, concA, Int.reduceAdd, Int.reduceSub, Int.reduceNeg, Int.reduceMul, Int.reduceEq, Int.reduceBEq, Int.reduceBNe]
  refine LoopK.intro (fun m w z => ∃ i : Nat, m = (B 0).length - i ∧ i ≤ (B 0).length ∧ w 0 = .op g 20 0 0 ∧ w 3 = .int .i64 i ∧ z = h) (B 0).length ⟨0, rfl, Nat.zero_le _, ?_, ?_, rfl⟩ ?_
  · simp (maxSteps := 4000000) only [↓packA, ↓reduceIte, packB, pureOp, quietOp, loadOp, quietB, fr0, cellsK, implies_true, ite_true, ite_false, eq_self, ne_eq, reduceCtorEq, Nat.reduceLT, Nat.reduceLeDiff, Nat.reduceAdd, Nat.reduceMul, Nat.reduceBEq, Nat.reduceEqDiff, Int.reduceToNat, Int.reduceLT, Int.reduceLE, Nat.reduceSub, pl12, ft1, ft2, ft3, ft4, ft5, ft6, ft7, ft8, ft9, ft10, ft11, ft22, ft23, ft26, ft27, ft28, ft29, ft30, ft31, ft32, ft33, ft34, ft35, ft37, ft58, ft59, ft61, ft65, ft84, ft86, ft88, ft92, ft109, ft110, ft114, ft123]
  · simp (maxSteps := 4000000) only [↓packA, ↓reduceIte, packB, pureOp, quietOp, loadOp, quietB, fr0, cellsK, implies_true, ite_true, ite_false, eq_self, ne_eq, reduceCtorEq, Nat.reduceLT, Nat.reduceLeDiff, Nat.reduceAdd, Nat.reduceMul, Nat.reduceBEq, Nat.reduceEqDiff, Int.reduceToNat, Int.reduceLT, Int.reduceLE, Nat.reduceSub, pl12, ft1, ft2, ft3, ft4, ft5, ft6, ft7, ft8, ft9, ft10, ft11, ft22, ft23, ft26, ft27, ft28, ft29, ft30, ft31, ft32, ft33, ft34, ft35, ft37, ft58, ft59, ft61, ft65, ft84, ft86, ft88, ft92, ft109, ft110, ft114, ft123, Int.natCast_zero]
  rintro m w z ⟨i, rfl, hi, a0, a3, rfl⟩
  by_cases c : i < (B 0).length
  · have q1 : (i : Int) < ((B 0).length : Int) := by omega
    obtain ⟨row, hrow⟩ : ∃ row, (B 0)[i]? = some row := ⟨_, List.getElem?_eq_getElem c⟩
    obtain ⟨l, rfl, hll⟩ := bi.r0 row (List.mem_of_getElem? hrow)
    obtain ⟨id1, cap1, ex1, ex1', es1, rfl, ho1, he1⟩ := ol_row o0 hrow
    obtain ⟨id2, cap2, ex2, ex2', es2, rfl, ho2, he2⟩ := ol_row o1 hrow
    simp (maxSteps := 4000000) only [↓packA, ↓reduceIte, packB, pureOp, quietOp, loadOp, quietB, fr0, cellsK, implies_true, ite_true, ite_false, eq_self, ne_eq, reduceCtorEq, Nat.reduceLT, Nat.reduceLeDiff, Nat.reduceAdd, Nat.reduceMul, Nat.reduceBEq, Nat.reduceEqDiff, Int.reduceToNat, Int.reduceLT, Int.reduceLE, Nat.reduceSub, pl12, ft1, ft2, ft3, ft4, ft5, ft6, ft7, ft8, ft9, ft10, ft11, ft22, ft23, ft26, ft27, ft28, ft29, ft30, ft31, ft32, ft33, ft34, ft35, ft37, ft58, ft59, ft61, ft65, ft84, ft86, ft88, ft92, ft109, ft110, ft114, ft123, hg, hc0, hc1, a0, a3, q1, ho1, he1, ho2, he2, patch, patch', concA, Int.reduceAdd, Int.reduceSub, Int.reduceNeg, Int.reduceMul, Int.reduceEq, Int.reduceBEq, Int.reduceBNe]
    refine ⟨by omega, by omega, acalls_pure (sameNat_c l hll) rfl ?_⟩
    simp (maxSteps := 4000000) only [↓packA, ↓reduceIte, packB, pureOp, quietOp, loadOp, quietB, fr0, cellsK, implies_true, ite_true, ite_false, eq_self, ne_eq, reduceCtorEq, Nat.reduceLT, Nat.reduceLeDiff, Nat.reduceAdd, Nat.reduceMul, Nat.reduceBEq, Nat.reduceEqDiff, Int.reduceToNat, Int.reduceLT, Int.reduceLE, Nat.reduceSub, pl12, ft1, ft2, ft3, ft4, ft5, ft6, ft7, ft8, ft9, ft10, ft11, ft22, ft23, ft26, ft27, ft28, ft29, ft30, ft31, ft32, ft33, ft34, ft35, ft37, ft58, ft59, ft61, ft65, ft84, ft86, ft88, ft92, ft109, ft110, ft114, ft123, hg, hc0, hc1, a0, a3, q1, ho1, he1, ho2, he2, patch, patch', concA, Int.reduceAdd, Int.reduceSub, Int.reduceNeg, Int.reduceMul, Int.reduceEq, Int.reduceBEq, Int.reduceBNe]
    exact ⟨by omega, .inl ⟨(B 0).length - (i + 1), by omega, i + 1, rfl, by omega, by omega⟩⟩
  · have q1 : ¬ (i : Int) < ((B 0).length : Int) := by omega
    simp (maxSteps := 4000000) only [↓packA, ↓reduceIte, packB, pureOp, quietOp, loadOp, quietB, fr0, cellsK, implies_true, ite_true, ite_false, eq_self, ne_eq, reduceCtorEq, Nat.reduceLT, Nat.reduceLeDiff, Nat.reduceAdd, Nat.reduceMul, Nat.reduceBEq, Nat.reduceEqDiff, Int.reduceToNat, Int.reduceLT, Int.reduceLE, Nat.reduceSub, pl12, ft1, ft2, ft3, ft4, ft5, ft6, ft7, ft8, ft9, ft10, ft11, ft22, ft23, ft26, ft27, ft28, ft29, ft30, ft31, ft32, ft33, ft34, ft35, ft37, ft58, ft59, ft61, ft65, ft84, ft86, ft88, ft92, ft109, ft110, ft114, ft123, hg, hc0, l0, a0, a3, q1, concA, Int.reduceAdd, Int.reduceSub, Int.reduceNeg, Int.reduceMul, Int.reduceEq, Int.reduceBEq, Int.reduceBNe]
    refine LoopN.loop 1 ?_
    simp (maxSteps := 4000000) only [↓packA, ↓reduceIte, packB, pureOp, quietOp, loadOp, quietB, fr0, cellsK, implies_true, ite_true, ite_false, eq_self, ne_eq, reduceCtorEq, Nat.reduceLT, Nat.reduceLeDiff, Nat.reduceAdd, Nat.reduceMul, Nat.reduceBEq, Nat.reduceEqDiff, Int.reduceToNat, Int.reduceLT, Int.reduceLE, Nat.reduceSub, pl12, ft1, ft2, ft3, ft4, ft5, ft6, ft7, ft8, ft9, ft10, ft11, ft22, ft23, ft26, ft27, ft28, ft29, ft30, ft31, ft32, ft33, ft34, ft35, ft37, ft58, ft59, ft61, ft65, ft84, ft86, ft88, ft92, ft109, ft110, ft114, ft123, hg, hc2, l2, a0, ↓LoopN_succ, concA, Int.reduceAdd, Int.reduceSub, Int.reduceNeg, Int.reduceMul, Int.reduceEq, Int.reduceBEq, Int.reduceBNe]
    refine LoopK.intro (fun m w y => ∃ i : Nat, m = (B 4).length - i ∧ i ≤ (B 4).length ∧ w 0 = .op g 20 0 0 ∧ w 5 = .int .i64 i ∧ y = z) (B 4).length ⟨0, rfl, Nat.zero_le _, ?_, ?_, rfl⟩ ?_
    · simp (maxSteps := 4000000) only [↓packA, ↓reduceIte, packB, pureOp, quietOp, loadOp, quietB, fr0, cellsK, implies_true, ite_true, ite_false, eq_self, ne_eq, reduceCtorEq, Nat.reduceLT, Nat.reduceLeDiff, Nat.reduceAdd, Nat.reduceMul, Nat.reduceBEq, Nat.reduceEqDiff, Int.reduceToNat, Int.reduceLT, Int.reduceLE, Nat.reduceSub, pl12, ft1, ft2, ft3, ft4, ft5, ft6, ft7, ft8, ft9, ft10, ft11, ft22, ft23, ft26, ft27, ft28, ft29, ft30, ft31, ft32, ft33, ft34, ft35, ft37, ft58, ft59, ft61, ft65, ft84, ft86, ft88, ft92, ft109, ft110, ft114, ft123, a0]
    · simp (maxSteps := 4000000) only [↓packA, ↓reduceIte, packB, pureOp, quietOp, loadOp, quietB, fr0, cellsK, implies_true, ite_true, ite_false, eq_self, ne_eq, reduceCtorEq, Nat.reduceLT, Nat.reduceLeDiff, Nat.reduceAdd, Nat.reduceMul, Nat.reduceBEq, Nat.reduceEqDiff, Int.reduceToNat, Int.reduceLT, Int.reduceLE, Nat.reduceSub, pl12, ft1, ft2, ft3, ft4, ft5, ft6, ft7, ft8, ft9, ft10, ft11, ft22, ft23, ft26, ft27, ft28, ft29, ft30, ft31, ft32, ft33, ft34, ft35, ft37, ft58, ft59, ft61, ft65, ft84, ft86, ft88, ft92, ft109, ft110, ft114, ft123, Int.natCast_zero]
    clear a0 a3 c q1
    rintro m w y ⟨i, rfl, hi, a0, a3, rfl⟩
    by_cases c : i < (B 4).length
    · have q1 : (i : Int) < ((B 4).length : Int) := by omega
      obtain ⟨row, hrow⟩ : ∃ row, (B 4)[i]? = some row := ⟨_, List.getElem?_eq_getElem c⟩
      obtain ⟨l, rfl, hll⟩ := bi.r4 row (List.mem_of_getElem? hrow)
      obtain ⟨id1, cap1, ex1, ex1', es1, rfl, ho1, he1⟩ := ol_row o4 hrow
      obtain ⟨id2, cap2, ex2, ex2', es2, rfl, ho2, he2⟩ := ol_row o5 hrow
      have hs := same_pure l l (by omega)
      rw [decide_eq_true rfl] at hs
      simp (maxSteps := 4000000) only [↓packA, ↓reduceIte, packB, pureOp, quietOp, loadOp, quietB, fr0, cellsK, implies_true, ite_true, ite_false, eq_self, ne_eq, reduceCtorEq, Nat.reduceLT, Nat.reduceLeDiff, Nat.reduceAdd, Nat.reduceMul, Nat.reduceBEq, Nat.reduceEqDiff, Int.reduceToNat, Int.reduceLT, Int.reduceLE, Nat.reduceSub, pl12, ft1, ft2, ft3, ft4, ft5, ft6, ft7, ft8, ft9, ft10, ft11, ft22, ft23, ft26, ft27, ft28, ft29, ft30, ft31, ft32, ft33, ft34, ft35, ft37, ft58, ft59, ft61, ft65, ft84, ft86, ft88, ft92, ft109, ft110, ft114, ft123, hg, hc4, hc5, a0, a3, q1, ho1, he1, ho2, he2, patch, patch', concA, Int.reduceAdd, Int.reduceSub, Int.reduceNeg, Int.reduceMul, Int.reduceEq, Int.reduceBEq, Int.reduceBNe]
      refine ⟨by omega, by omega, acalls_pure hs rfl ?_⟩
      simp (maxSteps := 4000000) only [↓packA, ↓reduceIte, packB, pureOp, quietOp, loadOp, quietB, fr0, cellsK, implies_true, ite_true, ite_false, eq_self, ne_eq, reduceCtorEq, Nat.reduceLT, Nat.reduceLeDiff, Nat.reduceAdd, Nat.reduceMul, Nat.reduceBEq, Nat.reduceEqDiff, Int.reduceToNat, Int.reduceLT, Int.reduceLE, Nat.reduceSub, pl12, ft1, ft2, ft3, ft4, ft5, ft6, ft7, ft8, ft9, ft10, ft11, ft22, ft23, ft26, ft27, ft28, ft29, ft30, ft31, ft32, ft33, ft34, ft35, ft37, ft58, ft59, ft61, ft65, ft84, ft86, ft88, ft92, ft109, ft110, ft114, ft123, hg, hc4, hc5, a0, a3, q1, ho1, he1, ho2, he2, patch, patch', concA, Int.reduceAdd, Int.reduceSub, Int.reduceNeg, Int.reduceMul, Int.reduceEq, Int.reduceBEq, Int.reduceBNe]
      exact ⟨by omega, .inl ⟨(B 4).length - (i + 1), by omega, i + 1, rfl, by omega, by omega⟩⟩
    · have q1 : ¬ (i : Int) < ((B 4).length : Int) := by omega
      simp (maxSteps := 4000000) only [↓packA, ↓reduceIte, packB, pureOp, quietOp, loadOp, quietB, fr0, cellsK, implies_true, ite_true, ite_false, eq_self, ne_eq, reduceCtorEq, Nat.reduceLT, Nat.reduceLeDiff, Nat.reduceAdd, Nat.reduceMul, Nat.reduceBEq, Nat.reduceEqDiff, Int.reduceToNat, Int.reduceLT, Int.reduceLE, Nat.reduceSub, pl12, ft1, ft2, ft3, ft4, ft5, ft6, ft7, ft8, ft9, ft10, ft11, ft22, ft23, ft26, ft27, ft28, ft29, ft30, ft31, ft32, ft33, ft34, ft35, ft37, ft58, ft59, ft61, ft65, ft84, ft86, ft88, ft92, ft109, ft110, ft114, ft123, hg, hc4, l4, a0, a3, q1, concA, Int.reduceAdd, Int.reduceSub, Int.reduceNeg, Int.reduceMul, Int.reduceEq, Int.reduceBEq, Int.reduceBNe]
      refine LoopN.loop 1 ?_
      simp (maxSteps := 4000000) only [↓packA, ↓reduceIte, packB, pureOp, quietOp, loadOp, quietB, fr0, cellsK, implies_true, ite_true, ite_false, eq_self, ne_eq, reduceCtorEq, Nat.reduceLT, Nat.reduceLeDiff, Nat.reduceAdd, Nat.reduceMul, Nat.reduceBEq, Nat.reduceEqDiff, Int.reduceToNat, Int.reduceLT, Int.reduceLE, Nat.reduceSub, pl12, ft1, ft2, ft3, ft4, ft5, ft6, ft7, ft8, ft9, ft10, ft11, ft22, ft23, ft26, ft27, ft28, ft29, ft30, ft31, ft32, ft33, ft34, ft35, ft37, ft58, ft59, ft61, ft65, ft84, ft86, ft88, ft92, ft109, ft110, ft114, ft123, hg, hc6, l6, a0, ↓LoopN_succ, concA, Int.reduceAdd, Int.reduceSub, Int.reduceNeg, Int.reduceMul, Int.reduceEq, Int.reduceBEq, Int.reduceBNe]
      refine LoopN.loop 1 ?_
      simp (maxSteps := 4000000) only [↓packA, ↓reduceIte, packB, pureOp, quietOp, loadOp, quietB, fr0, cellsK, implies_true, ite_true, ite_false, eq_self, ne_eq, reduceCtorEq, Nat.reduceLT, Nat.reduceLeDiff, Nat.reduceAdd, Nat.reduceMul, Nat.reduceBEq, Nat.reduceEqDiff, Int.reduceToNat, Int.reduceLT, Int.reduceLE, Nat.reduceSub, pl12, ft1, ft2, ft3, ft4, ft5, ft6, ft7, ft8, ft9, ft10, ft11, ft22, ft23, ft26, ft27, ft28, ft29, ft30, ft31, ft32, ft33, ft34, ft35, ft37, ft58, ft59, ft61, ft65, ft84, ft86, ft88, ft92, ft109, ft110, ft114, ft123, hg, hc8, l8, a0, ↓LoopN_succ, concA, Int.reduceAdd, Int.reduceSub, Int.reduceNeg, Int.reduceMul, Int.reduceEq, Int.reduceBEq, Int.reduceBNe]
      refine LoopN.loop 1 ?_
      simp (maxSteps := 4000000) only [↓packA, ↓reduceIte, packB, pureOp, quietOp, loadOp, quietB, fr0, cellsK, implies_true, ite_true, ite_false, eq_self, ne_eq, reduceCtorEq, Nat.reduceLT, Nat.reduceLeDiff, Nat.reduceAdd, Nat.reduceMul, Nat.reduceBEq, Nat.reduceEqDiff, Int.reduceToNat, Int.reduceLT, Int.reduceLE, Nat.reduceSub, pl12, ft1, ft2, ft3, ft4, ft5, ft6, ft7, ft8, ft9, ft10, ft11, ft22, ft23, ft26, ft27, ft28, ft29, ft30, ft31, ft32, ft33, ft34, ft35, ft37, ft58, ft59, ft61, ft65, ft84, ft86, ft88, ft92, ft109, ft110, ft114, ft123, hg, hc10, l10, a0, ↓LoopN_succ, concA, Int.reduceAdd, Int.reduceSub, Int.reduceNeg, Int.reduceMul, Int.reduceEq, Int.reduceBEq, Int.reduceBNe]
      refine whole_c b bi ?_
      simp (maxSteps := 4000000) only [↓packA, ↓reduceIte, packB, pureOp, quietOp, loadOp, quietB, fr0, cellsK, implies_true, ite_true, ite_false, eq_self, ne_eq, reduceCtorEq, Nat.reduceLT, Nat.reduceLeDiff, Nat.reduceAdd, Nat.reduceMul, Nat.reduceBEq, Nat.reduceEqDiff, Int.reduceToNat, Int.reduceLT, Int.reduceLE, Nat.reduceSub, pl12, ft1, ft2, ft3, ft4, ft5, ft6, ft7, ft8, ft9, ft10, ft11, ft22, ft23, ft26, ft27, ft28, ft29, ft30, ft31, ft32, ft33, ft34, ft35, ft37, ft58, ft59, ft61, ft65, ft84, ft86, ft88, ft92, ft109, ft110, ft114, ft123, concA, Int.reduceAdd, Int.reduceSub, Int.reduceNeg, Int.reduceMul, Int.reduceEq, Int.reduceBEq, Int.reduceBNe]
      exact hq
end Go.Proofs.YtclbobielhllmaaGreat
end
section
namespace Go.Proofs.YtclbobielhllmaaGreat
open Go Go.AL
set_option linter.unusedVariables false
set_option linter.unusedSimpArgs false
structure Tp.In (t : Tp) : Prop where
  ok : t.Ok
  nl : t.ns.length < 10000000
  ol : t.outs.length < 10000000
  cl : ∀ n, n ∈ t.ns → n.num.length < 10000000 ∧ n.den.length < 10000000
def B0 : Nat → List (List AV) := fun _ => []
theorem bk_start (F : Nat → Prop) (g : Nat) (h : Heap) (hF : ∀ i, F i → i < h.length) (hg : ¬ F g) {ev : Bool} (ho : h[g]? = some (.arr 20 [List.replicate 20 .nils] ev)) : Bk F g h (List.replicate 20 .nils) B0 :=
  by
  have key : ∀ (j : Nat) (c : AV), (List.replicate 20 AV.nils)[j]? = some c → c = .nils := fun j c hc => by
    rw [List.getElem?_replicate] at hc
    split at hc
    · exact (Option.some.inj hc).symm
    · cases hc
  exact ⟨hF, hg, by simp, ⟨ev, ho⟩, fun j c hc => .inl ⟨key j c hc, rfl⟩, fun j j' c c' i _ hc _ hi => by rw [key j c hc] at hi; cases hi⟩
theorem bki_start : BkI B0 := ⟨rfl, fun row h => (by cases h), rfl, fun row h => (by cases h), rfl, fun row h => (by cases h), fun _ _ _ _ _ _ => rfl, fun _ => by simp [B0]⟩
theorem bki_nat {B : Nat → List (List AV)} {l : List Int} (h : BkI B) (hl : l.length < 10000000) (hs : (B 0).length < 90000000) : BkI (bkNat B l) := by
  obtain ⟨a1, a2, a3⟩ := bkNat_len B l
  have e0 : bkNat B l 0 = B 0 ++ [[lims (limM l)]] := by unfold bkNat; rw [upB_ne (by decide), upB_same]
  refine ⟨?_, fun row hr => ?_, by rw [a3 5 (by omega), a3 4 (by omega)]; exact h.e4, by rw [a3 4 (by omega)]; exact h.r4, by rw [a3 15 (by omega), a3 14 (by omega)]; exact h.e14, by rw [a3 14 (by omega)]; exact h.r14, fun j h1 h2 h3 h4 h5 => by rw [a3 j h1]; exact h.z j h1 h2 h3 h4 h5, fun j => ?_⟩
  · rw [e0]; unfold bkNat; rw [upB_same, h.e0]
  · rw [e0] at hr
    rcases List.mem_append.1 hr with h1 | h1
    · exact h.r0 row h1
    · simp at h1; subst h1; exact ⟨_, rfl, by simp [limM]; omega⟩
  · match j with
    | 0 => rw [a1]; omega
    | 1 => rw [a2, h.e0]; omega
    | j + 2 => rw [a3 (j + 2) (by omega)]; exact h.sm _
theorem bki_ns {ns : List Nd} : ∀ {B : Nat → List (List AV)}, BkI B → (∀ n, n ∈ ns → n.num.length < 10000000 ∧ n.den.length < 10000000) → (B 0).length + 2 * ns.length < 90000000 → BkI (bkNs B ns) := by
  induction ns with
  | nil => intro B h _ _; exact h
  | cons n ns ih =>
    intro B h hl hs
    have hn := hl n (by simp)
    simp only [List.length_cons] at hs
    have h1 := bki_nat (l := n.num) h hn.1 (by omega)
    have h2 := bki_nat (l := n.den) h1 hn.2 (by rw [(bkNat_len B n.num).1]; omega)
    exact ih h2 (fun m hm => hl m (by simp [hm])) (by rw [(bkNat_len _ n.den).1, (bkNat_len B n.num).1]; omega)
theorem bki_tape {B : Nat → List (List AV)} {t : Tp} (h : BkI B) (ht : t.In) (hs : (B 0).length < 20000000) (hs4 : (B 4).length < 20000000) (hs14 : (B 14).length < 20000000) : BkI (bkTape B t) ∧ (bkTape B t 0).length = (B 0).length + 2 * t.ns.length ∧ (bkTape B t 4).length = (B 4).length + 1 ∧ (bkTape B t 14).length = (B 14).length + 1 := by
  have hn := ht.nl
  have ho := ht.ol
  have h1 := bki_ns h ht.cl (by omega)
  obtain ⟨a1, a2, a3⟩ := bkNs_len t.ns B
  have k0 : bkTape B t 0 = bkNs B t.ns 0 := by unfold bkTape bkInts bkOps; simp [upB]
  have k1 : bkTape B t 1 = bkNs B t.ns 1 := by unfold bkTape bkInts bkOps; simp [upB]
  have k4 : bkTape B t 4 = B 4 ++ [[ints (intM t.outs)]] := by unfold bkTape bkInts bkOps; simp [upB, a3 4]
  have k5 : bkTape B t 5 = B 5 ++ [[ints (intM t.outs)]] := by unfold bkTape bkInts bkOps; simp [upB, a3 5]
  have k14 : bkTape B t 14 = B 14 ++ [[.isl 7 ((opM t.ns).map Nd.cells)]] := by unfold bkTape bkInts bkOps; simp [upB, a3 14]
  have k15 : bkTape B t 15 = B 15 ++ [[.isl 7 ((opM t.ns).map Nd.cells)]] := by unfold bkTape bkInts bkOps; simp [upB, a3 15]
  have kj : ∀ j, 2 ≤ j → j ≠ 4 → j ≠ 5 → j ≠ 14 → j ≠ 15 → bkTape B t j = B j := fun j h2 h4 h5 h14 h15 => by unfold bkTape bkInts bkOps; simp [upB, h4, h5, h14, h15, a3 j h2]
  refine ⟨⟨by rw [k0, k1]; exact h1.e0, by rw [k0]; exact h1.r0, by rw [k4, k5, h.e4], fun row hr => ?_, by rw [k14, k15, h.e14], fun row hr => ?_, fun j g2 g4 g5 g14 g15 => by rw [kj j g2 g4 g5 g14 g15]; exact h.z j g2 g4 g5 g14 g15, fun j => ?_⟩, by rw [k0, a1], by rw [k4]; simp, by rw [k14]; simp⟩
  · rw [k4] at hr
    rcases List.mem_append.1 hr with g1 | g1
    · exact h.r4 row g1
    · simp at g1; subst g1; exact ⟨_, rfl, by simp [intM]; omega⟩
  · rw [k14] at hr
    rcases List.mem_append.1 hr with g1 | g1
    · exact h.r14 row g1
    · simp only [List.mem_singleton] at g1
      subst g1
      refine ⟨_, rfl, fun n hm => ?_, by simp [opM]; omega⟩
      rcases List.mem_append.1 hm with g1 | g1
      · exact ht.ok.ns n g1
      · have h0 : ∀ x, (markN x).Ok := fun x => ⟨LI.nil, LI.nil, (by decide : 0 < 100000000), (by decide : 0 < 100000000)⟩
        simp at g1
        rcases g1 with rfl | rfl | rfl <;> exact h0 _
  · by_cases j0 : j = 0
    · rw [j0, k0, a1]; omega
    by_cases j1 : j = 1
    · rw [j1, k1, a2, h.e0]; omega
    by_cases j4 : j = 4
    · rw [j4, k4]; simp; omega
    by_cases j5 : j = 5
    · rw [j5, k5, h.e4]; simp; omega
    by_cases j14 : j = 14
    · rw [j14, k14]; simp; omega
    by_cases j15 : j = 15
    · rw [j15, k15, h.e14]; simp; omega
    rw [kj j (by omega) j4 j5 j14 j15]; exact h.sm j
theorem BkI.all {B : Nat → List (List AV)} (h : BkI B) (h0 : (B 0).length < 60000000) (h4 : (B 4).length < 60000000) (h14 : (B 14).length < 60000000) : ∀ j, (B j).length < 60000000 := fun j => by
  by_cases j0 : j = 0
  · rw [j0]; exact h0
  by_cases j1 : j = 1
  · rw [j1, h.e0]; exact h0
  by_cases j4 : j = 4
  · rw [j4]; exact h4
  by_cases j5 : j = 5
  · rw [j5, h.e4]; exact h4
  by_cases j14 : j = 14
  · rw [j14]; exact h14
  by_cases j15 : j = 15
  · rw [j15, h.e14]; exact h14
  rw [h.z j (by omega) j4 j5 j14 j15]; simp
end Go.Proofs.YtclbobielhllmaaGreat
end
section
namespace Go.Proofs.YtclbobielhllmaaGreat
open Go Go.AL Go.ChangeShapes Go.WideShapes Go.ChangeAt Go.RowKit
set_option linter.unusedVariables false
set_option linter.unusedSimpArgs false
def CR (W : World) (us : List AV) (vs : List Value) : Prop := us.length = vs.length ∧ ∀ (j : Nat) (u : AV) (v : Value), us[j]? = some u → vs[j]? = some v → IRel (allOf W) W u v ∧ v.oneCell' = true
theorem CR.nil {W : World} : CR W [] [] := ⟨rfl, fun j u v h => by simp at h⟩
theorem CR.cons {W : World} {u : AV} {v : Value} {us : List AV} {vs : List Value} (h : IRel (allOf W) W u v) (h1 : v.oneCell' = true) (h2 : CR W us vs) : CR W (u :: us) (v :: vs) := by
  refine ⟨by simp [h2.1], fun j x y hx hy => ?_⟩
  cases j with
  | zero => simp at hx hy; subst hx hy; exact ⟨h, h1⟩
  | succ j => simp at hx hy; exact h2.2 j x y hx hy
theorem CR.head {W : World} {u : AV} {v : Value} {us : List AV} {vs : List Value} (h : CR W (u :: us) (v :: vs)) : IRel (allOf W) W u v ∧ v.oneCell' = true := h.2 0 u v rfl rfl
theorem CR.tail {W : World} {u : AV} {v : Value} {us : List AV} {vs : List Value} (h : CR W (u :: us) (v :: vs)) : CR W us vs := ⟨by have := h.1; simp at this; exact this, fun j x y hx hy => h.2 (j + 1) x y (by simpa using hx) (by simpa using hy)⟩
theorem open_sl {H : Type} {enc : TypeId × Value → H} {W : World} {α : Type} (cellsF : α → List AV) (Pr : α → DataW H → Prop) {k : Nat} {t e : TypeId} (ht : Tryz.prog.underlying t = some (.slice e)) (hk : Tryz.prog.cellsOf e = k) (hcl : ∀ x, (cellsF x).length = k) (hk0 : 0 < k)
    (hel : ∀ (fuel : Nat) (cs : List Value) (d : DataW H) (p : List MemPlace), DataW.trod enc Tryz.prog W 0 (fun _ => true) true fuel e cs = some (d, p) → ∃ x, Pr x d ∧ CR W (cellsF x) cs)
    {fuel : Nat} {cs : List Value} {d : DataW H} {p : List MemPlace} (h : DataW.trod enc Tryz.prog W 0 (fun _ => true) true fuel t cs = some (d, p)) : ∃ xs : List α, CR W [.isl k (xs.map cellsF)] cs ∧ xs.length ≤ Rows.uptoBulk d ∧ ∀ x, x ∈ xs → ∃ d', Pr x d' ∧ Rows.uptoBulk d' ≤ Rows.uptoBulk d := by
  rcases DataW.trod_slice ht h with ⟨rfl, hx⟩ | ⟨a, len, cap, elems, rest, n, _, rfl, hx, hb, hl, hm, hlen, hel2, hsp, hns⟩
  · simp only [Prod.mk.injEq] at hx
    obtain ⟨rfl, _⟩ := hx
    exact ⟨[], .cons (.isl0 k _ _) rfl .nil, by simp, fun x hx => by cases hx⟩
  simp only [Prod.mk.injEq] at hx
  obtain ⟨rfl, _⟩ := hx
  have each : ∀ i, i < len → ∃ (x : α) (vs : List Value), (∃ d', Pr x d' ∧ Rows.uptoBulk d' ≤ Rows.uptoBulk (DataW.slice (elems.map (·.1)) (rest.map (·.1)))) ∧ CR W (cellsF x) vs ∧ W.cells? 0 (a.add (i * k)) k = some vs := fun i hi => by
    have h1 := hel2 i hi
    have h2 : elems[i]? = some (elems[i]'(by omega)) := List.getElem?_eq_getElem (by omega)
    rw [h2, hk, Option.bind_eq_some_iff] at h1
    obtain ⟨vs, e1, e2⟩ := h1
    obtain ⟨x, p1, p2⟩ := hel _ _ _ _ e2
    refine ⟨x, vs, ⟨_, p1, ?_⟩, p2, e1⟩
    have h3 : (elems[i]'(by omega)).1 ∈ elems.map (·.1) := List.mem_map.2 ⟨_, List.mem_of_getElem? h2, rfl⟩
    have h4 := bulk_part h3
    refine Nat.le_trans h4 ?_
    show _ ≤ Rows.uptoBulkAll _ + Rows.uptoBulkAll _ + 1
    omega
  rcases Nat.eq_zero_or_pos len with h0 | h0
  · subst h0
    exact ⟨[], .cons (.isl0 k _ _) rfl .nil, by simp, fun x hx => by cases hx⟩
  obtain ⟨x0, _⟩ := each 0 h0
  have hch : ∃ f : Nat → α, ∀ i, i < len → ∃ vs : List Value, (∃ d', Pr (f i) d' ∧ Rows.uptoBulk d' ≤ Rows.uptoBulk (DataW.slice (elems.map (·.1)) (rest.map (·.1)))) ∧ CR W (cellsF (f i)) vs ∧ W.cells? 0 (a.add (i * k)) k = some vs :=
    ⟨fun i => if hi : i < len then Classical.choose (each i hi) else x0, fun i hi => by dsimp only; rw [dif_pos hi]; exact Classical.choose_spec (each i hi)⟩
  obtain ⟨f, hf⟩ := hch
  have hgv : ∃ g : Nat → List Value, ∀ i, i < len → CR W (cellsF (f i)) (g i) ∧ W.cells? 0 (a.add (i * k)) k = some (g i) :=
    ⟨fun i => if hi : i < len then Classical.choose (hf i hi) else [], fun i hi => by dsimp only; rw [dif_pos hi]; exact (Classical.choose_spec (hf i hi)).2⟩
  obtain ⟨g, hg⟩ := hgv
  have hcell : ∀ i j, i < len → j < k → W.cell? ((a.add (i * k)).add j) = (g i)[j]? := fun i j hi hj => (World.cells?_some (hg i hi).2).2.2 j hj
  have hgl : ∀ i, i < len → (g i).length = k := fun i hi => (World.cells?_some (hg i hi).2).2.1
  obtain ⟨b, off, spot⟩ := a
  have hspot : spot = none := by
    have h1 := hcell 0 0 h0 hk0
    have h2 : (g 0)[0]? = some ((g 0)[0]'(by rw [hgl 0 h0]; exact hk0)) := List.getElem?_eq_getElem _
    rw [h2] at h1
    simpa [Addr.add] using World.cell?_spot h1
  subst hspot
  have hcell2 : ∀ i j, i < len → j < k → W.cell? ⟨b, off + (i * k + j), none⟩ = (g i)[j]? := fun i j hi hj => by
    have h1 := hcell i j hi hj
    rwa [Go.WideShapes.add_plain, Go.WideShapes.add_plain, Nat.add_assoc] at h1
  have hxs : ∀ (i : Nat) (e : List AV), (List.map cellsF (List.map f (List.range len)))[i]? = some e → i < len ∧ e = cellsF (f i) := fun i e he => by
    have hi := (List.getElem?_eq_some_iff.1 he).1
    simp only [List.length_map, List.length_range] at hi
    rw [List.getElem?_map, List.getElem?_map, List.getElem?_range hi] at he
    exact ⟨hi, (Option.some.inj he).symm⟩
  refine ⟨(List.range len).map f, .cons ?_ rfl .nil, ?_, fun x hx => ?_⟩
  · have hcl2 : ∀ i, i < len → ∀ j u, (cellsF (f i))[j]? = some u → j < k ∧ ∃ v, (g i)[j]? = some v := fun i hi j u hu => by
      have := (List.getElem?_eq_some_iff.1 hu).1
      rw [hcl] at this
      exact ⟨this, _, List.getElem?_eq_getElem (by rw [hgl i hi]; exact this)⟩
    have hr := IRel.isl (I := allOf W) (w := W) k (List.map cellsF (List.map f (List.range len))) b off cap (fun i j => ((g i)[j]?).getD undef) (by intro e; have := congrArg List.length e; simp at this; omega) (by simp; exact hl) (by
      have h1 := hcell2 0 0 h0 hk0
      have h2 : (g 0)[0]? = some ((g 0)[0]'(by rw [hgl 0 h0]; exact hk0)) := List.getElem?_eq_getElem _
      rw [h2] at h1
      exact cell_lt h1) (fun i e he => by rw [(hxs i e he).2]; exact hcl _) (fun i e j u he hu => by
        obtain ⟨hi, rfl⟩ := hxs i e he
        obtain ⟨hj, v, hv⟩ := hcl2 i hi j u hu
        rw [hcell2 i j hi hj, hv]; rfl) (fun i e j u he hu => by
        obtain ⟨hi, rfl⟩ := hxs i e he
        obtain ⟨hj, v, hv⟩ := hcl2 i hi j u hu
        rw [hv]; exact ((hg i hi).1.2 j u v hu hv).2) (fun i e j u he hu => by
        obtain ⟨hi, rfl⟩ := hxs i e he
        obtain ⟨hj, v, hv⟩ := hcl2 i hi j u hu
        rw [hv]; exact ((hg i hi).1.2 j u v hu hv).1)
    simpa using hr
  · have := bulk_slice (elems.map (·.1)) (rest.map (·.1))
    simp at this ⊢
    omega
  · obtain ⟨i, hi, rfl⟩ := List.mem_map.1 hx
    obtain ⟨vs, h1, _⟩ := hf i (List.mem_range.1 hi)
    exact h1
theorem len3 {α : Type} {l : List α} (h : l.length = 3) : ∃ a b c, l = [a, b, c] := by
  match l, h with
  | [a, b, c], _ => exact ⟨_, _, _, rfl⟩
theorem len7 {α : Type} {l : List α} (h : l.length = 7) : ∃ a b c d e f g, l = [a, b, c, d, e, f, g] := by
  match l, h with
  | [a, b, c, d, e, f, g], _ => exact ⟨_, _, _, _, _, _, _, rfl⟩
theorem CR.one {W : World} {u : AV} {v : Value} (h : CR W [u] [v]) : IRel (allOf W) W u v ∧ v.oneCell' = true := h.head
section
variable {H : Type} {enc : TypeId × Value → H} {W : World} {fuel : Nat} {cs : List Value} {d : DataW H} {p : List MemPlace}
theorem st3 {t : TypeId} {f0 f1 f2 : Field} {x : DataW H × List MemPlace} (ht : Tryz.prog.underlying t = some (.struct #[f0, f1, f2])) (h : DataW.trod enc Tryz.prog W 0 (fun _ => true) true fuel t cs = some x) :
    ∃ y0 y1 y2 n, x = (.agg [y0.1, y1.1, y2.1], y0.2 ++ (y1.2 ++ y2.2)) ∧ cs.length = Tryz.prog.cellsOf t ∧ DataW.trod enc Tryz.prog W 0 (fun _ => true) true n f0.type ((cs.drop f0.offset).take (Tryz.prog.cellsOf f0.type)) = some y0 ∧
      DataW.trod enc Tryz.prog W 0 (fun _ => true) true n f1.type ((cs.drop f1.offset).take (Tryz.prog.cellsOf f1.type)) = some y1 ∧ DataW.trod enc Tryz.prog W 0 (fun _ => true) true n f2.type ((cs.drop f2.offset).take (Tryz.prog.cellsOf f2.type)) = some y2 := by
  obtain ⟨xs, n, _, rfl, hl, hlen, hf⟩ := DataW.trod_struct ht h
  match xs, hlen with
  | [y0, y1, y2], _ => exact ⟨y0, y1, y2, n, by simp, hl, by simpa using hf 0 f0 rfl, by simpa using hf 1 f1 rfl, by simpa using hf 2 f2 rfl⟩
theorem open_nat (h : DataW.trod enc Tryz.prog W 0 (fun _ => true) true fuel 59 cs = some (d, p)) : ∃ l : List Int, CR W [lims l] cs ∧ LI l ∧ l.length ≤ Rows.uptoBulk d := by
  obtain ⟨xs, h1, h2, h3⟩ := open_sl (enc := enc) (W := W) u32E (fun x (_ : DataW H) => 0 ≤ x ∧ x < 4294967296) (k := 1) Tryz.underlying59 (by kernel_rfl) (fun _ => rfl) (by decide) (fun fuel cs d p hh => by
    obtain ⟨n, rfl, _, hw⟩ := DataW.trod_int Tryz.underlying109 hh
    refine ⟨n, ?_, .cons (.int _ _) rfl .nil⟩
    simp only [Lit.wf, Bool.and_eq_true, decide_eq_true_eq] at hw
    have h0 : IntKind.u32.min = 0 := by decide
    have h1 : IntKind.u32.max = 4294967295 := by decide
    omega) h
  exact ⟨xs, h1, fun x hx => by obtain ⟨_, h4, _⟩ := h3 x hx; exact h4, h2⟩
theorem open_rat (h : DataW.trod enc Tryz.prog W 0 (fun _ => true) true fuel 61 cs = some (d, p)) : ∃ (neg : Bool) (num den : List Int), CR W [.bool neg, lims num, lims den] cs ∧ LI num ∧ LI den ∧ num.length ≤ Rows.uptoBulk d ∧ den.length ≤ Rows.uptoBulk d := by
  obtain ⟨y0, y1, y2, n, hx, hlen, h0, h1, h2⟩ := st3 Tryz.underlying61 h
  simp only [Prod.mk.injEq] at hx
  obtain ⟨rfl, _⟩ := hx
  rw [show Tryz.prog.cellsOf 61 = 3 by kernel_rfl] at hlen
  obtain ⟨a, b, c, rfl⟩ := len3 hlen
  rw [show Tryz.prog.cellsOf 4 = 1 by kernel_rfl] at h0
  rw [show Tryz.prog.cellsOf 59 = 1 by kernel_rfl] at h1 h2
  simp only [List.drop_zero, List.drop_succ_cons, List.take_succ_cons, List.take_zero] at h0 h1 h2
  obtain ⟨neg, e0, _⟩ := DataW.trod_bool Tryz.underlying4 h0
  obtain ⟨num, c1, l1, b1⟩ := open_nat h1
  obtain ⟨den, c2, l2, b2⟩ := open_nat h2
  simp only [List.cons.injEq, and_true] at e0
  subst e0
  have hb : ∀ y, y ∈ [y0.1, y1.1, y2.1] → Rows.uptoBulk y ≤ Rows.uptoBulk (DataW.agg [y0.1, y1.1, y2.1]) := fun y hy => Nat.le_trans (bulk_part hy) (bulk_agg _)
  exact ⟨neg, num, den, .cons (.bool _) rfl (.cons c1.one.1 c1.one.2 (.cons c2.one.1 c2.one.2 .nil)), l1, l2, Nat.le_trans b1 (hb _ (by simp)), Nat.le_trans b2 (hb _ (by simp))⟩
def NdP {H : Type} (n : Nd) (d : DataW H) : Prop := LI n.num ∧ LI n.den ∧ n.num.length ≤ Rows.uptoBulk d ∧ n.den.length ≤ Rows.uptoBulk d
theorem open_op (h : DataW.trod enc Tryz.prog W 0 (fun _ => true) true fuel 63 cs = some (d, p)) : ∃ n : Nd, NdP n d ∧ CR W n.cells cs := by
  obtain ⟨xs, n, _, hx, hlen, hxl, hf⟩ := DataW.trod_struct Tryz.underlying63 h
  simp only [Prod.mk.injEq] at hx
  obtain ⟨rfl, _⟩ := hx
  rw [show Tryz.prog.cellsOf 63 = 7 by kernel_rfl] at hlen
  obtain ⟨a, b, c, dd, e, f, g, rfl⟩ := len7 hlen
  have hxl5 : xs.length = 5 := hxl
  obtain ⟨x0, x1, x2, x3, x4, rfl⟩ : ∃ x0 x1 x2 x3 x4, xs = [x0, x1, x2, x3, x4] := by
    match hm : xs, hxl5 with
    | [x0, x1, x2, x3, x4], _ => exact ⟨_, _, _, _, _, rfl⟩
  have h0 : DataW.trod enc Tryz.prog W 0 (fun _ => true) true n 57 (([a, b, c, dd, e, f, g].drop 0).take (Tryz.prog.cellsOf 57)) = [x0, x1, x2, x3, x4][0]? := hf 0 _ rfl
  have h1 : DataW.trod enc Tryz.prog W 0 (fun _ => true) true n 3 (([a, b, c, dd, e, f, g].drop 1).take (Tryz.prog.cellsOf 3)) = [x0, x1, x2, x3, x4][1]? := hf 1 _ rfl
  have h2 : DataW.trod enc Tryz.prog W 0 (fun _ => true) true n 3 (([a, b, c, dd, e, f, g].drop 2).take (Tryz.prog.cellsOf 3)) = [x0, x1, x2, x3, x4][2]? := hf 2 _ rfl
  have h3 : DataW.trod enc Tryz.prog W 0 (fun _ => true) true n 3 (([a, b, c, dd, e, f, g].drop 3).take (Tryz.prog.cellsOf 3)) = [x0, x1, x2, x3, x4][3]? := hf 3 _ rfl
  have h4 : DataW.trod enc Tryz.prog W 0 (fun _ => true) true n 61 (([a, b, c, dd, e, f, g].drop 4).take (Tryz.prog.cellsOf 61)) = [x0, x1, x2, x3, x4][4]? := hf 4 _ rfl
  rw [show Tryz.prog.cellsOf 57 = 1 by kernel_rfl] at h0
  rw [show Tryz.prog.cellsOf 3 = 1 by kernel_rfl] at h1 h2 h3
  rw [show Tryz.prog.cellsOf 61 = 3 by kernel_rfl] at h4
  simp only [List.drop_zero, List.drop_succ_cons, List.take_succ_cons, List.take_zero, List.getElem?_cons_zero, List.getElem?_cons_succ] at h0 h1 h2 h3 h4
  obtain ⟨z0, e0, _, _⟩ := DataW.trod_int Tryz.underlying57 h0
  obtain ⟨z1, e1, _, _⟩ := DataW.trod_int Tryz.underlying3 h1
  obtain ⟨z2, e2, _, _⟩ := DataW.trod_int Tryz.underlying3 h2
  obtain ⟨z3, e3, _, _⟩ := DataW.trod_int Tryz.underlying3 h3
  obtain ⟨neg, num, den, c4, l1, l2, b1, b2⟩ := open_rat (d := x4.1) (p := x4.2) h4
  simp only [List.cons.injEq, and_true] at e0 e1 e2 e3
  subst e0 e1 e2 e3
  have hb : Rows.uptoBulk x4.1 ≤ Rows.uptoBulk (DataW.agg ([x0, x1, x2, x3, x4].map (·.1))) := Nat.le_trans (bulk_part (by simp)) (bulk_agg _)
  exact ⟨⟨z0, z1, z2, z3, neg, num, den⟩, ⟨l1, l2, Nat.le_trans b1 hb, Nat.le_trans b2 hb⟩, .cons (.int _ _) rfl (.cons (.int _ _) rfl (.cons (.int _ _) rfl (.cons (.int _ _) rfl c4)))⟩
theorem open_tape {v : Value} (hv : ∃ cs, v = .agg cs ∧ cs.size = Tryz.prog.cellsOf 25) (h : DataW.trod enc Tryz.prog W 0 (fun _ => true) true fuel 25 v.cells.toList = some (d, p)) (hs : Rows.uptoBulk d ≤ 1048576) : ∃ t : Tp, IRel (allOf W) W t.V v ∧ t.In := by
  obtain ⟨cells, rfl, hsz⟩ := hv
  obtain ⟨y0, y1, y2, n, hx, hlen, h0, h1, h2⟩ := st3 Tryz.underlying25 h
  simp only [Prod.mk.injEq] at hx
  obtain ⟨rfl, _⟩ := hx
  rw [show Tryz.prog.cellsOf 25 = 3 by kernel_rfl] at hlen
  obtain ⟨a, b, c, hcl⟩ := len3 hlen
  rw [hcl] at h0 h1 h2
  rw [show Tryz.prog.cellsOf 3 = 1 by kernel_rfl] at h0
  rw [show Tryz.prog.cellsOf 22 = 1 by kernel_rfl] at h1
  rw [show Tryz.prog.cellsOf 23 = 1 by kernel_rfl] at h2
  simp only [List.drop_zero, List.drop_succ_cons, List.take_succ_cons, List.take_zero] at h0 h1 h2
  obtain ⟨vars, e0, _, _⟩ := DataW.trod_int Tryz.underlying3 h0
  obtain ⟨ns, c1, b1, p1⟩ := open_sl (enc := enc) (W := W) Nd.cells NdP (k := 7) Tryz.underlying22 (by kernel_rfl) (fun _ => rfl) (by decide) (fun fuel cs d p hh => open_op hh) (d := y1.1) (p := y1.2) h1
  obtain ⟨outs, c2, b2, _⟩ := open_sl (enc := enc) (W := W) intE (fun _ (_ : DataW H) => True) (k := 1) Tryz.underlying23 (by kernel_rfl) (fun _ => rfl) (by decide) (fun fuel cs d p hh => by
    obtain ⟨z, rfl, _, _⟩ := DataW.trod_int Tryz.underlying3 hh
    exact ⟨z, trivial, .cons (.int _ _) rfl .nil⟩) (d := y2.1) (p := y2.2) h2
  simp only [List.cons.injEq, and_true] at e0
  subst e0
  have hb : ∀ y, y ∈ [y0.1, y1.1, y2.1] → Rows.uptoBulk y ≤ Rows.uptoBulk (DataW.agg [y0.1, y1.1, y2.1]) := fun y hy => Nat.le_trans (bulk_part hy) (bulk_agg _)
  have hb1 := hb y1.1 (by simp)
  have hb2 := hb y2.1 (by simp)
  have hcr : CR W [.int .i64 vars, .isl 7 (ns.map Nd.cells), ints outs] [.int .i64 vars, b, c] := .cons (.int _ _) rfl (.cons c1.one.1 c1.one.2 (.cons c2.one.1 c2.one.2 .nil))
  have hca : cells = #[.int .i64 vars, b, c] := by
    apply Array.ext'
    exact hcl
  subst hca
  have hn : ∀ m, m ∈ ns → LI m.num ∧ LI m.den ∧ m.num.length < 10000000 ∧ m.den.length < 10000000 := fun m hm => by
    obtain ⟨d', ⟨q1, q2, q3, q4⟩, q5⟩ := p1 m hm
    exact ⟨q1, q2, by omega, by omega⟩
  refine ⟨⟨vars, ns, outs⟩, .agg _ _ rfl (fun j v hj => ?_) (fun j u v hu hj => (hcr.2 j u v hu (by simpa using hj)).1), ⟨⟨fun m hm => ?_⟩, by simp only; omega, by simp only; omega, fun m hm => (hn m hm).2.2⟩⟩
  · have hj' : [Value.int .i64 vars, b, c][j]? = some v := by simpa using hj
    have hjl := (List.getElem?_eq_some_iff.1 hj').1
    exact (hcr.2 j _ v (List.getElem?_eq_getElem (by simpa using hjl)) hj').2
  · obtain ⟨q1, q2, q3, q4⟩ := hn m hm
    exact ⟨q1, q2, by omega, by omega⟩
end
end Go.Proofs.YtclbobielhllmaaGreat
end
section
namespace Go.AL
set_option linter.unusedVariables false
set_option linter.unusedSimpArgs false
theorem u64bits {x : Nat} (h : x < 2 ^ 64) : (BitVec.ofInt IntKind.u64.bits ((x : Nat) : Int)).toNat = x := by
  rw [show IntKind.u64.bits = 64 from rfl, BitVec.ofInt_natCast, BitVec.toNat_ofNat, Nat.mod_eq_of_lt h]
theorem u64and {x y : Nat} (hx : x < 2 ^ 64) (hy : y < 2 ^ 64) : IntKind.u64.wrap ((BitVec.ofInt IntKind.u64.bits ((x : Nat) : Int) &&& BitVec.ofInt IntKind.u64.bits ((y : Nat) : Int)).toNat) = ((x &&& y : Nat) : Int) := by
  rw [BitVec.toNat_and, u64bits hx, u64bits hy, IntKind.wrap_u64]
  have : x &&& y ≤ x := Nat.and_le_left
  omega
theorem u64or {x y : Nat} (hx : x < 2 ^ 64) (hy : y < 2 ^ 64) : IntKind.u64.wrap ((BitVec.ofInt IntKind.u64.bits ((x : Nat) : Int) ||| BitVec.ofInt IntKind.u64.bits ((y : Nat) : Int)).toNat) = ((x ||| y : Nat) : Int) := by
  rw [BitVec.toNat_or, u64bits hx, u64bits hy, IntKind.wrap_u64]
  have : x ||| y < 2 ^ 64 := Nat.or_lt_two_pow hx hy
  omega
theorem u64shr {l s : Nat} (hs : s ≤ 64) : (l : Int).fdiv (2 ^ (min s IntKind.u64.bits)) = ((l / 2 ^ s : Nat) : Int) := by
  rw [show min s IntKind.u64.bits = s from Nat.min_eq_left hs, Int.fdiv_eq_ediv_of_nonneg _ (Int.le_of_lt (Int.pow_pos (by decide)))]
  simp
theorem and_byte {b c y m : Nat} (hb : b < 256) (hc : c < 256) : (b + 256 * y) &&& (c + 256 * m) = (b &&& c) + 256 * (y &&& m) := by
  have h1 : ∀ (p q : Nat), p < 256 → p + 256 * q = q <<< 8 ||| p := fun p q hp => by
    rw [← Nat.shiftLeft_add_eq_or_of_lt (show p < 2 ^ 8 by omega), Nat.shiftLeft_eq]; omega
  have hbc : b &&& c < 256 := Nat.lt_of_le_of_lt Nat.and_le_left hb
  rw [h1 b y hb, h1 c m hc, h1 _ _ hbc]
  apply Nat.eq_of_testBit_eq
  intro i
  simp only [Nat.testBit_and, Nat.testBit_or, Nat.testBit_shiftLeft]
  have big : ∀ p : Nat, p < 256 → 8 ≤ i → p.testBit i = false := fun p hp hi => Nat.testBit_lt_two_pow (Nat.lt_of_lt_of_le (show p < 2 ^ 8 by omega) (Nat.pow_le_pow_right (n := 2) (by decide) hi))
  by_cases hi : 8 ≤ i
  · simp [hi, big b hb hi, big c hc hi]
  · simp [hi]
def pop1 (b : Nat) : Nat := ((b / 2) &&& 85) + (b &&& 85)
def pop2 (b : Nat) : Nat := ((pop1 b / 4) &&& 51) + (pop1 b &&& 51)
def pop3 (b : Nat) : Nat := ((pop2 b / 16) + pop2 b) &&& 15
theorem pop_lt : ∀ b : Fin 256, pop1 b.val < 256 ∧ pop2 b.val ≤ 68 ∧ pop3 b.val ≤ 8 ∧ (pop3 b.val = 0 ↔ b.val = 0) ∧ pop2 b.val / 16 ≤ 4 ∧ pop2 b.val % 16 ≤ 4 := by decide +kernel
theorem pop_at {b : Nat} (h : b < 256) : pop1 b < 256 ∧ pop2 b ≤ 68 ∧ pop3 b ≤ 8 ∧ (pop3 b = 0 ↔ b = 0) ∧ pop2 b / 16 ≤ 4 ∧ pop2 b % 16 ≤ 4 := pop_lt ⟨b, h⟩
theorem sh1 : ∀ (b : Fin 256) (e : Fin 2), (b.val / 2 + 128 * e.val) &&& 85 = (b.val / 2) &&& 85 := by decide +kernel
theorem sh2 : ∀ (b : Fin 256) (e : Fin 4), (b.val / 4 + 64 * e.val) &&& 51 = (b.val / 4) &&& 51 := by decide +kernel
def mk8 (c : Nat) : Nat → Nat
  | 0 => 0
  | k + 1 => c + 256 * mk8 c k
def st1 (x m : Nat) : Nat := ((x / 2) &&& m) + (x &&& m)
def st2 (x m : Nat) : Nat := ((x / 4) &&& m) + (x &&& m)
def st3 (x m : Nat) : Nat := (x / 16 + x) &&& m
def pops : Nat → Nat → Nat
  | 0, _ => 0
  | k + 1, x => pop3 (x % 256) + 256 * pops k (x / 256)
theorem st1_byte {b y m : Nat} (hb : b < 256) : st1 (b + 256 * y) (85 + 256 * m) = pop1 b + 256 * st1 y m := by
  have e1 : (b + 256 * y) / 2 = (b / 2 + 128 * (y % 2)) + 256 * (y / 2) := by omega
  have e2 := sh1 ⟨b, hb⟩ ⟨y % 2, by omega⟩
  simp only at e2
  unfold st1 pop1
  rw [e1, and_byte (by omega) (by decide), and_byte hb (by decide), e2]
  omega
theorem st2_byte {b y m : Nat} (hb : b < 256) : st2 (b + 256 * y) (51 + 256 * m) = (((b / 4) &&& 51) + (b &&& 51)) + 256 * st2 y m := by
  have e1 : (b + 256 * y) / 4 = (b / 4 + 64 * (y % 4)) + 256 * (y / 4) := by omega
  have e2 := sh2 ⟨b, hb⟩ ⟨y % 4, by omega⟩
  simp only at e2
  unfold st2
  rw [e1, and_byte (by omega) (by decide), and_byte hb (by decide), e2]
  omega
theorem st3_byte {b y m : Nat} (hb : b ≤ 68) (h1 : b / 16 ≤ 4) (hy : y % 16 ≤ 4) : st3 (b + 256 * y) (15 + 256 * m) = ((b / 16 + b) &&& 15) + 256 * st3 y m := by
  unfold st3
  rw [show (b + 256 * y) / 16 + (b + 256 * y) = (b / 16 + b + 16 * (y % 16)) + 256 * (y / 16 + y) by omega, and_byte (by omega) (by decide)]
  have e : ∀ z : Nat, z &&& 15 = z % 16 := fun z => Nat.and_two_pow_sub_one_eq_mod z 4
  rw [e, e]
  omega
theorem st_all : ∀ (k x : Nat), x < 256 ^ k → st3 (st2 (st1 x (mk8 85 k)) (mk8 51 k)) (mk8 15 k) = pops k x ∧ st2 (st1 x (mk8 85 k)) (mk8 51 k) % 16 ≤ 4
  | 0, x, _ => by simp [mk8, st1, st2, st3, pops]
  | k + 1, x, h => by
    obtain ⟨h1, h2⟩ := st_all k (x / 256) (by rw [Nat.div_lt_iff_lt_mul (by decide), ← Nat.pow_succ]; exact h)
    have hb : x % 256 < 256 := Nat.mod_lt _ (by decide)
    obtain ⟨p1, p2, p3, p4, p5, p6⟩ := pop_at hb
    have ex : x = x % 256 + 256 * (x / 256) := by omega
    have e1 : st1 x (mk8 85 (k + 1)) = pop1 (x % 256) + 256 * st1 (x / 256) (mk8 85 k) := by
      conv => lhs; rw [ex]
      exact st1_byte hb
    have e2 : st2 (st1 x (mk8 85 (k + 1))) (mk8 51 (k + 1)) = pop2 (x % 256) + 256 * st2 (st1 (x / 256) (mk8 85 k)) (mk8 51 k) := by
      rw [e1]; exact st2_byte p1
    refine ⟨?_, ?_⟩
    · rw [e2]
      show st3 _ (15 + 256 * mk8 15 k) = _
      rw [st3_byte p2 p5 h2, h1]
      rfl
    · rw [e2]; omega
def ones (x : Nat) : Nat := (((pops 8 x + pops 8 x / 256) + (pops 8 x + pops 8 x / 256) / 65536) + ((pops 8 x + pops 8 x / 256) + (pops 8 x + pops 8 x / 256) / 65536) / 4294967296) % 128
theorem sum8 {a0 a1 a2 a3 a4 a5 a6 a7 : Nat} (h0 : a0 ≤ 8) (h1 : a1 ≤ 8) (h2 : a2 ≤ 8) (h3 : a3 ≤ 8) (h4 : a4 ≤ 8) (h5 : a5 ≤ 8) (h6 : a6 ≤ 8) (h7 : a7 ≤ 8) {x3 x4 x5 : Nat}
    (e3 : x3 = a0 + 256 * (a1 + 256 * (a2 + 256 * (a3 + 256 * (a4 + 256 * (a5 + 256 * (a6 + 256 * (a7 + 256 * 0)))))))) (e4 : x4 = x3 + x3 / 256) (e5 : x5 = x4 + x4 / 65536) :
    x3 < 2 ^ 60 ∧ x4 < 2 ^ 61 ∧ x5 < 2 ^ 62 ∧ (x5 + x5 / 4294967296) % 128 = a0 + a1 + a2 + a3 + a4 + a5 + a6 + a7 := by
  have f3 : x3 / 256 = a1 + 256 * (a2 + 256 * (a3 + 256 * (a4 + 256 * (a5 + 256 * (a6 + 256 * a7))))) := by omega
  rw [f3] at e4
  have g4 : x4 = (a0 + a1) + 256 * ((a1 + a2) + 256 * ((a2 + a3) + 256 * ((a3 + a4) + 256 * ((a4 + a5) + 256 * ((a5 + a6) + 256 * ((a6 + a7) + 256 * a7)))))) := by omega
  have f4 : x4 / 65536 = (a2 + a3) + 256 * ((a3 + a4) + 256 * ((a4 + a5) + 256 * ((a5 + a6) + 256 * ((a6 + a7) + 256 * a7)))) := by
    clear e3 e4 e5 f3
    omega
  rw [f4] at e5
  have b3 : x3 < 2 ^ 60 := by clear e4 e5 f3 f4 g4; omega
  have b4 : x4 < 2 ^ 61 := by clear e3 e4 e5 f3 f4; omega
  have g5 : x5 = (a0 + a1 + a2 + a3) + 256 * ((a1 + a2 + a3 + a4) + 256 * ((a2 + a3 + a4 + a5) + 256 * ((a3 + a4 + a5 + a6) + 256 * ((a4 + a5 + a6 + a7) + 256 * ((a5 + a6 + a7) + 256 * ((a6 + a7) + 256 * a7)))))) := by clear e3 e4 f3 f4 b3 b4; omega
  clear e3 e4 e5 f3 f4 g4
  have b5 : x5 < 2 ^ 62 := by omega
  have f5 : x5 / 4294967296 = (a4 + a5 + a6 + a7) + 256 * ((a5 + a6 + a7) + 256 * ((a6 + a7) + 256 * a7)) := by omega
  refine ⟨b3, b4, b5, ?_⟩
  rw [f5]
  clear b3 b4 b5 f5
  omega
theorem zero8 {x : Nat} (h : x < 2 ^ 64) {d0 d1 d2 d3 d4 d5 d6 d7 : Nat} (e0 : d0 = x % 256) (e1 : d1 = x / 256 % 256) (e2 : d2 = x / 256 / 256 % 256) (e3 : d3 = x / 256 / 256 / 256 % 256) (e4 : d4 = x / 256 / 256 / 256 / 256 % 256) (e5 : d5 = x / 256 / 256 / 256 / 256 / 256 % 256)
    (e6 : d6 = x / 256 / 256 / 256 / 256 / 256 / 256 % 256) (e7 : d7 = x / 256 / 256 / 256 / 256 / 256 / 256 / 256 % 256) : (d0 = 0 ∧ d1 = 0 ∧ d2 = 0 ∧ d3 = 0 ∧ d4 = 0 ∧ d5 = 0 ∧ d6 = 0 ∧ d7 = 0) ↔ x = 0 := by
  have step : ∀ y : Nat, y = 256 * (y / 256) + y % 256 := fun y => by omega
  have hb : x / 256 / 256 / 256 / 256 / 256 / 256 / 256 < 256 := by
    simp only [Nat.div_div_eq_div_mul]
    exact Nat.div_lt_of_lt_mul (by omega)
  have s0 := step x
  have s1 := step (x / 256)
  have s2 := step (x / 256 / 256)
  have s3 := step (x / 256 / 256 / 256)
  have s4 := step (x / 256 / 256 / 256 / 256)
  have s5 := step (x / 256 / 256 / 256 / 256 / 256)
  have s6 := step (x / 256 / 256 / 256 / 256 / 256 / 256)
  have s7 : x / 256 / 256 / 256 / 256 / 256 / 256 / 256 = d7 := by rw [e7, Nat.mod_eq_of_lt hb]
  rw [← e0] at s0
  rw [← e1] at s1
  rw [← e2] at s2
  rw [← e3] at s3
  rw [← e4] at s4
  rw [← e5] at s5
  rw [← e6] at s6
  clear e0 e1 e2 e3 e4 e5 e6 e7 hb step h
  generalize x / 256 / 256 / 256 / 256 / 256 / 256 / 256 = y7 at *
  generalize x / 256 / 256 / 256 / 256 / 256 / 256 = y6 at *
  generalize x / 256 / 256 / 256 / 256 / 256 = y5 at *
  generalize x / 256 / 256 / 256 / 256 = y4 at *
  generalize x / 256 / 256 / 256 = y3 at *
  generalize x / 256 / 256 = y2 at *
  generalize x / 256 = y1 at *
  omega
theorem sumz {a0 a1 a2 a3 a4 a5 a6 a7 : Nat} : a0 + a1 + a2 + a3 + a4 + a5 + a6 + a7 = 0 ↔ (a0 = 0 ∧ a1 = 0 ∧ a2 = 0 ∧ a3 = 0 ∧ a4 = 0 ∧ a5 = 0 ∧ a6 = 0 ∧ a7 = 0) := by omega
theorem sumle {a0 a1 a2 a3 a4 a5 a6 a7 : Nat} (h0 : a0 ≤ 8) (h1 : a1 ≤ 8) (h2 : a2 ≤ 8) (h3 : a3 ≤ 8) (h4 : a4 ≤ 8) (h5 : a5 ≤ 8) (h6 : a6 ≤ 8) (h7 : a7 ≤ 8) : a0 + a1 + a2 + a3 + a4 + a5 + a6 + a7 ≤ 64 := by omega
theorem ones_facts {x : Nat} (h : x < 2 ^ 64) : pops 8 x < 2 ^ 60 ∧ pops 8 x + pops 8 x / 256 < 2 ^ 61 ∧ (pops 8 x + pops 8 x / 256) + (pops 8 x + pops 8 x / 256) / 65536 < 2 ^ 62 ∧ (ones x = 0 ↔ x = 0) ∧ ones x ≤ 64 := by
  have hp : ∀ y, pop3 (y % 256) ≤ 8 ∧ (pop3 (y % 256) = 0 ↔ y % 256 = 0) := fun y => by
    obtain ⟨_, _, p3, p4, _⟩ := pop_at (b := y % 256) (Nat.mod_lt _ (by decide))
    exact ⟨p3, p4⟩
  have q0 := hp x
  have q1 := hp (x / 256)
  have q2 := hp (x / 256 / 256)
  have q3 := hp (x / 256 / 256 / 256)
  have q4 := hp (x / 256 / 256 / 256 / 256)
  have q5 := hp (x / 256 / 256 / 256 / 256 / 256)
  have q6 := hp (x / 256 / 256 / 256 / 256 / 256 / 256)
  have q7 := hp (x / 256 / 256 / 256 / 256 / 256 / 256 / 256)
  have hz := zero8 h rfl rfl rfl rfl rfl rfl rfl rfl
  obtain ⟨b3, b4, b5, hs⟩ := sum8 q0.1 q1.1 q2.1 q3.1 q4.1 q5.1 q6.1 q7.1 rfl rfl rfl
  have e : pops 8 x = pop3 (x % 256) + 256 * (pop3 (x / 256 % 256) + 256 * (pop3 (x / 256 / 256 % 256) + 256 * (pop3 (x / 256 / 256 / 256 % 256) + 256 * (pop3 (x / 256 / 256 / 256 / 256 % 256) + 256 * (pop3 (x / 256 / 256 / 256 / 256 / 256 % 256) + 256 * (pop3 (x / 256 / 256 / 256 / 256 / 256 / 256 % 256) + 256 * (pop3 (x / 256 / 256 / 256 / 256 / 256 / 256 / 256 % 256) + 256 * 0))))))) := by simp only [pops]
  rw [← e] at b3 b4 b5 hs
  have ho : ones x = pop3 (x % 256) + pop3 (x / 256 % 256) + pop3 (x / 256 / 256 % 256) + pop3 (x / 256 / 256 / 256 % 256) + pop3 (x / 256 / 256 / 256 / 256 % 256) + pop3 (x / 256 / 256 / 256 / 256 / 256 % 256) + pop3 (x / 256 / 256 / 256 / 256 / 256 / 256 % 256) + pop3 (x / 256 / 256 / 256 / 256 / 256 / 256 / 256 % 256) := hs
  refine ⟨b3, b4, b5, ?_, ?_⟩
  · rw [ho, ← hz, ← q0.2, ← q1.2, ← q2.2, ← q3.2, ← q4.2, ← q5.2, ← q6.2, ← q7.2]
    exact sumz
  · rw [ho]
    exact sumle q0.1 q1.1 q2.1 q3.1 q4.1 q5.1 q6.1 q7.1
end Go.AL
end
section
namespace Go.Proofs.YtclbobielhllmaaGreat
open Go Go.AL
set_option linter.unusedVariables false
set_option linter.unusedSimpArgs false
def nops (n : Nd) : List Int := if two n.op = true then [n.a, n.b] else if one n.op = true then [n.a] else []
structure NdAt (vars : Int) (i : Nat) (n : Nd) : Prop where
  op : 1 ≤ n.op ∧ n.op ≤ 8
  inp : n.op = 1 → 0 ≤ n.a ∧ n.a < vars
  a : 3 ≤ n.op → 0 ≤ n.a ∧ n.a < i
  b : two n.op = true → 0 ≤ n.b ∧ n.b < i
theorem ndat {n : Nd} {vars : Int} {i : Nat} (h : n.wrong vars i = 0) : NdAt vars i n := by
  obtain ⟨h1, h2, h3, h4⟩ := wrong_ok h
  exact ⟨h1, h2, h3, h4⟩
theorem two_ge {op : Int} (h : two op = true) : 3 ≤ op ∧ op ≤ 6 := by
  have := of_decide_eq_true h
  omega
theorem one_ge {op : Int} (h : one op = true) : op = 7 ∨ op = 8 := of_decide_eq_true h
theorem two_not {op : Int} (h : ¬ two op = true) : ¬ (op = 3 ∨ op = 4 ∨ op = 5 ∨ op = 6) := fun hc => h (decide_eq_true hc)
theorem one_not {op : Int} (h : ¬ one op = true) : ¬ (op = 7 ∨ op = 8) := fun hc => h (decide_eq_true hc)
theorem nops_lt {n : Nd} {vars : Int} {i : Nat} (h : NdAt vars i n) : ∀ k, k ∈ nops n → 0 ≤ k ∧ k < i := by
  intro k hk
  unfold nops at hk
  split at hk
  · rename_i h2
    have := h.a (two_ge h2).1
    have := h.b h2
    simp at hk
    rcases hk with rfl | rfl <;> assumption
  · split at hk
    · rename_i h1
      have := h.a (by rcases one_ge h1 with e | e <;> omega)
      simp at hk
      subst hk
      exact this
    · cases hk
def walkL {α : Type} (f : List α → Nd → α) (ns : List Nd) : List α := ns.foldl (fun l n => l ++ [f l n]) []
theorem walkL_app {α : Type} {f : List α → Nd → α} {ns : List Nd} {n : Nd} : walkL f (ns ++ [n]) = walkL f ns ++ [f (walkL f ns) n] := by
  unfold walkL
  rw [List.foldl_append]
  rfl
theorem walkL_succ {α : Type} {f : List α → Nd → α} {ns : List Nd} {k : Nat} {n : Nd} (h : ns[k]? = some n) : walkL f (ns.take (k + 1)) = walkL f (ns.take k) ++ [f (walkL f (ns.take k)) n] := by
  rw [List.take_add_one, h]
  exact walkL_app
theorem walkL_len {α : Type} {f : List α → Nd → α} (ns : List Nd) : (walkL f ns).length = ns.length := by
  have key : ∀ (l : List Nd) (acc : List α), (l.foldl (fun l n => l ++ [f l n]) acc).length = acc.length + l.length := by
    intro l
    induction l with
    | nil => intro acc; simp
    | cons n l ih => intro acc; rw [List.foldl_cons, ih]; simp; omega
  have := key ns []
  rw [List.length_nil, Nat.zero_add] at this
  exact this
theorem walkL_pre {α : Type} {f : List α → Nd → α} {ns : List Nd} {k m : Nat} (hkm : k ≤ m) {i : Nat} (hi : i < k) (hl : k ≤ ns.length) : (walkL f (ns.take m))[i]? = (walkL f (ns.take k))[i]? := by
  induction m with
  | zero => obtain rfl : k = 0 := by omega
            omega
  | succ m ih =>
    by_cases e : k = m + 1
    · subst e; rfl
    · by_cases hm : m < ns.length
      · rw [walkL_succ (List.getElem?_eq_getElem hm), List.getElem?_append_left (by rw [walkL_len]; simp; omega)]
        exact ih (by omega)
      · rw [List.take_of_length_le (by omega)]
        rw [List.take_of_length_le (by omega)] at ih
        exact ih (by omega)
theorem walkL_at {α : Type} {f : List α → Nd → α} {ns : List Nd} {k : Nat} {n : Nd} (h : ns[k]? = some n) : (walkL f ns)[k]? = some (f (walkL f (ns.take k)) n) := by
  have hk := (List.getElem?_eq_some_iff.1 h).1
  have h1 := walkL_pre (f := f) (ns := ns) (k := k + 1) (m := ns.length) (by omega) (i := k) (by omega) (by omega)
  rw [List.take_length] at h1
  rw [h1, walkL_succ h, List.getElem?_append_right (by rw [walkL_len, List.length_take]; omega), walkL_len, List.length_take, Nat.min_eq_left (by omega), Nat.sub_self]
  rfl
def mskN (ms : List Nat) (n : Nd) : Nat := if n.op = 1 then 2 ^ n.a.toNat else (nops n).foldl (fun m k => m ||| ms.getD k.toNat 0) 0
def msks (ns : List Nd) : List Nat := walkL mskN ns
def hangN (j : Nat) (on : List Bool) (n : Nd) : Bool := (nops n).foldl (fun b k => b || on.getD k.toNat false) (decide (n.op = 1 ∧ n.a = j))
def hangs (j : Nat) (ns : List Nd) : List Bool := walkL (hangN j) ns
theorem fold_bit (ms : List Nat) (on : List Bool) (j : Nat) (hh : ∀ i, (ms.getD i 0).testBit j = on.getD i false) : ∀ (l : List Int) (m : Nat) (b : Bool), m.testBit j = b → (l.foldl (fun m k => m ||| ms.getD k.toNat 0) m).testBit j = l.foldl (fun b k => b || on.getD k.toNat false) b
  | [], m, b, h => h
  | k :: l, m, b, h => by
    rw [List.foldl_cons, List.foldl_cons]
    exact fold_bit ms on j hh l _ _ (by rw [Nat.testBit_or, h, hh])
theorem nops_one {n : Nd} (h : n.op = 1) : nops n = [] := by
  unfold nops
  rw [h]
  rfl
theorem hang_bit {vars : Int} {ns : List Nd} (hok : ∀ (k : Nat) (n : Nd), ns[k]? = some n → NdAt vars k n) (j : Nat) : ∀ i, ((msks ns).getD i 0).testBit j = (hangs j ns).getD i false := by
  have key : ∀ k, k ≤ ns.length → ∀ i, ((msks (ns.take k)).getD i 0).testBit j = (hangs j (ns.take k)).getD i false := by
    intro k
    induction k with
    | zero => intro _ i; simp [msks, hangs, walkL]
    | succ k ih =>
      intro hk i
      have hn : ns[k]? = some (ns[k]'(by omega)) := List.getElem?_eq_getElem (by omega)
      have ih' := ih (by omega)
      have hlm : (msks (ns.take k)).length = k := by unfold msks; rw [walkL_len, List.length_take]; omega
      have hlh : (hangs j (ns.take k)).length = k := by unfold hangs; rw [walkL_len, List.length_take]; omega
      have e1 : msks (ns.take (k + 1)) = msks (ns.take k) ++ [mskN (msks (ns.take k)) (ns[k]'(by omega))] := walkL_succ hn
      have e2 : hangs j (ns.take (k + 1)) = hangs j (ns.take k) ++ [hangN j (hangs j (ns.take k)) (ns[k]'(by omega))] := walkL_succ hn
      rw [e1, e2]
      by_cases hi : i < k
      · have := ih' i
        rw [List.getD_eq_getElem?_getD, List.getD_eq_getElem?_getD] at this ⊢
        rw [List.getElem?_append_left (by omega), List.getElem?_append_left (by omega)]
        exact this
      · rw [List.getD_eq_getElem?_getD, List.getD_eq_getElem?_getD, List.getElem?_append_right (by omega), List.getElem?_append_right (by omega), hlm, hlh]
        cases hq : i - k with
        | succ q => simp
        | zero =>
          simp only [List.getElem?_cons_zero, Option.getD_some]
          unfold mskN hangN
          have hv := hok k _ hn
          by_cases h1 : (ns[k]'(by omega)).op = 1
          · rw [if_pos h1, nops_one h1]
            have := hv.inp h1
            simp only [List.foldl_nil, h1, true_and, Nat.testBit_two_pow]
            by_cases ej : (ns[k]'(by omega)).a.toNat = j
            · rw [decide_eq_true ej, decide_eq_true (by omega)]
            · rw [decide_eq_false ej, decide_eq_false (by omega)]
          · rw [if_neg h1]
            exact fold_bit _ _ j ih' _ 0 _ (by simp [h1])
  have := key ns.length (Nat.le_refl _)
  rwa [List.take_length] at this
theorem msk_lt {vars : Int} {ns : List Nd} (hok : ∀ (k : Nat) (n : Nd), ns[k]? = some n → NdAt vars k n) : ∀ i, (msks ns).getD i 0 < 2 ^ vars.toNat := by
  have key : ∀ k, k ≤ ns.length → ∀ i, (msks (ns.take k)).getD i 0 < 2 ^ vars.toNat := by
    intro k
    induction k with
    | zero => intro _ i; simp [msks, walkL, Nat.two_pow_pos]
    | succ k ih =>
      intro hk i
      have hn : ns[k]? = some (ns[k]'(by omega)) := List.getElem?_eq_getElem (by omega)
      have ih' := ih (by omega)
      have hlm : (msks (ns.take k)).length = k := by unfold msks; rw [walkL_len, List.length_take]; omega
      have e1 : msks (ns.take (k + 1)) = msks (ns.take k) ++ [mskN (msks (ns.take k)) (ns[k]'(by omega))] := walkL_succ hn
      rw [e1]
      by_cases hi : i < k
      · have := ih' i
        rw [List.getD_eq_getElem?_getD] at this ⊢
        rw [List.getElem?_append_left (by omega)]
        exact this
      · rw [List.getD_eq_getElem?_getD, List.getElem?_append_right (by omega), hlm]
        cases hq : i - k with
        | succ q => simp [Nat.two_pow_pos]
        | zero =>
          simp only [List.getElem?_cons_zero, Option.getD_some]
          unfold mskN
          have hv := hok k _ hn
          by_cases h1 : (ns[k]'(by omega)).op = 1
          · rw [if_pos h1]
            have := hv.inp h1
            exact Nat.pow_lt_pow_right (by decide) (by omega)
          · rw [if_neg h1]
            have hf : ∀ (l : List Int) (m : Nat), m < 2 ^ vars.toNat → l.foldl (fun m k' => m ||| (msks (ns.take k)).getD k'.toNat 0) m < 2 ^ vars.toNat := by
              intro l
              induction l with
              | nil => intro m hm; exact hm
              | cons x l ihl => intro m hm; rw [List.foldl_cons]; exact ihl _ (Nat.or_lt_two_pow hm (ih' _))
            exact hf _ 0 (Nat.two_pow_pos _)
  have := key ns.length (Nat.le_refl _)
  rwa [List.take_length] at this
def frB (ms : List Nat) (k : Int) : Bool := decide (ms.getD k.toNat 0 = 0)
theorem free_iff {vars : Int} {ns : List Nd} (hok : ∀ (k : Nat) (n : Nd), ns[k]? = some n → NdAt vars k n) (i : Nat) : (msks ns).getD i 0 = 0 ↔ ∀ j : Nat, j < vars.toNat → (hangs j ns).getD i false = false := by
  constructor
  · intro h j _
    rw [← hang_bit hok j i, h]
    exact Nat.zero_testBit j
  · intro h
    apply Nat.eq_of_testBit_eq
    intro j
    rw [Nat.zero_testBit]
    by_cases hj : j < vars.toNat
    · rw [hang_bit hok j i]; exact h j hj
    · exact Nat.testBit_lt_two_pow (Nat.lt_of_lt_of_le (msk_lt hok i) (Nat.pow_le_pow_right (by decide) (by omega)))
end Go.Proofs.YtclbobielhllmaaGreat
end
section
namespace Go.Proofs.YtclbobielhllmaaGreat
open Go Go.AL
set_option linter.unusedVariables false
set_option linter.unusedSimpArgs false
def gD (d : List Int) (k : Int) : Int := d.getD k.toNat default
def degN (fr : Int → Bool) (d : List Int) (n : Nd) : Int :=
  if n.op = 1 then 1 else if n.op = 2 ∨ (n.op = 8 ∧ n.c = 0) then 0 else if gD d n.a = -1 ∨ (two n.op = true ∧ gD d n.b = -1) then -1 else
  if n.op = 7 then gD d n.a else if n.op = 5 then min (gD d n.a + gD d n.b) 1099511627776 else if n.op = 6 then (if fr n.b = true then gD d n.a else -1) else
  if n.op = 8 then (if 0 < n.c then min (n.c * gD d n.a) 1099511627776 else if fr n.a = true then 0 else -1) else max (gD d n.a) (gD d n.b)
def degs (fr : Int → Bool) (ns : List Nd) : List Int := walkL (degN fr) ns
def okD (x : Int) : Prop := -1 ≤ x ∧ x ≤ 1099511627776
theorem degN_ok {fr : Int → Bool} {d : List Int} {n : Nd} (h : ∀ k, okD (gD d k)) (hc : n.op = 8 → -1024 ≤ n.c ∧ n.c ≤ 1024) : okD (degN fr d n) := by
  have ha := h n.a
  have hb := h n.b
  unfold okD at ha hb ⊢
  unfold degN
  split
  · omega
  · split
    · omega
    · rename_i h2
      split
      · omega
      · rename_i h3
        split
        · omega
        · split
          · have : 0 ≤ gD d n.a + gD d n.b ∨ n.op ≠ 5 := by
              by_cases e : n.op = 5
              · have ht : two n.op = true := by rw [e]; rfl
                have : ¬ gD d n.b = -1 := fun hh => h3 (.inr ⟨ht, hh⟩)
                have : ¬ gD d n.a = -1 := fun hh => h3 (.inl hh)
                exact .inl (by omega)
              · exact .inr e
            omega
          · split
            · split <;> omega
            · split
              · split
                · have hna : ¬ gD d n.a = -1 := fun hh => h3 (.inl hh)
                  have h0 : 0 ≤ n.c * gD d n.a := Int.mul_nonneg (by omega) (by omega)
                  omega
                · split <;> omega
              · omega
theorem degs_ok {fr : Int → Bool} {ns : List Nd} (hc : ∀ n, n ∈ ns → n.op = 8 → -1024 ≤ n.c ∧ n.c ≤ 1024) : ∀ k, okD (gD (degs fr ns) k) := by
  have key : ∀ m, m ≤ ns.length → ∀ k, okD (gD (degs fr (ns.take m)) k) := by
    intro m
    induction m with
    | zero => intro _ k; simp [gD, degs, walkL, okD]
    | succ m ih =>
      intro hm k
      have hn : ns[m]? = some (ns[m]'(by omega)) := List.getElem?_eq_getElem (by omega)
      have ih' := ih (by omega)
      have hl : (degs fr (ns.take m)).length = m := by unfold degs; rw [walkL_len, List.length_take]; omega
      have e1 : degs fr (ns.take (m + 1)) = degs fr (ns.take m) ++ [degN fr (degs fr (ns.take m)) (ns[m]'(by omega))] := walkL_succ hn
      unfold gD
      rw [e1, List.getD_eq_getElem?_getD]
      by_cases hi : k.toNat < m
      · have := ih' k
        unfold gD at this
        rw [List.getD_eq_getElem?_getD] at this
        rw [List.getElem?_append_left (by omega)]
        exact this
      · rw [List.getElem?_append_right (by omega), hl]
        cases hq : k.toNat - m with
        | succ q => simp [okD]
        | zero =>
          simp only [List.getElem?_cons_zero, Option.getD_some]
          exact degN_ok ih' (hc _ (List.mem_of_getElem? hn))
  have := key ns.length (Nat.le_refl _)
  rwa [List.take_length] at this
def bendsN (n : Nd) : List (Int × Int) := if n.op = 5 then [(n.a, n.b)] else if n.op = 6 then [(n.a, n.b), (n.b, n.b)] else if n.op = 8 ∧ n.c ≠ 0 ∧ n.c ≠ 1 then [(n.a, n.a)] else []
def locN (fr : Int → Bool) (n : Nd) : Bool := (bendsN n).all fun p => fr p.1 || fr p.2
def gB (l : List Bool) (k : Int) : Bool := l.getD k.toNat false
def strN (fr : Int → Bool) (st : List Bool) (n : Nd) : Bool := (nops n).all (gB st) && locN fr n
def strs (fr : Int → Bool) (ns : List Nd) : List Bool := walkL (strN fr) ns
structure LiveL (ns : List Nd) (outs : List Int) (l : List Bool) : Prop where
  len : l.length = ns.length
  out : ∀ o, o ∈ outs → gB l o = true
  cl : ∀ (v : Nat) (n : Nd), ns[v]? = some n → l.getD v false = true → ∀ k, k ∈ nops n → gB l k = true
  min : ∀ S : Nat → Prop, (∀ o, o ∈ outs → S o.toNat) → (∀ (v : Nat) (n : Nd), ns[v]? = some n → S v → ∀ k, k ∈ nops n → S k.toNat) → ∀ v, l.getD v false = true → S v
theorem LiveL.uniq {ns : List Nd} {outs : List Int} {l l' : List Bool} (h : LiveL ns outs l) (h' : LiveL ns outs l') : l = l' := by
  apply List.ext_getElem (by rw [h.len, h'.len])
  intro i h1 h2
  have e1 : l.getD i false = l[i] := by rw [List.getD_eq_getElem?_getD, List.getElem?_eq_getElem h1]; rfl
  have e2 : l'.getD i false = l'[i] := by rw [List.getD_eq_getElem?_getD, List.getElem?_eq_getElem h2]; rfl
  rw [← e1, ← e2]
  have a1 := h.min (fun v => l'.getD v false = true) (fun o ho => h'.out o ho) (fun v n hn hv k hk => h'.cl v n hn hv k hk) i
  have a2 := h'.min (fun v => l.getD v false = true) (fun o ho => h.out o ho) (fun v n hn hv k hk => h.cl v n hn hv k hk) i
  cases h3 : l.getD i false
  · cases h4 : l'.getD i false
    · rfl
    · rw [a2 h4] at h3; cases h3
  · rw [a1 h3]
theorem straight_iff {vars : Int} {ns : List Nd} {fr : Int → Bool} (hok : ∀ (k : Nat) (n : Nd), ns[k]? = some n → NdAt vars k n) {o : Int} (ho : 0 ≤ o ∧ o < ns.length) {l : List Bool} (hl : LiveL ns [o] l) :
    gB (strs fr ns) o = true ↔ ∀ (v : Nat) (n : Nd), ns[v]? = some n → l.getD v false = true → locN fr n = true := by
  have hst : ∀ (v : Nat) (n : Nd), ns[v]? = some n → ((strs fr ns).getD v false = true ↔ (∀ k, k ∈ nops n → gB (strs fr ns) k = true) ∧ locN fr n = true) := fun v n hn => by
    have hv := (List.getElem?_eq_some_iff.1 hn).1
    have e := walkL_at (f := strN fr) hn
    have hpre : ∀ k, k ∈ nops n → gB (strs fr ns) k = gB (walkL (strN fr) (ns.take v)) k := fun k hk => by
      have := nops_lt (hok v n hn) k hk
      have h1 := walkL_pre (f := strN fr) (ns := ns) (k := v) (m := ns.length) (by omega) (i := k.toNat) (by omega) (by omega)
      rw [List.take_length] at h1
      unfold gB strs
      rw [List.getD_eq_getElem?_getD, List.getD_eq_getElem?_getD, h1]
    rw [show (strs fr ns).getD v false = strN fr (walkL (strN fr) (ns.take v)) n from by unfold strs; rw [List.getD_eq_getElem?_getD, e]; rfl]
    rw [show strN fr (walkL (strN fr) (ns.take v)) n = ((nops n).all (gB (walkL (strN fr) (ns.take v))) && locN fr n) from rfl, Bool.and_eq_true, List.all_eq_true]
    constructor
    · rintro ⟨h1, h2⟩; exact ⟨fun k hk => by rw [hpre k hk]; exact h1 k hk, h2⟩
    · rintro ⟨h1, h2⟩; exact ⟨fun k hk => by rw [← hpre k hk]; exact h1 k hk, h2⟩
  constructor
  · intro h v n hn hv
    have := hl.min (fun v => (strs fr ns).getD v false = true) (fun x hx => by simp at hx; subst hx; exact h) (fun v n hn hs k hk => ((hst v n hn).1 hs).1 k hk) v hv
    exact ((hst v n hn).1 this).2
  · intro h
    have key : ∀ m, ∀ v, v < m → ∀ n, ns[v]? = some n → l.getD v false = true → (strs fr ns).getD v false = true := by
      intro m
      induction m with
      | zero => intro v hv; omega
      | succ m ih =>
        intro v hv n hn hlv
        refine (hst v n hn).2 ⟨fun k hk => ?_, h v n hn hlv⟩
        have hk2 := nops_lt (hok v n hn) k hk
        have hvl := (List.getElem?_eq_some_iff.1 hn).1
        exact ih k.toNat (by omega) _ (List.getElem?_eq_getElem (by omega)) (hl.cl v n hn hlv k hk)
    exact key ns.length o.toNat (by omega) _ (List.getElem?_eq_getElem (by omega)) (hl.out o (by simp))
end Go.Proofs.YtclbobielhllmaaGreat
end
section
namespace Go.Proofs.YtclbobielhllmaaGreat
open Go Go.AL
set_option linter.unusedVariables false
set_option linter.unusedSimpArgs false
def setK (l : List Bool) (k : Int) : List Bool := l.set k.toNat true
theorem gB_set {l : List Bool} {k j : Int} : gB (setK l k) j = true ↔ (gB l j = true ∨ (j.toNat = k.toNat ∧ k.toNat < l.length)) := by
  unfold gB setK
  rw [List.getD_eq_getElem?_getD, List.getD_eq_getElem?_getD, List.getElem?_set]
  by_cases e : k.toNat = j.toNat
  · rw [if_pos e]
    by_cases h : k.toNat < l.length
    · rw [if_pos h]; simp [e, h]; omega
    · rw [if_neg h]
      rw [List.getElem?_eq_none (by omega)]
      simp; omega
  · rw [if_neg e]
    constructor
    · exact .inl
    · rintro (h | h)
      · exact h
      · exact absurd h.1.symm e
theorem getD_setK {l : List Bool} {k : Int} {v : Nat} : (setK l k).getD v false = true ↔ (l.getD v false = true ∨ (v = k.toNat ∧ k.toNat < l.length)) := by
  have := gB_set (l := l) (k := k) (j := (v : Int))
  unfold gB at this
  rwa [Int.toNat_natCast] at this
structure LiveW (ns : List Nd) (outs : List Int) (L : List Bool) (T : List Int) : Prop where
  len : L.length = ns.length
  tl : ∀ t, t ∈ T → 0 ≤ t ∧ t < ns.length
  out : ∀ o, o ∈ outs → gB L o = true ∨ o ∈ T
  cl : ∀ (v : Nat) (n : Nd), ns[v]? = some n → L.getD v false = true → ∀ k, k ∈ nops n → gB L k = true ∨ k ∈ T
  min : ∀ S : Nat → Prop, (∀ o, o ∈ outs → S o.toNat) → (∀ (v : Nat) (n : Nd), ns[v]? = some n → S v → ∀ k, k ∈ nops n → S k.toNat) → (∀ t, t ∈ T → S t.toNat) ∧ ∀ v, L.getD v false = true → S v
theorem rep_false {n v : Nat} : (List.replicate n false).getD v false = false := by
  rw [List.getD_eq_getElem?_getD, List.getElem?_replicate]
  split <;> rfl
theorem LiveW.start {ns : List Nd} {outs : List Int} (ho : ∀ o, o ∈ outs → 0 ≤ o ∧ o < ns.length) : LiveW ns outs (List.replicate ns.length false) outs :=
  ⟨by simp, ho, fun o h => .inr h, fun v n _ h => (by rw [rep_false] at h; cases h), fun S h1 _ => ⟨h1, fun v h => (by rw [rep_false] at h; cases h)⟩⟩
theorem LiveW.popL {ns : List Nd} {outs : List Int} {L : List Bool} {T : List Int} {i : Int} (h : LiveW ns outs L (T ++ [i])) (hi : gB L i = true) : LiveW ns outs L T := by
  refine ⟨h.len, fun t ht => h.tl t (by simp [ht]), fun o ho => ?_, fun v n hn hv k hk => ?_, fun S h1 h2 => ⟨fun t ht => (h.min S h1 h2).1 t (by simp [ht]), (h.min S h1 h2).2⟩⟩
  · rcases h.out o ho with h1 | h1
    · exact .inl h1
    · rcases List.mem_append.1 h1 with h2 | h2
      · exact .inr h2
      · simp at h2; subst h2; exact .inl hi
  · rcases h.cl v n hn hv k hk with h1 | h1
    · exact .inl h1
    · rcases List.mem_append.1 h1 with h2 | h2
      · exact .inr h2
      · simp at h2; subst h2; exact .inl hi
theorem LiveW.popD {ns : List Nd} {outs : List Int} {L : List Bool} {T : List Int} {i : Int} {n : Nd} {vars : Int} (h : LiveW ns outs L (T ++ [i])) (hn : ns[i.toNat]? = some n) (hv : NdAt vars i.toNat n) : LiveW ns outs (setK L i) (T ++ nops n) := by
  have hit := h.tl i (by simp)
  have hil : i.toNat < L.length := by rw [h.len]; omega
  refine ⟨by unfold setK; rw [List.length_set]; exact h.len, fun t ht => ?_, fun o ho => ?_, fun v m hm hvl k hk => ?_, fun S h1 h2 => ?_⟩
  · rcases List.mem_append.1 ht with h1 | h1
    · exact h.tl t (by simp [h1])
    · have := nops_lt hv t h1
      omega
  · rcases h.out o ho with h1 | h1
    · exact .inl (gB_set.2 (.inl h1))
    · rcases List.mem_append.1 h1 with h2 | h2
      · exact .inr (by simp [h2])
      · simp at h2; subst h2; exact .inl (gB_set.2 (.inr ⟨rfl, hil⟩))
  · rcases getD_setK.1 hvl with h1 | ⟨rfl, _⟩
    · rcases h.cl v m hm h1 k hk with h2 | h2
      · exact .inl (gB_set.2 (.inl h2))
      · rcases List.mem_append.1 h2 with h3 | h3
        · exact .inr (by simp [h3])
        · simp at h3; subst h3; exact .inl (gB_set.2 (.inr ⟨rfl, hil⟩))
    · rw [hn] at hm
      obtain rfl := Option.some.inj hm
      exact .inr (by simp [hk])
  · obtain ⟨q1, q2⟩ := h.min S h1 h2
    have hSi : S i.toNat := q1 i (by simp)
    refine ⟨fun t ht => ?_, fun v hvl => ?_⟩
    · rcases List.mem_append.1 ht with h3 | h3
      · exact q1 t (by simp [h3])
      · exact h2 _ n hn hSi t h3
    · rcases getD_setK.1 hvl with h3 | ⟨rfl, _⟩
      · exact q2 v h3
      · exact hSi
theorem LiveW.done {ns : List Nd} {outs : List Int} {L : List Bool} (h : LiveW ns outs L []) : LiveL ns outs L :=
  ⟨h.len, fun o ho => (h.out o ho).resolve_right (by simp), fun v n hn hv k hk => (h.cl v n hn hv k hk).resolve_right (by simp), fun S h1 h2 v hv => (h.min S h1 h2).2 v hv⟩
theorem count_set {L : List Bool} {i : Int} (hi : i.toNat < L.length) (h : gB L i = false) : (setK L i).count false + 1 = L.count false := by
  unfold gB at h
  rw [List.getD_eq_getElem?_getD, List.getElem?_eq_getElem hi] at h
  simp only [Option.getD_some] at h
  unfold setK
  have h1 : 0 < L.count false := List.count_pos_iff.2 (by rw [← h]; exact List.getElem_mem hi)
  rw [List.count_set hi, h]
  simp
  omega
structure LiveD (ns : List Nd) (outs : List Int) (L : List Bool) (k : Nat) : Prop where
  len : L.length = ns.length
  out : ∀ o, o ∈ outs → gB L o = true
  cl : ∀ (v : Nat) (n : Nd), k ≤ v → ns[v]? = some n → L.getD v false = true → ∀ j, j ∈ nops n → gB L j = true
  min : ∀ S : Nat → Prop, (∀ o, o ∈ outs → S o.toNat) → (∀ (v : Nat) (n : Nd), ns[v]? = some n → S v → ∀ k, k ∈ nops n → S k.toNat) → ∀ v, L.getD v false = true → S v
theorem LiveD.done {ns : List Nd} {outs : List Int} {L : List Bool} (h : LiveD ns outs L 0) : LiveL ns outs L := ⟨h.len, h.out, fun v n => h.cl v n (Nat.zero_le _), h.min⟩
theorem LiveD.skip {ns : List Nd} {outs : List Int} {L : List Bool} {k : Nat} (h : LiveD ns outs L (k + 1)) (hk : L.getD k false = false) : LiveD ns outs L k :=
  ⟨h.len, h.out, fun v n hv hn hl j hj => by
    by_cases e : v = k
    · subst e; rw [hk] at hl; cases hl
    · exact h.cl v n (by omega) hn hl j hj, h.min⟩
def setAll (L : List Bool) (l : List Int) : List Bool := l.foldl setK L
theorem setAll_len : ∀ (l : List Int) (L : List Bool), (setAll L l).length = L.length
  | [], L => rfl
  | k :: l, L => by
    show (setAll (setK L k) l).length = _
    rw [setAll_len l]
    unfold setK
    rw [List.length_set]
theorem setAll_get : ∀ (l : List Int) (L : List Bool), (∀ k, k ∈ l → k.toNat < L.length) → ∀ v, (setAll L l).getD v false = true ↔ (L.getD v false = true ∨ ∃ k, k ∈ l ∧ k.toNat = v)
  | [], L, _, v => by simp [setAll]
  | k :: l, L, h, v => by
    show (setAll (setK L k) l).getD v false = true ↔ _
    rw [setAll_get l (setK L k) (fun j hj => by unfold setK; rw [List.length_set]; exact h j (by simp [hj])) v, getD_setK]
    have hk := h k (by simp)
    constructor
    · rintro ((h1 | ⟨h1, _⟩) | ⟨j, h1, h2⟩)
      · exact .inl h1
      · exact .inr ⟨k, by simp, h1.symm⟩
      · exact .inr ⟨j, by simp [h1], h2⟩
    · rintro (h1 | ⟨j, h1, h2⟩)
      · exact .inl (.inl h1)
      · rcases List.mem_cons.1 h1 with rfl | h3
        · exact .inl (.inr ⟨h2.symm, hk⟩)
        · exact .inr ⟨j, h3, h2⟩
theorem LiveD.start {ns : List Nd} {outs : List Int} (ho : ∀ o, o ∈ outs → 0 ≤ o ∧ o < ns.length) : LiveD ns outs (setAll (List.replicate ns.length false) outs) ns.length := by
  have hl : ∀ k, k ∈ outs → k.toNat < (List.replicate ns.length false).length := fun k hk => by have := ho k hk; simp; omega
  have hg := setAll_get outs (List.replicate ns.length false) hl
  refine ⟨by rw [setAll_len]; simp, fun o h => (hg o.toNat).2 (.inr ⟨o, h, rfl⟩), fun v n hv hn => ?_, fun S h1 h2 v hv => ?_⟩
  · have := (List.getElem?_eq_some_iff.1 hn).1
    omega
  · rcases (hg v).1 hv with h3 | ⟨k, h3, rfl⟩
    · rw [rep_false] at h3; cases h3
    · exact h1 k h3
theorem LiveD.step {ns : List Nd} {outs : List Int} {L : List Bool} {k : Nat} {n : Nd} {vars : Int} (h : LiveD ns outs L (k + 1)) (hn : ns[k]? = some n) (hv : NdAt vars k n) (hk : L.getD k false = true) : LiveD ns outs (setAll L (nops n)) k := by
  have hkl := (List.getElem?_eq_some_iff.1 hn).1
  have hl : ∀ j, j ∈ nops n → j.toNat < L.length := fun j hj => by have := nops_lt hv j hj; rw [h.len]; omega
  have hg := setAll_get (nops n) L hl
  have hgB : ∀ j : Int, gB (setAll L (nops n)) j = true ↔ (L.getD j.toNat false = true ∨ ∃ k, k ∈ nops n ∧ k.toNat = j.toNat) := fun j => hg j.toNat
  refine ⟨by rw [setAll_len]; exact h.len, fun o ho => (hgB o).2 (.inl (h.out o ho)), fun v m hvk hm hvl j hj => ?_, fun S h1 h2 v hvl => ?_⟩
  · by_cases e : v = k
    · subst e
      rw [hn] at hm
      obtain rfl := Option.some.inj hm
      exact (hgB j).2 (.inr ⟨j, hj, rfl⟩)
    · rcases (hg v).1 hvl with h3 | ⟨q, h3, h4⟩
      · exact (hgB j).2 (.inl (h.cl v m (by omega) hm h3 j hj))
      · have := nops_lt hv q h3
        omega
  · rcases (hg v).1 hvl with h3 | ⟨q, h3, rfl⟩
    · exact h.min S h1 h2 v h3
    · exact h2 k n hn (h.min S h1 h2 k hk) q h3
noncomputable def liveO (ns : List Nd) (outs : List Int) : List Bool := Classical.epsilon (fun l => LiveL ns outs l)
theorem liveO_eq {ns : List Nd} {outs : List Int} {l : List Bool} (h : LiveL ns outs l) : liveO ns outs = l := (Classical.epsilon_spec (p := fun l => LiveL ns outs l) ⟨l, h⟩).uniq h
theorem setAll_take {L : List Bool} {l : List Int} {k : Nat} {x : Int} (h : l[k]? = some x) : setAll L (l.take (k + 1)) = setK (setAll L (l.take k)) x := by
  unfold setAll
  rw [List.take_add_one, h, List.foldl_append]
  rfl
end Go.Proofs.YtclbobielhllmaaGreat
end
section
namespace Go.Proofs.YtclbobielhllmaaGreat
open Go Go.AL
set_option linter.unusedVariables false
set_option linter.unusedSimpArgs false
theorem nops_two {n : Nd} (h : two n.op = true) : nops n = [n.a, n.b] := by unfold nops; rw [if_pos h]
theorem nops_onef {n : Nd} (h : ¬ two n.op = true) (h1 : one n.op = true) : nops n = [n.a] := by unfold nops; rw [if_neg h, if_pos h1]
theorem nops_none {n : Nd} (h : ¬ two n.op = true) (h1 : ¬ one n.op = true) : nops n = [] := by unfold nops; rw [if_neg h, if_neg h1]
theorem ofz_two {h : Heap} {id : Nat} {x y : Int} {ex : Bool} (hid : h[id]? = some (.arr 1 [[.int .i64 x], [.int .i64 y]] ex)) {ex' : Bool} {cap : Nat} : OFz h (.osl id 1 0 2 cap ex') (ints [x, y]) := by
  have := OFz.osl (h := h) id 1 0 2 cap ex' ex _ hid (by simp) (fun e he => by simp at he; rcases he with rfl | rfl <;> rfl)
  simpa [ints, intE] using this
theorem ofz_one {h : Heap} {id : Nat} {x : Int} {ex : Bool} (hid : h[id]? = some (.arr 1 [[.int .i64 x]] ex)) {ex' : Bool} {cap : Nat} : OFz h (.osl id 1 0 1 cap ex') (ints [x]) := by
  have := OFz.osl (h := h) id 1 0 1 cap ex' ex _ hid (by simp) (fun e he => by simp at he; subst he; rfl)
  simpa [ints, intE] using this
set_option maxRecDepth 100000 in
theorem pone_fold (op : Int) : APure Tryz.prog 81 [.int .i64 op] (.bool (one op)) := by
  refine apure_of (wp81 rfl rfl ?_)
  by_cases c7 : op = 7
  · subst c7; simp (maxSteps := 4000000) only [↓packA, ↓reduceIte, packB, pureOp, quietOp, loadOp, quietB, fr0, cellsK, implies_true, ite_true, ite_false, eq_self, ne_eq, reduceCtorEq, Nat.reduceLT, Nat.reduceLeDiff, Nat.reduceAdd, Nat.reduceMul, Nat.reduceBEq, Nat.reduceEqDiff, Int.reduceToNat, Int.reduceLT, Int.reduceLE, Nat.reduceSub, pl81, ft57, concA, Int.reduceAdd, Int.reduceSub, Int.reduceNeg, Int.reduceMul, Int.reduceEq, Int.reduceBEq, Int.reduceBNe]
    exact .pure _ rfl
  by_cases c8 : op = 8
  · subst c8; simp (maxSteps := 4000000) only [↓packA, ↓reduceIte, packB, pureOp, quietOp, loadOp, quietB, fr0, cellsK, implies_true, ite_true, ite_false, eq_self, ne_eq, reduceCtorEq, Nat.reduceLT, Nat.reduceLeDiff, Nat.reduceAdd, Nat.reduceMul, Nat.reduceBEq, Nat.reduceEqDiff, Int.reduceToNat, Int.reduceLT, Int.reduceLE, Nat.reduceSub, pl81, ft57, concA, Int.reduceAdd, Int.reduceSub, Int.reduceNeg, Int.reduceMul, Int.reduceEq, Int.reduceBEq, Int.reduceBNe]
    exact .pure _ rfl
  · rw [show one op = false from decide_eq_false (by omega)]
    simp (maxSteps := 4000000) only [↓packA, ↓reduceIte, packB, pureOp, quietOp, loadOp, quietB, fr0, cellsK, implies_true, ite_true, ite_false, eq_self, ne_eq, reduceCtorEq, Nat.reduceLT, Nat.reduceLeDiff, Nat.reduceAdd, Nat.reduceMul, Nat.reduceBEq, Nat.reduceEqDiff, Int.reduceToNat, Int.reduceLT, Int.reduceLE, Nat.reduceSub, pl81, ft57, c7, c8, concA, Int.reduceAdd, Int.reduceSub, Int.reduceNeg, Int.reduceMul, Int.reduceEq, Int.reduceBEq, Int.reduceBNe]
    rw [show (op == 8) = false from beq_false_of_ne c8]
    exact .pure _ rfl
set_option maxRecDepth 100000 in
theorem tops_o (n : Nd) : ACalls Tryz.prog 72 [n.V] [] fun v h => OFz h v (ints (nops n)) := by
  refine wp72 rfl rfl ?_
  obtain ⟨op, a, b, c, neg, num, den⟩ := n
  by_cases h2 : two op = true
  · rw [nops_two (n := ⟨op, a, b, c, neg, num, den⟩) h2]
    simp (maxSteps := 4000000) only [↓packA, ↓reduceIte, packB, pureOp, quietOp, loadOp, quietB, fr0, cellsK, implies_true, ite_true, ite_false, eq_self, ne_eq, reduceCtorEq, Nat.reduceLT, Nat.reduceLeDiff, Nat.reduceAdd, Nat.reduceMul, Nat.reduceBEq, Nat.reduceEqDiff, Int.reduceToNat, Int.reduceLT, Int.reduceLE, Nat.reduceSub, pl72, ft1, ft2, ft3, ft23, ft57, ft61, ft63, Nd.V, Nd.cells, concA, Int.reduceAdd, Int.reduceSub, Int.reduceNeg, Int.reduceMul, Int.reduceEq, Int.reduceBEq, Int.reduceBNe]
    refine acalls_pure (two_c op) rfl ?_
    simp (maxSteps := 4000000) only [↓packA, ↓reduceIte, packB, pureOp, quietOp, loadOp, quietB, fr0, cellsK, implies_true, ite_true, ite_false, eq_self, ne_eq, reduceCtorEq, Nat.reduceLT, Nat.reduceLeDiff, Nat.reduceAdd, Nat.reduceMul, Nat.reduceBEq, Nat.reduceEqDiff, Int.reduceToNat, Int.reduceLT, Int.reduceLE, Nat.reduceSub, pl72, ft1, ft2, ft3, ft23, ft57, ft61, ft63, Nd.V, Nd.cells, h2, concA, Int.reduceAdd, Int.reduceSub, Int.reduceNeg, Int.reduceMul, Int.reduceEq, Int.reduceBEq, Int.reduceBNe]
    exact ofz_two rfl
  · have h2' : two op = false := by simpa using h2
    by_cases h1 : one op = true
    · rw [nops_onef (n := ⟨op, a, b, c, neg, num, den⟩) h2 h1]
      simp (maxSteps := 4000000) only [↓packA, ↓reduceIte, packB, pureOp, quietOp, loadOp, quietB, fr0, cellsK, implies_true, ite_true, ite_false, eq_self, ne_eq, reduceCtorEq, Nat.reduceLT, Nat.reduceLeDiff, Nat.reduceAdd, Nat.reduceMul, Nat.reduceBEq, Nat.reduceEqDiff, Int.reduceToNat, Int.reduceLT, Int.reduceLE, Nat.reduceSub, pl72, ft1, ft2, ft3, ft23, ft57, ft61, ft63, Nd.V, Nd.cells, concA, Int.reduceAdd, Int.reduceSub, Int.reduceNeg, Int.reduceMul, Int.reduceEq, Int.reduceBEq, Int.reduceBNe]
      refine acalls_pure (two_c op) rfl ?_
      simp (maxSteps := 4000000) only [↓packA, ↓reduceIte, packB, pureOp, quietOp, loadOp, quietB, fr0, cellsK, implies_true, ite_true, ite_false, eq_self, ne_eq, reduceCtorEq, Nat.reduceLT, Nat.reduceLeDiff, Nat.reduceAdd, Nat.reduceMul, Nat.reduceBEq, Nat.reduceEqDiff, Int.reduceToNat, Int.reduceLT, Int.reduceLE, Nat.reduceSub, pl72, ft1, ft2, ft3, ft23, ft57, ft61, ft63, Nd.V, Nd.cells, h2', concA, Int.reduceAdd, Int.reduceSub, Int.reduceNeg, Int.reduceMul, Int.reduceEq, Int.reduceBEq, Int.reduceBNe]
      refine acalls_pure (pone_fold op) rfl ?_
      simp (maxSteps := 4000000) only [↓packA, ↓reduceIte, packB, pureOp, quietOp, loadOp, quietB, fr0, cellsK, implies_true, ite_true, ite_false, eq_self, ne_eq, reduceCtorEq, Nat.reduceLT, Nat.reduceLeDiff, Nat.reduceAdd, Nat.reduceMul, Nat.reduceBEq, Nat.reduceEqDiff, Int.reduceToNat, Int.reduceLT, Int.reduceLE, Nat.reduceSub, pl72, ft1, ft2, ft3, ft23, ft57, ft61, ft63, Nd.V, Nd.cells, h1, concA, Int.reduceAdd, Int.reduceSub, Int.reduceNeg, Int.reduceMul, Int.reduceEq, Int.reduceBEq, Int.reduceBNe]
      exact ofz_one rfl
    · have h1' : one op = false := by simpa using h1
      rw [nops_none (n := ⟨op, a, b, c, neg, num, den⟩) h2 h1]
      simp (maxSteps := 4000000) only [↓packA, ↓reduceIte, packB, pureOp, quietOp, loadOp, quietB, fr0, cellsK, implies_true, ite_true, ite_false, eq_self, ne_eq, reduceCtorEq, Nat.reduceLT, Nat.reduceLeDiff, Nat.reduceAdd, Nat.reduceMul, Nat.reduceBEq, Nat.reduceEqDiff, Int.reduceToNat, Int.reduceLT, Int.reduceLE, Nat.reduceSub, pl72, ft1, ft2, ft3, ft23, ft57, ft61, ft63, Nd.V, Nd.cells, concA, Int.reduceAdd, Int.reduceSub, Int.reduceNeg, Int.reduceMul, Int.reduceEq, Int.reduceBEq, Int.reduceBNe]
      refine acalls_pure (two_c op) rfl ?_
      simp (maxSteps := 4000000) only [↓packA, ↓reduceIte, packB, pureOp, quietOp, loadOp, quietB, fr0, cellsK, implies_true, ite_true, ite_false, eq_self, ne_eq, reduceCtorEq, Nat.reduceLT, Nat.reduceLeDiff, Nat.reduceAdd, Nat.reduceMul, Nat.reduceBEq, Nat.reduceEqDiff, Int.reduceToNat, Int.reduceLT, Int.reduceLE, Nat.reduceSub, pl72, ft1, ft2, ft3, ft23, ft57, ft61, ft63, Nd.V, Nd.cells, h2', concA, Int.reduceAdd, Int.reduceSub, Int.reduceNeg, Int.reduceMul, Int.reduceEq, Int.reduceBEq, Int.reduceBNe]
      refine acalls_pure (pone_fold op) rfl ?_
      simp (maxSteps := 4000000) only [↓packA, ↓reduceIte, packB, pureOp, quietOp, loadOp, quietB, fr0, cellsK, implies_true, ite_true, ite_false, eq_self, ne_eq, reduceCtorEq, Nat.reduceLT, Nat.reduceLeDiff, Nat.reduceAdd, Nat.reduceMul, Nat.reduceBEq, Nat.reduceEqDiff, Int.reduceToNat, Int.reduceLT, Int.reduceLE, Nat.reduceSub, pl72, ft1, ft2, ft3, ft23, ft57, ft61, ft63, Nd.V, Nd.cells, h1', concA, Int.reduceAdd, Int.reduceSub, Int.reduceNeg, Int.reduceMul, Int.reduceEq, Int.reduceBEq, Int.reduceBNe]
      exact .nils 1
set_option maxRecDepth 100000 in
theorem rops_o (n : Nd) : ACalls Tryz.prog 25 [n.V] [] fun v h => OFz h v (ints (nops n)) := by
  refine wp25 rfl rfl ?_
  obtain ⟨op, a, b, c, neg, num, den⟩ := n
  by_cases h2 : two op = true
  · rw [nops_two (n := ⟨op, a, b, c, neg, num, den⟩) h2]
    simp (maxSteps := 4000000) only [↓packA, ↓reduceIte, packB, pureOp, quietOp, loadOp, quietB, fr0, cellsK, implies_true, ite_true, ite_false, eq_self, ne_eq, reduceCtorEq, Nat.reduceLT, Nat.reduceLeDiff, Nat.reduceAdd, Nat.reduceMul, Nat.reduceBEq, Nat.reduceEqDiff, Int.reduceToNat, Int.reduceLT, Int.reduceLE, Nat.reduceSub, pl25, ft1, ft2, ft3, ft23, ft57, ft61, ft63, Nd.V, Nd.cells, concA, Int.reduceAdd, Int.reduceSub, Int.reduceNeg, Int.reduceMul, Int.reduceEq, Int.reduceBEq, Int.reduceBNe]
    refine acalls_pure (rtwo_c op) rfl ?_
    simp (maxSteps := 4000000) only [↓packA, ↓reduceIte, packB, pureOp, quietOp, loadOp, quietB, fr0, cellsK, implies_true, ite_true, ite_false, eq_self, ne_eq, reduceCtorEq, Nat.reduceLT, Nat.reduceLeDiff, Nat.reduceAdd, Nat.reduceMul, Nat.reduceBEq, Nat.reduceEqDiff, Int.reduceToNat, Int.reduceLT, Int.reduceLE, Nat.reduceSub, pl25, ft1, ft2, ft3, ft23, ft57, ft61, ft63, Nd.V, Nd.cells, h2, concA, Int.reduceAdd, Int.reduceSub, Int.reduceNeg, Int.reduceMul, Int.reduceEq, Int.reduceBEq, Int.reduceBNe]
    exact ofz_two rfl
  · have h2' : two op = false := by simpa using h2
    by_cases h1 : one op = true
    · rw [nops_onef (n := ⟨op, a, b, c, neg, num, den⟩) h2 h1]
      simp (maxSteps := 4000000) only [↓packA, ↓reduceIte, packB, pureOp, quietOp, loadOp, quietB, fr0, cellsK, implies_true, ite_true, ite_false, eq_self, ne_eq, reduceCtorEq, Nat.reduceLT, Nat.reduceLeDiff, Nat.reduceAdd, Nat.reduceMul, Nat.reduceBEq, Nat.reduceEqDiff, Int.reduceToNat, Int.reduceLT, Int.reduceLE, Nat.reduceSub, pl25, ft1, ft2, ft3, ft23, ft57, ft61, ft63, Nd.V, Nd.cells, concA, Int.reduceAdd, Int.reduceSub, Int.reduceNeg, Int.reduceMul, Int.reduceEq, Int.reduceBEq, Int.reduceBNe]
      refine acalls_pure (rtwo_c op) rfl ?_
      simp (maxSteps := 4000000) only [↓packA, ↓reduceIte, packB, pureOp, quietOp, loadOp, quietB, fr0, cellsK, implies_true, ite_true, ite_false, eq_self, ne_eq, reduceCtorEq, Nat.reduceLT, Nat.reduceLeDiff, Nat.reduceAdd, Nat.reduceMul, Nat.reduceBEq, Nat.reduceEqDiff, Int.reduceToNat, Int.reduceLT, Int.reduceLE, Nat.reduceSub, pl25, ft1, ft2, ft3, ft23, ft57, ft61, ft63, Nd.V, Nd.cells, h2', concA, Int.reduceAdd, Int.reduceSub, Int.reduceNeg, Int.reduceMul, Int.reduceEq, Int.reduceBEq, Int.reduceBNe]
      refine acalls_pure (one_fold op) rfl ?_
      simp (maxSteps := 4000000) only [↓packA, ↓reduceIte, packB, pureOp, quietOp, loadOp, quietB, fr0, cellsK, implies_true, ite_true, ite_false, eq_self, ne_eq, reduceCtorEq, Nat.reduceLT, Nat.reduceLeDiff, Nat.reduceAdd, Nat.reduceMul, Nat.reduceBEq, Nat.reduceEqDiff, Int.reduceToNat, Int.reduceLT, Int.reduceLE, Nat.reduceSub, pl25, ft1, ft2, ft3, ft23, ft57, ft61, ft63, Nd.V, Nd.cells, h1, concA, Int.reduceAdd, Int.reduceSub, Int.reduceNeg, Int.reduceMul, Int.reduceEq, Int.reduceBEq, Int.reduceBNe]
      exact ofz_one rfl
    · have h1' : one op = false := by simpa using h1
      rw [nops_none (n := ⟨op, a, b, c, neg, num, den⟩) h2 h1]
      simp (maxSteps := 4000000) only [↓packA, ↓reduceIte, packB, pureOp, quietOp, loadOp, quietB, fr0, cellsK, implies_true, ite_true, ite_false, eq_self, ne_eq, reduceCtorEq, Nat.reduceLT, Nat.reduceLeDiff, Nat.reduceAdd, Nat.reduceMul, Nat.reduceBEq, Nat.reduceEqDiff, Int.reduceToNat, Int.reduceLT, Int.reduceLE, Nat.reduceSub, pl25, ft1, ft2, ft3, ft23, ft57, ft61, ft63, Nd.V, Nd.cells, concA, Int.reduceAdd, Int.reduceSub, Int.reduceNeg, Int.reduceMul, Int.reduceEq, Int.reduceBEq, Int.reduceBNe]
      refine acalls_pure (rtwo_c op) rfl ?_
      simp (maxSteps := 4000000) only [↓packA, ↓reduceIte, packB, pureOp, quietOp, loadOp, quietB, fr0, cellsK, implies_true, ite_true, ite_false, eq_self, ne_eq, reduceCtorEq, Nat.reduceLT, Nat.reduceLeDiff, Nat.reduceAdd, Nat.reduceMul, Nat.reduceBEq, Nat.reduceEqDiff, Int.reduceToNat, Int.reduceLT, Int.reduceLE, Nat.reduceSub, pl25, ft1, ft2, ft3, ft23, ft57, ft61, ft63, Nd.V, Nd.cells, h2', concA, Int.reduceAdd, Int.reduceSub, Int.reduceNeg, Int.reduceMul, Int.reduceEq, Int.reduceBEq, Int.reduceBNe]
      refine acalls_pure (one_fold op) rfl ?_
      simp (maxSteps := 4000000) only [↓packA, ↓reduceIte, packB, pureOp, quietOp, loadOp, quietB, fr0, cellsK, implies_true, ite_true, ite_false, eq_self, ne_eq, reduceCtorEq, Nat.reduceLT, Nat.reduceLeDiff, Nat.reduceAdd, Nat.reduceMul, Nat.reduceBEq, Nat.reduceEqDiff, Int.reduceToNat, Int.reduceLT, Int.reduceLE, Nat.reduceSub, pl25, ft1, ft2, ft3, ft23, ft57, ft61, ft63, Nd.V, Nd.cells, h1', concA, Int.reduceAdd, Int.reduceSub, Int.reduceNeg, Int.reduceMul, Int.reduceEq, Int.reduceBEq, Int.reduceBNe]
      exact .nils 1
set_option maxRecDepth 100000 in
theorem pops_o (n : Nd) : ACalls Tryz.prog 21 [n.V] [] fun v h => OFz h v (ints (nops n)) := by
  refine wp21 rfl rfl ?_
  obtain ⟨op, a, b, c, neg, num, den⟩ := n
  by_cases h2 : two op = true
  · rw [nops_two (n := ⟨op, a, b, c, neg, num, den⟩) h2]
    have ht : op = 3 ∨ op = 4 ∨ op = 5 ∨ op = 6 := of_decide_eq_true h2
    rcases ht with rfl | rfl | rfl | rfl
    all_goals
      simp (maxSteps := 4000000) only [↓packA, ↓reduceIte, packB, pureOp, quietOp, loadOp, quietB, fr0, cellsK, implies_true, ite_true, ite_false, eq_self, ne_eq, reduceCtorEq, Nat.reduceLT, Nat.reduceLeDiff, Nat.reduceAdd, Nat.reduceMul, Nat.reduceBEq, Nat.reduceEqDiff, Int.reduceToNat, Int.reduceLT, Int.reduceLE, Nat.reduceSub, pl21, ft1, ft2, ft3, ft23, ft57, ft61, ft63, Nd.V, Nd.cells, concA, Int.reduceAdd, Int.reduceSub, Int.reduceNeg, Int.reduceMul, Int.reduceEq, Int.reduceBEq, Int.reduceBNe]
      exact ofz_two rfl
  · have ht := two_not h2
    have n3 : ¬ op = 3 := fun e => ht (.inl e)
    have n4 : ¬ op = 4 := fun e => ht (.inr (.inl e))
    have n5 : ¬ op = 5 := fun e => ht (.inr (.inr (.inl e)))
    have n6 : ¬ op = 6 := fun e => ht (.inr (.inr (.inr e)))
    by_cases h1 : one op = true
    · rw [nops_onef (n := ⟨op, a, b, c, neg, num, den⟩) h2 h1]
      rcases one_ge h1 with rfl | rfl
      all_goals
        simp (maxSteps := 4000000) only [↓packA, ↓reduceIte, packB, pureOp, quietOp, loadOp, quietB, fr0, cellsK, implies_true, ite_true, ite_false, eq_self, ne_eq, reduceCtorEq, Nat.reduceLT, Nat.reduceLeDiff, Nat.reduceAdd, Nat.reduceMul, Nat.reduceBEq, Nat.reduceEqDiff, Int.reduceToNat, Int.reduceLT, Int.reduceLE, Nat.reduceSub, pl21, ft1, ft2, ft3, ft23, ft57, ft61, ft63, Nd.V, Nd.cells, concA, Int.reduceAdd, Int.reduceSub, Int.reduceNeg, Int.reduceMul, Int.reduceEq, Int.reduceBEq, Int.reduceBNe]
        exact ofz_one rfl
    · have ho := one_not h1
      have n7 : ¬ op = 7 := fun e => ho (.inl e)
      have n8 : ¬ op = 8 := fun e => ho (.inr e)
      rw [nops_none (n := ⟨op, a, b, c, neg, num, den⟩) h2 h1]
      simp (maxSteps := 4000000) only [↓packA, ↓reduceIte, packB, pureOp, quietOp, loadOp, quietB, fr0, cellsK, implies_true, ite_true, ite_false, eq_self, ne_eq, reduceCtorEq, Nat.reduceLT, Nat.reduceLeDiff, Nat.reduceAdd, Nat.reduceMul, Nat.reduceBEq, Nat.reduceEqDiff, Int.reduceToNat, Int.reduceLT, Int.reduceLE, Nat.reduceSub, pl21, ft1, ft2, ft3, ft23, ft57, ft61, ft63, Nd.V, Nd.cells, n3, n4, n5, n6, n7, n8, concA, Int.reduceAdd, Int.reduceSub, Int.reduceNeg, Int.reduceMul, Int.reduceEq, Int.reduceBEq, Int.reduceBNe]
      exact .nils 1
end Go.Proofs.YtclbobielhllmaaGreat
end
section
namespace Go.Proofs.YtclbobielhllmaaGreat
open Go Go.AL
set_option linter.unusedVariables false
set_option linter.unusedSimpArgs false
def bools (l : List Bool) : AV := .isl 1 (List.map boolE l)
structure Tp.Good (t : Tp) : Prop where
  vars : 0 ≤ t.vars ∧ t.vars ≤ 64
  nl : t.ns.length ≤ 2048
  ol : 0 < t.outs.length ∧ t.outs.length ≤ 64
  at_ : ∀ (k : Nat) (n : Nd), t.ns[k]? = some n → NdAt t.vars k n
  out : ∀ o, o ∈ t.outs → 0 ≤ o ∧ o < t.ns.length
  pw : ∀ n, n ∈ t.ns → n.op = 8 → -1024 ≤ n.c ∧ n.c ≤ 1024
theorem wrong_pw {n : Nd} {vars i : Int} (h : n.wrong vars i = 0) (h8 : n.op = 8) : -1024 ≤ n.c ∧ n.c ≤ 1024 := by
  unfold Nd.wrong at h
  rw [if_neg (by omega)] at h
  split at h
  · exact absurd h (by decide)
  rw [if_neg (by omega), if_neg (by omega)] at h
  split at h
  · exact absurd h (by decide)
  split at h
  · exact absurd h (by decide)
  split at h
  · exact absurd h (by decide)
  · omega
theorem good_of {t : Tp} (h : t.check.2 = 0) : t.Good := by
  obtain ⟨h1, h2, h3, h4, h5⟩ := check_ok t h
  refine ⟨h1, h2, h3, fun k n hn => ndat (h4 k n hn), fun o ho => ?_, fun n hn h8 => ?_⟩
  · obtain ⟨k, hk⟩ := List.getElem?_of_mem ho
    have hl := (List.getElem?_eq_some_iff.1 hk).1
    have := h5 k hl
    rw [List.getD_eq_getElem?_getD, hk] at this
    exact this
  · obtain ⟨k, hk⟩ := List.getElem?_of_mem hn
    exact wrong_pw (h4 k n hk) h8
set_option maxHeartbeats 4000000 in
set_option maxRecDepth 100000 in
theorem clone_o (l : List Int) (hl : l.length < 100000000) (hne : l ≠ []) {h : Heap} {Q : AV → Heap → Prop}
    (hq : ∀ x h', OL (fun i => i < h.length) 1 h' x (List.map intE l) → h.length ≤ h'.length → (∀ i, i < h.length → h'[i]? = h[i]?) → (∃ id cap ex, x = .osl id 1 0 l.length cap ex) → Q x h') : ACalls Tryz.prog 71 [ints l] h Q := by
  refine wp71 rfl rfl ?_
  obtain ⟨M, hM⟩ : ∃ M, h.length = M := ⟨_, rfl⟩
  have tM := tailR hM
  have hml : List.map intE l ≠ [] := by simpa using hne
  simp (maxSteps := 4000000) only [↓packA, ↓reduceIte, packB, pureOp, quietOp, loadOp, quietB, fr0, cellsK, implies_true, ite_true, ite_false, eq_self, ne_eq, reduceCtorEq, Nat.reduceLT, Nat.reduceLeDiff, Nat.reduceAdd, Nat.reduceMul, Nat.reduceBEq, Nat.reduceEqDiff, Int.reduceToNat, Int.reduceLT, Int.reduceLE, Nat.reduceSub, pl71, ft3, ft23, ints, hM, tM, hml, concA, Int.reduceAdd, Int.reduceSub, Int.reduceNeg, Int.reduceMul, Int.reduceEq, Int.reduceBEq, Int.reduceBNe]
  have h0 : 0 < l.length := List.length_pos_iff.2 hne
  refine ⟨by omega, fun hc => by omega, fun _ c hc => ?_⟩
  have hg : ∀ o o' : Ob, (h ++ [o, o'])[M + 1]? = some o' := fun o o' => gR hM _ 1
  refine hq _ _ (.inr ⟨M + 1, c, true, List.map intE (List.replicate (c - l.length) 0), true, by rw [List.length_map], fun e => by omega, hg _ _, by rw [List.length_map]; exact hc, by simp; omega, fun e he => by obtain ⟨x, _, rfl⟩ := List.mem_map.1 he; rfl⟩) (by simp) (fun i hi => List.getElem?_append_left hi) ⟨_, _, _, rfl⟩
theorem bool_row {l : List Bool} {i : Nat} (h : i < l.length) : (List.map boolE l)[i]? = some [.bool (l.getD i false)] := by
  rw [List.getElem?_map, List.getElem?_eq_getElem h, List.getD_eq_getElem?_getD, List.getElem?_eq_getElem h]
  rfl
theorem bool_set {l : List Bool} {i : Int} : (List.map boolE l).set i.toNat [.bool true] = List.map boolE (setK l i) := by
  unfold setK
  rw [List.map_set]
  rfl
theorem OL.front {F : Nat → Prop} {h : Heap} {id k len cap : Nat} {ex : Bool} {rows : List (List AV)} {r : List AV} (o : OL F k h (.osl id k 0 len cap ex) (rows ++ [r])) (hr : flats r = true) : OL F k h (.osl id k 0 rows.length cap ex) rows := by
  rcases o with ⟨h1, _⟩ | ⟨id', cap', ex1, rest, ex', h1, h2, h3, h4, h5, h6⟩
  · cases h1
  · cases h1
    refine .inr ⟨id, cap, ex, r :: rest, ex', rfl, h2, by rw [h3, List.append_assoc]; rfl, by simp at h4; omega, by simp at h5 ⊢; omega, fun e he => ?_⟩
    rcases List.mem_cons.1 he with rfl | he
    · exact hr
    · exact h6 e he
theorem ol_app0 {F : Nat → Prop} {k b id len cap : Nat} {ex : Bool} {h : Heap} {rows : List (List AV)} {z : List AV} {K : AV → Heap → Prop} (hz : z.length = k) (o : OL F k h (.osl id k 0 len cap ex) rows) (hb : rows.length * b ≤ 140737488355328) (hK : ∀ h' : Heap, OL F k h' (.osl id k 0 len cap ex) rows → h'.length = h.length → (∀ i : Nat, h'[i]? = h[i]?) → K (.osl id k 0 len cap ex) h') : apK z b h (.osl id k 0 len cap ex) [] K := by
  rcases o with ⟨h1, _⟩ | ⟨id', cap', ex1, rest, ex', h1, h2, h3, h4, h5, h6⟩
  · cases h1
  · cases h1
    subst hz
    have hid := (List.getElem?_eq_some_iff.1 h3).1
    unfold apK
    refine ⟨rfl, by simpa using hb, _, ex', h3, by simp, fun _ => ⟨by simp, ?_⟩, fun hc => absurd h4 (by simpa using hc)⟩
    have e : h.set id (.arr z.length (List.take (0 + rows.length) (rows ++ rest) ++ [] ++ List.drop (0 + rows.length + ([] : List (List AV)).length) (rows ++ rest)) ex') = h := by
      rw [List.append_nil, List.length_nil, Nat.add_zero, List.take_append_drop]
      apply List.ext_getElem?
      intro i
      by_cases hi : id = i
      · subst hi; rw [List.getElem?_set_self hid, h3]
      · rw [List.getElem?_set_ne hi]
    rw [e]
    exact hK h (.inr ⟨id, cap, ex, rest, ex', rfl, h2, h3, h4, h5, h6⟩) rfl fun _ => rfl
theorem ol_ints {F : Nat → Prop} {id len cap : Nat} {ex : Bool} {h : Heap} {T l : List Int} {K : AV → Heap → Prop} (hF : ∀ i, F i → i < h.length) (o : OL F 1 h (.osl id 1 0 len cap ex) (List.map intE T)) (hb : (T.length + l.length) * 8 ≤ 140737488355328)
    (hK : ∀ x' h', (∃ id cap ex, x' = .osl id 1 0 (T.length + l.length) cap ex) → OL F 1 h' x' (List.map intE (T ++ l)) → h.length ≤ h'.length → (∀ i, F i → h'[i]? = h[i]?) → K x' h') : apK [.int .i64 0] 8 h (.osl id 1 0 len cap ex) (List.map intE l) K := by
  have hlen : len = T.length := by
    rcases o with ⟨h1, _⟩ | ⟨_, _, _, _, _, h1, _⟩
    · cases h1
    · cases h1; simp
  cases l with
  | nil =>
    refine ol_app0 rfl o (by simp at hb ⊢; omega) fun h' o' hl hh => hK _ h' ⟨id, cap, ex, by rw [hlen]; rfl⟩ (by rw [List.append_nil]; exact o') (by omega) fun i _ => hh i
  | cons y ys =>
    refine ol_append (k := 1) rfl rfl hF o (by simp) (by simp at hb ⊢; omega) fun x' h' ⟨i, c, e, hx, _⟩ o' hl _ hh => hK x' h' ⟨i, c, e, by rw [hx]; simp⟩ (by rw [List.map_append]; exact o') hl hh
set_option maxHeartbeats 4000000 in
set_option maxRecDepth 100000 in
theorem alive_c (t : Tp) (ht : t.Good) : ACalls Tryz.prog 52 [t.V] [] fun v h => OFz h v (bools (liveO t.ns t.outs)) := by
  refine wp52 rfl rfl ?_
  obtain ⟨vars, ns, outs⟩ := t
  have hat := ht.at_
  have hout := ht.out
  have hnl := ht.nl
  have hol := ht.ol
  simp only at hat hout hnl hol
  have en : (0 : Int) ≤ ns.length := by omega
  simp (maxSteps := 4000000) only [↓packA, ↓reduceIte, packB, pureOp, quietOp, loadOp, quietB, fr0, cellsK, implies_true, ite_true, ite_false, eq_self, ne_eq, reduceCtorEq, Nat.reduceLT, Nat.reduceLeDiff, Nat.reduceAdd, Nat.reduceMul, Nat.reduceBEq, Nat.reduceEqDiff, Int.reduceToNat, Int.reduceLT, Int.reduceLE, Nat.reduceSub, pl52, ft1, ft2, ft3, ft4, ft22, ft23, ft25, ft44, ft57, ft61, ft63, Tp.V, ints, List.length_map, concA, Int.reduceAdd, Int.reduceSub, Int.reduceNeg, Int.reduceMul, Int.reduceEq, Int.reduceBEq, Int.reduceBNe]
  refine ⟨by omega, ?_⟩
  have hone : outs ≠ [] := fun e => by rw [e] at hol; simp at hol
  refine clone_o outs (by omega) hone fun x z0 hx hz hzz ⟨xi, xc, xe, hxe⟩ => ?_
  subst hxe
  have g0 : z0[0]? = some (.arr 3 [[AV.int IntKind.i64 vars, AV.isl 7 (List.map Nd.cells ns), AV.isl 1 (List.map intE outs)]] true) := hzz 0 (by simp)
  have g1 : z0[1]? = some (.arr 1 (List.map boolE (List.replicate ns.length false)) true) := hzz 1 (by simp)
  have hx' : OL (fun i => i ≤ 1) 1 z0 (.osl xi 1 0 outs.length xc xe) (List.map intE outs) := hx.weak fun i hi => by simp; omega
  simp (maxSteps := 4000000) only [↓packA, ↓reduceIte, packB, pureOp, quietOp, loadOp, quietB, fr0, cellsK, implies_true, ite_true, ite_false, eq_self, ne_eq, reduceCtorEq, Nat.reduceLT, Nat.reduceLeDiff, Nat.reduceAdd, Nat.reduceMul, Nat.reduceBEq, Nat.reduceEqDiff, Int.reduceToNat, Int.reduceLT, Int.reduceLE, Nat.reduceSub, pl52, ft1, ft2, ft3, ft4, ft22, ft23, ft25, ft44, ft57, ft61, ft63, concA, Int.reduceAdd, Int.reduceSub, Int.reduceNeg, Int.reduceMul, Int.reduceEq, Int.reduceBEq, Int.reduceBNe]
  refine LoopK.intro (fun m w z => ∃ (L : List Bool) (T : List Int) (id cap : Nat) (ex : Bool), m = 3 * L.count false + T.length ∧ LiveW ns outs L T ∧ T.length < 1000000 - m ∧ OL (fun i => i ≤ 1) 1 z (.osl id 1 0 T.length cap ex) (List.map intE T) ∧ 1 < z.length ∧ z[0]? = some (.arr 3 [[AV.int IntKind.i64 vars, AV.isl 7 (List.map Nd.cells ns), AV.isl 1 (List.map intE outs)]] true) ∧ z[1]? = some (.arr 1 (List.map boolE L) true) ∧ w 1 = .op 0 3 0 0 ∧ w 3 = .osl 1 1 0 ns.length ns.length true ∧ w 4 = .osl id 1 0 T.length cap ex) _ ⟨_, outs, xi, xc, xe, rfl, LiveW.start hout, ?_, hx', by simp at hz; omega, g0, g1, ?_, ?_, ?_⟩ ?_
  · rw [List.count_replicate_self]; omega
  all_goals (try (simp (maxSteps := 4000000) only [↓packA, ↓reduceIte, packB, pureOp, quietOp, loadOp, quietB, fr0, cellsK, implies_true, ite_true, ite_false, eq_self, ne_eq, reduceCtorEq, Nat.reduceLT, Nat.reduceLeDiff, Nat.reduceAdd, Nat.reduceMul, Nat.reduceBEq, Nat.reduceEqDiff, Int.reduceToNat, Int.reduceLT, Int.reduceLE, Nat.reduceSub, pl52, ft1, ft2, ft3, ft4, ft22, ft23, ft25, ft44, ft57, ft61, ft63, concA, Int.reduceAdd, Int.reduceSub, Int.reduceNeg, Int.reduceMul, Int.reduceEq, Int.reduceBEq, Int.reduceBNe]; done))
  rintro m w z ⟨L, T, id, cap, ex, rfl, hW, hTb, hO, hzl, h0, h1, a1, a3, a4⟩
  have hcnt : L.count false ≤ ns.length := by rw [← hW.len]; exact List.count_le_length
  rcases List.eq_nil_or_concat T with rfl | ⟨T', i, rfl⟩
  · simp (maxSteps := 4000000) only [↓packA, ↓reduceIte, packB, pureOp, quietOp, loadOp, quietB, fr0, cellsK, implies_true, ite_true, ite_false, eq_self, ne_eq, reduceCtorEq, Nat.reduceLT, Nat.reduceLeDiff, Nat.reduceAdd, Nat.reduceMul, Nat.reduceBEq, Nat.reduceEqDiff, Int.reduceToNat, Int.reduceLT, Int.reduceLE, Nat.reduceSub, pl52, ft1, ft2, ft3, ft4, ft22, ft23, ft25, ft44, ft57, ft61, ft63, a1, a3, a4, concA, Int.reduceAdd, Int.reduceSub, Int.reduceNeg, Int.reduceMul, Int.reduceEq, Int.reduceBEq, Int.reduceBNe]
    rw [liveO_eq hW.done]
    have := OFz.osl (h := z) 1 1 0 ns.length ns.length true true _ h1 (by simp [hW.len]) (fun e he => by obtain ⟨x, _, rfl⟩ := List.mem_map.1 he; rfl)
    rw [List.drop_zero, List.take_of_length_le (by simp [hW.len])] at this
    exact this
  · rw [List.concat_eq_append] at *
    have hit := hW.tl i (by simp)
    have q1 : 0 < ((T'.length + 1 : Nat) : Int) := by omega
    have e1 : ((T'.length + 1 : Nat) : Int) - 1 = (T'.length : Int) := by omega
    have hrow : ∃ es ex', z[id]? = some (.arr 1 es ex') ∧ es[T'.length]? = some [.int .i64 i] ∧ T'.length + 1 ≤ es.length := by
      rcases hO with ⟨h2, _⟩ | ⟨id', cap', ex1, rest, ex', h2, h3, h4, h5, h6, h7⟩
      · cases h2
      · simp only [AV.osl.injEq] at h2
        obtain ⟨rfl, _, _, _, rfl, rfl⟩ := h2
        refine ⟨_, ex', h4, ?_, by simp⟩
        rw [List.getElem?_append_left (by simp), List.map_append, List.getElem?_append_right (by simp)]
        simp [intE]
    obtain ⟨es, ex', hid, hes, hesl⟩ := hrow
    have hLi : (List.map boolE L)[i.toNat]? = some [.bool (L.getD i.toNat false)] := bool_row (by rw [hW.len]; omega)
    have hcapb : T'.length + 1 ≤ cap := by
      rcases hO with ⟨h2, _⟩ | ⟨id', cap', ex1, rest, ex', h2, h3, h4, h5, h6, h7⟩
      · cases h2
      · simp only [AV.osl.injEq] at h2
        obtain ⟨rfl, _, _, _, rfl, rfl⟩ := h2
        simpa using h5
    rw [List.map_append] at hO
    have hO' : OL (fun i => i ≤ 1) 1 z (.osl id 1 0 (List.map intE T').length cap ex) (List.map intE T') := OL.front (r := [.int .i64 i]) hO rfl
    rw [List.length_map] at hO'
    simp only [List.length_append, List.length_singleton] at hTb
    cases hb : L.getD i.toNat false with
    | true =>
      rw [hb] at hLi
      simp (maxSteps := 4000000) only [↓packA, ↓reduceIte, packB, pureOp, quietOp, loadOp, quietB, fr0, cellsK, implies_true, ite_true, ite_false, eq_self, ne_eq, reduceCtorEq, Nat.reduceLT, Nat.reduceLeDiff, Nat.reduceAdd, Nat.reduceMul, Nat.reduceBEq, Nat.reduceEqDiff, Int.reduceToNat, Int.reduceLT, Int.reduceLE, Nat.reduceSub, pl52, ft1, ft2, ft3, ft4, ft22, ft23, ft25, ft44, ft57, ft61, ft63, a1, a3, a4, q1, e1, hid, hes, hLi, h0, h1, concA, Int.reduceAdd, Int.reduceSub, Int.reduceNeg, Int.reduceMul, Int.reduceEq, Int.reduceBEq, Int.reduceBNe]
      exact ⟨by omega, by omega, by omega, by omega, by omega, by omega, .inl ⟨_, by omega, L, T', id, cap, ex, rfl, hW.popL hb, by omega, hO', hzl, rfl, rfl⟩⟩
    | false =>
      rw [hb] at hLi
      obtain ⟨n, hn⟩ : ∃ n, ns[i.toNat]? = some n := ⟨_, List.getElem?_eq_getElem (by omega)⟩
      have rk : (List.map Nd.cells ns)[i.toNat]? = some (Nd.cells n) := by rw [List.getElem?_map, hn]; rfl
      have s1 : ∀ o, (z.set 1 o)[0]? = some (.arr 3 [[AV.int IntKind.i64 vars, AV.isl 7 (List.map Nd.cells ns), AV.isl 1 (List.map intE outs)]] true) := fun o => by rw [List.getElem?_set_ne (by decide)]; exact h0
      simp (maxSteps := 4000000) only [↓packA, ↓reduceIte, packB, pureOp, quietOp, loadOp, quietB, fr0, cellsK, implies_true, ite_true, ite_false, eq_self, ne_eq, reduceCtorEq, Nat.reduceLT, Nat.reduceLeDiff, Nat.reduceAdd, Nat.reduceMul, Nat.reduceBEq, Nat.reduceEqDiff, Int.reduceToNat, Int.reduceLT, Int.reduceLE, Nat.reduceSub, pl52, ft1, ft2, ft3, ft4, ft22, ft23, ft25, ft44, ft57, ft61, ft63, a1, a3, a4, q1, e1, hid, hes, hLi, h0, h1, s1, rk, Nd.cells, List.length_map, bool_set, concA, Int.reduceAdd, Int.reduceSub, Int.reduceNeg, Int.reduceMul, Int.reduceEq, Int.reduceBEq, Int.reduceBNe]
      refine ⟨by omega, by omega, by omega, by omega, by omega, by omega, by omega, by omega, ?_⟩
      refine acalls_fresh (tops_o n) (.cons (.pure _ rfl) .nil) fun u hx hz => ⟨_, hz, ?_⟩
      have hil : i.toNat < L.length := by rw [hW.len]; omega
      have hst : (z.set 1 (.arr 1 (List.map boolE (L.set i.toNat true)) true)).length = z.length := List.length_set
      generalize hX : AV.osl id 1 0 T'.length cap ex = X
      simp (maxSteps := 4000000) only [↓packA, ↓reduceIte, packB, pureOp, quietOp, loadOp, quietB, fr0, cellsK, implies_true, ite_true, ite_false, eq_self, ne_eq, reduceCtorEq, Nat.reduceLT, Nat.reduceLeDiff, Nat.reduceAdd, Nat.reduceMul, Nat.reduceBEq, Nat.reduceEqDiff, Int.reduceToNat, Int.reduceLT, Int.reduceLE, Nat.reduceSub, pl52, ft1, ft2, ft3, ft4, ft22, ft23, ft25, ft44, ft57, ft61, ft63, ints, a1, a3, a4, Nd.cells, List.length_map, concA, Int.reduceAdd, Int.reduceSub, Int.reduceNeg, Int.reduceMul, Int.reduceEq, Int.reduceBEq, Int.reduceBNe]
      subst hX
      have hnp : (nops n).length ≤ 2 := by
        unfold nops
        split
        · simp
        · split <;> simp
      have hc3 := count_set hil hb
      have hOs := hO'.set (i := 1) (Nat.le_refl _) (.arr 1 (List.map boolE (L.set i.toNat true)) true)
      refine ol_ints (fun j hj => by rw [List.length_set]; omega) hOs (by omega) fun x' z' ⟨xi', xc', xe', hx'⟩ hO2 hl2 hF2 => ?_
      subst hx'
      rw [List.length_set] at hl2
      simp (maxSteps := 4000000) only [↓packA, ↓reduceIte, packB, pureOp, quietOp, loadOp, quietB, fr0, cellsK, implies_true, ite_true, ite_false, eq_self, ne_eq, reduceCtorEq, Nat.reduceLT, Nat.reduceLeDiff, Nat.reduceAdd, Nat.reduceMul, Nat.reduceBEq, Nat.reduceEqDiff, Int.reduceToNat, Int.reduceLT, Int.reduceLE, Nat.reduceSub, pl52, ft1, ft2, ft3, ft4, ft22, ft23, ft25, ft44, ft57, ft61, ft63, a1, a3, a4, concA, Int.reduceAdd, Int.reduceSub, Int.reduceNeg, Int.reduceMul, Int.reduceEq, Int.reduceBEq, Int.reduceBNe]
      refine .inl ⟨_, ?_, setK L i, T' ++ nops n, xi', xc', xe', rfl, hW.popD hn (hat _ n hn), ?_, by rw [List.length_append]; exact hO2, by omega, ?_, ?_, ?_⟩
      · rw [List.length_append]; omega
      · rw [List.length_append]; omega
      · rw [hF2 0 (by omega)]; exact s1 _
      · rw [hF2 1 (by omega), List.getElem?_set_self hzl]; rfl
      · rw [List.length_append]
end Go.Proofs.YtclbobielhllmaaGreat
end
section
namespace Go.Proofs.YtclbobielhllmaaGreat
open Go Go.AL
set_option linter.unusedVariables false
set_option linter.unusedSimpArgs false
set_option maxRecDepth 100000 in
theorem tlive_c (t : Tp) (ht : t.Ok) (hc : t.check.2 = 0) : APure Tryz.prog 35 [t.V] (.tup [bools (liveO t.ns t.outs), .int .i64 0]) := by
  refine apure_of (wp35 rfl rfl ?_)
  have pc := pcheck_c t ht
  have pa := alive_c t (good_of hc)
  generalize t.check = ck at *
  obtain ⟨vars, ns, outs⟩ := t
  simp only [Tp.V] at pc pa
  simp (maxSteps := 4000000) only [↓packA, ↓reduceIte, packB, pureOp, quietOp, loadOp, quietB, fr0, cellsK, implies_true, ite_true, ite_false, eq_self, ne_eq, reduceCtorEq, Nat.reduceLT, Nat.reduceLeDiff, Nat.reduceAdd, Nat.reduceMul, Nat.reduceBEq, Nat.reduceEqDiff, Int.reduceToNat, Int.reduceLT, Int.reduceLE, Nat.reduceSub, pl35, ft3, ft22, ft23, ft25, ft38, ft63, Tp.V, concA, Int.reduceAdd, Int.reduceSub, Int.reduceNeg, Int.reduceMul, Int.reduceEq, Int.reduceBEq, Int.reduceBNe]
  refine acalls_pure pc rfl ?_
  simp (maxSteps := 4000000) only [↓packA, ↓reduceIte, packB, pureOp, quietOp, loadOp, quietB, fr0, cellsK, implies_true, ite_true, ite_false, eq_self, ne_eq, reduceCtorEq, Nat.reduceLT, Nat.reduceLeDiff, Nat.reduceAdd, Nat.reduceMul, Nat.reduceBEq, Nat.reduceEqDiff, Int.reduceToNat, Int.reduceLT, Int.reduceLE, Nat.reduceSub, pl35, ft3, ft22, ft23, ft25, ft38, ft63, Tp.V, hc, concA, Int.reduceAdd, Int.reduceSub, Int.reduceNeg, Int.reduceMul, Int.reduceEq, Int.reduceBEq, Int.reduceBNe]
  refine acalls_fresh pa (.cons (.pure _ rfl) .nil) fun u hx hz => ⟨_, hz, ?_⟩
  simp (maxSteps := 4000000) only [↓packA, ↓reduceIte, packB, pureOp, quietOp, loadOp, quietB, fr0, cellsK, implies_true, ite_true, ite_false, eq_self, ne_eq, reduceCtorEq, Nat.reduceLT, Nat.reduceLeDiff, Nat.reduceAdd, Nat.reduceMul, Nat.reduceBEq, Nat.reduceEqDiff, Int.reduceToNat, Int.reduceLT, Int.reduceLE, Nat.reduceSub, pl35, ft3, ft22, ft23, ft25, ft38, ft63, bools, hc, concA, Int.reduceAdd, Int.reduceSub, Int.reduceNeg, Int.reduceMul, Int.reduceEq, Int.reduceBEq, Int.reduceBNe]
  exact .pure _ rfl
set_option maxHeartbeats 4000000 in
set_option maxRecDepth 100000 in
theorem rlive_c (vars : Int) (ns : List Nd) (outs : List Int) (hnl : ns.length < 1000000) (hol : outs.length < 1000000) (hat : ∀ (k : Nat) (n : Nd), ns[k]? = some n → NdAt vars k n) (hout : ∀ o, o ∈ outs → 0 ≤ o ∧ o < ns.length) : APure Tryz.prog 24 [Tp.V ⟨vars, ns, outs⟩] (bools (liveO ns outs)) := by
  refine apure_of (wp24 rfl rfl ?_)
  simp (maxSteps := 4000000) only [↓packA, ↓reduceIte, packB, pureOp, quietOp, loadOp, quietB, fr0, cellsK, implies_true, ite_true, ite_false, eq_self, ne_eq, reduceCtorEq, Nat.reduceLT, Nat.reduceLeDiff, Nat.reduceAdd, Nat.reduceMul, Nat.reduceBEq, Nat.reduceEqDiff, Int.reduceToNat, Int.reduceLT, Int.reduceLE, Nat.reduceSub, pl24, ft1, ft2, ft3, ft4, ft22, ft23, ft25, ft44, ft57, ft61, ft63, Tp.V, ints, List.length_map, concA, Int.reduceAdd, Int.reduceSub, Int.reduceNeg, Int.reduceMul, Int.reduceEq, Int.reduceBEq, Int.reduceBNe]
  refine ⟨by omega, ?_⟩
  obtain ⟨A, hA⟩ : ∃ A : List (List AV), A = [[AV.int IntKind.i64 vars, AV.isl 7 (List.map Nd.cells ns), AV.isl 1 (List.map intE outs)]] := ⟨_, rfl⟩
  have hA0 : A[0]? = some [AV.int IntKind.i64 vars, AV.isl 7 (List.map Nd.cells ns), AV.isl 1 (List.map intE outs)] := by rw [hA]; rfl
  rw [← hA]
  refine LoopK.intro (fun m w z => ∃ k : Nat, m = outs.length - k ∧ k ≤ outs.length ∧ w 1 = .op 0 3 0 0 ∧ w 3 = .osl 1 1 0 ns.length ns.length true ∧ w 4 = .int .i64 k ∧ z = [.arr 3 A true, .arr 1 (List.map boolE (setAll (List.replicate ns.length false) (outs.take k))) true]) outs.length ⟨0, rfl, by omega, ?_, ?_, ?_, by rw [List.take_zero]; rfl⟩ ?_
  rotate_right
  all_goals (try (simp (maxSteps := 4000000) only [↓packA, ↓reduceIte, packB, pureOp, quietOp, loadOp, quietB, fr0, cellsK, implies_true, ite_true, ite_false, eq_self, ne_eq, reduceCtorEq, Nat.reduceLT, Nat.reduceLeDiff, Nat.reduceAdd, Nat.reduceMul, Nat.reduceBEq, Nat.reduceEqDiff, Int.reduceToNat, Int.reduceLT, Int.reduceLE, Nat.reduceSub, pl24, ft1, ft2, ft3, ft4, ft22, ft23, ft25, ft44, ft57, ft61, ft63, Int.natCast_zero, concA, Int.reduceAdd, Int.reduceSub, Int.reduceNeg, Int.reduceMul, Int.reduceEq, Int.reduceBEq, Int.reduceBNe]; done))
  rintro m w z ⟨k, rfl, hk, a1, a3, a4, rfl⟩
  by_cases c : k < outs.length
  · have q1 : (k : Int) < (outs.length : Int) := by omega
    have hx := hout outs[k] (List.getElem_mem c)
    have ek : outs[k]? = some outs[k] := List.getElem?_eq_getElem c
    have eg : outs.getD k default = outs[k] := by rw [List.getD_eq_getElem?_getD, ek]; rfl
    have hsl : (setAll (List.replicate ns.length false) (outs.take k)).length = ns.length := by rw [setAll_len]; simp
    have hrow := bool_row (l := setAll (List.replicate ns.length false) (outs.take k)) (i := outs[k].toNat) (by rw [hsl]; omega)
    simp (maxSteps := 4000000) only [↓packA, ↓reduceIte, packB, pureOp, quietOp, loadOp, quietB, fr0, cellsK, implies_true, ite_true, ite_false, eq_self, ne_eq, reduceCtorEq, Nat.reduceLT, Nat.reduceLeDiff, Nat.reduceAdd, Nat.reduceMul, Nat.reduceBEq, Nat.reduceEqDiff, Int.reduceToNat, Int.reduceLT, Int.reduceLE, Nat.reduceSub, pl24, ft1, ft2, ft3, ft4, ft22, ft23, ft25, ft44, ft57, ft61, ft63, a1, a3, a4, q1, hA0, eg, hrow, bool_set, List.length_map, concA, Int.reduceAdd, Int.reduceSub, Int.reduceNeg, Int.reduceMul, Int.reduceEq, Int.reduceBEq, Int.reduceBNe]
    refine ⟨by omega, by omega, by omega, by omega, .inl ⟨outs.length - (k + 1), by omega, k + 1, rfl, by omega, by omega, ?_⟩⟩
    rw [setAll_take ek]
    rfl
  · have q1 : ¬ (k : Int) < (outs.length : Int) := by omega
    obtain rfl : k = outs.length := by omega
    rw [List.take_length]
    simp (maxSteps := 4000000) only [↓packA, ↓reduceIte, packB, pureOp, quietOp, loadOp, quietB, fr0, cellsK, implies_true, ite_true, ite_false, eq_self, ne_eq, reduceCtorEq, Nat.reduceLT, Nat.reduceLeDiff, Nat.reduceAdd, Nat.reduceMul, Nat.reduceBEq, Nat.reduceEqDiff, Int.reduceToNat, Int.reduceLT, Int.reduceLE, Nat.reduceSub, pl24, ft1, ft2, ft3, ft4, ft22, ft23, ft25, ft44, ft57, ft61, ft63, a1, a3, a4, q1, hA0, List.length_map, concA, Int.reduceAdd, Int.reduceSub, Int.reduceNeg, Int.reduceMul, Int.reduceEq, Int.reduceBEq, Int.reduceBNe]
    refine ⟨by omega, ?_⟩
    refine LoopK.intro (fun m w z => ∃ (k : Nat) (L : List Bool), m = k ∧ k ≤ ns.length ∧ LiveD ns outs L k ∧ w 1 = .op 0 3 0 0 ∧ w 3 = .osl 1 1 0 ns.length ns.length true ∧ w 5 = .int .i64 ((k : Int) - 1) ∧ z = [.arr 3 A true, .arr 1 (List.map boolE L) true]) ns.length ⟨_, _, rfl, Nat.le_refl _, LiveD.start hout, ?_, ?_, ?_, rfl⟩ ?_
    rotate_right
    all_goals (try (simp (maxSteps := 4000000) only [↓packA, ↓reduceIte, packB, pureOp, quietOp, loadOp, quietB, fr0, cellsK, implies_true, ite_true, ite_false, eq_self, ne_eq, reduceCtorEq, Nat.reduceLT, Nat.reduceLeDiff, Nat.reduceAdd, Nat.reduceMul, Nat.reduceBEq, Nat.reduceEqDiff, Int.reduceToNat, Int.reduceLT, Int.reduceLE, Nat.reduceSub, pl24, ft1, ft2, ft3, ft4, ft22, ft23, ft25, ft44, ft57, ft61, ft63, a1, a3, concA, Int.reduceAdd, Int.reduceSub, Int.reduceNeg, Int.reduceMul, Int.reduceEq, Int.reduceBEq, Int.reduceBNe]; done))
    clear a1 a3 a4 q1 c hk
    rintro m w z ⟨k, L, hmk, hk, hD, a1, a3, a5, rfl⟩
    cases k with
    | zero =>
      simp (maxSteps := 4000000) only [↓packA, ↓reduceIte, packB, pureOp, quietOp, loadOp, quietB, fr0, cellsK, implies_true, ite_true, ite_false, eq_self, ne_eq, reduceCtorEq, Nat.reduceLT, Nat.reduceLeDiff, Nat.reduceAdd, Nat.reduceMul, Nat.reduceBEq, Nat.reduceEqDiff, Int.reduceToNat, Int.reduceLT, Int.reduceLE, Nat.reduceSub, pl24, ft1, ft2, ft3, ft4, ft22, ft23, ft25, ft44, ft57, ft61, ft63, a1, a3, a5, concA, Int.reduceAdd, Int.reduceSub, Int.reduceNeg, Int.reduceMul, Int.reduceEq, Int.reduceBEq, Int.reduceBNe]
      rw [liveO_eq hD.done]
      refine .osl 1 1 0 ns.length ns.length true true _ _ rfl (by simp [hD.len]) (by simp [hD.len]) (fun j e e' h1 h2 => ?_) (fun j e e' q u u' h1 h2 h3 h4 => ?_)
      · rw [Nat.zero_add] at h1
        rw [h1] at h2
        rw [Option.some.inj h2]
      · rw [Nat.zero_add] at h1
        rw [h1] at h2
        obtain rfl := Option.some.inj h2
        rw [h3] at h4
        obtain rfl := Option.some.inj h4
        obtain ⟨b, _, rfl⟩ := List.mem_map.1 (List.mem_of_getElem? h1)
        cases q with
        | zero => simp [boolE] at h3; subst h3; exact .pure _ rfl
        | succ q => simp [boolE] at h3
    | succ k =>
      have e1 : ((k + 1 : Nat) : Int) - 1 = (k : Int) := by omega
      rw [e1] at a5
      have q1 : (k : Int) ≥ 0 := by omega
      obtain ⟨n, hn⟩ : ∃ n, ns[k]? = some n := ⟨_, List.getElem?_eq_getElem (by omega)⟩
      have rk : (List.map Nd.cells ns)[k]? = some (Nd.cells n) := by rw [List.getElem?_map, hn]; rfl
      have hrow := bool_row (l := L) (i := k) (by rw [hD.len]; omega)
      have hv := hat k n hn
      cases hb : L.getD k false with
      | false =>
        rw [hb] at hrow
        simp (maxSteps := 4000000) only [↓packA, ↓reduceIte, packB, pureOp, quietOp, loadOp, quietB, fr0, cellsK, implies_true, ite_true, ite_false, eq_self, ne_eq, reduceCtorEq, Nat.reduceLT, Nat.reduceLeDiff, Nat.reduceAdd, Nat.reduceMul, Nat.reduceBEq, Nat.reduceEqDiff, Int.reduceToNat, Int.reduceLT, Int.reduceLE, Nat.reduceSub, pl24, ft1, ft2, ft3, ft4, ft22, ft23, ft25, ft44, ft57, ft61, ft63, a1, a3, a5, q1, hrow, concA, Int.reduceAdd, Int.reduceSub, Int.reduceNeg, Int.reduceMul, Int.reduceEq, Int.reduceBEq, Int.reduceBNe]
        exact ⟨by omega, by omega, .inl ⟨k, by omega, k, L, rfl, by omega, hD.skip hb, rfl, rfl⟩⟩
      | true =>
        rw [hb] at hrow
        simp (maxSteps := 4000000) only [↓packA, ↓reduceIte, packB, pureOp, quietOp, loadOp, quietB, fr0, cellsK, implies_true, ite_true, ite_false, eq_self, ne_eq, reduceCtorEq, Nat.reduceLT, Nat.reduceLeDiff, Nat.reduceAdd, Nat.reduceMul, Nat.reduceBEq, Nat.reduceEqDiff, Int.reduceToNat, Int.reduceLT, Int.reduceLE, Nat.reduceSub, pl24, ft1, ft2, ft3, ft4, ft22, ft23, ft25, ft44, ft57, ft61, ft63, a1, a3, a5, q1, hrow, hA0, rk, Nd.cells, concA, Int.reduceAdd, Int.reduceSub, Int.reduceNeg, Int.reduceMul, Int.reduceEq, Int.reduceBEq, Int.reduceBNe]
        refine ⟨by omega, ?_⟩
        refine acalls_fresh (rops_o n) (.cons (.pure _ rfl) .nil) fun u hx hz => ⟨_, hz, ?_⟩
        simp (maxSteps := 4000000) only [↓packA, ↓reduceIte, packB, pureOp, quietOp, loadOp, quietB, fr0, cellsK, implies_true, ite_true, ite_false, eq_self, ne_eq, reduceCtorEq, Nat.reduceLT, Nat.reduceLeDiff, Nat.reduceAdd, Nat.reduceMul, Nat.reduceBEq, Nat.reduceEqDiff, Int.reduceToNat, Int.reduceLT, Int.reduceLE, Nat.reduceSub, pl24, ft1, ft2, ft3, ft4, ft22, ft23, ft25, ft44, ft57, ft61, ft63, ints, concA, Int.reduceAdd, Int.reduceSub, Int.reduceNeg, Int.reduceMul, Int.reduceEq, Int.reduceBEq, Int.reduceBNe]
        have hnp : (nops n).length ≤ 2 := by
          unfold nops
          split
          · simp
          · split <;> simp
        refine LoopK.intro (fun m w z => ∃ p : Nat, m = (nops n).length - p ∧ p ≤ (nops n).length ∧ w 1 = .op 0 3 0 0 ∧ w 3 = .osl 1 1 0 ns.length ns.length true ∧ w 5 = .int .i64 k ∧ w 6 = ints (nops n) ∧ w 7 = .int .i64 p ∧ z = [.arr 3 A true, .arr 1 (List.map boolE (setAll L ((nops n).take p))) true]) (nops n).length ⟨0, rfl, by omega, ?_, ?_, ?_, ?_, ?_, rfl⟩ ?_
        rotate_right
        all_goals (try (simp (maxSteps := 4000000) only [↓packA, ↓reduceIte, packB, pureOp, quietOp, loadOp, quietB, fr0, cellsK, implies_true, ite_true, ite_false, eq_self, ne_eq, reduceCtorEq, Nat.reduceLT, Nat.reduceLeDiff, Nat.reduceAdd, Nat.reduceMul, Nat.reduceBEq, Nat.reduceEqDiff, Int.reduceToNat, Int.reduceLT, Int.reduceLE, Nat.reduceSub, pl24, ft1, ft2, ft3, ft4, ft22, ft23, ft25, ft44, ft57, ft61, ft63, a1, a3, a5, ints, Int.natCast_zero, concA, Int.reduceAdd, Int.reduceSub, Int.reduceNeg, Int.reduceMul, Int.reduceEq, Int.reduceBEq, Int.reduceBNe]; done))
        clear a1 a3 a5
        rintro m2 w z ⟨p, hm2, hp, a1, a3, a5, a6, a7, rfl⟩
        by_cases cp : p < (nops n).length
        · have qp : (p : Int) < ((nops n).length : Int) := by omega
          have ek : (nops n)[p]? = some (nops n)[p] := List.getElem?_eq_getElem cp
          have hx := nops_lt hv (nops n)[p] (List.getElem_mem cp)
          have eg : (nops n).getD p default = (nops n)[p] := by rw [List.getD_eq_getElem?_getD, ek]; rfl
          have hsl : (setAll L ((nops n).take p)).length = ns.length := by rw [setAll_len]; exact hD.len
          have hrow := bool_row (l := setAll L ((nops n).take p)) (i := (nops n)[p].toNat) (by rw [hsl]; omega)
          simp (maxSteps := 4000000) only [↓packA, ↓reduceIte, packB, pureOp, quietOp, loadOp, quietB, fr0, cellsK, implies_true, ite_true, ite_false, eq_self, ne_eq, reduceCtorEq, Nat.reduceLT, Nat.reduceLeDiff, Nat.reduceAdd, Nat.reduceMul, Nat.reduceBEq, Nat.reduceEqDiff, Int.reduceToNat, Int.reduceLT, Int.reduceLE, Nat.reduceSub, pl24, ft1, ft2, ft3, ft4, ft22, ft23, ft25, ft44, ft57, ft61, ft63, ints, a1, a3, a5, a6, a7, qp, eg, hrow, bool_set, List.length_map, concA, Int.reduceAdd, Int.reduceSub, Int.reduceNeg, Int.reduceMul, Int.reduceEq, Int.reduceBEq, Int.reduceBNe]
          refine ⟨by omega, by omega, by omega, by omega, .inl ⟨(nops n).length - (p + 1), by omega, p + 1, rfl, by omega, by omega, ?_⟩⟩
          rw [setAll_take ek]
          rfl
        · have qp : ¬ (p : Int) < ((nops n).length : Int) := by omega
          obtain rfl : p = (nops n).length := by omega
          rw [List.take_length]
          simp (maxSteps := 4000000) only [↓packA, ↓reduceIte, packB, pureOp, quietOp, loadOp, quietB, fr0, cellsK, implies_true, ite_true, ite_false, eq_self, ne_eq, reduceCtorEq, Nat.reduceLT, Nat.reduceLeDiff, Nat.reduceAdd, Nat.reduceMul, Nat.reduceBEq, Nat.reduceEqDiff, Int.reduceToNat, Int.reduceLT, Int.reduceLE, Nat.reduceSub, pl24, ft1, ft2, ft3, ft4, ft22, ft23, ft25, ft44, ft57, ft61, ft63, ints, a1, a3, a5, a6, a7, qp, concA, Int.reduceAdd, Int.reduceSub, Int.reduceNeg, Int.reduceMul, Int.reduceEq, Int.reduceBEq, Int.reduceBNe]
          exact ⟨by omega, .inl ⟨k, by omega, k, _, rfl, by omega, hD.step hn hv hb, by omega, rfl⟩⟩
end Go.Proofs.YtclbobielhllmaaGreat
end
section
namespace Go.Proofs.YtclbobielhllmaaGreat
open Go Go.AL
set_option linter.unusedVariables false
set_option linter.unusedSimpArgs false
theorem one_shl {n : Nat} (h : n < 64) : IntKind.u64.wrap (1 * 2 ^ min n IntKind.u64.bits) = ((2 ^ n : Nat) : Int) := by
  have h2 : 2 ^ n < 2 ^ 64 := Nat.pow_lt_pow_right (by decide) h
  have := shl64 (l := 1) (s := n) (by omega) (by omega)
  simpa using this
def wordsR (vars : Int) (m : Nat) : List (List AV) := if vars = 0 then [] else [[.int .u64 m]]
def setC (vars : Int) (m : Nat) : List AV := [.int .i64 vars, .isl 1 (wordsR vars m)]
theorem wordsR_0 {m : Nat} : wordsR 0 m = [] := if_pos rfl
theorem wordsR_1 {vars : Int} {m : Nat} (h : ¬ vars = 0) : wordsR vars m = [[.int .u64 m]] := if_neg h
set_option maxRecDepth 100000 in
theorem sized_c (vars : Int) (h : 0 ≤ vars ∧ vars ≤ 64) : APure Tryz.prog 53 [.int .i64 vars] (.bool true) := by
  refine apure_of (wp53 rfl rfl ?_)
  have q1 : vars ≥ 0 := h.1
  have q2 : vars ≤ 4096 := by omega
  simp (maxSteps := 4000000) only [↓packA, ↓reduceIte, packB, pureOp, quietOp, loadOp, quietB, fr0, cellsK, implies_true, ite_true, ite_false, eq_self, ne_eq, reduceCtorEq, Nat.reduceLT, Nat.reduceLeDiff, Nat.reduceAdd, Nat.reduceMul, Nat.reduceBEq, Nat.reduceEqDiff, Int.reduceToNat, Int.reduceLT, Int.reduceLE, Nat.reduceSub, pl53, ft3, q1, q2, concA, Int.reduceAdd, Int.reduceSub, Int.reduceNeg, Int.reduceMul, Int.reduceEq, Int.reduceBEq, Int.reduceBNe]
  exact .pure _ rfl
theorem quo_words {vars : Int} (h : 0 ≤ vars ∧ vars ≤ 64) : IntKind.i64.wrap ((vars + 64 - 1).tdiv 64) = if vars = 0 then 0 else 1 := by
  obtain ⟨n, rfl⟩ := Int.eq_ofNat_of_zero_le h.1
  rw [show (n : Int) + 64 - 1 = ((n + 63 : Nat) : Int) by omega, show ((n + 63 : Nat) : Int).tdiv 64 = (((n + 63) / 64 : Nat) : Int) from (Int.ofNat_tdiv (n + 63) 64).symm, IntKind.wrap_i64]
  split <;> omega
set_option maxRecDepth 100000 in
theorem words_c (vars : Int) (h : 0 ≤ vars ∧ vars ≤ 64) : APure Tryz.prog 73 [.int .i64 vars] (.int .i64 (if vars = 0 then 0 else 1)) := by
  refine apure_of (wp73 rfl rfl ?_)
  have hq := quo_words h
  simp (maxSteps := 4000000) only [↓packA, ↓reduceIte, packB, pureOp, quietOp, loadOp, quietB, fr0, cellsK, implies_true, ite_true, ite_false, eq_self, ne_eq, reduceCtorEq, Nat.reduceLT, Nat.reduceLeDiff, Nat.reduceAdd, Nat.reduceMul, Nat.reduceBEq, Nat.reduceEqDiff, Int.reduceToNat, Int.reduceLT, Int.reduceLE, Nat.reduceSub, pl73, ft3, hq, concA, Int.reduceAdd, Int.reduceSub, Int.reduceNeg, Int.reduceMul, Int.reduceEq, Int.reduceBEq, Int.reduceBNe]
  exact ⟨by omega, by omega, .pure _ rfl⟩
set_option maxRecDepth 100000 in
theorem blank_o (vars : Int) (hv : 0 ≤ vars ∧ vars ≤ 64) {h : Heap} {Q : AV → Heap → Prop} (hq : ∀ o, Q (.agg [.int .i64 vars, .osl (h.length + 1) 1 0 (wordsR vars 0).length (wordsR vars 0).length true]) (h ++ [o, .arr 1 (wordsR vars 0) true])) : ACalls Tryz.prog 54 [.int .i64 vars] h Q := by
  refine wp54 rfl rfl ?_
  obtain ⟨M, hM⟩ : ∃ M, h.length = M := ⟨_, rfl⟩
  have tM := tailR hM
  rw [hM] at hq
  by_cases c : vars = 0
  · subst c
    have hw := words_c 0 hv
    rw [if_pos rfl] at hw
    rw [wordsR_0] at hq
    simp (maxSteps := 4000000) only [↓packA, ↓reduceIte, packB, pureOp, quietOp, loadOp, quietB, fr0, cellsK, implies_true, ite_true, ite_false, eq_self, ne_eq, reduceCtorEq, Nat.reduceLT, Nat.reduceLeDiff, Nat.reduceAdd, Nat.reduceMul, Nat.reduceBEq, Nat.reduceEqDiff, Int.reduceToNat, Int.reduceLT, Int.reduceLE, Nat.reduceSub, pl54, ft2, ft3, ft84, ft100, ft110, hM, concA, Int.reduceAdd, Int.reduceSub, Int.reduceNeg, Int.reduceMul, Int.reduceEq, Int.reduceBEq, Int.reduceBNe]
    refine acalls_pure hw rfl ?_
    simp (maxSteps := 4000000) only [↓packA, ↓reduceIte, packB, pureOp, quietOp, loadOp, quietB, fr0, cellsK, implies_true, ite_true, ite_false, eq_self, ne_eq, reduceCtorEq, Nat.reduceLT, Nat.reduceLeDiff, Nat.reduceAdd, Nat.reduceMul, Nat.reduceBEq, Nat.reduceEqDiff, Int.reduceToNat, Int.reduceLT, Int.reduceLE, Nat.reduceSub, pl54, ft2, ft3, ft84, ft100, ft110, hM, tM, patch, patch', List.replicate_zero, concA, Int.reduceAdd, Int.reduceSub, Int.reduceNeg, Int.reduceMul, Int.reduceEq, Int.reduceBEq, Int.reduceBNe]
    exact hq _
  · have hw := words_c vars hv
    rw [if_neg c] at hw
    rw [wordsR_1 c] at hq
    simp (maxSteps := 4000000) only [↓packA, ↓reduceIte, packB, pureOp, quietOp, loadOp, quietB, fr0, cellsK, implies_true, ite_true, ite_false, eq_self, ne_eq, reduceCtorEq, Nat.reduceLT, Nat.reduceLeDiff, Nat.reduceAdd, Nat.reduceMul, Nat.reduceBEq, Nat.reduceEqDiff, Int.reduceToNat, Int.reduceLT, Int.reduceLE, Nat.reduceSub, pl54, ft2, ft3, ft84, ft100, ft110, hM, concA, Int.reduceAdd, Int.reduceSub, Int.reduceNeg, Int.reduceMul, Int.reduceEq, Int.reduceBEq, Int.reduceBNe]
    refine acalls_pure hw rfl ?_
    simp (maxSteps := 4000000) only [↓packA, ↓reduceIte, packB, pureOp, quietOp, loadOp, quietB, fr0, cellsK, implies_true, ite_true, ite_false, eq_self, ne_eq, reduceCtorEq, Nat.reduceLT, Nat.reduceLeDiff, Nat.reduceAdd, Nat.reduceMul, Nat.reduceBEq, Nat.reduceEqDiff, Int.reduceToNat, Int.reduceLT, Int.reduceLE, Nat.reduceSub, pl54, ft2, ft3, ft84, ft100, ft110, hM, tM, patch, patch', concA, Int.reduceAdd, Int.reduceSub, Int.reduceNeg, Int.reduceMul, Int.reduceEq, Int.reduceBEq, Int.reduceBNe]
    exact hq _
set_option maxRecDepth 100000 in
theorem within_o (vars e : Int) (W : AV) (he : 0 ≤ e ∧ e < vars) {h : Heap} {Q : AV → Heap → Prop} (hq : ∀ o, Q (.bool true) (h ++ [o])) : ACalls Tryz.prog 55 [.agg [.int .i64 vars, W], .int .i64 e] h Q := by
  refine wp55 rfl rfl ?_
  obtain ⟨M, hM⟩ : ∃ M, h.length = M := ⟨_, rfl⟩
  have tM := tailR hM
  have q1 : e ≥ 0 := he.1
  have q2 : e < vars := he.2
  simp (maxSteps := 4000000) only [↓packA, ↓reduceIte, packB, pureOp, quietOp, loadOp, quietB, fr0, cellsK, implies_true, ite_true, ite_false, eq_self, ne_eq, reduceCtorEq, Nat.reduceLT, Nat.reduceLeDiff, Nat.reduceAdd, Nat.reduceMul, Nat.reduceBEq, Nat.reduceEqDiff, Int.reduceToNat, Int.reduceLT, Int.reduceLE, Nat.reduceSub, pl55, ft3, ft84, ft100, ft110, hM, tM, q1, q2, concA, Int.reduceAdd, Int.reduceSub, Int.reduceNeg, Int.reduceMul, Int.reduceEq, Int.reduceBEq, Int.reduceBNe]
  exact hq _
set_option maxRecDepth 100000 in
theorem or_c (x y : Nat) (hx : x < 2 ^ 64) (hy : y < 2 ^ 64) : APure Tryz.prog 59 [.int .u64 x, .int .u64 y] (.int .u64 ((x ||| y : Nat) : Int)) := by
  refine apure_of (wp59 rfl rfl ?_)
  have e := u64or hx hy
  simp (maxSteps := 4000000) only [↓packA, ↓reduceIte, packB, pureOp, quietOp, loadOp, quietB, fr0, cellsK, implies_true, ite_true, ite_false, eq_self, ne_eq, reduceCtorEq, Nat.reduceLT, Nat.reduceLeDiff, Nat.reduceAdd, Nat.reduceMul, Nat.reduceBEq, Nat.reduceEqDiff, Int.reduceToNat, Int.reduceLT, Int.reduceLE, Nat.reduceSub, pl59, ft110, limR, e, concA, Int.reduceAdd, Int.reduceSub, Int.reduceNeg, Int.reduceMul, Int.reduceEq, Int.reduceBEq, Int.reduceBNe]
  exact .pure _ rfl
set_option maxRecDepth 100000 in
theorem mask_c (vars : Int) (h : 1 ≤ vars ∧ vars ≤ 64) : APure Tryz.prog 77 [.int .i64 vars] (.int .u64 ((2 ^ vars.toNat - 1 : Nat) : Int)) := by
  refine apure_of (wp77 rfl rfl ?_)
  by_cases c : vars = 64
  · subst c
    have hr : (64 : Int).tmod 64 = 0 := by decide
    simp (maxSteps := 4000000) only [↓packA, ↓reduceIte, packB, pureOp, quietOp, loadOp, quietB, fr0, cellsK, implies_true, ite_true, ite_false, eq_self, ne_eq, reduceCtorEq, Nat.reduceLT, Nat.reduceLeDiff, Nat.reduceAdd, Nat.reduceMul, Nat.reduceBEq, Nat.reduceEqDiff, Int.reduceToNat, Int.reduceLT, Int.reduceLE, Nat.reduceSub, pl77, ft3, ft110, hr, limR, concA, Int.reduceAdd, Int.reduceSub, Int.reduceNeg, Int.reduceMul, Int.reduceEq, Int.reduceBEq, Int.reduceBNe]
    exact .pure _ rfl
  · obtain ⟨n, rfl⟩ := Int.eq_ofNat_of_zero_le (show 0 ≤ vars by omega)
    have hr : ((n : Nat) : Int).tmod 64 = (n : Int) := by
      rw [show ((n : Nat) : Int).tmod 64 = ((n % 64 : Nat) : Int) from (Int.ofNat_tmod n 64).symm]
      omega
    have q : ¬ ((n : Nat) : Int) = 0 := by omega
    simp (maxSteps := 4000000) only [↓packA, ↓reduceIte, packB, pureOp, quietOp, loadOp, quietB, fr0, cellsK, implies_true, ite_true, ite_false, eq_self, ne_eq, reduceCtorEq, Nat.reduceLT, Nat.reduceLeDiff, Nat.reduceAdd, Nat.reduceMul, Nat.reduceBEq, Nat.reduceEqDiff, Int.reduceToNat, Int.reduceLT, Int.reduceLE, Nat.reduceSub, pl77, ft3, ft110, hr, q, limR, concA, Int.reduceAdd, Int.reduceSub, Int.reduceNeg, Int.reduceMul, Int.reduceEq, Int.reduceBEq, Int.reduceBNe]
    rw [one_shl (by omega)]
    refine ⟨by omega, ?_⟩
    have e : IntKind.u64.wrap (((2 ^ n : Nat) : Int) - 1) = ((2 ^ n - 1 : Nat) : Int) := by
      have h1 := Nat.two_pow_pos n
      have h2 : 2 ^ n < 2 ^ 64 := Nat.pow_lt_pow_right (by decide) (by omega)
      rw [IntKind.wrap_u64]
      omega
    rw [e]
    exact .pure _ rfl
theorem wordsR_len {vars : Int} {m m' : Nat} : (wordsR vars m).length = (wordsR vars m').length := by unfold wordsR; split <;> rfl
theorem wordsR_flat {vars : Int} {m : Nat} : ∀ e, e ∈ wordsR vars m → flats e = true := fun e he => by
  unfold wordsR at he
  split at he
  · cases he
  · simp at he; subst he; rfl
theorem ofz_set {h : Heap} {id len cap : Nat} {ex ex' : Bool} {vars e : Int} {m : Nat} (hid : h[id]? = some (.arr 1 (wordsR vars m) ex')) (hl : len = (wordsR vars m).length) : OFz h (.tup [.agg [.int .i64 vars, .osl id 1 0 len cap ex], .int .i64 e]) (.tup [.agg (setC vars m), .int .i64 e]) := by
  have h1 := OFz.osl (h := h) id 1 0 len cap ex ex' _ hid (by omega) wordsR_flat
  rw [List.drop_zero, List.take_of_length_le (by omega)] at h1
  refine .two (.agg _ _ rfl fun q x x' hx hx' => ?_) (.flat _ rfl)
  match q with
  | 0 => simp [setC] at hx hx'; subst hx hx'; exact .flat _ rfl
  | 1 => simp [setC] at hx hx'; subst hx hx'; exact h1
  | q + 2 => simp at hx
theorem put_o (vars e : Int) (m id : Nat) (hv : vars ≤ 64) (he : 0 ≤ e ∧ e < vars) (hm : m < 2 ^ 64) {h : Heap} {ex : Bool} (hid : h[id]? = some (.arr 1 [[.int .u64 m]] ex)) {Q : AV → Heap → Prop} (hq : ∀ u o, Q u (h.set id (.arr 1 [[.int .u64 ((m ||| 2 ^ e.toNat : Nat) : Int)]] ex) ++ [o])) : ACalls Tryz.prog 56 [.agg [.int .i64 vars, .osl id 1 0 1 1 true], .int .i64 e] h Q := by
  refine wp56 rfl rfl ?_
  obtain ⟨M, hM⟩ : ∃ M, h.length = M := ⟨_, rfl⟩
  have tM := tailR hM
  have hidl := (List.getElem?_eq_some_iff.1 hid).1
  have rid : ∀ t, (h ++ t)[id]? = some (.arr 1 [[.int .u64 m]] ex) := fun t => by rw [List.getElem?_append_left hidl]; exact hid
  have sid : ∀ t o, (h ++ t).set id o = h.set id o ++ t := fun t o => List.set_append_left _ _ hidl
  obtain ⟨n, rfl⟩ := Int.eq_ofNat_of_zero_le he.1
  have hqo : IntKind.i64.wrap ((n : Int).tdiv 64) = 0 := by
    rw [show (n : Int).tdiv 64 = ((n / 64 : Nat) : Int) from (Int.ofNat_tdiv n 64).symm, IntKind.wrap_i64]
    omega
  have hr : ((n : Nat) : Int).tmod 64 = (n : Int) := by
    rw [show ((n : Nat) : Int).tmod 64 = ((n % 64 : Nat) : Int) from (Int.ofNat_tmod n 64).symm]
    omega
  have e1 := one_shl (n := n) (by omega)
  have h2 : 2 ^ n < 2 ^ 64 := Nat.pow_lt_pow_right (by decide) (by omega)
  have e2 := u64or hm h2
  rw [Int.toNat_natCast] at hq
  simp (maxSteps := 4000000) only [↓packA, ↓reduceIte, packB, pureOp, quietOp, loadOp, quietB, fr0, cellsK, implies_true, ite_true, ite_false, eq_self, ne_eq, reduceCtorEq, Nat.reduceLT, Nat.reduceLeDiff, Nat.reduceAdd, Nat.reduceMul, Nat.reduceBEq, Nat.reduceEqDiff, Int.reduceToNat, Int.reduceLT, Int.reduceLE, Nat.reduceSub, pl56, ft1, ft3, ft84, ft100, ft110, hM, tM, rid, sid, hqo, hr, limR, e1, e2, concA, Int.reduceAdd, Int.reduceSub, Int.reduceNeg, Int.reduceMul, Int.reduceEq, Int.reduceBEq, Int.reduceBNe]
  exact ⟨by omega, hq _ _⟩
set_option maxHeartbeats 1000000 in
set_option maxRecDepth 100000 in
theorem make_o (vars e : Int) (hv : vars ≤ 64) (he : 0 ≤ e ∧ e < vars) : ACalls Tryz.prog 36 [.int .i64 vars, ints [e]] [] fun v h => OFz h v (.tup [.agg (setC vars (2 ^ e.toNat)), .int .i64 0]) := by
  refine wp36 rfl rfl ?_
  have q0 : ¬ vars = 0 := by omega
  have hs := sized_c vars (by omega)
  simp (maxSteps := 4000000) only [↓packA, ↓reduceIte, packB, pureOp, quietOp, loadOp, quietB, fr0, cellsK, implies_true, ite_true, ite_false, eq_self, ne_eq, reduceCtorEq, Nat.reduceLT, Nat.reduceLeDiff, Nat.reduceAdd, Nat.reduceMul, Nat.reduceBEq, Nat.reduceEqDiff, Int.reduceToNat, Int.reduceLT, Int.reduceLE, Nat.reduceSub, pl36, ft3, ft4, ft23, ft84, ft100, ft110, concA, Int.reduceAdd, Int.reduceSub, Int.reduceNeg, Int.reduceMul, Int.reduceEq, Int.reduceBEq, Int.reduceBNe]
  refine acalls_pure hs rfl ?_
  simp (maxSteps := 4000000) only [↓packA, ↓reduceIte, packB, pureOp, quietOp, loadOp, quietB, fr0, cellsK, implies_true, ite_true, ite_false, eq_self, ne_eq, reduceCtorEq, Nat.reduceLT, Nat.reduceLeDiff, Nat.reduceAdd, Nat.reduceMul, Nat.reduceBEq, Nat.reduceEqDiff, Int.reduceToNat, Int.reduceLT, Int.reduceLE, Nat.reduceSub, pl36, ft3, ft4, ft23, ft84, ft100, ft110, concA, Int.reduceAdd, Int.reduceSub, Int.reduceNeg, Int.reduceMul, Int.reduceEq, Int.reduceBEq, Int.reduceBNe]
  refine blank_o vars (by omega) fun o => ?_
  rw [wordsR_1 q0]
  simp (maxSteps := 4000000) only [↓packA, ↓reduceIte, packB, pureOp, quietOp, loadOp, quietB, fr0, cellsK, implies_true, ite_true, ite_false, eq_self, ne_eq, reduceCtorEq, Nat.reduceLT, Nat.reduceLeDiff, Nat.reduceAdd, Nat.reduceMul, Nat.reduceBEq, Nat.reduceEqDiff, Int.reduceToNat, Int.reduceLT, Int.reduceLE, Nat.reduceSub, pl36, ft3, ft4, ft23, ft84, ft100, ft110, ints, List.map_cons, List.map_nil, concA, Int.reduceAdd, Int.reduceSub, Int.reduceNeg, Int.reduceMul, Int.reduceEq, Int.reduceBEq, Int.reduceBNe]
  refine LoopN.loop 2 ?_
  simp (maxSteps := 4000000) only [↓packA, ↓reduceIte, packB, pureOp, quietOp, loadOp, quietB, fr0, cellsK, implies_true, ite_true, ite_false, eq_self, ne_eq, reduceCtorEq, Nat.reduceLT, Nat.reduceLeDiff, Nat.reduceAdd, Nat.reduceMul, Nat.reduceBEq, Nat.reduceEqDiff, Int.reduceToNat, Int.reduceLT, Int.reduceLE, Nat.reduceSub, pl36, ft3, ft4, ft23, ft84, ft100, ft110, ints, List.map_cons, List.map_nil, ↓LoopN_succ, concA, Int.reduceAdd, Int.reduceSub, Int.reduceNeg, Int.reduceMul, Int.reduceEq, Int.reduceBEq, Int.reduceBNe]
  refine within_o vars e _ he fun o2 => ?_
  simp (maxSteps := 4000000) only [↓packA, ↓reduceIte, packB, pureOp, quietOp, loadOp, quietB, fr0, cellsK, implies_true, ite_true, ite_false, eq_self, ne_eq, reduceCtorEq, Nat.reduceLT, Nat.reduceLeDiff, Nat.reduceAdd, Nat.reduceMul, Nat.reduceBEq, Nat.reduceEqDiff, Int.reduceToNat, Int.reduceLT, Int.reduceLE, Nat.reduceSub, pl36, ft3, ft4, ft23, ft84, ft100, ft110, concA, Int.reduceAdd, Int.reduceSub, Int.reduceNeg, Int.reduceMul, Int.reduceEq, Int.reduceBEq, Int.reduceBNe]
  refine put_o vars e 0 2 hv he (by decide) rfl fun u o3 => ?_
  simp (maxSteps := 4000000) only [↓packA, ↓reduceIte, packB, pureOp, quietOp, loadOp, quietB, fr0, cellsK, implies_true, ite_true, ite_false, eq_self, ne_eq, reduceCtorEq, Nat.reduceLT, Nat.reduceLeDiff, Nat.reduceAdd, Nat.reduceMul, Nat.reduceBEq, Nat.reduceEqDiff, Int.reduceToNat, Int.reduceLT, Int.reduceLE, Nat.reduceSub, pl36, ft3, ft4, ft23, ft84, ft100, ft110, patch, patch', concA, Int.reduceAdd, Int.reduceSub, Int.reduceNeg, Int.reduceMul, Int.reduceEq, Int.reduceBEq, Int.reduceBNe]
  unfold LoopN
  simp (maxSteps := 4000000) only [↓packA, ↓reduceIte, packB, pureOp, quietOp, loadOp, quietB, fr0, cellsK, implies_true, ite_true, ite_false, eq_self, ne_eq, reduceCtorEq, Nat.reduceLT, Nat.reduceLeDiff, Nat.reduceAdd, Nat.reduceMul, Nat.reduceBEq, Nat.reduceEqDiff, Int.reduceToNat, Int.reduceLT, Int.reduceLE, Nat.reduceSub, pl36, ft3, ft4, ft23, ft84, ft100, ft110, patch, patch', concA, Int.reduceAdd, Int.reduceSub, Int.reduceNeg, Int.reduceMul, Int.reduceEq, Int.reduceBEq, Int.reduceBNe]
  rw [Nat.zero_or]
  exact ofz_set (by rw [wordsR_1 q0]; rfl) (by rw [wordsR_1 q0]; rfl)
theorem bin_andNot {P : Program} {K : AV → Prop} {t : TypeId} {k : IntKind} {x y : Int} : binAll P .andNot t (.int k x) (.int k y) K = K (.int k (k.wrap ((BitVec.ofInt k.bits x &&& ~~~ (BitVec.ofInt k.bits y)).toNat))) := by simp [binAll, iK]
theorem u64andNot {x y : Nat} (hx : x < 2 ^ 64) (hy : y < 2 ^ 64) : IntKind.u64.wrap ((BitVec.ofInt IntKind.u64.bits ((x : Nat) : Int) &&& ~~~ (BitVec.ofInt IntKind.u64.bits ((y : Nat) : Int))).toNat) = ((x &&& (2 ^ 64 - 1 - y) : Nat) : Int) := by
  rw [BitVec.toNat_and, BitVec.toNat_not, u64bits hx, u64bits hy, IntKind.wrap_u64]
  have : x &&& (2 ^ IntKind.u64.bits - 1 - y) ≤ x := Nat.and_le_left
  rw [show IntKind.u64.bits = 64 from rfl] at *
  omega
theorem andNot0 {m n : Nat} (h : m < 2 ^ n) (hn : n ≤ 64) : m &&& (2 ^ 64 - 1 - (2 ^ n - 1)) = 0 := by
  apply Nat.eq_of_testBit_eq
  intro i
  rw [Nat.zero_testBit, Nat.testBit_and]
  by_cases hi : i < n
  · have h1 : (2 ^ 64 - 1 - (2 ^ n - 1)).testBit i = false := by
      have e : 2 ^ 64 - 1 - (2 ^ n - 1) = 2 ^ n * (2 ^ (64 - n) - 1) := by
        rw [Nat.mul_sub, ← Nat.pow_add, Nat.mul_one, show n + (64 - n) = 64 by omega]
        have := Nat.two_pow_pos n
        omega
      rw [e, Nat.testBit_two_pow_mul]
      simp; omega
    rw [h1, Bool.and_false]
  · rw [Nat.testBit_lt_two_pow (Nat.lt_of_lt_of_le h (Nat.pow_le_pow_right (by decide) (by omega))), Bool.false_and]
set_option maxHeartbeats 1000000 in
set_option maxRecDepth 100000 in
theorem may_set (vars : Int) (m : Nat) (hv : 0 ≤ vars ∧ vars ≤ 64) (hm : m < 2 ^ vars.toNat) : APure Tryz.prog 63 [.agg (setC vars m)] (.bool true) := by
  refine apure_of (wp63 rfl rfl ?_)
  have hs := sized_c vars hv
  have hw := words_c vars hv
  by_cases c : vars = 0
  · subst c
    rw [if_pos rfl] at hw
    simp (maxSteps := 4000000) only [↓packA, ↓reduceIte, packB, pureOp, quietOp, loadOp, quietB, fr0, cellsK, implies_true, ite_true, ite_false, eq_self, ne_eq, reduceCtorEq, Nat.reduceLT, Nat.reduceLeDiff, Nat.reduceAdd, Nat.reduceMul, Nat.reduceBEq, Nat.reduceEqDiff, Int.reduceToNat, Int.reduceLT, Int.reduceLE, Nat.reduceSub, pl63, ft1, ft3, ft4, ft84, ft100, ft110, setC, wordsR_0, concA, Int.reduceAdd, Int.reduceSub, Int.reduceNeg, Int.reduceMul, Int.reduceEq, Int.reduceBEq, Int.reduceBNe]
    refine acalls_pure hs rfl ?_
    simp (maxSteps := 4000000) only [↓packA, ↓reduceIte, packB, pureOp, quietOp, loadOp, quietB, fr0, cellsK, implies_true, ite_true, ite_false, eq_self, ne_eq, reduceCtorEq, Nat.reduceLT, Nat.reduceLeDiff, Nat.reduceAdd, Nat.reduceMul, Nat.reduceBEq, Nat.reduceEqDiff, Int.reduceToNat, Int.reduceLT, Int.reduceLE, Nat.reduceSub, pl63, ft1, ft3, ft4, ft84, ft100, ft110, concA, Int.reduceAdd, Int.reduceSub, Int.reduceNeg, Int.reduceMul, Int.reduceEq, Int.reduceBEq, Int.reduceBNe]
    refine acalls_pure hw rfl ?_
    simp (maxSteps := 4000000) only [↓packA, ↓reduceIte, packB, pureOp, quietOp, loadOp, quietB, fr0, cellsK, implies_true, ite_true, ite_false, eq_self, ne_eq, reduceCtorEq, Nat.reduceLT, Nat.reduceLeDiff, Nat.reduceAdd, Nat.reduceMul, Nat.reduceBEq, Nat.reduceEqDiff, Int.reduceToNat, Int.reduceLT, Int.reduceLE, Nat.reduceSub, pl63, ft1, ft3, ft4, ft84, ft100, ft110, bne_self_eq_false, concA, Int.reduceAdd, Int.reduceSub, Int.reduceNeg, Int.reduceMul, Int.reduceEq, Int.reduceBEq, Int.reduceBNe]
    exact .pure _ rfl
  · rw [if_neg c] at hw
    have hk := mask_c vars (by omega)
    simp (maxSteps := 4000000) only [↓packA, ↓reduceIte, packB, pureOp, quietOp, loadOp, quietB, fr0, cellsK, implies_true, ite_true, ite_false, eq_self, ne_eq, reduceCtorEq, Nat.reduceLT, Nat.reduceLeDiff, Nat.reduceAdd, Nat.reduceMul, Nat.reduceBEq, Nat.reduceEqDiff, Int.reduceToNat, Int.reduceLT, Int.reduceLE, Nat.reduceSub, pl63, ft1, ft3, ft4, ft84, ft100, ft110, setC, wordsR_1 c, concA, Int.reduceAdd, Int.reduceSub, Int.reduceNeg, Int.reduceMul, Int.reduceEq, Int.reduceBEq, Int.reduceBNe]
    refine acalls_pure hs rfl ?_
    simp (maxSteps := 4000000) only [↓packA, ↓reduceIte, packB, pureOp, quietOp, loadOp, quietB, fr0, cellsK, implies_true, ite_true, ite_false, eq_self, ne_eq, reduceCtorEq, Nat.reduceLT, Nat.reduceLeDiff, Nat.reduceAdd, Nat.reduceMul, Nat.reduceBEq, Nat.reduceEqDiff, Int.reduceToNat, Int.reduceLT, Int.reduceLE, Nat.reduceSub, pl63, ft1, ft3, ft4, ft84, ft100, ft110, concA, Int.reduceAdd, Int.reduceSub, Int.reduceNeg, Int.reduceMul, Int.reduceEq, Int.reduceBEq, Int.reduceBNe]
    refine acalls_pure hw rfl ?_
    simp (maxSteps := 4000000) only [↓packA, ↓reduceIte, packB, pureOp, quietOp, loadOp, quietB, fr0, cellsK, implies_true, ite_true, ite_false, eq_self, ne_eq, reduceCtorEq, Nat.reduceLT, Nat.reduceLeDiff, Nat.reduceAdd, Nat.reduceMul, Nat.reduceBEq, Nat.reduceEqDiff, Int.reduceToNat, Int.reduceLT, Int.reduceLE, Nat.reduceSub, pl63, ft1, ft3, ft4, ft84, ft100, ft110, bne_self_eq_false, concA, Int.reduceAdd, Int.reduceSub, Int.reduceNeg, Int.reduceMul, Int.reduceEq, Int.reduceBEq, Int.reduceBNe]
    refine acalls_pure hk rfl ?_
    have hm64 : m < 2 ^ 64 := Nat.lt_of_lt_of_le hm (Nat.pow_le_pow_right (by decide) (by omega))
    have hk64 : 2 ^ vars.toNat - 1 < 2 ^ 64 := by
      have : 2 ^ vars.toNat ≤ 2 ^ 64 := Nat.pow_le_pow_right (by decide) (by omega)
      have := Nat.two_pow_pos vars.toNat
      omega
    have e := u64andNot hm64 hk64
    rw [andNot0 hm (by omega)] at e
    simp (maxSteps := 4000000) only [↓packA, ↓reduceIte, packB, pureOp, quietOp, loadOp, quietB, fr0, cellsK, implies_true, ite_true, ite_false, eq_self, ne_eq, reduceCtorEq, Nat.reduceLT, Nat.reduceLeDiff, Nat.reduceAdd, Nat.reduceMul, Nat.reduceBEq, Nat.reduceEqDiff, Int.reduceToNat, Int.reduceLT, Int.reduceLE, Nat.reduceSub, pl63, ft1, ft3, ft4, ft84, ft100, ft110, bin_andNot, e, concA, Int.reduceAdd, Int.reduceSub, Int.reduceNeg, Int.reduceMul, Int.reduceEq, Int.reduceBEq, Int.reduceBNe]
    exact .pure _ rfl
set_option maxHeartbeats 1000000 in
set_option maxRecDepth 100000 in
theorem fit_c (vars : Int) (ms : List Nat) (hv : 0 ≤ vars ∧ vars ≤ 64) (hm : ∀ m, m ∈ ms → m < 2 ^ vars.toNat) (hl : ms.length < 1000000) : APure Tryz.prog 57 [.int .i64 vars, .isl 2 (ms.map (setC vars))] (.int .i64 0) := by
  refine apure_of (wp57 rfl rfl ?_)
  have hs := sized_c vars hv
  simp (maxSteps := 4000000) only [↓packA, ↓reduceIte, packB, pureOp, quietOp, loadOp, quietB, fr0, cellsK, implies_true, ite_true, ite_false, eq_self, ne_eq, reduceCtorEq, Nat.reduceLT, Nat.reduceLeDiff, Nat.reduceAdd, Nat.reduceMul, Nat.reduceBEq, Nat.reduceEqDiff, Int.reduceToNat, Int.reduceLT, Int.reduceLE, Nat.reduceSub, pl57, ft3, ft4, ft84, ft92, ft100, ft110, List.length_map, concA, Int.reduceAdd, Int.reduceSub, Int.reduceNeg, Int.reduceMul, Int.reduceEq, Int.reduceBEq, Int.reduceBNe]
  refine LoopK.intro (fun x w z => ∃ k : Nat, x = ms.length - k ∧ k ≤ ms.length ∧ w 0 = .int .i64 vars ∧ w 1 = .isl 2 (ms.map (setC vars)) ∧ w 9 = .isl 2 (ms.map (setC vars)) ∧ w 10 = .int .i64 ms.length ∧ w 11 = .int .i64 k) ms.length ⟨0, rfl, by omega, ?_, ?_, ?_, ?_, ?_⟩ ?_
  rotate_right
  all_goals (try (simp (maxSteps := 4000000) only [↓packA, ↓reduceIte, packB, pureOp, quietOp, loadOp, quietB, fr0, cellsK, implies_true, ite_true, ite_false, eq_self, ne_eq, reduceCtorEq, Nat.reduceLT, Nat.reduceLeDiff, Nat.reduceAdd, Nat.reduceMul, Nat.reduceBEq, Nat.reduceEqDiff, Int.reduceToNat, Int.reduceLT, Int.reduceLE, Nat.reduceSub, pl57, ft3, ft4, ft84, ft92, ft100, ft110, List.length_map, Int.natCast_zero, concA, Int.reduceAdd, Int.reduceSub, Int.reduceNeg, Int.reduceMul, Int.reduceEq, Int.reduceBEq, Int.reduceBNe]; done))
  rintro x w z ⟨k, rfl, hk, a0, a1, a9, a10, a11⟩
  by_cases c : k < ms.length
  · have q1 : (k : Int) < (ms.length : Int) := by omega
    have rk : (ms.map (setC vars))[k]? = some (setC vars ms[k]) := by rw [List.getElem?_map, List.getElem?_eq_getElem c]; rfl
    have hmy := may_set vars ms[k] hv (hm _ (List.getElem_mem c))
    obtain ⟨N, hN⟩ : ∃ N, z.length = N := ⟨_, rfl⟩
    have tN := tailR hN
    simp (maxSteps := 4000000) only [↓packA, ↓reduceIte, packB, pureOp, quietOp, loadOp, quietB, fr0, cellsK, implies_true, ite_true, ite_false, eq_self, ne_eq, reduceCtorEq, Nat.reduceLT, Nat.reduceLeDiff, Nat.reduceAdd, Nat.reduceMul, Nat.reduceBEq, Nat.reduceEqDiff, Int.reduceToNat, Int.reduceLT, Int.reduceLE, Nat.reduceSub, pl57, ft3, ft4, ft84, ft92, ft100, ft110, a0, a1, a9, a10, a11, q1, rk, hN, tN, setC, concA, Int.reduceAdd, Int.reduceSub, Int.reduceNeg, Int.reduceMul, Int.reduceEq, Int.reduceBEq, Int.reduceBNe]
    refine ⟨by omega, acalls_pure hmy rfl ?_⟩
    simp (maxSteps := 4000000) only [↓packA, ↓reduceIte, packB, pureOp, quietOp, loadOp, quietB, fr0, cellsK, implies_true, ite_true, ite_false, eq_self, ne_eq, reduceCtorEq, Nat.reduceLT, Nat.reduceLeDiff, Nat.reduceAdd, Nat.reduceMul, Nat.reduceBEq, Nat.reduceEqDiff, Int.reduceToNat, Int.reduceLT, Int.reduceLE, Nat.reduceSub, pl57, ft3, ft4, ft84, ft92, ft100, ft110, a0, a1, a9, a10, a11, q1, rk, hN, tN, setC, concA, Int.reduceAdd, Int.reduceSub, Int.reduceNeg, Int.reduceMul, Int.reduceEq, Int.reduceBEq, Int.reduceBNe]
    exact ⟨by omega, .inl ⟨ms.length - (k + 1), by omega, k + 1, rfl, by omega, by omega⟩⟩
  · have q1 : ¬ (k : Int) < (ms.length : Int) := by omega
    simp (maxSteps := 4000000) only [↓packA, ↓reduceIte, packB, pureOp, quietOp, loadOp, quietB, fr0, cellsK, implies_true, ite_true, ite_false, eq_self, ne_eq, reduceCtorEq, Nat.reduceLT, Nat.reduceLeDiff, Nat.reduceAdd, Nat.reduceMul, Nat.reduceBEq, Nat.reduceEqDiff, Int.reduceToNat, Int.reduceLT, Int.reduceLE, Nat.reduceSub, pl57, ft3, ft4, ft84, ft92, ft100, ft110, a0, a1, a9, a10, a11, q1, concA, Int.reduceAdd, Int.reduceSub, Int.reduceNeg, Int.reduceMul, Int.reduceEq, Int.reduceBEq, Int.reduceBNe]
    refine acalls_pure hs rfl ?_
    simp (maxSteps := 4000000) only [↓packA, ↓reduceIte, packB, pureOp, quietOp, loadOp, quietB, fr0, cellsK, implies_true, ite_true, ite_false, eq_self, ne_eq, reduceCtorEq, Nat.reduceLT, Nat.reduceLeDiff, Nat.reduceAdd, Nat.reduceMul, Nat.reduceBEq, Nat.reduceEqDiff, Int.reduceToNat, Int.reduceLT, Int.reduceLE, Nat.reduceSub, pl57, ft3, ft4, ft84, ft92, ft100, ft110, a0, a1, a9, a10, a11, q1, List.length_map, concA, Int.reduceAdd, Int.reduceSub, Int.reduceNeg, Int.reduceMul, Int.reduceEq, Int.reduceBEq, Int.reduceBNe]
    refine LoopK.intro (fun x w z => ∃ k : Nat, x = ms.length - k ∧ k ≤ ms.length ∧ w 0 = .int .i64 vars ∧ w 22 = .isl 2 (ms.map (setC vars)) ∧ w 23 = .int .i64 ms.length ∧ w 24 = .int .i64 k) ms.length ⟨0, rfl, by omega, ?_, ?_, ?_, ?_⟩ ?_
    rotate_right
    all_goals (try (simp (maxSteps := 4000000) only [↓packA, ↓reduceIte, packB, pureOp, quietOp, loadOp, quietB, fr0, cellsK, implies_true, ite_true, ite_false, eq_self, ne_eq, reduceCtorEq, Nat.reduceLT, Nat.reduceLeDiff, Nat.reduceAdd, Nat.reduceMul, Nat.reduceBEq, Nat.reduceEqDiff, Int.reduceToNat, Int.reduceLT, Int.reduceLE, Nat.reduceSub, pl57, ft3, ft4, ft84, ft92, ft100, ft110, a0, a1, List.length_map, Int.natCast_zero, concA, Int.reduceAdd, Int.reduceSub, Int.reduceNeg, Int.reduceMul, Int.reduceEq, Int.reduceBEq, Int.reduceBNe]; done))
    clear a0 a1 a9 a10 a11 q1 c hk
    rintro x w z ⟨k, rfl, hk, a0, a1, a10, a11⟩
    by_cases c : k < ms.length
    · have q1 : (k : Int) < (ms.length : Int) := by omega
      have rk : (ms.map (setC vars))[k]? = some (setC vars ms[k]) := by rw [List.getElem?_map, List.getElem?_eq_getElem c]; rfl
      obtain ⟨N, hN⟩ : ∃ N, z.length = N := ⟨_, rfl⟩
      have tN := tailR hN
      simp (maxSteps := 4000000) only [↓packA, ↓reduceIte, packB, pureOp, quietOp, loadOp, quietB, fr0, cellsK, implies_true, ite_true, ite_false, eq_self, ne_eq, reduceCtorEq, Nat.reduceLT, Nat.reduceLeDiff, Nat.reduceAdd, Nat.reduceMul, Nat.reduceBEq, Nat.reduceEqDiff, Int.reduceToNat, Int.reduceLT, Int.reduceLE, Nat.reduceSub, pl57, ft3, ft4, ft84, ft92, ft100, ft110, a0, a1, a10, a11, q1, rk, hN, tN, setC, bne_self_eq_false, concA, Int.reduceAdd, Int.reduceSub, Int.reduceNeg, Int.reduceMul, Int.reduceEq, Int.reduceBEq, Int.reduceBNe]
      exact ⟨by omega, by omega, .inl ⟨ms.length - (k + 1), by omega, k + 1, rfl, by omega, by omega⟩⟩
    · have q1 : ¬ (k : Int) < (ms.length : Int) := by omega
      simp (maxSteps := 4000000) only [↓packA, ↓reduceIte, packB, pureOp, quietOp, loadOp, quietB, fr0, cellsK, implies_true, ite_true, ite_false, eq_self, ne_eq, reduceCtorEq, Nat.reduceLT, Nat.reduceLeDiff, Nat.reduceAdd, Nat.reduceMul, Nat.reduceBEq, Nat.reduceEqDiff, Int.reduceToNat, Int.reduceLT, Int.reduceLE, Nat.reduceSub, pl57, ft3, ft4, ft84, ft92, ft100, ft110, a0, a1, a10, a11, q1, concA, Int.reduceAdd, Int.reduceSub, Int.reduceNeg, Int.reduceMul, Int.reduceEq, Int.reduceBEq, Int.reduceBNe]
      exact .pure _ rfl
end Go.Proofs.YtclbobielhllmaaGreat
end
