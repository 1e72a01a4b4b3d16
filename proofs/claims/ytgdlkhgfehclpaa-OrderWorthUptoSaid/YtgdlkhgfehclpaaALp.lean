/- The small logic's rules for simp: stores, new objects, append, calls, what a function answers. No condition. -/
import Derived.Test.YtgdlkhgfehclpaaALo
namespace Go.AL
set_option linter.unusedVariables false
set_option linter.unusedSimpArgs false
section
variable {P : Program} {n : Nat} {a : Fr} {h : Heap}
@[congr] theorem cellsK_cg {u u' : AV} {K : List AV → Prop} (e : mk u = u') : cellsK u K = cellsK u' K := by rw [← e]; rfl
@[congr] theorem storeK_cg {t : TypeId} {h h' : Heap} {p p' u u' : AV} {K : Heap → Prop} (e1 : mk h = h') (e2 : mk p = p') (e3 : mk u = u') : storeK P t h p u K = storeK P t h' p' u' K := by rw [← e1, ← e2, ← e3]; rfl
/-- An object, to be written. -/
def obxK (k : Nat) (o : Option Ob) (K : List (List AV) → Bool → Prop) : Prop := match o with | some (.arr k' es ex) => k' = k ∧ K es ex | _ => False
@[congr] theorem obxK_cg {k : Nat} {o o' : Option Ob} {K : List (List AV) → Bool → Prop} (e : mk o = o') : obxK k o K = obxK k o' K := by rw [← e]; rfl
theorem obxK_some {k : Nat} {es : List (List AV)} {ex : Bool} {K : List (List AV) → Bool → Prop} : obxK k (some (.arr k es ex)) K = K es ex := by simp [obxK]
theorem obxK_ex {k : Nat} {o : Option Ob} {K : List (List AV) → Bool → Prop} : (∃ es ex, o = some (.arr k es ex) ∧ K es ex) = obxK k o K := by
  apply propext
  constructor
  · rintro ⟨es, ex, rfl, hk⟩; exact ⟨rfl, hk⟩
  · intro hk
    cases o with
    | none => exact hk.elim
    | some o =>
      cases o with
      | arr k' es ex => obtain ⟨rfl, hk⟩ := hk; exact ⟨es, ex, rfl, hk⟩
      | _ => exact hk.elim
/-- Cells written over. -/
def patch' (c : List AV) (off : Nat) (cs : List AV) : List AV := match cs with | [v] => c.set off v | _ => patch c off cs
theorem patch_one {c : List AV} {off : Nat} {v : AV} : patch' c off [v] = c.set off v := (rfl)
theorem patch_none {c : List AV} {off : Nat} : patch' c off [] = patch c off [] := (rfl)
theorem patch_two {c : List AV} {off : Nat} {v v' : AV} {r : List AV} : patch' c off (v :: v' :: r) = c.take off ++ (v :: v' :: r) ++ c.drop (off + (v :: v' :: r).length) := (rfl)
theorem patch_eq {c : List AV} {off : Nat} {cs : List AV} (h : off + cs.length ≤ c.length) : patch c off cs = patch' c off cs := by
  match cs with
  | [] => rfl
  | [v] =>
    simp only [List.length_singleton] at h
    apply List.ext_getElem?
    intro i
    simp only [patch, patch', List.length_singleton, List.getElem?_set]
    by_cases h1 : i < off
    · rw [List.append_assoc, List.getElem?_append_left (by simp; omega), List.getElem?_take_of_lt h1, if_neg (by omega)]
    · by_cases h2 : i = off
      · subst h2
        rw [if_pos rfl, if_pos (by omega), List.append_assoc, List.getElem?_append_right (by simp; omega)]
        simp [Nat.min_eq_left (show i ≤ c.length by omega)]
      · rw [if_neg (by omega), List.getElem?_append_right (by simp; omega)]
        simp only [List.length_append, List.length_take, List.length_singleton, List.getElem?_drop, Nat.min_eq_left (show off ≤ c.length by omega)]
        congr 1
        omega
  | v :: v' :: r => rfl
theorem storeK_op {t : TypeId} {id k e off : Nat} {u : AV} {K : Heap → Prop} : storeK P t h (.op id k e off) u K = cellsK u fun cs => optK (tsize P t) fun s => s = cs.length ∧ obxK k h[id]? fun es ex => optK es[e]? fun c => off + cs.length ≤ c.length ∧ letH (h.set id (.arr k (es.set e (patch' c off cs)) ex)) K := by
  unfold storeK
  simp only [letH]
  congr 1
  funext cs
  rw [← optK_eq]
  simp only [← optK_eq (α := List AV), ← obxK_ex]
  apply propext
  constructor
  · rintro ⟨h1, es, ex, h2, c, h3, h4, h5⟩; rw [patch_eq h4] at h5; exact ⟨_, h1, rfl, es, ex, h2, c, h3, h4, h5⟩
  · rintro ⟨_, h1, rfl, es, ex, h2, c, h3, h4, h5⟩; rw [← patch_eq h4] at h5; exact ⟨h1, es, ex, h2, c, h3, h4, h5⟩
@[congr] theorem makeSliceK_cg {t : TypeId} {h h' : Heap} {l l' c c' : AV} {K : AV → Heap → Prop} (e1 : mk h = h') (e2 : mk l = l') (e3 : mk c = c') : makeSliceK P t h l c K = makeSliceK P t h' l' c' K := by rw [← e1, ← e2, ← e3]; rfl
theorem makeSliceK_int {t : TypeId} {k k' : IntKind} {l c : Int} {K : AV → Heap → Prop} : makeSliceK P t h (.int k l) (.int k' c) K = optK (telem P t) fun e => optK (zcells P e) fun z => optK (tbytes P e) fun b => (0 ≤ l ∧ l ≤ c ∧ b * c ≤ 281474976710656 ∧ c ≤ 9223372036854775807) ∧
    letH (h ++ [.arr z.length (List.replicate c.toNat z) true]) (K (.osl h.length z.length 0 l.toNat c.toNat true)) := by
  unfold makeSliceK
  simp only [letH, and_assoc]
  cases telem P t with
  | none => simp [optK]
  | some e =>
    cases hz : zcells P e with
    | none => simp [optK, hz]
    | some z =>
      cases hb : tbytes P e with
      | none => simp [optK, hz, hb]
      | some b => simp [optK, hz, hb]
theorem fillK_nil {pl : Nat → Option (Nat × Nat)} {cs : List AV} {K : List AV → Prop} : fillK pl [] cs K = K cs := (rfl)
theorem fillK_cons {pl : List (Nat × Nat)} {i : Nat} {u : AV} {r : List (Nat × AV)} {cs : List AV} {K : List AV → Prop} : fillK (fun i => pl[i]?) ((i, u) :: r) cs K = cellsK u fun us => optK pl[i]? fun x => x.2 = us.length ∧ x.1 + us.length ≤ cs.length ∧ fillK (fun i => pl[i]?) r (patch cs x.1 us) K := by
  show (cellsK u fun us => ∃ off, pl[i]? = some (off, us.length) ∧ off + us.length ≤ cs.length ∧ fillK (fun i => pl[i]?) r (patch cs off us) K) = _
  congr 1
  funext us
  rw [← optK_eq]
  apply propext
  constructor
  · rintro ⟨off, h1, h2⟩; exact ⟨_, h1, rfl, h2⟩
  · rintro ⟨⟨off, m⟩, h1, h0, h2⟩; cases h0; exact ⟨off, h1, h2⟩
@[congr] theorem fillK_cg {pl : Nat → Option (Nat × Nat)} {us us' : List (Nat × AV)} {cs cs' : List AV} {K : List AV → Prop} (e1 : mk us = us') (e2 : mk cs = cs') : fillK pl us cs K = fillK pl us' cs' K := by rw [← e1, ← e2]; rfl
theorem fillRK_nil {k : Nat} {es : List (List AV)} {K : List (List AV) → Prop} : fillRK k [] es K = K es := (rfl)
theorem fillRK_cons {k i : Nat} {u : AV} {r : List (Nat × AV)} {es : List (List AV)} {K : List (List AV) → Prop} : fillRK k ((i, u) :: r) es K = cellsK u fun us => us.length = k ∧ i < es.length ∧ fillRK k r (es.set i us) K := (rfl)
@[congr] theorem fillRK_cg {k k' : Nat} {us us' : List (Nat × AV)} {cs cs' : List (List AV)} {K : List (List AV) → Prop} (e0 : mk k = k') (e1 : mk us = us') (e2 : mk cs = cs') : fillRK k us cs K = fillRK k' us' cs' K := by rw [← e0, ← e1, ← e2]; rfl
@[congr] theorem callK_cg {f f' : AV} {us us' : List AV} {h h' : Heap} {K : AV → Heap → Prop} (e0 : mk f = f') (e1 : mk us = us') (e2 : mk h = h') : callK P f us h K = callK P f' us' h' K := by rw [← e0, ← e1, ← e2]; rfl
theorem callK_fn {g : FuncId} {first cap us : List AV} {K : AV → Heap → Prop} : callK P (.fn (.func g) first cap) us h K = ACalls P g (first ++ us ++ cap) h K := (rfl)
@[congr] theorem ACalls_cg {f : FuncId} {us us' : List AV} {h h' : Heap} {K : AV → Heap → Prop} (e1 : mk us = us') (e2 : mk h = h') : ACalls P f us h K = ACalls P f us' h' K := by rw [← e1, ← e2]; rfl
@[congr] theorem LoopK_cg {body : (Exit → Fr → Heap → Prop) → Fr → Heap → Prop} {Q : Exit → Fr → Heap → Prop} {a : Fr} {h h' : Heap} (e : mk h = h') : LoopK body Q a h = LoopK body Q a h' := by rw [← e]; rfl
@[congr] theorem GcK_cg {N N' : Nat} {a : Fr} {h : Heap} {K : Fr → Heap → Prop} (e : mk N = N') : GcK N a h K = GcK N' a h K := by rw [← e]; rfl
@[congr] theorem elemsK_cg {k k' : Nat} {x x' : AV} {h h' : Heap} {K : List (List AV) → Prop} (e0 : mk k = k') (e1 : mk x = x') (e2 : mk h = h') : elemsK h k x K = elemsK h' k' x' K := by rw [← e0, ← e1, ← e2]; rfl
theorem elemsK_nils {k : Nat} {K : List (List AV) → Prop} : elemsK h k .nils K = K [] := (rfl)
theorem elemsK_isl {k : Nat} {es : List (List AV)} {K : List (List AV) → Prop} : elemsK h k (.isl k es) K = K es := by simp [elemsK]
theorem elemsK_osl {id k i len cap : Nat} {ex : Bool} {K : List (List AV) → Prop} : elemsK h k (.osl id k i len cap ex) K = objK k h[id]? fun es => i + len ≤ es.length ∧ K ((es.drop i).take len) := by
  simp only [elemsK, true_and]
  exact objK_ex
/-- Append to a slice of an own object. -/
def apK (k : Nat) (b : Nat) (h : Heap) (s : AV) (xs : List (List AV)) (K : AV → Heap → Prop) : Prop :=
  match s with
  | .nils => xs.length * b ≤ 140737488355328 ∧ (xs = [] → K .nils h) ∧ (xs ≠ [] → K (.osl h.length k 0 xs.length xs.length false) (h ++ [.arr k xs false]))
  | .osl id k' i len cap ex => k' = k ∧ (len + xs.length) * b ≤ 140737488355328 ∧ ∃ es ex', h[id]? = some (.arr k' es ex') ∧ i + len ≤ es.length ∧
        (len + xs.length ≤ cap → i + len + xs.length ≤ es.length ∧ K (.osl id k' i (len + xs.length) cap ex) (h.set id (.arr k' (es.take (i + len) ++ xs ++ es.drop (i + len + xs.length)) ex'))) ∧
        (¬ len + xs.length ≤ cap → match ex with
          | true => K (.osl h.length k' 0 (len + xs.length) (len + xs.length) false) (h ++ [.arr k' ((es.drop i).take len ++ xs) false])
          | false => i = 0 ∧ K (.osl h.length k' 0 (len + xs.length) (len + xs.length) false) (h.set id .dead ++ [.arr k' (es.take len ++ xs) false]))
  | _ => False
theorem appendK_ap {t t' : TypeId} {s x : AV} {K : AV → Heap → Prop} : appendK P t t' h s x K = ∃ e z b, telem P t = some e ∧ (telem P t').isSome = true ∧ zcells P e = some z ∧ tbytes P e = some b ∧ 0 < b ∧ elemsK h z.length x fun xs => apK z.length b h s xs K := by
  unfold appendK
  cases s <;> rfl
theorem appendK_eq {t t' : TypeId} {s x : AV} {K : AV → Heap → Prop} : appendK P t t' h s x K = ((telem P t').isSome = true ∧ optK (telem P t) fun e => optK (zcells P e) fun z => optK (tbytes P e) fun b => 0 < b ∧ elemsK h z.length x fun xs => apK z.length b h s xs K) := by
  rw [appendK_ap]
  simp only [← optK_eq]
  apply propext
  constructor
  · rintro ⟨e, z, b, h1, h2, h3, h4, h5⟩; exact ⟨h2, e, h1, z, h3, b, h4, h5⟩
  · rintro ⟨h2, e, h1, z, h3, b, h4, h5⟩; exact ⟨e, z, b, h1, h2, h3, h4, h5⟩
@[congr] theorem appendK_cg {t t' : TypeId} {h h' : Heap} {s s' x x' : AV} {K : AV → Heap → Prop} (e1 : mk h = h') (e2 : mk s = s') (e3 : mk x = x') : appendK P t t' h s x K = appendK P t t' h' s' x' K := by rw [← e1, ← e2, ← e3]; rfl
@[congr] theorem apK_cg {k k' b : Nat} {h h' : Heap} {s s' : AV} {xs xs' : List (List AV)} {K : AV → Heap → Prop} (e0 : mk k = k') (e1 : mk h = h') (e2 : mk s = s') (e3 : mk xs = xs') : apK k b h s xs K = apK k' b h' s' xs' K := by rw [← e0, ← e1, ← e2, ← e3]; rfl
theorem apK_nils {k b : Nat} {x : List AV} {xs : List (List AV)} {K : AV → Heap → Prop} : apK k b h .nils (x :: xs) K = ((x :: xs).length * b ≤ 140737488355328 ∧ letH (h ++ [.arr k (x :: xs) false]) (K (.osl h.length k 0 (x :: xs).length (x :: xs).length false))) := by
  simp [apK, letH]
theorem apK_osl {k b id i len cap : Nat} {ex : Bool} {xs : List (List AV)} {K : AV → Heap → Prop} : apK k b h (.osl id k i len cap ex) xs K = ((len + xs.length) * b ≤ 140737488355328 ∧ obxK k h[id]? fun es ex' => i + len ≤ es.length ∧
        (len + xs.length ≤ cap → i + len + xs.length ≤ es.length ∧ letH (h.set id (.arr k (es.take (i + len) ++ xs ++ es.drop (i + len + xs.length)) ex')) (K (.osl id k i (len + xs.length) cap ex))) ∧
        (¬ len + xs.length ≤ cap → condK (.bool ex) (letH (h ++ [.arr k ((es.drop i).take len ++ xs) false]) (K (.osl h.length k 0 (len + xs.length) (len + xs.length) false)))
          (i = 0 ∧ letH (h.set id .dead ++ [.arr k (es.take len ++ xs) false]) (K (.osl h.length k 0 (len + xs.length) (len + xs.length) false))))) := by
  simp only [apK, ← obxK_ex, true_and, letH]
  cases ex <;> simp [condK]

@[congr] theorem clearK_cg {t : TypeId} {h h' : Heap} {x x' : AV} {K : Heap → Prop} (e1 : mk h = h') (e2 : mk x = x') : clearK P t h x K = clearK P t h' x' K := by rw [← e1, ← e2]; rfl
theorem clearK_nils {t : TypeId} {K : Heap → Prop} : clearK P t h .nils K = ((telem P t).isSome = true ∧ K h) := (rfl)
theorem clearK_osl {t : TypeId} {id k i len cap : Nat} {ex : Bool} {K : Heap → Prop} : clearK P t h (.osl id k i len cap ex) K = optK (telem P t) fun e => optK (zcells P e) fun z => k = z.length ∧ obxK k h[id]? fun es ex' => i + len ≤ es.length ∧ letH (h.set id (.arr k (es.take i ++ List.replicate len z ++ es.drop (i + len)) ex')) K := by
  simp only [clearK, ← optK_eq, ← obxK_ex, letH]
  apply propext
  constructor
  · rintro ⟨e, z, h1, h2, h3⟩; exact ⟨e, h1, z, h2, h3⟩
  · rintro ⟨e, h1, z, h2, h3⟩; exact ⟨e, z, h1, h2, h3⟩

/-! ### what a function answers -/
variable {K : List AV → Prop} {Q : AV → Heap → Prop}
theorem resK_nil : resK P a h [] K = K [] := (rfl)
theorem resK_tmp {t : Tmp} {r : List ResultVar} : resK P a h (.tmp t :: r) K = resK P a h r fun us => K (a t :: us) := (rfl)
theorem resK_cell {p t : Nat} {r : List ResultVar} : resK P a h (.cell p t :: r) K = loadK P t h (a p) fun u => resK P a h r fun us => K (u :: us) := (rfl)
theorem oneK_one {u : AV} {K : AV → Prop} : oneK [u] K = K u := (rfl)
theorem oneK_none {K : AV → Prop} : oneK [] K = K (.tup []) := (rfl)
theorem oneK_two {u v : AV} {us : List AV} {K : AV → Prop} : oneK (u :: v :: us) K = K (.tup (u :: v :: us)) := (rfl)
theorem bodyQ_normal {rs : List ResultVar} : bodyQ P rs Q .normal a h = resK P a h rs fun us => oneK us fun u => Q u h := (rfl)
theorem bodyQ_ret {rs : List ResultVar} : bodyQ P rs Q .ret a h = resK P a h rs fun us => oneK us fun u => Q u h := (rfl)

/-! ### lists of numbers, of truths -/
theorem tn1 {k : Nat} : ((k : Int) + 1).toNat = k + 1 := by omega
theorem tn2 {k : Nat} : ((k : Int) + 2).toNat = k + 2 := by omega
theorem tn3 {k : Nat} : ((k : Int) + 3).toNat = k + 3 := by omega
def intE (x : Int) : List AV := [AV.int .i64 x]
def boolE (x : Bool) : List AV := [AV.bool x]
theorem intE_eq {x : Int} : intE x = [AV.int .i64 x] := (rfl)
theorem boolE_eq {x : Bool} : boolE x = [AV.bool x] := (rfl)
theorem rep_intE {m : Nat} : List.replicate m [AV.int .i64 0] = List.map intE (List.replicate m 0) := by simp [intE]
theorem rep_boolE {m : Nat} : List.replicate m [AV.bool false] = List.map boolE (List.replicate m false) := by simp [boolE]
theorem set_intE {xs : List Int} {i : Nat} {y : Int} : (List.map intE xs).set i [AV.int .i64 y] = List.map intE (xs.set i y) := by rw [List.map_set]; rfl
theorem set_boolE {xs : List Bool} {i : Nat} {y : Bool} : (List.map boolE xs).set i [AV.bool y] = List.map boolE (xs.set i y) := by rw [List.map_set]; rfl
theorem set_bools {xs : List Bool} {i : Nat} {y : Bool} : (List.map AV.bool xs).set i (AV.bool y) = List.map AV.bool (xs.set i y) := by rw [List.map_set]
theorem app_intE {xs : List Int} {y : Int} : List.map intE xs ++ [[AV.int .i64 y]] = List.map intE (xs ++ [y]) := by rw [List.map_append]; rfl
theorem app_intE3 {xs : List Int} {a b c : Int} : List.map intE xs ++ [[AV.int .i64 a], [AV.int .i64 b], [AV.int .i64 c]] = List.map intE (xs ++ [a, b, c]) := by rw [List.map_append]; rfl
theorem take_app {xs ys : List Int} : List.take xs.length (List.map intE (xs ++ ys)) = List.map intE xs := by rw [List.map_append, List.take_append_of_le_length (by simp), List.take_of_length_le (by simp)]
theorem drop_app3 {xs : List Int} {a b c : Int} : List.drop (xs.length + 3) (List.map intE (xs ++ [a, b, c])) = [] := by apply List.drop_of_length_le; simp
theorem take_map_all {α β : Type} {f : α → β} {xs : List α} : List.take xs.length (List.map f xs) = List.map f xs := by
  rw [List.take_of_length_le (by simp)]
end
end Go.AL
