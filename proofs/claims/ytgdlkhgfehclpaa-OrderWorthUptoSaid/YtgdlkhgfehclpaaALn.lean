/- The small logic's steps as rules for simp, and where simp is not to look. No condition. -/
import Derived.Test.YtgdlkhgfehclpaaALm
namespace Go.AL
set_option linter.unusedVariables false
set_option linter.unusedSimpArgs false

/-- A mark: simp works at what is marked, and at nothing beside it. -/
def mk {α : Type} (x : α) : α := x
theorem mk_eq {α : Type} (x : α) : mk x = x := Eq.trans (Eq.refl x) (Eq.refl x)
def optK {α : Type} (o : Option α) (K : α → Prop) : Prop := match o with | some x => K x | none => False
theorem optK_some {α : Type} {x : α} {K : α → Prop} : optK (some x) K = K x := (rfl)
theorem optK_eq {α : Type} {o : Option α} {K : α → Prop} : (∃ x, o = some x ∧ K x) = optK o K := by
  cases o <;> simp [optK]
/-- A pair of conditions: the first ahead. -/
def condK (v : AV) (T E : Prop) : Prop := match v with | .bool b => (b = true → T) ∧ (b = false → E) | _ => False
theorem condK_bool {b : Bool} {T E : Prop} : condK (.bool b) T E = ((b = true → T) ∧ (b = false → E)) := (rfl)
theorem condK_true {T E : Prop} : condK (.bool true) T E = T := by simp [condK]
theorem condK_false {T E : Prop} : condK (.bool false) T E = E := by simp [condK]
theorem condK_dec {p : Prop} [Decidable p] {T E : Prop} : condK (.bool (decide p)) T E = ((p → T) ∧ (¬ p → E)) := by simp [condK]
theorem condK_not {b : Bool} {T E : Prop} : condK (.bool (!b)) T E = condK (.bool b) E T := by cases b <;> simp [condK]
theorem condK_beq {α : Type} [BEq α] [LawfulBEq α] {x y : α} {T E : Prop} : condK (.bool (x == y)) T E = ((x = y → T) ∧ (x ≠ y → E)) := by simp [condK]
theorem condK_bne {α : Type} [BEq α] [LawfulBEq α] {x y : α} {T E : Prop} : condK (.bool (x != y)) T E = ((x ≠ y → T) ∧ (x = y → E)) := by simp [condK]
theorem condK_getD {l : List Bool} {i : Nat} {d : Bool} {T E : Prop} : condK (.bool (l.getD i d)) T E = ((l.getD i d = true → T) ∧ (l.getD i d = false → E)) := (rfl)
theorem decide_gt {x y : Int} : decide (x > y) = decide (y < x) := (rfl)
theorem decide_ge {x y : Int} : decide (x ≥ y) = decide (y ≤ x) := (rfl)

section
variable {P : Program} {n : Nat} {pl : Nat → Plan} {Q : Exit → Fr → Heap → Prop} {a : Fr} {h : Heap}

/-! ### code -/
theorem asx_skip : asx P n pl .skip Q a h = Q .normal a h := (rfl)
theorem asx_text {id : Nat} {l : List Oper} : asx P n pl (.region id l.toArray false) Q a h = aops P n l l a h fun a h => Q .normal a h := (rfl)
theorem asx_draw {id : Nat} {l : List Oper} : asx P n pl (.region id l.toArray true) Q a h = adrD P n l (pl id) a h fun a h => Q .normal a h := (rfl)
theorem asx_seq {x y : Code} : asx P n pl (.seq x y) Q a h = asx P n pl x (thenK (asx P n pl y Q) Q) a h := (rfl)
theorem asx_cond {c : Operand} {x y : Code} : asx P n pl (.cond c x y) Q a h = evK a c fun v => condK v (asx P n pl x Q a h) (asx P n pl y Q a h) := (rfl)
theorem asx_block {id : Nat} {c : Code} : asx P n pl (.block id c) Q a h = asx P n pl c (blockK id Q) a h := (rfl)
theorem asx_loop {c : Code} : asx P n pl (.loop c) Q a h = LoopK (asx P n pl c) Q a h := (rfl)
theorem asx_exit {id : Nat} : asx P n pl (.exit id) Q a h = Q (.exit id) a h := (rfl)
theorem asx_ret : asx P n pl .ret Q a h = Q .ret a h := (rfl)
theorem asx_label {l : Nat} : asx P n pl (.label l) Q a h = Q .normal a h := (rfl)
theorem then_normal {K : Fr → Heap → Prop} : thenK K Q .normal a h = K a h := (rfl)
theorem then_ret {K : Fr → Heap → Prop} : thenK K Q .ret a h = Q .ret a h := (rfl)
theorem then_exit {K : Fr → Heap → Prop} {j : Nat} : thenK K Q (.exit j) a h = Q (.exit j) a h := (rfl)
theorem block_normal {id : Nat} : blockK id Q .normal a h = Q .normal a h := (rfl)
theorem block_ret {id : Nat} : blockK id Q .ret a h = Q .ret a h := (rfl)
theorem block_exit {id : Nat} : blockK id Q (.exit id) a h = Q .normal a h := by simp [blockK]
theorem block_exit' {id j : Nat} (e : (j == id) = false) : blockK id Q (.exit j) a h = Q (.exit j) a h := by
  have : j ≠ id := by simpa using e
  simp [blockK, this]

/-! ### operations in line -/
variable {all rest : List Oper} {K : Fr → Heap → Prop} {op : Op} {ty : TypeId} {pos : String} {af : Array Edge} {dst : Option Tmp}
theorem aops_nil : aops P n all [] a h K = K a h := (rfl)
theorem aops_one : aops P n all (⟨dst, op, ty, pos, af, none⟩ :: rest) a h K = aop P op a h fun v h' => putK n dst a v fun a' => aops P n all rest a' h' K := (rfl)
/-- A guard's two ways: the value that is asked; what was left out says no. -/
def gdK (v : AV) (want : Bool) (T E : Prop) : Prop := match v with | .bool b => (match want with | true => condK (.bool b) T E | false => condK (.bool b) E T) | .tup [] => E | _ => False
@[congr] theorem gdK_cg {v v' : AV} {want : Bool} {T E : Prop} (e : mk v = v') : gdK v want T E = gdK v' want T E := by rw [← e]; rfl
theorem gdK_true {b : Bool} {T E : Prop} : gdK (.bool b) true T E = condK (.bool b) T E := (rfl)
theorem gdK_false {b : Bool} {T E : Prop} : gdK (.bool b) false T E = condK (.bool b) E T := (rfl)
theorem gdK_undef {want : Bool} {T E : Prop} : gdK .undef want T E = E := (rfl)
def guK (o : Option Tmp) (want : Bool) (a : Fr) (T E : Prop) : Prop := match o with | some t => gdK (a t) want T E | none => False
theorem guK_some {t : Tmp} {want : Bool} {T E : Prop} : guK (some t) want a T E = gdK (a t) want T E := (rfl)
theorem guardK_eq {j : Nat} {want : Bool} {T : Bool → Prop} : guardK all (some (j, want)) a T = guK (gslot all j) want a (T true) (T false) := by
  unfold guardK guK gdK
  simp only
  cases gslot all j with
  | none => rfl
  | some t =>
    simp only [condK]
    cases a t with
    | bool b => cases b <;> cases want <;> simp
    | tup l => cases l <;> rfl
    | _ => cases want <;> rfl
theorem guK_zero {t : Tmp} {g : Option (Nat × Bool)} {want : Bool} {T E : Prop} : guK (gslot (⟨some t, op, ty, pos, af, g⟩ :: rest) 0) want a T E = guK (some t) want a T E := (rfl)
theorem guK_succ {o : Oper} {j : Nat} {want : Bool} {T E : Prop} : guK (gslot (o :: rest) (j + 1)) want a T E = guK (gslot rest j) want a T E := (rfl)
theorem aops_if {j : Nat} {want : Bool} : aops P n all (⟨dst, op, ty, pos, af, some (j, want)⟩ :: rest) a h K = guK (gslot all j) want a (aop P op a h fun v h' => putK n dst a v fun a' => aops P n all rest a' h' K) (putK n dst a .undef fun a' => aops P n all rest a' h K) :=
  guardK_eq (T := fun run => match run with | true => aop P op a h fun v h' => putK n dst a v fun a' => aops P n all rest a' h' K | false => putK n dst a .undef fun a' => aops P n all rest a' h K)
theorem putK_none {v : AV} {K : Fr → Prop} : putK n none a v K = K a := (rfl)
theorem putK_some {d : Nat} {v : AV} {K : Fr → Prop} (e : d < n) : putK n (some d) a v K = K (upd a d v) := by
  simp [putK, e]
@[congr] theorem putK_cg {v v' : AV} {K : Fr → Prop} (e : mk v = v') : putK n dst a v K = putK n dst a v' K := by rw [← e]; rfl
@[congr] theorem condK_cg {v v' : AV} {T E : Prop} (e : mk v = v') : condK v T E = condK v' T E := by rw [← e]; rfl
@[congr] theorem optK_cg {α : Type} {o o' : Option α} {K : α → Prop} (e : mk o = o') : optK o K = optK o' K := by rw [← e]; rfl

/-! ### drawn regions -/
def exK (T : AV → Prop) (K : AV → Prop) : Prop := ∃ v, T v ∧ K v
@[congr] theorem exK_cg {T T' : AV → Prop} {K : AV → Prop} (e : mk T = T') : exK T K = exK T' K := by rw [← e]; rfl
theorem exK_and {A : Prop} {T K : AV → Prop} : exK (fun v => A ∧ T v) K = (A ∧ exK T K) := by simp [exK, and_assoc]
theorem exK_ex {α : Type} {T : α → AV → Prop} {K : AV → Prop} : exK (fun v => ∃ c, T c v) K = ∃ c, exK (T c) K := by
  apply propext
  constructor
  · rintro ⟨v, ⟨c, h⟩, k⟩; exact ⟨c, v, h, k⟩
  · rintro ⟨c, v, h, k⟩; exact ⟨v, ⟨c, h⟩, k⟩
theorem exK_eq {u : AV} {K : AV → Prop} : exK (fun v => u = v) K = K u := by simp [exK]
def atK (l : List Oper) (i : Nat) (K : Oper → Prop) : Prop := match l[i]? with | some o => K o | none => False
theorem atK_zero {o : Oper} {K : Oper → Prop} : atK (o :: rest) 0 K = K o := (rfl)
theorem atK_succ {o : Oper} {i : Nat} {K : Oper → Prop} : atK (o :: rest) (i + 1) K = atK rest i K := (rfl)
def quK (q : Bool) (T E : Prop) : Prop := match q with | true => T | false => E
theorem quK_true {T E : Prop} : quK true T E = T := (rfl)
theorem quK_false {T E : Prop} : quK false T E = E := (rfl)
@[congr] theorem quK_cg {q q' : Bool} {T E : Prop} (e : mk q = q') : quK q T E = quK q' T E := by rw [← e]; rfl
def keepL (keep : Bool) (x : Nat × Fr × AV) (l : List (Nat × Fr × AV)) : List (Nat × Fr × AV) := match keep with | true => x :: l | false => l
def adrK (P : Program) (n : Nat) (all : List Oper) (i : Nat) (keep : Bool) (rs : List Nat) (rest : Plan) (a : Fr) (h : Heap) (done : List (Nat × Fr × AV)) (K : Fr → Heap → Prop) (dst : Option Tmp) (op : Op) : Prop :=
  quK (pureOp op) (exK (fun v => aop P op a h fun v' h' => v' = v ∧ h' = h) fun v => putK n dst a v fun a' => adr P n all rest a' h (keepL keep (i, a, v) done) K)
    (aop P op a h fun v h' => reK P all done h' rs ∧ putK n dst a v fun a' => adr P n all rest a' h' done K)
def adrG (P : Program) (n : Nat) (all : List Oper) (i : Nat) (keep : Bool) (rs : List Nat) (rest : Plan) (a : Fr) (h : Heap) (done : List (Nat × Fr × AV)) (K : Fr → Heap → Prop) (o : Oper) : Prop :=
  match o with
  | ⟨dst, op, _, _, _, none⟩ => adrK P n all i keep rs rest a h done K dst op
  | ⟨dst, op, _, _, _, some (j, want)⟩ => guK (gslot all j) want a (adrK P n all i keep rs rest a h done K dst op) (putK n dst a .undef fun a' => adr P n all rest a' h done K)
@[congr] theorem adr_cg {pl pl' : Plan} {done : List (Nat × Fr × AV)} (e : mk pl = pl') : adr P n all pl a h done K = adr P n all pl' a h done K := by rw [← e]; rfl
theorem adrD_nil : adrD P n all [] a h K = K a h := (rfl)
theorem adrD_none {i : Nat} {keep : Bool} {rest : Plan} : adrD P n all ((i, keep, []) :: rest) a h K = adr P n all ((i, keep, []) :: rest) a h [] K := (rfl)
theorem adrD_one {i x : Nat} {keep : Bool} {rest : Plan} : adrD P n all ((i, keep, [x]) :: rest) a h K = adr P n all ((i, keep, [x]) :: rest) a h [] K := (rfl)
theorem adrD_more {i x y z : Nat} {l : List Nat} {keep : Bool} {rest : Plan} : adrD P n all ((i, keep, x :: y :: z :: l) :: rest) a h K = adr P n all ((i, keep, x :: y :: z :: l) :: rest) a h [] K := (rfl)
theorem adrD_two {p q : Nat} {keep : Bool} {rest : Plan} : adrD P n all ((1000000, keep, [p, q]) :: rest) a h K = adrX P n all (rest.take p) a h [] fun a' d => adr P n all ((rest.drop p).take q) a' h d K ∧ adr P n all (rest.drop (p + q)) a' h d K := (rfl)
@[congr] theorem adrX_cg {pl pl' : Plan} {done : List (Nat × Fr × AV)} {K : Fr → List (Nat × Fr × AV) → Prop} (e : mk pl = pl') : adrX P n all pl a h done K = adrX P n all pl' a h done K := by rw [← e]; rfl
theorem adrX_nil {done : List (Nat × Fr × AV)} {K : Fr → List (Nat × Fr × AV) → Prop} : adrX P n all [] a h done K = K a done := (rfl)
def adrXG (P : Program) (n : Nat) (all : List Oper) (i : Nat) (keep : Bool) (rest : Plan) (a : Fr) (h : Heap) (done : List (Nat × Fr × AV)) (K : Fr → List (Nat × Fr × AV) → Prop) (o : Oper) : Prop :=
  match o with
  | ⟨dst, op, _, _, _, none⟩ => exK (fun v => aop P op a h fun v' h' => v' = v ∧ h' = h) fun v => putK n dst a v fun a' => adrX P n all rest a' h (keep0 keep (i, a, v) done) K
  | ⟨dst, op, _, _, _, some (j, want)⟩ => guK (gslot all j) want a (exK (fun v => aop P op a h fun v' h' => v' = v ∧ h' = h) fun v => putK n dst a v fun a' => adrX P n all rest a' h (keep0 keep (i, a, v) done) K) (putK n dst a .undef fun a' => adrX P n all rest a' h done K)
theorem adrX_cons {done : List (Nat × Fr × AV)} {i : Nat} {keep : Bool} {rs : List Nat} {rest : Plan} {K : Fr → List (Nat × Fr × AV) → Prop} : adrX P n all ((i, keep, rs) :: rest) a h done K = atK all i (adrXG P n all i keep rest a h done K) := by
  unfold atK adrX
  cases all[i]? with
  | none => rfl
  | some o =>
    obtain ⟨dst, op, ty, pos, af, g⟩ := o
    cases g with
    | none =>
      simp only [adrXG, guardK, exK]
    | some g =>
      obtain ⟨j, want⟩ := g
      simp only [adrXG]
      rw [guardK_eq]
      simp only [exK]
theorem adrXG_one {done : List (Nat × Fr × AV)} {i : Nat} {keep : Bool} {rest : Plan} {K : Fr → List (Nat × Fr × AV) → Prop} : adrXG P n all i keep rest a h done K ⟨dst, op, ty, pos, af, none⟩ = exK (fun v => aop P op a h fun v' h' => v' = v ∧ h' = h) fun v => putK n dst a v fun a' => adrX P n all rest a' h (keep0 keep (i, a, v) done) K := (rfl)
theorem adrXG_if {done : List (Nat × Fr × AV)} {i j : Nat} {keep want : Bool} {rest : Plan} {K : Fr → List (Nat × Fr × AV) → Prop} : adrXG P n all i keep rest a h done K ⟨dst, op, ty, pos, af, some (j, want)⟩ = guK (gslot all j) want a (exK (fun v => aop P op a h fun v' h' => v' = v ∧ h' = h) fun v => putK n dst a v fun a' => adrX P n all rest a' h (keep0 keep (i, a, v) done) K) (putK n dst a .undef fun a' => adrX P n all rest a' h done K) := (rfl)
theorem keep0_true {x : Nat × Fr × AV} {l : List (Nat × Fr × AV)} : keep0 true x l = x :: l := (rfl)
theorem keep0_false {x : Nat × Fr × AV} {l : List (Nat × Fr × AV)} : keep0 false x l = l := (rfl)
theorem adr_nil {done : List (Nat × Fr × AV)} : adr P n all [] a h done K = K a h := (rfl)
theorem adr_cons {done : List (Nat × Fr × AV)} {i : Nat} {keep : Bool} {rs : List Nat} {rest : Plan} : adr P n all ((i, keep, rs) :: rest) a h done K = atK all i (adrG P n all i keep rs rest a h done K) := by
  unfold atK adr
  cases all[i]? with
  | none => rfl
  | some o =>
    obtain ⟨dst, op, ty, pos, af, g⟩ := o
    cases g with
    | none =>
      simp only [adrG, adrK, guardK, quK, exK]
      cases pureOp op <;> cases keep <;> rfl
    | some g =>
      obtain ⟨j, want⟩ := g
      simp only [adrG, adrK]
      rw [guardK_eq]
      simp only [quK, exK]
      cases pureOp op <;> cases keep <;> rfl
theorem adrG_one {done : List (Nat × Fr × AV)} {i : Nat} {keep : Bool} {rs : List Nat} {rest : Plan} : adrG P n all i keep rs rest a h done K ⟨dst, op, ty, pos, af, none⟩ = adrK P n all i keep rs rest a h done K dst op := (rfl)
theorem adrG_if {done : List (Nat × Fr × AV)} {i j : Nat} {keep want : Bool} {rs : List Nat} {rest : Plan} : adrG P n all i keep rs rest a h done K ⟨dst, op, ty, pos, af, some (j, want)⟩ = guK (gslot all j) want a (adrK P n all i keep rs rest a h done K dst op) (putK n dst a .undef fun a' => adr P n all rest a' h done K) := (rfl)
theorem adrK_eq {done : List (Nat × Fr × AV)} {i : Nat} {keep : Bool} {rs : List Nat} {rest : Plan} : adrK P n all i keep rs rest a h done K dst op = quK (pureOp op) (exK (fun v => aop P op a h fun v' h' => v' = v ∧ h' = h) fun v => putK n dst a v fun a' => adr P n all rest a' h (keepL keep (i, a, v) done) K)
    (aop P op a h fun v h' => reK P all done h' rs ∧ putK n dst a v fun a' => adr P n all rest a' h' done K) := rfl
theorem keepL_true {x : Nat × Fr × AV} {l : List (Nat × Fr × AV)} : keepL true x l = x :: l := (rfl)
theorem keepL_false {x : Nat × Fr × AV} {l : List (Nat × Fr × AV)} : keepL false x l = l := (rfl)
def doneK (done : List (Nat × Fr × AV)) (j : Nat) (K : Fr → AV → Prop) : Prop := match done.find? (fun x => x.1 == j) with | some (_, a, v) => K a v | none => True
theorem doneK_hit {done : List (Nat × Fr × AV)} {j : Nat} {v : AV} {K : Fr → AV → Prop} : doneK ((j, a, v) :: done) j K = K a v := by simp [doneK]
theorem doneK_miss {done : List (Nat × Fr × AV)} {i j : Nat} {v : AV} {K : Fr → AV → Prop} (e : (i == j) = false) : doneK ((i, a, v) :: done) j K = doneK done j K := by simp [doneK, List.find?_cons, e]
def atT (l : List Oper) (i : Nat) (K : Oper → Prop) : Prop := match l[i]? with | some o => K o | none => True
theorem atT_zero {o : Oper} {K : Oper → Prop} : atT (o :: rest) 0 K = K o := (rfl)
theorem atT_succ {o : Oper} {i : Nat} {K : Oper → Prop} : atT (o :: rest) (i + 1) K = atT rest i K := (rfl)
theorem reK_cons {done : List (Nat × Fr × AV)} {j : Nat} {r : List Nat} : reK P all done h (j :: r) = (doneK done j (fun a v => atT all j fun o => aop P o.op a h fun v' h' => v' = v ∧ h' = h) ∧ reK P all done h r) := by
  show ((match done.find? (fun x => x.1 == j), all[j]? with | some (_, a, v), some o => aop P o.op a h fun v' h' => v' = v ∧ h' = h | _, _ => True) ∧ reK P all done h r) = _
  unfold doneK atT
  cases done.find? (fun x => x.1 == j) with
  | none => rfl
  | some x => cases all[j]? <;> rfl
theorem reK_nil {done : List (Nat × Fr × AV)} : reK P all done h [] = True := (rfl)
end
end Go.AL
