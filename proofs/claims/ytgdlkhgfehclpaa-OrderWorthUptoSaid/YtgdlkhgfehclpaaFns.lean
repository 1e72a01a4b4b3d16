/- Plans of the regions that draw their order, and what the loaded program's functions are. By a program (gen.py). No condition. -/
import Derived.Test.YtgdlkhgfehclpaaFacts
namespace Go.Proofs.Ytgdlkhgfehclpaa
open Go.AL

/- 4 slope/slopelaw11.OrderOrders -/
def pl4 : Nat → Plan := fun | 2 => [(0, false, []), (1, false, []), (2, false, []), (4, false, []), (5, false, []), (7, true, []), (8, false, []), (3, false, [7]), (6, false, [7]), (9, false, []), (10, false, []), (11, false, []), (12, false, []), (13, false, []), (14, false, []), (15, false, []), (16, false, []), (17, false, [])] | _ => []
noncomputable def body4 : Code := (Try.f4.body).getD .skip
theorem chk4 : codeChk pl4 body4 = true := by kernel_rfl
theorem good4 : good Try.prog 4 = true := by kernel_rfl
theorem isb4 : Try.f4.body = some body4 := by kernel_rfl
theorem wp4 {args : List AV} {h : Heap} {Q : AV → Heap → Prop} {c : Code} (hb : Try.f4.body = some c) (hn : Nat.ble args.length 27 = true) (hk : asx Try.prog 27 pl4 c (bodyQ Try.prog [.tmp 6] Q) (fr0 args) h) : ACalls Try.prog 4 args h Q := by
  have e := isb4.symm.trans hb; cases e; exact acalls_of_body mixed Try.func4 isb4 good4 (Nat.le_of_ble_eq_true hn) pl4 chk4 hk
/- 5 slope/slopelaw11.OrderCores -/
def pl5 : Nat → Plan := fun | 2 => [(0, false, []), (1, false, []), (3, true, []), (2, false, [3]), (4, false, []), (5, false, []), (6, false, []), (7, false, []), (8, false, []), (9, false, []), (10, false, []), (11, false, []), (12, false, [])] | _ => []
noncomputable def body5 : Code := (Try.f5.body).getD .skip
theorem chk5 : codeChk pl5 body5 = true := by kernel_rfl
theorem good5 : good Try.prog 5 = true := by kernel_rfl
theorem isb5 : Try.f5.body = some body5 := by kernel_rfl
theorem wp5 {args : List AV} {h : Heap} {Q : AV → Heap → Prop} {c : Code} (hb : Try.f5.body = some c) (hn : Nat.ble args.length 18 = true) (hk : asx Try.prog 18 pl5 c (bodyQ Try.prog [.tmp 2] Q) (fr0 args) h) : ACalls Try.prog 5 args h Q := by
  have e := isb5.symm.trans hb; cases e; exact acalls_of_body mixed Try.func5 isb5 good5 (Nat.le_of_ble_eq_true hn) pl5 chk5 hk
/- 6 slope/slopelaw11.OrderSets -/
def pl6 : Nat → Plan := fun | 3 => [(0, false, []), (3, true, []), (1, false, [3]), (2, false, []), (4, false, []), (5, false, []), (6, false, []), (7, false, []), (8, false, []), (9, false, [])] | _ => []
noncomputable def body6 : Code := (Try.f6.body).getD .skip
theorem chk6 : codeChk pl6 body6 = true := by kernel_rfl
theorem good6 : good Try.prog 6 = true := by kernel_rfl
theorem isb6 : Try.f6.body = some body6 := by kernel_rfl
theorem wp6 {args : List AV} {h : Heap} {Q : AV → Heap → Prop} {c : Code} (hb : Try.f6.body = some c) (hn : Nat.ble args.length 137 = true) (hk : asx Try.prog 137 pl6 c (bodyQ Try.prog [.tmp 6] Q) (fr0 args) h) : ACalls Try.prog 6 args h Q := by
  have e := isb6.symm.trans hb; cases e; exact acalls_of_body mixed Try.func6 isb6 good6 (Nat.le_of_ble_eq_true hn) pl6 chk6 hk
/- 7 slope/slopelaw11.OrderKinds -/
def pl7 : Nat → Plan := fun | 17 => [(0, false, []), (1, false, []), (2, false, []), (3, false, []), (4, false, []), (5, false, []), (6, false, []), (7, false, []), (8, false, [])] | _ => []
noncomputable def body7 : Code := (Try.f7.body).getD .skip
theorem chk7 : codeChk pl7 body7 = true := by kernel_rfl
theorem good7 : good Try.prog 7 = true := by kernel_rfl
theorem isb7 : Try.f7.body = some body7 := by kernel_rfl
theorem wp7 {args : List AV} {h : Heap} {Q : AV → Heap → Prop} {c : Code} (hb : Try.f7.body = some c) (hn : Nat.ble args.length 113 = true) (hk : asx Try.prog 113 pl7 c (bodyQ Try.prog [.tmp 2] Q) (fr0 args) h) : ACalls Try.prog 7 args h Q := by
  have e := isb7.symm.trans hb; cases e; exact acalls_of_body mixed Try.func7 isb7 good7 (Nat.le_of_ble_eq_true hn) pl7 chk7 hk
/- 8 slope/slopelaw11.OrderChecks -/
def pl8 : Nat → Plan := fun | _ => []
noncomputable def body8 : Code := (Try.f8.body).getD .skip
theorem chk8 : codeChk pl8 body8 = true := by kernel_rfl
theorem good8 : good Try.prog 8 = true := by kernel_rfl
theorem isb8 : Try.f8.body = some body8 := by kernel_rfl
theorem wp8 {args : List AV} {h : Heap} {Q : AV → Heap → Prop} {c : Code} (hb : Try.f8.body = some c) (hn : Nat.ble args.length 51 = true) (hk : asx Try.prog 51 pl8 c (bodyQ Try.prog [.tmp 4] Q) (fr0 args) h) : ACalls Try.prog 8 args h Q := by
  have e := isb8.symm.trans hb; cases e; exact acalls_of_body mixed Try.func8 isb8 good8 (Nat.le_of_ble_eq_true hn) pl8 chk8 hk
/- 9 slope/slopelaw11.OrderBacks -/
def pl9 : Nat → Plan := fun | 2 => [(0, false, []), (1, false, []), (3, false, []), (4, false, []), (6, true, []), (7, false, []), (2, false, [6]), (5, false, [6]), (8, false, []), (9, false, []), (10, false, []), (11, false, []), (12, false, []), (13, false, []), (14, false, []), (15, false, []), (16, false, [])] | _ => []
noncomputable def body9 : Code := (Try.f9.body).getD .skip
theorem chk9 : codeChk pl9 body9 = true := by kernel_rfl
theorem good9 : good Try.prog 9 = true := by kernel_rfl
theorem isb9 : Try.f9.body = some body9 := by kernel_rfl
theorem wp9 {args : List AV} {h : Heap} {Q : AV → Heap → Prop} {c : Code} (hb : Try.f9.body = some c) (hn : Nat.ble args.length 24 = true) (hk : asx Try.prog 24 pl9 c (bodyQ Try.prog [.tmp 4] Q) (fr0 args) h) : ACalls Try.prog 9 args h Q := by
  have e := isb9.symm.trans hb; cases e; exact acalls_of_body mixed Try.func9 isb9 good9 (Nat.le_of_ble_eq_true hn) pl9 chk9 hk
/- 10 slope/slopelaw11.OrderWorth -/
def pl10 : Nat → Plan := fun | _ => []
noncomputable def body10 : Code := (Try.f10.body).getD .skip
theorem chk10 : codeChk pl10 body10 = true := by kernel_rfl
theorem good10 : good Try.prog 10 = true := by kernel_rfl
theorem isb10 : Try.f10.body = some body10 := by kernel_rfl
theorem wp10 {args : List AV} {h : Heap} {Q : AV → Heap → Prop} {c : Code} (hb : Try.f10.body = some c) (hn : Nat.ble args.length 119 = true) (hk : asx Try.prog 119 pl10 c (bodyQ Try.prog [.tmp 4] Q) (fr0 args) h) : ACalls Try.prog 10 args h Q := by
  have e := isb10.symm.trans hb; cases e; exact acalls_of_body mixed Try.func10 isb10 good10 (Nat.le_of_ble_eq_true hn) pl10 chk10 hk
/- 11 slope/slopelaw11.OrderNames -/
def pl11 : Nat → Plan := fun | 12 => [(0, false, []), (1, false, []), (2, false, []), (3, false, []), (4, false, []), (5, false, []), (6, false, []), (7, false, []), (8, false, []), (9, false, []), (10, false, []), (11, false, [])] | 22 => [(0, false, []), (1, false, []), (2, false, []), (3, false, []), (4, false, []), (5, false, []), (6, false, []), (7, false, []), (8, false, []), (9, false, []), (10, false, []), (11, false, [])] | _ => []
noncomputable def body11 : Code := (Try.f11.body).getD .skip
theorem chk11 : codeChk pl11 body11 = true := by kernel_rfl
theorem good11 : good Try.prog 11 = true := by kernel_rfl
theorem isb11 : Try.f11.body = some body11 := by kernel_rfl
theorem wp11 {args : List AV} {h : Heap} {Q : AV → Heap → Prop} {c : Code} (hb : Try.f11.body = some c) (hn : Nat.ble args.length 170 = true) (hk : asx Try.prog 170 pl11 c (bodyQ Try.prog [.tmp 6] Q) (fr0 args) h) : ACalls Try.prog 11 args h Q := by
  have e := isb11.symm.trans hb; cases e; exact acalls_of_body mixed Try.func11 isb11 good11 (Nat.le_of_ble_eq_true hn) pl11 chk11 hk
/- 14 (*slope/slopeplain.Given).Intact -/
def pl14 : Nat → Plan := fun | 4 => [(0, false, []), (1, false, []), (2, false, []), (3, false, []), (4, false, []), (5, false, []), (6, false, []), (7, false, []), (8, false, []), (9, false, []), (10, false, []), (11, false, []), (12, false, []), (13, false, []), (14, false, []), (15, false, [])] | 9 => [(0, false, []), (1, false, []), (2, false, []), (3, false, []), (4, false, []), (5, false, []), (6, false, []), (7, false, []), (8, false, []), (9, false, []), (10, false, []), (11, false, []), (12, false, []), (13, false, []), (14, false, []), (15, false, [])] | 14 => [(0, false, []), (1, false, []), (2, false, []), (3, false, []), (4, false, []), (5, false, []), (6, false, []), (7, false, []), (8, false, []), (9, false, []), (10, false, []), (11, false, []), (12, false, []), (13, false, []), (14, false, []), (15, false, [])] | 19 => [(0, false, []), (1, false, []), (2, false, []), (3, false, []), (4, false, []), (5, false, []), (6, false, []), (7, false, []), (8, false, []), (9, false, []), (10, false, []), (11, false, []), (12, false, []), (13, false, []), (14, false, []), (15, false, [])] | 24 => [(0, false, []), (1, false, []), (2, false, []), (3, false, []), (4, false, []), (5, false, []), (6, false, []), (7, false, []), (8, false, []), (9, false, []), (10, false, []), (11, false, []), (12, false, []), (13, false, []), (14, false, []), (15, false, [])] | 29 => [(0, false, []), (1, false, []), (2, false, []), (3, false, []), (4, false, []), (5, false, []), (6, false, []), (7, false, []), (8, false, []), (9, false, []), (10, false, []), (11, false, []), (12, false, []), (13, false, []), (14, false, []), (15, false, [])] | _ => []
noncomputable def body14 : Code := (Try.f14.body).getD .skip
theorem chk14 : codeChk pl14 body14 = true := by kernel_rfl
theorem good14 : good Try.prog 14 = true := by kernel_rfl
theorem isb14 : Try.f14.body = some body14 := by kernel_rfl
theorem wp14 {args : List AV} {h : Heap} {Q : AV → Heap → Prop} {c : Code} (hb : Try.f14.body = some c) (hn : Nat.ble args.length 161 = true) (hk : asx Try.prog 161 pl14 c (bodyQ Try.prog [.tmp 2] Q) (fr0 args) h) : ACalls Try.prog 14 args h Q := by
  have e := isb14.symm.trans hb; cases e; exact acalls_of_body mixed Try.func14 isb14 good14 (Nat.le_of_ble_eq_true hn) pl14 chk14 hk
/- 15 slope/slopelaw11.orders -/
def pl15 : Nat → Plan := fun | _ => []
noncomputable def body15 : Code := (Try.f15.body).getD .skip
theorem chk15 : codeChk pl15 body15 = true := by kernel_rfl
theorem good15 : good Try.prog 15 = true := by kernel_rfl
theorem isb15 : Try.f15.body = some body15 := by kernel_rfl
theorem wp15 {args : List AV} {h : Heap} {Q : AV → Heap → Prop} {c : Code} (hb : Try.f15.body = some c) (hn : Nat.ble args.length 38 = true) (hk : asx Try.prog 38 pl15 c (bodyQ Try.prog [.tmp 10] Q) (fr0 args) h) : ACalls Try.prog 15 args h Q := by
  have e := isb15.symm.trans hb; cases e; exact acalls_of_body mixed Try.func15 isb15 good15 (Nat.le_of_ble_eq_true hn) pl15 chk15 hk
/- 16 (*slope/slopeplain.Given).Pattern -/
def pl16 : Nat → Plan := fun | 1 => [(0, false, []), (1, true, []), (2, false, []), (3, true, []), (4, false, []), (5, false, []), (6, false, []), (8, false, []), (9, false, []), (10, true, []), (7, false, [1, 3, 10]), (11, false, [1, 3]), (12, false, []), (13, false, [])] | _ => []
noncomputable def body16 : Code := (Try.f16.body).getD .skip
theorem chk16 : codeChk pl16 body16 = true := by kernel_rfl
theorem good16 : good Try.prog 16 = true := by kernel_rfl
theorem isb16 : Try.f16.body = some body16 := by kernel_rfl
theorem wp16 {args : List AV} {h : Heap} {Q : AV → Heap → Prop} {c : Code} (hb : Try.f16.body = some c) (hn : Nat.ble args.length 18 = true) (hk : asx Try.prog 18 pl16 c (bodyQ Try.prog [.cell 4 45] Q) (fr0 args) h) : ACalls Try.prog 16 args h Q := by
  have e := isb16.symm.trans hb; cases e; exact acalls_of_body mixed Try.func16 isb16 good16 (Nat.le_of_ble_eq_true hn) pl16 chk16 hk
/- 17 (*slope/slopeplain.Given).Ints -/
def pl17 : Nat → Plan := fun | 4 => [(0, false, []), (1, false, []), (2, false, []), (3, false, []), (4, true, []), (5, false, []), (6, false, [4]), (7, false, [4]), (8, false, []), (9, false, []), (10, false, []), (11, false, [])] | _ => []
noncomputable def body17 : Code := (Try.f17.body).getD .skip
theorem chk17 : codeChk pl17 body17 = true := by kernel_rfl
theorem good17 : good Try.prog 17 = true := by kernel_rfl
theorem isb17 : Try.f17.body = some body17 := by kernel_rfl
theorem wp17 {args : List AV} {h : Heap} {Q : AV → Heap → Prop} {c : Code} (hb : Try.f17.body = some c) (hn : Nat.ble args.length 36 = true) (hk : asx Try.prog 36 pl17 c (bodyQ Try.prog [.tmp 4] Q) (fr0 args) h) : ACalls Try.prog 17 args h Q := by
  have e := isb17.symm.trans hb; cases e; exact acalls_of_body mixed Try.func17 isb17 good17 (Nat.le_of_ble_eq_true hn) pl17 chk17 hk
/- 18 slope/slopelaw11.alive -/
def pl18 : Nat → Plan := fun | _ => []
noncomputable def body18 : Code := (Try.f18.body).getD .skip
theorem chk18 : codeChk pl18 body18 = true := by kernel_rfl
theorem good18 : good Try.prog 18 = true := by kernel_rfl
theorem isb18 : Try.f18.body = some body18 := by kernel_rfl
theorem wp18 {args : List AV} {h : Heap} {Q : AV → Heap → Prop} {c : Code} (hb : Try.f18.body = some c) (hn : Nat.ble args.length 43 = true) (hk : asx Try.prog 43 pl18 c (bodyQ Try.prog [.tmp 0] Q) (fr0 args) h) : ACalls Try.prog 18 args h Q := by
  have e := isb18.symm.trans hb; cases e; exact acalls_of_body mixed Try.func18 isb18 good18 (Nat.le_of_ble_eq_true hn) pl18 chk18 hk
/- 19 slope/slopelaw11.degeneracies -/
def pl19 : Nat → Plan := fun | _ => []
noncomputable def body19 : Code := (Try.f19.body).getD .skip
theorem chk19 : codeChk pl19 body19 = true := by kernel_rfl
theorem good19 : good Try.prog 19 = true := by kernel_rfl
theorem isb19 : Try.f19.body = some body19 := by kernel_rfl
theorem wp19 {args : List AV} {h : Heap} {Q : AV → Heap → Prop} {c : Code} (hb : Try.f19.body = some c) (hn : Nat.ble args.length 37 = true) (hk : asx Try.prog 37 pl19 c (bodyQ Try.prog [.tmp 4] Q) (fr0 args) h) : ACalls Try.prog 19 args h Q := by
  have e := isb19.symm.trans hb; cases e; exact acalls_of_body mixed Try.func19 isb19 good19 (Nat.le_of_ble_eq_true hn) pl19 chk19 hk
/- 20 slope/order.Degeneracy -/
def pl20 : Nat → Plan := fun | _ => []
noncomputable def body20 : Code := (Try.f20.body).getD .skip
theorem chk20 : codeChk pl20 body20 = true := by kernel_rfl
theorem good20 : good Try.prog 20 = true := by kernel_rfl
theorem isb20 : Try.f20.body = some body20 := by kernel_rfl
theorem wp20 {args : List AV} {h : Heap} {Q : AV → Heap → Prop} {c : Code} (hb : Try.f20.body = some c) (hn : Nat.ble args.length 30 = true) (hk : asx Try.prog 30 pl20 c (bodyQ Try.prog [.tmp 2, .tmp 3, .tmp 4] Q) (fr0 args) h) : ACalls Try.prog 20 args h Q := by
  have e := isb20.symm.trans hb; cases e; exact acalls_of_body mixed Try.func20 isb20 good20 (Nat.le_of_ble_eq_true hn) pl20 chk20 hk
/- 21 slope/slopelaw11.wrong -/
def pl21 : Nat → Plan := fun | _ => []
noncomputable def body21 : Code := (Try.f21.body).getD .skip
theorem chk21 : codeChk pl21 body21 = true := by kernel_rfl
theorem good21 : good Try.prog 21 = true := by kernel_rfl
theorem isb21 : Try.f21.body = some body21 := by kernel_rfl
theorem wp21 {args : List AV} {h : Heap} {Q : AV → Heap → Prop} {c : Code} (hb : Try.f21.body = some c) (hn : Nat.ble args.length 6 = true) (hk : asx Try.prog 6 pl21 c (bodyQ Try.prog [.tmp 2] Q) (fr0 args) h) : ACalls Try.prog 21 args h Q := by
  have e := isb21.symm.trans hb; cases e; exact acalls_of_body mixed Try.func21 isb21 good21 (Nat.le_of_ble_eq_true hn) pl21 chk21 hk
/- 22 slope/slopelaw11.num -/
def pl22 : Nat → Plan := fun | _ => []
noncomputable def body22 : Code := (Try.f22.body).getD .skip
theorem chk22 : codeChk pl22 body22 = true := by kernel_rfl
theorem good22 : good Try.prog 22 = true := by kernel_rfl
theorem isb22 : Try.f22.body = some body22 := by kernel_rfl
theorem wp22 {args : List AV} {h : Heap} {Q : AV → Heap → Prop} {c : Code} (hb : Try.f22.body = some c) (hn : Nat.ble args.length 4 = true) (hk : asx Try.prog 4 pl22 c (bodyQ Try.prog [.tmp 2] Q) (fr0 args) h) : ACalls Try.prog 22 args h Q := by
  have e := isb22.symm.trans hb; cases e; exact acalls_of_body mixed Try.func22 isb22 good22 (Nat.le_of_ble_eq_true hn) pl22 chk22 hk
/- 23 slope/slopelaw11.inside -/
def pl23 : Nat → Plan := fun | _ => []
noncomputable def body23 : Code := (Try.f23.body).getD .skip
theorem chk23 : codeChk pl23 body23 = true := by kernel_rfl
theorem good23 : good Try.prog 23 = true := by kernel_rfl
theorem isb23 : Try.f23.body = some body23 := by kernel_rfl
theorem wp23 {args : List AV} {h : Heap} {Q : AV → Heap → Prop} {c : Code} (hb : Try.f23.body = some c) (hn : Nat.ble args.length 38 = true) (hk : asx Try.prog 38 pl23 c (bodyQ Try.prog [.tmp 6] Q) (fr0 args) h) : ACalls Try.prog 23 args h Q := by
  have e := isb23.symm.trans hb; cases e; exact acalls_of_body mixed Try.func23 isb23 good23 (Nat.le_of_ble_eq_true hn) pl23 chk23 hk
/- 24 slope/order.Order -/
def pl24 : Nat → Plan := fun | 5 => [(1, false, []), (4, true, []), (5, false, []), (0, false, [4]), (2, false, []), (3, false, []), (6, false, []), (7, false, []), (8, false, []), (9, false, []), (10, false, [])] | _ => []
noncomputable def body24 : Code := (Try.f24.body).getD .skip
theorem chk24 : codeChk pl24 body24 = true := by kernel_rfl
theorem good24 : good Try.prog 24 = true := by kernel_rfl
theorem isb24 : Try.f24.body = some body24 := by kernel_rfl
theorem wp24 {args : List AV} {h : Heap} {Q : AV → Heap → Prop} {c : Code} (hb : Try.f24.body = some c) (hn : Nat.ble args.length 28 = true) (hk : asx Try.prog 28 pl24 c (bodyQ Try.prog [.tmp 6, .tmp 7] Q) (fr0 args) h) : ACalls Try.prog 24 args h Q := by
  have e := isb24.symm.trans hb; cases e; exact acalls_of_body mixed Try.func24 isb24 good24 (Nat.le_of_ble_eq_true hn) pl24 chk24 hk
/- 25 slope/sloperef11.Check -/
def pl25 : Nat → Plan := fun | _ => []
noncomputable def body25 : Code := (Try.f25.body).getD .skip
theorem chk25 : codeChk pl25 body25 = true := by kernel_rfl
theorem good25 : good Try.prog 25 = true := by kernel_rfl
theorem isb25 : Try.f25.body = some body25 := by kernel_rfl
theorem wp25 {args : List AV} {h : Heap} {Q : AV → Heap → Prop} {c : Code} (hb : Try.f25.body = some c) (hn : Nat.ble args.length 52 = true) (hk : asx Try.prog 52 pl25 c (bodyQ Try.prog [.tmp 4] Q) (fr0 args) h) : ACalls Try.prog 25 args h Q := by
  have e := isb25.symm.trans hb; cases e; exact acalls_of_body mixed Try.func25 isb25 good25 (Nat.le_of_ble_eq_true hn) pl25 chk25 hk
/- 26 slope/sloperef11.Neighbours -/
def pl26 : Nat → Plan := fun | 1 => [(0, false, []), (1, false, []), (2, false, []), (3, false, []), (4, false, []), (5, false, []), (6, false, []), (7, false, []), (8, false, []), (9, false, []), (10, false, []), (11, false, []), (12, false, []), (13, false, []), (14, false, [])] | _ => []
noncomputable def body26 : Code := (Try.f26.body).getD .skip
theorem chk26 : codeChk pl26 body26 = true := by kernel_rfl
theorem good26 : good Try.prog 26 = true := by kernel_rfl
theorem isb26 : Try.f26.body = some body26 := by kernel_rfl
theorem wp26 {args : List AV} {h : Heap} {Q : AV → Heap → Prop} {c : Code} (hb : Try.f26.body = some c) (hn : Nat.ble args.length 19 = true) (hk : asx Try.prog 19 pl26 c (bodyQ Try.prog [.tmp 4] Q) (fr0 args) h) : ACalls Try.prog 26 args h Q := by
  have e := isb26.symm.trans hb; cases e; exact acalls_of_body mixed Try.func26 isb26 good26 (Nat.le_of_ble_eq_true hn) pl26 chk26 hk
/- 27 slope/slopelaw11.most -/
def pl27 : Nat → Plan := fun | 4 => [(0, false, []), (1, false, []), (2, false, []), (3, false, []), (4, false, []), (5, false, []), (7, true, []), (8, false, []), (9, false, []), (10, false, []), (11, true, []), (12, false, []), (6, false, [7, 11]), (13, false, []), (14, false, [])] | _ => []
noncomputable def body27 : Code := (Try.f27.body).getD .skip
theorem chk27 : codeChk pl27 body27 = true := by kernel_rfl
theorem good27 : good Try.prog 27 = true := by kernel_rfl
theorem isb27 : Try.f27.body = some body27 := by kernel_rfl
theorem wp27 {args : List AV} {h : Heap} {Q : AV → Heap → Prop} {c : Code} (hb : Try.f27.body = some c) (hn : Nat.ble args.length 33 = true) (hk : asx Try.prog 33 pl27 c (bodyQ Try.prog [.tmp 8] Q) (fr0 args) h) : ACalls Try.prog 27 args h Q := by
  have e := isb27.symm.trans hb; cases e; exact acalls_of_body mixed Try.func27 isb27 good27 (Nat.le_of_ble_eq_true hn) pl27 chk27 hk
/- 28 slope/slopelaw11.fewest -/
def pl28 : Nat → Plan := fun | 4 => [(0, false, []), (1, false, []), (2, false, []), (3, false, []), (4, false, []), (5, false, []), (7, true, []), (8, false, []), (9, false, []), (10, false, []), (11, true, []), (12, false, []), (6, false, [7, 11]), (13, false, []), (14, false, [])] | _ => []
noncomputable def body28 : Code := (Try.f28.body).getD .skip
theorem chk28 : codeChk pl28 body28 = true := by kernel_rfl
theorem good28 : good Try.prog 28 = true := by kernel_rfl
theorem isb28 : Try.f28.body = some body28 := by kernel_rfl
theorem wp28 {args : List AV} {h : Heap} {Q : AV → Heap → Prop} {c : Code} (hb : Try.f28.body = some c) (hn : Nat.ble args.length 30 = true) (hk : asx Try.prog 30 pl28 c (bodyQ Try.prog [.tmp 8] Q) (fr0 args) h) : ACalls Try.prog 28 args h Q := by
  have e := isb28.symm.trans hb; cases e; exact acalls_of_body mixed Try.func28 isb28 good28 (Nat.le_of_ble_eq_true hn) pl28 chk28 hk
/- 29 slope/slopelaw11.checks -/
def pl29 : Nat → Plan := fun | _ => []
noncomputable def body29 : Code := (Try.f29.body).getD .skip
theorem chk29 : codeChk pl29 body29 = true := by kernel_rfl
theorem good29 : good Try.prog 29 = true := by kernel_rfl
theorem isb29 : Try.f29.body = some body29 := by kernel_rfl
theorem wp29 {args : List AV} {h : Heap} {Q : AV → Heap → Prop} {c : Code} (hb : Try.f29.body = some c) (hn : Nat.ble args.length 40 = true) (hk : asx Try.prog 40 pl29 c (bodyQ Try.prog [.tmp 6] Q) (fr0 args) h) : ACalls Try.prog 29 args h Q := by
  have e := isb29.symm.trans hb; cases e; exact acalls_of_body mixed Try.func29 isb29 good29 (Nat.le_of_ble_eq_true hn) pl29 chk29 hk
/- 30 slope/order.Inverse -/
def pl30 : Nat → Plan := fun | _ => []
noncomputable def body30 : Code := (Try.f30.body).getD .skip
theorem chk30 : codeChk pl30 body30 = true := by kernel_rfl
theorem good30 : good Try.prog 30 = true := by kernel_rfl
theorem isb30 : Try.f30.body = some body30 := by kernel_rfl
theorem wp30 {args : List AV} {h : Heap} {Q : AV → Heap → Prop} {c : Code} (hb : Try.f30.body = some c) (hn : Nat.ble args.length 28 = true) (hk : asx Try.prog 28 pl30 c (bodyQ Try.prog [.tmp 2, .tmp 3] Q) (fr0 args) h) : ACalls Try.prog 30 args h Q := by
  have e := isb30.symm.trans hb; cases e; exact acalls_of_body mixed Try.func30 isb30 good30 (Nat.le_of_ble_eq_true hn) pl30 chk30 hk
/- 31 slope/slopeplain.SameInts -/
def pl31 : Nat → Plan := fun | 6 => [(0, false, []), (1, false, []), (2, false, []), (3, false, []), (4, false, []), (5, false, []), (6, false, []), (7, false, []), (8, false, [])] | _ => []
noncomputable def body31 : Code := (Try.f31.body).getD .skip
theorem chk31 : codeChk pl31 body31 = true := by kernel_rfl
theorem good31 : good Try.prog 31 = true := by kernel_rfl
theorem isb31 : Try.f31.body = some body31 := by kernel_rfl
theorem wp31 {args : List AV} {h : Heap} {Q : AV → Heap → Prop} {c : Code} (hb : Try.f31.body = some c) (hn : Nat.ble args.length 26 = true) (hk : asx Try.prog 26 pl31 c (bodyQ Try.prog [.tmp 4] Q) (fr0 args) h) : ACalls Try.prog 31 args h Q := by
  have e := isb31.symm.trans hb; cases e; exact acalls_of_body mixed Try.func31 isb31 good31 (Nat.le_of_ble_eq_true hn) pl31 chk31 hk
/- 32 slope/slopelaw11.backs -/
def pl32 : Nat → Plan := fun | _ => []
noncomputable def body32 : Code := (Try.f32.body).getD .skip
theorem chk32 : codeChk pl32 body32 = true := by kernel_rfl
theorem good32 : good Try.prog 32 = true := by kernel_rfl
theorem isb32 : Try.f32.body = some body32 := by kernel_rfl
theorem wp32 {args : List AV} {h : Heap} {Q : AV → Heap → Prop} {c : Code} (hb : Try.f32.body = some c) (hn : Nat.ble args.length 43 = true) (hk : asx Try.prog 43 pl32 c (bodyQ Try.prog [.tmp 8] Q) (fr0 args) h) : ACalls Try.prog 32 args h Q := by
  have e := isb32.symm.trans hb; cases e; exact acalls_of_body mixed Try.func32 isb32 good32 (Nat.le_of_ble_eq_true hn) pl32 chk32 hk
/- 33 slope/order.Back -/
def pl33 : Nat → Plan := fun | 6 => [(0, false, []), (1, false, []), (3, false, []), (2, false, []), (4, false, [])] | 13 => [(0, false, []), (1, false, []), (2, false, []), (3, false, []), (4, false, []), (5, false, []), (6, false, []), (7, false, []), (8, false, [])] | _ => []
noncomputable def body33 : Code := (Try.f33.body).getD .skip
theorem chk33 : codeChk pl33 body33 = true := by kernel_rfl
theorem good33 : good Try.prog 33 = true := by kernel_rfl
theorem isb33 : Try.f33.body = some body33 := by kernel_rfl
theorem wp33 {args : List AV} {h : Heap} {Q : AV → Heap → Prop} {c : Code} (hb : Try.f33.body = some c) (hn : Nat.ble args.length 68 = true) (hk : asx Try.prog 68 pl33 c (bodyQ Try.prog [.tmp 4, .tmp 5, .tmp 6] Q) (fr0 args) h) : ACalls Try.prog 33 args h Q := by
  have e := isb33.symm.trans hb; cases e; exact acalls_of_body mixed Try.func33 isb33 good33 (Nat.le_of_ble_eq_true hn) pl33 chk33 hk
/- 34 slope/slopelaw11.renamed -/
def pl34 : Nat → Plan := fun | 8 => [(0, false, []), (1, false, []), (2, false, []), (3, false, []), (4, false, []), (5, false, []), (6, false, []), (7, false, []), (8, false, []), (9, false, [])] | _ => []
noncomputable def body34 : Code := (Try.f34.body).getD .skip
theorem chk34 : codeChk pl34 body34 = true := by kernel_rfl
theorem good34 : good Try.prog 34 = true := by kernel_rfl
theorem isb34 : Try.f34.body = some body34 := by kernel_rfl
theorem wp34 {args : List AV} {h : Heap} {Q : AV → Heap → Prop} {c : Code} (hb : Try.f34.body = some c) (hn : Nat.ble args.length 51 = true) (hk : asx Try.prog 51 pl34 c (bodyQ Try.prog [.cell 4 45] Q) (fr0 args) h) : ACalls Try.prog 34 args h Q := by
  have e := isb34.symm.trans hb; cases e; exact acalls_of_body mixed Try.func34 isb34 good34 (Nat.le_of_ble_eq_true hn) pl34 chk34 hk
/- 45 (*slope/slopeplain.Given).whole -/
def pl45 : Nat → Plan := fun | 4 => [(0, false, []), (1, false, []), (2, false, []), (3, false, []), (4, false, []), (5, false, []), (6, false, []), (7, false, []), (8, false, []), (9, false, []), (10, false, []), (11, false, []), (12, false, []), (13, false, []), (14, false, []), (15, false, []), (16, false, []), (17, false, [])] | 9 => [(0, false, []), (1, false, []), (2, false, []), (3, false, []), (4, false, []), (5, false, []), (6, false, []), (7, false, []), (8, false, []), (9, false, []), (10, false, []), (11, false, []), (12, false, []), (13, false, []), (14, false, []), (15, false, []), (16, false, []), (17, false, [])] | 18 => [(0, false, []), (1, false, []), (2, false, []), (3, false, []), (4, false, []), (5, false, []), (6, false, []), (7, false, []), (8, false, []), (9, false, []), (10, false, []), (11, false, []), (12, false, []), (13, false, []), (14, false, []), (15, false, []), (16, false, []), (17, false, []), (18, false, []), (19, false, []), (20, false, []), (21, false, [])] | 28 => [(0, false, []), (1, false, []), (2, false, []), (3, false, []), (4, false, []), (5, false, []), (6, false, []), (7, false, []), (8, false, []), (9, false, []), (10, false, []), (11, false, []), (12, false, []), (13, false, []), (14, false, []), (15, false, [])] | _ => []
noncomputable def body45 : Code := (Try.f45.body).getD .skip
theorem chk45 : codeChk pl45 body45 = true := by kernel_rfl
theorem good45 : good Try.prog 45 = true := by kernel_rfl
theorem isb45 : Try.f45.body = some body45 := by kernel_rfl
theorem wp45 {args : List AV} {h : Heap} {Q : AV → Heap → Prop} {c : Code} (hb : Try.f45.body = some c) (hn : Nat.ble args.length 156 = true) (hk : asx Try.prog 156 pl45 c (bodyQ Try.prog [.tmp 2] Q) (fr0 args) h) : ACalls Try.prog 45 args h Q := by
  have e := isb45.symm.trans hb; cases e; exact acalls_of_body mixed Try.func45 isb45 good45 (Nat.le_of_ble_eq_true hn) pl45 chk45 hk
/- 46 slope/sloperef11.Order -/
def pl46 : Nat → Plan := fun | _ => []
noncomputable def body46 : Code := (Try.f46.body).getD .skip
theorem chk46 : codeChk pl46 body46 = true := by kernel_rfl
theorem good46 : good Try.prog 46 = true := by kernel_rfl
theorem isb46 : Try.f46.body = some body46 := by kernel_rfl
theorem wp46 {args : List AV} {h : Heap} {Q : AV → Heap → Prop} {c : Code} (hb : Try.f46.body = some c) (hn : Nat.ble args.length 44 = true) (hk : asx Try.prog 44 pl46 c (bodyQ Try.prog [.tmp 6, .tmp 7] Q) (fr0 args) h) : ACalls Try.prog 46 args h Q := by
  have e := isb46.symm.trans hb; cases e; exact acalls_of_body mixed Try.func46 isb46 good46 (Nat.le_of_ble_eq_true hn) pl46 chk46 hk
/- 47 slope/slopeplain.CopyInts -/
def pl47 : Nat → Plan := fun | _ => []
noncomputable def body47 : Code := (Try.f47.body).getD .skip
theorem chk47 : codeChk pl47 body47 = true := by kernel_rfl
theorem good47 : good Try.prog 47 = true := by kernel_rfl
theorem isb47 : Try.f47.body = some body47 := by kernel_rfl
theorem wp47 {args : List AV} {h : Heap} {Q : AV → Heap → Prop} {c : Code} (hb : Try.f47.body = some c) (hn : Nat.ble args.length 25 = true) (hk : asx Try.prog 25 pl47 c (bodyQ Try.prog [.tmp 2] Q) (fr0 args) h) : ACalls Try.prog 47 args h Q := by
  have e := isb47.symm.trans hb; cases e; exact acalls_of_body mixed Try.func47 isb47 good47 (Nat.le_of_ble_eq_true hn) pl47 chk47 hk
/- 48 slope/sloperef11.Degeneracy -/
def pl48 : Nat → Plan := fun | _ => []
noncomputable def body48 : Code := (Try.f48.body).getD .skip
theorem chk48 : codeChk pl48 body48 = true := by kernel_rfl
theorem good48 : good Try.prog 48 = true := by kernel_rfl
theorem isb48 : Try.f48.body = some body48 := by kernel_rfl
theorem wp48 {args : List AV} {h : Heap} {Q : AV → Heap → Prop} {c : Code} (hb : Try.f48.body = some c) (hn : Nat.ble args.length 42 = true) (hk : asx Try.prog 42 pl48 c (bodyQ Try.prog [.tmp 2, .tmp 3, .tmp 4] Q) (fr0 args) h) : ACalls Try.prog 48 args h Q := by
  have e := isb48.symm.trans hb; cases e; exact acalls_of_body mixed Try.func48 isb48 good48 (Nat.le_of_ble_eq_true hn) pl48 chk48 hk
/- 49 slope/order.graph -/
def pl49 : Nat → Plan := fun | _ => []
noncomputable def body49 : Code := (Try.f49.body).getD .skip
theorem chk49 : codeChk pl49 body49 = true := by kernel_rfl
theorem good49 : good Try.prog 49 = true := by kernel_rfl
theorem isb49 : Try.f49.body = some body49 := by kernel_rfl
theorem wp49 {args : List AV} {h : Heap} {Q : AV → Heap → Prop} {c : Code} (hb : Try.f49.body = some c) (hn : Nat.ble args.length 22 = true) (hk : asx Try.prog 22 pl49 c (bodyQ Try.prog [.tmp 2] Q) (fr0 args) h) : ACalls Try.prog 49 args h Q := by
  have e := isb49.symm.trans hb; cases e; exact acalls_of_body mixed Try.func49 isb49 good49 (Nat.le_of_ble_eq_true hn) pl49 chk49 hk
/- 50 slope/order.peel -/
def pl50 : Nat → Plan := fun | 7 => [(0, false, []), (1, false, []), (2, false, []), (3, false, []), (4, true, []), (5, false, []), (6, false, []), (7, false, []), (8, false, []), (9, true, []), (10, false, []), (11, true, []), (12, false, []), (13, false, [4, 9, 11]), (14, false, [4]), (15, false, []), (16, false, [])] | 9 => [(1000000, false, [4, 4]), (0, false, []), (1, true, []), (3, false, []), (4, true, []), (2, false, [4]), (6, false, []), (5, false, [1]), (7, false, []), (5, false, [1]), (2, false, [4]), (6, false, []), (7, false, [])] | 19 => [(0, false, []), (1, false, []), (2, false, []), (3, true, []), (4, false, []), (5, true, []), (6, false, []), (7, false, []), (8, false, []), (9, false, [3, 5]), (10, false, []), (11, false, [5]), (12, false, []), (13, false, [])] | 24 => [(0, false, []), (1, false, []), (2, true, []), (3, false, []), (4, true, []), (5, false, []), (6, false, []), (7, false, []), (8, false, []), (9, false, []), (10, false, []), (11, false, []), (12, false, []), (13, false, [2, 4]), (14, false, []), (15, false, [])] | 26 => [(0, false, []), (1, false, []), (2, true, []), (3, false, []), (4, true, []), (5, false, []), (6, false, []), (7, true, []), (8, false, []), (9, true, []), (10, false, []), (11, true, []), (12, false, []), (13, false, [2, 4, 7, 9, 11]), (14, false, [2, 4]), (15, false, []), (16, false, [])] | _ => []
noncomputable def body50 : Code := (Try.f50.body).getD .skip
theorem chk50 : codeChk pl50 body50 = true := by kernel_rfl
theorem good50 : good Try.prog 50 = true := by kernel_rfl
theorem isb50 : Try.f50.body = some body50 := by kernel_rfl
theorem wp50 {args : List AV} {h : Heap} {Q : AV → Heap → Prop} {c : Code} (hb : Try.f50.body = some c) (hn : Nat.ble args.length 155 = true) (hk : asx Try.prog 155 pl50 c (bodyQ Try.prog [.tmp 2, .tmp 3] Q) (fr0 args) h) : ACalls Try.prog 50 args h Q := by
  have e := isb50.symm.trans hb; cases e; exact acalls_of_body mixed Try.func50 isb50 good50 (Nat.le_of_ble_eq_true hn) pl50 chk50 hk
/- 51 slope/sloperef11.Graph -/
def pl51 : Nat → Plan := fun | 9 => [(0, false, []), (1, false, []), (2, false, []), (3, false, []), (4, false, []), (5, false, []), (6, false, []), (7, false, []), (8, false, []), (9, false, []), (10, false, []), (11, false, []), (12, false, []), (13, false, []), (14, false, []), (15, false, []), (16, false, []), (17, false, [])] | _ => []
noncomputable def body51 : Code := (Try.f51.body).getD .skip
theorem chk51 : codeChk pl51 body51 = true := by kernel_rfl
theorem good51 : good Try.prog 51 = true := by kernel_rfl
theorem isb51 : Try.f51.body = some body51 := by kernel_rfl
theorem wp51 {args : List AV} {h : Heap} {Q : AV → Heap → Prop} {c : Code} (hb : Try.f51.body = some c) (hn : Nat.ble args.length 54 = true) (hk : asx Try.prog 54 pl51 c (bodyQ Try.prog [.tmp 2] Q) (fr0 args) h) : ACalls Try.prog 51 args h Q := by
  have e := isb51.symm.trans hb; cases e; exact acalls_of_body mixed Try.func51 isb51 good51 (Nat.le_of_ble_eq_true hn) pl51 chk51 hk
/- 52 slope/order.makers -/
def pl52 : Nat → Plan := fun | _ => []
noncomputable def body52 : Code := (Try.f52.body).getD .skip
theorem chk52 : codeChk pl52 body52 = true := by kernel_rfl
theorem good52 : good Try.prog 52 = true := by kernel_rfl
theorem isb52 : Try.f52.body = some body52 := by kernel_rfl
theorem wp52 {args : List AV} {h : Heap} {Q : AV → Heap → Prop} {c : Code} (hb : Try.f52.body = some c) (hn : Nat.ble args.length 7 = true) (hk : asx Try.prog 7 pl52 c (bodyQ Try.prog [.cell 0 102] Q) (fr0 args) h) : ACalls Try.prog 52 args h Q := by
  have e := isb52.symm.trans hb; cases e; exact acalls_of_body mixed Try.func52 isb52 good52 (Nat.le_of_ble_eq_true hn) pl52 chk52 hk
/- 53 slope/sloperef11.Inverse -/
def pl53 : Nat → Plan := fun | _ => []
noncomputable def body53 : Code := (Try.f53.body).getD .skip
theorem chk53 : codeChk pl53 body53 = true := by kernel_rfl
theorem good53 : good Try.prog 53 = true := by kernel_rfl
theorem isb53 : Try.f53.body = some body53 := by kernel_rfl
theorem wp53 {args : List AV} {h : Heap} {Q : AV → Heap → Prop} {c : Code} (hb : Try.f53.body = some c) (hn : Nat.ble args.length 33 = true) (hk : asx Try.prog 33 pl53 c (bodyQ Try.prog [.tmp 2, .tmp 3] Q) (fr0 args) h) : ACalls Try.prog 53 args h Q := by
  have e := isb53.symm.trans hb; cases e; exact acalls_of_body mixed Try.func53 isb53 good53 (Nat.le_of_ble_eq_true hn) pl53 chk53 hk
/- 54 slope/order.Check -/
def pl54 : Nat → Plan := fun | _ => []
noncomputable def body54 : Code := (Try.f54.body).getD .skip
theorem chk54 : codeChk pl54 body54 = true := by kernel_rfl
theorem good54 : good Try.prog 54 = true := by kernel_rfl
theorem isb54 : Try.f54.body = some body54 := by kernel_rfl
theorem wp54 {args : List AV} {h : Heap} {Q : AV → Heap → Prop} {c : Code} (hb : Try.f54.body = some c) (hn : Nat.ble args.length 39 = true) (hk : asx Try.prog 39 pl54 c (bodyQ Try.prog [.tmp 4] Q) (fr0 args) h) : ACalls Try.prog 54 args h Q := by
  have e := isb54.symm.trans hb; cases e; exact acalls_of_body mixed Try.func54 isb54 good54 (Nat.le_of_ble_eq_true hn) pl54 chk54 hk
/- 55 slope/sloperef11.Back -/
def pl55 : Nat → Plan := fun | _ => []
noncomputable def body55 : Code := (Try.f55.body).getD .skip
theorem chk55 : codeChk pl55 body55 = true := by kernel_rfl
theorem good55 : good Try.prog 55 = true := by kernel_rfl
theorem isb55 : Try.f55.body = some body55 := by kernel_rfl
theorem wp55 {args : List AV} {h : Heap} {Q : AV → Heap → Prop} {c : Code} (hb : Try.f55.body = some c) (hn : Nat.ble args.length 25 = true) (hk : asx Try.prog 25 pl55 c (bodyQ Try.prog [.tmp 4, .tmp 5, .tmp 6] Q) (fr0 args) h) : ACalls Try.prog 55 args h Q := by
  have e := isb55.symm.trans hb; cases e; exact acalls_of_body mixed Try.func55 isb55 good55 (Nat.le_of_ble_eq_true hn) pl55 chk55 hk
/- 56 slope/order.neighbours -/
def pl56 : Nat → Plan := fun | 1 => [(0, false, []), (1, false, []), (2, false, []), (3, false, []), (4, false, []), (5, false, []), (6, false, []), (7, false, []), (8, false, []), (9, false, []), (10, false, []), (11, false, []), (12, false, []), (13, false, []), (14, false, [])] | _ => []
noncomputable def body56 : Code := (Try.f56.body).getD .skip
theorem chk56 : codeChk pl56 body56 = true := by kernel_rfl
theorem good56 : good Try.prog 56 = true := by kernel_rfl
theorem isb56 : Try.f56.body = some body56 := by kernel_rfl
theorem wp56 {args : List AV} {h : Heap} {Q : AV → Heap → Prop} {c : Code} (hb : Try.f56.body = some c) (hn : Nat.ble args.length 19 = true) (hk : asx Try.prog 19 pl56 c (bodyQ Try.prog [.tmp 4] Q) (fr0 args) h) : ACalls Try.prog 56 args h Q := by
  have e := isb56.symm.trans hb; cases e; exact acalls_of_body mixed Try.func56 isb56 good56 (Nat.le_of_ble_eq_true hn) pl56 chk56 hk
/- 57 slope/sloperef11.Has -/
def pl57 : Nat → Plan := fun | _ => []
noncomputable def body57 : Code := (Try.f57.body).getD .skip
theorem chk57 : codeChk pl57 body57 = true := by kernel_rfl
theorem good57 : good Try.prog 57 = true := by kernel_rfl
theorem isb57 : Try.f57.body = some body57 := by kernel_rfl
theorem wp57 {args : List AV} {h : Heap} {Q : AV → Heap → Prop} {c : Code} (hb : Try.f57.body = some c) (hn : Nat.ble args.length 30 = true) (hk : asx Try.prog 30 pl57 c (bodyQ Try.prog [.tmp 6] Q) (fr0 args) h) : ACalls Try.prog 57 args h Q := by
  have e := isb57.symm.trans hb; cases e; exact acalls_of_body mixed Try.func57 isb57 good57 (Nat.le_of_ble_eq_true hn) pl57 chk57 hk
/- 66 slope/slopeplain.SamePattern -/
def pl66 : Nat → Plan := fun | _ => []
noncomputable def body66 : Code := (Try.f66.body).getD .skip
theorem chk66 : codeChk pl66 body66 = true := by kernel_rfl
theorem good66 : good Try.prog 66 = true := by kernel_rfl
theorem isb66 : Try.f66.body = some body66 := by kernel_rfl
theorem wp66 {args : List AV} {h : Heap} {Q : AV → Heap → Prop} {c : Code} (hb : Try.f66.body = some c) (hn : Nat.ble args.length 31 = true) (hk : asx Try.prog 31 pl66 c (bodyQ Try.prog [.tmp 4] Q) (fr0 args) h) : ACalls Try.prog 66 args h Q := by
  have e := isb66.symm.trans hb; cases e; exact acalls_of_body mixed Try.func66 isb66 good66 (Nat.le_of_ble_eq_true hn) pl66 chk66 hk
/- 68 slope/sloperef11.natural -/
def pl68 : Nat → Plan := fun | _ => []
noncomputable def body68 : Code := (Try.f68.body).getD .skip
theorem chk68 : codeChk pl68 body68 = true := by kernel_rfl
theorem good68 : good Try.prog 68 = true := by kernel_rfl
theorem isb68 : Try.f68.body = some body68 := by kernel_rfl
theorem wp68 {args : List AV} {h : Heap} {Q : AV → Heap → Prop} {c : Code} (hb : Try.f68.body = some c) (hn : Nat.ble args.length 15 = true) (hk : asx Try.prog 15 pl68 c (bodyQ Try.prog [.tmp 2] Q) (fr0 args) h) : ACalls Try.prog 68 args h Q := by
  have e := isb68.symm.trans hb; cases e; exact acalls_of_body mixed Try.func68 isb68 good68 (Nat.le_of_ble_eq_true hn) pl68 chk68 hk
/- 69 slope/sloperef11.largest -/
def pl69 : Nat → Plan := fun | _ => []
noncomputable def body69 : Code := (Try.f69.body).getD .skip
theorem chk69 : codeChk pl69 body69 = true := by kernel_rfl
theorem good69 : good Try.prog 69 = true := by kernel_rfl
theorem isb69 : Try.f69.body = some body69 := by kernel_rfl
theorem wp69 {args : List AV} {h : Heap} {Q : AV → Heap → Prop} {c : Code} (hb : Try.f69.body = some c) (hn : Nat.ble args.length 29 = true) (hk : asx Try.prog 29 pl69 c (bodyQ Try.prog [.tmp 2] Q) (fr0 args) h) : ACalls Try.prog 69 args h Q := by
  have e := isb69.symm.trans hb; cases e; exact acalls_of_body mixed Try.func69 isb69 good69 (Nat.le_of_ble_eq_true hn) pl69 chk69 hk
/- 70 slope/sloperef11.Smallest -/
def pl70 : Nat → Plan := fun | 11 => [(0, false, []), (1, false, []), (2, false, []), (3, false, []), (4, false, []), (5, false, []), (6, false, []), (7, false, []), (8, false, []), (9, false, []), (10, false, []), (12, true, []), (13, false, []), (14, false, []), (11, false, [12]), (15, false, []), (16, false, []), (17, false, []), (18, false, [])] | _ => []
noncomputable def body70 : Code := (Try.f70.body).getD .skip
theorem chk70 : codeChk pl70 body70 = true := by kernel_rfl
theorem good70 : good Try.prog 70 = true := by kernel_rfl
theorem isb70 : Try.f70.body = some body70 := by kernel_rfl
theorem wp70 {args : List AV} {h : Heap} {Q : AV → Heap → Prop} {c : Code} (hb : Try.f70.body = some c) (hn : Nat.ble args.length 68 = true) (hk : asx Try.prog 68 pl70 c (bodyQ Try.prog [.tmp 2, .tmp 3] Q) (fr0 args) h) : ACalls Try.prog 70 args h Q := by
  have e := isb70.symm.trans hb; cases e; exact acalls_of_body mixed Try.func70 isb70 good70 (Nat.le_of_ble_eq_true hn) pl70 chk70 hk
/- 71 slope/sloperef11.incidence -/
def pl71 : Nat → Plan := fun | _ => []
noncomputable def body71 : Code := (Try.f71.body).getD .skip
theorem chk71 : codeChk pl71 body71 = true := by kernel_rfl
theorem good71 : good Try.prog 71 = true := by kernel_rfl
theorem isb71 : Try.f71.body = some body71 := by kernel_rfl
theorem wp71 {args : List AV} {h : Heap} {Q : AV → Heap → Prop} {c : Code} (hb : Try.f71.body = some c) (hn : Nat.ble args.length 46 = true) (hk : asx Try.prog 46 pl71 c (bodyQ Try.prog [.tmp 2] Q) (fr0 args) h) : ACalls Try.prog 71 args h Q := by
  have e := isb71.symm.trans hb; cases e; exact acalls_of_body mixed Try.func71 isb71 good71 (Nat.le_of_ble_eq_true hn) pl71 chk71 hk
/- 72 slope/sloperef11.core -/
def pl72 : Nat → Plan := fun | _ => []
noncomputable def body72 : Code := (Try.f72.body).getD .skip
theorem chk72 : codeChk pl72 body72 = true := by kernel_rfl
theorem good72 : good Try.prog 72 = true := by kernel_rfl
theorem isb72 : Try.f72.body = some body72 := by kernel_rfl
theorem wp72 {args : List AV} {h : Heap} {Q : AV → Heap → Prop} {c : Code} (hb : Try.f72.body = some c) (hn : Nat.ble args.length 34 = true) (hk : asx Try.prog 34 pl72 c (bodyQ Try.prog [.tmp 4] Q) (fr0 args) h) : ACalls Try.prog 72 args h Q := by
  have e := isb72.symm.trans hb; cases e; exact acalls_of_body mixed Try.func72 isb72 good72 (Nat.le_of_ble_eq_true hn) pl72 chk72 hk
/- 73 slope/sparse.May -/
def pl73 : Nat → Plan := fun | 1 => [(0, false, []), (1, false, []), (2, false, []), (3, false, []), (4, false, []), (5, false, []), (6, false, []), (7, false, []), (8, false, []), (9, false, []), (10, false, []), (11, false, []), (12, false, []), (13, false, []), (14, false, []), (15, false, []), (16, false, []), (17, false, []), (18, false, []), (19, false, []), (20, false, []), (21, false, []), (22, false, []), (23, false, []), (24, false, []), (25, false, []), (26, false, []), (27, false, []), (28, false, []), (29, false, []), (30, false, []), (31, false, []), (32, false, []), (33, false, []), (34, false, []), (35, false, []), (36, false, []), (37, false, []), (38, false, []), (39, false, []), (40, false, []), (41, false, []), (42, false, []), (43, false, [])] | 7 => [(0, false, []), (1, false, []), (2, false, []), (3, false, []), (4, false, []), (5, false, []), (6, false, []), (7, false, []), (8, false, []), (9, false, []), (10, false, []), (11, false, []), (12, false, []), (13, false, []), (14, false, []), (15, false, [])] | _ => []
noncomputable def body73 : Code := (Try.f73.body).getD .skip
theorem chk73 : codeChk pl73 body73 = true := by kernel_rfl
theorem good73 : good Try.prog 73 = true := by kernel_rfl
theorem isb73 : Try.f73.body = some body73 := by kernel_rfl
theorem wp73 {args : List AV} {h : Heap} {Q : AV → Heap → Prop} {c : Code} (hb : Try.f73.body = some c) (hn : Nat.ble args.length 87 = true) (hk : asx Try.prog 87 pl73 c (bodyQ Try.prog [.tmp 2] Q) (fr0 args) h) : ACalls Try.prog 73 args h Q := by
  have e := isb73.symm.trans hb; cases e; exact acalls_of_body mixed Try.func73 isb73 good73 (Nat.le_of_ble_eq_true hn) pl73 chk73 hk
/- 74 slope/sparse.Symmetric -/
def pl74 : Nat → Plan := fun | _ => []
noncomputable def body74 : Code := (Try.f74.body).getD .skip
theorem chk74 : codeChk pl74 body74 = true := by kernel_rfl
theorem good74 : good Try.prog 74 = true := by kernel_rfl
theorem isb74 : Try.f74.body = some body74 := by kernel_rfl
theorem wp74 {args : List AV} {h : Heap} {Q : AV → Heap → Prop} {c : Code} (hb : Try.f74.body = some c) (hn : Nat.ble args.length 18 = true) (hk : asx Try.prog 18 pl74 c (bodyQ Try.prog [.tmp 2] Q) (fr0 args) h) : ACalls Try.prog 74 args h Q := by
  have e := isb74.symm.trans hb; cases e; exact acalls_of_body mixed Try.func74 isb74 good74 (Nat.le_of_ble_eq_true hn) pl74 chk74 hk
/- 75 slope/sparse.Has -/
def pl75 : Nat → Plan := fun | _ => []
noncomputable def body75 : Code := (Try.f75.body).getD .skip
theorem chk75 : codeChk pl75 body75 = true := by kernel_rfl
theorem good75 : good Try.prog 75 = true := by kernel_rfl
theorem isb75 : Try.f75.body = some body75 := by kernel_rfl
theorem wp75 {args : List AV} {h : Heap} {Q : AV → Heap → Prop} {c : Code} (hb : Try.f75.body = some c) (hn : Nat.ble args.length 20 = true) (hk : asx Try.prog 20 pl75 c (bodyQ Try.prog [.tmp 6] Q) (fr0 args) h) : ACalls Try.prog 75 args h Q := by
  have e := isb75.symm.trans hb; cases e; exact acalls_of_body mixed Try.func75 isb75 good75 (Nat.le_of_ble_eq_true hn) pl75 chk75 hk
/- 76 slope/order.degree -/
def pl76 : Nat → Plan := fun | _ => []
noncomputable def body76 : Code := (Try.f76.body).getD .skip
theorem chk76 : codeChk pl76 body76 = true := by kernel_rfl
theorem good76 : good Try.prog 76 = true := by kernel_rfl
theorem isb76 : Try.f76.body = some body76 := by kernel_rfl
theorem wp76 {args : List AV} {h : Heap} {Q : AV → Heap → Prop} {c : Code} (hb : Try.f76.body = some c) (hn : Nat.ble args.length 9 = true) (hk : asx Try.prog 9 pl76 c (bodyQ Try.prog [.tmp 4] Q) (fr0 args) h) : ACalls Try.prog 76 args h Q := by
  have e := isb76.symm.trans hb; cases e; exact acalls_of_body mixed Try.func76 isb76 good76 (Nat.le_of_ble_eq_true hn) pl76 chk76 hk
/- 77 slices.Max[[]int,int] -/
def pl77 : Nat → Plan := fun | _ => []
noncomputable def body77 : Code := (Try.f77.body).getD .skip
theorem chk77 : codeChk pl77 body77 = true := by kernel_rfl
theorem good77 : good Try.prog 77 = true := by kernel_rfl
theorem isb77 : Try.f77.body = some body77 := by kernel_rfl
theorem wp77 {args : List AV} {h : Heap} {Q : AV → Heap → Prop} {c : Code} (hb : Try.f77.body = some c) (hn : Nat.ble args.length 25 = true) (hk : asx Try.prog 25 pl77 c (bodyQ Try.prog [.tmp 2] Q) (fr0 args) h) : ACalls Try.prog 77 args h Q := by
  have e := isb77.symm.trans hb; cases e; exact acalls_of_body mixed Try.func77 isb77 good77 (Nat.le_of_ble_eq_true hn) pl77 chk77 hk
/- 78 slices.DeleteFunc[[]int,int] -/
def pl78 : Nat → Plan := fun | _ => []
noncomputable def body78 : Code := (Try.f78.body).getD .skip
theorem chk78 : codeChk pl78 body78 = true := by kernel_rfl
theorem good78 : good Try.prog 78 = true := by kernel_rfl
theorem isb78 : Try.f78.body = some body78 := by kernel_rfl
theorem wp78 {args : List AV} {h : Heap} {Q : AV → Heap → Prop} {c : Code} (hb : Try.f78.body = some c) (hn : Nat.ble args.length 42 = true) (hk : asx Try.prog 42 pl78 c (bodyQ Try.prog [.tmp 4] Q) (fr0 args) h) : ACalls Try.prog 78 args h Q := by
  have e := isb78.symm.trans hb; cases e; exact acalls_of_body mixed Try.func78 isb78 good78 (Nat.le_of_ble_eq_true hn) pl78 chk78 hk
/- 79 slope/order.peel$1 -/
def pl79 : Nat → Plan := fun | _ => []
noncomputable def body79 : Code := (Try.f79.body).getD .skip
theorem chk79 : codeChk pl79 body79 = true := by kernel_rfl
theorem good79 : good Try.prog 79 = true := by kernel_rfl
theorem isb79 : Try.f79.body = some body79 := by kernel_rfl
theorem wp79 {args : List AV} {h : Heap} {Q : AV → Heap → Prop} {c : Code} (hb : Try.f79.body = some c) (hn : Nat.ble args.length 7 = true) (hk : asx Try.prog 7 pl79 c (bodyQ Try.prog [.tmp 3] Q) (fr0 args) h) : ACalls Try.prog 79 args h Q := by
  have e := isb79.symm.trans hb; cases e; exact acalls_of_body mixed Try.func79 isb79 good79 (Nat.le_of_ble_eq_true hn) pl79 chk79 hk
/- 80 slope/order.peel$2 -/
def pl80 : Nat → Plan := fun | _ => []
noncomputable def body80 : Code := (Try.f80.body).getD .skip
theorem chk80 : codeChk pl80 body80 = true := by kernel_rfl
theorem good80 : good Try.prog 80 = true := by kernel_rfl
theorem isb80 : Try.f80.body = some body80 := by kernel_rfl
theorem wp80 {args : List AV} {h : Heap} {Q : AV → Heap → Prop} {c : Code} (hb : Try.f80.body = some c) (hn : Nat.ble args.length 7 = true) (hk : asx Try.prog 7 pl80 c (bodyQ Try.prog [.tmp 3] Q) (fr0 args) h) : ACalls Try.prog 80 args h Q := by
  have e := isb80.symm.trans hb; cases e; exact acalls_of_body mixed Try.func80 isb80 good80 (Nat.le_of_ble_eq_true hn) pl80 chk80 hk
/- 81 slope/sloperef11.May -/
def pl81 : Nat → Plan := fun | 1 => [(0, false, []), (1, false, []), (2, false, []), (3, false, []), (4, false, []), (5, false, []), (6, false, []), (7, false, []), (8, false, []), (9, false, []), (10, false, []), (11, false, []), (12, false, []), (13, false, []), (14, false, []), (15, false, []), (16, false, []), (17, false, []), (18, false, []), (19, false, []), (20, false, []), (21, false, []), (22, false, []), (23, false, []), (24, false, []), (25, false, []), (26, false, []), (27, false, []), (28, false, []), (29, false, []), (30, false, []), (31, false, []), (32, false, []), (33, false, []), (34, false, []), (35, false, []), (36, false, []), (37, false, []), (38, false, []), (39, false, []), (40, false, []), (41, false, []), (42, false, []), (43, false, []), (44, false, []), (45, false, [])] | 6 => [(0, false, []), (1, false, []), (2, false, []), (3, false, []), (4, false, []), (5, false, []), (6, false, []), (7, false, []), (8, false, []), (9, false, []), (10, false, []), (11, false, []), (12, false, []), (13, false, []), (14, false, []), (15, false, []), (16, false, []), (17, false, []), (18, false, []), (19, false, []), (20, false, []), (21, false, []), (22, false, []), (23, false, [])] | 11 => [(0, false, []), (1, false, []), (2, false, []), (3, false, []), (4, false, []), (5, false, []), (6, false, []), (7, false, []), (8, false, []), (9, false, []), (10, false, []), (11, false, []), (12, false, []), (13, false, []), (14, false, []), (15, false, []), (16, false, []), (17, false, []), (18, false, []), (19, false, []), (20, false, []), (21, false, []), (22, false, []), (23, false, []), (24, false, []), (25, false, []), (26, false, []), (27, false, []), (28, false, []), (29, false, []), (30, false, []), (31, false, []), (32, false, []), (33, false, []), (34, false, []), (35, false, []), (36, false, []), (37, false, []), (38, false, [])] | _ => []
noncomputable def body81 : Code := (Try.f81.body).getD .skip
theorem chk81 : codeChk pl81 body81 = true := by kernel_rfl
theorem good81 : good Try.prog 81 = true := by kernel_rfl
theorem isb81 : Try.f81.body = some body81 := by kernel_rfl
theorem wp81 {args : List AV} {h : Heap} {Q : AV → Heap → Prop} {c : Code} (hb : Try.f81.body = some c) (hn : Nat.ble args.length 135 = true) (hk : asx Try.prog 135 pl81 c (bodyQ Try.prog [.tmp 2] Q) (fr0 args) h) : ACalls Try.prog 81 args h Q := by
  have e := isb81.symm.trans hb; cases e; exact acalls_of_body mixed Try.func81 isb81 good81 (Nat.le_of_ble_eq_true hn) pl81 chk81 hk
/- 82 slope/order.natural -/
def pl82 : Nat → Plan := fun | _ => []
noncomputable def body82 : Code := (Try.f82.body).getD .skip
theorem chk82 : codeChk pl82 body82 = true := by kernel_rfl
theorem good82 : good Try.prog 82 = true := by kernel_rfl
theorem isb82 : Try.f82.body = some body82 := by kernel_rfl
theorem wp82 {args : List AV} {h : Heap} {Q : AV → Heap → Prop} {c : Code} (hb : Try.f82.body = some c) (hn : Nat.ble args.length 19 = true) (hk : asx Try.prog 19 pl82 c (bodyQ Try.prog [.tmp 4, .tmp 5] Q) (fr0 args) h) : ACalls Try.prog 82 args h Q := by
  have e := isb82.symm.trans hb; cases e; exact acalls_of_body mixed Try.func82 isb82 good82 (Nat.le_of_ble_eq_true hn) pl82 chk82 hk
/- 83 slope/order.largest -/
def pl83 : Nat → Plan := fun | _ => []
noncomputable def body83 : Code := (Try.f83.body).getD .skip
theorem chk83 : codeChk pl83 body83 = true := by kernel_rfl
theorem good83 : good Try.prog 83 = true := by kernel_rfl
theorem isb83 : Try.f83.body = some body83 := by kernel_rfl
theorem wp83 {args : List AV} {h : Heap} {Q : AV → Heap → Prop} {c : Code} (hb : Try.f83.body = some c) (hn : Nat.ble args.length 17 = true) (hk : asx Try.prog 17 pl83 c (bodyQ Try.prog [.tmp 4, .tmp 5] Q) (fr0 args) h) : ACalls Try.prog 83 args h Q := by
  have e := isb83.symm.trans hb; cases e; exact acalls_of_body mixed Try.func83 isb83 good83 (Nat.le_of_ble_eq_true hn) pl83 chk83 hk
/- 84 slope/order.smallest -/
def pl84 : Nat → Plan := fun | _ => []
noncomputable def body84 : Code := (Try.f84.body).getD .skip
theorem chk84 : codeChk pl84 body84 = true := by kernel_rfl
theorem good84 : good Try.prog 84 = true := by kernel_rfl
theorem isb84 : Try.f84.body = some body84 := by kernel_rfl
theorem wp84 {args : List AV} {h : Heap} {Q : AV → Heap → Prop} {c : Code} (hb : Try.f84.body = some c) (hn : Nat.ble args.length 14 = true) (hk : asx Try.prog 14 pl84 c (bodyQ Try.prog [.tmp 4, .tmp 5] Q) (fr0 args) h) : ACalls Try.prog 84 args h Q := by
  have e := isb84.symm.trans hb; cases e; exact acalls_of_body mixed Try.func84 isb84 good84 (Nat.le_of_ble_eq_true hn) pl84 chk84 hk
/- 85 slope/order.incidence -/
def pl85 : Nat → Plan := fun | 10 => [(0, false, []), (1, false, []), (2, false, []), (3, false, []), (4, false, []), (5, false, []), (6, false, []), (7, false, []), (8, false, []), (9, false, []), (10, false, []), (11, false, []), (12, false, []), (13, false, []), (14, false, []), (15, false, []), (16, false, []), (18, true, []), (19, false, []), (21, true, []), (22, false, []), (17, false, [18, 21]), (20, false, [21]), (23, false, []), (24, false, []), (25, false, []), (26, false, []), (27, false, []), (28, false, []), (29, false, [])] | _ => []
noncomputable def body85 : Code := (Try.f85.body).getD .skip
theorem chk85 : codeChk pl85 body85 = true := by kernel_rfl
theorem good85 : good Try.prog 85 = true := by kernel_rfl
theorem isb85 : Try.f85.body = some body85 := by kernel_rfl
theorem wp85 {args : List AV} {h : Heap} {Q : AV → Heap → Prop} {c : Code} (hb : Try.f85.body = some c) (hn : Nat.ble args.length 84 = true) (hk : asx Try.prog 84 pl85 c (bodyQ Try.prog [.tmp 4, .tmp 5] Q) (fr0 args) h) : ACalls Try.prog 85 args h Q := by
  have e := isb85.symm.trans hb; cases e; exact acalls_of_body mixed Try.func85 isb85 good85 (Nat.le_of_ble_eq_true hn) pl85 chk85 hk
/- 86 slope/order.scripted -/
def pl86 : Nat → Plan := fun | _ => []
noncomputable def body86 : Code := (Try.f86.body).getD .skip
theorem chk86 : codeChk pl86 body86 = true := by kernel_rfl
theorem good86 : good Try.prog 86 = true := by kernel_rfl
theorem isb86 : Try.f86.body = some body86 := by kernel_rfl
theorem wp86 {args : List AV} {h : Heap} {Q : AV → Heap → Prop} {c : Code} (hb : Try.f86.body = some c) (hn : Nat.ble args.length 16 = true) (hk : asx Try.prog 16 pl86 c (bodyQ Try.prog [.tmp 4, .tmp 5] Q) (fr0 args) h) : ACalls Try.prog 86 args h Q := by
  have e := isb86.symm.trans hb; cases e; exact acalls_of_body mixed Try.func86 isb86 good86 (Nat.le_of_ble_eq_true hn) pl86 chk86 hk
/- 87 slope/sloperef11.BackOf -/
def pl87 : Nat → Plan := fun | _ => []
noncomputable def body87 : Code := (Try.f87.body).getD .skip
theorem chk87 : codeChk pl87 body87 = true := by kernel_rfl
theorem good87 : good Try.prog 87 = true := by kernel_rfl
theorem isb87 : Try.f87.body = some body87 := by kernel_rfl
theorem wp87 {args : List AV} {h : Heap} {Q : AV → Heap → Prop} {c : Code} (hb : Try.f87.body = some c) (hn : Nat.ble args.length 49 = true) (hk : asx Try.prog 49 pl87 c (bodyQ Try.prog [.tmp 4, .tmp 5] Q) (fr0 args) h) : ACalls Try.prog 87 args h Q := by
  have e := isb87.symm.trans hb; cases e; exact acalls_of_body mixed Try.func87 isb87 good87 (Nat.le_of_ble_eq_true hn) pl87 chk87 hk
/- 92 slope/sloperef11.full -/
def pl92 : Nat → Plan := fun | _ => []
noncomputable def body92 : Code := (Try.f92.body).getD .skip
theorem chk92 : codeChk pl92 body92 = true := by kernel_rfl
theorem good92 : good Try.prog 92 = true := by kernel_rfl
theorem isb92 : Try.f92.body = some body92 := by kernel_rfl
theorem wp92 {args : List AV} {h : Heap} {Q : AV → Heap → Prop} {c : Code} (hb : Try.f92.body = some c) (hn : Nat.ble args.length 16 = true) (hk : asx Try.prog 16 pl92 c (bodyQ Try.prog [.tmp 2] Q) (fr0 args) h) : ACalls Try.prog 92 args h Q := by
  have e := isb92.symm.trans hb; cases e; exact acalls_of_body mixed Try.func92 isb92 good92 (Nat.le_of_ble_eq_true hn) pl92 chk92 hk
/- 93 slope/sloperef11.among -/
def pl93 : Nat → Plan := fun | _ => []
noncomputable def body93 : Code := (Try.f93.body).getD .skip
theorem chk93 : codeChk pl93 body93 = true := by kernel_rfl
theorem good93 : good Try.prog 93 = true := by kernel_rfl
theorem isb93 : Try.f93.body = some body93 := by kernel_rfl
theorem wp93 {args : List AV} {h : Heap} {Q : AV → Heap → Prop} {c : Code} (hb : Try.f93.body = some c) (hn : Nat.ble args.length 29 = true) (hk : asx Try.prog 29 pl93 c (bodyQ Try.prog [.tmp 6] Q) (fr0 args) h) : ACalls Try.prog 93 args h Q := by
  have e := isb93.symm.trans hb; cases e; exact acalls_of_body mixed Try.func93 isb93 good93 (Nat.le_of_ble_eq_true hn) pl93 chk93 hk
/- 94 slope/sloperef11.ahead -/
def pl94 : Nat → Plan := fun | 3 => [(0, false, []), (1, false, []), (2, false, []), (3, false, []), (4, false, []), (5, false, []), (6, false, []), (7, false, []), (8, false, []), (9, false, []), (12, true, []), (13, false, []), (10, false, [12]), (11, false, []), (14, false, []), (15, false, []), (16, false, []), (17, false, []), (18, false, []), (19, false, [])] | _ => []
noncomputable def body94 : Code := (Try.f94.body).getD .skip
theorem chk94 : codeChk pl94 body94 = true := by kernel_rfl
theorem good94 : good Try.prog 94 = true := by kernel_rfl
theorem isb94 : Try.f94.body = some body94 := by kernel_rfl
theorem wp94 {args : List AV} {h : Heap} {Q : AV → Heap → Prop} {c : Code} (hb : Try.f94.body = some c) (hn : Nat.ble args.length 38 = true) (hk : asx Try.prog 38 pl94 c (bodyQ Try.prog [.tmp 8] Q) (fr0 args) h) : ACalls Try.prog 94 args h Q := by
  have e := isb94.symm.trans hb; cases e; exact acalls_of_body mixed Try.func94 isb94 good94 (Nat.le_of_ble_eq_true hn) pl94 chk94 hk
/- 95 slope/sparse.side -/
def pl95 : Nat → Plan := fun | _ => []
noncomputable def body95 : Code := (Try.f95.body).getD .skip
theorem chk95 : codeChk pl95 body95 = true := by kernel_rfl
theorem good95 : good Try.prog 95 = true := by kernel_rfl
theorem isb95 : Try.f95.body = some body95 := by kernel_rfl
theorem wp95 {args : List AV} {h : Heap} {Q : AV → Heap → Prop} {c : Code} (hb : Try.f95.body = some c) (hn : Nat.ble args.length 9 = true) (hk : asx Try.prog 9 pl95 c (bodyQ Try.prog [.tmp 2] Q) (fr0 args) h) : ACalls Try.prog 95 args h Q := by
  have e := isb95.symm.trans hb; cases e; exact acalls_of_body mixed Try.func95 isb95 good95 (Nat.le_of_ble_eq_true hn) pl95 chk95 hk
/- 96 slices.IsSorted[[]int,int] -/
def pl96 : Nat → Plan := fun | 4 => [(0, false, []), (1, false, []), (2, false, []), (3, false, []), (4, false, []), (5, false, []), (6, false, []), (7, false, []), (8, false, []), (9, false, [])] | _ => []
noncomputable def body96 : Code := (Try.f96.body).getD .skip
theorem chk96 : codeChk pl96 body96 = true := by kernel_rfl
theorem good96 : good Try.prog 96 = true := by kernel_rfl
theorem isb96 : Try.f96.body = some body96 := by kernel_rfl
theorem wp96 {args : List AV} {h : Heap} {Q : AV → Heap → Prop} {c : Code} (hb : Try.f96.body = some c) (hn : Nat.ble args.length 21 = true) (hk : asx Try.prog 21 pl96 c (bodyQ Try.prog [.tmp 2] Q) (fr0 args) h) : ACalls Try.prog 96 args h Q := by
  have e := isb96.symm.trans hb; cases e; exact acalls_of_body mixed Try.func96 isb96 good96 (Nat.le_of_ble_eq_true hn) pl96 chk96 hk
/- 97 slope/sparse.each -/
def pl97 : Nat → Plan := fun | _ => []
noncomputable def body97 : Code := (Try.f97.body).getD .skip
theorem chk97 : codeChk pl97 body97 = true := by kernel_rfl
theorem good97 : good Try.prog 97 = true := by kernel_rfl
theorem isb97 : Try.f97.body = some body97 := by kernel_rfl
theorem wp97 {args : List AV} {h : Heap} {Q : AV → Heap → Prop} {c : Code} (hb : Try.f97.body = some c) (hn : Nat.ble args.length 36 = true) (hk : asx Try.prog 36 pl97 c (bodyQ Try.prog [] Q) (fr0 args) h) : ACalls Try.prog 97 args h Q := by
  have e := isb97.symm.trans hb; cases e; exact acalls_of_body mixed Try.func97 isb97 good97 (Nat.le_of_ble_eq_true hn) pl97 chk97 hk
/- 98 slope/sparse.Symmetric$1 -/
def pl98 : Nat → Plan := fun | _ => []
noncomputable def body98 : Code := (Try.f98.body).getD .skip
theorem chk98 : codeChk pl98 body98 = true := by kernel_rfl
theorem good98 : good Try.prog 98 = true := by kernel_rfl
theorem isb98 : Try.f98.body = some body98 := by kernel_rfl
theorem wp98 {args : List AV} {h : Heap} {Q : AV → Heap → Prop} {c : Code} (hb : Try.f98.body = some c) (hn : Nat.ble args.length 21 = true) (hk : asx Try.prog 21 pl98 c (bodyQ Try.prog [] Q) (fr0 args) h) : ACalls Try.prog 98 args h Q := by
  have e := isb98.symm.trans hb; cases e; exact acalls_of_body mixed Try.func98 isb98 good98 (Nat.le_of_ble_eq_true hn) pl98 chk98 hk
/- 99 slope/sparse.find -/
def pl99 : Nat → Plan := fun | 3 => [(0, false, []), (1, false, []), (2, false, []), (3, false, []), (4, false, []), (5, false, []), (6, false, []), (7, false, []), (8, false, []), (9, false, []), (10, false, []), (11, false, []), (12, false, []), (13, false, []), (14, false, []), (15, false, []), (16, false, []), (17, false, []), (18, false, []), (19, false, []), (20, false, [])] | _ => []
noncomputable def body99 : Code := (Try.f99.body).getD .skip
theorem chk99 : codeChk pl99 body99 = true := by kernel_rfl
theorem good99 : good Try.prog 99 = true := by kernel_rfl
theorem isb99 : Try.f99.body = some body99 := by kernel_rfl
theorem wp99 {args : List AV} {h : Heap} {Q : AV → Heap → Prop} {c : Code} (hb : Try.f99.body = some c) (hn : Nat.ble args.length 45 = true) (hk : asx Try.prog 45 pl99 c (bodyQ Try.prog [.tmp 6, .tmp 7] Q) (fr0 args) h) : ACalls Try.prog 99 args h Q := by
  have e := isb99.symm.trans hb; cases e; exact acalls_of_body mixed Try.func99 isb99 good99 (Nat.le_of_ble_eq_true hn) pl99 chk99 hk
/- 100 slices.IndexFunc[[]int,int] -/
def pl100 : Nat → Plan := fun | _ => []
noncomputable def body100 : Code := (Try.f100.body).getD .skip
theorem chk100 : codeChk pl100 body100 = true := by kernel_rfl
theorem good100 : good Try.prog 100 = true := by kernel_rfl
theorem isb100 : Try.f100.body = some body100 := by kernel_rfl
theorem wp100 {args : List AV} {h : Heap} {Q : AV → Heap → Prop} {c : Code} (hb : Try.f100.body = some c) (hn : Nat.ble args.length 19 = true) (hk : asx Try.prog 19 pl100 c (bodyQ Try.prog [.tmp 4] Q) (fr0 args) h) : ACalls Try.prog 100 args h Q := by
  have e := isb100.symm.trans hb; cases e; exact acalls_of_body mixed Try.func100 isb100 good100 (Nat.le_of_ble_eq_true hn) pl100 chk100 hk
/- 101 slices.SortStableFunc[[]int,int] -/
def pl101 : Nat → Plan := fun | _ => []
noncomputable def body101 : Code := (Try.f101.body).getD .skip
theorem chk101 : codeChk pl101 body101 = true := by kernel_rfl
theorem good101 : good Try.prog 101 = true := by kernel_rfl
theorem isb101 : Try.f101.body = some body101 := by kernel_rfl
theorem wp101 {args : List AV} {h : Heap} {Q : AV → Heap → Prop} {c : Code} (hb : Try.f101.body = some c) (hn : Nat.ble args.length 9 = true) (hk : asx Try.prog 9 pl101 c (bodyQ Try.prog [] Q) (fr0 args) h) : ACalls Try.prog 101 args h Q := by
  have e := isb101.symm.trans hb; cases e; exact acalls_of_body mixed Try.func101 isb101 good101 (Nat.le_of_ble_eq_true hn) pl101 chk101 hk
/- 102 slope/order.largest$1 -/
def pl102 : Nat → Plan := fun | 1 => [(0, false, []), (1, false, []), (3, true, []), (4, false, []), (2, false, [3]), (5, false, []), (6, false, []), (7, false, [])] | _ => []
noncomputable def body102 : Code := (Try.f102.body).getD .skip
theorem chk102 : codeChk pl102 body102 = true := by kernel_rfl
theorem good102 : good Try.prog 102 = true := by kernel_rfl
theorem isb102 : Try.f102.body = some body102 := by kernel_rfl
theorem wp102 {args : List AV} {h : Heap} {Q : AV → Heap → Prop} {c : Code} (hb : Try.f102.body = some c) (hn : Nat.ble args.length 13 = true) (hk : asx Try.prog 13 pl102 c (bodyQ Try.prog [.tmp 5] Q) (fr0 args) h) : ACalls Try.prog 102 args h Q := by
  have e := isb102.symm.trans hb; cases e; exact acalls_of_body mixed Try.func102 isb102 good102 (Nat.le_of_ble_eq_true hn) pl102 chk102 hk
/- 103 cmp.Compare[int] -/
def pl103 : Nat → Plan := fun | _ => []
noncomputable def body103 : Code := (Try.f103.body).getD .skip
theorem chk103 : codeChk pl103 body103 = true := by kernel_rfl
theorem good103 : good Try.prog 103 = true := by kernel_rfl
theorem isb103 : Try.f103.body = some body103 := by kernel_rfl
theorem wp103 {args : List AV} {h : Heap} {Q : AV → Heap → Prop} {c : Code} (hb : Try.f103.body = some c) (hn : Nat.ble args.length 20 = true) (hk : asx Try.prog 20 pl103 c (bodyQ Try.prog [.tmp 4] Q) (fr0 args) h) : ACalls Try.prog 103 args h Q := by
  have e := isb103.symm.trans hb; cases e; exact acalls_of_body mixed Try.func103 isb103 good103 (Nat.le_of_ble_eq_true hn) pl103 chk103 hk
/- 104 cmp.Or[int] -/
def pl104 : Nat → Plan := fun | _ => []
noncomputable def body104 : Code := (Try.f104.body).getD .skip
theorem chk104 : codeChk pl104 body104 = true := by kernel_rfl
theorem good104 : good Try.prog 104 = true := by kernel_rfl
theorem isb104 : Try.f104.body = some body104 := by kernel_rfl
theorem wp104 {args : List AV} {h : Heap} {Q : AV → Heap → Prop} {c : Code} (hb : Try.f104.body = some c) (hn : Nat.ble args.length 18 = true) (hk : asx Try.prog 18 pl104 c (bodyQ Try.prog [.tmp 2] Q) (fr0 args) h) : ACalls Try.prog 104 args h Q := by
  have e := isb104.symm.trans hb; cases e; exact acalls_of_body mixed Try.func104 isb104 good104 (Nat.le_of_ble_eq_true hn) pl104 chk104 hk
/- 105 slices.Clone[[]int,int] -/
def pl105 : Nat → Plan := fun | _ => []
noncomputable def body105 : Code := (Try.f105.body).getD .skip
theorem chk105 : codeChk pl105 body105 = true := by kernel_rfl
theorem good105 : good Try.prog 105 = true := by kernel_rfl
theorem isb105 : Try.f105.body = some body105 := by kernel_rfl
theorem wp105 {args : List AV} {h : Heap} {Q : AV → Heap → Prop} {c : Code} (hb : Try.f105.body = some c) (hn : Nat.ble args.length 8 = true) (hk : asx Try.prog 8 pl105 c (bodyQ Try.prog [.tmp 2] Q) (fr0 args) h) : ACalls Try.prog 105 args h Q := by
  have e := isb105.symm.trans hb; cases e; exact acalls_of_body mixed Try.func105 isb105 good105 (Nat.le_of_ble_eq_true hn) pl105 chk105 hk
/- 114 cmp.Less[int] -/
def pl114 : Nat → Plan := fun | _ => []
noncomputable def body114 : Code := (Try.f114.body).getD .skip
theorem chk114 : codeChk pl114 body114 = true := by kernel_rfl
theorem good114 : good Try.prog 114 = true := by kernel_rfl
theorem isb114 : Try.f114.body = some body114 := by kernel_rfl
theorem wp114 {args : List AV} {h : Heap} {Q : AV → Heap → Prop} {c : Code} (hb : Try.f114.body = some c) (hn : Nat.ble args.length 17 = true) (hk : asx Try.prog 17 pl114 c (bodyQ Try.prog [.tmp 4] Q) (fr0 args) h) : ACalls Try.prog 114 args h Q := by
  have e := isb114.symm.trans hb; cases e; exact acalls_of_body mixed Try.func114 isb114 good114 (Nat.le_of_ble_eq_true hn) pl114 chk114 hk
/- 115 slices.BinarySearch[[]int,int] -/
def pl115 : Nat → Plan := fun | _ => []
noncomputable def body115 : Code := (Try.f115.body).getD .skip
theorem chk115 : codeChk pl115 body115 = true := by kernel_rfl
theorem good115 : good Try.prog 115 = true := by kernel_rfl
theorem isb115 : Try.f115.body = some body115 := by kernel_rfl
theorem wp115 {args : List AV} {h : Heap} {Q : AV → Heap → Prop} {c : Code} (hb : Try.f115.body = some c) (hn : Nat.ble args.length 54 = true) (hk : asx Try.prog 54 pl115 c (bodyQ Try.prog [.tmp 4, .tmp 5] Q) (fr0 args) h) : ACalls Try.prog 115 args h Q := by
  have e := isb115.symm.trans hb; cases e; exact acalls_of_body mixed Try.func115 isb115 good115 (Nat.le_of_ble_eq_true hn) pl115 chk115 hk
/- 116 slices.stableCmpFunc[int] -/
def pl116 : Nat → Plan := fun | _ => []
noncomputable def body116 : Code := (Try.f116.body).getD .skip
theorem chk116 : codeChk pl116 body116 = true := by kernel_rfl
theorem good116 : good Try.prog 116 = true := by kernel_rfl
theorem isb116 : Try.f116.body = some body116 := by kernel_rfl
theorem wp116 {args : List AV} {h : Heap} {Q : AV → Heap → Prop} {c : Code} (hb : Try.f116.body = some c) (hn : Nat.ble args.length 63 = true) (hk : asx Try.prog 63 pl116 c (bodyQ Try.prog [] Q) (fr0 args) h) : ACalls Try.prog 116 args h Q := by
  have e := isb116.symm.trans hb; cases e; exact acalls_of_body mixed Try.func116 isb116 good116 (Nat.le_of_ble_eq_true hn) pl116 chk116 hk
/- 117 cmp.isNaN[int] -/
def pl117 : Nat → Plan := fun | _ => []
noncomputable def body117 : Code := (Try.f117.body).getD .skip
theorem chk117 : codeChk pl117 body117 = true := by kernel_rfl
theorem good117 : good Try.prog 117 = true := by kernel_rfl
theorem isb117 : Try.f117.body = some body117 := by kernel_rfl
theorem wp117 {args : List AV} {h : Heap} {Q : AV → Heap → Prop} {c : Code} (hb : Try.f117.body = some c) (hn : Nat.ble args.length 6 = true) (hk : asx Try.prog 6 pl117 c (bodyQ Try.prog [.tmp 2] Q) (fr0 args) h) : ACalls Try.prog 117 args h Q := by
  have e := isb117.symm.trans hb; cases e; exact acalls_of_body mixed Try.func117 isb117 good117 (Nat.le_of_ble_eq_true hn) pl117 chk117 hk
/- 124 slices.isNaN[int] -/
def pl124 : Nat → Plan := fun | _ => []
noncomputable def body124 : Code := (Try.f124.body).getD .skip
theorem chk124 : codeChk pl124 body124 = true := by kernel_rfl
theorem good124 : good Try.prog 124 = true := by kernel_rfl
theorem isb124 : Try.f124.body = some body124 := by kernel_rfl
theorem wp124 {args : List AV} {h : Heap} {Q : AV → Heap → Prop} {c : Code} (hb : Try.f124.body = some c) (hn : Nat.ble args.length 6 = true) (hk : asx Try.prog 6 pl124 c (bodyQ Try.prog [.tmp 2] Q) (fr0 args) h) : ACalls Try.prog 124 args h Q := by
  have e := isb124.symm.trans hb; cases e; exact acalls_of_body mixed Try.func124 isb124 good124 (Nat.le_of_ble_eq_true hn) pl124 chk124 hk
/- 125 slices.insertionSortCmpFunc[int] -/
def pl125 : Nat → Plan := fun | 4 => [(0, false, []), (1, false, []), (2, false, []), (3, false, []), (4, false, []), (5, false, []), (6, false, []), (7, false, []), (8, false, []), (9, false, []), (10, false, []), (11, false, []), (12, false, []), (13, false, []), (14, false, []), (15, false, []), (16, false, [])] | 6 => [(0, false, []), (1, false, []), (2, false, []), (3, false, []), (4, false, []), (5, false, []), (6, false, []), (7, false, []), (8, false, []), (9, false, []), (10, false, []), (11, false, []), (12, false, []), (13, false, []), (14, false, []), (15, false, []), (16, false, []), (17, false, [])] | _ => []
noncomputable def body125 : Code := (Try.f125.body).getD .skip
theorem chk125 : codeChk pl125 body125 = true := by kernel_rfl
theorem good125 : good Try.prog 125 = true := by kernel_rfl
theorem isb125 : Try.f125.body = some body125 := by kernel_rfl
theorem wp125 {args : List AV} {h : Heap} {Q : AV → Heap → Prop} {c : Code} (hb : Try.f125.body = some c) (hn : Nat.ble args.length 53 = true) (hk : asx Try.prog 53 pl125 c (bodyQ Try.prog [] Q) (fr0 args) h) : ACalls Try.prog 125 args h Q := by
  have e := isb125.symm.trans hb; cases e; exact acalls_of_body mixed Try.func125 isb125 good125 (Nat.le_of_ble_eq_true hn) pl125 chk125 hk
/- 126 slices.symMergeCmpFunc[int] -/
def pl126 : Nat → Plan := fun | 5 => [(0, false, []), (1, false, []), (2, false, []), (3, false, []), (4, false, []), (5, false, []), (6, false, []), (7, false, []), (8, false, []), (9, false, []), (10, false, [])] | 11 => [(0, false, []), (1, false, []), (2, false, []), (3, false, []), (4, false, []), (5, false, []), (6, false, []), (7, false, []), (8, false, []), (9, false, []), (10, false, []), (11, false, []), (12, false, []), (13, false, []), (14, false, []), (15, false, []), (16, false, []), (17, false, [])] | 17 => [(0, false, []), (1, false, []), (2, false, []), (3, false, []), (4, false, []), (5, false, []), (6, false, []), (7, false, []), (8, false, []), (9, false, []), (10, false, []), (11, false, [])] | 23 => [(0, false, []), (1, false, []), (2, false, []), (3, false, []), (4, false, []), (5, false, []), (6, false, []), (7, false, []), (8, false, []), (9, false, []), (10, false, []), (11, false, []), (12, false, []), (13, false, []), (14, false, []), (15, false, []), (16, false, []), (17, false, [])] | 35 => [(0, false, []), (1, false, []), (2, false, []), (3, false, []), (4, false, []), (5, false, []), (6, false, []), (7, false, []), (8, false, []), (9, false, []), (10, false, []), (11, false, []), (12, false, []), (13, false, [])] | _ => []
noncomputable def body126 : Code := (Try.f126.body).getD .skip
theorem chk126 : codeChk pl126 body126 = true := by kernel_rfl
theorem good126 : good Try.prog 126 = true := by kernel_rfl
theorem isb126 : Try.f126.body = some body126 := by kernel_rfl
theorem wp126 {args : List AV} {h : Heap} {Q : AV → Heap → Prop} {c : Code} (hb : Try.f126.body = some c) (hn : Nat.ble args.length 220 = true) (hk : asx Try.prog 220 pl126 c (bodyQ Try.prog [] Q) (fr0 args) h) : ACalls Try.prog 126 args h Q := by
  have e := isb126.symm.trans hb; cases e; exact acalls_of_body mixed Try.func126 isb126 good126 (Nat.le_of_ble_eq_true hn) pl126 chk126 hk
/- 141 slices.rotateCmpFunc[int] -/
def pl141 : Nat → Plan := fun | _ => []
noncomputable def body141 : Code := (Try.f141.body).getD .skip
theorem chk141 : codeChk pl141 body141 = true := by kernel_rfl
theorem good141 : good Try.prog 141 = true := by kernel_rfl
theorem isb141 : Try.f141.body = some body141 := by kernel_rfl
theorem wp141 {args : List AV} {h : Heap} {Q : AV → Heap → Prop} {c : Code} (hb : Try.f141.body = some c) (hn : Nat.ble args.length 58 = true) (hk : asx Try.prog 58 pl141 c (bodyQ Try.prog [] Q) (fr0 args) h) : ACalls Try.prog 141 args h Q := by
  have e := isb141.symm.trans hb; cases e; exact acalls_of_body mixed Try.func141 isb141 good141 (Nat.le_of_ble_eq_true hn) pl141 chk141 hk
/- 153 slices.swapRangeCmpFunc[int] -/
def pl153 : Nat → Plan := fun | 3 => [(0, false, []), (1, false, []), (2, false, []), (3, false, []), (4, false, []), (5, false, []), (6, false, []), (7, false, []), (8, false, []), (9, false, []), (10, false, []), (11, false, []), (12, false, []), (13, false, []), (14, false, []), (15, false, []), (16, false, []), (17, false, []), (18, false, []), (19, false, []), (20, false, []), (21, false, []), (22, false, []), (23, false, [])] | _ => []
noncomputable def body153 : Code := (Try.f153.body).getD .skip
theorem chk153 : codeChk pl153 body153 = true := by kernel_rfl
theorem good153 : good Try.prog 153 = true := by kernel_rfl
theorem isb153 : Try.f153.body = some body153 := by kernel_rfl
theorem wp153 {args : List AV} {h : Heap} {Q : AV → Heap → Prop} {c : Code} (hb : Try.f153.body = some c) (hn : Nat.ble args.length 38 = true) (hk : asx Try.prog 38 pl153 c (bodyQ Try.prog [] Q) (fr0 args) h) : ACalls Try.prog 153 args h Q := by
  have e := isb153.symm.trans hb; cases e; exact acalls_of_body mixed Try.func153 isb153 good153 (Nat.le_of_ble_eq_true hn) pl153 chk153 hk
end Go.Proofs.Ytgdlkhgfehclpaa
