/- The small logic's rules for simp: what each operation does with values. No condition. -/
import Derived.Test.YtgdlkhgfehclpaaALn
namespace Go.AL
set_option linter.unusedVariables false
set_option linter.unusedSimpArgs false
section
variable {P : Program} {n : Nat} {a : Fr} {h : Heap}

/-! ### operands -/
section
variable {K : AV → Prop}
theorem evK_tmp {t : Tmp} : evK a (.tmp t) K = K (a t) := (rfl)
theorem evK_int {k : IntKind} {m : Int} : evK a (.const (.int k m)) K = K (.int k m) := (rfl)
theorem evK_bool {b : Bool} : evK a (.const (.bool b)) K = K (.bool b) := (rfl)
theorem evK_str {s : ByteArray} : evK a (.const (.string s)) K = K (.str s) := (rfl)
theorem evK_flt {k : FloatKind} {m : Nat} : evK a (.const (.float k m)) K = K (.flt k m) := (rfl)
theorem evK_nilp : evK a (.const (.pointer none)) K = K .nilp := (rfl)
theorem evK_nils : evK a (.const (.slice none 0 0)) K = K .nils := (rfl)
theorem evK_nilf : evK a (.const .nilFunc) K = K .nilf := (rfl)
theorem evK_nili : evK a (.const .nilIface) K = K .nili := (rfl)
theorem evK_nilm : evK a (.const (.map none)) K = K .nilm := (rfl)
theorem evK_undef : evK a (.const (.tuple #[])) K = K .undef := (rfl)
theorem evK_func {f : FuncId} : evK a (.func f) K = K (.fn (.func f) [] []) := (rfl)
theorem evsK_nil {K : List AV → Prop} : evsK a [] K = K [] := (rfl)
theorem evsK_cons {x : Operand} {r : List Operand} {K : List AV → Prop} : evsK a (x :: r) K = evK a x fun u => evsK a r fun us => K (u :: us) := (rfl)
theorem evpK_nil {K : List (Nat × AV) → Prop} : evpK a [] K = K [] := (rfl)
theorem evpK_cons {i : Nat} {x : Operand} {r : List (Nat × Operand)} {K : List (Nat × AV) → Prop} : evpK a ((i, x) :: r) K = evK a x fun u => evpK a r fun us => K ((i, u) :: us) := (rfl)
theorem evoK_none {K : Option AV → Prop} : evoK a none K = K none := (rfl)
theorem evoK_some {x : Operand} {K : Option AV → Prop} : evoK a (some x) K = evK a x fun u => K (some u) := (rfl)
end

/-! ### which operation -/
section
variable {K : AV → Heap → Prop}
/-- The heap, worked at first. -/
def letH (h : Heap) (K : Heap → Prop) : Prop := K h
@[congr] theorem letH_cg {h h' : Heap} {K : Heap → Prop} (e : mk h = h') : letH h K = letH h' K := by rw [← e]; rfl
theorem letH_eq {K : Heap → Prop} : letH h K = K h := (rfl)
theorem aop_move {x : Operand} : aop P (.move x) a h K = evK a x fun u => K u h := (rfl)
theorem aop_assign {x : Operand} : aop P (.assign x) a h K = evK a x fun u => K u h := (rfl)
theorem aop_pick {c x y : Operand} : aop P (.pick c x y) a h K = evK a c fun c => evK a x fun x => evK a y fun y => pickK c x y fun u => K u h := (rfl)
theorem aop_alloc {t : TypeId} : aop P (.alloc t) a h K = optK (zcells P t) fun cs => letH (h ++ [.arr cs.length [cs] true]) (K (.op h.length cs.length 0 0)) := by
  simp only [aop, optK_eq, letH]
theorem aop_box {t : TypeId} {x : Operand} : aop P (.box t x) a h K = evK a x fun u => cellsK u fun cs => letH (h ++ [.arr cs.length [cs] true]) (K (.op h.length cs.length 0 0)) := (rfl)
theorem aop_build {t : TypeId} {parts : List (Nat × Operand)} : aop P (.build t parts.toArray) a h K = evpK a parts fun us => optK (zcells P t) fun z => optK (fplaces P t) fun pl => fillK (fun i => pl[i]?) us z fun cs => K (.agg cs) h := by
  simp only [aop, optK_eq]
  congr 1
  funext us
  cases zcells P t <;> cases fplaces P t <;> simp [optK]
def repl {α : Type} : Nat → α → List α | 0, _ => [] | n + 1, x => x :: repl n x
theorem repl_zero {α : Type} {x : α} : repl 0 x = [] := (rfl)
theorem repl_succ {α : Type} {m : Nat} {x : α} : repl (m + 1) x = x :: repl m x := (rfl)
theorem repl_eq {α : Type} {x : α} : ∀ {m : Nat}, List.replicate m x = repl m x
  | 0 => rfl
  | m + 1 => by rw [List.replicate_succ, repl_succ, repl_eq]
theorem aop_buildSlice {t : TypeId} {len : Nat} {parts : List (Nat × Operand)} : aop P (.buildSlice t len parts.toArray) a h K = evpK a parts fun us => optK (telem P t) fun e => optK (zcells P e) fun z => len * z.length ≤ 16777216 ∧
      fillRK z.length us (repl len z) fun es => letH (h ++ [.arr z.length es true]) (K (.osl h.length z.length 0 len len true)) := by
  simp only [aop, letH, repl_eq]
  congr 1
  funext us
  cases he : telem P t with
  | none => simp [optK]
  | some e => cases hz : zcells P e <;> simp [optK, hz]
theorem aop_load {t : TypeId} {x : Operand} : aop P (.load t x) a h K = evK a x fun p => loadK P t h p fun u => K u h := (rfl)
theorem aop_store {t : TypeId} {p x : Operand} : aop P (.store t p x) a h K = evK a p fun p => evK a x fun u => storeK P t h p u fun h' => K .undef h' := (rfl)
theorem aop_nilCheck {x : Operand} : aop P (.nilCheck x) a h K = evK a x fun u => nilCheckK u fun u => K u h := (rfl)
theorem aop_bin {op : BinOp} {t t' : TypeId} {x y : Operand} : aop P (.binOp op t x y t') a h K = evK a x fun u => evK a y fun v => binAll P op t u v fun u => K u h := (rfl)
theorem aop_un {op : UnOp} {t : TypeId} {x : Operand} : aop P (.unOp op t x) a h K = evK a x fun u => unK op u fun u => K u h := (rfl)
theorem aop_convert {s d : TypeId} {x : Operand} : aop P (.convert s d x) a h K = evK a x fun u => convK P s d u fun u => K u h := (rfl)
theorem aop_makeFunc {f : Fn} {fs cs : List Operand} : aop P (.makeFunc f fs.toArray cs.toArray) a h K = evsK a fs fun fs => evsK a cs fun cs => K (.fn f fs cs) h := (rfl)
theorem aop_makeInterface {t : TypeId} {x : Operand} : aop P (.makeInterface t x) a h K = (tnotIface P t = true ∧ evK a x fun u => K (.ifc t u) h) := (rfl)
theorem aop_makeSlice {t : TypeId} {l c : Operand} : aop P (.makeSlice t l c) a h K = evK a l fun l => evK a c fun c => makeSliceK P t h l c K := (rfl)
theorem aop_slice {t : TypeId} {x : Operand} {lo hi : Option Operand} : aop P (.slice t x lo hi none) a h K = evK a x fun x => evoK a lo fun lo => evoK a hi fun hi => sliceAll P t x lo hi fun u => K u h := (rfl)
theorem aop_fieldAddr {s f : Nat} {x : Operand} : aop P (.fieldAddr s x f) a h K = evK a x fun p => fieldAddrK P s f p fun u => K u h := (rfl)
theorem aop_field {t f : Nat} {x : Operand} : aop P (.field t x f) a h K = evK a x fun u => fieldK P t f u fun u => K u h := (rfl)
theorem aop_indexAddr {t : TypeId} {x i : Operand} : aop P (.indexAddr t x i) a h K = evK a x fun x => evK a i fun i => indexAddrK P t x i fun u => K u h := (rfl)
theorem aop_index {t : TypeId} {x i : Operand} : aop P (.index t x i) a h K = evK a x fun u => evK a i fun i => indexK P t u i fun u => K u h := (rfl)
theorem aop_extract {x : Operand} {i : Nat} : aop P (.extract x i) a h K = evK a x fun u => extK u i fun u => K u h := (rfl)
theorem aop_call {f : Operand} {xs : List Operand} {ts : Array TypeId} : aop P (.call ⟨.value f, xs.toArray, ts⟩) a h K = evK a f fun f => evsK a xs fun us => callK P f us h K := (rfl)
theorem aop_len {x : Operand} {t : TypeId} : aop P (.call ⟨.builtin .len, #[x], #[t]⟩) a h K = evK a x fun u => lenK P t u fun u => K u h := (rfl)
theorem aop_cap {x : Operand} {t : TypeId} : aop P (.call ⟨.builtin .cap, #[x], #[t]⟩) a h K = evK a x fun u => capK P t u fun u => K u h := (rfl)
theorem aop_min {xs : List Operand} {ts : Array TypeId} : aop P (.call ⟨.builtin .min, xs.toArray, ts⟩) a h K = evsK a xs fun us => minK imin us fun u => K u h := (rfl)
theorem aop_max {xs : List Operand} {ts : Array TypeId} : aop P (.call ⟨.builtin .max, xs.toArray, ts⟩) a h K = evsK a xs fun us => minK imax us fun u => K u h := (rfl)
theorem aop_clear {x : Operand} {t : TypeId} : aop P (.call ⟨.builtin .clear, #[x], #[t]⟩) a h K = evK a x fun u => clearK P t h u fun h' => K .undef h' := (rfl)
theorem aop_append {s x : Operand} {t t' : TypeId} : aop P (.call ⟨.builtin .append, #[s, x], #[t, t']⟩) a h K = evK a s fun s => evK a x fun x => appendK P t t' h s x K := (rfl)
end

/-! ### values -/
section
variable {K : AV → Prop}
theorem fitK_i64 {z : Int} : fitK .i64 z K = ((-9223372036854775808 ≤ z ∧ z ≤ 9223372036854775807) ∧ K (.int .i64 z)) := (rfl)
theorem fitK_u64 {z : Int} : fitK .u64 z K = K (.int .u64 (IntKind.u64.wrap z)) := (rfl)
theorem fitK_u32 {z : Int} : fitK .u32 z K = K (.int .u32 (IntKind.u32.wrap z)) := (rfl)
theorem fitK_u8 {z : Int} : fitK .u8 z K = K (.int .u8 (IntKind.u8.wrap z)) := (rfl)
theorem fitK_i32 {z : Int} : fitK .i32 z K = K (.int .i32 (IntKind.i32.wrap z)) := (rfl)
def ldX (g : Option Bool) (s : Option Nat) (cells : List AV) (off : Nat) (K : AV → Prop) : Prop :=
  match g with
  | some true => optK s fun n => off + n ≤ cells.length ∧ K (.agg ((cells.drop off).take n))
  | some false => optK cells[off]? K
  | none => False
@[congr] theorem ldX_cg {g g' : Option Bool} {s s' : Option Nat} {cells cells' : List AV} {off off' : Nat} (e1 : mk g = g') (e2 : mk s = s') (e3 : mk cells = cells') (e4 : mk off = off') : ldX g s cells off K = ldX g' s' cells' off' K := by rw [← e1, ← e2, ← e3, ← e4]; rfl
theorem ldX_cell {s : Option Nat} {cells : List AV} {off : Nat} : ldX (some false) s cells off K = optK cells[off]? K := (rfl)
theorem ldX_agg {m : Nat} {cells : List AV} {off : Nat} : ldX (some true) (some m) cells off K = (off + m ≤ cells.length ∧ K (.agg ((cells.drop off).take m))) := (rfl)
theorem ldK_eq {t : TypeId} {cells : List AV} {off : Nat} : ldK P t cells off K = ldX (tagg P t) (tsize P t) cells off K := by
  unfold ldK ldX
  cases tagg P t with
  | none => rfl
  | some b => cases b <;> simp only [optK_eq]
theorem partK_eq {t : TypeId} {cells : List AV} {off : Nat} : partK P t cells off K = ldX (tagg P t) (tsize P t) cells off K := by
  unfold partK ldX
  cases tagg P t with
  | none => rfl
  | some b => cases b <;> simp only [optK_eq]
/-- An object's elements. -/
def objK (k : Nat) (o : Option Ob) (K : List (List AV) → Prop) : Prop := match o with | some (.arr k' es _) => k' = k ∧ K es | _ => False
@[congr] theorem objK_cg {k : Nat} {o o' : Option Ob} {K : List (List AV) → Prop} (e : mk o = o') : objK k o K = objK k o' K := by rw [← e]; rfl
theorem objK_some {k : Nat} {es : List (List AV)} {ex : Bool} {K : List (List AV) → Prop} : objK k (some (.arr k es ex)) K = K es := by simp [objK]
@[congr] theorem loadK_cg {t : TypeId} {h h' : Heap} {p p' : AV} (e1 : mk h = h') (e2 : mk p = p') : loadK P t h p K = loadK P t h' p' K := by rw [← e1, ← e2]; rfl
theorem loadK_ip {t : TypeId} {cells : List AV} {off : Nat} : loadK P t h (.ip cells off) K = ldX (tagg P t) (tsize P t) cells off K := ldK_eq
theorem objK_ex {k : Nat} {o : Option Ob} {K : List (List AV) → Prop} : (∃ es ex, o = some (.arr k es ex) ∧ K es) = objK k o K := by
  apply propext
  constructor
  · rintro ⟨es, ex, rfl, hk⟩; exact ⟨rfl, hk⟩
  · intro hk
    cases o with
    | none => exact hk.elim
    | some o =>
      cases o with
      | arr k' es ex => obtain ⟨rfl, hk⟩ := hk; exact ⟨es, ex, rfl, hk⟩
      | _ => exact hk.elim
theorem loadK_op {t : TypeId} {id k e off : Nat} : loadK P t h (.op id k e off) K = objK k h[id]? fun es => optK es[e]? fun c => ldX (tagg P t) (tsize P t) c off K := by
  unfold loadK
  simp only [optK_eq, ldK_eq]
  exact objK_ex
def faK (o : Nat) (p : AV) (K : AV → Prop) : Prop := match p with | .ip cells off => K (.ip cells (off + o)) | .op id k e off => K (.op id k e (off + o)) | _ => False
@[congr] theorem faK_cg {o : Nat} {p p' : AV} (e : mk p = p') : faK o p K = faK o p' K := by rw [← e]; rfl
theorem faK_ip {o off : Nat} {cells : List AV} : faK o (.ip cells off) K = K (.ip cells (off + o)) := (rfl)
theorem faK_op {o off id k e : Nat} : faK o (.op id k e off) K = K (.op id k e (off + o)) := (rfl)
theorem fieldAddrK_eq {s f : Nat} {p : AV} : fieldAddrK P s f p K = optK (foff P s f) fun x => faK x.1 p K := by
  unfold fieldAddrK
  rw [← optK_eq]
  apply propext
  constructor
  · rintro ⟨o, ft, h1, h2⟩; exact ⟨(o, ft), h1, by cases p <;> exact h2⟩
  · rintro ⟨⟨o, ft⟩, h1, h2⟩; exact ⟨o, ft, h1, by cases p <;> exact h2⟩
def fdK (P : Program) (o : Nat) (t : TypeId) (p : AV) (K : AV → Prop) : Prop := match p with | .agg cs => ldX (tagg P t) (tsize P t) cs o K | _ => False
@[congr] theorem fdK_cg {o t : Nat} {p p' : AV} (e : mk p = p') : fdK P o t p K = fdK P o t p' K := by rw [← e]; rfl
theorem fdK_agg {o t : Nat} {cs : List AV} : fdK P o t (.agg cs) K = ldX (tagg P t) (tsize P t) cs o K := (rfl)
theorem fieldK_eq {t f : Nat} {p : AV} : fieldK P t f p K = optK (foff P t f) fun x => fdK P x.1 x.2 p K := by
  unfold fieldK
  rw [← optK_eq]
  apply propext
  constructor
  · rintro ⟨o, ft, h1, h2⟩; exact ⟨(o, ft), h1, by cases p <;> first | exact h2.elim | (simp only [fdK]; rw [← partK_eq]; exact h2)⟩
  · rintro ⟨⟨o, ft⟩, h1, h2⟩; exact ⟨o, ft, h1, by cases p <;> first | exact h2.elim | (simp only [fdK] at h2; rw [← partK_eq] at h2; exact h2)⟩
theorem optK_map {α β : Type} [Inhabited α] {f : α → β} {xs : List α} {i : Nat} {K : β → Prop} : optK (List.map f xs)[i]? K = (i < xs.length ∧ K (f (xs.getD i default))) := by
  rw [List.getElem?_map]
  by_cases hi : i < xs.length
  · simp [optK, hi, List.getD_eq_getElem?_getD, List.getElem?_eq_getElem hi]
  · simp [optK, hi, List.getElem?_eq_none (Nat.le_of_not_lt hi)]
/-- What a slice's elements take. -/
def elK (P : Program) (t : TypeId) (k : Nat) : Prop := optK (telem P t) fun e => optK (tsize P e) fun s => s = k
theorem elK_eq {t : TypeId} {k : Nat} : elK P t k = optK (telem P t) fun e => optK (tsize P e) fun s => s = k := (rfl)
theorem elK_ex {t : TypeId} {k : Nat} : (∃ e, telem P t = some e ∧ tsize P e = some k) = elK P t k := by
  unfold elK
  rw [optK_eq]
  congr 1
  funext e
  cases tsize P e <;> simp [optK]
@[congr] theorem indexAddrK_cg {t : TypeId} {x x' i i' : AV} (e1 : mk x = x') (e2 : mk i = i') : indexAddrK P t x i K = indexAddrK P t x' i' K := by rw [← e1, ← e2]; rfl
theorem indexAddrK_isl {t : TypeId} {k : Nat} {es : List (List AV)} {kk : IntKind} {m : Int} : indexAddrK P t (.isl k es) (.int kk m) K = (0 ≤ m ∧ elK P t k ∧ optK es[m.toNat]? fun c => K (.ip c 0)) := by
  simp only [indexAddrK, elK_ex, ← optK_eq]
  apply propext
  constructor
  · rintro ⟨h1, h2, h3, h4⟩; exact ⟨h1, h3, h4⟩
  · rintro ⟨h1, h2, h3⟩
    refine ⟨h1, ?_, h2, h3⟩
    obtain ⟨c, hc, _⟩ := h3
    have := (List.getElem?_eq_some_iff.1 hc).1
    omega
theorem indexAddrK_osl {t : TypeId} {id k i0 len cap : Nat} {ex : Bool} {kk : IntKind} {m : Int} : indexAddrK P t (.osl id k i0 len cap ex) (.int kk m) K = ((0 ≤ m ∧ m < len) ∧ elK P t k ∧ K (.op id k (i0 + m.toNat) 0)) := by
  simp only [indexAddrK, elK_ex, and_assoc]
def arK (P : Program) (t : TypeId) (m : Int) (K : Nat → Prop) : Prop := optK (tarr P t) fun x => optK (tsize P x.2) fun s => (0 ≤ m ∧ m < x.1) ∧ K (m.toNat * s)
theorem arK_eq {t : TypeId} {m : Int} {K : Nat → Prop} : arK P t m K = optK (tarr P t) fun x => optK (tsize P x.2) fun s => (0 ≤ m ∧ m < x.1) ∧ K (m.toNat * s) := (rfl)
theorem arK_ex {t : TypeId} {z : Int} {K : Nat → Prop} : (∃ m e s, tarr P t = some (m, e) ∧ tsize P e = some s ∧ 0 ≤ z ∧ z < (m : Nat) ∧ K (z.toNat * s)) = arK P t z K := by
  unfold arK
  cases tarr P t with
  | none => simp [optK]
  | some x =>
    obtain ⟨m, e⟩ := x
    simp only [optK, Option.some.injEq, Prod.mk.injEq]
    cases hs : tsize P e with
    | none => apply propext; constructor
              · rintro ⟨_, _, _, ⟨rfl, rfl⟩, h2, _⟩; rw [hs] at h2; cases h2
              · intro h; exact h.elim
    | some s =>
      apply propext
      constructor
      · rintro ⟨_, _, _, ⟨rfl, rfl⟩, h2, h3, h4, h5⟩; rw [hs] at h2; cases h2; exact ⟨⟨h3, h4⟩, h5⟩
      · rintro ⟨⟨h3, h4⟩, h5⟩; exact ⟨_, _, s, ⟨rfl, rfl⟩, hs, h3, h4, h5⟩
theorem indexAddrK_ip {t : TypeId} {cells : List AV} {off : Nat} {kk : IntKind} {m : Int} : indexAddrK P t (.ip cells off) (.int kk m) K = arK P t m fun d => K (.ip cells (off + d)) := by
  rw [← arK_ex]; rfl
theorem indexAddrK_op {t : TypeId} {id k e off : Nat} {kk : IntKind} {m : Int} : indexAddrK P t (.op id k e off) (.int kk m) K = arK P t m fun d => K (.op id k e (off + d)) := by
  rw [← arK_ex]; rfl
@[congr] theorem indexK_cg {t : TypeId} {x x' i i' : AV} (e1 : mk x = x') (e2 : mk i = i') : indexK P t x i K = indexK P t x' i' K := by rw [← e1, ← e2]; rfl
theorem indexK_agg {t : TypeId} {cs : List AV} {kk : IntKind} {m : Int} : indexK P t (.agg cs) (.int kk m) K = optK (tarr P t) fun x => optK (tsize P x.2) fun s => (0 ≤ m ∧ m < x.1) ∧ ldX (tagg P x.2) (tsize P x.2) cs (m.toNat * s) K := by
  simp only [indexK, partK_eq, ← optK_eq]
  apply propext
  constructor
  · rintro ⟨m', e, s, h1, h2, h3, h4, h5⟩; exact ⟨(m', e), h1, s, h2, ⟨h3, h4⟩, h5⟩
  · rintro ⟨⟨m', e⟩, h1, s, h2, ⟨h3, h4⟩, h5⟩; exact ⟨m', e, s, h1, h2, h3, h4, h5⟩
theorem indexK_str {t : TypeId} {s : ByteArray} {kk : IntKind} {m : Int} : indexK P t (.str s) (.int kk m) K = (tstring P t = true ∧ 0 ≤ m ∧ m < s.size ∧ K (.int .u8 (bt s m.toNat))) := (rfl)

@[congr] theorem binAll_cg {op : BinOp} {t : TypeId} {x x' i i' : AV} (e1 : mk x = x') (e2 : mk i = i') : binAll P op t x i K = binAll P op t x' i' K := by rw [← e1, ← e2]; rfl
section
variable {t : TypeId} {k : IntKind} {x y : Int}
theorem bin_add : binAll P .add t (.int k x) (.int k y) K = fitK k (x + y) K := by simp [binAll, iK]
theorem bin_sub : binAll P .sub t (.int k x) (.int k y) K = fitK k (x - y) K := by simp [binAll, iK]
theorem bin_mul : binAll P .mul t (.int k x) (.int k y) K = fitK k (x * y) K := by simp [binAll, iK]
theorem bin_quo : binAll P .quo t (.int k x) (.int k y) K = (y ≠ 0 ∧ K (.int k (k.wrap (x.tdiv y)))) := by simp [binAll, iK]
theorem bin_rem : binAll P .rem t (.int k x) (.int k y) K = (y ≠ 0 ∧ K (.int k (x.tmod y))) := by simp [binAll, iK]
theorem bin_eql : binAll P .eql t (.int k x) (.int k y) K = K (.bool (x == y)) := by simp [binAll, iK]
theorem bin_neq : binAll P .neq t (.int k x) (.int k y) K = K (.bool (x != y)) := by simp [binAll, iK]
theorem bin_lss : binAll P .lss t (.int k x) (.int k y) K = K (.bool (decide (x < y))) := by simp [binAll, iK]
theorem bin_leq : binAll P .leq t (.int k x) (.int k y) K = K (.bool (decide (x ≤ y))) := by simp [binAll, iK]
theorem bin_gtr : binAll P .gtr t (.int k x) (.int k y) K = K (.bool (decide (y < x))) := by simp [binAll, iK]
theorem bin_geq : binAll P .geq t (.int k x) (.int k y) K = K (.bool (decide (y ≤ x))) := by simp [binAll, iK]
theorem bin_shl {k' : IntKind} : binAll P .shl t (.int k x) (.int k' y) K = (0 ≤ y ∧ K (.int k (k.wrap (x * 2 ^ (min y.toNat k.bits))))) := by simp [binAll, iK]
theorem bin_shr {k' : IntKind} : binAll P .shr t (.int k x) (.int k' y) K = (0 ≤ y ∧ K (.int k (x.fdiv (2 ^ (min y.toNat k.bits))))) := by simp [binAll, iK]
theorem bin_beql {b c : Bool} : binAll P .eql t (.bool b) (.bool c) K = (tbool P t = true ∧ K (.bool (b == c))) := (rfl)
theorem bin_bneq {b c : Bool} : binAll P .neq t (.bool b) (.bool c) K = (tbool P t = true ∧ K (.bool (b != c))) := (rfl)
theorem bin_nils {op : BinOp} {u : AV} : binAll P op t u .nils K = ((telem P t).isSome = true ∧ (match u with | .isl _ es => (es = [] → eqK op true K) ∧ eqK op false K | .nils => eqK op true K | .osl .. => eqK op false K | _ => False)) := (rfl)
end
theorem eqK_eql {b : Bool} : eqK .eql b K = K (.bool b) := (rfl)
theorem eqK_neq {b : Bool} : eqK .neq b K = K (.bool (!b)) := (rfl)
@[congr] theorem unK_cg {op : UnOp} {x x' : AV} (e1 : mk x = x') : unK op x K = unK op x' K := by rw [← e1]; rfl
theorem unK_not {b : Bool} : unK .not (.bool b) K = K (.bool (!b)) := (rfl)
theorem unK_neg {k : IntKind} {z : Int} : unK .neg (.int k z) K = fitK k (0 - z) K := (rfl)
@[congr] theorem convK_cg {s d : TypeId} {x x' : AV} (e1 : mk x = x') : convK P s d x K = convK P s d x' K := by rw [← e1]; rfl
theorem convK_int {s d : TypeId} {k : IntKind} {z : Int} : convK P s d (.int k z) K = ((tint P s).isSome = true ∧ optK (tint P d) fun k => fitK k z K) := by
  simp only [convK, optK_eq, Option.isSome_iff_exists]
theorem convK_str {s d : TypeId} {b : ByteArray} : convK P s d (.str b) K = (tstring P s = true ∧ tstring P d = true ∧ K (.str b)) := (rfl)
@[congr] theorem extK_cg {i : Nat} {x x' : AV} (e1 : mk x = x') : extK x i K = extK x' i K := by rw [← e1]; rfl
theorem extK_tup {i : Nat} {vs : List AV} : extK (.tup vs) i K = optK vs[i]? K := optK_eq
@[congr] theorem lenK_cg {t : TypeId} {x x' : AV} (e1 : mk x = x') : lenK P t x K = lenK P t x' K := by rw [← e1]; rfl
theorem lenK_isl {t : TypeId} {k : Nat} {es : List (List AV)} : lenK P t (.isl k es) K = ((telem P t).isSome = true ∧ K (.int .i64 es.length)) := (rfl)
theorem lenK_osl {t : TypeId} {id k i len cap : Nat} {ex : Bool} : lenK P t (.osl id k i len cap ex) K = ((telem P t).isSome = true ∧ K (.int .i64 len)) := (rfl)
theorem lenK_nils {t : TypeId} : lenK P t .nils K = ((telem P t).isSome = true ∧ K (.int .i64 0)) := (rfl)
theorem lenK_str {t : TypeId} {s : ByteArray} : lenK P t (.str s) K = (tstring P t = true ∧ K (.int .i64 s.size)) := (rfl)
@[congr] theorem nilCheckK_cg {x x' : AV} (e1 : mk x = x') : nilCheckK x K = nilCheckK x' K := by rw [← e1]; rfl
theorem nilCheckK_ip {c : List AV} {o : Nat} : nilCheckK (.ip c o) K = K (.ip c o) := (rfl)
theorem nilCheckK_op {a b c d : Nat} : nilCheckK (.op a b c d) K = K (.op a b c d) := (rfl)
@[congr] theorem pickK_cg {c c' x y : AV} (e1 : mk c = c') : pickK c x y K = pickK c' x y K := by rw [← e1]; rfl
theorem pickK_eq {c x y : AV} : pickK c x y K = condK c (K x) (K y) := by cases c <;> rfl
@[congr] theorem sliceAll_cg {t : TypeId} {x x' : AV} {lo lo' hi hi' : Option AV} (e1 : mk x = x') (e2 : mk lo = lo') (e3 : mk hi = hi') : sliceAll P t x lo hi K = sliceAll P t x' lo' hi' K := by rw [← e1, ← e2, ← e3]; rfl
/-- A bound. -/
def bdK (d : Nat) (x : Option AV) (K : Nat → Prop) : Prop := match x with | none => K d | some (.int _ z) => 0 ≤ z ∧ K z.toNat | _ => False
theorem bdK_none {d : Nat} {K : Nat → Prop} : bdK d none K = K d := (rfl)
theorem bdK_some {d : Nat} {k : IntKind} {z : Int} {K : Nat → Prop} : bdK d (some (.int k z)) K = (0 ≤ z ∧ K z.toNat) := (rfl)
theorem loK_eq {x : Option AV} {K : Nat → Prop} : loK x K = bdK 0 x K := by cases x with | none => rfl | some u => cases u <;> rfl
theorem hiK_eq {d : Nat} {x : Option AV} {K : Nat → Prop} : hiK d x K = bdK d x K := by cases x with | none => rfl | some u => cases u <;> rfl
@[congr] theorem bdK_cg {d : Nat} {x x' : Option AV} {K : Nat → Prop} (e1 : mk x = x') : bdK d x K = bdK d x' K := by rw [← e1]; rfl
def slK (P : Program) (t : TypeId) (k : Nat) (es : List (List AV)) : Prop := optK (telem P t) fun e => optK (tsize P e) fun s => es ≠ [] → s = k
theorem slK_eq {t : TypeId} {k : Nat} {es : List (List AV)} : slK P t k es = optK (telem P t) fun e => optK (tsize P e) fun s => es ≠ [] → s = k := (rfl)
theorem sliceAll_isl {t : TypeId} {k : Nat} {es : List (List AV)} {lo hi : Option AV} : sliceAll P t (.isl k es) lo hi K = (slK P t k es ∧ bdK 0 lo fun l => bdK es.length hi fun m => (l ≤ m ∧ m ≤ es.length) ∧ K (.isl k ((es.drop l).take (m - l)))) := by
  simp only [sliceAll, sliceK, loK_eq, hiK_eq, ← and_assoc]
  congr 1
  · unfold slK
    cases telem P t with
    | none => simp [optK]
    | some e =>
      cases hs : tsize P e with
      | none => simp [optK, hs]
      | some s => simp [optK, hs]
theorem sliceAll_osl {t : TypeId} {id k i len cap : Nat} {ex : Bool} {lo hi : Option AV} : sliceAll P t (.osl id k i len cap ex) lo hi K = (elK P t k ∧ bdK 0 lo fun l => bdK len hi fun m => (l ≤ m ∧ m ≤ cap) ∧ if l < cap ∨ l = 0 then K (.osl id k (i + l) (m - l) (cap - l) ex) else ex = true ∧ K (.osl id k i 0 0 ex)) := by
  simp only [sliceAll, sliceK, loK_eq, hiK_eq, elK_ex, and_assoc]
  apply propext
  constructor
  · exact fun h => h.2
  · intro h
    refine ⟨?_, h⟩
    have := h.1
    rw [← elK_ex] at this
    obtain ⟨e, h1, h2⟩ := this
    exact ⟨e, k, h1, h2⟩
theorem sliceAll_nils {t : TypeId} {lo hi : Option AV} : sliceAll P t .nils lo hi K = (slK P t 0 [] ∧ bdK 0 lo fun l => bdK 0 hi fun m => (l = 0 ∧ m = 0) ∧ K .nils) := by
  simp only [sliceAll, sliceK, loK_eq, hiK_eq, and_assoc]
  apply propext
  constructor
  · rintro ⟨⟨e, s, h1, h2⟩, _, h3⟩; exact ⟨by simp [slK, h1, h2, optK], h3⟩
  · rintro ⟨h1, h2⟩
    unfold slK at h1
    cases he : telem P t with
    | none => simp [he, optK] at h1
    | some e =>
      cases hs : tsize P e with
      | none => simp [he, hs, optK] at h1
      | some s => exact ⟨⟨e, s, rfl, hs⟩, ⟨e, rfl⟩, h2⟩
end
end
end Go.AL
