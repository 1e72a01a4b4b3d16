/- Texts of one claim bound together: ALi, ALj, ALk, ALkb, ALka, ALl, ALm, ALn, ALo, ALp. -/
import Derived.Test.YtgdlkhgfehclpaaGreatQW1
import Derived.Deep.LoopGhost

section
/- The small logic's one step, on: it looks at its operands alone; operations that look at no heap. No condition. -/
namespace Go.AL
set_option linter.unusedVariables false
set_option linter.unusedSimpArgs false
set_option linter.unnecessarySimpa false

section
variable {P : Program} {a a' : Fr} {h : Heap}

/-! ### operands -/
def tmpsOf (op : Op) : List Tmp := op.operands.toList.filterMap fun | .tmp t => some t | _ => none

theorem evK_imp {x : Operand} {K K' : AV → Prop} (h : ∀ t, x = .tmp t → a t = a' t) (hK : ∀ u, K u → K' u) (hk : evK a x K) : evK a' x K' := by
  cases x with
  | tmp t => show K' (a' t); rw [← h t rfl]; exact hK _ hk
  | const v =>
    simp only [evK] at hk ⊢
    cases hv : ofV v with
    | none => simp [hv] at hk
    | some u => rw [hv] at hk; exact hK _ hk
  | func f => exact hK _ hk
  | global g => exact hk.elim
theorem evoK_imp {x : Option Operand} {K K' : Option AV → Prop} (h : ∀ t, x = some (.tmp t) → a t = a' t) (hK : ∀ u, K u → K' u) (hk : evoK a x K) : evoK a' x K' := by
  cases x with
  | none => exact hK _ hk
  | some x => exact evK_imp (K := fun u => K (some u)) (K' := fun u => K' (some u)) (fun t ht => h t (by rw [ht])) (fun u hu => hK _ hu) hk
theorem evsK_imp : ∀ {xs : List Operand} {K K' : List AV → Prop}, (∀ t, Operand.tmp t ∈ xs → a t = a' t) → (∀ u, K u → K' u) → evsK a xs K → evsK a' xs K'
  | [], K, K', h, hK, hk => hK _ hk
  | x :: r, K, K', h, hK, hk => evK_imp (fun t ht => h t (by rw [ht]; simp)) (fun u hu => evsK_imp (fun t ht => h t (by simp [ht])) (fun us hus => hK _ hus) hu) hk
theorem evpK_imp : ∀ {xs : List (Nat × Operand)} {K K' : List (Nat × AV) → Prop}, (∀ t, Operand.tmp t ∈ xs.map (·.2) → a t = a' t) → (∀ u, K u → K' u) → evpK a xs K → evpK a' xs K'
  | [], K, K', h, hK, hk => hK _ hk
  | (i, x) :: r, K, K', h, hK, hk => evK_imp (fun t ht => h t (by rw [ht]; simp)) (fun u hu => evpK_imp (fun t ht => h t (List.mem_cons_of_mem _ ht)) (fun us hus => hK _ hus) hu) hk

theorem mem_tmpsOf {op : Op} {t : Tmp} : t ∈ tmpsOf op ↔ Operand.tmp t ∈ op.operands.toList := by
  unfold tmpsOf
  simp only [List.mem_filterMap]
  constructor
  · rintro ⟨x, hx, he⟩
    cases x <;> simp at he
    subst he
    exact hx
  · intro hx
    exact ⟨_, hx, rfl⟩

theorem aop_congr {op : Op} {K : AV → Heap → Prop} (ha : ∀ t, t ∈ tmpsOf op → a t = a' t) (hk : aop P op a h K) : aop P op a' h K := by
  have hm : ∀ t, Operand.tmp t ∈ op.operands.toList → a t = a' t := fun t ht => ha t (mem_tmpsOf.2 ht)
  cases op with
  | move x => simp only [aop] at hk ⊢; exact evK_imp (fun t ht => hm t (by simp [Op.operands, ht])) (fun _ h => h) hk
  | assign x => simp only [aop] at hk ⊢; exact evK_imp (fun t ht => hm t (by simp [Op.operands, ht])) (fun _ h => h) hk
  | pick c x y => simp only [aop] at hk ⊢; exact evK_imp (fun t ht => hm t (by simp [Op.operands, ht])) (fun _ => evK_imp (fun t ht => hm t (by simp [Op.operands, ht])) fun _ => evK_imp (fun t ht => hm t (by simp [Op.operands, ht])) fun _ h => h) hk
  | alloc t => exact hk
  | box t x => simp only [aop] at hk ⊢; exact evK_imp (fun t ht => hm t (by simp [Op.operands, ht])) (fun _ h => h) hk
  | build t parts => simp only [aop] at hk ⊢; exact evpK_imp (fun t ht => hm t (by simpa [Op.operands] using ht)) (fun _ h => h) hk
  | buildSlice t len parts => simp only [aop] at hk ⊢; exact evpK_imp (fun t ht => hm t (by simpa [Op.operands] using ht)) (fun _ h => h) hk
  | load t x => simp only [aop] at hk ⊢; exact evK_imp (fun t ht => hm t (by simp [Op.operands, ht])) (fun _ h => h) hk
  | store t p x => simp only [aop] at hk ⊢; exact evK_imp (fun t ht => hm t (by simp [Op.operands, ht])) (fun _ => evK_imp (fun t ht => hm t (by simp [Op.operands, ht])) fun _ h => h) hk
  | nilCheck x => simp only [aop] at hk ⊢; exact evK_imp (fun t ht => hm t (by simp [Op.operands, ht])) (fun _ h => h) hk
  | binOp op t x y t' => simp only [aop] at hk ⊢; exact evK_imp (fun t ht => hm t (by simp [Op.operands, ht])) (fun _ => evK_imp (fun t ht => hm t (by simp [Op.operands, ht])) fun _ h => h) hk
  | unOp op t x => simp only [aop] at hk ⊢; exact evK_imp (fun t ht => hm t (by simp [Op.operands, ht])) (fun _ h => h) hk
  | convert s d x => simp only [aop] at hk ⊢; exact evK_imp (fun t ht => hm t (by simp [Op.operands, ht])) (fun _ h => h) hk
  | makeFunc f fs cs => simp only [aop] at hk ⊢; exact evsK_imp (fun t ht => hm t (by simp only [Op.operands, Array.toList_append, List.mem_append]; exact .inl ht)) (fun _ => evsK_imp (fun t ht => hm t (by simp only [Op.operands, Array.toList_append, List.mem_append]; exact .inr ht)) fun _ h => h) hk
  | makeInterface t x => simp only [aop] at hk ⊢; exact ⟨hk.1, evK_imp (fun t ht => hm t (by simp [Op.operands, ht])) (fun _ h => h) hk.2⟩
  | makeSlice t l c => simp only [aop] at hk ⊢; exact evK_imp (fun t ht => hm t (by simp [Op.operands, ht])) (fun _ => evK_imp (fun t ht => hm t (by simp [Op.operands, ht])) fun _ h => h) hk
  | slice t x lo hi mx =>
    cases mx with
    | none => simp only [aop] at hk ⊢; exact evK_imp (fun t ht => hm t (by simp [Op.operands, ht])) (fun _ => evoK_imp (fun t ht => hm t (by simp [Op.operands, ht])) fun _ => evoK_imp (fun t ht => hm t (by simp [Op.operands, ht])) fun _ h => h) hk
    | some m => exact hk.elim
  | fieldAddr s x f => simp only [aop] at hk ⊢; exact evK_imp (fun t ht => hm t (by simp [Op.operands, ht])) (fun _ h => h) hk
  | field t x f => simp only [aop] at hk ⊢; exact evK_imp (fun t ht => hm t (by simp [Op.operands, ht])) (fun _ h => h) hk
  | indexAddr t x i => simp only [aop] at hk ⊢; exact evK_imp (fun t ht => hm t (by simp [Op.operands, ht])) (fun _ => evK_imp (fun t ht => hm t (by simp [Op.operands, ht])) fun _ h => h) hk
  | index t x i => simp only [aop] at hk ⊢; exact evK_imp (fun t ht => hm t (by simp [Op.operands, ht])) (fun _ => evK_imp (fun t ht => hm t (by simp [Op.operands, ht])) fun _ h => h) hk
  | extract x i => simp only [aop] at hk ⊢; exact evK_imp (fun t ht => hm t (by simp [Op.operands, ht])) (fun _ h => h) hk
  | call c =>
    obtain ⟨callee, args, ts⟩ := c
    cases callee with
    | value f => simp only [aop] at hk ⊢; exact evK_imp (fun t ht => hm t (by simp [Op.operands, Call.operands, ht])) (fun _ => evsK_imp (fun t ht => hm t (by simp [Op.operands, Call.operands]; exact .inr (by simpa using ht))) fun _ h => h) hk
    | builtin b =>
      have hb : ∀ t, Operand.tmp t ∈ args.toList → a t = a' t := fun t ht => hm t (by simpa [Op.operands, Call.operands] using ht)
      have h1 : ∀ (F : AV → TypeId → Prop), (match args.toList, ts.toList with | [x], [t] => evK a x fun u => F u t | _, _ => False) → (match args.toList, ts.toList with | [x], [t] => evK a' x fun u => F u t | _, _ => False) := by
        intro F hF
        split at hF
        · rename_i x t e1 e2
          exact evK_imp (fun t ht => hb t (by rw [e1, ht]; simp)) (fun _ h => h) hF
        · exact hF.elim
      cases b with
      | len => simp only [aop, builtinK] at hk ⊢; exact h1 (fun u t => lenK P t u fun u => K u h) hk
      | cap => simp only [aop, builtinK] at hk ⊢; exact h1 (fun u t => capK P t u fun u => K u h) hk
      | min => simp only [aop, builtinK] at hk ⊢; exact evsK_imp hb (fun _ h => h) hk
      | max => simp only [aop, builtinK] at hk ⊢; exact evsK_imp hb (fun _ h => h) hk
      | clear => simp only [aop, builtinK] at hk ⊢; exact h1 (fun u t => clearK P t h u fun h' => K .undef h') hk
      | append =>
        simp only [aop, builtinK] at hk ⊢
        split at hk
        · rename_i s x t t' e1 e2
          exact evK_imp (fun t ht => hb t (by rw [e1, ht]; simp)) (fun _ => evK_imp (fun t ht => hb t (by rw [e1, ht]; simp)) fun _ h => h) hk
        · exact hk.elim
      | _ => exact hk.elim
    | invoke r m => exact hk.elim
  | _ => exact hk.elim

/-! ### operations that look at no heap -/
def quietB : Builtin → Bool | .len | .cap | .min | .max => true | _ => false
/-- They look at no heap, and turn none. -/
def quietOp : Op → Bool
  | .move _ | .assign _ | .pick .. | .build .. | .nilCheck _ | .binOp .. | .unOp .. | .convert .. | .makeFunc .. | .makeInterface .. | .slice .. | .fieldAddr .. | .field .. | .indexAddr .. | .index .. | .extract .. => true
  | .call { callee := .builtin b, .. } => quietB b
  | _ => false
def loadOp : Op → Bool
  | .load .. => true
  | _ => false

theorem eqK_imp {op : BinOp} {b : Bool} {K K' : AV → Prop} (hK : ∀ u, K u → K' u) (hk : eqK op b K) : eqK op b K' := by
  cases op <;> first | exact hk.elim | exact hK _ hk
theorem strK_imp {op : BinOp} {x y : ByteArray} {K K' : AV → Prop} (hK : ∀ u, K u → K' u) (hk : strK op x y K) : strK op x y K' := by
  cases op <;> first | exact hk.elim | exact hK _ hk
theorem iK_imp {op : BinOp} {k k' : IntKind} {x y : Int} {K K' : AV → Prop} (hK : ∀ u, K u → K' u) (hk : iK op k x k' y K) : iK op k x k' y K' := by
  cases op <;> first | exact ⟨hk.1, hK _ hk.2⟩ | exact ⟨hk.1, hk.2.1, hK _ hk.2.2⟩ | exact ⟨hk.1, fitK_mono hK hk.2⟩
theorem binAll_imp {op : BinOp} {t : TypeId} {u v : AV} {K K' : AV → Prop} (hK : ∀ u, K u → K' u) (hk : binAll P op t u v K) : binAll P op t u v K' := by
  cases v with
  | int k m => cases u with | int _ _ => exact iK_imp hK hk | _ => exact hk.elim
  | bool b => cases u with | bool _ => exact ⟨hk.1, eqK_imp hK hk.2⟩ | _ => exact hk.elim
  | str s => cases u with | str _ => exact strK_imp hK hk | _ => exact hk.elim
  | nils => cases u with
    | isl _ _ => exact ⟨hk.1, fun e => eqK_imp hK (hk.2.1 e), eqK_imp hK hk.2.2⟩
    | nils => exact ⟨hk.1, eqK_imp hK hk.2⟩
    | osl _ _ _ _ _ _ => exact ⟨hk.1, eqK_imp hK hk.2⟩
    | _ => exact hk.2.elim
  | nilp => cases u with
    | nilp => exact ⟨hk.1, eqK_imp hK hk.2⟩
    | ip _ _ => exact ⟨hk.1, eqK_imp hK hk.2⟩
    | op _ _ _ _ => exact ⟨hk.1, eqK_imp hK hk.2⟩
    | _ => exact hk.2.elim
  | nilf => cases u with
    | nilf => exact ⟨hk.1, eqK_imp hK hk.2⟩
    | fn _ _ _ => exact ⟨hk.1, eqK_imp hK hk.2⟩
    | _ => exact hk.2.elim
  | nilm => cases u with
    | nilm => exact ⟨hk.1, eqK_imp hK hk.2⟩
    | om _ => exact ⟨hk.1, eqK_imp hK hk.2⟩
    | _ => exact hk.2.elim
  | _ => exact hk.elim
theorem pickK_imp {c x y : AV} {K K' : AV → Prop} (hK : ∀ u, K u → K' u) (hk : pickK c x y K) : pickK c x y K' := by
  cases c with | bool b => exact ⟨fun e => hK _ (hk.1 e), fun e => hK _ (hk.2 e)⟩ | _ => exact hk.elim
theorem unK_imp {op : UnOp} {x : AV} {K K' : AV → Prop} (hK : ∀ u, K u → K' u) (hk : unK op x K) : unK op x K' := by
  cases x with
  | bool b => cases op <;> first | exact hK _ hk | exact hk.elim
  | int k n => cases op <;> first | exact hK _ hk | exact hk.elim | exact fitK_mono hK hk
  | _ => exact hk.elim
theorem convK_imp {s d : TypeId} {x : AV} {K K' : AV → Prop} (hK : ∀ u, K u → K' u) (hk : convK P s d x K) : convK P s d x K' := by
  cases x with
  | int k n => obtain ⟨h1, k, h2, h3⟩ := hk; exact ⟨h1, k, h2, fitK_mono hK h3⟩
  | str s => exact ⟨hk.1, hk.2.1, hK _ hk.2.2⟩
  | _ => exact hk.elim
theorem nilCheckK_imp {x : AV} {K K' : AV → Prop} (hK : ∀ u, K u → K' u) (hk : nilCheckK x K) : nilCheckK x K' := by
  cases x <;> first | exact hK _ hk | exact hk.elim
theorem loK_imp {x : Option AV} {K K' : Nat → Prop} (hK : ∀ u, K u → K' u) (hk : loK x K) : loK x K' := by
  cases x with
  | none => exact hK _ hk
  | some u => cases u <;> first | exact ⟨hk.1, hK _ hk.2⟩ | exact hk.elim
theorem hiK_imp {n : Nat} {x : Option AV} {K K' : Nat → Prop} (hK : ∀ u, K u → K' u) (hk : hiK n x K) : hiK n x K' := by
  cases x with
  | none => exact hK _ hk
  | some u => cases u <;> first | exact ⟨hk.1, hK _ hk.2⟩ | exact hk.elim
theorem sliceK_imp {t : TypeId} {x : AV} {lo hi : Option AV} {K K' : AV → Prop} (hK : ∀ u, K u → K' u) (hk : sliceK P t x lo hi K) : sliceK P t x lo hi K' := by
  cases x with
  | isl k es => exact ⟨hk.1, loK_imp (fun l => hiK_imp fun m h => ⟨h.1, h.2.1, hK _ h.2.2⟩) hk.2⟩
  | osl id k i len cap ex =>
    refine ⟨hk.1, loK_imp (fun l => hiK_imp fun m h => ⟨h.1, h.2.1, ?_⟩) hk.2⟩
    have := h.2.2
    split at this
    · rename_i c; rw [if_pos c]; exact hK _ this
    · rename_i c; rw [if_neg c]; exact ⟨this.1, hK _ this.2⟩
  | nils => exact ⟨hk.1, loK_imp (fun l => hiK_imp fun m h => ⟨h.1, h.2.1, hK _ h.2.2⟩) hk.2⟩
  | str s => exact ⟨hk.1, loK_imp (fun l => hiK_imp fun m h => ⟨h.1, h.2.1, hK _ h.2.2⟩) hk.2⟩
  | _ => exact hk.elim
theorem sliceAll_imp {t : TypeId} {x : AV} {lo hi : Option AV} {K K' : AV → Prop} (hK : ∀ u, K u → K' u) (hk : sliceAll P t x lo hi K) : sliceAll P t x lo hi K' := by
  cases x with
  | str s => exact sliceK_imp (x := .str s) hK hk
  | _ => exact ⟨hk.1, sliceK_imp hK hk.2⟩
theorem fieldAddrK_imp {s f : Nat} {p : AV} {K K' : AV → Prop} (hK : ∀ u, K u → K' u) (hk : fieldAddrK P s f p K) : fieldAddrK P s f p K' := by
  obtain ⟨o, ft, h1, h2⟩ := hk
  refine ⟨o, ft, h1, ?_⟩
  cases p <;> first | exact hK _ h2 | exact h2.elim
theorem partK_imp {t : TypeId} {cs : List AV} {off : Nat} {K K' : AV → Prop} (hK : ∀ u, K u → K' u) (hk : partK P t cs off K) : partK P t cs off K' := by
  unfold partK at hk ⊢
  split at hk
  · obtain ⟨n, h1, h2, h3⟩ := hk; exact ⟨n, h1, h2, hK _ h3⟩
  · obtain ⟨v, h1, h2⟩ := hk; exact ⟨v, h1, hK _ h2⟩
  · exact hk.elim
theorem fieldK_imp {t f : Nat} {x : AV} {K K' : AV → Prop} (hK : ∀ u, K u → K' u) (hk : fieldK P t f x K) : fieldK P t f x K' := by
  obtain ⟨o, ft, h1, h2⟩ := hk
  refine ⟨o, ft, h1, ?_⟩
  cases x <;> first | exact partK_imp hK h2 | exact h2.elim
theorem indexAddrK_imp {t : TypeId} {x i : AV} {K K' : AV → Prop} (hK : ∀ u, K u → K' u) (hk : indexAddrK P t x i K) : indexAddrK P t x i K' := by
  cases i with
  | int k n =>
    cases x with
    | isl k es => obtain ⟨h1, h2, h3, c, h4, h5⟩ := hk; exact ⟨h1, h2, h3, c, h4, hK _ h5⟩
    | osl _ _ _ _ _ _ => obtain ⟨h1, h2, h3, h4⟩ := hk; exact ⟨h1, h2, h3, hK _ h4⟩
    | ip _ _ => obtain ⟨m, e, s, h1, h2, h3, h4, h5⟩ := hk; exact ⟨m, e, s, h1, h2, h3, h4, hK _ h5⟩
    | op _ _ _ _ => obtain ⟨m, e, s, h1, h2, h3, h4, h5⟩ := hk; exact ⟨m, e, s, h1, h2, h3, h4, hK _ h5⟩
    | _ => exact hk.elim
  | _ => exact hk.elim
theorem indexK_imp {t : TypeId} {x i : AV} {K K' : AV → Prop} (hK : ∀ u, K u → K' u) (hk : indexK P t x i K) : indexK P t x i K' := by
  cases i with
  | int k n =>
    cases x with
    | agg cs => obtain ⟨m, e, s, h1, h2, h3, h4, h5⟩ := hk; exact ⟨m, e, s, h1, h2, h3, h4, partK_imp hK h5⟩
    | str s => obtain ⟨h1, h2, h3, h4⟩ := hk; exact ⟨h1, h2, h3, hK _ h4⟩
    | _ => exact hk.elim
  | _ => exact hk.elim
theorem extK_imp {x : AV} {i : Nat} {K K' : AV → Prop} (hK : ∀ u, K u → K' u) (hk : extK x i K) : extK x i K' := by
  cases x with | tup vs => obtain ⟨v, h1, h2⟩ := hk; exact ⟨v, h1, hK _ h2⟩ | _ => exact hk.elim
theorem lenK_imp {t : TypeId} {x : AV} {K K' : AV → Prop} (hK : ∀ u, K u → K' u) (hk : lenK P t x K) : lenK P t x K' := by
  cases x <;> first | exact ⟨hk.1, hK _ hk.2⟩ | exact hk.elim
theorem capK_imp {t : TypeId} {x : AV} {K K' : AV → Prop} (hK : ∀ u, K u → K' u) (hk : capK P t x K) : capK P t x K' := by
  cases x <;> first | exact ⟨hk.1, hk.2.1, hK _ hk.2.2⟩ | exact ⟨hk.1, hK _ hk.2⟩ | exact hk.elim
theorem mins_imp {g : Int → Int → Int} {k : IntKind} : ∀ {us : List AV} {x : Int} {K K' : Int → Prop}, (∀ u, K u → K' u) → mins g x us K k → mins g x us K' k
  | [], x, K, K', hK, hk => hK _ hk
  | u :: us, x, K, K', hK, hk => by cases u <;> first | exact ⟨hk.1, mins_imp hK hk.2⟩ | exact hk.elim
theorem minK_imp {g : Int → Int → Int} {us : List AV} {K K' : AV → Prop} (hK : ∀ u, K u → K' u) (hk : minK g us K) : minK g us K' := by
  cases us with
  | nil => exact hk.elim
  | cons u us => cases u <;> first | exact mins_imp (fun x h => hK _ h) hk | exact hk.elim
theorem cellsK_imp {u : AV} {K K' : List AV → Prop} (hK : ∀ c, K c → K' c) (hk : cellsK u K) : cellsK u K' := by
  cases u <;> first | exact hK _ hk | exact hk.elim
theorem fillK_imp {place : Nat → Option (Nat × Nat)} : ∀ {us : List (Nat × AV)} {cs : List AV} {K K' : List AV → Prop}, (∀ c, K c → K' c) → fillK place us cs K → fillK place us cs K'
  | [], cs, K, K', hK, hk => hK _ hk
  | (i, u) :: r, cs, K, K', hK, hk => cellsK_imp (fun us ⟨off, h1, h2, h3⟩ => ⟨off, h1, h2, fillK_imp hK h3⟩) hk
theorem fillRK_imp {k : Nat} : ∀ {us : List (Nat × AV)} {es : List (List AV)} {K K' : List (List AV) → Prop}, (∀ c, K c → K' c) → fillRK k us es K → fillRK k us es K'
  | [], es, K, K', hK, hk => hK _ hk
  | (i, u) :: r, es, K, K', hK, hk => cellsK_imp (fun us ⟨h1, h2, h3⟩ => ⟨h1, h2, fillRK_imp hK h3⟩) hk
theorem ldK_imp {t : TypeId} {cells : List AV} {off : Nat} {K K' : AV → Prop} (hK : ∀ u, K u → K' u) (hk : ldK P t cells off K) : ldK P t cells off K' := by
  unfold ldK at hk ⊢
  split at hk
  · obtain ⟨n, h1, h2, h3⟩ := hk; exact ⟨n, h1, h2, hK _ h3⟩
  · obtain ⟨v, h1, h2⟩ := hk; exact ⟨v, h1, hK _ h2⟩
  · exact hk.elim
theorem loadK_imp {t : TypeId} {p : AV} {K K' : AV → Prop} (hK : ∀ u, K u → K' u) (hk : loadK P t h p K) : loadK P t h p K' := by
  cases p with
  | ip c o => exact ldK_imp hK hk
  | op id k e o => obtain ⟨es, ex, h1, c, h2, h3⟩ := hk; exact ⟨es, ex, h1, c, h2, ldK_imp hK h3⟩
  | _ => exact hk.elim
theorem evK_imp' {x : Operand} {K K' : AV → Prop} (hK : ∀ u, K u → K' u) (hk : evK a x K) : evK a x K' := evK_imp (fun _ _ => rfl) hK hk
theorem evoK_imp' {x : Option Operand} {K K' : Option AV → Prop} (hK : ∀ u, K u → K' u) (hk : evoK a x K) : evoK a x K' := evoK_imp (fun _ _ => rfl) hK hk
theorem evsK_imp' {xs : List Operand} {K K' : List AV → Prop} (hK : ∀ u, K u → K' u) (hk : evsK a xs K) : evsK a xs K' := evsK_imp (fun _ _ => rfl) hK hk
theorem evpK_imp' {xs : List (Nat × Operand)} {K K' : List (Nat × AV) → Prop} (hK : ∀ u, K u → K' u) (hk : evpK a xs K) : evpK a xs K' := evpK_imp (fun _ _ => rfl) hK hk

/-- A quiet operation does at any heap what it does at one. -/
theorem aop_quiet {op : Op} {K K' : AV → Heap → Prop} {h' : Heap} (hq : quietOp op = true) (hK : ∀ u, K u h → K' u h') (hk : aop P op a h K) : aop P op a h' K' := by
  cases op with
  | move x => simp only [aop] at hk ⊢; exact evK_imp' (fun _ h => hK _ h) hk
  | assign x => simp only [aop] at hk ⊢; exact evK_imp' (fun _ h => hK _ h) hk
  | pick c x y => simp only [aop] at hk ⊢; exact evK_imp' (fun _ => evK_imp' fun _ => evK_imp' fun _ => pickK_imp fun _ h => hK _ h) hk
  | build t parts => simp only [aop] at hk ⊢; exact evpK_imp' (fun us ⟨z, pl, h1, h2, h3⟩ => ⟨z, pl, h1, h2, fillK_imp (fun _ h => hK _ h) h3⟩) hk
  | nilCheck x => simp only [aop] at hk ⊢; exact evK_imp' (fun _ => nilCheckK_imp fun _ h => hK _ h) hk
  | binOp op t x y t' => simp only [aop] at hk ⊢; exact evK_imp' (fun _ => evK_imp' fun _ => binAll_imp fun _ h => hK _ h) hk
  | unOp op t x => simp only [aop] at hk ⊢; exact evK_imp' (fun _ => unK_imp fun _ h => hK _ h) hk
  | convert s d x => simp only [aop] at hk ⊢; exact evK_imp' (fun _ => convK_imp fun _ h => hK _ h) hk
  | makeFunc f fs cs => simp only [aop] at hk ⊢; exact evsK_imp' (fun _ => evsK_imp' fun _ h => hK _ h) hk
  | makeInterface t x => simp only [aop] at hk ⊢; exact ⟨hk.1, evK_imp' (fun _ h => hK _ h) hk.2⟩
  | slice t x lo hi mx =>
    cases mx with
    | none => simp only [aop] at hk ⊢; exact evK_imp' (fun _ => evoK_imp' fun _ => evoK_imp' fun _ => sliceAll_imp fun _ h => hK _ h) hk
    | some m => exact hk.elim
  | fieldAddr s x f => simp only [aop] at hk ⊢; exact evK_imp' (fun _ => fieldAddrK_imp fun _ h => hK _ h) hk
  | field t x f => simp only [aop] at hk ⊢; exact evK_imp' (fun _ => fieldK_imp fun _ h => hK _ h) hk
  | indexAddr t x i => simp only [aop] at hk ⊢; exact evK_imp' (fun _ => evK_imp' fun _ => indexAddrK_imp fun _ h => hK _ h) hk
  | index t x i => simp only [aop] at hk ⊢; exact evK_imp' (fun _ => evK_imp' fun _ => indexK_imp fun _ h => hK _ h) hk
  | extract x i => simp only [aop] at hk ⊢; exact evK_imp' (fun _ => extK_imp fun _ h => hK _ h) hk
  | call c =>
    obtain ⟨callee, args, ts⟩ := c
    cases callee with
    | builtin b =>
      have h1 : ∀ (F F' : AV → TypeId → Prop), (∀ u t, F u t → F' u t) → (match args.toList, ts.toList with | [x], [t] => evK a x fun u => F u t | _, _ => False) → (match args.toList, ts.toList with | [x], [t] => evK a x fun u => F' u t | _, _ => False) := by
        intro F F' hFF hF
        split at hF
        · exact evK_imp' (fun _ h => hFF _ _ h) hF
        · exact hF.elim
      cases b with
      | len => simp only [aop, builtinK] at hk ⊢; exact h1 (fun u t => lenK P t u fun u => K u h) (fun u t => lenK P t u fun u => K' u h') (fun u t => lenK_imp fun _ h => hK _ h) hk
      | cap => simp only [aop, builtinK] at hk ⊢; exact h1 (fun u t => capK P t u fun u => K u h) (fun u t => capK P t u fun u => K' u h') (fun u t => capK_imp fun _ h => hK _ h) hk
      | min => simp only [aop, builtinK] at hk ⊢; exact evsK_imp' (fun _ => minK_imp fun _ h => hK _ h) hk
      | max => simp only [aop, builtinK] at hk ⊢; exact evsK_imp' (fun _ => minK_imp fun _ h => hK _ h) hk
      | _ => simp [quietOp, quietB] at hq
    | _ => simp [quietOp] at hq
  | _ => simp [quietOp] at hq

end
end Go.AL
end

section
/- Regions of the small logic: operations in the order of the text; and regions that draw their order: one order serves for all. No condition. -/
namespace Go.AL
set_option linter.unusedVariables false
set_option linter.unusedSimpArgs false
set_option linter.unnecessarySimpa false

def gslot (ops : List Oper) (j : Nat) : Option Tmp := (ops[j]?).bind (·.dst)
def guardK (ops : List Oper) (g : Option (Nat × Bool)) (a : Fr) (K : Bool → Prop) : Prop :=
  match g with
  | none => K true
  | some (j, want) => (match gslot ops j with
    | some t => (match a t with | .bool b => (b = want → K true) ∧ (b ≠ want → K false) | .tup [] => K false | _ => False)
    | none => False)
def gval (ops : List Oper) (g : Option (Nat × Bool)) (a : Fr) : Option Bool :=
  match g with
  | none => some true
  | some (j, want) => (match gslot ops j with
    | some t => (match a t with | .bool b => some (b == want) | .tup [] => some false | _ => none)
    | none => none)
theorem guardK_sound {ops : List Oper} {g : Option (Nat × Bool)} {a : Fr} {K : Bool → Prop} (hk : guardK ops g a K) : ∃ r, gval ops g a = some r ∧ K r := by
  cases g with
  | none => exact ⟨true, rfl, hk⟩
  | some x =>
    obtain ⟨j, want⟩ := x
    simp only [guardK, gval] at hk ⊢
    cases hs : gslot ops j with
    | none => simp [hs] at hk
    | some t =>
      simp only [hs] at hk ⊢
      cases ha : a t with
      | bool b =>
        simp only [ha] at hk ⊢
        by_cases e : b = want
        · exact ⟨true, by simp [e], hk.1 e⟩
        · exact ⟨false, by simp [e], hk.2 e⟩
      | tup l =>
        cases l with
        | nil => simp only [ha] at hk ⊢; exact ⟨false, rfl, hk⟩
        | cons _ _ => simp [ha] at hk
      | _ => simp [ha] at hk

def pt (dst : Option Tmp) (a : Fr) (v : AV) : Fr := match dst with | none => a | some d => upd a d v
def putK (n : Nat) (dst : Option Tmp) (a : Fr) (v : AV) (K : Fr → Prop) : Prop := match dst with | none => K a | some d => d < n ∧ K (upd a d v)
def inb (n : Nat) (dst : Option Tmp) : Prop := ∀ d, dst = some d → d < n
theorem putK_sound {n : Nat} {dst : Option Tmp} {a : Fr} {v : AV} {K : Fr → Prop} (hk : putK n dst a v K) : inb n dst ∧ K (pt dst a v) := by
  cases dst with
  | none => exact ⟨fun d h => (by cases h), hk⟩
  | some d => exact ⟨fun d' h => (by cases h; exact hk.1), hk.2⟩

theorem FRel.pt {I : Nat → Prop} {β : Nat → Nat} {N : Nat} {w : World} {n : Nat} {a : Fr} {c : Act} (hf : FRel I β N w n a c) {dst : Option Tmp} (hd : inb n dst) {u : AV} {v : Value} (hv : VRel I β N w u v) :
    FRel I β N w n (AL.pt dst a u) (c.put dst v) := by
  cases dst with
  | none => exact hf
  | some d => exact hf.put (hd d rfl) hv

theorem wanted_eq {I : Nat → Prop} {β : Nat → Nat} {N : Nat} {w : World} {n : Nat} {a : Fr} {c : Act} (hf : FRel I β N w n a c) {ops : Array Oper} {o : Oper} {r : Bool} (hg : gval ops.toList o.guard a = some r) : Region.wanted o (yielded ops c.tmps) = r := by
  unfold Region.wanted
  cases hgd : o.guard with
  | none => rw [hgd] at hg; simp [gval] at hg; simp [hg]
  | some x =>
    obtain ⟨j, want⟩ := x
    rw [hgd] at hg
    simp only [gval] at hg
    cases hs : gslot ops.toList j with
    | none => simp [hs] at hg
    | some t =>
      simp only [hs] at hg
      have hs' : (ops[j]?).bind (·.dst) = some t := by simpa [gslot] using hs
      cases ha : a t with
      | bool b =>
        simp only [ha] at hg
        injection hg with hg
        have hv := hf.val t
        rw [ha] at hv
        have e := hv.bool_inv
        have hlt : c.tmps[t]? = some (.bool b) := by
          simp only [Array.getD_eq_getD_getElem?] at e
          cases hc : c.tmps[t]? with
          | none => rw [hc] at e; simp [undef] at e
          | some y => rw [hc] at e; simp at e; rw [e]
        simp only [yielded, hs', Option.bind_some, hlt]
        rw [← hg]
        simp
      | tup l =>
        cases l with
        | nil =>
          simp only [ha] at hg
          injection hg with hg
          have hv := hf.val t
          rw [ha] at hv
          obtain ⟨vs, e, h1, _⟩ := hv.tup_inv
          have hne : ∀ b : Bool, c.tmps[t]? ≠ some (.bool b) := fun b hb => by
            simp only [Array.getD_eq_getD_getElem?, hb, Option.getD_some] at e
            cases e
          simp only [yielded, hs', Option.bind_some]
          cases hc : c.tmps[t]? with
          | none => rw [← hg]; rfl
          | some x => cases x with
            | bool b => exact absurd hc (hne b)
            | _ => rw [← hg]; rfl
        | cons _ _ => simp [ha] at hg
      | _ => simp [ha] at hg

section
variable {P : Program} {n : Nat}

/-- One operation, or its leaving out. -/
theorem wpOp_of {o : Oper} {ops : Array Oper} {i : Nat} (hi : ops[i]? = some o) {a : Fr} {h : Heap} {r : Bool} (hg : gval ops.toList o.guard a = some r) (K : AV → Heap → Prop) (hyes : r = true → OpOk P o a h K) (hno : r = false → K .undef h)
    {I : Nat → Prop} {β : Nat → Nat} {w : World} {c : Act} (rr : Rel I β h w) (ff : FRel I β h.length w n a c) {next : Act → World → Prop} {Q : Exit → Act → World → Prop}
    (hn : ∀ u cv I' β' h' w', K u h' → Ext I β h w I' β' h' w' → Rel I' β' h' w' → VRel I' β' h'.length w' u cv → next (c.put o.dst cv) w') : wpOp P ops Q i next c w := by
  unfold wpOp
  simp only [hi]
  rw [wanted_eq ff hg]
  cases r with
  | true =>
    simp only [if_true]
    exact .inl (hyes rfl I β w n c next Q rr ff hn)
  | false =>
    simp only [Bool.false_eq_true, if_false]
    exact hn .undef undef I β h w (hno rfl) (.refl _ _ _ _) rr (.imm _ _ (.undef _ _))

/-! ### in the order of the text -/
def aops (P : Program) (n : Nat) (all : List Oper) : List Oper → Fr → Heap → (Fr → Heap → Prop) → Prop
  | [], a, h, K => K a h
  | o :: rest, a, h, K => guardK all o.guard a fun run => match run with
    | true => aop P o.op a h fun v h' => putK n o.dst a v fun a' => aops P n all rest a' h' K
    | false => putK n o.dst a .undef fun a' => aops P n all rest a' h K

theorem aops_sound {ops : Array Oper} {Q : Exit → Act → World → Prop} : ∀ (l : List Oper) (i : Nat), (∀ j, l[j]? = ops[i + j]?) → ∀ (a : Fr) (h : Heap) (K : Fr → Heap → Prop) (I : Nat → Prop) (β : Nat → Nat) (w : World) (c : Act), Rel I β h w → FRel I β h.length w n a c →
    aops P n ops.toList l a h K → (∀ a' h' I' β' c' w', K a' h' → Ext I β h w I' β' h' w' → Rel I' β' h' w' → FRel I' β' h'.length w' n a' c' → Q .normal c' w') → wpOps P ops Q (List.range' i l.length) c w
  | [], i, hl, a, h, K, I, β, w, c, r, f, hk, hn => by
    simp only [List.length_nil, List.range'_zero, wpOps]
    exact hn a h I β c w hk (.refl _ _ _ _) r f
  | o :: l, i, hl, a, h, K, I, β, w, c, r, f, hk, hn => by
    have hi : ops[i]? = some o := by have := hl 0; simpa using this.symm
    simp only [List.length_cons, List.range'_succ, wpOps_cons]
    obtain ⟨run, hg, hk⟩ := guardK_sound hk
    refine wpOp_of hi hg (fun v h' => inb n o.dst ∧ aops P n ops.toList l (pt o.dst a v) h' K) (fun e => ?_) (fun e => ?_) r f (fun u cv I' β' h' w' hk' he hr hv => ?_)
    · subst e
      exact (aop_sound hk).mono fun v h' => putK_sound
    · subst e
      exact putK_sound hk
    · exact aops_sound l (i + 1) (fun j => by have := hl (j + 1); simpa [Nat.add_assoc, Nat.add_comm 1] using this) _ h' K I' β' w' _ hr ((f.ext r he).pt hk'.1 hv) hk'.2
        (fun a' h2 I2 β2 c' w2 k2 e2 => hn a' h2 I2 β2 c' w2 k2 (he.trans e2))

/-! ### a region that draws its order -/
def pureOp (op : Op) : Bool := quietOp op || loadOp op
def edgesOf (ops : List Oper) (i : Nat) : List Nat := match ops[i]? with | some o => (o.after.toList.filter (Region.binds .any)).map (·.on) | none => []
def tmsOf (ops : List Oper) (i : Nat) : List Tmp := match ops[i]? with | some o => tmpsOf o.op ++ (match o.guard with | some (j, _) => (gslot ops j).toList | none => []) | none => []
def presOf (ops : List Oper) : List (List Nat) :=
  ops.foldl (fun acc o => acc ++ [let es := (o.after.toList.filter (Region.binds .any)).map (·.on); (es ++ es.flatMap fun e => acc.getD e []).eraseDups]) []
def isEff (ops : List Oper) (i : Nat) : Bool := match ops[i]? with | some o => !pureOp o.op | none => true
def isLoad (ops : List Oper) (i : Nat) : Bool := match ops[i]? with | some o => !quietOp o.op | none => true

abbrev Plan := List (Nat × Bool × List Nat)
/-- 'free': operations that stand done when this is asked of. -/
def drawChkF (ops : List Oper) (plan : Plan) (free : List Nat) : Bool :=
  let pr := presOf ops
  let ord : List Nat := plan.map (·.1)
  let is := List.range ops.length
  (is.all fun i => (pr.getD i []).all fun j => (edgesOf ops i).contains j || (edgesOf ops i).any fun k => decide (k < i) && (pr.getD k []).contains j) &&
  (is.all fun i => (edgesOf ops i).all fun e => decide (e < i)) &&
  (decide ord.Nodup && is.all fun i => ord.contains i) && (ord.all fun i => decide (i < ops.length)) &&
  (is.all fun i => is.all fun j => decide (i = j) || (gslot ops i).isNone || !decide (gslot ops i = gslot ops j)) &&
  (is.all fun i => (tmsOf ops i).all fun t => is.all fun j => decide (j = i) || !decide (gslot ops j = some t) || (decide (ord.idxOf j < ord.idxOf i) && (pr.getD i []).contains j) || (decide (ord.idxOf i < ord.idxOf j) && (pr.getD j []).contains i)) &&
  (is.all fun e => !isEff ops e || is.all fun i => !decide (ord.idxOf e < ord.idxOf i) || ((pr.getD i []).contains e || free.contains e)) &&
  (plan.all fun x => !isEff ops x.1 || is.all fun i => isEff ops i || !isLoad ops i || !decide (ord.idxOf i < ord.idxOf x.1) || (pr.getD x.1 []).contains i || (x.2.2.contains i && plan.any fun y => decide (y.1 = i) && y.2.1))

def drawChk (ops : List Oper) (plan : Plan) : Bool := drawChkF ops plan []

/-- What stood done, and is to give the same at the new heap. -/
def reK (P : Program) (all : List Oper) (done : List (Nat × Fr × AV)) (h : Heap) : List Nat → Prop
  | [] => True
  | j :: r => (match done.find? (fun x => x.1 == j), all[j]? with
    | some (_, a, v), some o => aop P o.op a h fun v' h' => v' = v ∧ h' = h
    | _, _ => True) ∧ reK P all done h r

def adr (P : Program) (n : Nat) (all : List Oper) : Plan → Fr → Heap → List (Nat × Fr × AV) → (Fr → Heap → Prop) → Prop
  | [], a, h, done, K => K a h
  | (i, keep, rs) :: rest, a, h, done, K => (match all[i]? with
    | none => False
    | some o => guardK all o.guard a fun run => match run with
      | true => (match pureOp o.op with
        | true => ∃ v, aop P o.op a h (fun v' h' => v' = v ∧ h' = h) ∧ putK n o.dst a v fun a' => adr P n all rest a' h (match keep with | true => (i, a, v) :: done | false => done) K
        | false => aop P o.op a h fun v h' => reK P all done h' rs ∧ putK n o.dst a v fun a' => adr P n all rest a' h' done K)
      | false => putK n o.dst a .undef fun a' => adr P n all rest a' h done K)


structure DrawOk (ops : List Oper) (plan : Plan) (free : List Nat) : Prop where
  pre : ∀ i, i < ops.length → ∀ j, j ∈ (presOf ops).getD i [] → j ∈ edgesOf ops i ∨ ∃ k, k ∈ edgesOf ops i ∧ k < i ∧ j ∈ (presOf ops).getD k []
  back : ∀ i, i < ops.length → ∀ e, e ∈ edgesOf ops i → e < i
  nodup : (plan.map (·.1)).Nodup
  all : ∀ i, i < ops.length → i ∈ plan.map (·.1)
  lt : ∀ i, i ∈ plan.map (·.1) → i < ops.length
  one : ∀ i j t, i < ops.length → j < ops.length → gslot ops i = some t → gslot ops j = some t → i = j
  tms : ∀ i, i < ops.length → ∀ t, t ∈ tmsOf ops i → ∀ j, j < ops.length → j ≠ i → gslot ops j = some t →
    ((plan.map (·.1)).idxOf j < (plan.map (·.1)).idxOf i ∧ j ∈ (presOf ops).getD i []) ∨ ((plan.map (·.1)).idxOf i < (plan.map (·.1)).idxOf j ∧ i ∈ (presOf ops).getD j [])
  eff : ∀ e, e < ops.length → isEff ops e = true → ∀ i, i < ops.length → (plan.map (·.1)).idxOf e < (plan.map (·.1)).idxOf i → e ∈ (presOf ops).getD i [] ∨ e ∈ free
  re : ∀ x, x ∈ plan → isEff ops x.1 = true → ∀ i, i < ops.length → isEff ops i = false → isLoad ops i = true → (plan.map (·.1)).idxOf i < (plan.map (·.1)).idxOf x.1 → i ∉ (presOf ops).getD x.1 [] → i ∈ x.2.2 ∧ ∃ y, y ∈ plan ∧ y.1 = i ∧ y.2.1 = true

theorem drawOk {ops : List Oper} {plan : Plan} {free : List Nat} (h : drawChkF ops plan free = true) : DrawOk ops plan free := by
  unfold drawChkF at h
  simp only [Bool.and_eq_true, List.all_eq_true, List.any_eq_true, List.mem_range, Bool.or_eq_true, decide_eq_true_eq, List.contains_iff_mem, Bool.not_eq_true', decide_eq_false_iff_not, Option.isNone_iff_eq_none] at h
  obtain ⟨⟨⟨⟨⟨⟨⟨h1, h2⟩, h3, h4⟩, h5⟩, h6⟩, h7⟩, h8⟩, h9⟩ := h
  refine ⟨fun i hi j hj => ?_, h2, h3, h4, h5, fun i j t hi hj e1 e2 => ?_, fun i hi t ht j hj hne hs => ?_, fun e he hf i hi hlt => ?_, fun x hx hf i hi hp hl hlt hn => ?_⟩
  · rcases h1 i hi j hj with h | ⟨k, hk, hlt, hm⟩
    · exact .inl h
    · exact .inr ⟨k, hk, hlt, hm⟩
  · rcases h6 i hi j hj with (h | h) | h
    · exact h
    · rw [e1] at h; cases h
    · exact absurd (e1.trans e2.symm) h
  · rcases h7 i hi t ht j hj with ((h | h) | h) | h
    · exact absurd h hne
    · exact absurd hs h
    · exact .inl h
    · exact .inr h
  · rcases h8 e he with h | h
    · rw [hf] at h; cases h
    · rcases h i hi with h | h
      · exact absurd hlt h
      · exact h
  · rcases h9 x hx with h | h
    · rw [hf] at h; cases h
    · rcases h i hi with (((h | h) | h) | h) | h
      · rw [hp] at h; cases h
      · rw [hl] at h; cases h
      · exact absurd hlt h
      · exact absurd h hn
      · obtain ⟨h1, y, h2, h3, h4⟩ := h
        exact ⟨h1, y, h2, h3, h4⟩

/-! frames as what was put, newest first -/
def frm (ops : List Oper) (a0 : Fr) : List (Nat × AV) → Fr
  | [] => a0
  | (i, v) :: r => pt (gslot ops i) (frm ops a0 r) v

theorem frm_find (ops : List Oper) (a0 : Fr) (t : Nat) : ∀ l : List (Nat × AV), frm ops a0 l t = match l.find? (fun x => gslot ops x.1 == some t) with | some x => x.2 | none => a0 t
  | [] => rfl
  | (i, v) :: r => by
    simp only [frm, List.find?_cons]
    cases hs : gslot ops i with
    | none =>
      simp only [pt, hs]
      exact frm_find ops a0 t r
    | some d =>
      simp only [pt, hs]
      by_cases e : t = d
      · subst e
        simp [upd_same]
      · rw [upd_ne _ _ _ _ e]
        have : ((some d : Option Nat) == some t) = false := by simp [Ne.symm e]
        rw [this]
        exact frm_find ops a0 t r

theorem nodup_val {l : List (Nat × AV)} (hn : (l.map (·.1)).Nodup) {i : Nat} {v v' : AV} (h1 : (i, v) ∈ l) (h2 : (i, v') ∈ l) : v = v' := by
  induction l with
  | nil => cases h1
  | cons x l ih =>
    simp only [List.map_cons, List.nodup_cons] at hn
    rcases List.mem_cons.1 h1 with e1 | k1 <;> rcases List.mem_cons.1 h2 with e2 | k2
    · rw [← e1] at e2; injection e2 with _ e; exact e.symm
    · rw [← e1] at hn; exact absurd (List.mem_map.2 ⟨_, k2, rfl⟩) hn.1
    · rw [← e2] at hn; exact absurd (List.mem_map.2 ⟨_, k1, rfl⟩) hn.1
    · exact ih hn.2 k1 k2

theorem frm_same {ops : List Oper} {a0 : Fr} {t : Nat} {l l' : List (Nat × AV)} (hone : ∀ i j t, gslot ops i = some t → gslot ops j = some t → i = j) (hn' : (l'.map (·.1)).Nodup)
    (hw : ∀ j v, gslot ops j = some t → ((j, v) ∈ l ↔ (j, v) ∈ l')) : frm ops a0 l t = frm ops a0 l' t := by
  rw [frm_find, frm_find]
  cases h1 : l.find? (fun x => gslot ops x.1 == some t) with
  | none =>
    cases h2 : l'.find? (fun x => gslot ops x.1 == some t) with
    | none => rfl
    | some y =>
      have hy := List.mem_of_find?_eq_some h2
      have hp := List.find?_some h2
      have hp' : gslot ops y.1 = some t := by simpa using hp
      have := List.find?_eq_none.1 h1 _ ((hw y.1 y.2 hp').2 hy)
      exact absurd hp this
  | some x =>
    have hx := List.mem_of_find?_eq_some h1
    have hp := List.find?_some h1
    have hp' : gslot ops x.1 = some t := by simpa using hp
    have hx' := (hw x.1 x.2 hp').1 hx
    cases h2 : l'.find? (fun x => gslot ops x.1 == some t) with
    | none => exact absurd hp (List.find?_eq_none.1 h2 _ hx')
    | some y =>
      have hy := List.mem_of_find?_eq_some h2
      have hq : gslot ops y.1 = some t := by simpa using List.find?_some h2
      have e := hone _ _ _ hp' hq
      obtain ⟨i, v⟩ := x
      obtain ⟨j, v'⟩ := y
      simp only at e
      subst e
      exact nodup_val hn' hx' hy

theorem gslot_lt {ops : List Oper} {i t : Nat} (h : gslot ops i = some t) : i < ops.length := by
  unfold gslot at h
  cases ho : ops[i]? with
  | none => simp [ho] at h
  | some o => exact (List.getElem?_eq_some_iff.1 ho).1

/-- What is known of an operation that has been looked at, and has not run. -/
def Valid (P : Program) (n : Nat) (ops : List Oper) (i : Nat) (a : Fr) (v : AV) (h : Heap) : Prop :=
  ∃ o, ops[i]? = some o ∧ inb n o.dst ∧ ((gval ops o.guard a = some true ∧ pureOp o.op = true ∧ aop P o.op a h fun v' h' => v' = v ∧ h' = h) ∨ (gval ops o.guard a = some false ∧ v = .undef ∧ pureOp o.op = true))

structure Inv (P : Program) (n : Nat) (ops : List Oper) (plan : Plan) (K : Fr → Heap → Prop) (a0 : Fr) (S : Nat → Prop) (hist : List (Nat × AV)) (rest : Plan) (h : Heap) (done : List (Nat × Fr × AV)) : Prop where
  ord : (hist.map (·.1)).reverse ++ rest.map (·.1) = plan.map (·.1)
  sub : ∃ p, p ++ rest = plan
  run : adr P n ops rest (frm ops a0 hist) h done K
  ran : ∀ i, S i → i ∈ hist.map (·.1)
  effs : ∀ i, i ∈ hist.map (·.1) → isEff ops i = true → S i
  val : ∀ l1 i v l2, hist = l1 ++ (i, v) :: l2 → ¬ S i → Valid P n ops i (frm ops a0 l2) v h
  kept : ∀ l1 i v l2, hist = l1 ++ (i, v) :: l2 → (∃ y, y ∈ plan ∧ y.1 = i ∧ y.2.1 = true) → ¬ S i → (∀ o, ops[i]? = some o → gval ops o.guard (frm ops a0 l2) = some true) → done.find? (fun x => x.1 == i) = some (i, frm ops a0 l2, v)


theorem countP_lt {α : Type} {p p' : α → Bool} {i : α} : ∀ {l : List α}, i ∈ l → (∀ x, p' x = true → p x = true) → p i = true → p' i = false → l.countP p' < l.countP p
  | [], h, _, _, _ => by cases h
  | x :: l, h, hm, h1, h2 => by
    have hle : l.countP p' ≤ l.countP p := List.countP_mono_left (fun x _ => hm x)
    simp only [List.countP_cons]
    rcases List.mem_cons.1 h with rfl | h
    · simp [h1, h2]; omega
    · have ih := countP_lt h hm h1 h2
      by_cases hx : p' x = true
      · simp [hx, hm x hx]; exact ih
      · simp [hx]; split <;> omega

theorem pre_in {ops : List Oper} {plan : Plan} {free : List Nat} (hd : DrawOk ops plan free) {S : Nat → Prop} (hc : ∀ i, S i → ∀ e, e ∈ edgesOf ops i → S e) : ∀ i, i < ops.length → (∀ e, e ∈ edgesOf ops i → S e) → ∀ j, j ∈ (presOf ops).getD i [] → S j := by
  intro i
  induction i using Nat.strongRecOn with
  | _ i ih =>
    intro hi he j hj
    rcases hd.pre i hi j hj with h | ⟨k, hk, hlt, hm⟩
    · exact he j h
    · exact ih k hlt (by omega) (hc k (he k hk)) j hm

theorem getD_app {l1 l2 : List (Nat × AV)} : True := trivial

/-- One more operation is looked at, ahead of its run. -/
theorem absorb {ops : List Oper} {plan : Plan} {free : List Nat} (hd : DrawOk ops plan free) {K : Fr → Heap → Prop} {a0 : Fr} {S : Nat → Prop} {hist : List (Nat × AV)} {x : Nat × Bool × List Nat} {rest : Plan} {h : Heap} {done : List (Nat × Fr × AV)}
    (hv : Inv P n ops plan K a0 S hist (x :: rest) h done) (hp : isEff ops x.1 = false) : ∃ v done', Inv P n ops plan K a0 S ((x.1, v) :: hist) rest h done' := by
  obtain ⟨i, keep, rs⟩ := x
  have hplan : (i, keep, rs) ∈ plan := by obtain ⟨p, hp⟩ := hv.sub; rw [← hp]; simp
  have hnd := hd.nodup
  have hni : i ∉ hist.map (·.1) := by
    have h1 := hv.ord
    rw [← h1] at hnd
    have h2 := List.nodup_append.1 hnd
    intro hm
    exact h2.2.2 i (by simpa using hm) i (by simp) rfl
  have hrun := hv.run
  simp only [adr] at hrun
  cases ho : ops[i]? with
  | none => simp [ho] at hrun
  | some o =>
    simp only [ho] at hrun
    have hpo : pureOp o.op = true := by simpa [isEff, ho] using hp
    have hslot : gslot ops i = o.dst := by simp [gslot, ho]
    obtain ⟨r, hg, hk⟩ := guardK_sound hrun
    have base : ∀ v done', (inb n o.dst ∧ adr P n ops rest (pt o.dst (frm ops a0 hist) v) h done' K) → Valid P n ops i (frm ops a0 hist) v h →
        ((∃ y, y ∈ plan ∧ y.1 = i ∧ y.2.1 = true) → gval ops o.guard (frm ops a0 hist) = some true → done'.find? (fun x => x.1 == i) = some (i, frm ops a0 hist, v)) → (∀ j, j ≠ i → done'.find? (fun x => x.1 == j) = done.find? (fun x => x.1 == j)) →
        Inv P n ops plan K a0 S ((i, v) :: hist) rest h done' := by
      intro v done' h1 h2 h3 h4
      refine ⟨by simpa using hv.ord, by obtain ⟨p, hp⟩ := hv.sub; exact ⟨p ++ [(i, keep, rs)], by simpa using hp⟩, by simp only [frm, hslot]; exact h1.2, fun j hj => List.mem_cons_of_mem _ (hv.ran j hj), fun j hj he => ?_, fun l1 j u l2 hl hj => ?_, fun l1 j u l2 hl hy hj hgv => ?_⟩
      · rcases List.mem_cons.1 hj with e | hj
        · rw [e] at he
          simp only at he hp
          rw [hp] at he
          cases he
        · exact hv.effs j hj he
      · cases l1 with
        | nil =>
          simp only [List.nil_append, List.cons.injEq, Prod.mk.injEq] at hl
          obtain ⟨⟨rfl, rfl⟩, rfl⟩ := hl
          exact h2
        | cons y l1 =>
          simp only [List.cons_append, List.cons.injEq] at hl
          exact hv.val l1 j u l2 hl.2 hj
      · cases l1 with
        | nil =>
          simp only [List.nil_append, List.cons.injEq, Prod.mk.injEq] at hl
          obtain ⟨⟨rfl, rfl⟩, rfl⟩ := hl
          exact h3 hy (hgv o ho)
        | cons y l1 =>
          simp only [List.cons_append, List.cons.injEq] at hl
          have hne : j ≠ i := by
            rintro rfl
            exact hni (by rw [hl.2]; simp)
          rw [h4 j hne]
          exact hv.kept l1 j u l2 hl.2 hy hj hgv
    cases r with
    | true =>
      simp only [hpo] at hk
      obtain ⟨v, hv1, hk⟩ := hk
      have hk2 := putK_sound hk
      refine ⟨v, _, base v _ hk2 ⟨o, ho, hk2.1, .inl ⟨hg, hpo, hv1⟩⟩ ?_ ?_⟩
      · rintro ⟨y, hy, hy1, hy2⟩ _
        have : y = (i, keep, rs) := by
          have key : ∀ (l : Plan), (l.map (·.1)).Nodup → ∀ y z, y ∈ l → z ∈ l → y.1 = z.1 → y = z := by
            intro l
            induction l with
            | nil => intro _ y z hy; cases hy
            | cons a l ih =>
              intro hn y z hy hz e
              simp only [List.map_cons, List.nodup_cons] at hn
              rcases List.mem_cons.1 hy with e1 | k1 <;> rcases List.mem_cons.1 hz with e2 | k2
              · rw [e1, e2]
              · rw [e1] at e; exact absurd (List.mem_map.2 ⟨_, k2, e.symm⟩) hn.1
              · rw [e2] at e; exact absurd (List.mem_map.2 ⟨_, k1, e⟩) hn.1
              · exact ih hn.2 y z k1 k2 e
          exact key plan hd.nodup y _ hy hplan hy1
        subst this
        simp only at hy2
        subst hy2
        simp
      · intro j hj
        cases keep with
        | true => simp [List.find?_cons, Ne.symm hj]
        | false => rfl
    | false =>
      have hk2 := putK_sound hk
      refine ⟨.undef, done, base _ _ hk2 ⟨o, ho, hk2.1, .inr ⟨hg, rfl, hpo⟩⟩ ?_ (fun _ _ => rfl)⟩
      intro _ hgt
      rw [hg] at hgt
      cases hgt

end
end Go.AL
end

section
/- Regions that draw their order: whatever order the machine takes, it comes to what the plan's order comes to. No condition. -/
namespace Go.AL
set_option linter.unusedVariables false
set_option linter.unusedSimpArgs false
set_option linter.unnecessarySimpa false
section
variable {P : Program} {n : Nat}

def Sof (listed : Array Bool) (i : Nat) : Prop := listed.getD i false = true
def filt (listed : Array Bool) (hist : List (Nat × AV)) : List (Nat × AV) := hist.filter fun x => listed.getD x.1 false
def unl (N : Nat) (listed : Array Bool) : Nat := (List.range N).countP fun i => !listed.getD i false

theorem Sof_set {listed : Array Bool} {i j : Nat} (hi : i < listed.size) : Sof (listed.setIfInBounds i true) j ↔ j = i ∨ Sof listed j := by
  unfold Sof
  by_cases e : j = i
  · subst e; simp [hi]
  · rw [getD_set_ne false (Ne.symm e)]
    simp [e]

theorem mem_filt {listed : Array Bool} {hist : List (Nat × AV)} {x : Nat × AV} : x ∈ filt listed hist ↔ x ∈ hist ∧ Sof listed x.1 := by
  simp [filt, Sof]

theorem filt_nodup {listed : Array Bool} {hist : List (Nat × AV)} (h : (hist.map (·.1)).Nodup) : ((filt listed hist).map (·.1)).Nodup :=
  List.Nodup.sublist (List.Sublist.map _ List.filter_sublist) h

theorem gval_congr {ops : List Oper} {i : Nat} {o : Oper} (ho : ops[i]? = some o) {a a' : Fr} (h : ∀ t, t ∈ tmsOf ops i → a t = a' t) : gval ops o.guard a = gval ops o.guard a' := by
  cases hg : o.guard with
  | none => rfl
  | some x =>
    obtain ⟨j, want⟩ := x
    simp only [gval]
    cases hs : gslot ops j with
    | none => rfl
    | some t =>
      have := h t (by simp [tmsOf, ho, hg, hs])
      simp only [this]

theorem Inv.nodup {ops : List Oper} {plan : Plan} {free : List Nat} (hd : DrawOk ops plan free) {K : Fr → Heap → Prop} {a0 : Fr} {S : Nat → Prop} {hist : List (Nat × AV)} {rest : Plan} {h : Heap} {done : List (Nat × Fr × AV)} (hv : Inv P n ops plan K a0 S hist rest h done) :
    (hist.map (·.1)).Nodup ∧ ∀ i, i ∈ hist.map (·.1) → i ∉ rest.map (·.1) := by
  have hnd := hd.nodup
  rw [← hv.ord] at hnd
  have h2 := List.nodup_append.1 hnd
  refine ⟨(List.pairwise_reverse.1 h2.1).imp (fun hne => hne.symm), fun i hi hr => h2.2.2 i (by simpa using hi) i hr rfl⟩

theorem idxOf_lt_of_hist {α : Type} [BEq α] [LawfulBEq α] {l1 l2 : List α} {x y : α} (hx : x ∈ l1) (hy : y ∉ l1) : (l1 ++ l2).idxOf x < (l1 ++ l2).idxOf y := by
  rw [List.idxOf_append, List.idxOf_append, if_pos hx, if_neg hy]
  have := List.idxOf_lt_length_of_mem hx
  omega

theorem not_mem_of_idxOf_lt {α : Type} [BEq α] [LawfulBEq α] {l1 l2 : List α} {x y : α} (hy : y ∈ l1) (hx : x ∉ l1) (h : (l1 ++ l2).idxOf x < (l1 ++ l2).idxOf y) : False := by
  have := idxOf_lt_of_hist (l2 := l2) hy hx
  omega

/-- What stands in an operation's operands when it runs is what stood there when it was looked at. -/
theorem agree {ops : List Oper} {plan : Plan} {free : List Nat} (hd : DrawOk ops plan free) {listed : Array Bool} {a0 : Fr} {hist l1 l2 : List (Nat × AV)} {i : Nat} (hl : i < ops.length) (hs : ¬ Sof listed i) (hc : ∀ i, Sof listed i → ∀ e, e ∈ edgesOf ops i → Sof listed e)
    (he : ∀ e, e ∈ edgesOf ops i → Sof listed e) (hn : (hist.map (·.1)).Nodup) (hh : hist = l1 ++ l2) (hi2 : i ∉ l2.map (·.1)) (hord : ∃ r, (hist.map (·.1)).reverse ++ r = plan.map (·.1))
    (hpos : ∀ j, j ∈ l1.map (·.1) → j ≠ i → (plan.map (·.1)).idxOf i < (plan.map (·.1)).idxOf j) (hpos2 : ∀ j, j ∈ l2.map (·.1) → (plan.map (·.1)).idxOf j < (plan.map (·.1)).idxOf i) :
    ∀ t, t ∈ tmsOf ops i → frm ops a0 (filt listed hist) t = frm ops a0 l2 t := by
  intro t ht
  have hone : ∀ i j t, gslot ops i = some t → gslot ops j = some t → i = j := fun i j t h1 h2 => hd.one i j t (gslot_lt h1) (gslot_lt h2) h1 h2
  have hpre := pre_in hd hc
  have hn2 : (l2.map (·.1)).Nodup := by rw [hh] at hn; simp only [List.map_append] at hn; exact (List.nodup_append.1 hn).2.1
  refine frm_same hone hn2 fun j v hj => ?_
  rw [mem_filt]
  have hjl := gslot_lt hj
  by_cases hji : j = i
  · subst hji
    exact ⟨fun h => absurd h.2 hs, fun h => absurd (List.mem_map.2 ⟨_, h, rfl⟩) hi2⟩
  · rcases hd.tms i hl t ht j hjl hji hj with ⟨hp, hm⟩ | ⟨hp, hm⟩
    · have hSj := hpre i hl he j hm
      constructor
      · rintro ⟨h1, _⟩
        rw [hh] at h1
        rcases List.mem_append.1 h1 with h1 | h1
        · have := hpos j (List.mem_map.2 ⟨_, h1, rfl⟩) hji
          omega
        · exact h1
      · intro h2
        exact ⟨by rw [hh]; exact List.mem_append_right _ h2, hSj⟩
    · constructor
      · rintro ⟨h1, h2⟩
        have h3 := hpre j hjl (hc j h2) i hm
        exact absurd h3 hs
      · intro h2
        have := hpos2 j (List.mem_map.2 ⟨_, h2, rfl⟩)
        omega

theorem filt_step {ops : List Oper} {plan : Plan} {free : List Nat} (hd : DrawOk ops plan free) {listed : Array Bool} {a0 : Fr} {hist : List (Nat × AV)} {i : Nat} {v : AV} (hil : i < listed.size) (hn : (hist.map (·.1)).Nodup) (hm : (i, v) ∈ hist) :
    frm ops a0 (filt (listed.setIfInBounds i true) hist) = pt (gslot ops i) (frm ops a0 (filt listed hist)) v := by
  have hone : ∀ i j t, gslot ops i = some t → gslot ops j = some t → i = j := fun i j t h1 h2 => hd.one i j t (gslot_lt h1) (gslot_lt h2) h1 h2
  funext t
  have hrhs : pt (gslot ops i) (frm ops a0 (filt listed hist)) v = frm ops a0 ((i, v) :: (filt listed hist).filter fun x => x.1 != i) ∨ True := .inr trivial
  by_cases ht : gslot ops i = some t
  · rw [ht]
    simp only [pt, upd_same]
    rw [frm_find]
    cases hf : (filt (listed.setIfInBounds i true) hist).find? (fun x => gslot ops x.1 == some t) with
    | none =>
      have := List.find?_eq_none.1 hf (i, v) (mem_filt.2 ⟨hm, (Sof_set hil).2 (.inl rfl)⟩)
      simp [ht] at this
    | some y =>
      have hy := (mem_filt.1 (List.mem_of_find?_eq_some hf)).1
      have hq : gslot ops y.1 = some t := by simpa using List.find?_some hf
      obtain ⟨j, v'⟩ := y
      have e : j = i := hone j i t hq ht
      subst e
      exact nodup_val hn hy hm
  · have h1 : pt (gslot ops i) (frm ops a0 (filt listed hist)) v t = frm ops a0 (filt listed hist) t := by
      cases hs : gslot ops i with
      | none => rfl
      | some d => simp only [pt]; rw [upd_ne]; rintro rfl; exact ht hs
    rw [h1]
    refine frm_same hone (filt_nodup hn) fun j u hj => ?_
    rw [mem_filt, mem_filt, Sof_set hil]
    constructor
    · rintro ⟨h2, h3 | h3⟩
      · exact absurd (h3 ▸ hj) ht
      · exact ⟨h2, h3⟩
    · rintro ⟨h2, h3⟩
      exact ⟨h2, .inr h3⟩

theorem unl_lt {N : Nat} {listed : Array Bool} {i : Nat} (hi : i < N) (hil : i < listed.size) (hs : ¬ Sof listed i) : unl N (listed.setIfInBounds i true) < unl N listed := by
  refine countP_lt (i := i) (List.mem_range.2 hi) (fun x hx => ?_) ?_ ?_
  · simp only [Bool.not_eq_true', Bool.not_eq_eq_eq_not, Bool.not_true] at hx ⊢
    by_cases e : x = i
    · subst e
      simp [hil] at hx
    · rwa [getD_set_ne false (Ne.symm e)] at hx
  · simpa [Sof] using hs
  · simp [hil]

/-- Where an operation that has not been looked at runs: all ahead of it are looked at first. -/
theorem absorbs {ops : List Oper} {plan : Plan} {free : List Nat} (hd : DrawOk ops plan free) {K : Fr → Heap → Prop} {a0 : Fr} {S : Nat → Prop} {h : Heap} : ∀ (R1 : Plan) {hist : List (Nat × AV)} {rest : Plan} {done : List (Nat × Fr × AV)},
    Inv P n ops plan K a0 S hist (R1 ++ rest) h done → (∀ x, x ∈ R1 → isEff ops x.1 = false) → ∃ hist' done', Inv P n ops plan K a0 S hist' rest h done' ∧ (∃ l, hist' = l ++ hist)
  | [], hist, rest, done, hv, hp => ⟨hist, done, hv, [], rfl⟩
  | x :: R1, hist, rest, done, hv, hp => by
    obtain ⟨v, done', hv'⟩ := absorb hd (rest := R1 ++ rest) hv (hp x (by simp))
    obtain ⟨hist', done'', h1, l, h2⟩ := absorbs hd R1 hv' (fun y hy => hp y (List.mem_cons_of_mem _ hy))
    exact ⟨hist', done'', h1, l ++ [(x.1, v)], by rw [h2]; simp⟩

theorem find_done {done : List (Nat × Fr × AV)} {j : Nat} {y : Nat × Fr × AV} (h : done.find? (fun x => x.1 == j) = some y) : y.1 = j := by simpa using List.find?_some h

theorem reK_get {ops : List Oper} {done : List (Nat × Fr × AV)} {h : Heap} {j : Nat} {a : Fr} {v : AV} {o : Oper} : ∀ {rs : List Nat}, reK P ops done h rs → j ∈ rs → done.find? (fun x => x.1 == j) = some (j, a, v) → ops[j]? = some o → aop P o.op a h fun v' h' => v' = v ∧ h' = h
  | [], hr, hj, _, _ => by cases hj
  | k :: rs, hr, hj, hf, ho => by
    rcases List.mem_cons.1 hj with e | hj'
    · subst e
      have := hr.1
      simp only [hf, ho] at this
      exact this
    · exact reK_get hr.2 hj' hf ho

theorem draw_pick {ops : Array Oper} {plan : Plan} {free : List Nat} (hd : DrawOk ops.toList plan free) {K : Fr → Heap → Prop} {a0 : Fr} {Q : Exit → Act → World → Prop} {I0 : Nat → Prop} {β0 : Nat → Nat} {h0 : Heap} {w0 : World} (fuel : Nat)
    (listed : Array Bool) (c : Act) (w : World) (I : Nat → Prop) (β : Nat → Nat) (h : Heap) (hist : List (Nat × AV)) (rest : Plan) (done : List (Nat × Fr × AV)) (i : Nat) (hF : i ∉ hist.map (·.1) → ∀ e, e ∈ free → Sof listed e ∨ e = i)
    (ih : ∀ (listed1 : Array Bool) (c : Act) (w : World) (I : Nat → Prop) (β : Nat → Nat) (h1 : Heap) (hist1 : List (Nat × AV)) (rest1 : Plan) (done1 : List (Nat × Fr × AV)), listed1 = listed.setIfInBounds i true → (i ∈ hist.map (·.1) → hist1 = hist ∧ rest1 = rest ∧ done1 = done ∧ h1 = h) → (i ∉ hist.map (·.1) → ∀ e, e ∈ free → Sof listed1 e) →
      unl ops.toList.length listed1 ≤ fuel → listed1.size = ops.toList.length → (∀ i, Sof listed1 i → ∀ e, e ∈ edgesOf ops.toList i → Sof listed1 e) → Ext I0 β0 h0 w0 I β h1 w → Rel I β h1 w → FRel I β h1.length w n (frm ops.toList a0 (filt listed1 hist1)) c →
      Inv P n ops.toList plan K a0 (Sof listed1) hist1 rest1 h1 done1 → wpAny P .any ops Q fuel listed1 c w)
    (hu : unl ops.toList.length listed ≤ fuel + 1) (hsz : listed.size = ops.toList.length) (hc : ∀ i, Sof listed i → ∀ e, e ∈ edgesOf ops.toList i → Sof listed e) (he : Ext I0 β0 h0 w0 I β h w) (hr : Rel I β h w) (hf : FRel I β h.length w n (frm ops.toList a0 (filt listed hist)) c)
    (hv : Inv P n ops.toList plan K a0 (Sof listed) hist rest h done) (hi : i ∈ Region.ready .any ops listed) : wpOp P ops Q i (wpAny P .any ops Q fuel (listed.setIfInBounds i true)) c w := by
  rw [mem_ready] at hi
  obtain ⟨hil0, o, ho, hed⟩ := hi
  have hio : i < ops.size := (Array.getElem?_eq_some_iff.1 ho).1
  have hin : i < ops.toList.length := by simpa using hio
  have hil : i < listed.size := by omega
  have ho' : ops.toList[i]? = some o := by simpa using ho
  have hs : ¬ Sof listed i := by
    unfold Sof
    simp only [Array.getD_eq_getD_getElem?, Array.getElem?_eq_getElem hil, Option.getD_some] at hil0 ⊢
    simp [hil0]
  have hedge : ∀ e, e ∈ edgesOf ops.toList i → Sof listed e := by
    intro e hem
    simp only [edgesOf, ho', List.mem_map, List.mem_filter] at hem
    obtain ⟨x, ⟨h1, h2⟩, rfl⟩ := hem
    exact hed x (by simpa using h1) h2
  have hslot : gslot ops.toList i = o.dst := by simp [gslot, ho']
  have hc' : ∀ j, Sof (listed.setIfInBounds i true) j → ∀ e, e ∈ edgesOf ops.toList j → Sof (listed.setIfInBounds i true) e := by
    intro j hj e hem
    rw [Sof_set hil] at hj ⊢
    rcases hj with rfl | hj
    · exact .inr (hedge e hem)
    · exact .inr (hc j hj e hem)
  have hu' : unl ops.toList.length (listed.setIfInBounds i true) ≤ fuel := by
    have := unl_lt hin hil hs
    omega
  have hF' : i ∉ hist.map (·.1) → ∀ e, e ∈ free → Sof (listed.setIfInBounds i true) e := fun hni e hfe => by
    rw [Sof_set hil]
    exact (hF hni e hfe).elim .inr .inl
  -- one that has been looked at runs
  have looked : ∀ (hist1 : List (Nat × AV)) (rest1 : Plan) (done1 : List (Nat × Fr × AV)), (i ∈ hist.map (·.1) → hist1 = hist ∧ rest1 = rest ∧ done1 = done) → FRel I β h.length w n (frm ops.toList a0 (filt listed hist1)) c → Inv P n ops.toList plan K a0 (Sof listed) hist1 rest1 h done1 → i ∈ hist1.map (·.1) →
      wpOp P ops Q i (wpAny P .any ops Q fuel (listed.setIfInBounds i true)) c w := by
    intro hist1 rest1 done1 heq hf hv hm
    obtain ⟨⟨i', v⟩, hmem, rfl⟩ := List.mem_map.1 hm
    simp only at *
    obtain ⟨l1, l2, hh⟩ := List.append_of_mem hmem
    have hnd := (hv.nodup hd).1
    obtain ⟨o2, ho2, hinb, hval⟩ := hv.val l1 i' v l2 hh hs
    rw [ho'] at ho2
    injection ho2 with ho2
    subst ho2
    have hsplit := hnd
    rw [hh] at hsplit
    simp only [List.map_append, List.map_cons] at hsplit
    have hs3 := List.nodup_append.1 hsplit
    have hs4 := List.nodup_cons.1 hs3.2.1
    have hplan : plan.map (·.1) = (l2.map (·.1)).reverse ++ (i' :: ((l1.map (·.1)).reverse ++ rest1.map (·.1))) := by
      rw [← hv.ord, hh]; simp
    have hag := agree (a0 := a0) (l1 := l1 ++ [(i', v)]) (l2 := l2) hd hin hs hc hedge hnd (by rw [hh]; simp) hs4.1 ⟨_, hv.ord⟩
      (fun j hj hne => by
        rw [hplan]
        have hj1 : j ∈ l1.map (·.1) := by
          simp only [List.map_append, List.mem_append, List.map_cons, List.map_nil, List.mem_singleton] at hj
          exact hj.resolve_right hne
        have hj2 : j ∉ l2.map (·.1) := fun h => hs3.2.2 j hj1 j (List.mem_cons_of_mem _ h) rfl
        have h5 : i' ∉ (l2.map (·.1)).reverse := by simpa using hs4.1
        have h6 : j ∉ (l2.map (·.1)).reverse := by simpa using hj2
        rw [List.idxOf_append, List.idxOf_append, if_neg h5, if_neg h6, List.idxOf_cons_self, List.idxOf_cons, show (i' == j) = false from beq_eq_false_iff_ne.2 (Ne.symm hne)]
        simp only [cond_false]
        omega)
      (fun j hj => by
        rw [hplan]
        exact idxOf_lt_of_hist (by simpa using hj) (by simpa using hs4.1))
    have hgc := gval_congr ho' hag
    have hnext : ∀ (u : AV) (cv : Value) (I' : Nat → Prop) (β' : Nat → Nat) (h' : Heap) (w' : World), (u = v ∧ h' = h) → Ext I β h w I' β' h' w' → Rel I' β' h' w' → VRel I' β' h'.length w' u cv → wpAny P .any ops Q fuel (listed.setIfInBounds i' true) (c.put o.dst cv) w' := by
      rintro u cv I' β' h' w' ⟨rfl, rfl⟩ e1 e2 e3
      refine ih _ _ _ I' β' h' hist1 rest1 done1 rfl (fun hx => ⟨(heq hx).1, (heq hx).2.1, (heq hx).2.2, rfl⟩) hF' hu' (by simpa using hsz) hc' (he.trans e1) e2 ?_ ?_
      · rw [filt_step hd hil hnd hmem, hslot]
        exact (hf.ext hr e1).pt hinb e3
      · refine ⟨hv.ord, hv.sub, hv.run, fun j hj => ?_, fun j hj he => (Sof_set hil).2 (.inr (hv.effs j hj he)), fun a b d f g k => hv.val a b d f g (fun x => k ((Sof_set hil).2 (.inr x))), fun a b d f g k x y => hv.kept a b d f g k (fun z => x ((Sof_set hil).2 (.inr z))) y⟩
        rw [Sof_set hil] at hj
        rcases hj with rfl | hj
        · exact hm
        · exact hv.ran j hj
    rcases hval with ⟨hg, hp, hop⟩ | ⟨hg, rfl, hp⟩
    · refine wpOp_of (h := h) (r := true) ho (by rw [hgc]; exact hg) (fun u h' => u = v ∧ h' = h) (fun _ => aop_sound (aop_congr (fun t ht => (hag t ?_).symm) hop)) (fun e => by cases e) hr hf hnext
      simp only [tmsOf, ho']
      exact List.mem_append_left _ ht
    · exact wpOp_of (h := h) (r := false) ho (by rw [hgc]; exact hg) (fun u h' => u = .undef ∧ h' = h) (fun e => by cases e) (fun _ => ⟨rfl, rfl⟩) hr hf hnext
  by_cases hm : i ∈ hist.map (·.1)
  · exact looked hist rest done (fun _ => ⟨rfl, rfl, rfl⟩) hf hv hm
  · -- it has not been looked at
    have hir : i ∈ rest.map (·.1) := by
      have := hd.all i hin
      rw [← hv.ord] at this
      rcases List.mem_append.1 this with h1 | h1
      · exact absurd (by simpa using h1) hm
      · exact h1
    obtain ⟨⟨i', keep, rs⟩, hmem, rfl⟩ := List.mem_map.1 hir
    simp only at *
    obtain ⟨R1, R2, hR⟩ := List.append_of_mem hmem
    have hpre := pre_in hd hc i' hin hedge
    have hpure : ∀ x, x ∈ R1 → isEff ops.toList x.1 = false := by
      intro x hx
      cases hx2 : isEff ops.toList x.1 with
      | false => rfl
      | true =>
        exfalso
        have hxp : x.1 ∈ plan.map (·.1) := by rw [← hv.ord, hR]; simp only [List.map_append, List.mem_append]; exact .inr (.inl (List.mem_map.2 ⟨_, hx, rfl⟩))
        have hnd := hd.nodup
        have hord : plan.map (·.1) = ((hist.map (·.1)).reverse ++ R1.map (·.1)) ++ (i' :: R2.map (·.1)) := by rw [← hv.ord, hR]; simp
        rw [hord] at hnd
        have h2 := List.nodup_append.1 hnd
        have hlt : (plan.map (·.1)).idxOf x.1 < (plan.map (·.1)).idxOf i' := by
          rw [hord]
          exact idxOf_lt_of_hist (List.mem_append_right _ (List.mem_map.2 ⟨_, hx, rfl⟩)) (fun hmm => h2.2.2 i' hmm i' (by simp) rfl)
        have h3 : x.1 ∈ hist.map (·.1) := by
          rcases hd.eff x.1 (hd.lt _ hxp) hx2 i' hin hlt with h | h
          · exact hv.ran _ (hpre x.1 h)
          · rcases hF hm x.1 h with h | h
            · exact hv.ran _ h
            · rw [h] at hlt; exact absurd hlt (Nat.lt_irrefl _)
        exact (hv.nodup hd).2 _ h3 (by rw [hR]; simp only [List.map_append, List.mem_append]; exact .inl (List.mem_map.2 ⟨_, hx, rfl⟩))
    rw [hR] at hv
    obtain ⟨hist', done', hv', l, hl⟩ := absorbs hd R1 hv hpure
    have hfl : filt listed hist' = filt listed hist := by
      rw [hl]
      unfold filt
      rw [List.filter_append]
      have : l.filter (fun x => listed.getD x.1 false) = [] := by
        rw [List.filter_eq_nil_iff]
        intro y hy hsy
        have h1 := hv.ran y.1 hsy
        have h2 := (hv'.nodup hd).1
        rw [hl] at h2
        simp only [List.map_append] at h2
        exact (List.nodup_append.1 h2).2.2 y.1 (List.mem_map.2 ⟨_, hy, rfl⟩) y.1 h1 rfl
      rw [this]
      rfl
    have hf' : FRel I β h.length w n (frm ops.toList a0 (filt listed hist')) c := by rw [hfl]; exact hf
    cases heff : isEff ops.toList i' with
    | false =>
      obtain ⟨v, done'', hv''⟩ := absorb hd (rest := R2) hv' heff
      refine looked _ _ _ (fun hx => absurd hx hm) ?_ hv'' (by simp)
      have : filt listed ((i', v) :: hist') = filt listed hist' := by
        unfold filt
        rw [List.filter_cons_of_neg]
        exact hs
      rw [this]
      exact hf'
    | true =>
      -- it writes
      have hrun := hv'.run
      simp only [adr, ho'] at hrun
      obtain ⟨r, hg, hk⟩ := guardK_sound hrun
      have hpo : pureOp o.op = false := by simpa [isEff, ho'] using heff
      have hnd := hv'.nodup hd
      have hni : i' ∉ hist'.map (·.1) := fun hh => hnd.2 i' hh (by simp)
      have hag := agree (a0 := a0) (l1 := []) (l2 := hist') hd hin hs hc hedge hnd.1 rfl hni ⟨_, hv'.ord⟩ (fun j hj => by cases hj) (fun j hj => by
        rw [← hv'.ord]
        exact idxOf_lt_of_hist (by simpa using hj) (by simpa using hni))
      have hgc := gval_congr ho' hag
      have hplan : (i', keep, rs) ∈ plan := by obtain ⟨p, hp⟩ := hv'.sub; rw [← hp]; simp
      have hnext : ∀ (u : AV) (cv : Value) (I' : Nat → Prop) (β' : Nat → Nat) (h' : Heap) (w' : World), ((h' = h ∨ reK P ops.toList done' h' rs) ∧ inb n o.dst ∧ adr P n ops.toList R2 (pt o.dst (frm ops.toList a0 hist') u) h' done' K) → Ext I β h w I' β' h' w' → Rel I' β' h' w' → VRel I' β' h'.length w' u cv →
          wpAny P .any ops Q fuel (listed.setIfInBounds i' true) (c.put o.dst cv) w' := by
        rintro u cv I' β' h' w' ⟨hre, hinb, hrest⟩ e1 e2 e3
        refine ih _ _ _ I' β' h' ((i', u) :: hist') R2 done' rfl (fun hx => absurd hx hm) hF' hu' (by simpa using hsz) hc' (he.trans e1) e2 ?_ ?_
        · have h1 : filt (listed.setIfInBounds i' true) ((i', u) :: hist') = (i', u) :: filt listed hist' := by
            unfold filt
            rw [List.filter_cons_of_pos (by simp [hil])]
            congr 1
            apply List.filter_congr
            intro y hy
            rw [getD_set_ne false]
            rintro rfl
            exact hni (List.mem_map.2 ⟨_, hy, rfl⟩)
          rw [h1]
          simp only [frm, hslot]
          exact (hf'.ext hr e1).pt hinb e3
        · refine ⟨by simpa using hv'.ord, by obtain ⟨p, hp⟩ := hv'.sub; exact ⟨p ++ [(i', keep, rs)], by simpa using hp⟩, by simp only [frm, hslot]; exact hrest, fun j hj => ?_, fun j hj hje => ?_, fun l1 j v l2 hl2 hj => ?_, fun l1 j v l2 hl2 hy hj hgv => ?_⟩
          · rw [Sof_set hil] at hj
            rcases hj with rfl | hj
            · simp
            · exact List.mem_cons_of_mem _ (hv'.ran j hj)
          · rw [Sof_set hil]
            rcases List.mem_cons.1 hj with e | hj
            · exact .inl e
            · exact .inr (hv'.effs j hj hje)
          · cases l1 with
            | nil =>
              simp only [List.nil_append, List.cons.injEq, Prod.mk.injEq] at hl2
              exact absurd ((Sof_set hil).2 (.inl hl2.1.1.symm)) hj
            | cons y l1 =>
              simp only [List.cons_append, List.cons.injEq] at hl2
              have hjS : ¬ Sof listed j := fun x => hj ((Sof_set hil).2 (.inr x))
              obtain ⟨oj, hoj, hib, hval⟩ := hv'.val l1 j v l2 hl2.2 hjS
              refine ⟨oj, hoj, hib, ?_⟩
              rcases hval with ⟨hg1, hp1, hop1⟩ | hval
              · refine .inl ⟨hg1, hp1, ?_⟩
                rcases hre with rfl | hre
                · exact hop1
                · cases hq : quietOp oj.op with
                  | true => exact aop_quiet hq (fun u hu => ⟨hu.1, rfl⟩) hop1
                  | false =>
                    have hjm : j ∈ hist'.map (·.1) := by rw [hl2.2]; simp
                    have hjp : j ∈ plan.map (·.1) := by rw [← hv'.ord]; exact List.mem_append_left _ (by simpa using hjm)
                    have hjl := hd.lt j hjp
                    have hle : isEff ops.toList j = false := by simp [isEff, hoj, hp1]
                    have hld : isLoad ops.toList j = true := by simp [isLoad, hoj, hq]
                    have hlt : (plan.map (·.1)).idxOf j < (plan.map (·.1)).idxOf i' := by
                      rw [← hv'.ord]
                      exact idxOf_lt_of_hist (by simpa using hjm) (by simpa using hni)
                    obtain ⟨hjr, hky⟩ := hd.re _ hplan heff j hjl hle hld hlt (fun hin2 => hjS (hpre j hin2))
                    have hfd := hv'.kept l1 j v l2 hl2.2 hky hjS (fun o2 ho2 => by rw [hoj] at ho2; injection ho2 with ho2; subst ho2; exact hg1)
                    exact reK_get hre hjr hfd hoj
              · exact .inr hval
          · cases l1 with
            | nil =>
              simp only [List.nil_append, List.cons.injEq, Prod.mk.injEq] at hl2
              exact absurd ((Sof_set hil).2 (.inl hl2.1.1.symm)) hj
            | cons y l1 =>
              simp only [List.cons_append, List.cons.injEq] at hl2
              exact hv'.kept l1 j v l2 hl2.2 hy (fun x => hj ((Sof_set hil).2 (.inr x))) hgv
      cases r with
      | true =>
        simp only [hpo] at hk
        refine wpOp_of (h := h) (r := true) ho (by rw [hgc]; exact hg) _ (fun _ => aop_sound (aop_congr (fun t ht => (hag t ?_).symm) hk)) (fun e => by cases e) hr hf' (fun u cv I' β' h' w' hk2 => hnext u cv I' β' h' w' ⟨.inr hk2.1, putK_sound hk2.2⟩)
        simp only [tmsOf, ho']
        exact List.mem_append_left _ ht
      | false =>
        exact wpOp_of (h := h) (r := false) ho (by rw [hgc]; exact hg) (fun u h' => u = .undef ∧ h' = h) (fun e => by cases e) (fun _ => ⟨rfl, rfl⟩) hr hf' (fun u cv I' β' h' w' hk2 => hnext u cv I' β' h' w' ⟨.inl hk2.2, by obtain ⟨rfl, rfl⟩ := hk2; exact putK_sound hk⟩)

theorem draw_any {ops : Array Oper} {plan : Plan} {free : List Nat} (hd : DrawOk ops.toList plan free) {K : Fr → Heap → Prop} {a0 : Fr} {Q : Exit → Act → World → Prop} {I0 : Nat → Prop} {β0 : Nat → Nat} {h0 : Heap} {w0 : World}
    (hQ : ∀ a' h' I' β' c' w', K a' h' → Ext I0 β0 h0 w0 I' β' h' w' → Rel I' β' h' w' → FRel I' β' h'.length w' n a' c' → Q .normal c' w') :
    ∀ (fuel : Nat) (listed : Array Bool) (c : Act) (w : World) (I : Nat → Prop) (β : Nat → Nat) (h : Heap) (hist : List (Nat × AV)) (rest : Plan) (done : List (Nat × Fr × AV)), (∀ e, e ∈ free → Sof listed e) →
      unl ops.toList.length listed ≤ fuel → listed.size = ops.toList.length → (∀ i, Sof listed i → ∀ e, e ∈ edgesOf ops.toList i → Sof listed e) → Ext I0 β0 h0 w0 I β h w → Rel I β h w → FRel I β h.length w n (frm ops.toList a0 (filt listed hist)) c →
      Inv P n ops.toList plan K a0 (Sof listed) hist rest h done → wpAny P .any ops Q fuel listed c w := by
  intro fuel
  -- the end
  have fin : ∀ (listed : Array Bool) (c : Act) (w : World) (I : Nat → Prop) (β : Nat → Nat) (h : Heap) (hist : List (Nat × AV)) (rest : Plan) (done : List (Nat × Fr × AV)),
      listed.size = ops.toList.length → (∀ i, i < ops.toList.length → Sof listed i) → Ext I0 β0 h0 w0 I β h w → Rel I β h w → FRel I β h.length w n (frm ops.toList a0 (filt listed hist)) c → Inv P n ops.toList plan K a0 (Sof listed) hist rest h done → Q .normal c w := by
    intro listed c w I β h hist rest done hsz hall he hr hf hv
    have hrest : rest = [] := by
      cases rest with
      | nil => rfl
      | cons x rest =>
        have hx : x.1 ∈ plan.map (·.1) := by rw [← hv.ord]; simp
        have h1 := hv.ran x.1 (hall _ (hd.lt _ hx))
        exact absurd (by simp) ((hv.nodup hd).2 _ h1)
    subst hrest
    have hfl : filt listed hist = hist := by
      unfold filt
      rw [List.filter_eq_self]
      intro y hy
      exact hall _ (hd.lt _ (by rw [← hv.ord]; simp only [List.map_nil, List.append_nil, List.mem_reverse]; exact List.mem_map.2 ⟨_, hy, rfl⟩))
    rw [hfl] at hf
    exact hQ _ _ _ _ _ _ hv.run he hr hf
  have ready_nil : ∀ listed : Array Bool, listed.size = ops.toList.length → Region.ready .any ops listed = [] → ∀ i, i < ops.toList.length → Sof listed i := by
    intro listed hsz hr i
    induction i using Nat.strongRecOn with
    | _ i ih =>
      intro hi
      apply Classical.byContradiction
      intro hs
      have hio : i < ops.size := by simpa using hi
      have : i ∈ Region.ready .any ops listed := by
        rw [mem_ready]
        refine ⟨?_, ops[i], Array.getElem?_eq_getElem hio, fun e he hb => ?_⟩
        · have hil : i < listed.size := by omega
          unfold Sof at hs
          simp only [Array.getD_eq_getD_getElem?, Array.getElem?_eq_getElem hil, Option.getD_some] at hs ⊢
          simpa using hs
        · have hem : e.on ∈ edgesOf ops.toList i := by
            have : ops.toList[i]? = some ops[i] := by simp [hio]
            simp only [edgesOf, this]
            exact List.mem_map.2 ⟨e, List.mem_filter.2 ⟨by simpa using he, hb⟩, rfl⟩
          have := hd.back i hi _ hem
          exact ih _ this (by omega)
      rw [hr] at this
      cases this
  induction fuel with
  | zero =>
    intro listed c w I β h hist rest done hF hu hsz hc he hr hf hv
    have hall : ∀ i, i < ops.toList.length → Sof listed i := by
      intro i hi
      apply Classical.byContradiction
      intro hs
      have := unl_lt hi (by omega) hs
      omega
    refine ⟨?_, fin listed c w I β h hist rest done hsz hall he hr hf hv⟩
    cases hrd : Region.ready .any ops listed with
    | nil => rfl
    | cons i l =>
      have hi : i ∈ Region.ready .any ops listed := by rw [hrd]; simp
      rw [mem_ready] at hi
      obtain ⟨h1, o, h2, _⟩ := hi
      have hio : i < ops.size := (Array.getElem?_eq_some_iff.1 h2).1
      have := hall i (by simpa using hio)
      unfold Sof at this
      have hil : i < listed.size := by rw [hsz]; simpa using hio
      simp only [Array.getD_eq_getD_getElem?, Array.getElem?_eq_getElem hil, Option.getD_some] at this h1
      rw [this] at h1
      cases h1
  | succ fuel ih =>
    intro listed c w I β h hist rest done hF hu hsz hc he hr hf hv
    refine ⟨fun hrd => fin listed c w I β h hist rest done hsz (ready_nil listed hsz hrd) he hr hf hv, fun i hi => ?_⟩
    have hil0 : i < listed.size := by
      have := hi
      rw [mem_ready] at this
      have := (Array.getElem?_eq_some_iff.1 this.2.choose_spec.1).1
      have e : ops.size = ops.toList.length := by simp
      omega
    exact draw_pick hd fuel listed c w I β h hist rest done i (fun _ e hfe => .inl (hF e hfe)) (fun listed1 c1 w1 I1 β1 h1 hist1 rest1 done1 el _ _ => ih listed1 c1 w1 I1 β1 h1 hist1 rest1 done1 (fun e hfe => by rw [el, Sof_set hil0]; exact .inr (hF e hfe))) hu hsz hc he hr hf hv hi

/-- A REGION THAT DRAWS ITS ORDER. -/
theorem draw_sound {ops : Array Oper} {plan : Plan} {id : Nat} (hm : P.follows .mixedOrders = true) (hd : drawChk ops.toList plan = true) {K : Fr → Heap → Prop} {a : Fr} {h : Heap} {Q : Exit → Act → World → Prop} {I : Nat → Prop} {β : Nat → Nat} {w : World} {c : Act}
    (r : Rel I β h w) (f : FRel I β h.length w n a c) (hk : adr P n ops.toList plan a h [] K)
    (hQ : ∀ a' h' I' β' c' w', K a' h' → Ext I β h w I' β' h' w' → Rel I' β' h' w' → FRel I' β' h'.length w' n a' c' → Q .normal c' w') : (Code.region id ops true).wp P Q c w := by
  refine wp_region_any hm ?_
  have hd' := drawOk (free := []) hd
  have hnone : ∀ i, ¬ Sof (Array.replicate ops.size false) i := by
    intro i hi
    unfold Sof at hi
    simp only [Array.getD_eq_getD_getElem?, Array.getElem?_replicate] at hi
    split at hi <;> simp at hi
  refine draw_any (n := n) hd' (a0 := a) hQ ops.size (Array.replicate ops.size false) c { w with drawn := w.drawn + 1 } I β h [] plan [] (fun e he => by cases he) ?_ (by simp) (fun i hi => absurd hi (hnone i)) (Ext.heapEq rfl rfl rfl rfl) (r.heapEq rfl) (f.heapEq rfl) ?_
  · unfold unl
    refine Nat.le_trans List.countP_le_length (by simp)
  · exact ⟨by simp, ⟨[], rfl⟩, hk, fun i hi => absurd hi (hnone i), (fun i hi => by cases hi), (fun l1 i v l2 hl => by cases l1 <;> cases hl), (fun l1 i v l2 hl => by cases l1 <;> cases hl)⟩

end
end Go.AL
end

section
/- Drawn regions with two effects in no order: whichever comes first, one of two plans serves. No condition. -/
namespace Go.AL
set_option linter.unusedVariables false
set_option linter.unusedSimpArgs false
section
variable {P : Program} {n : Nat}
theorem putK_imp0 {a : Fr} {dst : Option Tmp} {v : AV} {K K' : Fr → Prop} (hK : ∀ a, K a → K' a) (hk : putK n dst a v K) : putK n dst a v K' := by
  cases dst with
  | none => exact hK _ hk
  | some d => exact ⟨hk.1, hK _ hk.2⟩
theorem guardK_imp0 {a : Fr} {ops : List Oper} {g : Option (Nat × Bool)} {K K' : Bool → Prop} (hK : ∀ b, K b → K' b) (hk : guardK ops g a K) : guardK ops g a K' := by
  cases g with
  | none => exact hK _ hk
  | some x =>
    obtain ⟨j, want⟩ := x
    simp only [guardK] at hk ⊢
    cases hs : gslot ops j with
    | none => simp [hs] at hk
    | some t =>
      simp only [hs] at hk ⊢
      cases ha : a t with
      | bool b => simp only [ha] at hk ⊢; exact ⟨fun e => hK _ (hk.1 e), fun e => hK _ (hk.2 e)⟩
      | tup l => cases l with
        | nil => simp only [ha] at hk ⊢; exact hK _ hk
        | cons _ _ => simp [ha] at hk
      | _ => simp [ha] at hk
theorem draw_two {ops : Array Oper} {plan1 plan2 : Plan} {A B : Nat} (hd1 : DrawOk ops.toList plan1 [A]) (hd2 : DrawOk ops.toList plan2 [B]) {K : Fr → Heap → Prop} {a0 : Fr} {Q : Exit → Act → World → Prop} {I0 : Nat → Prop} {β0 : Nat → Nat} {h0 : Heap} {w0 : World}
    (hQ : ∀ a' h' I' β' c' w', K a' h' → Ext I0 β0 h0 w0 I' β' h' w' → Rel I' β' h' w' → FRel I' β' h'.length w' n a' c' → Q .normal c' w') (hA : A < ops.toList.length) :
    ∀ (fuel : Nat) (listed : Array Bool) (c : Act) (w : World) (I : Nat → Prop) (β : Nat → Nat) (h : Heap) (hist : List (Nat × AV)) (rest1 rest2 : Plan) (done : List (Nat × Fr × AV)),
      (∀ i, i < ops.toList.length → i ∉ hist.map (·.1) → i = A ∨ i = B ∨ A ∈ (presOf ops.toList).getD i [] ∨ B ∈ (presOf ops.toList).getD i []) → A ∉ hist.map (·.1) → B ∉ hist.map (·.1) →
      unl ops.toList.length listed ≤ fuel → listed.size = ops.toList.length → (∀ i, Sof listed i → ∀ e, e ∈ edgesOf ops.toList i → Sof listed e) → Ext I0 β0 h0 w0 I β h w → Rel I β h w → FRel I β h.length w n (frm ops.toList a0 (filt listed hist)) c →
      Inv P n ops.toList plan1 K a0 (Sof listed) hist rest1 h done → Inv P n ops.toList plan2 K a0 (Sof listed) hist rest2 h done → wpAny P .any ops Q fuel listed c w := by
  intro fuel
  have ready_nil : ∀ listed : Array Bool, listed.size = ops.toList.length → Region.ready .any ops listed = [] → ∀ i, i < ops.toList.length → Sof listed i := by
    intro listed hsz hr i
    induction i using Nat.strongRecOn with
    | _ i ih =>
      intro hi
      apply Classical.byContradiction
      intro hs
      have hio : i < ops.size := by simpa using hi
      have : i ∈ Region.ready .any ops listed := by
        rw [mem_ready]
        refine ⟨?_, ops[i], Array.getElem?_eq_getElem hio, fun e he hb => ?_⟩
        · have hil : i < listed.size := by omega
          unfold Sof at hs
          simp only [Array.getD_eq_getD_getElem?, Array.getElem?_eq_getElem hil, Option.getD_some] at hs ⊢
          simpa using hs
        · have hem : e.on ∈ edgesOf ops.toList i := by
            have : ops.toList[i]? = some ops[i] := by simp [hio]
            simp only [edgesOf, this]
            exact List.mem_map.2 ⟨e, List.mem_filter.2 ⟨by simpa using he, hb⟩, rfl⟩
          have := hd1.back i hi _ hem
          exact ih _ this (by omega)
      rw [hr] at this
      cases this
  induction fuel with
  | zero =>
    intro listed c w I β h hist rest1 rest2 done hcond hnA hnB hu hsz hc he hr hf hv1 hv2
    exfalso
    apply hnA
    apply hv1.ran
    apply Classical.byContradiction
    intro hs
    have := unl_lt hA (by omega) hs
    omega
  | succ fuel ih =>
    intro listed c w I β h hist rest1 rest2 done hcond hnA hnB hu hsz hc he hr hf hv1 hv2
    refine ⟨fun hrd => absurd (hv1.ran _ (ready_nil listed hsz hrd A hA)) hnA, fun i hi => ?_⟩
    have hi' := hi
    rw [mem_ready] at hi'
    obtain ⟨hil0, o, ho, hed⟩ := hi'
    have hio : i < ops.size := (Array.getElem?_eq_some_iff.1 ho).1
    have hin : i < ops.toList.length := by simpa using hio
    have hil : i < listed.size := by omega
    by_cases hm : i ∈ hist.map (·.1)
    · refine draw_pick hd1 fuel listed c w I β h hist rest1 done i (fun hx => absurd hm hx) (fun listed1 c1 w1 I1 β1 h1 hist1 r1 done1 el heq _ hu1 hsz1 hc1 he1 hr1 hf1 hv1' => ?_) hu hsz hc he hr hf hv1 hi
      obtain ⟨rfl, rfl, rfl, rfl⟩ := heq hm
      subst el
      refine ih _ c1 w1 I1 β1 _ _ _ rest2 _ hcond hnA hnB hu1 hsz1 hc1 he1 hr1 hf1 hv1' ?_
      refine ⟨hv2.ord, hv2.sub, hv2.run, fun j hj => ?_, fun j hj he => (Sof_set hil).2 (.inr (hv2.effs j hj he)), fun a b d f g k => hv2.val a b d f g (fun x => k ((Sof_set hil).2 (.inr x))), fun a b d f g k x y => hv2.kept a b d f g k (fun z => x ((Sof_set hil).2 (.inr z))) y⟩
      rw [Sof_set hil] at hj
      rcases hj with rfl | hj
      · exact hm
      · exact hv2.ran j hj
    · have hedge : ∀ e, e ∈ edgesOf ops.toList i → Sof listed e := by
        intro e hem
        have ho' : ops.toList[i]? = some o := by simpa using ho
        simp only [edgesOf, ho', List.mem_map, List.mem_filter] at hem
        obtain ⟨x, ⟨h1, h2⟩, rfl⟩ := hem
        exact hed x (by simpa using h1) h2
      rcases hcond i hin hm with rfl | rfl | hp | hp
      · exact draw_pick hd1 fuel listed c w I β h hist rest1 done i (fun _ e he => .inr (List.mem_singleton.1 he)) (fun listed1 c1 w1 I1 β1 h1 hist1 r1 done1 el _ hF1 => draw_any hd1 hQ fuel listed1 c1 w1 I1 β1 h1 hist1 r1 done1 (hF1 hm)) hu hsz hc he hr hf hv1 hi
      · exact draw_pick hd2 fuel listed c w I β h hist rest2 done i (fun _ e he => .inr (List.mem_singleton.1 he)) (fun listed1 c1 w1 I1 β1 h1 hist1 r1 done1 el _ hF1 => draw_any hd2 hQ fuel listed1 c1 w1 I1 β1 h1 hist1 r1 done1 (hF1 hm)) hu hsz hc he hr hf hv2 hi
      · exact absurd (hv1.ran _ (pre_in hd1 hc i hin hedge A hp)) hnA
      · exact absurd (hv1.ran _ (pre_in hd1 hc i hin hedge B hp)) hnB

def keep0 (keep : Bool) (x : Nat × Fr × AV) (l : List (Nat × Fr × AV)) : List (Nat × Fr × AV) := match keep with | true => x :: l | false => l
/-- One more of a plan is looked at, its value known. -/
theorem absorb_v {ops : List Oper} {plan : Plan} {free : List Nat} (hd : DrawOk ops plan free) {K : Fr → Heap → Prop} {a0 : Fr} {S : Nat → Prop} {hist : List (Nat × AV)} {i : Nat} {keep : Bool} {rs : List Nat} {rest : Plan} {h : Heap} {done done' : List (Nat × Fr × AV)}
    (hv : Inv P n ops plan K a0 S hist ((i, keep, rs) :: rest) h done) {o : Oper} (ho : ops[i]? = some o) (hp : isEff ops i = false) (v : AV) (hrun : adr P n ops rest (pt o.dst (frm ops a0 hist) v) h done' K) (hval : Valid P n ops i (frm ops a0 hist) v h)
    (hdone : (gval ops o.guard (frm ops a0 hist) = some true → done' = keep0 keep (i, frm ops a0 hist, v) done) ∧ (done' = keep0 keep (i, frm ops a0 hist, v) done ∨ done' = done)) :
    Inv P n ops plan K a0 S ((i, v) :: hist) rest h done' := by
  have hslot : gslot ops i = o.dst := by simp [gslot, ho]
  have hplan : (i, keep, rs) ∈ plan := by obtain ⟨p, hp⟩ := hv.sub; rw [← hp]; simp
  have hni : i ∉ hist.map (·.1) := by
    have hnd := hd.nodup
    rw [← hv.ord] at hnd
    have h2 := List.nodup_append.1 hnd
    intro hm
    exact h2.2.2 i (by simpa using hm) i (by simp) rfl
  refine ⟨by simpa using hv.ord, by obtain ⟨p, hp⟩ := hv.sub; exact ⟨p ++ [(i, keep, rs)], by simpa using hp⟩, by simp only [frm, hslot]; exact hrun, fun j hj => List.mem_cons_of_mem _ (hv.ran j hj), fun j hj he => ?_, fun l1 j u l2 hl hj => ?_, fun l1 j u l2 hl hy hj hgv => ?_⟩
  · rcases List.mem_cons.1 hj with e | hj
    · rw [e] at he
      simp only at he
      rw [hp] at he
      cases he
    · exact hv.effs j hj he
  · cases l1 with
    | nil =>
      simp only [List.nil_append, List.cons.injEq, Prod.mk.injEq] at hl
      obtain ⟨⟨rfl, rfl⟩, rfl⟩ := hl
      exact hval
    | cons y l1 =>
      simp only [List.cons_append, List.cons.injEq] at hl
      exact hv.val l1 j u l2 hl.2 hj
  · cases l1 with
    | nil =>
      simp only [List.nil_append, List.cons.injEq, Prod.mk.injEq] at hl
      obtain ⟨⟨rfl, rfl⟩, rfl⟩ := hl
      obtain ⟨y, hy, hy1, hy2⟩ := hy
      have key : ∀ (l : Plan), (l.map (·.1)).Nodup → ∀ y z, y ∈ l → z ∈ l → y.1 = z.1 → y = z := by
        intro l
        induction l with
        | nil => intro _ y z hy; cases hy
        | cons a l ih =>
          intro hn y z hy hz e
          simp only [List.map_cons, List.nodup_cons] at hn
          rcases List.mem_cons.1 hy with e1 | k1 <;> rcases List.mem_cons.1 hz with e2 | k2
          · rw [e1, e2]
          · subst e1; exact absurd (List.mem_map.2 ⟨z, k2, e.symm⟩) hn.1
          · subst e2; exact absurd (List.mem_map.2 ⟨y, k1, e⟩) hn.1
          · exact ih hn.2 y z k1 k2 e
      have := key plan hd.nodup y _ hy hplan hy1
      rw [this] at hy2
      simp only at hy2
      rw [hdone.1 (hgv o ho), hy2]
      simp [keep0]
    | cons y l1 =>
      simp only [List.cons_append, List.cons.injEq] at hl
      have hne : j ≠ i := by
        rintro rfl
        exact hni (by rw [hl.2]; simp)
      have h4 : done'.find? (fun x => x.1 == j) = done.find? (fun x => x.1 == j) := by
        rcases hdone.2 with e | e
        · rw [e]
          cases keep with
          | false => rfl
          | true => simp [keep0, List.find?_cons, show (i == j) = false from beq_eq_false_iff_ne.2 (Ne.symm hne)]
        · rw [e]
      rw [h4]
      exact hv.kept l1 j u l2 hl.2 hy hj hgv

/-- The quiet beginning of a plan; what was kept is handed on. -/
def adrX (P : Program) (n : Nat) (all : List Oper) : Plan → Fr → Heap → List (Nat × Fr × AV) → (Fr → List (Nat × Fr × AV) → Prop) → Prop
  | [], a, h, done, K => K a done
  | (i, keep, _) :: rest, a, h, done, K => (match all[i]? with
    | none => False
    | some o => guardK all o.guard a fun run => match run with
      | true => ∃ v, aop P o.op a h (fun v' h' => v' = v ∧ h' = h) ∧ putK n o.dst a v fun a' => adrX P n all rest a' h (keep0 keep (i, a, v) done) K
      | false => putK n o.dst a .undef fun a' => adrX P n all rest a' h done K)
def plain1 (ops : List Oper) (x : Nat × Bool × List Nat) : Bool := !isEff ops x.1
theorem adr_app {ops : List Oper} {K : Fr → Heap → Prop} {tail : Plan} {h : Heap} : ∀ (p : Plan) (a : Fr) (done : List (Nat × Fr × AV)), p.all (plain1 ops) = true → adrX P n ops p a h done (fun a' done' => adr P n ops tail a' h done' K) → adr P n ops (p ++ tail) a h done K
  | [], a, done, _, hk => hk
  | (i, keep, rs) :: p, a, done, hp, hk => by
    simp only [List.all_cons, Bool.and_eq_true] at hp
    obtain ⟨hpe, hp2⟩ := hp
    simp only [plain1, Bool.not_eq_true'] at hpe
    simp only [List.cons_append]
    unfold adrX at hk
    unfold adr
    cases ho : ops[i]? with
    | none => rw [ho] at hk; exact hk.elim
    | some o =>
      rw [ho] at hk
      have hpo : pureOp o.op = true := by simpa [isEff, ho] using hpe
      refine guardK_imp0 (fun b hb => ?_) hk
      cases b with
      | true =>
        simp only [hpo] at hb ⊢
        obtain ⟨v, h1, h2⟩ := hb
        exact ⟨v, h1, putK_imp0 (fun a' h3 => adr_app p a' _ hp2 h3) h2⟩
      | false => exact putK_imp0 (fun a' h3 => adr_app p a' done hp2 h3) hb
theorem adrX_mono {ops : List Oper} {h : Heap} {K K' : Fr → List (Nat × Fr × AV) → Prop} (hK : ∀ a d, K a d → K' a d) : ∀ (p : Plan) (a : Fr) (done : List (Nat × Fr × AV)), adrX P n ops p a h done K → adrX P n ops p a h done K'
  | [], a, done, hk => hK _ _ hk
  | (i, keep, rs) :: p, a, done, hk => by
    unfold adrX at hk ⊢
    cases ho : ops[i]? with
    | none => rw [ho] at hk; exact hk.elim
    | some o =>
      rw [ho] at hk
      refine guardK_imp0 (fun b hb => ?_) hk
      cases b with
      | true =>
        obtain ⟨v, h1, h2⟩ := hb
        exact ⟨v, h1, putK_imp0 (fun a' h3 => adrX_mono hK p a' _ h3) h2⟩
      | false => exact putK_imp0 (fun a' h3 => adrX_mono hK p a' done h3) hb
theorem pre_absorb {ops : List Oper} {plan1 plan2 tail1 tail2 : Plan} {free1 free2 : List Nat} (hd1 : DrawOk ops plan1 free1) (hd2 : DrawOk ops plan2 free2) {K : Fr → Heap → Prop} {a0 : Fr} {S : Nat → Prop} {h : Heap} : ∀ (p : Plan) (hist : List (Nat × AV)) (done : List (Nat × Fr × AV)), p.all (plain1 ops) = true →
    adrX P n ops p (frm ops a0 hist) h done (fun a' d => adr P n ops tail1 a' h d K ∧ adr P n ops tail2 a' h d K) → Inv P n ops plan1 K a0 S hist (p ++ tail1) h done → Inv P n ops plan2 K a0 S hist (p ++ tail2) h done →
    ∃ l d, Inv P n ops plan1 K a0 S (l ++ hist) tail1 h d ∧ Inv P n ops plan2 K a0 S (l ++ hist) tail2 h d ∧ l.map (·.1) = (p.map (·.1)).reverse
  | [], hist, done, _, _, hv1, hv2 => ⟨[], done, hv1, hv2, rfl⟩
  | (i, keep, rs) :: p, hist, done, hp, hk, hv1, hv2 => by
    simp only [List.all_cons, Bool.and_eq_true] at hp
    obtain ⟨hpe, hp2⟩ := hp
    simp only [plain1, Bool.not_eq_true'] at hpe
    simp only [List.cons_append] at hv1 hv2
    unfold adrX at hk
    cases ho : ops[i]? with
    | none => rw [ho] at hk; exact hk.elim
    | some o =>
      rw [ho] at hk
      have hpo : pureOp o.op = true := by simpa [isEff, ho] using hpe
      have hslot : gslot ops i = o.dst := by simp [gslot, ho]
      obtain ⟨r, hg, hk⟩ := guardK_sound hk
      have go : ∀ v done', inb n o.dst → adrX P n ops p (pt o.dst (frm ops a0 hist) v) h done' (fun a' d => adr P n ops tail1 a' h d K ∧ adr P n ops tail2 a' h d K) → Valid P n ops i (frm ops a0 hist) v h →
          ((gval ops o.guard (frm ops a0 hist) = some true → done' = keep0 keep (i, frm ops a0 hist, v) done) ∧ (done' = keep0 keep (i, frm ops a0 hist, v) done ∨ done' = done)) →
          ∃ l d, Inv P n ops plan1 K a0 S (l ++ hist) tail1 h d ∧ Inv P n ops plan2 K a0 S (l ++ hist) tail2 h d ∧ l.map (·.1) = (((i, keep, rs) :: p).map (·.1)).reverse := by
        intro v done' hinb hrun hval hdn
        have w1 := absorb_v hd1 hv1 ho hpe v (adr_app p _ _ hp2 (adrX_mono (fun a' d x => x.1) p _ _ hrun)) hval hdn
        have w2 := absorb_v hd2 hv2 ho hpe v (adr_app p _ _ hp2 (adrX_mono (fun a' d x => x.2) p _ _ hrun)) hval hdn
        obtain ⟨l, d, q1, q2, q3⟩ := pre_absorb hd1 hd2 p ((i, v) :: hist) done' hp2 (by simp only [frm, hslot]; exact hrun) w1 w2
        exact ⟨l ++ [(i, v)], d, by simpa using q1, by simpa using q2, by simp [q3]⟩
      cases r with
      | true =>
        obtain ⟨v, h1, h2⟩ := hk
        have h3 := putK_sound h2
        exact go v _ h3.1 h3.2 ⟨o, ho, h3.1, .inl ⟨hg, hpo, h1⟩⟩ ⟨fun _ => rfl, .inl rfl⟩
      | false =>
        have h3 := putK_sound hk
        exact go .undef _ h3.1 h3.2 ⟨o, ho, h3.1, .inr ⟨hg, rfl, hpo⟩⟩ ⟨fun e => (by rw [hg] at e; cases e), .inr rfl⟩

def twoChk (ops : List Oper) (pre tail1 tail2 : Plan) : Bool :=
  match tail1, tail2 with
  | (A, _, _) :: _, (B, _, _) :: _ => drawChkF ops (pre ++ tail1) [A] && drawChkF ops (pre ++ tail2) [B] && pre.all (plain1 ops) && decide (A < ops.length) && decide (A ∉ pre.map (·.1)) && decide (B ∉ pre.map (·.1)) &&
      (List.range ops.length).all fun i => (pre.map (·.1)).contains i || decide (i = A) || decide (i = B) || ((presOf ops).getD i []).contains A || ((presOf ops).getD i []).contains B
  | _, _ => false
theorem draw2_sound {ops : Array Oper} {pre tail1 tail2 : Plan} {id : Nat} (hm : P.follows .mixedOrders = true) (hd : twoChk ops.toList pre tail1 tail2 = true) {K : Fr → Heap → Prop} {a : Fr} {h : Heap} {Q : Exit → Act → World → Prop} {I : Nat → Prop} {β : Nat → Nat} {w : World} {c : Act}
    (r : Rel I β h w) (f : FRel I β h.length w n a c) (hk : adrX P n ops.toList pre a h [] fun a' d => adr P n ops.toList tail1 a' h d K ∧ adr P n ops.toList tail2 a' h d K)
    (hQ : ∀ a' h' I' β' c' w', K a' h' → Ext I β h w I' β' h' w' → Rel I' β' h' w' → FRel I' β' h'.length w' n a' c' → Q .normal c' w') : (Code.region id ops true).wp P Q c w := by
  refine wp_region_any hm ?_
  unfold twoChk at hd
  split at hd
  · rename_i A _ _ t1 B _ _ t2
    simp only [Bool.and_eq_true, decide_eq_true_eq, List.all_eq_true, List.mem_range, Bool.or_eq_true, List.contains_iff_mem] at hd
    obtain ⟨⟨⟨⟨⟨⟨hd1, hd2⟩, hp⟩, hA⟩, hnA⟩, hnB⟩, hcond⟩ := hd
    have hp' : pre.all (plain1 ops.toList) = true := by rw [List.all_eq_true]; exact hp
    have hd1' := drawOk hd1
    have hd2' := drawOk hd2
    have hnone : ∀ i, ¬ Sof (Array.replicate ops.size false) i := by
      intro i hi
      unfold Sof at hi
      simp only [Array.getD_eq_getD_getElem?, Array.getElem?_replicate] at hi
      split at hi <;> simp at hi
    have start : ∀ (pl : Plan), adr P n ops.toList pl a h [] K → Inv P n ops.toList pl K a (Sof (Array.replicate ops.size false)) [] pl h [] := fun pl hr =>
      ⟨by simp, ⟨[], rfl⟩, hr, fun i hi => absurd hi (hnone i), (fun i hi => by cases hi), (fun l1 i v l2 hl => by cases l1 <;> cases hl), (fun l1 i v l2 hl => by cases l1 <;> cases hl)⟩
    obtain ⟨l, d, q1, q2, q3⟩ := pre_absorb (S := Sof (Array.replicate ops.size false)) hd1' hd2' (a0 := a) pre [] [] hp' hk (start _ (adr_app pre a [] hp' (adrX_mono (fun a' d x => x.1) pre a [] hk))) (start _ (adr_app pre a [] hp' (adrX_mono (fun a' d x => x.2) pre a [] hk)))
    simp only [List.append_nil] at q1 q2
    have hmem : ∀ i, i ∈ l.map (·.1) ↔ i ∈ pre.map (·.1) := fun i => by rw [q3]; simp
    have hfl : filt (Array.replicate ops.size false) l = [] := by
      unfold filt
      rw [List.filter_eq_nil_iff]
      intro y hy hsy
      exact hnone y.1 hsy
    refine draw_two (n := n) hd1' hd2' (a0 := a) hQ hA ops.size (Array.replicate ops.size false) c { w with drawn := w.drawn + 1 } I β h l _ _ d (fun i hi hni => ?_) (fun x => hnA ((hmem A).1 x)) (fun x => hnB ((hmem B).1 x)) ?_ (by simp) (fun i hi => absurd hi (hnone i)) (Ext.heapEq rfl rfl rfl rfl) (r.heapEq rfl) ?_ q1 q2
    · rcases hcond i hi with (((x | x) | x) | x) | x
      · exact absurd ((hmem i).2 x) hni
      · exact .inl x
      · exact .inr (.inl x)
      · exact .inr (.inr (.inl x))
      · exact .inr (.inr (.inr x))
    · unfold unl
      refine Nat.le_trans List.countP_le_length (by simp)
    · rw [hfl]; exact f.heapEq rfl
  · cases hd

/-- A plan, or two with one beginning: the mark tells how long the parts are. -/
def twoOf : Plan → Option (Plan × Plan × Plan)
  | (i, _, [p, q]) :: rest => if i = 1000000 then some (rest.take p, (rest.drop p).take q, rest.drop (p + q)) else none
  | _ => none
def adrD (P : Program) (n : Nat) (ops : List Oper) (plan : Plan) (a : Fr) (h : Heap) (K : Fr → Heap → Prop) : Prop :=
  match twoOf plan with
  | none => adr P n ops plan a h [] K
  | some (p, t1, t2) => adrX P n ops p a h [] fun a' d => adr P n ops t1 a' h d K ∧ adr P n ops t2 a' h d K
def drawChkD (ops : List Oper) (plan : Plan) : Bool :=
  match twoOf plan with
  | none => drawChk ops plan
  | some (p, t1, t2) => twoChk ops p t1 t2
theorem drawD_sound {ops : Array Oper} {plan : Plan} {id : Nat} (hm : P.follows .mixedOrders = true) (hd : drawChkD ops.toList plan = true) {K : Fr → Heap → Prop} {a : Fr} {h : Heap} {Q : Exit → Act → World → Prop} {I : Nat → Prop} {β : Nat → Nat} {w : World} {c : Act}
    (r : Rel I β h w) (f : FRel I β h.length w n a c) (hk : adrD P n ops.toList plan a h K)
    (hQ : ∀ a' h' I' β' c' w', K a' h' → Ext I β h w I' β' h' w' → Rel I' β' h' w' → FRel I' β' h'.length w' n a' c' → Q .normal c' w') : (Code.region id ops true).wp P Q c w := by
  unfold adrD at hk
  unfold drawChkD at hd
  cases ht : twoOf plan with
  | none => rw [ht] at hk hd; exact draw_sound hm hd r f hk hQ
  | some x => obtain ⟨p, t1, t2⟩ := x; rw [ht] at hk hd; exact draw2_sound hm hd r f hk hQ
end
end Go.AL
end

section
/- The small logic's heaps, objects renamed, the forgotten left out. No condition. -/
namespace Go.AL
set_option linter.unusedVariables false
set_option linter.unusedSimpArgs false
mutual
/-- A value with its objects renamed; of one that is left out nothing is known. -/
def AV.ren (ρ : Nat → Option Nat) : AV → AV
  | .op id k e off => match ρ id with | some j => .op j k e off | none => .any
  | .osl id k i len cap ex => match ρ id with | some j => .osl j k i len cap ex | none => .any
  | .om id => match ρ id with | some j => .om j | none => .any
  | .fn f fs cs => .fn f (rens ρ fs) (rens ρ cs)
  | .ifc t v => .ifc t (v.ren ρ)
  | .agg cs => .agg (rens ρ cs)
  | .tup cs => .tup (rens ρ cs)
  | .int k n => .int k n
  | .bool b => .bool b
  | .str s => .str s
  | .flt k n => .flt k n
  | .nilp => .nilp
  | .nils => .nils
  | .nilf => .nilf
  | .nili => .nili
  | .nilm => .nilm
  | .ip c o => .ip c o
  | .isl k es => .isl k es
  | .any => .any
def rens (ρ : Nat → Option Nat) : List AV → List AV
  | [] => []
  | v :: r => v.ren ρ :: rens ρ r
end
theorem rens_length (ρ : Nat → Option Nat) : ∀ l, (rens ρ l).length = l.length
  | [] => rfl
  | v :: r => by simp [rens, rens_length ρ r]
theorem rens_get {ρ : Nat → Option Nat} : ∀ {l : List AV} {j : Nat} {u : AV}, (rens ρ l)[j]? = some u → ∃ u0, l[j]? = some u0 ∧ u = u0.ren ρ
  | [], j, u, h => by simp [rens] at h
  | v :: r, 0, u, h => by simp [rens] at h; exact ⟨v, rfl, h.symm⟩
  | v :: r, j + 1, u, h => by simp [rens] at h; obtain ⟨u0, h1, h2⟩ := rens_get h; exact ⟨u0, by simpa using h1, h2⟩
def Ob.ren (ρ : Nat → Option Nat) : Ob → Ob
  | .dead => .dead
  | .arr k es ex => .arr k (es.map (rens ρ)) ex
  | .map es c => .map (es.map fun x => (x.1.ren ρ, x.2.1.ren ρ, x.2.2)) c

section
variable {I : Nat → Prop} {β β' : Nat → Nat} {N N' : Nat} {w : World} {ρ : Nat → Option Nat}
theorem IRel.ren {u : AV} {v : Value} (h : IRel I w u v) : IRel I w (u.ren ρ) v := by
  induction h with
  | int k n => exact .int k n
  | bool b => exact .bool b
  | str s => exact .str s
  | flt k n => exact .flt k n
  | nilp => exact .nilp
  | nils => exact .nils
  | nilf => exact .nilf
  | nili => exact .nili
  | nilm => exact .nilm
  | ip cells off b o vs hb hl hc h1 hr ih => exact .ip cells off b o vs hb hl hc h1 hr
  | isl0 k A c => exact .isl0 k A c
  | isl k es b o c f hne hl hb hk hc ho hr ih => exact .isl k es b o c f hne hl hb hk hc ho hr
  | fn f fs cs fs' cs' h1 h2 _ _ ih1 ih2 =>
    refine .fn f _ _ fs' cs' (by rw [rens_length]; exact h1) (by rw [rens_length]; exact h2) (fun j u v hu hv => ?_) (fun j u v hu hv => ?_)
    · obtain ⟨u0, h3, rfl⟩ := rens_get hu; exact ih1 j u0 v h3 hv
    · obtain ⟨u0, h3, rfl⟩ := rens_get hu; exact ih2 j u0 v h3 hv
  | ifc t u v _ ih => exact .ifc t _ v ih
  | agg cs cs' h1 h2 _ ih =>
    refine .agg _ cs' (by rw [rens_length]; exact h1) h2 (fun j u v hu hv => ?_)
    obtain ⟨u0, h3, rfl⟩ := rens_get hu; exact ih j u0 v h3 hv
  | tup cs cs' h1 _ ih =>
    refine .tup _ cs' (by rw [rens_length]; exact h1) (fun j u v hu hv => ?_)
    obtain ⟨u0, h3, rfl⟩ := rens_get hu; exact ih j u0 v h3 hv
theorem VRel.ren {u : AV} {v : Value} (h : VRel I β N w u v) (hρ : ∀ id j, id < N → ρ id = some j → j < N' ∧ β' j = β id) : VRel I β' N' w (u.ren ρ) v := by
  induction h with
  | imm u v h => exact .imm _ _ h.ren
  | any v => exact .any v
  | op id k e off h =>
    simp only [AV.ren]
    cases hr : ρ id with
    | none => exact .any _
    | some j => obtain ⟨h1, h2⟩ := hρ id j h hr; rw [← h2]; exact .op j k e off h1
  | osl id k i len cap ex c n h h0 h1 h2 h3 h4 =>
    simp only [AV.ren]
    cases hr : ρ id with
    | none => exact .any _
    | some j => obtain ⟨q1, q2⟩ := hρ id j h hr; rw [← q2]; exact .osl j k i len cap ex c n q1 h0 h1 h2 (by rw [q2]; exact h3) h4
  | om id h =>
    simp only [AV.ren]
    cases hr : ρ id with
    | none => exact .any _
    | some j => obtain ⟨h1, h2⟩ := hρ id j h hr; rw [← h2]; exact .om j h1
  | fn f fs cs fs' cs' h1 h2 _ _ ih1 ih2 =>
    refine .fn f _ _ fs' cs' (by rw [rens_length]; exact h1) (by rw [rens_length]; exact h2) (fun j u v hu hv => ?_) (fun j u v hu hv => ?_)
    · obtain ⟨u0, h3, rfl⟩ := rens_get hu; exact ih1 j u0 v h3 hv
    · obtain ⟨u0, h3, rfl⟩ := rens_get hu; exact ih2 j u0 v h3 hv
  | ifc t u v _ ih => exact .ifc t _ v ih
  | agg cs cs' h1 h2 _ ih =>
    refine .agg _ cs' (by rw [rens_length]; exact h1) h2 (fun j u v hu hv => ?_)
    obtain ⟨u0, h3, rfl⟩ := rens_get hu; exact ih j u0 v h3 hv
  | tup cs cs' h1 _ ih =>
    refine .tup _ cs' (by rw [rens_length]; exact h1) (fun j u v hu hv => ?_)
    obtain ⟨u0, h3, rfl⟩ := rens_get hu; exact ih j u0 v h3 hv
theorem ORel.ren {o : Ob} {x : Option Obj} (h : ORel I β N w o x) (hρ : ∀ id j, id < N → ρ id = some j → j < N' ∧ β' j = β id) : ORel I β' N' w (o.ren ρ) x := by
  cases o with
  | dead => trivial
  | arr k es ex =>
    obtain ⟨cur, t, h1, h2, h3, h4, h5⟩ := h
    refine ⟨cur, t, h1, fun i e he => ?_, by simpa using h3, by simpa using h4, fun i e j u he hu => ?_⟩
    · rw [List.getElem?_map] at he
      cases hes : es[i]? with
      | none => rw [hes] at he; simp at he
      | some e0 => rw [hes] at he; simp at he; subst he; rw [rens_length]; exact h2 i e0 hes
    · rw [List.getElem?_map] at he
      cases hes : es[i]? with
      | none => rw [hes] at he; simp at he
      | some e0 =>
        rw [hes] at he; simp at he; subst he
        obtain ⟨u0, hu0, rfl⟩ := rens_get hu
        obtain ⟨v, h6, h7, h8⟩ := h5 i e0 j u0 hes hu0
        exact ⟨v, h6, h7.ren hρ, h8⟩
  | map es c =>
    obtain ⟨es', h1, h2, h3⟩ := h
    refine ⟨es', h1, by simpa using h2, fun j x y hx hy => ?_⟩
    rw [List.getElem?_map] at hx
    cases hes : es[j]? with
    | none => rw [hes] at hx; simp at hx
    | some x0 =>
      rw [hes] at hx; simp at hx; subst hx
      obtain ⟨q1, q2, q3⟩ := h3 j x0 y hes hy
      exact ⟨q1.ren hρ, q2.ren hρ, q3⟩
theorem Ob.ren_dead {o : Ob} (h : o.ren ρ ≠ .dead) : o ≠ .dead := by rintro rfl; exact h rfl
end

/-! ### leaving out -/
def posOf : List Nat → Nat → Option Nat
  | [], _ => none
  | x :: r, id => if x = id then some 0 else (posOf r id).map (· + 1)
theorem posOf_get : ∀ {ids : List Nat} {id j : Nat}, posOf ids id = some j → ids[j]? = some id
  | [], id, j, h => by simp [posOf] at h
  | x :: r, id, j, h => by
    unfold posOf at h
    split at h
    · rename_i e; simp at h; subst h; simp [e]
    · cases hp : posOf r id with
      | none => rw [hp] at h; simp at h
      | some j' => rw [hp] at h; simp at h; subst h; simpa using posOf_get hp
def gcH (ids : List Nat) (h : Heap) : Heap := ids.map fun id => (match h[id]? with | some o => o.ren (posOf ids) | none => .dead)
def gcF (ids : List Nat) (a : Fr) : Fr := fun t => (a t).ren (posOf ids)
def gcB (ids : List Nat) (β : Nat → Nat) : Nat → Nat := fun i => β (ids.getD i 0)
theorem gc_hρ {ids : List Nat} {β : Nat → Nat} {N : Nat} (id j : Nat) (hid : id < N) (h : posOf ids id = some j) : j < ids.length ∧ gcB ids β j = β id := by
  have h1 := posOf_get h
  exact ⟨(List.getElem?_eq_some_iff.1 h1).1, by simp [gcB, List.getD_eq_getElem?_getD, h1]⟩
theorem nodup_get : ∀ {l : List Nat} {i j x : Nat}, l.Nodup → l[i]? = some x → l[j]? = some x → i = j
  | [], i, j, x, _, h, _ => by simp at h
  | y :: r, 0, 0, x, _, _, _ => rfl
  | y :: r, 0, j + 1, x, hn, h, h' => by
    simp at h h'; subst h
    exact absurd (List.mem_of_getElem? h') (List.nodup_cons.1 hn).1
  | y :: r, i + 1, 0, x, hn, h, h' => by
    simp at h h'; subst h'
    exact absurd (List.mem_of_getElem? h) (List.nodup_cons.1 hn).1
  | y :: r, i + 1, j + 1, x, hn, h, h' => by
    simp at h h'
    rw [nodup_get (List.nodup_cons.1 hn).2 h h']
theorem gcH_length {ids : List Nat} {h : Heap} : (gcH ids h).length = ids.length := by simp [gcH]
theorem gcH_get {ids : List Nat} {h : Heap} {i : Nat} {o : Ob} (ho : (gcH ids h)[i]? = some o) (hd : o ≠ .dead) : ∃ id o0, ids[i]? = some id ∧ h[id]? = some o0 ∧ o = o0.ren (posOf ids) ∧ o0 ≠ .dead := by
  unfold gcH at ho
  rw [List.getElem?_map] at ho
  cases hi : ids[i]? with
  | none => rw [hi] at ho; simp at ho
  | some id =>
    rw [hi] at ho
    simp only [Option.map_some, Option.some.injEq] at ho
    cases hh : h[id]? with
    | none => rw [hh] at ho; exact absurd ho.symm hd
    | some o0 =>
      rw [hh] at ho
      have ho' : o0.ren (posOf ids) = o := ho
      exact ⟨id, o0, rfl, hh, ho'.symm, Ob.ren_dead (ρ := posOf ids) (by rw [ho']; exact hd)⟩
theorem gcB_get {ids : List Nat} {β : Nat → Nat} {i id : Nat} (h : ids[i]? = some id) : gcB ids β i = β id := by simp [gcB, List.getD_eq_getElem?_getD, h]
section
variable {I : Nat → Prop} {β : Nat → Nat} {h : Heap} {w : World} {ids : List Nat}
theorem Rel.gc (r : Rel I β h w) (hn : ids.Nodup) : Rel I (gcB ids β) (gcH ids h) w := by
  refine ⟨r.imm, fun i o ho hd => ?_, fun i i' o o' ho hd ho' hd' hb => ?_⟩
  · obtain ⟨id, o0, h1, h2, rfl, h3⟩ := gcH_get ho hd
    obtain ⟨q1, q2, q3⟩ := r.obj id o0 h2 h3
    rw [gcB_get h1]
    refine ⟨q1, q2, ?_⟩
    rw [gcH_length]
    exact q3.ren fun id j hid hj => gc_hρ id j hid hj
  · obtain ⟨id, o0, h1, h2, rfl, h3⟩ := gcH_get ho hd
    obtain ⟨id', o0', h1', h2', rfl, h3'⟩ := gcH_get ho' hd'
    rw [gcB_get h1, gcB_get h1'] at hb
    have := r.inj id id' o0 o0' h2 h3 h2' h3' hb
    subst this
    exact nodup_get hn h1 h1'
theorem VRel.gc {u : AV} {v : Value} (f : VRel I β h.length w u v) : VRel I (gcB ids β) (gcH ids h).length w (u.ren (posOf ids)) v := by
  rw [gcH_length]
  exact f.ren fun id j hid hj => gc_hρ id j hid hj
theorem FRel.gc {n : Nat} {a : Fr} {c : Act} (f : FRel I β h.length w n a c) : FRel I (gcB ids β) (gcH ids h).length w n (gcF ids a) c := ⟨fun t => (f.val t).gc, f.size, f.defers⟩
theorem Ext.gc {I0 : Nat → Prop} {β0 : Nat → Nat} {h0 : Heap} {w0 : World} (x : Ext I0 β0 h0 w0 I β h w) (hb : ids.take h0.length = List.range h0.length) : Ext I0 β0 h0 w0 I (gcB ids β) (gcH ids h) w := by
  have hl : h0.length ≤ ids.length := by
    have := congrArg List.length hb
    simp at this
    omega
  have hg : ∀ id, id < h0.length → ids[id]? = some id := fun id hid => by
    have : (ids.take h0.length)[id]? = some id := by rw [hb]; simp [hid]
    rwa [List.getElem?_take_of_lt hid] at this
  refine ⟨x.os, x.tape, x.output, x.size, by rw [gcH_length]; exact hl, fun id hid => by rw [gcB_get (hg id hid)]; exact x.beta id hid, x.sub, x.immnew, fun b hb' => ?_, x.keep, x.bs⟩
  obtain ⟨i, o, ho, hd, rfl⟩ := hb'
  obtain ⟨id, o0, h1, h2, rfl, h3⟩ := gcH_get ho hd
  rw [gcB_get h1]
  exact x.own _ ⟨id, o0, h2, h3, rfl⟩
end
/-- Objects left out: those of 'ids' stay, in this order; the first N are the first N. -/
def GcK (N : Nat) (a : Fr) (h : Heap) (K : Fr → Heap → Prop) : Prop := ∃ ids : List Nat, (ids.Nodup ∧ ids.take N = List.range N) ∧ K (gcF ids a) (gcH ids h)
end Go.AL
end

section
/- Bodies in the small logic: sequences, branches, loops; what a function's body owes; functions of values alone. No condition. -/
namespace Go.AL
set_option linter.unusedVariables false
set_option linter.unusedSimpArgs false
set_option linter.unnecessarySimpa false

def thenK (next : Fr → Heap → Prop) (Q : Exit → Fr → Heap → Prop) : Exit → Fr → Heap → Prop
  | .normal, a, h => next a h
  | e, a, h => Q e a h
def blockK (id : Nat) (Q : Exit → Fr → Heap → Prop) : Exit → Fr → Heap → Prop
  | .exit j, a, h => if j = id then Q .normal a h else Q (.exit j) a h
  | e, a, h => Q e a h

/-- A loop: what holds ahead of each round, and a number that each round lowers. -/
def LoopK (body : (Exit → Fr → Heap → Prop) → Fr → Heap → Prop) (Q : Exit → Fr → Heap → Prop) (a : Fr) (h : Heap) : Prop :=
  ∃ J : Nat → Fr → Heap → Prop, (∃ m, J m a h) ∧ ∀ m a1 h1, J m a1 h1 → body (thenK (fun a2 h2 => (∃ m', m' < m ∧ J m' a2 h2) ∨ GcK h.length a2 h2 fun a3 h3 => ∃ m', m' < m ∧ J m' a3 h3) Q) a1 h1
theorem LoopK.intro {body : (Exit → Fr → Heap → Prop) → Fr → Heap → Prop} {Q : Exit → Fr → Heap → Prop} {a : Fr} {h : Heap} (J : Nat → Fr → Heap → Prop) (m : Nat) (h0 : J m a h)
    (hr : ∀ m a1 h1, J m a1 h1 → body (thenK (fun a2 h2 => (∃ m', m' < m ∧ J m' a2 h2) ∨ GcK h.length a2 h2 fun a3 h3 => ∃ m', m' < m ∧ J m' a3 h3) Q) a1 h1) : LoopK body Q a h := ⟨J, ⟨m, h0⟩, hr⟩
theorem LoopK_congr {body : (Exit → Fr → Heap → Prop) → Fr → Heap → Prop} {Q : Exit → Fr → Heap → Prop} {a : Fr} {h h' : Heap} (e : h = h') : LoopK body Q a h = LoopK body Q a h' := by rw [e]

/-- WHAT A PIECE OF CODE OWES. A loop: what holds ahead of each round, and a number that each round lowers. -/
def asx (P : Program) (n : Nat) (pl : Nat → Plan) : Code → (Exit → Fr → Heap → Prop) → Fr → Heap → Prop
  | .skip, Q, a, h => Q .normal a h
  | .region id ops draw, Q, a, h => (match draw with
    | false => aops P n ops.toList ops.toList a h fun a h => Q .normal a h
    | true => adrD P n ops.toList (pl id) a h fun a h => Q .normal a h)
  | .seq x y, Q, a, h => asx P n pl x (thenK (asx P n pl y Q) Q) a h
  | .cond c x y, Q, a, h => evK a c fun v => match v with | .bool b => (b = true → asx P n pl x Q a h) ∧ (b = false → asx P n pl y Q a h) | _ => False
  | .block id c, Q, a, h => asx P n pl c (blockK id Q) a h
  | .loop c, Q, a, h => LoopK (asx P n pl c) Q a h
  | .exit id, Q, a, h => Q (.exit id) a h
  | .ret, Q, a, h => Q .ret a h
  | .label _, Q, a, h => Q .normal a h
  | _, _, _, _ => False

def codeChk (pl : Nat → Plan) : Code → Bool
  | .region id ops true => drawChkD ops.toList (pl id)
  | .seq x y => codeChk pl x && codeChk pl y
  | .cond _ x y => codeChk pl x && codeChk pl y
  | .block _ c => codeChk pl c
  | .loop c => codeChk pl c
  | _ => true

section
variable {P : Program} {n : Nat} {pl : Nat → Plan}

theorem aop_imp_quiet {op : Op} : True := trivial

theorem asx_sound (hm : P.follows .mixedOrders = true) : ∀ (c : Code), codeChk pl c = true → ∀ (Q : Exit → Fr → Heap → Prop) (a : Fr) (h : Heap), asx P n pl c Q a h → ∀ (I : Nat → Prop) (β : Nat → Nat) (w : World) (ac : Act), Rel I β h w → FRel I β h.length w n a ac →
    ∀ Q' : Exit → Act → World → Prop, (∀ e a' h' I' β' c' w', Q e a' h' → Ext I β h w I' β' h' w' → Rel I' β' h' w' → FRel I' β' h'.length w' n a' c' → Q' e c' w') → c.wp P Q' ac w := by
  intro c
  induction c with
  | skip => intro _ Q a h hk I β w ac r f Q' hQ; exact wp_skip (hQ _ _ _ _ _ _ _ hk (.refl _ _ _ _) r f)
  | region id ops draw =>
    intro hc Q a h hk I β w ac r f Q' hQ
    cases draw with
    | false =>
      refine wp_region ?_
      have := aops_sound (P := P) (n := n) (ops := ops) (Q := Q') ops.toList 0 (fun j => by simp) a h _ I β w ac r f hk (fun a' h' I' β' c' w' hk' => hQ _ a' h' I' β' c' w' hk')
      rwa [Array.length_toList, ← List.range_eq_range'] at this
    | true => exact drawD_sound hm hc r f hk (fun a' h' I' β' c' w' hk' => hQ _ a' h' I' β' c' w' hk')
  | seq x y ihx ihy =>
    intro hc Q a h hk I β w ac r f Q' hQ
    simp only [codeChk, Bool.and_eq_true] at hc
    refine wp_seq (ihx hc.1 _ a h hk I β w ac r f _ (fun e a' h' I' β' c' w' hk' he hr hf => ?_))
    cases e with
    | normal => exact ihy hc.2 Q a' h' hk' I' β' w' c' hr hf _ (fun e2 a2 h2 I2 β2 c2 w2 hk2 he2 => hQ e2 a2 h2 I2 β2 c2 w2 hk2 (he.trans he2))
    | exit j => exact hQ _ _ _ _ _ _ _ hk' he hr hf
    | goto l => exact hQ _ _ _ _ _ _ _ hk' he hr hf
    | ret => exact hQ _ _ _ _ _ _ _ hk' he hr hf
    | panic ch => exact hQ _ _ _ _ _ _ _ hk' he hr hf
    | outgrown => exact hQ _ _ _ _ _ _ _ hk' he hr hf
  | cond x thn els iht ihe =>
    intro hc Q a h hk I β w ac r f Q' hQ
    simp only [codeChk, Bool.and_eq_true] at hc
    obtain ⟨u, hu, hk⟩ := evK_sound f hk
    cases u with
    | bool b =>
      refine wp_cond_split hu.bool_inv (fun e => ?_) (fun e => ?_)
      · exact iht hc.1 Q a h (hk.1 e) I β w ac r f Q' hQ
      · exact ihe hc.2 Q a h (hk.2 e) I β w ac r f Q' hQ
    | _ => exact hk.elim
  | block id c ih =>
    intro hc Q a h hk I β w ac r f Q' hQ
    refine wp_block (ih hc _ a h hk I β w ac r f _ (fun e a' h' I' β' c' w' hk' he hr hf => ?_))
    cases e with
    | exit j =>
      simp only [blockK, Exit.inBlock] at hk' ⊢
      split at hk'
      · rename_i hj; rw [if_pos hj]; exact hQ _ _ _ _ _ _ _ hk' he hr hf
      · rename_i hj; rw [if_neg hj]; exact hQ _ _ _ _ _ _ _ hk' he hr hf
    | normal => exact hQ _ _ _ _ _ _ _ hk' he hr hf
    | goto l => exact hQ _ _ _ _ _ _ _ hk' he hr hf
    | ret => exact hQ _ _ _ _ _ _ _ hk' he hr hf
    | panic ch => exact hQ _ _ _ _ _ _ _ hk' he hr hf
    | outgrown => exact hQ _ _ _ _ _ _ _ hk' he hr hf
  | loop c ih =>
    intro hc Q a h hk I β w ac r f Q' hQ
    obtain ⟨J, ⟨m0, hJ0⟩, hround⟩ := hk
    refine wp_loop_ghost (fun m ac' w' => ∃ I' β' a' h', J m a' h' ∧ Ext I β h w I' β' h' w' ∧ Rel I' β' h' w' ∧ FRel I' β' h'.length w' n a' ac') m0 ⟨I, β, a, h, hJ0, .refl _ _ _ _, r, f⟩ ?_
    rintro m ac' w' ⟨I', β', a', h', hJ, he, hr, hf⟩
    refine ih hc _ a' h' (hround m a' h' hJ) I' β' w' ac' hr hf _ (fun e a2 h2 I2 β2 c2 w2 hk2 he2 hr2 hf2 => ?_)
    cases e with
    | normal =>
      rcases hk2 with ⟨m', hlt, hJ'⟩ | ⟨ids, ⟨hnd, hids⟩, m', hlt, hJ'⟩
      · exact ⟨m', hlt, I2, β2, a2, h2, hJ', he.trans he2, hr2, hf2⟩
      · exact ⟨m', hlt, I2, _, _, _, hJ', (he.trans he2).gc hids, hr2.gc hnd, hf2.gc⟩
    | exit j => exact hQ _ _ _ _ _ _ _ hk2 (he.trans he2) hr2 hf2
    | goto l => exact hQ _ _ _ _ _ _ _ hk2 (he.trans he2) hr2 hf2
    | ret => exact hQ _ _ _ _ _ _ _ hk2 (he.trans he2) hr2 hf2
    | panic ch => exact hQ _ _ _ _ _ _ _ hk2 (he.trans he2) hr2 hf2
    | outgrown => exact hQ _ _ _ _ _ _ _ hk2 (he.trans he2) hr2 hf2
  | exit id => intro _ Q a h hk I β w ac r f Q' hQ; exact wp_exit (hQ _ _ _ _ _ _ _ hk (.refl _ _ _ _) r f)
  | ret => intro _ Q a h hk I β w ac r f Q' hQ; exact wp_ret (hQ _ _ _ _ _ _ _ hk (.refl _ _ _ _) r f)
  | label l => intro _ Q a h hk I β w ac r f Q' hQ; exact wp_label (hQ _ _ _ _ _ _ _ hk (.refl _ _ _ _) r f)
  | rangeFunc _ _ _ _ _ _ => intro _ Q a h hk; exact hk.elim
  | scope _ _ => intro _ Q a h hk; exact hk.elim
  | goto _ => intro _ Q a h hk; exact hk.elim
  | refuse _ => intro _ Q a h hk; exact hk.elim

/-! ### results -/
def resK (P : Program) (a : Fr) (h : Heap) : List ResultVar → (List AV → Prop) → Prop
  | [], K => K []
  | .tmp t :: r, K => resK P a h r fun us => K (a t :: us)
  | .cell p t :: r, K => loadK P t h (a p) fun u => resK P a h r fun us => K (u :: us)
def oneK (us : List AV) (K : AV → Prop) : Prop := match us with | [u] => K u | us => K (.tup us)
def bodyQ (P : Program) (rs : List ResultVar) (Q : AV → Heap → Prop) : Exit → Fr → Heap → Prop
  | .normal, a, h => resK P a h rs fun us => oneK us fun u => Q u h
  | .ret, a, h => resK P a h rs fun us => oneK us fun u => Q u h
  | _, _, _ => False
def fr0 (args : List AV) : Fr := fun t => (args[t]?).getD .undef

def resF (tmps : Array Value) : ResultVar → Sem Value
  | .tmp t => Pure.pure (tmps.getD t undef)
  | .cell a t => do loadVar t (← asAddr (tmps.getD a undef))
theorem results_eq (fn : Func) (tmps : Array Value) : results fn tmps = (do
    let vs ← fn.results.mapM (resF tmps)
    Pure.pure (if h : vs.size = 1 then vs[0] else .tuple vs)) := by
  unfold results
  congr 2

theorem resK_sound {I : Nat → Prop} {β : Nat → Nat} {h : Heap} {w : World} {a : Fr} {c : Act} (r : Rel I β h w) (f : FRel I β h.length w n a c) : ∀ (rs : List ResultVar) (K : List AV → Prop), resK P a h rs K →
    ∃ vs us, (rs.mapM (m := Sem) (resF c.tmps)).run P w = .ok vs w ∧ VRels I β h.length w us vs ∧ K us
  | [], K, hk => ⟨[], [], rfl, .nil, hk⟩
  | .tmp t :: rs, K, hk => by
    obtain ⟨vs, us, h1, h2, h3⟩ := resK_sound r f rs _ hk
    refine ⟨c.tmps.getD t undef :: vs, a t :: us, ?_, .cons (f.val t) h2, h3⟩
    simp only [List.mapM_cons, resF, Sem.run_bind, Sem.run_pure, Result.andThen_ok, h1]
  | .cell p t :: rs, K, hk => by
    obtain ⟨cv, u, e1, hk, e3⟩ := load_ok (P := P) r (f.val p) hk
    obtain ⟨vs, us, h1, h2, h3⟩ := resK_sound r f rs _ hk
    refine ⟨cv :: vs, u :: us, ?_, .cons e3 h2, h3⟩
    have e4 : (do loadVar t (← asAddr (c.tmps.getD p undef)) : Sem Value).run P w = .ok cv w := by
      generalize c.tmps.getD p undef = v at e1
      unfold Instr.loadAt at e1
      cases v with
      | pointer q =>
        cases q with
        | none => simp [Instr.sureAddr] at e1
        | some q => simpa [Instr.sureAddr, asAddr] using e1
      | _ => simp [Instr.sureAddr] at e1
    simp only [List.mapM_cons, resF, Sem.run_bind, Sem.run_pure, Result.andThen_ok]
    simp only [Sem.run_bind] at e4
    rw [e4]
    simp only [Result.andThen_ok, h1]

/-- WHAT A FUNCTION OWES, OUT OF ITS BODY. -/
theorem acalls_of_body (hm : P.follows .mixedOrders = true) {f : FuncId} {fn : Func} {c : Code} {args : List AV} {h : Heap} {Q : AV → Heap → Prop} (hf : P.funcs[f]? = some fn) (hb : fn.body = some c) (hg : good P f = true) (hn : args.length ≤ fn.ntmps) (pl : Nat → Plan) (hc : codeChk pl c = true)
    (hk : asx P fn.ntmps pl c (bodyQ P fn.results.toList Q) (fr0 args) h) : ACalls P f args h Q := by
  refine ⟨hg, fun I β w vs r hv => calls_of_wp hf hb ?_⟩
  have hl : vs.length = args.length := hv.1.symm
  refine asx_sound (n := fn.ntmps) hm c hc _ _ _ hk I β w _ r ⟨fun t => ?_, by simp; omega, rfl⟩ _ (fun e a' h' I' β' c' w' hk' he hr hf => ?_)
  · simp only [fr0, Array.getD_eq_getD_getElem?]
    by_cases ht : t < args.length
    · rw [List.getElem?_eq_getElem ht, Array.getElem?_append_left (by simp; omega)]
      have ht' : t < vs.length := by omega
      simp only [List.getElem?_toArray, List.getElem?_eq_getElem ht', Option.getD_some]
      exact hv.2 t _ _ (List.getElem?_eq_getElem ht) (List.getElem?_eq_getElem ht')
    · rw [List.getElem?_eq_none (by omega), Array.getElem?_append_right (by simp; omega)]
      simp only [Option.getD_none, Array.getElem?_replicate]
      split
      · exact .imm _ _ (.undef _ _)
      · exact .imm _ _ (.undef _ _)
  · have key : resK P a' h' fn.results.toList (fun us => oneK us fun u => Q u h') → bodyPost P fn (fun e w'' => ∃ cv u I'' β'' h'', e = .returned cv ∧ Q u h'' ∧ Ext I β h w I'' β'' h'' w'' ∧ Rel I'' β'' h'' w'' ∧ VRel I'' β'' h''.length w'' u cv) .ret c' w' := by
      intro hk'
      obtain ⟨vs', us, h1, h2, h3⟩ := resK_sound hr hf _ _ hk'
      have hmm : (fn.results.mapM (m := Sem) (resF c'.tmps)).run P w' = .ok vs'.toArray w' := by
        have : fn.results = fn.results.toList.toArray := by simp
        rw [this, List.mapM_toArray, Sem.run_map, h1]
        rfl
      refine ⟨hf.defers, (if h : vs'.toArray.size = 1 then vs'.toArray[0] else .tuple vs'.toArray), ?_, ?_⟩
      · rw [results_eq]
        simp only [Sem.run_bind]
        rw [hmm]
        rfl
      · cases us with
        | nil =>
          have := h2.none
          subst this
          exact ⟨_, _, I', β', h', rfl, h3, he, hr, .tup [] #[] rfl (fun j u v h => by simp at h)⟩
        | cons u us =>
          obtain ⟨v, vs2, rfl, h4, h5⟩ := h2.head
          cases us with
          | nil =>
            have := h5.none
            subst this
            exact ⟨_, _, I', β', h', rfl, h3, he, hr, by simpa using h4⟩
          | cons u2 us =>
            obtain ⟨v2, vs3, rfl, h6, h7⟩ := h5.head
            refine ⟨_, _, I', β', h', rfl, h3, he, hr, ?_⟩
            have h8 := VRels.cons h4 (VRels.cons h6 h7)
            simp only [List.size_toArray, List.length_cons]
            rw [dif_neg (by omega)]
            exact .tup _ _ (by simp [h7.1]) (fun j u v hu hv => h8.2 j u v hu (by simpa using hv))
    cases e with
    | normal => exact key hk'
    | ret => exact key hk'
    | _ => exact hk'.elim

end
end Go.AL
end

section
/- Functions of values alone: what they owe without a heap; what is handed back is frozen; calls of such functions, with what one owns lent to them. No condition. -/
namespace Go.AL
set_option linter.unusedVariables false
set_option linter.unusedSimpArgs false
set_option linter.unnecessarySimpa false

mutual
/-- Nothing of the heap in it. -/
def AV.pure : AV → Bool
  | .op .. => false
  | .osl .. => false
  | .om _ => false
  | .fn _ fs cs => pures fs && pures cs
  | .ifc _ v => v.pure
  | .agg cs => pures cs
  | .tup cs => pures cs
  | .int .. => true
  | .bool _ => true
  | .str _ => true
  | .flt .. => true
  | .nilp => true
  | .nils => true
  | .nilf => true
  | .nili => true
  | .nilm => true
  | .ip .. => true
  | .isl .. => true
  | .any => false
def pures : List AV → Bool
  | [] => true
  | v :: r => v.pure && pures r
end

theorem pures_get {l : List AV} (h : pures l = true) {j : Nat} {u : AV} (hj : l[j]? = some u) : u.pure = true := by
  induction l generalizing j with
  | nil => simp at hj
  | cons v r ih =>
    simp only [pures, Bool.and_eq_true] at h
    cases j with
    | zero => simp at hj; subst hj; exact h.1
    | succ j => simp at hj; exact ih h.2 hj
theorem pures_of {l : List AV} (h : ∀ u, u ∈ l → u.pure = true) : pures l = true := by
  induction l with
  | nil => rfl
  | cons v r ih => simp only [pures, Bool.and_eq_true]; exact ⟨h v (by simp), ih fun u hu => h u (by simp [hu])⟩

theorem VRel.toI {I : Nat → Prop} {β : Nat → Nat} {N : Nat} {w : World} {u : AV} {v : Value} (h : VRel I β N w u v) (hp : u.pure = true) : IRel I w u v := by
  induction h with
  | imm u v h => exact h
  | any _ => simp [AV.pure] at hp
  | op _ _ _ _ _ => simp [AV.pure] at hp
  | osl _ _ _ _ _ _ _ _ _ => simp [AV.pure] at hp
  | om _ _ => simp [AV.pure] at hp
  | fn f fs cs fs' cs' h1 h2 _ _ ih1 ih2 =>
    simp only [AV.pure, Bool.and_eq_true] at hp
    exact .fn f fs cs fs' cs' h1 h2 (fun j u v hu hv => ih1 j u v hu hv (pures_get hp.1 hu)) (fun j u v hu hv => ih2 j u v hu hv (pures_get hp.2 hu))
  | ifc t u v _ ih => exact .ifc t u v (ih (by simpa [AV.pure] using hp))
  | agg cs cs' h1 h2 _ ih => exact .agg cs cs' h1 h2 (fun j u v hu hv => ih j u v hu hv (pures_get (by simpa [AV.pure] using hp) hu))
  | tup cs cs' h1 _ ih => exact .tup cs cs' h1 (fun j u v hu hv => ih j u v hu hv (pures_get (by simpa [AV.pure] using hp) hu))

/-- What an own value is, once nobody writes what it leads to. -/
inductive Frz (h : Heap) : AV → AV → Prop
  | pure (u : AV) : u.pure = true → Frz h u u
  | nils (k : Nat) : Frz h .nils (.isl k [])
  | osl (id k i len cap : Nat) (ex ex' : Bool) (es es' : List (List AV)) : h[id]? = some (.arr k es ex') → i + len ≤ es.length → es'.length = len →
      (∀ (j : Nat) (e e' : List AV), es[i + j]? = some e → es'[j]? = some e' → e'.length = e.length) →
      (∀ (j : Nat) (e e' : List AV) (q : Nat) (u u' : AV), es[i + j]? = some e → es'[j]? = some e' → e[q]? = some u → e'[q]? = some u' → Frz h u u') → Frz h (.osl id k i len cap ex) (.isl k es')
  | op (id k e off : Nat) (ex' : Bool) (es : List (List AV)) (c c' : List AV) : h[id]? = some (.arr k es ex') → es[e]? = some c → c'.length = c.length →
      (∀ (q : Nat) (u u' : AV), c[q]? = some u → c'[q]? = some u' → Frz h u u') → Frz h (.op id k e off) (.ip c' off)
  | fn (f : Fn) (fs cs fs' cs' : List AV) : fs'.length = fs.length → cs'.length = cs.length → (∀ (q : Nat) (u u' : AV), fs[q]? = some u → fs'[q]? = some u' → Frz h u u') → (∀ (q : Nat) (u u' : AV), cs[q]? = some u → cs'[q]? = some u' → Frz h u u') →
      Frz h (.fn f fs cs) (.fn f fs' cs')
  | ifc (t : TypeId) (u u' : AV) : Frz h u u' → Frz h (.ifc t u) (.ifc t u')
  | agg (cs cs' : List AV) : cs'.length = cs.length → (∀ (q : Nat) (u u' : AV), cs[q]? = some u → cs'[q]? = some u' → Frz h u u') → Frz h (.agg cs) (.agg cs')
  | tup (cs cs' : List AV) : cs'.length = cs.length → (∀ (q : Nat) (u u' : AV), cs[q]? = some u → cs'[q]? = some u' → Frz h u u') → Frz h (.tup cs) (.tup cs')

/-- All that the heap holds, too. -/
def IO (I : Nat → Prop) (β : Nat → Nat) (h : Heap) : Nat → Prop := fun b => I b ∨ Own h β b

theorem getElem?_lt {α : Type} {l l' : List α} (h : l'.length = l.length) {j : Nat} {u : α} (hj : l'[j]? = some u) : ∃ v, l[j]? = some v := by
  have := (List.getElem?_eq_some_iff.1 hj).1
  exact ⟨l[j]'(by omega), List.getElem?_eq_getElem (by omega)⟩

theorem Frz.rel {I : Nat → Prop} {β : Nat → Nat} {h : Heap} {w : World} (r : Rel I β h w) {u u' : AV} (hf : Frz h u u') : ∀ {v : Value}, VRel I β h.length w u v → IRel (IO I β h) w u' v := by
  induction hf with
  | pure u hp => intro v hv; exact (hv.toI hp).mono (fun b hb => .inl hb) (fun _ _ => rfl)
  | nils k => intro v hv; rw [hv.nils_inv]; exact .isl0 k none 0
  | osl id k i len cap ex ex' es es' hid hle hl hlen _ ih =>
    intro v hv
    obtain ⟨c, n, rfl, hidl, h1, h2, h3, h4, h5⟩ := hv.osl_inv
    obtain ⟨q1, q2, cur, t, hb, hk, hs, _, hcell⟩ := r.obj id _ hid (by simp)
    cases es' with
    | nil => simp at hl; subst hl; exact .isl0 _ _ _
    | cons e0 es0 =>
      rw [← hl]
      refine .isl k (e0 :: es0) (β id) (i * k) c (fun j q => (cur[(i + j) * k + q]?).getD undef) (by simp) (by omega) (.inr ⟨id, _, hid, by simp, rfl⟩) (fun j e' he' => ?_) (fun j e' q u' he' hu' => ?_) (fun j e' q u' he' hu' => ?_) (fun j e' q u' he' hu' => ?_)
      all_goals
        have hj := (List.getElem?_eq_some_iff.1 he').1
        have he : es[i + j]? = some (es[i + j]'(by omega)) := List.getElem?_eq_getElem (by omega)
        have hll := hlen j _ e' he he'
      · rw [hll]; exact hk _ _ he
      all_goals
        have hq := (List.getElem?_eq_some_iff.1 hu').1
        have hu : (es[i + j]'(by omega))[q]? = some ((es[i + j]'(by omega))[q]'(by omega)) := List.getElem?_eq_getElem (by omega)
        obtain ⟨v, e1, e2, e3⟩ := hcell _ _ q _ he hu
      · rw [cell_of_block hb, show i * k + (j * k + q) = (i + j) * k + q by rw [Nat.add_mul]; omega, e1]; rfl
      · simp only [e1, Option.getD_some]; exact e3
      · simp only [e1, Option.getD_some]; exact ih j _ e' q _ u' he he' hu hu' e2
  | op id k e off ex' es c c' hid he hl _ ih =>
    intro v hv
    obtain ⟨rfl, hidl⟩ := hv.op_inv
    obtain ⟨vs, hvl, hc, h1, hr⟩ := elem_cells r hid he
    refine .ip c' off (β id) (e * k) vs (.inr ⟨id, _, hid, by simp, rfl⟩) (by omega) hc h1 (fun j u' v hu' hv => ?_)
    obtain ⟨u, hu⟩ := getElem?_lt hl hu'
    exact ih j u u' hu hu' (hr j u v hu hv)
  | fn f fs cs fs' cs' h1 h2 _ _ ih1 ih2 =>
    intro v hv
    obtain ⟨xs, ys, rfl, h3, h4⟩ := hv.fn_inv
    refine .fn f fs' cs' xs ys (by have := h3.1; simp at this; omega) (by have := h4.1; simp at this; omega) (fun j u' v hu' hv => ?_) (fun j u' v hu' hv => ?_)
    · obtain ⟨u, hu⟩ := getElem?_lt h1 hu'
      exact ih1 j u u' hu hu' (h3.2 j u v hu (by simpa using hv))
    · obtain ⟨u, hu⟩ := getElem?_lt h2 hu'
      exact ih2 j u u' hu hu' (h4.2 j u v hu (by simpa using hv))
  | ifc t u u' _ ih =>
    intro v hv
    obtain ⟨v', rfl, hv'⟩ := hv.ifc_inv
    exact .ifc t u' v' (ih hv')
  | agg cs cs' h1 _ ih =>
    intro v hv
    obtain ⟨xs, rfl, h2, h3, h4⟩ := hv.agg_inv
    refine .agg cs' xs (by omega) h3 (fun j u' v hu' hv => ?_)
    obtain ⟨u, hu⟩ := getElem?_lt h1 hu'
    exact ih j u u' hu hu' (h4 j u v hu hv)
  | tup cs cs' h1 _ ih =>
    intro v hv
    obtain ⟨xs, rfl, h2, h4⟩ := hv.tup_inv
    refine .tup cs' xs (by omega) (fun j u' v hu' hv => ?_)
    obtain ⟨u, hu⟩ := getElem?_lt h1 hu'
    exact ih j u u' hu hu' (h4 j u v hu hv)

/-- Pure cells: as they are. -/
theorem Frz.flat {h : Heap} {id k i len cap : Nat} {ex ex' : Bool} {es : List (List AV)} (hid : h[id]? = some (.arr k es ex')) (hle : i + len ≤ es.length) (hp : ∀ e, e ∈ es → pures e = true) : Frz h (.osl id k i len cap ex) (.isl k ((es.drop i).take len)) := by
  have key : ∀ (j : Nat) (e e' : List AV), es[i + j]? = some e → ((es.drop i).take len)[j]? = some e' → e' = e := by
    intro j e e' h1 h2
    rw [List.getElem?_take] at h2
    split at h2
    · rw [List.getElem?_drop, h1] at h2; injection h2 with h2; exact h2.symm
    · cases h2
  refine .osl id k i len cap ex ex' es _ hid hle (by simp; omega) (fun j e e' h1 h2 => by rw [key j e e' h1 h2]) (fun j e e' q u u' h1 h2 h3 h4 => ?_)
  have := key j e e' h1 h2
  subst this
  rw [h3] at h4
  injection h4 with h4
  subst h4
  exact .pure _ (pures_get (hp _ (List.mem_of_getElem? h1)) h3)
theorem Frz.whole {h : Heap} {id k cap : Nat} {ex ex' : Bool} {es : List (List AV)} (hid : h[id]? = some (.arr k es ex')) (hp : ∀ e, e ∈ es → pures e = true) {len : Nat} (hl : len = es.length) : Frz h (.osl id k 0 len cap ex) (.isl k es) := by
  subst hl
  have := Frz.flat (h := h) (id := id) (k := k) (i := 0) (len := es.length) (cap := cap) (ex := ex) (ex' := ex') hid (by simp) hp
  simpa using this
theorem Frz.ptr {h : Heap} {id k e off : Nat} {ex' : Bool} {es : List (List AV)} {c : List AV} (hid : h[id]? = some (.arr k es ex')) (he : es[e]? = some c) (hp : pures c = true) : Frz h (.op id k e off) (.ip c off) :=
  .op id k e off ex' es c c hid he rfl (fun q u u' h1 h2 => by rw [h1] at h2; injection h2 with h2; subst h2; exact .pure _ (pures_get hp h1))

/-! ### functions of values alone -/
def IRels (I : Nat → Prop) (w : World) (us : List AV) (vs : List Value) : Prop :=
  us.length = vs.length ∧ ∀ (j : Nat) (u : AV) (v : Value), us[j]? = some u → vs[j]? = some v → IRel I w u v

structure PExt (I : Nat → Prop) (w : World) (I' : Nat → Prop) (w' : World) : Prop where
  os : w'.os = w.os
  tape : w'.tape = w.tape
  output : w'.output = w.output
  size : w.heap.size ≤ w'.heap.size
  keep : ∀ b, b < w.heap.size → w'.heap[b]? = w.heap[b]?
  sub : ∀ b, I b → I' b
  new : ∀ b, I' b → I b ∨ w.heap.size ≤ b
  lt : ∀ b, I' b → b < w'.heap.size

/-- f at these values hands back r, whatever lies in memory; nothing of what lay there turns. -/
def APure (P : Program) (f : FuncId) (args : List AV) (r : AV) : Prop :=
  good P f = true ∧ ∀ (I : Nat → Prop) (w : World) (vs : List Value), (∀ b, I b → b < w.heap.size) → IRels I w args vs →
    Calls P f vs.toArray w fun e w' => ∃ cv I', e = .returned cv ∧ PExt I w I' w' ∧ IRel I' w' r cv

section
variable {P : Program}

theorem own_nil {β : Nat → Nat} {b : Nat} : ¬ Own [] β b := fun ⟨id, o, h, _⟩ => by simp at h

theorem apure_of {f : FuncId} {args : List AV} {r : AV} (h : ACalls P f args [] fun v h' => Frz h' v r) : APure P f args r := by
  refine ⟨h.1, fun I w vs hI hv => ?_⟩
  refine (h.2 I (fun _ => 0) w vs ⟨hI, fun id o h => by simp at h, fun id id' o o' h => by simp at h⟩ ⟨hv.1, fun j u v hu hv' => .imm _ _ (hv.2 j u v hu hv')⟩).mono ?_
  rintro e w' ⟨cv, u, I', β', h', rfl, hf, he, hr, hvr⟩
  refine ⟨cv, IO I' β' h', rfl, ⟨he.os, he.tape, he.output, he.size, fun b hb => he.keep b hb own_nil, fun b hb => .inl (he.sub b hb), fun b hb => ?_, fun b hb => ?_⟩, hf.rel hr hvr⟩
  · rcases hb with hb | hb
    · rcases he.immnew b hb with h1 | h1 | h1
      · exact .inl h1
      · exact absurd h1 own_nil
      · exact .inr h1
    · rcases he.own b hb with h1 | h1
      · exact absurd h1 own_nil
      · exact .inr h1
  · rcases hb with hb | ⟨id, o, h1, h2, rfl⟩
    · exact hr.imm b hb
    · exact (hr.obj id o h1 h2).1

theorem Rel.pext {I I' : Nat → Prop} {β : Nat → Nat} {h : Heap} {w w' : World} (r : Rel I β h w) {J : Nat → Prop} (hJ : ∀ b, J b → b < w.heap.size) (hp : PExt J w I' w') :
    (∀ b, I b → J b) → Ext I β h w (fun b => I b ∨ (I' b ∧ w.heap.size ≤ b)) β h w' ∧ Rel (fun b => I b ∨ (I' b ∧ w.heap.size ≤ b)) β h w' := by
  intro hIJ
  have hbs : ∀ b n, bsize w b = some n → bsize w' b = some n := fun b n hb => by
    have hlt : b < w.heap.size := by
      unfold bsize at hb
      split at hb
      · rename_i h1; exact (Array.getElem?_eq_some_iff.1 h1).1
      · simp at hb
    rw [bsize_of_heap (hp.keep b hlt)]
    exact hb
  have hm : ∀ u v, VRel I β h.length w u v → VRel (fun b => I b ∨ (I' b ∧ w.heap.size ≤ b)) β h.length w' u v := fun u v hv =>
    hv.mono (fun _ x => .inl x) (fun b hb => hp.keep b (r.imm b hb)) (Nat.le_refl _) (fun _ _ => rfl) hbs
  refine ⟨⟨hp.os, hp.tape, hp.output, hp.size, Nat.le_refl _, fun _ _ => rfl, fun _ x => .inl x, fun b hb => hb.imp id (fun h => .inr h.2), fun _ x => .inl x, fun b hb _ => hp.keep b hb, hbs⟩, ⟨fun b hb => ?_, fun id o h1 h2 => ?_, r.inj⟩⟩
  · rcases hb with hb | hb
    · have := r.imm b hb; have := hp.size; omega
    · exact hp.lt b hb.1
  · obtain ⟨q1, q2, q3⟩ := r.obj id o h1 h2
    refine ⟨by have := hp.size; omega, ?_, by rw [hp.keep _ q1]; exact q3.mono hm⟩
    rintro (h | h)
    · exact q2 h
    · omega

/-- A call of a function of values alone. -/
theorem acalls_pure {f : FuncId} {args : List AV} {r : AV} (hp : APure P f args r) (ha : pures args = true) {h : Heap} {Q : AV → Heap → Prop} (hq : Q r h) : ACalls P f args h Q := by
  refine ⟨hp.1, fun I β w vs rr hv => ?_⟩
  refine (hp.2 I w vs rr.imm ⟨hv.1, fun j u v hu hv' => (hv.2 j u v hu hv').toI (pures_get ha hu)⟩).mono ?_
  rintro e w' ⟨cv, I', rfl, he, hr⟩
  obtain ⟨h1, h2⟩ := rr.pext rr.imm he (fun _ x => x)
  refine ⟨cv, r, _, β, h, rfl, hq, h1, h2, .imm _ _ (hr.mono (fun b hb => ?_) (fun _ _ => rfl))⟩
  rcases he.new b hb with h3 | h3
  · exact .inl h3
  · exact .inr ⟨hb, h3⟩

mutual
/-- No memory in it. -/
def AV.flat : AV → Bool
  | .int .. => true
  | .bool _ => true
  | .str _ => true
  | .flt .. => true
  | .nilp => true
  | .nils => true
  | .nilf => true
  | .nili => true
  | .nilm => true
  | .tup cs => flats cs
  | .agg cs => flats cs
  | .ip .. => false
  | .isl .. => false
  | .op .. => false
  | .osl .. => false
  | .om _ => false
  | .fn .. => false
  | .ifc .. => false
  | .any => false
def flats : List AV → Bool
  | [] => true
  | v :: r => v.flat && flats r
end
theorem flats_get {l : List AV} (h : flats l = true) {j : Nat} {u : AV} (hj : l[j]? = some u) : u.flat = true := by
  induction l generalizing j with
  | nil => simp at hj
  | cons v r ih =>
    simp only [flats, Bool.and_eq_true] at h
    cases j with
    | zero => simp at hj; subst hj; exact h.1
    | succ j => simp at hj; exact ih h.2 hj
theorem IRel.flat {I I' : Nat → Prop} {w w' : World} {u : AV} {v : Value} (h : IRel I w u v) (hf : u.flat = true) : IRel I' w' u v := by
  induction h with
  | int k n => exact .int k n
  | bool b => exact .bool b
  | str s => exact .str s
  | flt k n => exact .flt k n
  | nilp => exact .nilp
  | nils => exact .nils
  | nilf => exact .nilf
  | nili => exact .nili
  | nilm => exact .nilm
  | agg cs cs' h1 h2 _ ih => exact .agg cs cs' h1 h2 (fun j u v hu hv => ih j u v hu hv (flats_get (by simpa [AV.flat] using hf) hu))
  | tup cs cs' h1 _ ih => exact .tup cs cs' h1 (fun j u v hu hv => ih j u v hu hv (flats_get (by simpa [AV.flat] using hf) hu))
  | _ => simp [AV.flat] at hf

def Frzs (h : Heap) (us us' : List AV) : Prop := us'.length = us.length ∧ ∀ (q : Nat) (u u' : AV), us[q]? = some u → us'[q]? = some u' → Frz h u u'
theorem Frzs.nil {h : Heap} : Frzs h [] [] := ⟨rfl, fun q u u' h => by simp at h⟩
theorem Frzs.cons {h : Heap} {u u' : AV} {us us' : List AV} (h1 : Frz h u u') (h2 : Frzs h us us') : Frzs h (u :: us) (u' :: us') := by
  refine ⟨by simp [h2.1], fun q x x' hx hx' => ?_⟩
  cases q with
  | zero => simp at hx hx'; subst hx hx'; exact h1
  | succ q => simp at hx hx'; exact h2.2 q x x' hx hx'

/-- What one owns is lent to a function of values alone that hands back no memory. -/
theorem acalls_lend {f : FuncId} {args args' : List AV} {r : AV} {h : Heap} (hp : APure P f args' r) (ha : Frzs h args args') (hr : r.flat = true) {Q : AV → Heap → Prop} (hq : Q r h) : ACalls P f args h Q := by
  refine ⟨hp.1, fun I β w vs rr hv => ?_⟩
  have hJ : ∀ b, IO I β h b → b < w.heap.size := by
    rintro b (hb | ⟨id, o, h1, h2, rfl⟩)
    · exact rr.imm b hb
    · exact (rr.obj id o h1 h2).1
  refine (hp.2 (IO I β h) w vs hJ ⟨by rw [ha.1]; exact hv.1, fun j u' v hu hv' => ?_⟩).mono ?_
  · obtain ⟨u, hu0⟩ := getElem?_lt ha.1 hu
    exact (ha.2 j u u' hu0 hu).rel rr (hv.2 j u v hu0 hv')
  · rintro e w' ⟨cv, I', rfl, he, hrr⟩
    obtain ⟨h1, h2⟩ := rr.pext hJ he (fun _ x => .inl x)
    exact ⟨cv, r, _, β, h, rfl, hq, h1, h2, .imm _ _ (hrr.flat hr)⟩
end
end Go.AL
end

section
/- The small logic's steps as rules for simp, and where simp is not to look. No condition. -/
namespace Go.AL
set_option linter.unusedVariables false
set_option linter.unusedSimpArgs false

/-- A mark: simp works at what is marked, and at nothing beside it. -/
def mk {α : Type} (x : α) : α := x
theorem mk_eq {α : Type} (x : α) : mk x = x := Eq.trans (Eq.refl x) (Eq.refl x)
def optK {α : Type} (o : Option α) (K : α → Prop) : Prop := match o with | some x => K x | none => False
theorem optK_some {α : Type} {x : α} {K : α → Prop} : optK (some x) K = K x := (rfl)
theorem optK_eq {α : Type} {o : Option α} {K : α → Prop} : (∃ x, o = some x ∧ K x) = optK o K := by
  cases o <;> simp [optK]
/-- A pair of conditions: the first ahead. -/
def condK (v : AV) (T E : Prop) : Prop := match v with | .bool b => (b = true → T) ∧ (b = false → E) | _ => False
theorem condK_bool {b : Bool} {T E : Prop} : condK (.bool b) T E = ((b = true → T) ∧ (b = false → E)) := (rfl)
theorem condK_true {T E : Prop} : condK (.bool true) T E = T := by simp [condK]
theorem condK_false {T E : Prop} : condK (.bool false) T E = E := by simp [condK]
theorem condK_dec {p : Prop} [Decidable p] {T E : Prop} : condK (.bool (decide p)) T E = ((p → T) ∧ (¬ p → E)) := by simp [condK]
theorem condK_not {b : Bool} {T E : Prop} : condK (.bool (!b)) T E = condK (.bool b) E T := by cases b <;> simp [condK]
theorem condK_beq {α : Type} [BEq α] [LawfulBEq α] {x y : α} {T E : Prop} : condK (.bool (x == y)) T E = ((x = y → T) ∧ (x ≠ y → E)) := by simp [condK]
theorem condK_bne {α : Type} [BEq α] [LawfulBEq α] {x y : α} {T E : Prop} : condK (.bool (x != y)) T E = ((x ≠ y → T) ∧ (x = y → E)) := by simp [condK]
theorem condK_getD {l : List Bool} {i : Nat} {d : Bool} {T E : Prop} : condK (.bool (l.getD i d)) T E = ((l.getD i d = true → T) ∧ (l.getD i d = false → E)) := (rfl)
theorem decide_gt {x y : Int} : decide (x > y) = decide (y < x) := (rfl)
theorem decide_ge {x y : Int} : decide (x ≥ y) = decide (y ≤ x) := (rfl)

section
variable {P : Program} {n : Nat} {pl : Nat → Plan} {Q : Exit → Fr → Heap → Prop} {a : Fr} {h : Heap}

/-! ### code -/
theorem asx_skip : asx P n pl .skip Q a h = Q .normal a h := (rfl)
theorem asx_text {id : Nat} {l : List Oper} : asx P n pl (.region id l.toArray false) Q a h = aops P n l l a h fun a h => Q .normal a h := (rfl)
theorem asx_draw {id : Nat} {l : List Oper} : asx P n pl (.region id l.toArray true) Q a h = adrD P n l (pl id) a h fun a h => Q .normal a h := (rfl)
theorem asx_seq {x y : Code} : asx P n pl (.seq x y) Q a h = asx P n pl x (thenK (asx P n pl y Q) Q) a h := (rfl)
theorem asx_cond {c : Operand} {x y : Code} : asx P n pl (.cond c x y) Q a h = evK a c fun v => condK v (asx P n pl x Q a h) (asx P n pl y Q a h) := (rfl)
theorem asx_block {id : Nat} {c : Code} : asx P n pl (.block id c) Q a h = asx P n pl c (blockK id Q) a h := (rfl)
theorem asx_loop {c : Code} : asx P n pl (.loop c) Q a h = LoopK (asx P n pl c) Q a h := (rfl)
theorem asx_exit {id : Nat} : asx P n pl (.exit id) Q a h = Q (.exit id) a h := (rfl)
theorem asx_ret : asx P n pl .ret Q a h = Q .ret a h := (rfl)
theorem asx_label {l : Nat} : asx P n pl (.label l) Q a h = Q .normal a h := (rfl)
theorem then_normal {K : Fr → Heap → Prop} : thenK K Q .normal a h = K a h := (rfl)
theorem then_ret {K : Fr → Heap → Prop} : thenK K Q .ret a h = Q .ret a h := (rfl)
theorem then_exit {K : Fr → Heap → Prop} {j : Nat} : thenK K Q (.exit j) a h = Q (.exit j) a h := (rfl)
theorem block_normal {id : Nat} : blockK id Q .normal a h = Q .normal a h := (rfl)
theorem block_ret {id : Nat} : blockK id Q .ret a h = Q .ret a h := (rfl)
theorem block_exit {id : Nat} : blockK id Q (.exit id) a h = Q .normal a h := by simp [blockK]
theorem block_exit' {id j : Nat} (e : (j == id) = false) : blockK id Q (.exit j) a h = Q (.exit j) a h := by
  have : j ≠ id := by simpa using e
  simp [blockK, this]

/-! ### operations in line -/
variable {all rest : List Oper} {K : Fr → Heap → Prop} {op : Op} {ty : TypeId} {pos : String} {af : Array Edge} {dst : Option Tmp}
theorem aops_nil : aops P n all [] a h K = K a h := (rfl)
theorem aops_one : aops P n all (⟨dst, op, ty, pos, af, none⟩ :: rest) a h K = aop P op a h fun v h' => putK n dst a v fun a' => aops P n all rest a' h' K := (rfl)
/-- A guard's two ways: the value that is asked; what was left out says no. -/
def gdK (v : AV) (want : Bool) (T E : Prop) : Prop := match v with | .bool b => (match want with | true => condK (.bool b) T E | false => condK (.bool b) E T) | .tup [] => E | _ => False
@[congr] theorem gdK_cg {v v' : AV} {want : Bool} {T E : Prop} (e : mk v = v') : gdK v want T E = gdK v' want T E := by rw [← e]; rfl
theorem gdK_true {b : Bool} {T E : Prop} : gdK (.bool b) true T E = condK (.bool b) T E := (rfl)
theorem gdK_false {b : Bool} {T E : Prop} : gdK (.bool b) false T E = condK (.bool b) E T := (rfl)
theorem gdK_undef {want : Bool} {T E : Prop} : gdK .undef want T E = E := (rfl)
def guK (o : Option Tmp) (want : Bool) (a : Fr) (T E : Prop) : Prop := match o with | some t => gdK (a t) want T E | none => False
theorem guK_some {t : Tmp} {want : Bool} {T E : Prop} : guK (some t) want a T E = gdK (a t) want T E := (rfl)
theorem guardK_eq {j : Nat} {want : Bool} {T : Bool → Prop} : guardK all (some (j, want)) a T = guK (gslot all j) want a (T true) (T false) := by
  unfold guardK guK gdK
  simp only
  cases gslot all j with
  | none => rfl
  | some t =>
    simp only [condK]
    cases a t with
    | bool b => cases b <;> cases want <;> simp
    | tup l => cases l <;> rfl
    | _ => cases want <;> rfl
theorem guK_zero {t : Tmp} {g : Option (Nat × Bool)} {want : Bool} {T E : Prop} : guK (gslot (⟨some t, op, ty, pos, af, g⟩ :: rest) 0) want a T E = guK (some t) want a T E := (rfl)
theorem guK_succ {o : Oper} {j : Nat} {want : Bool} {T E : Prop} : guK (gslot (o :: rest) (j + 1)) want a T E = guK (gslot rest j) want a T E := (rfl)
theorem aops_if {j : Nat} {want : Bool} : aops P n all (⟨dst, op, ty, pos, af, some (j, want)⟩ :: rest) a h K = guK (gslot all j) want a (aop P op a h fun v h' => putK n dst a v fun a' => aops P n all rest a' h' K) (putK n dst a .undef fun a' => aops P n all rest a' h K) :=
  guardK_eq (T := fun run => match run with | true => aop P op a h fun v h' => putK n dst a v fun a' => aops P n all rest a' h' K | false => putK n dst a .undef fun a' => aops P n all rest a' h K)
theorem putK_none {v : AV} {K : Fr → Prop} : putK n none a v K = K a := (rfl)
theorem putK_some {d : Nat} {v : AV} {K : Fr → Prop} (e : d < n) : putK n (some d) a v K = K (upd a d v) := by
  simp [putK, e]
@[congr] theorem putK_cg {v v' : AV} {K : Fr → Prop} (e : mk v = v') : putK n dst a v K = putK n dst a v' K := by rw [← e]; rfl
@[congr] theorem condK_cg {v v' : AV} {T E : Prop} (e : mk v = v') : condK v T E = condK v' T E := by rw [← e]; rfl
@[congr] theorem optK_cg {α : Type} {o o' : Option α} {K : α → Prop} (e : mk o = o') : optK o K = optK o' K := by rw [← e]; rfl

/-! ### drawn regions -/
def exK (T : AV → Prop) (K : AV → Prop) : Prop := ∃ v, T v ∧ K v
@[congr] theorem exK_cg {T T' : AV → Prop} {K : AV → Prop} (e : mk T = T') : exK T K = exK T' K := by rw [← e]; rfl
theorem exK_and {A : Prop} {T K : AV → Prop} : exK (fun v => A ∧ T v) K = (A ∧ exK T K) := by simp [exK, and_assoc]
theorem exK_ex {α : Type} {T : α → AV → Prop} {K : AV → Prop} : exK (fun v => ∃ c, T c v) K = ∃ c, exK (T c) K := by
  apply propext
  constructor
  · rintro ⟨v, ⟨c, h⟩, k⟩; exact ⟨c, v, h, k⟩
  · rintro ⟨c, v, h, k⟩; exact ⟨v, ⟨c, h⟩, k⟩
theorem exK_eq {u : AV} {K : AV → Prop} : exK (fun v => u = v) K = K u := by simp [exK]
def atK (l : List Oper) (i : Nat) (K : Oper → Prop) : Prop := match l[i]? with | some o => K o | none => False
theorem atK_zero {o : Oper} {K : Oper → Prop} : atK (o :: rest) 0 K = K o := (rfl)
theorem atK_succ {o : Oper} {i : Nat} {K : Oper → Prop} : atK (o :: rest) (i + 1) K = atK rest i K := (rfl)
def quK (q : Bool) (T E : Prop) : Prop := match q with | true => T | false => E
theorem quK_true {T E : Prop} : quK true T E = T := (rfl)
theorem quK_false {T E : Prop} : quK false T E = E := (rfl)
@[congr] theorem quK_cg {q q' : Bool} {T E : Prop} (e : mk q = q') : quK q T E = quK q' T E := by rw [← e]; rfl
def keepL (keep : Bool) (x : Nat × Fr × AV) (l : List (Nat × Fr × AV)) : List (Nat × Fr × AV) := match keep with | true => x :: l | false => l
def adrK (P : Program) (n : Nat) (all : List Oper) (i : Nat) (keep : Bool) (rs : List Nat) (rest : Plan) (a : Fr) (h : Heap) (done : List (Nat × Fr × AV)) (K : Fr → Heap → Prop) (dst : Option Tmp) (op : Op) : Prop :=
  quK (pureOp op) (exK (fun v => aop P op a h fun v' h' => v' = v ∧ h' = h) fun v => putK n dst a v fun a' => adr P n all rest a' h (keepL keep (i, a, v) done) K)
    (aop P op a h fun v h' => reK P all done h' rs ∧ putK n dst a v fun a' => adr P n all rest a' h' done K)
def adrG (P : Program) (n : Nat) (all : List Oper) (i : Nat) (keep : Bool) (rs : List Nat) (rest : Plan) (a : Fr) (h : Heap) (done : List (Nat × Fr × AV)) (K : Fr → Heap → Prop) (o : Oper) : Prop :=
  match o with
  | ⟨dst, op, _, _, _, none⟩ => adrK P n all i keep rs rest a h done K dst op
  | ⟨dst, op, _, _, _, some (j, want)⟩ => guK (gslot all j) want a (adrK P n all i keep rs rest a h done K dst op) (putK n dst a .undef fun a' => adr P n all rest a' h done K)
@[congr] theorem adr_cg {pl pl' : Plan} {done : List (Nat × Fr × AV)} (e : mk pl = pl') : adr P n all pl a h done K = adr P n all pl' a h done K := by rw [← e]; rfl
theorem adrD_nil : adrD P n all [] a h K = K a h := (rfl)
theorem adrD_none {i : Nat} {keep : Bool} {rest : Plan} : adrD P n all ((i, keep, []) :: rest) a h K = adr P n all ((i, keep, []) :: rest) a h [] K := (rfl)
theorem adrD_one {i x : Nat} {keep : Bool} {rest : Plan} : adrD P n all ((i, keep, [x]) :: rest) a h K = adr P n all ((i, keep, [x]) :: rest) a h [] K := (rfl)
theorem adrD_more {i x y z : Nat} {l : List Nat} {keep : Bool} {rest : Plan} : adrD P n all ((i, keep, x :: y :: z :: l) :: rest) a h K = adr P n all ((i, keep, x :: y :: z :: l) :: rest) a h [] K := (rfl)
theorem adrD_two {p q : Nat} {keep : Bool} {rest : Plan} : adrD P n all ((1000000, keep, [p, q]) :: rest) a h K = adrX P n all (rest.take p) a h [] fun a' d => adr P n all ((rest.drop p).take q) a' h d K ∧ adr P n all (rest.drop (p + q)) a' h d K := (rfl)
@[congr] theorem adrX_cg {pl pl' : Plan} {done : List (Nat × Fr × AV)} {K : Fr → List (Nat × Fr × AV) → Prop} (e : mk pl = pl') : adrX P n all pl a h done K = adrX P n all pl' a h done K := by rw [← e]; rfl
theorem adrX_nil {done : List (Nat × Fr × AV)} {K : Fr → List (Nat × Fr × AV) → Prop} : adrX P n all [] a h done K = K a done := (rfl)
def adrXG (P : Program) (n : Nat) (all : List Oper) (i : Nat) (keep : Bool) (rest : Plan) (a : Fr) (h : Heap) (done : List (Nat × Fr × AV)) (K : Fr → List (Nat × Fr × AV) → Prop) (o : Oper) : Prop :=
  match o with
  | ⟨dst, op, _, _, _, none⟩ => exK (fun v => aop P op a h fun v' h' => v' = v ∧ h' = h) fun v => putK n dst a v fun a' => adrX P n all rest a' h (keep0 keep (i, a, v) done) K
  | ⟨dst, op, _, _, _, some (j, want)⟩ => guK (gslot all j) want a (exK (fun v => aop P op a h fun v' h' => v' = v ∧ h' = h) fun v => putK n dst a v fun a' => adrX P n all rest a' h (keep0 keep (i, a, v) done) K) (putK n dst a .undef fun a' => adrX P n all rest a' h done K)
theorem adrX_cons {done : List (Nat × Fr × AV)} {i : Nat} {keep : Bool} {rs : List Nat} {rest : Plan} {K : Fr → List (Nat × Fr × AV) → Prop} : adrX P n all ((i, keep, rs) :: rest) a h done K = atK all i (adrXG P n all i keep rest a h done K) := by
  unfold atK adrX
  cases all[i]? with
  | none => rfl
  | some o =>
    obtain ⟨dst, op, ty, pos, af, g⟩ := o
    cases g with
    | none =>
      simp only [adrXG, guardK, exK]
    | some g =>
      obtain ⟨j, want⟩ := g
      simp only [adrXG]
      rw [guardK_eq]
      simp only [exK]
theorem adrXG_one {done : List (Nat × Fr × AV)} {i : Nat} {keep : Bool} {rest : Plan} {K : Fr → List (Nat × Fr × AV) → Prop} : adrXG P n all i keep rest a h done K ⟨dst, op, ty, pos, af, none⟩ = exK (fun v => aop P op a h fun v' h' => v' = v ∧ h' = h) fun v => putK n dst a v fun a' => adrX P n all rest a' h (keep0 keep (i, a, v) done) K := (rfl)
theorem adrXG_if {done : List (Nat × Fr × AV)} {i j : Nat} {keep want : Bool} {rest : Plan} {K : Fr → List (Nat × Fr × AV) → Prop} : adrXG P n all i keep rest a h done K ⟨dst, op, ty, pos, af, some (j, want)⟩ = guK (gslot all j) want a (exK (fun v => aop P op a h fun v' h' => v' = v ∧ h' = h) fun v => putK n dst a v fun a' => adrX P n all rest a' h (keep0 keep (i, a, v) done) K) (putK n dst a .undef fun a' => adrX P n all rest a' h done K) := (rfl)
theorem keep0_true {x : Nat × Fr × AV} {l : List (Nat × Fr × AV)} : keep0 true x l = x :: l := (rfl)
theorem keep0_false {x : Nat × Fr × AV} {l : List (Nat × Fr × AV)} : keep0 false x l = l := (rfl)
theorem adr_nil {done : List (Nat × Fr × AV)} : adr P n all [] a h done K = K a h := (rfl)
theorem adr_cons {done : List (Nat × Fr × AV)} {i : Nat} {keep : Bool} {rs : List Nat} {rest : Plan} : adr P n all ((i, keep, rs) :: rest) a h done K = atK all i (adrG P n all i keep rs rest a h done K) := by
  unfold atK adr
  cases all[i]? with
  | none => rfl
  | some o =>
    obtain ⟨dst, op, ty, pos, af, g⟩ := o
    cases g with
    | none =>
      simp only [adrG, adrK, guardK, quK, exK]
      cases pureOp op <;> cases keep <;> rfl
    | some g =>
      obtain ⟨j, want⟩ := g
      simp only [adrG, adrK]
      rw [guardK_eq]
      simp only [quK, exK]
      cases pureOp op <;> cases keep <;> rfl
theorem adrG_one {done : List (Nat × Fr × AV)} {i : Nat} {keep : Bool} {rs : List Nat} {rest : Plan} : adrG P n all i keep rs rest a h done K ⟨dst, op, ty, pos, af, none⟩ = adrK P n all i keep rs rest a h done K dst op := (rfl)
theorem adrG_if {done : List (Nat × Fr × AV)} {i j : Nat} {keep want : Bool} {rs : List Nat} {rest : Plan} : adrG P n all i keep rs rest a h done K ⟨dst, op, ty, pos, af, some (j, want)⟩ = guK (gslot all j) want a (adrK P n all i keep rs rest a h done K dst op) (putK n dst a .undef fun a' => adr P n all rest a' h done K) := (rfl)
theorem adrK_eq {done : List (Nat × Fr × AV)} {i : Nat} {keep : Bool} {rs : List Nat} {rest : Plan} : adrK P n all i keep rs rest a h done K dst op = quK (pureOp op) (exK (fun v => aop P op a h fun v' h' => v' = v ∧ h' = h) fun v => putK n dst a v fun a' => adr P n all rest a' h (keepL keep (i, a, v) done) K)
    (aop P op a h fun v h' => reK P all done h' rs ∧ putK n dst a v fun a' => adr P n all rest a' h' done K) := rfl
theorem keepL_true {x : Nat × Fr × AV} {l : List (Nat × Fr × AV)} : keepL true x l = x :: l := (rfl)
theorem keepL_false {x : Nat × Fr × AV} {l : List (Nat × Fr × AV)} : keepL false x l = l := (rfl)
def doneK (done : List (Nat × Fr × AV)) (j : Nat) (K : Fr → AV → Prop) : Prop := match done.find? (fun x => x.1 == j) with | some (_, a, v) => K a v | none => True
theorem doneK_hit {done : List (Nat × Fr × AV)} {j : Nat} {v : AV} {K : Fr → AV → Prop} : doneK ((j, a, v) :: done) j K = K a v := by simp [doneK]
theorem doneK_miss {done : List (Nat × Fr × AV)} {i j : Nat} {v : AV} {K : Fr → AV → Prop} (e : (i == j) = false) : doneK ((i, a, v) :: done) j K = doneK done j K := by simp [doneK, List.find?_cons, e]
def atT (l : List Oper) (i : Nat) (K : Oper → Prop) : Prop := match l[i]? with | some o => K o | none => True
theorem atT_zero {o : Oper} {K : Oper → Prop} : atT (o :: rest) 0 K = K o := (rfl)
theorem atT_succ {o : Oper} {i : Nat} {K : Oper → Prop} : atT (o :: rest) (i + 1) K = atT rest i K := (rfl)
theorem reK_cons {done : List (Nat × Fr × AV)} {j : Nat} {r : List Nat} : reK P all done h (j :: r) = (doneK done j (fun a v => atT all j fun o => aop P o.op a h fun v' h' => v' = v ∧ h' = h) ∧ reK P all done h r) := by
  show ((match done.find? (fun x => x.1 == j), all[j]? with | some (_, a, v), some o => aop P o.op a h fun v' h' => v' = v ∧ h' = h | _, _ => True) ∧ reK P all done h r) = _
  unfold doneK atT
  cases done.find? (fun x => x.1 == j) with
  | none => rfl
  | some x => cases all[j]? <;> rfl
theorem reK_nil {done : List (Nat × Fr × AV)} : reK P all done h [] = True := (rfl)
end
end Go.AL
end

section
/- The small logic's rules for simp: what each operation does with values. No condition. -/
namespace Go.AL
set_option linter.unusedVariables false
set_option linter.unusedSimpArgs false
section
variable {P : Program} {n : Nat} {a : Fr} {h : Heap}

/-! ### operands -/
section
variable {K : AV → Prop}
theorem evK_tmp {t : Tmp} : evK a (.tmp t) K = K (a t) := (rfl)
theorem evK_int {k : IntKind} {m : Int} : evK a (.const (.int k m)) K = K (.int k m) := (rfl)
theorem evK_bool {b : Bool} : evK a (.const (.bool b)) K = K (.bool b) := (rfl)
theorem evK_str {s : ByteArray} : evK a (.const (.string s)) K = K (.str s) := (rfl)
theorem evK_flt {k : FloatKind} {m : Nat} : evK a (.const (.float k m)) K = K (.flt k m) := (rfl)
theorem evK_nilp : evK a (.const (.pointer none)) K = K .nilp := (rfl)
theorem evK_nils : evK a (.const (.slice none 0 0)) K = K .nils := (rfl)
theorem evK_nilf : evK a (.const .nilFunc) K = K .nilf := (rfl)
theorem evK_nili : evK a (.const .nilIface) K = K .nili := (rfl)
theorem evK_nilm : evK a (.const (.map none)) K = K .nilm := (rfl)
theorem evK_undef : evK a (.const (.tuple #[])) K = K .undef := (rfl)
theorem evK_func {f : FuncId} : evK a (.func f) K = K (.fn (.func f) [] []) := (rfl)
theorem evsK_nil {K : List AV → Prop} : evsK a [] K = K [] := (rfl)
theorem evsK_cons {x : Operand} {r : List Operand} {K : List AV → Prop} : evsK a (x :: r) K = evK a x fun u => evsK a r fun us => K (u :: us) := (rfl)
theorem evpK_nil {K : List (Nat × AV) → Prop} : evpK a [] K = K [] := (rfl)
theorem evpK_cons {i : Nat} {x : Operand} {r : List (Nat × Operand)} {K : List (Nat × AV) → Prop} : evpK a ((i, x) :: r) K = evK a x fun u => evpK a r fun us => K ((i, u) :: us) := (rfl)
theorem evoK_none {K : Option AV → Prop} : evoK a none K = K none := (rfl)
theorem evoK_some {x : Operand} {K : Option AV → Prop} : evoK a (some x) K = evK a x fun u => K (some u) := (rfl)
end

/-! ### which operation -/
section
variable {K : AV → Heap → Prop}
/-- The heap, worked at first. -/
def letH (h : Heap) (K : Heap → Prop) : Prop := K h
@[congr] theorem letH_cg {h h' : Heap} {K : Heap → Prop} (e : mk h = h') : letH h K = letH h' K := by rw [← e]; rfl
theorem letH_eq {K : Heap → Prop} : letH h K = K h := (rfl)
theorem aop_move {x : Operand} : aop P (.move x) a h K = evK a x fun u => K u h := (rfl)
theorem aop_assign {x : Operand} : aop P (.assign x) a h K = evK a x fun u => K u h := (rfl)
theorem aop_pick {c x y : Operand} : aop P (.pick c x y) a h K = evK a c fun c => evK a x fun x => evK a y fun y => pickK c x y fun u => K u h := (rfl)
theorem aop_alloc {t : TypeId} : aop P (.alloc t) a h K = optK (zcells P t) fun cs => letH (h ++ [.arr cs.length [cs] true]) (K (.op h.length cs.length 0 0)) := by
  simp only [aop, optK_eq, letH]
theorem aop_box {t : TypeId} {x : Operand} : aop P (.box t x) a h K = evK a x fun u => cellsK u fun cs => letH (h ++ [.arr cs.length [cs] true]) (K (.op h.length cs.length 0 0)) := (rfl)
theorem aop_build {t : TypeId} {parts : List (Nat × Operand)} : aop P (.build t parts.toArray) a h K = evpK a parts fun us => optK (zcells P t) fun z => optK (fplaces P t) fun pl => fillK (fun i => pl[i]?) us z fun cs => K (.agg cs) h := by
  simp only [aop, optK_eq]
  congr 1
  funext us
  cases zcells P t <;> cases fplaces P t <;> simp [optK]
def repl {α : Type} : Nat → α → List α | 0, _ => [] | n + 1, x => x :: repl n x
theorem repl_zero {α : Type} {x : α} : repl 0 x = [] := (rfl)
theorem repl_succ {α : Type} {m : Nat} {x : α} : repl (m + 1) x = x :: repl m x := (rfl)
theorem repl_eq {α : Type} {x : α} : ∀ {m : Nat}, List.replicate m x = repl m x
  | 0 => rfl
  | m + 1 => by rw [List.replicate_succ, repl_succ, repl_eq]
theorem aop_buildSlice {t : TypeId} {len : Nat} {parts : List (Nat × Operand)} : aop P (.buildSlice t len parts.toArray) a h K = evpK a parts fun us => optK (telem P t) fun e => optK (zcells P e) fun z => len * z.length ≤ 16777216 ∧
      fillRK z.length us (repl len z) fun es => letH (h ++ [.arr z.length es true]) (K (.osl h.length z.length 0 len len true)) := by
  simp only [aop, letH, repl_eq]
  congr 1
  funext us
  cases he : telem P t with
  | none => simp [optK]
  | some e => cases hz : zcells P e <;> simp [optK, hz]
theorem aop_load {t : TypeId} {x : Operand} : aop P (.load t x) a h K = evK a x fun p => loadK P t h p fun u => K u h := (rfl)
theorem aop_store {t : TypeId} {p x : Operand} : aop P (.store t p x) a h K = evK a p fun p => evK a x fun u => storeK P t h p u fun h' => K .undef h' := (rfl)
theorem aop_nilCheck {x : Operand} : aop P (.nilCheck x) a h K = evK a x fun u => nilCheckK u fun u => K u h := (rfl)
theorem aop_bin {op : BinOp} {t t' : TypeId} {x y : Operand} : aop P (.binOp op t x y t') a h K = evK a x fun u => evK a y fun v => binAll P op t u v fun u => K u h := (rfl)
theorem aop_un {op : UnOp} {t : TypeId} {x : Operand} : aop P (.unOp op t x) a h K = evK a x fun u => unK op u fun u => K u h := (rfl)
theorem aop_convert {s d : TypeId} {x : Operand} : aop P (.convert s d x) a h K = evK a x fun u => convK P s d u fun u => K u h := (rfl)
theorem aop_makeFunc {f : Fn} {fs cs : List Operand} : aop P (.makeFunc f fs.toArray cs.toArray) a h K = evsK a fs fun fs => evsK a cs fun cs => K (.fn f fs cs) h := (rfl)
theorem aop_makeInterface {t : TypeId} {x : Operand} : aop P (.makeInterface t x) a h K = (tnotIface P t = true ∧ evK a x fun u => K (.ifc t u) h) := (rfl)
theorem aop_makeSlice {t : TypeId} {l c : Operand} : aop P (.makeSlice t l c) a h K = evK a l fun l => evK a c fun c => makeSliceK P t h l c K := (rfl)
theorem aop_slice {t : TypeId} {x : Operand} {lo hi : Option Operand} : aop P (.slice t x lo hi none) a h K = evK a x fun x => evoK a lo fun lo => evoK a hi fun hi => sliceAll P t x lo hi fun u => K u h := (rfl)
theorem aop_fieldAddr {s f : Nat} {x : Operand} : aop P (.fieldAddr s x f) a h K = evK a x fun p => fieldAddrK P s f p fun u => K u h := (rfl)
theorem aop_field {t f : Nat} {x : Operand} : aop P (.field t x f) a h K = evK a x fun u => fieldK P t f u fun u => K u h := (rfl)
theorem aop_indexAddr {t : TypeId} {x i : Operand} : aop P (.indexAddr t x i) a h K = evK a x fun x => evK a i fun i => indexAddrK P t x i fun u => K u h := (rfl)
theorem aop_index {t : TypeId} {x i : Operand} : aop P (.index t x i) a h K = evK a x fun u => evK a i fun i => indexK P t u i fun u => K u h := (rfl)
theorem aop_extract {x : Operand} {i : Nat} : aop P (.extract x i) a h K = evK a x fun u => extK u i fun u => K u h := (rfl)
theorem aop_call {f : Operand} {xs : List Operand} {ts : Array TypeId} : aop P (.call ⟨.value f, xs.toArray, ts⟩) a h K = evK a f fun f => evsK a xs fun us => callK P f us h K := (rfl)
theorem aop_len {x : Operand} {t : TypeId} : aop P (.call ⟨.builtin .len, #[x], #[t]⟩) a h K = evK a x fun u => lenK P t u fun u => K u h := (rfl)
theorem aop_cap {x : Operand} {t : TypeId} : aop P (.call ⟨.builtin .cap, #[x], #[t]⟩) a h K = evK a x fun u => capK P t u fun u => K u h := (rfl)
theorem aop_min {xs : List Operand} {ts : Array TypeId} : aop P (.call ⟨.builtin .min, xs.toArray, ts⟩) a h K = evsK a xs fun us => minK imin us fun u => K u h := (rfl)
theorem aop_max {xs : List Operand} {ts : Array TypeId} : aop P (.call ⟨.builtin .max, xs.toArray, ts⟩) a h K = evsK a xs fun us => minK imax us fun u => K u h := (rfl)
theorem aop_clear {x : Operand} {t : TypeId} : aop P (.call ⟨.builtin .clear, #[x], #[t]⟩) a h K = evK a x fun u => clearK P t h u fun h' => K .undef h' := (rfl)
theorem aop_append {s x : Operand} {t t' : TypeId} : aop P (.call ⟨.builtin .append, #[s, x], #[t, t']⟩) a h K = evK a s fun s => evK a x fun x => appendK P t t' h s x K := (rfl)
end

/-! ### values -/
section
variable {K : AV → Prop}
theorem fitK_i64 {z : Int} : fitK .i64 z K = ((-9223372036854775808 ≤ z ∧ z ≤ 9223372036854775807) ∧ K (.int .i64 z)) := (rfl)
theorem fitK_u64 {z : Int} : fitK .u64 z K = K (.int .u64 (IntKind.u64.wrap z)) := (rfl)
theorem fitK_u32 {z : Int} : fitK .u32 z K = K (.int .u32 (IntKind.u32.wrap z)) := (rfl)
theorem fitK_u8 {z : Int} : fitK .u8 z K = K (.int .u8 (IntKind.u8.wrap z)) := (rfl)
theorem fitK_i32 {z : Int} : fitK .i32 z K = K (.int .i32 (IntKind.i32.wrap z)) := (rfl)
def ldX (g : Option Bool) (s : Option Nat) (cells : List AV) (off : Nat) (K : AV → Prop) : Prop :=
  match g with
  | some true => optK s fun n => off + n ≤ cells.length ∧ K (.agg ((cells.drop off).take n))
  | some false => optK cells[off]? K
  | none => False
@[congr] theorem ldX_cg {g g' : Option Bool} {s s' : Option Nat} {cells cells' : List AV} {off off' : Nat} (e1 : mk g = g') (e2 : mk s = s') (e3 : mk cells = cells') (e4 : mk off = off') : ldX g s cells off K = ldX g' s' cells' off' K := by rw [← e1, ← e2, ← e3, ← e4]; rfl
theorem ldX_cell {s : Option Nat} {cells : List AV} {off : Nat} : ldX (some false) s cells off K = optK cells[off]? K := (rfl)
theorem ldX_agg {m : Nat} {cells : List AV} {off : Nat} : ldX (some true) (some m) cells off K = (off + m ≤ cells.length ∧ K (.agg ((cells.drop off).take m))) := (rfl)
theorem ldK_eq {t : TypeId} {cells : List AV} {off : Nat} : ldK P t cells off K = ldX (tagg P t) (tsize P t) cells off K := by
  unfold ldK ldX
  cases tagg P t with
  | none => rfl
  | some b => cases b <;> simp only [optK_eq]
theorem partK_eq {t : TypeId} {cells : List AV} {off : Nat} : partK P t cells off K = ldX (tagg P t) (tsize P t) cells off K := by
  unfold partK ldX
  cases tagg P t with
  | none => rfl
  | some b => cases b <;> simp only [optK_eq]
/-- An object's elements. -/
def objK (k : Nat) (o : Option Ob) (K : List (List AV) → Prop) : Prop := match o with | some (.arr k' es _) => k' = k ∧ K es | _ => False
@[congr] theorem objK_cg {k : Nat} {o o' : Option Ob} {K : List (List AV) → Prop} (e : mk o = o') : objK k o K = objK k o' K := by rw [← e]; rfl
theorem objK_some {k : Nat} {es : List (List AV)} {ex : Bool} {K : List (List AV) → Prop} : objK k (some (.arr k es ex)) K = K es := by simp [objK]
@[congr] theorem loadK_cg {t : TypeId} {h h' : Heap} {p p' : AV} (e1 : mk h = h') (e2 : mk p = p') : loadK P t h p K = loadK P t h' p' K := by rw [← e1, ← e2]; rfl
theorem loadK_ip {t : TypeId} {cells : List AV} {off : Nat} : loadK P t h (.ip cells off) K = ldX (tagg P t) (tsize P t) cells off K := ldK_eq
theorem objK_ex {k : Nat} {o : Option Ob} {K : List (List AV) → Prop} : (∃ es ex, o = some (.arr k es ex) ∧ K es) = objK k o K := by
  apply propext
  constructor
  · rintro ⟨es, ex, rfl, hk⟩; exact ⟨rfl, hk⟩
  · intro hk
    cases o with
    | none => exact hk.elim
    | some o =>
      cases o with
      | arr k' es ex => obtain ⟨rfl, hk⟩ := hk; exact ⟨es, ex, rfl, hk⟩
      | _ => exact hk.elim
theorem loadK_op {t : TypeId} {id k e off : Nat} : loadK P t h (.op id k e off) K = objK k h[id]? fun es => optK es[e]? fun c => ldX (tagg P t) (tsize P t) c off K := by
  unfold loadK
  simp only [optK_eq, ldK_eq]
  exact objK_ex
def faK (o : Nat) (p : AV) (K : AV → Prop) : Prop := match p with | .ip cells off => K (.ip cells (off + o)) | .op id k e off => K (.op id k e (off + o)) | _ => False
@[congr] theorem faK_cg {o : Nat} {p p' : AV} (e : mk p = p') : faK o p K = faK o p' K := by rw [← e]; rfl
theorem faK_ip {o off : Nat} {cells : List AV} : faK o (.ip cells off) K = K (.ip cells (off + o)) := (rfl)
theorem faK_op {o off id k e : Nat} : faK o (.op id k e off) K = K (.op id k e (off + o)) := (rfl)
theorem fieldAddrK_eq {s f : Nat} {p : AV} : fieldAddrK P s f p K = optK (foff P s f) fun x => faK x.1 p K := by
  unfold fieldAddrK
  rw [← optK_eq]
  apply propext
  constructor
  · rintro ⟨o, ft, h1, h2⟩; exact ⟨(o, ft), h1, by cases p <;> exact h2⟩
  · rintro ⟨⟨o, ft⟩, h1, h2⟩; exact ⟨o, ft, h1, by cases p <;> exact h2⟩
def fdK (P : Program) (o : Nat) (t : TypeId) (p : AV) (K : AV → Prop) : Prop := match p with | .agg cs => ldX (tagg P t) (tsize P t) cs o K | _ => False
@[congr] theorem fdK_cg {o t : Nat} {p p' : AV} (e : mk p = p') : fdK P o t p K = fdK P o t p' K := by rw [← e]; rfl
theorem fdK_agg {o t : Nat} {cs : List AV} : fdK P o t (.agg cs) K = ldX (tagg P t) (tsize P t) cs o K := (rfl)
theorem fieldK_eq {t f : Nat} {p : AV} : fieldK P t f p K = optK (foff P t f) fun x => fdK P x.1 x.2 p K := by
  unfold fieldK
  rw [← optK_eq]
  apply propext
  constructor
  · rintro ⟨o, ft, h1, h2⟩; exact ⟨(o, ft), h1, by cases p <;> first | exact h2.elim | (simp only [fdK]; rw [← partK_eq]; exact h2)⟩
  · rintro ⟨⟨o, ft⟩, h1, h2⟩; exact ⟨o, ft, h1, by cases p <;> first | exact h2.elim | (simp only [fdK] at h2; rw [← partK_eq] at h2; exact h2)⟩
theorem optK_map {α β : Type} [Inhabited α] {f : α → β} {xs : List α} {i : Nat} {K : β → Prop} : optK (List.map f xs)[i]? K = (i < xs.length ∧ K (f (xs.getD i default))) := by
  rw [List.getElem?_map]
  by_cases hi : i < xs.length
  · simp [optK, hi, List.getD_eq_getElem?_getD, List.getElem?_eq_getElem hi]
  · simp [optK, hi, List.getElem?_eq_none (Nat.le_of_not_lt hi)]
/-- What a slice's elements take. -/
def elK (P : Program) (t : TypeId) (k : Nat) : Prop := optK (telem P t) fun e => optK (tsize P e) fun s => s = k
theorem elK_eq {t : TypeId} {k : Nat} : elK P t k = optK (telem P t) fun e => optK (tsize P e) fun s => s = k := (rfl)
theorem elK_ex {t : TypeId} {k : Nat} : (∃ e, telem P t = some e ∧ tsize P e = some k) = elK P t k := by
  unfold elK
  rw [optK_eq]
  congr 1
  funext e
  cases tsize P e <;> simp [optK]
@[congr] theorem indexAddrK_cg {t : TypeId} {x x' i i' : AV} (e1 : mk x = x') (e2 : mk i = i') : indexAddrK P t x i K = indexAddrK P t x' i' K := by rw [← e1, ← e2]; rfl
theorem indexAddrK_isl {t : TypeId} {k : Nat} {es : List (List AV)} {kk : IntKind} {m : Int} : indexAddrK P t (.isl k es) (.int kk m) K = (0 ≤ m ∧ elK P t k ∧ optK es[m.toNat]? fun c => K (.ip c 0)) := by
  simp only [indexAddrK, elK_ex, ← optK_eq]
  apply propext
  constructor
  · rintro ⟨h1, h2, h3, h4⟩; exact ⟨h1, h3, h4⟩
  · rintro ⟨h1, h2, h3⟩
    refine ⟨h1, ?_, h2, h3⟩
    obtain ⟨c, hc, _⟩ := h3
    have := (List.getElem?_eq_some_iff.1 hc).1
    omega
theorem indexAddrK_osl {t : TypeId} {id k i0 len cap : Nat} {ex : Bool} {kk : IntKind} {m : Int} : indexAddrK P t (.osl id k i0 len cap ex) (.int kk m) K = ((0 ≤ m ∧ m < len) ∧ elK P t k ∧ K (.op id k (i0 + m.toNat) 0)) := by
  simp only [indexAddrK, elK_ex, and_assoc]
def arK (P : Program) (t : TypeId) (m : Int) (K : Nat → Prop) : Prop := optK (tarr P t) fun x => optK (tsize P x.2) fun s => (0 ≤ m ∧ m < x.1) ∧ K (m.toNat * s)
theorem arK_eq {t : TypeId} {m : Int} {K : Nat → Prop} : arK P t m K = optK (tarr P t) fun x => optK (tsize P x.2) fun s => (0 ≤ m ∧ m < x.1) ∧ K (m.toNat * s) := (rfl)
theorem arK_ex {t : TypeId} {z : Int} {K : Nat → Prop} : (∃ m e s, tarr P t = some (m, e) ∧ tsize P e = some s ∧ 0 ≤ z ∧ z < (m : Nat) ∧ K (z.toNat * s)) = arK P t z K := by
  unfold arK
  cases tarr P t with
  | none => simp [optK]
  | some x =>
    obtain ⟨m, e⟩ := x
    simp only [optK, Option.some.injEq, Prod.mk.injEq]
    cases hs : tsize P e with
    | none => apply propext; constructor
              · rintro ⟨_, _, _, ⟨rfl, rfl⟩, h2, _⟩; rw [hs] at h2; cases h2
              · intro h; exact h.elim
    | some s =>
      apply propext
      constructor
      · rintro ⟨_, _, _, ⟨rfl, rfl⟩, h2, h3, h4, h5⟩; rw [hs] at h2; cases h2; exact ⟨⟨h3, h4⟩, h5⟩
      · rintro ⟨⟨h3, h4⟩, h5⟩; exact ⟨_, _, s, ⟨rfl, rfl⟩, hs, h3, h4, h5⟩
theorem indexAddrK_ip {t : TypeId} {cells : List AV} {off : Nat} {kk : IntKind} {m : Int} : indexAddrK P t (.ip cells off) (.int kk m) K = arK P t m fun d => K (.ip cells (off + d)) := by
  rw [← arK_ex]; rfl
theorem indexAddrK_op {t : TypeId} {id k e off : Nat} {kk : IntKind} {m : Int} : indexAddrK P t (.op id k e off) (.int kk m) K = arK P t m fun d => K (.op id k e (off + d)) := by
  rw [← arK_ex]; rfl
@[congr] theorem indexK_cg {t : TypeId} {x x' i i' : AV} (e1 : mk x = x') (e2 : mk i = i') : indexK P t x i K = indexK P t x' i' K := by rw [← e1, ← e2]; rfl
theorem indexK_agg {t : TypeId} {cs : List AV} {kk : IntKind} {m : Int} : indexK P t (.agg cs) (.int kk m) K = optK (tarr P t) fun x => optK (tsize P x.2) fun s => (0 ≤ m ∧ m < x.1) ∧ ldX (tagg P x.2) (tsize P x.2) cs (m.toNat * s) K := by
  simp only [indexK, partK_eq, ← optK_eq]
  apply propext
  constructor
  · rintro ⟨m', e, s, h1, h2, h3, h4, h5⟩; exact ⟨(m', e), h1, s, h2, ⟨h3, h4⟩, h5⟩
  · rintro ⟨⟨m', e⟩, h1, s, h2, ⟨h3, h4⟩, h5⟩; exact ⟨m', e, s, h1, h2, h3, h4, h5⟩
theorem indexK_str {t : TypeId} {s : ByteArray} {kk : IntKind} {m : Int} : indexK P t (.str s) (.int kk m) K = (tstring P t = true ∧ 0 ≤ m ∧ m < s.size ∧ K (.int .u8 (bt s m.toNat))) := (rfl)

@[congr] theorem binAll_cg {op : BinOp} {t : TypeId} {x x' i i' : AV} (e1 : mk x = x') (e2 : mk i = i') : binAll P op t x i K = binAll P op t x' i' K := by rw [← e1, ← e2]; rfl
section
variable {t : TypeId} {k : IntKind} {x y : Int}
theorem bin_add : binAll P .add t (.int k x) (.int k y) K = fitK k (x + y) K := by simp [binAll, iK]
theorem bin_sub : binAll P .sub t (.int k x) (.int k y) K = fitK k (x - y) K := by simp [binAll, iK]
theorem bin_mul : binAll P .mul t (.int k x) (.int k y) K = fitK k (x * y) K := by simp [binAll, iK]
theorem bin_quo : binAll P .quo t (.int k x) (.int k y) K = (y ≠ 0 ∧ K (.int k (k.wrap (x.tdiv y)))) := by simp [binAll, iK]
theorem bin_rem : binAll P .rem t (.int k x) (.int k y) K = (y ≠ 0 ∧ K (.int k (x.tmod y))) := by simp [binAll, iK]
theorem bin_eql : binAll P .eql t (.int k x) (.int k y) K = K (.bool (x == y)) := by simp [binAll, iK]
theorem bin_neq : binAll P .neq t (.int k x) (.int k y) K = K (.bool (x != y)) := by simp [binAll, iK]
theorem bin_lss : binAll P .lss t (.int k x) (.int k y) K = K (.bool (decide (x < y))) := by simp [binAll, iK]
theorem bin_leq : binAll P .leq t (.int k x) (.int k y) K = K (.bool (decide (x ≤ y))) := by simp [binAll, iK]
theorem bin_gtr : binAll P .gtr t (.int k x) (.int k y) K = K (.bool (decide (y < x))) := by simp [binAll, iK]
theorem bin_geq : binAll P .geq t (.int k x) (.int k y) K = K (.bool (decide (y ≤ x))) := by simp [binAll, iK]
theorem bin_shl {k' : IntKind} : binAll P .shl t (.int k x) (.int k' y) K = (0 ≤ y ∧ K (.int k (k.wrap (x * 2 ^ (min y.toNat k.bits))))) := by simp [binAll, iK]
theorem bin_shr {k' : IntKind} : binAll P .shr t (.int k x) (.int k' y) K = (0 ≤ y ∧ K (.int k (x.fdiv (2 ^ (min y.toNat k.bits))))) := by simp [binAll, iK]
theorem bin_beql {b c : Bool} : binAll P .eql t (.bool b) (.bool c) K = (tbool P t = true ∧ K (.bool (b == c))) := (rfl)
theorem bin_bneq {b c : Bool} : binAll P .neq t (.bool b) (.bool c) K = (tbool P t = true ∧ K (.bool (b != c))) := (rfl)
theorem bin_nils {op : BinOp} {u : AV} : binAll P op t u .nils K = ((telem P t).isSome = true ∧ (match u with | .isl _ es => (es = [] → eqK op true K) ∧ eqK op false K | .nils => eqK op true K | .osl .. => eqK op false K | _ => False)) := (rfl)
end
theorem eqK_eql {b : Bool} : eqK .eql b K = K (.bool b) := (rfl)
theorem eqK_neq {b : Bool} : eqK .neq b K = K (.bool (!b)) := (rfl)
@[congr] theorem unK_cg {op : UnOp} {x x' : AV} (e1 : mk x = x') : unK op x K = unK op x' K := by rw [← e1]; rfl
theorem unK_not {b : Bool} : unK .not (.bool b) K = K (.bool (!b)) := (rfl)
theorem unK_neg {k : IntKind} {z : Int} : unK .neg (.int k z) K = fitK k (0 - z) K := (rfl)
@[congr] theorem convK_cg {s d : TypeId} {x x' : AV} (e1 : mk x = x') : convK P s d x K = convK P s d x' K := by rw [← e1]; rfl
theorem convK_int {s d : TypeId} {k : IntKind} {z : Int} : convK P s d (.int k z) K = ((tint P s).isSome = true ∧ optK (tint P d) fun k => fitK k z K) := by
  simp only [convK, optK_eq, Option.isSome_iff_exists]
theorem convK_str {s d : TypeId} {b : ByteArray} : convK P s d (.str b) K = (tstring P s = true ∧ tstring P d = true ∧ K (.str b)) := (rfl)
@[congr] theorem extK_cg {i : Nat} {x x' : AV} (e1 : mk x = x') : extK x i K = extK x' i K := by rw [← e1]; rfl
theorem extK_tup {i : Nat} {vs : List AV} : extK (.tup vs) i K = optK vs[i]? K := optK_eq
@[congr] theorem lenK_cg {t : TypeId} {x x' : AV} (e1 : mk x = x') : lenK P t x K = lenK P t x' K := by rw [← e1]; rfl
theorem lenK_isl {t : TypeId} {k : Nat} {es : List (List AV)} : lenK P t (.isl k es) K = ((telem P t).isSome = true ∧ K (.int .i64 es.length)) := (rfl)
theorem lenK_osl {t : TypeId} {id k i len cap : Nat} {ex : Bool} : lenK P t (.osl id k i len cap ex) K = ((telem P t).isSome = true ∧ K (.int .i64 len)) := (rfl)
theorem lenK_nils {t : TypeId} : lenK P t .nils K = ((telem P t).isSome = true ∧ K (.int .i64 0)) := (rfl)
theorem lenK_str {t : TypeId} {s : ByteArray} : lenK P t (.str s) K = (tstring P t = true ∧ K (.int .i64 s.size)) := (rfl)
@[congr] theorem nilCheckK_cg {x x' : AV} (e1 : mk x = x') : nilCheckK x K = nilCheckK x' K := by rw [← e1]; rfl
theorem nilCheckK_ip {c : List AV} {o : Nat} : nilCheckK (.ip c o) K = K (.ip c o) := (rfl)
theorem nilCheckK_op {a b c d : Nat} : nilCheckK (.op a b c d) K = K (.op a b c d) := (rfl)
@[congr] theorem pickK_cg {c c' x y : AV} (e1 : mk c = c') : pickK c x y K = pickK c' x y K := by rw [← e1]; rfl
theorem pickK_eq {c x y : AV} : pickK c x y K = condK c (K x) (K y) := by cases c <;> rfl
@[congr] theorem sliceAll_cg {t : TypeId} {x x' : AV} {lo lo' hi hi' : Option AV} (e1 : mk x = x') (e2 : mk lo = lo') (e3 : mk hi = hi') : sliceAll P t x lo hi K = sliceAll P t x' lo' hi' K := by rw [← e1, ← e2, ← e3]; rfl
/-- A bound. -/
def bdK (d : Nat) (x : Option AV) (K : Nat → Prop) : Prop := match x with | none => K d | some (.int _ z) => 0 ≤ z ∧ K z.toNat | _ => False
theorem bdK_none {d : Nat} {K : Nat → Prop} : bdK d none K = K d := (rfl)
theorem bdK_some {d : Nat} {k : IntKind} {z : Int} {K : Nat → Prop} : bdK d (some (.int k z)) K = (0 ≤ z ∧ K z.toNat) := (rfl)
theorem loK_eq {x : Option AV} {K : Nat → Prop} : loK x K = bdK 0 x K := by cases x with | none => rfl | some u => cases u <;> rfl
theorem hiK_eq {d : Nat} {x : Option AV} {K : Nat → Prop} : hiK d x K = bdK d x K := by cases x with | none => rfl | some u => cases u <;> rfl
@[congr] theorem bdK_cg {d : Nat} {x x' : Option AV} {K : Nat → Prop} (e1 : mk x = x') : bdK d x K = bdK d x' K := by rw [← e1]; rfl
def slK (P : Program) (t : TypeId) (k : Nat) (es : List (List AV)) : Prop := optK (telem P t) fun e => optK (tsize P e) fun s => es ≠ [] → s = k
theorem slK_eq {t : TypeId} {k : Nat} {es : List (List AV)} : slK P t k es = optK (telem P t) fun e => optK (tsize P e) fun s => es ≠ [] → s = k := (rfl)
theorem sliceAll_isl {t : TypeId} {k : Nat} {es : List (List AV)} {lo hi : Option AV} : sliceAll P t (.isl k es) lo hi K = (slK P t k es ∧ bdK 0 lo fun l => bdK es.length hi fun m => (l ≤ m ∧ m ≤ es.length) ∧ K (.isl k ((es.drop l).take (m - l)))) := by
  simp only [sliceAll, sliceK, loK_eq, hiK_eq, ← and_assoc]
  congr 1
  · unfold slK
    cases telem P t with
    | none => simp [optK]
    | some e =>
      cases hs : tsize P e with
      | none => simp [optK, hs]
      | some s => simp [optK, hs]
theorem sliceAll_osl {t : TypeId} {id k i len cap : Nat} {ex : Bool} {lo hi : Option AV} : sliceAll P t (.osl id k i len cap ex) lo hi K = (elK P t k ∧ bdK 0 lo fun l => bdK len hi fun m => (l ≤ m ∧ m ≤ cap) ∧ if l < cap ∨ l = 0 then K (.osl id k (i + l) (m - l) (cap - l) ex) else ex = true ∧ K (.osl id k i 0 0 ex)) := by
  simp only [sliceAll, sliceK, loK_eq, hiK_eq, elK_ex, and_assoc]
  apply propext
  constructor
  · exact fun h => h.2
  · intro h
    refine ⟨?_, h⟩
    have := h.1
    rw [← elK_ex] at this
    obtain ⟨e, h1, h2⟩ := this
    exact ⟨e, k, h1, h2⟩
theorem sliceAll_nils {t : TypeId} {lo hi : Option AV} : sliceAll P t .nils lo hi K = (slK P t 0 [] ∧ bdK 0 lo fun l => bdK 0 hi fun m => (l = 0 ∧ m = 0) ∧ K .nils) := by
  simp only [sliceAll, sliceK, loK_eq, hiK_eq, and_assoc]
  apply propext
  constructor
  · rintro ⟨⟨e, s, h1, h2⟩, _, h3⟩; exact ⟨by simp [slK, h1, h2, optK], h3⟩
  · rintro ⟨h1, h2⟩
    unfold slK at h1
    cases he : telem P t with
    | none => simp [he, optK] at h1
    | some e =>
      cases hs : tsize P e with
      | none => simp [he, hs, optK] at h1
      | some s => exact ⟨⟨e, s, rfl, hs⟩, ⟨e, rfl⟩, h2⟩
end
end
end Go.AL
end

section
/- The small logic's rules for simp: stores, new objects, append, calls, what a function answers. No condition. -/
namespace Go.AL
set_option linter.unusedVariables false
set_option linter.unusedSimpArgs false
section
variable {P : Program} {n : Nat} {a : Fr} {h : Heap}
@[congr] theorem cellsK_cg {u u' : AV} {K : List AV → Prop} (e : mk u = u') : cellsK u K = cellsK u' K := by rw [← e]; rfl
@[congr] theorem storeK_cg {t : TypeId} {h h' : Heap} {p p' u u' : AV} {K : Heap → Prop} (e1 : mk h = h') (e2 : mk p = p') (e3 : mk u = u') : storeK P t h p u K = storeK P t h' p' u' K := by rw [← e1, ← e2, ← e3]; rfl
/-- An object, to be written. -/
def obxK (k : Nat) (o : Option Ob) (K : List (List AV) → Bool → Prop) : Prop := match o with | some (.arr k' es ex) => k' = k ∧ K es ex | _ => False
@[congr] theorem obxK_cg {k : Nat} {o o' : Option Ob} {K : List (List AV) → Bool → Prop} (e : mk o = o') : obxK k o K = obxK k o' K := by rw [← e]; rfl
theorem obxK_some {k : Nat} {es : List (List AV)} {ex : Bool} {K : List (List AV) → Bool → Prop} : obxK k (some (.arr k es ex)) K = K es ex := by simp [obxK]
theorem obxK_ex {k : Nat} {o : Option Ob} {K : List (List AV) → Bool → Prop} : (∃ es ex, o = some (.arr k es ex) ∧ K es ex) = obxK k o K := by
  apply propext
  constructor
  · rintro ⟨es, ex, rfl, hk⟩; exact ⟨rfl, hk⟩
  · intro hk
    cases o with
    | none => exact hk.elim
    | some o =>
      cases o with
      | arr k' es ex => obtain ⟨rfl, hk⟩ := hk; exact ⟨es, ex, rfl, hk⟩
      | _ => exact hk.elim
/-- Cells written over. -/
def patch' (c : List AV) (off : Nat) (cs : List AV) : List AV := match cs with | [v] => c.set off v | _ => patch c off cs
theorem patch_one {c : List AV} {off : Nat} {v : AV} : patch' c off [v] = c.set off v := (rfl)
theorem patch_none {c : List AV} {off : Nat} : patch' c off [] = patch c off [] := (rfl)
theorem patch_two {c : List AV} {off : Nat} {v v' : AV} {r : List AV} : patch' c off (v :: v' :: r) = c.take off ++ (v :: v' :: r) ++ c.drop (off + (v :: v' :: r).length) := (rfl)
theorem patch_eq {c : List AV} {off : Nat} {cs : List AV} (h : off + cs.length ≤ c.length) : patch c off cs = patch' c off cs := by
  match cs with
  | [] => rfl
  | [v] =>
    simp only [List.length_singleton] at h
    apply List.ext_getElem?
    intro i
    simp only [patch, patch', List.length_singleton, List.getElem?_set]
    by_cases h1 : i < off
    · rw [List.append_assoc, List.getElem?_append_left (by simp; omega), List.getElem?_take_of_lt h1, if_neg (by omega)]
    · by_cases h2 : i = off
      · subst h2
        rw [if_pos rfl, if_pos (by omega), List.append_assoc, List.getElem?_append_right (by simp; omega)]
        simp [Nat.min_eq_left (show i ≤ c.length by omega)]
      · rw [if_neg (by omega), List.getElem?_append_right (by simp; omega)]
        simp only [List.length_append, List.length_take, List.length_singleton, List.getElem?_drop, Nat.min_eq_left (show off ≤ c.length by omega)]
        congr 1
        omega
  | v :: v' :: r => rfl
theorem storeK_op {t : TypeId} {id k e off : Nat} {u : AV} {K : Heap → Prop} : storeK P t h (.op id k e off) u K = cellsK u fun cs => optK (tsize P t) fun s => s = cs.length ∧ obxK k h[id]? fun es ex => optK es[e]? fun c => off + cs.length ≤ c.length ∧ letH (h.set id (.arr k (es.set e (patch' c off cs)) ex)) K := by
  unfold storeK
  simp only [letH]
  congr 1
  funext cs
  rw [← optK_eq]
  simp only [← optK_eq (α := List AV), ← obxK_ex]
  apply propext
  constructor
  · rintro ⟨h1, es, ex, h2, c, h3, h4, h5⟩; rw [patch_eq h4] at h5; exact ⟨_, h1, rfl, es, ex, h2, c, h3, h4, h5⟩
  · rintro ⟨_, h1, rfl, es, ex, h2, c, h3, h4, h5⟩; rw [← patch_eq h4] at h5; exact ⟨h1, es, ex, h2, c, h3, h4, h5⟩
@[congr] theorem makeSliceK_cg {t : TypeId} {h h' : Heap} {l l' c c' : AV} {K : AV → Heap → Prop} (e1 : mk h = h') (e2 : mk l = l') (e3 : mk c = c') : makeSliceK P t h l c K = makeSliceK P t h' l' c' K := by rw [← e1, ← e2, ← e3]; rfl
theorem makeSliceK_int {t : TypeId} {k k' : IntKind} {l c : Int} {K : AV → Heap → Prop} : makeSliceK P t h (.int k l) (.int k' c) K = optK (telem P t) fun e => optK (zcells P e) fun z => optK (tbytes P e) fun b => (0 ≤ l ∧ l ≤ c ∧ b * c ≤ 281474976710656 ∧ c ≤ 9223372036854775807) ∧
    letH (h ++ [.arr z.length (List.replicate c.toNat z) true]) (K (.osl h.length z.length 0 l.toNat c.toNat true)) := by
  unfold makeSliceK
  simp only [letH, and_assoc]
  cases telem P t with
  | none => simp [optK]
  | some e =>
    cases hz : zcells P e with
    | none => simp [optK, hz]
    | some z =>
      cases hb : tbytes P e with
      | none => simp [optK, hz, hb]
      | some b => simp [optK, hz, hb]
theorem fillK_nil {pl : Nat → Option (Nat × Nat)} {cs : List AV} {K : List AV → Prop} : fillK pl [] cs K = K cs := (rfl)
theorem fillK_cons {pl : List (Nat × Nat)} {i : Nat} {u : AV} {r : List (Nat × AV)} {cs : List AV} {K : List AV → Prop} : fillK (fun i => pl[i]?) ((i, u) :: r) cs K = cellsK u fun us => optK pl[i]? fun x => x.2 = us.length ∧ x.1 + us.length ≤ cs.length ∧ fillK (fun i => pl[i]?) r (patch cs x.1 us) K := by
  show (cellsK u fun us => ∃ off, pl[i]? = some (off, us.length) ∧ off + us.length ≤ cs.length ∧ fillK (fun i => pl[i]?) r (patch cs off us) K) = _
  congr 1
  funext us
  rw [← optK_eq]
  apply propext
  constructor
  · rintro ⟨off, h1, h2⟩; exact ⟨_, h1, rfl, h2⟩
  · rintro ⟨⟨off, m⟩, h1, h0, h2⟩; cases h0; exact ⟨off, h1, h2⟩
@[congr] theorem fillK_cg {pl : Nat → Option (Nat × Nat)} {us us' : List (Nat × AV)} {cs cs' : List AV} {K : List AV → Prop} (e1 : mk us = us') (e2 : mk cs = cs') : fillK pl us cs K = fillK pl us' cs' K := by rw [← e1, ← e2]; rfl
theorem fillRK_nil {k : Nat} {es : List (List AV)} {K : List (List AV) → Prop} : fillRK k [] es K = K es := (rfl)
theorem fillRK_cons {k i : Nat} {u : AV} {r : List (Nat × AV)} {es : List (List AV)} {K : List (List AV) → Prop} : fillRK k ((i, u) :: r) es K = cellsK u fun us => us.length = k ∧ i < es.length ∧ fillRK k r (es.set i us) K := (rfl)
@[congr] theorem fillRK_cg {k k' : Nat} {us us' : List (Nat × AV)} {cs cs' : List (List AV)} {K : List (List AV) → Prop} (e0 : mk k = k') (e1 : mk us = us') (e2 : mk cs = cs') : fillRK k us cs K = fillRK k' us' cs' K := by rw [← e0, ← e1, ← e2]; rfl
@[congr] theorem callK_cg {f f' : AV} {us us' : List AV} {h h' : Heap} {K : AV → Heap → Prop} (e0 : mk f = f') (e1 : mk us = us') (e2 : mk h = h') : callK P f us h K = callK P f' us' h' K := by rw [← e0, ← e1, ← e2]; rfl
theorem callK_fn {g : FuncId} {first cap us : List AV} {K : AV → Heap → Prop} : callK P (.fn (.func g) first cap) us h K = ACalls P g (first ++ us ++ cap) h K := (rfl)
@[congr] theorem ACalls_cg {f : FuncId} {us us' : List AV} {h h' : Heap} {K : AV → Heap → Prop} (e1 : mk us = us') (e2 : mk h = h') : ACalls P f us h K = ACalls P f us' h' K := by rw [← e1, ← e2]; rfl
@[congr] theorem LoopK_cg {body : (Exit → Fr → Heap → Prop) → Fr → Heap → Prop} {Q : Exit → Fr → Heap → Prop} {a : Fr} {h h' : Heap} (e : mk h = h') : LoopK body Q a h = LoopK body Q a h' := by rw [← e]; rfl
@[congr] theorem GcK_cg {N N' : Nat} {a : Fr} {h : Heap} {K : Fr → Heap → Prop} (e : mk N = N') : GcK N a h K = GcK N' a h K := by rw [← e]; rfl
@[congr] theorem elemsK_cg {k k' : Nat} {x x' : AV} {h h' : Heap} {K : List (List AV) → Prop} (e0 : mk k = k') (e1 : mk x = x') (e2 : mk h = h') : elemsK h k x K = elemsK h' k' x' K := by rw [← e0, ← e1, ← e2]; rfl
theorem elemsK_nils {k : Nat} {K : List (List AV) → Prop} : elemsK h k .nils K = K [] := (rfl)
theorem elemsK_isl {k : Nat} {es : List (List AV)} {K : List (List AV) → Prop} : elemsK h k (.isl k es) K = K es := by simp [elemsK]
theorem elemsK_osl {id k i len cap : Nat} {ex : Bool} {K : List (List AV) → Prop} : elemsK h k (.osl id k i len cap ex) K = objK k h[id]? fun es => i + len ≤ es.length ∧ K ((es.drop i).take len) := by
  simp only [elemsK, true_and]
  exact objK_ex
/-- Append to a slice of an own object. -/
def apK (z : List AV) (b : Nat) (h : Heap) (s : AV) (xs : List (List AV)) (K : AV → Heap → Prop) : Prop :=
  match s with
  | .nils => xs.length * b ≤ 140737488355328 ∧ (xs = [] → K .nils h) ∧ (xs ≠ [] → growK z.length b z h.length h xs K)
  | .osl id k' i len cap ex => k' = z.length ∧ (len + xs.length) * b ≤ 140737488355328 ∧ ∃ es ex', h[id]? = some (.arr k' es ex') ∧ i + len ≤ es.length ∧
        (len + xs.length ≤ cap → i + len + xs.length ≤ es.length ∧ K (.osl id k' i (len + xs.length) cap ex) (h.set id (.arr k' (es.take (i + len) ++ xs ++ es.drop (i + len + xs.length)) ex'))) ∧
        (¬ len + xs.length ≤ cap → match ex with
          | true => growK k' b z h.length h ((es.drop i).take len ++ xs) K
          | false => i = 0 ∧ K (.osl h.length k' 0 (len + xs.length) (len + xs.length) false) (h.set id .dead ++ [.arr k' (es.take len ++ xs) false]))
  | _ => False
theorem appendK_ap {t t' : TypeId} {s x : AV} {K : AV → Heap → Prop} : appendK P t t' h s x K = ∃ e z b, telem P t = some e ∧ (telem P t').isSome = true ∧ zcells P e = some z ∧ tbytes P e = some b ∧ 0 < b ∧ elemsK h z.length x fun xs => apK z b h s xs K := by
  unfold appendK
  cases s <;> rfl
theorem appendK_eq {t t' : TypeId} {s x : AV} {K : AV → Heap → Prop} : appendK P t t' h s x K = ((telem P t').isSome = true ∧ optK (telem P t) fun e => optK (zcells P e) fun z => optK (tbytes P e) fun b => 0 < b ∧ elemsK h z.length x fun xs => apK z b h s xs K) := by
  rw [appendK_ap]
  simp only [← optK_eq]
  apply propext
  constructor
  · rintro ⟨e, z, b, h1, h2, h3, h4, h5⟩; exact ⟨h2, e, h1, z, h3, b, h4, h5⟩
  · rintro ⟨h2, e, h1, z, h3, b, h4, h5⟩; exact ⟨e, z, b, h1, h2, h3, h4, h5⟩
@[congr] theorem appendK_cg {t t' : TypeId} {h h' : Heap} {s s' x x' : AV} {K : AV → Heap → Prop} (e1 : mk h = h') (e2 : mk s = s') (e3 : mk x = x') : appendK P t t' h s x K = appendK P t t' h' s' x' K := by rw [← e1, ← e2, ← e3]; rfl
@[congr] theorem apK_cg {z z' : List AV} {b : Nat} {h h' : Heap} {s s' : AV} {xs xs' : List (List AV)} {K : AV → Heap → Prop} (e0 : mk z = z') (e1 : mk h = h') (e2 : mk s = s') (e3 : mk xs = xs') : apK z b h s xs K = apK z' b h' s' xs' K := by rw [← e0, ← e1, ← e2, ← e3]; rfl
@[congr] theorem growK_cg {k k' b : Nat} {z z' : List AV} {N N' : Nat} {g g' : Heap} {es es' : List (List AV)} {K : AV → Heap → Prop} (e0 : mk k = k') (e1 : mk z = z') (e2 : mk N = N') (e3 : mk g = g') (e4 : mk es = es') : growK k b z N g es K = growK k' b z' N' g' es' K := by rw [← e0, ← e1, ← e2, ← e3, ← e4]; rfl
theorem growK_eq {k b : Nat} {z : List AV} {N : Nat} {g : Heap} {es : List (List AV)} {K : AV → Heap → Prop} : growK k b z N g es K = condK (.bool (b == 8)) (∀ c, es.length ≤ c → letH (g ++ [.arr k (es ++ List.replicate (c - es.length) z) true]) (K (.osl N k 0 es.length c true))) (letH (g ++ [.arr k es false]) (K (.osl N k 0 es.length es.length false))) := by
  unfold growK
  by_cases c : b = 8
  · subst c; simp [condK, letH]
  · rw [if_neg c, show (b == 8) = false from beq_false_of_ne c]; simp [condK, letH]
theorem apK_nils {z : List AV} {b : Nat} {x : List AV} {xs : List (List AV)} {K : AV → Heap → Prop} : apK z b h .nils (x :: xs) K = ((x :: xs).length * b ≤ 140737488355328 ∧ growK z.length b z h.length h (x :: xs) K) := by
  simp [apK]
theorem apK_osl {z : List AV} {k b id i len cap : Nat} {ex : Bool} {xs : List (List AV)} {K : AV → Heap → Prop} : apK z b h (.osl id k i len cap ex) xs K = (k = z.length ∧ (len + xs.length) * b ≤ 140737488355328 ∧ obxK k h[id]? fun es ex' => i + len ≤ es.length ∧
        (len + xs.length ≤ cap → i + len + xs.length ≤ es.length ∧ letH (h.set id (.arr k (es.take (i + len) ++ xs ++ es.drop (i + len + xs.length)) ex')) (K (.osl id k i (len + xs.length) cap ex))) ∧
        (¬ len + xs.length ≤ cap → condK (.bool ex) (growK k b z h.length h ((es.drop i).take len ++ xs) K)
          (i = 0 ∧ letH (h.set id .dead ++ [.arr k (es.take len ++ xs) false]) (K (.osl h.length k 0 (len + xs.length) (len + xs.length) false))))) := by
  simp only [apK, ← obxK_ex, true_and, letH]
  cases ex <;> simp [condK]

@[congr] theorem clearK_cg {t : TypeId} {h h' : Heap} {x x' : AV} {K : Heap → Prop} (e1 : mk h = h') (e2 : mk x = x') : clearK P t h x K = clearK P t h' x' K := by rw [← e1, ← e2]; rfl
theorem clearK_nils {t : TypeId} {K : Heap → Prop} : clearK P t h .nils K = ((telem P t).isSome = true ∧ K h) := (rfl)
theorem clearK_osl {t : TypeId} {id k i len cap : Nat} {ex : Bool} {K : Heap → Prop} : clearK P t h (.osl id k i len cap ex) K = optK (telem P t) fun e => optK (zcells P e) fun z => k = z.length ∧ obxK k h[id]? fun es ex' => i + len ≤ es.length ∧ letH (h.set id (.arr k (es.take i ++ List.replicate len z ++ es.drop (i + len)) ex')) K := by
  simp only [clearK, ← optK_eq, ← obxK_ex, letH]
  apply propext
  constructor
  · rintro ⟨e, z, h1, h2, h3⟩; exact ⟨e, h1, z, h2, h3⟩
  · rintro ⟨e, h1, z, h2, h3⟩; exact ⟨e, z, h1, h2, h3⟩

/-! ### what a function answers -/
variable {K : List AV → Prop} {Q : AV → Heap → Prop}
theorem resK_nil : resK P a h [] K = K [] := (rfl)
theorem resK_tmp {t : Tmp} {r : List ResultVar} : resK P a h (.tmp t :: r) K = resK P a h r fun us => K (a t :: us) := (rfl)
theorem resK_cell {p t : Nat} {r : List ResultVar} : resK P a h (.cell p t :: r) K = loadK P t h (a p) fun u => resK P a h r fun us => K (u :: us) := (rfl)
theorem oneK_one {u : AV} {K : AV → Prop} : oneK [u] K = K u := (rfl)
theorem oneK_none {K : AV → Prop} : oneK [] K = K (.tup []) := (rfl)
theorem oneK_two {u v : AV} {us : List AV} {K : AV → Prop} : oneK (u :: v :: us) K = K (.tup (u :: v :: us)) := (rfl)
theorem bodyQ_normal {rs : List ResultVar} : bodyQ P rs Q .normal a h = resK P a h rs fun us => oneK us fun u => Q u h := (rfl)
theorem bodyQ_ret {rs : List ResultVar} : bodyQ P rs Q .ret a h = resK P a h rs fun us => oneK us fun u => Q u h := (rfl)

/-! ### lists of numbers, of truths -/
theorem tn1 {k : Nat} : ((k : Int) + 1).toNat = k + 1 := by omega
theorem tn2 {k : Nat} : ((k : Int) + 2).toNat = k + 2 := by omega
theorem tn3 {k : Nat} : ((k : Int) + 3).toNat = k + 3 := by omega
def intE (x : Int) : List AV := [AV.int .i64 x]
def boolE (x : Bool) : List AV := [AV.bool x]
theorem intE_eq {x : Int} : intE x = [AV.int .i64 x] := (rfl)
theorem boolE_eq {x : Bool} : boolE x = [AV.bool x] := (rfl)
theorem rep_intE {m : Nat} : List.replicate m [AV.int .i64 0] = List.map intE (List.replicate m 0) := by simp [intE]
theorem rep_boolE {m : Nat} : List.replicate m [AV.bool false] = List.map boolE (List.replicate m false) := by simp [boolE]
theorem set_intE {xs : List Int} {i : Nat} {y : Int} : (List.map intE xs).set i [AV.int .i64 y] = List.map intE (xs.set i y) := by rw [List.map_set]; rfl
theorem set_boolE {xs : List Bool} {i : Nat} {y : Bool} : (List.map boolE xs).set i [AV.bool y] = List.map boolE (xs.set i y) := by rw [List.map_set]; rfl
theorem set_bools {xs : List Bool} {i : Nat} {y : Bool} : (List.map AV.bool xs).set i (AV.bool y) = List.map AV.bool (xs.set i y) := by rw [List.map_set]
theorem app_intE {xs : List Int} {y : Int} : List.map intE xs ++ [[AV.int .i64 y]] = List.map intE (xs ++ [y]) := by rw [List.map_append]; rfl
theorem app_intE3 {xs : List Int} {a b c : Int} : List.map intE xs ++ [[AV.int .i64 a], [AV.int .i64 b], [AV.int .i64 c]] = List.map intE (xs ++ [a, b, c]) := by rw [List.map_append]; rfl
theorem take_app {xs ys : List Int} : List.take xs.length (List.map intE (xs ++ ys)) = List.map intE xs := by rw [List.map_append, List.take_append_of_le_length (by simp), List.take_of_length_le (by simp)]
theorem drop_app3 {xs : List Int} {a b c : Int} : List.drop (xs.length + 3) (List.map intE (xs ++ [a, b, c])) = [] := by apply List.drop_of_length_le; simp
theorem take_map_all {α β : Type} {f : α → β} {xs : List α} : List.take xs.length (List.map f xs) = List.map f xs := by
  rw [List.take_of_length_le (by simp)]
end
end Go.AL
end
