/- The small logic's one step, on: it looks at its operands alone; operations that look at no heap. No condition. -/
import Derived.Test.YtgdlkhgfehclpaaALh
namespace Go.AL
set_option linter.unusedVariables false
set_option linter.unusedSimpArgs false
set_option linter.unnecessarySimpa false

section
variable {P : Program} {a a' : Fr} {h : Heap}

/-! ### operands -/
def tmpsOf (op : Op) : List Tmp := op.operands.toList.filterMap fun | .tmp t => some t | _ => none

theorem evK_imp {x : Operand} {K K' : AV → Prop} (h : ∀ t, x = .tmp t → a t = a' t) (hK : ∀ u, K u → K' u) (hk : evK a x K) : evK a' x K' := by
  cases x with
  | tmp t => show K' (a' t); rw [← h t rfl]; exact hK _ hk
  | const v =>
    simp only [evK] at hk ⊢
    cases hv : ofV v with
    | none => simp [hv] at hk
    | some u => rw [hv] at hk; exact hK _ hk
  | func f => exact hK _ hk
  | global g => exact hk.elim
theorem evoK_imp {x : Option Operand} {K K' : Option AV → Prop} (h : ∀ t, x = some (.tmp t) → a t = a' t) (hK : ∀ u, K u → K' u) (hk : evoK a x K) : evoK a' x K' := by
  cases x with
  | none => exact hK _ hk
  | some x => exact evK_imp (K := fun u => K (some u)) (K' := fun u => K' (some u)) (fun t ht => h t (by rw [ht])) (fun u hu => hK _ hu) hk
theorem evsK_imp : ∀ {xs : List Operand} {K K' : List AV → Prop}, (∀ t, Operand.tmp t ∈ xs → a t = a' t) → (∀ u, K u → K' u) → evsK a xs K → evsK a' xs K'
  | [], K, K', h, hK, hk => hK _ hk
  | x :: r, K, K', h, hK, hk => evK_imp (fun t ht => h t (by rw [ht]; simp)) (fun u hu => evsK_imp (fun t ht => h t (by simp [ht])) (fun us hus => hK _ hus) hu) hk
theorem evpK_imp : ∀ {xs : List (Nat × Operand)} {K K' : List (Nat × AV) → Prop}, (∀ t, Operand.tmp t ∈ xs.map (·.2) → a t = a' t) → (∀ u, K u → K' u) → evpK a xs K → evpK a' xs K'
  | [], K, K', h, hK, hk => hK _ hk
  | (i, x) :: r, K, K', h, hK, hk => evK_imp (fun t ht => h t (by rw [ht]; simp)) (fun u hu => evpK_imp (fun t ht => h t (List.mem_cons_of_mem _ ht)) (fun us hus => hK _ hus) hu) hk

theorem mem_tmpsOf {op : Op} {t : Tmp} : t ∈ tmpsOf op ↔ Operand.tmp t ∈ op.operands.toList := by
  unfold tmpsOf
  simp only [List.mem_filterMap]
  constructor
  · rintro ⟨x, hx, he⟩
    cases x <;> simp at he
    subst he
    exact hx
  · intro hx
    exact ⟨_, hx, rfl⟩

theorem aop_congr {op : Op} {K : AV → Heap → Prop} (ha : ∀ t, t ∈ tmpsOf op → a t = a' t) (hk : aop P op a h K) : aop P op a' h K := by
  have hm : ∀ t, Operand.tmp t ∈ op.operands.toList → a t = a' t := fun t ht => ha t (mem_tmpsOf.2 ht)
  cases op with
  | move x => simp only [aop] at hk ⊢; exact evK_imp (fun t ht => hm t (by simp [Op.operands, ht])) (fun _ h => h) hk
  | assign x => simp only [aop] at hk ⊢; exact evK_imp (fun t ht => hm t (by simp [Op.operands, ht])) (fun _ h => h) hk
  | pick c x y => simp only [aop] at hk ⊢; exact evK_imp (fun t ht => hm t (by simp [Op.operands, ht])) (fun _ => evK_imp (fun t ht => hm t (by simp [Op.operands, ht])) fun _ => evK_imp (fun t ht => hm t (by simp [Op.operands, ht])) fun _ h => h) hk
  | alloc t => exact hk
  | box t x => simp only [aop] at hk ⊢; exact evK_imp (fun t ht => hm t (by simp [Op.operands, ht])) (fun _ h => h) hk
  | build t parts => simp only [aop] at hk ⊢; exact evpK_imp (fun t ht => hm t (by simpa [Op.operands] using ht)) (fun _ h => h) hk
  | buildSlice t len parts => simp only [aop] at hk ⊢; exact evpK_imp (fun t ht => hm t (by simpa [Op.operands] using ht)) (fun _ h => h) hk
  | load t x => simp only [aop] at hk ⊢; exact evK_imp (fun t ht => hm t (by simp [Op.operands, ht])) (fun _ h => h) hk
  | store t p x => simp only [aop] at hk ⊢; exact evK_imp (fun t ht => hm t (by simp [Op.operands, ht])) (fun _ => evK_imp (fun t ht => hm t (by simp [Op.operands, ht])) fun _ h => h) hk
  | nilCheck x => simp only [aop] at hk ⊢; exact evK_imp (fun t ht => hm t (by simp [Op.operands, ht])) (fun _ h => h) hk
  | binOp op t x y t' => simp only [aop] at hk ⊢; exact evK_imp (fun t ht => hm t (by simp [Op.operands, ht])) (fun _ => evK_imp (fun t ht => hm t (by simp [Op.operands, ht])) fun _ h => h) hk
  | unOp op t x => simp only [aop] at hk ⊢; exact evK_imp (fun t ht => hm t (by simp [Op.operands, ht])) (fun _ h => h) hk
  | convert s d x => simp only [aop] at hk ⊢; exact evK_imp (fun t ht => hm t (by simp [Op.operands, ht])) (fun _ h => h) hk
  | makeFunc f fs cs => simp only [aop] at hk ⊢; exact evsK_imp (fun t ht => hm t (by simp only [Op.operands, Array.toList_append, List.mem_append]; exact .inl ht)) (fun _ => evsK_imp (fun t ht => hm t (by simp only [Op.operands, Array.toList_append, List.mem_append]; exact .inr ht)) fun _ h => h) hk
  | makeInterface t x => simp only [aop] at hk ⊢; exact ⟨hk.1, evK_imp (fun t ht => hm t (by simp [Op.operands, ht])) (fun _ h => h) hk.2⟩
  | makeSlice t l c => simp only [aop] at hk ⊢; exact evK_imp (fun t ht => hm t (by simp [Op.operands, ht])) (fun _ => evK_imp (fun t ht => hm t (by simp [Op.operands, ht])) fun _ h => h) hk
  | slice t x lo hi mx =>
    cases mx with
    | none => simp only [aop] at hk ⊢; exact evK_imp (fun t ht => hm t (by simp [Op.operands, ht])) (fun _ => evoK_imp (fun t ht => hm t (by simp [Op.operands, ht])) fun _ => evoK_imp (fun t ht => hm t (by simp [Op.operands, ht])) fun _ h => h) hk
    | some m => exact hk.elim
  | fieldAddr s x f => simp only [aop] at hk ⊢; exact evK_imp (fun t ht => hm t (by simp [Op.operands, ht])) (fun _ h => h) hk
  | field t x f => simp only [aop] at hk ⊢; exact evK_imp (fun t ht => hm t (by simp [Op.operands, ht])) (fun _ h => h) hk
  | indexAddr t x i => simp only [aop] at hk ⊢; exact evK_imp (fun t ht => hm t (by simp [Op.operands, ht])) (fun _ => evK_imp (fun t ht => hm t (by simp [Op.operands, ht])) fun _ h => h) hk
  | index t x i => simp only [aop] at hk ⊢; exact evK_imp (fun t ht => hm t (by simp [Op.operands, ht])) (fun _ => evK_imp (fun t ht => hm t (by simp [Op.operands, ht])) fun _ h => h) hk
  | extract x i => simp only [aop] at hk ⊢; exact evK_imp (fun t ht => hm t (by simp [Op.operands, ht])) (fun _ h => h) hk
  | call c =>
    obtain ⟨callee, args, ts⟩ := c
    cases callee with
    | value f => simp only [aop] at hk ⊢; exact evK_imp (fun t ht => hm t (by simp [Op.operands, Call.operands, ht])) (fun _ => evsK_imp (fun t ht => hm t (by simp [Op.operands, Call.operands]; exact .inr (by simpa using ht))) fun _ h => h) hk
    | builtin b =>
      have hb : ∀ t, Operand.tmp t ∈ args.toList → a t = a' t := fun t ht => hm t (by simpa [Op.operands, Call.operands] using ht)
      have h1 : ∀ (F : AV → TypeId → Prop), (match args.toList, ts.toList with | [x], [t] => evK a x fun u => F u t | _, _ => False) → (match args.toList, ts.toList with | [x], [t] => evK a' x fun u => F u t | _, _ => False) := by
        intro F hF
        split at hF
        · rename_i x t e1 e2
          exact evK_imp (fun t ht => hb t (by rw [e1, ht]; simp)) (fun _ h => h) hF
        · exact hF.elim
      cases b with
      | len => simp only [aop, builtinK] at hk ⊢; exact h1 (fun u t => lenK P t u fun u => K u h) hk
      | cap => simp only [aop, builtinK] at hk ⊢; exact h1 (fun u t => capK P t u fun u => K u h) hk
      | min => simp only [aop, builtinK] at hk ⊢; exact evsK_imp hb (fun _ h => h) hk
      | max => simp only [aop, builtinK] at hk ⊢; exact evsK_imp hb (fun _ h => h) hk
      | clear => simp only [aop, builtinK] at hk ⊢; exact h1 (fun u t => clearK P t h u fun h' => K .undef h') hk
      | append =>
        simp only [aop, builtinK] at hk ⊢
        split at hk
        · rename_i s x t t' e1 e2
          exact evK_imp (fun t ht => hb t (by rw [e1, ht]; simp)) (fun _ => evK_imp (fun t ht => hb t (by rw [e1, ht]; simp)) fun _ h => h) hk
        · exact hk.elim
      | _ => exact hk.elim
    | invoke r m => exact hk.elim
  | _ => exact hk.elim

/-! ### operations that look at no heap -/
def quietB : Builtin → Bool | .len | .cap | .min | .max => true | _ => false
/-- They look at no heap, and turn none. -/
def quietOp : Op → Bool
  | .move _ | .assign _ | .pick .. | .build .. | .nilCheck _ | .binOp .. | .unOp .. | .convert .. | .makeFunc .. | .makeInterface .. | .slice .. | .fieldAddr .. | .field .. | .indexAddr .. | .index .. | .extract .. => true
  | .call { callee := .builtin b, .. } => quietB b
  | _ => false
def loadOp : Op → Bool
  | .load .. => true
  | _ => false

theorem eqK_imp {op : BinOp} {b : Bool} {K K' : AV → Prop} (hK : ∀ u, K u → K' u) (hk : eqK op b K) : eqK op b K' := by
  cases op <;> first | exact hk.elim | exact hK _ hk
theorem strK_imp {op : BinOp} {x y : ByteArray} {K K' : AV → Prop} (hK : ∀ u, K u → K' u) (hk : strK op x y K) : strK op x y K' := by
  cases op <;> first | exact hk.elim | exact hK _ hk
theorem iK_imp {op : BinOp} {k k' : IntKind} {x y : Int} {K K' : AV → Prop} (hK : ∀ u, K u → K' u) (hk : iK op k x k' y K) : iK op k x k' y K' := by
  cases op <;> first | exact ⟨hk.1, hK _ hk.2⟩ | exact ⟨hk.1, hk.2.1, hK _ hk.2.2⟩ | exact ⟨hk.1, fitK_mono hK hk.2⟩
theorem binAll_imp {op : BinOp} {t : TypeId} {u v : AV} {K K' : AV → Prop} (hK : ∀ u, K u → K' u) (hk : binAll P op t u v K) : binAll P op t u v K' := by
  cases v with
  | int k m => cases u with | int _ _ => exact iK_imp hK hk | _ => exact hk.elim
  | bool b => cases u with | bool _ => exact ⟨hk.1, eqK_imp hK hk.2⟩ | _ => exact hk.elim
  | str s => cases u with | str _ => exact strK_imp hK hk | _ => exact hk.elim
  | nils => cases u with
    | isl _ _ => exact ⟨hk.1, fun e => eqK_imp hK (hk.2.1 e), eqK_imp hK hk.2.2⟩
    | nils => exact ⟨hk.1, eqK_imp hK hk.2⟩
    | osl _ _ _ _ _ _ => exact ⟨hk.1, eqK_imp hK hk.2⟩
    | _ => exact hk.2.elim
  | nilp => cases u with
    | nilp => exact ⟨hk.1, eqK_imp hK hk.2⟩
    | ip _ _ => exact ⟨hk.1, eqK_imp hK hk.2⟩
    | op _ _ _ _ => exact ⟨hk.1, eqK_imp hK hk.2⟩
    | _ => exact hk.2.elim
  | nilf => cases u with
    | nilf => exact ⟨hk.1, eqK_imp hK hk.2⟩
    | fn _ _ _ => exact ⟨hk.1, eqK_imp hK hk.2⟩
    | _ => exact hk.2.elim
  | nilm => cases u with
    | nilm => exact ⟨hk.1, eqK_imp hK hk.2⟩
    | om _ => exact ⟨hk.1, eqK_imp hK hk.2⟩
    | _ => exact hk.2.elim
  | _ => exact hk.elim
theorem pickK_imp {c x y : AV} {K K' : AV → Prop} (hK : ∀ u, K u → K' u) (hk : pickK c x y K) : pickK c x y K' := by
  cases c with | bool b => exact ⟨fun e => hK _ (hk.1 e), fun e => hK _ (hk.2 e)⟩ | _ => exact hk.elim
theorem unK_imp {op : UnOp} {x : AV} {K K' : AV → Prop} (hK : ∀ u, K u → K' u) (hk : unK op x K) : unK op x K' := by
  cases x with
  | bool b => cases op <;> first | exact hK _ hk | exact hk.elim
  | int k n => cases op <;> first | exact hK _ hk | exact hk.elim | exact fitK_mono hK hk
  | _ => exact hk.elim
theorem convK_imp {s d : TypeId} {x : AV} {K K' : AV → Prop} (hK : ∀ u, K u → K' u) (hk : convK P s d x K) : convK P s d x K' := by
  cases x with
  | int k n => obtain ⟨h1, k, h2, h3⟩ := hk; exact ⟨h1, k, h2, fitK_mono hK h3⟩
  | str s => exact ⟨hk.1, hk.2.1, hK _ hk.2.2⟩
  | _ => exact hk.elim
theorem nilCheckK_imp {x : AV} {K K' : AV → Prop} (hK : ∀ u, K u → K' u) (hk : nilCheckK x K) : nilCheckK x K' := by
  cases x <;> first | exact hK _ hk | exact hk.elim
theorem loK_imp {x : Option AV} {K K' : Nat → Prop} (hK : ∀ u, K u → K' u) (hk : loK x K) : loK x K' := by
  cases x with
  | none => exact hK _ hk
  | some u => cases u <;> first | exact ⟨hk.1, hK _ hk.2⟩ | exact hk.elim
theorem hiK_imp {n : Nat} {x : Option AV} {K K' : Nat → Prop} (hK : ∀ u, K u → K' u) (hk : hiK n x K) : hiK n x K' := by
  cases x with
  | none => exact hK _ hk
  | some u => cases u <;> first | exact ⟨hk.1, hK _ hk.2⟩ | exact hk.elim
theorem sliceK_imp {t : TypeId} {x : AV} {lo hi : Option AV} {K K' : AV → Prop} (hK : ∀ u, K u → K' u) (hk : sliceK P t x lo hi K) : sliceK P t x lo hi K' := by
  cases x with
  | isl k es => exact ⟨hk.1, loK_imp (fun l => hiK_imp fun m h => ⟨h.1, h.2.1, hK _ h.2.2⟩) hk.2⟩
  | osl id k i len cap ex =>
    refine ⟨hk.1, loK_imp (fun l => hiK_imp fun m h => ⟨h.1, h.2.1, ?_⟩) hk.2⟩
    have := h.2.2
    split at this
    · rename_i c; rw [if_pos c]; exact hK _ this
    · rename_i c; rw [if_neg c]; exact ⟨this.1, hK _ this.2⟩
  | nils => exact ⟨hk.1, loK_imp (fun l => hiK_imp fun m h => ⟨h.1, h.2.1, hK _ h.2.2⟩) hk.2⟩
  | str s => exact ⟨hk.1, loK_imp (fun l => hiK_imp fun m h => ⟨h.1, h.2.1, hK _ h.2.2⟩) hk.2⟩
  | _ => exact hk.elim
theorem sliceAll_imp {t : TypeId} {x : AV} {lo hi : Option AV} {K K' : AV → Prop} (hK : ∀ u, K u → K' u) (hk : sliceAll P t x lo hi K) : sliceAll P t x lo hi K' := by
  cases x with
  | str s => exact sliceK_imp (x := .str s) hK hk
  | _ => exact ⟨hk.1, sliceK_imp hK hk.2⟩
theorem fieldAddrK_imp {s f : Nat} {p : AV} {K K' : AV → Prop} (hK : ∀ u, K u → K' u) (hk : fieldAddrK P s f p K) : fieldAddrK P s f p K' := by
  obtain ⟨o, ft, h1, h2⟩ := hk
  refine ⟨o, ft, h1, ?_⟩
  cases p <;> first | exact hK _ h2 | exact h2.elim
theorem partK_imp {t : TypeId} {cs : List AV} {off : Nat} {K K' : AV → Prop} (hK : ∀ u, K u → K' u) (hk : partK P t cs off K) : partK P t cs off K' := by
  unfold partK at hk ⊢
  split at hk
  · obtain ⟨n, h1, h2, h3⟩ := hk; exact ⟨n, h1, h2, hK _ h3⟩
  · obtain ⟨v, h1, h2⟩ := hk; exact ⟨v, h1, hK _ h2⟩
  · exact hk.elim
theorem fieldK_imp {t f : Nat} {x : AV} {K K' : AV → Prop} (hK : ∀ u, K u → K' u) (hk : fieldK P t f x K) : fieldK P t f x K' := by
  obtain ⟨o, ft, h1, h2⟩ := hk
  refine ⟨o, ft, h1, ?_⟩
  cases x <;> first | exact partK_imp hK h2 | exact h2.elim
theorem indexAddrK_imp {t : TypeId} {x i : AV} {K K' : AV → Prop} (hK : ∀ u, K u → K' u) (hk : indexAddrK P t x i K) : indexAddrK P t x i K' := by
  cases i with
  | int k n =>
    cases x with
    | isl k es => obtain ⟨h1, h2, h3, c, h4, h5⟩ := hk; exact ⟨h1, h2, h3, c, h4, hK _ h5⟩
    | osl _ _ _ _ _ _ => obtain ⟨h1, h2, h3, h4⟩ := hk; exact ⟨h1, h2, h3, hK _ h4⟩
    | ip _ _ => obtain ⟨m, e, s, h1, h2, h3, h4, h5⟩ := hk; exact ⟨m, e, s, h1, h2, h3, h4, hK _ h5⟩
    | op _ _ _ _ => obtain ⟨m, e, s, h1, h2, h3, h4, h5⟩ := hk; exact ⟨m, e, s, h1, h2, h3, h4, hK _ h5⟩
    | _ => exact hk.elim
  | _ => exact hk.elim
theorem indexK_imp {t : TypeId} {x i : AV} {K K' : AV → Prop} (hK : ∀ u, K u → K' u) (hk : indexK P t x i K) : indexK P t x i K' := by
  cases i with
  | int k n =>
    cases x with
    | agg cs => obtain ⟨m, e, s, h1, h2, h3, h4, h5⟩ := hk; exact ⟨m, e, s, h1, h2, h3, h4, partK_imp hK h5⟩
    | str s => obtain ⟨h1, h2, h3, h4⟩ := hk; exact ⟨h1, h2, h3, hK _ h4⟩
    | _ => exact hk.elim
  | _ => exact hk.elim
theorem extK_imp {x : AV} {i : Nat} {K K' : AV → Prop} (hK : ∀ u, K u → K' u) (hk : extK x i K) : extK x i K' := by
  cases x with | tup vs => obtain ⟨v, h1, h2⟩ := hk; exact ⟨v, h1, hK _ h2⟩ | _ => exact hk.elim
theorem lenK_imp {t : TypeId} {x : AV} {K K' : AV → Prop} (hK : ∀ u, K u → K' u) (hk : lenK P t x K) : lenK P t x K' := by
  cases x <;> first | exact ⟨hk.1, hK _ hk.2⟩ | exact hk.elim
theorem capK_imp {t : TypeId} {x : AV} {K K' : AV → Prop} (hK : ∀ u, K u → K' u) (hk : capK P t x K) : capK P t x K' := by
  cases x <;> first | exact ⟨hk.1, hk.2.1, hK _ hk.2.2⟩ | exact ⟨hk.1, hK _ hk.2⟩ | exact hk.elim
theorem mins_imp {g : Int → Int → Int} {k : IntKind} : ∀ {us : List AV} {x : Int} {K K' : Int → Prop}, (∀ u, K u → K' u) → mins g x us K k → mins g x us K' k
  | [], x, K, K', hK, hk => hK _ hk
  | u :: us, x, K, K', hK, hk => by cases u <;> first | exact ⟨hk.1, mins_imp hK hk.2⟩ | exact hk.elim
theorem minK_imp {g : Int → Int → Int} {us : List AV} {K K' : AV → Prop} (hK : ∀ u, K u → K' u) (hk : minK g us K) : minK g us K' := by
  cases us with
  | nil => exact hk.elim
  | cons u us => cases u <;> first | exact mins_imp (fun x h => hK _ h) hk | exact hk.elim
theorem cellsK_imp {u : AV} {K K' : List AV → Prop} (hK : ∀ c, K c → K' c) (hk : cellsK u K) : cellsK u K' := by
  cases u <;> first | exact hK _ hk | exact hk.elim
theorem fillK_imp {place : Nat → Option (Nat × Nat)} : ∀ {us : List (Nat × AV)} {cs : List AV} {K K' : List AV → Prop}, (∀ c, K c → K' c) → fillK place us cs K → fillK place us cs K'
  | [], cs, K, K', hK, hk => hK _ hk
  | (i, u) :: r, cs, K, K', hK, hk => cellsK_imp (fun us ⟨off, h1, h2, h3⟩ => ⟨off, h1, h2, fillK_imp hK h3⟩) hk
theorem fillRK_imp {k : Nat} : ∀ {us : List (Nat × AV)} {es : List (List AV)} {K K' : List (List AV) → Prop}, (∀ c, K c → K' c) → fillRK k us es K → fillRK k us es K'
  | [], es, K, K', hK, hk => hK _ hk
  | (i, u) :: r, es, K, K', hK, hk => cellsK_imp (fun us ⟨h1, h2, h3⟩ => ⟨h1, h2, fillRK_imp hK h3⟩) hk
theorem ldK_imp {t : TypeId} {cells : List AV} {off : Nat} {K K' : AV → Prop} (hK : ∀ u, K u → K' u) (hk : ldK P t cells off K) : ldK P t cells off K' := by
  unfold ldK at hk ⊢
  split at hk
  · obtain ⟨n, h1, h2, h3⟩ := hk; exact ⟨n, h1, h2, hK _ h3⟩
  · obtain ⟨v, h1, h2⟩ := hk; exact ⟨v, h1, hK _ h2⟩
  · exact hk.elim
theorem loadK_imp {t : TypeId} {p : AV} {K K' : AV → Prop} (hK : ∀ u, K u → K' u) (hk : loadK P t h p K) : loadK P t h p K' := by
  cases p with
  | ip c o => exact ldK_imp hK hk
  | op id k e o => obtain ⟨es, ex, h1, c, h2, h3⟩ := hk; exact ⟨es, ex, h1, c, h2, ldK_imp hK h3⟩
  | _ => exact hk.elim
theorem evK_imp' {x : Operand} {K K' : AV → Prop} (hK : ∀ u, K u → K' u) (hk : evK a x K) : evK a x K' := evK_imp (fun _ _ => rfl) hK hk
theorem evoK_imp' {x : Option Operand} {K K' : Option AV → Prop} (hK : ∀ u, K u → K' u) (hk : evoK a x K) : evoK a x K' := evoK_imp (fun _ _ => rfl) hK hk
theorem evsK_imp' {xs : List Operand} {K K' : List AV → Prop} (hK : ∀ u, K u → K' u) (hk : evsK a xs K) : evsK a xs K' := evsK_imp (fun _ _ => rfl) hK hk
theorem evpK_imp' {xs : List (Nat × Operand)} {K K' : List (Nat × AV) → Prop} (hK : ∀ u, K u → K' u) (hk : evpK a xs K) : evpK a xs K' := evpK_imp (fun _ _ => rfl) hK hk

/-- A quiet operation does at any heap what it does at one. -/
theorem aop_quiet {op : Op} {K K' : AV → Heap → Prop} {h' : Heap} (hq : quietOp op = true) (hK : ∀ u, K u h → K' u h') (hk : aop P op a h K) : aop P op a h' K' := by
  cases op with
  | move x => simp only [aop] at hk ⊢; exact evK_imp' (fun _ h => hK _ h) hk
  | assign x => simp only [aop] at hk ⊢; exact evK_imp' (fun _ h => hK _ h) hk
  | pick c x y => simp only [aop] at hk ⊢; exact evK_imp' (fun _ => evK_imp' fun _ => evK_imp' fun _ => pickK_imp fun _ h => hK _ h) hk
  | build t parts => simp only [aop] at hk ⊢; exact evpK_imp' (fun us ⟨z, pl, h1, h2, h3⟩ => ⟨z, pl, h1, h2, fillK_imp (fun _ h => hK _ h) h3⟩) hk
  | nilCheck x => simp only [aop] at hk ⊢; exact evK_imp' (fun _ => nilCheckK_imp fun _ h => hK _ h) hk
  | binOp op t x y t' => simp only [aop] at hk ⊢; exact evK_imp' (fun _ => evK_imp' fun _ => binAll_imp fun _ h => hK _ h) hk
  | unOp op t x => simp only [aop] at hk ⊢; exact evK_imp' (fun _ => unK_imp fun _ h => hK _ h) hk
  | convert s d x => simp only [aop] at hk ⊢; exact evK_imp' (fun _ => convK_imp fun _ h => hK _ h) hk
  | makeFunc f fs cs => simp only [aop] at hk ⊢; exact evsK_imp' (fun _ => evsK_imp' fun _ h => hK _ h) hk
  | makeInterface t x => simp only [aop] at hk ⊢; exact ⟨hk.1, evK_imp' (fun _ h => hK _ h) hk.2⟩
  | slice t x lo hi mx =>
    cases mx with
    | none => simp only [aop] at hk ⊢; exact evK_imp' (fun _ => evoK_imp' fun _ => evoK_imp' fun _ => sliceAll_imp fun _ h => hK _ h) hk
    | some m => exact hk.elim
  | fieldAddr s x f => simp only [aop] at hk ⊢; exact evK_imp' (fun _ => fieldAddrK_imp fun _ h => hK _ h) hk
  | field t x f => simp only [aop] at hk ⊢; exact evK_imp' (fun _ => fieldK_imp fun _ h => hK _ h) hk
  | indexAddr t x i => simp only [aop] at hk ⊢; exact evK_imp' (fun _ => evK_imp' fun _ => indexAddrK_imp fun _ h => hK _ h) hk
  | index t x i => simp only [aop] at hk ⊢; exact evK_imp' (fun _ => evK_imp' fun _ => indexK_imp fun _ h => hK _ h) hk
  | extract x i => simp only [aop] at hk ⊢; exact evK_imp' (fun _ => extK_imp fun _ h => hK _ h) hk
  | call c =>
    obtain ⟨callee, args, ts⟩ := c
    cases callee with
    | builtin b =>
      have h1 : ∀ (F F' : AV → TypeId → Prop), (∀ u t, F u t → F' u t) → (match args.toList, ts.toList with | [x], [t] => evK a x fun u => F u t | _, _ => False) → (match args.toList, ts.toList with | [x], [t] => evK a x fun u => F' u t | _, _ => False) := by
        intro F F' hFF hF
        split at hF
        · exact evK_imp' (fun _ h => hFF _ _ h) hF
        · exact hF.elim
      cases b with
      | len => simp only [aop, builtinK] at hk ⊢; exact h1 (fun u t => lenK P t u fun u => K u h) (fun u t => lenK P t u fun u => K' u h') (fun u t => lenK_imp fun _ h => hK _ h) hk
      | cap => simp only [aop, builtinK] at hk ⊢; exact h1 (fun u t => capK P t u fun u => K u h) (fun u t => capK P t u fun u => K' u h') (fun u t => capK_imp fun _ h => hK _ h) hk
      | min => simp only [aop, builtinK] at hk ⊢; exact evsK_imp' (fun _ => minK_imp fun _ h => hK _ h) hk
      | max => simp only [aop, builtinK] at hk ⊢; exact evsK_imp' (fun _ => minK_imp fun _ h => hK _ h) hk
      | _ => simp [quietOp, quietB] at hq
    | _ => simp [quietOp] at hq
  | _ => simp [quietOp] at hq

end
end Go.AL
