/- The small logic's one step: what each operation owes, in one definition; that it looks at its operands alone; that most look at no heap. No condition. -/
import Derived.Test.YtgdlkhgfehclpaaALga
namespace Go.AL
set_option linter.unusedVariables false
set_option linter.unusedSimpArgs false
set_option linter.unnecessarySimpa false

def tptr (P : Program) (t : TypeId) : Bool := match P.underlying t with | some (.pointer _) => true | _ => false
def tfun (P : Program) (t : TypeId) : Bool := match P.underlying t with | some (.func ..) => true | _ => false
def tmap (P : Program) (t : TypeId) : Bool := match P.underlying t with | some (.map ..) => true | _ => false
/-- Sums, comparisons; a value held against nil. -/
def binAll (P : Program) (op : BinOp) (t : TypeId) (u v : AV) (K : AV → Prop) : Prop :=
  match v with
  | .int k m' => (match u with | .int k0 m => iK op k0 m k m' K | _ => False)
  | .bool b' => (match u with | .bool b => tbool P t = true ∧ eqK op (b == b') K | _ => False)
  | .str s' => (match u with | .str s => strK op s s' K | _ => False)
  | .nils => (telem P t).isSome = true ∧ (match u with
    | .isl _ es => (es = [] → eqK op true K) ∧ eqK op false K
    | .nils => eqK op true K
    | .osl .. => eqK op false K
    | _ => False)
  | .nilp => tptr P t = true ∧ (match u with | .nilp => eqK op true K | .ip .. => eqK op false K | .op .. => eqK op false K | _ => False)
  | .nilf => tfun P t = true ∧ (match u with | .nilf => eqK op true K | .fn .. => eqK op false K | _ => False)
  | .nilm => tmap P t = true ∧ (match u with | .nilm => eqK op true K | .om _ => eqK op false K | _ => False)
  | _ => False

def sliceAll (P : Program) (t : TypeId) (x : AV) (lo hi : Option AV) (K : AV → Prop) : Prop :=
  match x with
  | .str s => sliceK P t (.str s) lo hi K
  | x => (∃ e s, telem P t = some e ∧ tsize P e = some s) ∧ sliceK P t x lo hi K

def builtinK (P : Program) (b : Builtin) (xs : Array Operand) (ts : Array TypeId) (a : Fr) (h : Heap) (K : AV → Heap → Prop) : Prop :=
  match b with
  | .len => (match xs.toList, ts.toList with | [x], [t] => evK a x fun u => lenK P t u fun u => K u h | _, _ => False)
  | .cap => (match xs.toList, ts.toList with | [x], [t] => evK a x fun u => capK P t u fun u => K u h | _, _ => False)
  | .min => evsK a xs.toList fun us => minK imin us fun u => K u h
  | .max => evsK a xs.toList fun us => minK imax us fun u => K u h
  | .clear => (match xs.toList, ts.toList with | [x], [t] => evK a x fun u => clearK P t h u fun h' => K .undef h' | _, _ => False)
  | .append => (match xs.toList, ts.toList with | [s, x], [t, t'] => evK a s fun s => evK a x fun x => appendK P t t' h s x K | _, _ => False)
  | _ => False

/-- WHAT AN OPERATION OWES. -/
def aop (P : Program) (op : Op) (a : Fr) (h : Heap) (K : AV → Heap → Prop) : Prop :=
  match op with
  | .move x => evK a x fun u => K u h
  | .assign x => evK a x fun u => K u h
  | .pick c x y => evK a c fun c => evK a x fun x => evK a y fun y => pickK c x y fun u => K u h
  | .alloc t => ∃ cs, zcells P t = some cs ∧ K (.op h.length cs.length 0 0) (h ++ [.arr cs.length [cs] true])
  | .box _ x => evK a x fun u => cellsK u fun cs => K (.op h.length cs.length 0 0) (h ++ [.arr cs.length [cs] true])
  | .build t parts => evpK a parts.toList fun us => ∃ z pl, zcells P t = some z ∧ fplaces P t = some pl ∧ fillK (fun i => pl[i]?) us z fun cs => K (.agg cs) h
  | .buildSlice t len parts => evpK a parts.toList fun us => ∃ e z, telem P t = some e ∧ zcells P e = some z ∧ len * z.length ≤ 16777216 ∧
      fillRK z.length us (List.replicate len z) fun es => K (.osl h.length z.length 0 len len true) (h ++ [.arr z.length es true])
  | .load t x => evK a x fun p => loadK P t h p fun u => K u h
  | .store t p x => evK a p fun p => evK a x fun u => storeK P t h p u fun h' => K .undef h'
  | .nilCheck x => evK a x fun u => nilCheckK u fun u => K u h
  | .binOp op t x y _ => evK a x fun u => evK a y fun v => binAll P op t u v fun u => K u h
  | .unOp op _ x => evK a x fun u => unK op u fun u => K u h
  | .convert s d x => evK a x fun u => convK P s d u fun u => K u h
  | .makeFunc f fs cs => evsK a fs.toList fun fs => evsK a cs.toList fun cs => K (.fn f fs cs) h
  | .makeInterface t x => tnotIface P t = true ∧ evK a x fun u => K (.ifc t u) h
  | .makeSlice t l c => evK a l fun l => evK a c fun c => makeSliceK P t h l c K
  | .slice t x lo hi none => evK a x fun x => evoK a lo fun lo => evoK a hi fun hi => sliceAll P t x lo hi fun u => K u h
  | .fieldAddr s x f => evK a x fun p => fieldAddrK P s f p fun u => K u h
  | .field t x f => evK a x fun u => fieldK P t f u fun u => K u h
  | .indexAddr t x i => evK a x fun x => evK a i fun i => indexAddrK P t x i fun u => K u h
  | .index t x i => evK a x fun u => evK a i fun i => indexK P t u i fun u => K u h
  | .extract x i => evK a x fun u => extK u i fun u => K u h
  | .call c => (match c.callee with
    | .value f => evK a f fun f => evsK a c.args.toList fun us => callK P f us h K
    | .builtin b => builtinK P b c.args c.argTypes a h K
    | .invoke _ _ => False)
  | _ => False

section
variable {P : Program} {a : Fr} {h : Heap} {K : AV → Heap → Prop}

theorem evK_split {x : Operand} {K : AV → Prop} (hk : evK a x K) : ∃ u, (∀ K' : AV → Prop, K' u → evK a x K') ∧ K u := by
  cases x with
  | tmp t => exact ⟨a t, fun K' h => h, hk⟩
  | const v =>
    simp only [evK] at hk ⊢
    cases hv : ofV v with
    | none => simp [hv] at hk
    | some u => rw [hv] at hk; exact ⟨u, fun K' h => h, hk⟩
  | func f => exact ⟨_, fun K' h => h, hk⟩
  | global g => exact hk.elim

theorem run_eq_slice {t : TypeId} (ht : (telem P t).isSome = true) (A : Option Addr) (n c m c' : Nat) (w : World) : (Op.equal t (.slice A n c) (.slice none m c')).run P w = .ok A.isNone w := by
  obtain ⟨e, he⟩ := Option.isSome_iff_exists.1 ht
  have : ∀ d, (Op.equalIn (d + 1) t (.slice A n c) (.slice none m c')).run P w = .ok A.isNone w := fun d => by
    cases A <;> simp only [Op.equalIn, Sem.run_bind, run_underlying (telem_und he), Result.andThen_ok, Sem.run_pure] <;> rfl
  exact this 9999
theorem run_eq_ptr {t : TypeId} (ht : tptr P t = true) (p : Option Addr) (w : World) : (Op.equal t (.pointer p) (.pointer none)).run P w = .ok p.isNone w := by
  unfold tptr at ht
  split at ht
  · rename_i e he
    have : ∀ d, (Op.equalIn (d + 1) t (.pointer p) (.pointer none)).run P w = .ok p.isNone w := fun d => by
      cases p <;> simp only [Op.equalIn, Sem.run_bind, run_underlying he, Result.andThen_ok, Sem.run_pure] <;> rfl
    exact this 9999
  · simp at ht
theorem run_eq_fun {t : TypeId} (ht : tfun P t = true) (w : World) : (Op.equal t .nilFunc .nilFunc).run P w = .ok true w ∧ ∀ f x y, (Op.equal t (.func f x y) .nilFunc).run P w = .ok false w := by
  unfold tfun at ht
  split at ht
  · rename_i e1 e2 e3 he
    have h1 : ∀ d, (Op.equalIn (d + 1) t .nilFunc .nilFunc).run P w = .ok true w := fun d => by
      simp only [Op.equalIn, Sem.run_bind, run_underlying he, Result.andThen_ok, Sem.run_pure]
    have h2 : ∀ d f x y, (Op.equalIn (d + 1) t (.func f x y) .nilFunc).run P w = .ok false w := fun d f x y => by
      simp only [Op.equalIn, Sem.run_bind, run_underlying he, Result.andThen_ok, Sem.run_pure]
    exact ⟨h1 9999, h2 9999⟩
  · simp at ht
theorem run_eq_map {t : TypeId} (ht : tmap P t = true) (r : Option Nat) (w : World) : (Op.equal t (.map r) (.map none)).run P w = .ok r.isNone w := by
  unfold tmap at ht
  split at ht
  · rename_i e1 e2 he
    have : ∀ d, (Op.equalIn (d + 1) t (.map r) (.map none)).run P w = .ok r.isNone w := fun d => by
      cases r <;> simp only [Op.equalIn, Sem.run_bind, run_underlying he, Result.andThen_ok, Sem.run_pure] <;> rfl
    exact this 9999
  · simp at ht

/-- What an equality comes to. -/
theorem run_eqK {op : BinOp} {t : TypeId} {x y : Value} {b : Bool} {K : AV → Prop} {w : World} (hb : binOp .eql t x y = (do Pure.pure (.bool (← Op.equal t x y))) ∧ binOp .neq t x y = (do Pure.pure (.bool (!(← Op.equal t x y)))))
    (he : (Op.equal t x y).run P w = .ok b w) (hk : eqK op b K) : ∃ cv u, (binOp op t x y).run P w = .ok cv w ∧ K u ∧ ∀ I β N, VRel I β N w u cv := by
  cases op
  case eql => exact ⟨.bool b, _, by rw [hb.1]; simp [he], hk, fun I β N => .ofBool _⟩
  case neq => exact ⟨.bool (!b), _, by rw [hb.2]; simp [he], hk, fun I β N => .ofBool _⟩
  all_goals exact hk.elim

theorem om_inv {I : Nat → Prop} {β : Nat → Nat} {N : Nat} {w : World} {id : Nat} {v : Value} (h : VRel I β N w (.om id) v) : v = .map (some (β id)) := by
  cases h with
  | imm _ _ h => cases h
  | om _ _ => rfl
theorem nilm_inv {I : Nat → Prop} {β : Nat → Nat} {N : Nat} {w : World} {v : Value} (h : VRel I β N w .nilm v) : v = .map none := by
  cases h with | imm _ _ h => cases h; rfl

theorem op_binAll {dst : Option Tmp} {ty t t' : TypeId} {pos : String} {after : Array Edge} {guard : Option (Nat × Bool)} {op : BinOp} {x y : Operand} (hk : evK a x fun u => evK a y fun v => binAll P op t u v fun u => K u h) :
    OpOk P ⟨dst, .binOp op t x y t', ty, pos, after, guard⟩ a h K := by
  obtain ⟨u0, hu0, hk⟩ := evK_split hk
  obtain ⟨v0, hv0, hk⟩ := evK_split hk
  have base : binK P op t u0 v0 (fun u => K u h) → OpOk P ⟨dst, .binOp op t x y t', ty, pos, after, guard⟩ a h K := fun hb => op_binOp (hu0 _ (hv0 _ hb))
  have nil : ∀ (hcmp : ∀ (I : Nat → Prop) (β : Nat → Nat) (w : World) (cu cv : Value), Rel I β h w → VRel I β h.length w u0 cu → VRel I β h.length w v0 cv →
      (eqGuard op t x y cu cv = Pure.pure ()) ∧ ∃ r u, (binOp op t cu cv).run P w = .ok r w ∧ K u h ∧ ∀ I β N, VRel I β N w u r), OpOk P ⟨dst, .binOp op t x y t', ty, pos, after, guard⟩ a h K := by
    intro hcmp
    refine .pure fun I β w n c r g => ?_
    obtain ⟨u, hu, e1⟩ := evK_sound g (hu0 (fun u => u = u0) rfl)
    obtain ⟨v, hv, e2⟩ := evK_sound g (hv0 (fun u => u = v0) rfl)
    subst e1 e2
    obtain ⟨hg, rr, uu, h1, h2, h3⟩ := hcmp I β w _ _ r hu hv
    exact ⟨rr, uu, by simp [execOp, hg, h1], h2, h3 _ _ _⟩
  cases v0 with
  | int k m' => cases u0 with | int k0 m => exact base hk | _ => exact hk.elim
  | bool b' => cases u0 with | bool b => exact base hk | _ => exact hk.elim
  | str s' => cases u0 with | str s => exact base hk | _ => exact hk.elim
  | nils =>
    obtain ⟨ht, hk⟩ := hk
    refine nil fun I β w cu cv r hu hv => ?_
    rw [hv.nils_inv]
    cases u0 with
    | isl k es =>
      rcases hu.isl_inv.isl_inv with ⟨A, c, rfl, rfl⟩ | ⟨b, o, c, f, hne, rfl, _⟩
      · refine ⟨by rw [eqGuard_at_slice], ?_⟩
        cases A with
        | none => exact run_eqK ⟨rfl, rfl⟩ (run_eq_slice ht _ _ _ _ _ w) (hk.1 rfl)
        | some A => exact run_eqK ⟨rfl, rfl⟩ (run_eq_slice ht _ _ _ _ _ w) hk.2
      · exact ⟨by rw [eqGuard_at_slice], run_eqK ⟨rfl, rfl⟩ (run_eq_slice ht _ _ _ _ _ w) hk.2⟩
    | nils => rw [hu.nils_inv]; exact ⟨by rw [eqGuard_at_slice], run_eqK ⟨rfl, rfl⟩ (run_eq_slice ht _ _ _ _ _ w) hk⟩
    | osl _ _ _ _ _ _ => obtain ⟨c, n, rfl, _⟩ := hu.osl_inv; exact ⟨by rw [eqGuard_at_slice], run_eqK ⟨rfl, rfl⟩ (run_eq_slice ht _ _ _ _ _ w) hk⟩
    | _ => exact hk.elim
  | nilp =>
    obtain ⟨ht, hk⟩ := hk
    refine nil fun I β w cu cv r hu hv => ?_
    rw [hv.nilp_inv]
    cases u0 with
    | nilp => rw [hu.nilp_inv]; exact ⟨by rw [eqGuard_at_pointer], run_eqK ⟨rfl, rfl⟩ (run_eq_ptr ht _ w) hk⟩
    | ip _ _ => obtain ⟨b, o, vs, rfl, _⟩ := hu.ip_inv; exact ⟨by rw [eqGuard_at_pointer], run_eqK ⟨rfl, rfl⟩ (run_eq_ptr ht _ w) hk⟩
    | op _ _ _ _ => rw [hu.op_inv.1]; exact ⟨by rw [eqGuard_at_pointer], run_eqK ⟨rfl, rfl⟩ (run_eq_ptr ht _ w) hk⟩
    | _ => exact hk.elim
  | nilf =>
    obtain ⟨ht, hk⟩ := hk
    refine nil fun I β w cu cv r hu hv => ?_
    rw [hv.nilf_inv]
    cases u0 with
    | nilf => rw [hu.nilf_inv]; exact ⟨by rw [eqGuard_at_nilFunc], run_eqK ⟨rfl, rfl⟩ (run_eq_fun ht w).1 hk⟩
    | fn _ _ _ => obtain ⟨fs, cs, rfl, _⟩ := hu.fn_inv; exact ⟨by rw [eqGuard_at_func], run_eqK ⟨rfl, rfl⟩ ((run_eq_fun ht w).2 _ _ _) hk⟩
    | _ => exact hk.elim
  | nilm =>
    obtain ⟨ht, hk⟩ := hk
    refine nil fun I β w cu cv r hu hv => ?_
    rw [nilm_inv hv]
    cases u0 with
    | nilm => rw [nilm_inv hu]; exact ⟨by rw [eqGuard_at_map], run_eqK ⟨rfl, rfl⟩ (run_eq_map ht _ w) hk⟩
    | om _ => rw [om_inv hu]; exact ⟨by rw [eqGuard_at_map], run_eqK ⟨rfl, rfl⟩ (run_eq_map ht _ w) hk⟩
    | _ => exact hk.elim
  | _ => exact hk.elim

theorem op_sliceAll {dst : Option Tmp} {ty t : TypeId} {pos : String} {after : Array Edge} {guard : Option (Nat × Bool)} {x : Operand} {lo hi : Option Operand} (hk : evK a x fun x => evoK a lo fun lo => evoK a hi fun hi => sliceAll P t x lo hi fun u => K u h) :
    OpOk P ⟨dst, .slice t x lo hi none, ty, pos, after, guard⟩ a h K := by
  obtain ⟨u0, hu0, hk⟩ := evK_split hk
  cases u0 with
  | str s => exact op_sliceStr (hu0 _ hk)
  | _ => exact op_slice (hu0 _ hk)

theorem op_builtin {dst : Option Tmp} {ty : TypeId} {pos : String} {after : Array Edge} {guard : Option (Nat × Bool)} {b : Builtin} {xs : Array Operand} {ts : Array TypeId} (hk : builtinK P b xs ts a h K) :
    OpOk P ⟨dst, .call { callee := .builtin b, args := xs, argTypes := ts }, ty, pos, after, guard⟩ a h K := by
  have one : ∀ (P' : Operand → TypeId → Prop), (match xs.toList, ts.toList with | [x], [t] => P' x t | _, _ => False) → ∃ x t, xs = #[x] ∧ ts = #[t] ∧ P' x t := by
    intro P' hp
    split at hp
    · rename_i x t h1 h2
      exact ⟨x, t, by rw [← Array.toArray_toList (xs := xs), h1], by rw [← Array.toArray_toList (xs := ts), h2], hp⟩
    · exact hp.elim
  cases b with
  | len =>
    obtain ⟨x, t, rfl, rfl, hk⟩ := one (fun x t => evK a x fun u => lenK P t u fun u => K u h) hk
    exact op_len hk
  | cap =>
    obtain ⟨x, t, rfl, rfl, hk⟩ := one (fun x t => evK a x fun u => capK P t u fun u => K u h) hk
    exact op_cap hk
  | min => exact op_min hk
  | max => exact op_max hk
  | clear =>
    simp only [builtinK] at hk
    split at hk
    · rename_i x t h1 h2
      have e1 : xs = #[x] := by rw [← Array.toArray_toList (xs := xs), h1]
      have e2 : ts = #[t] := by rw [← Array.toArray_toList (xs := ts), h2]
      subst e1 e2
      exact op_clear hk
    · exact hk.elim
  | append =>
    simp only [builtinK] at hk
    split at hk
    · rename_i s x t t' h1 h2
      have e1 : xs = #[s, x] := by rw [← Array.toArray_toList (xs := xs), h1]
      have e2 : ts = #[t, t'] := by rw [← Array.toArray_toList (xs := ts), h2]
      subst e1 e2
      exact op_append hk
    · exact hk.elim
  | _ => exact hk.elim

theorem aop_sound {o : Oper} (hk : aop P o.op a h K) : OpOk P o a h K := by
  obtain ⟨dst, op, ty, pos, after, guard⟩ := o
  cases op with
  | move x => exact op_move hk
  | assign x => exact op_assign hk
  | pick c x y => exact op_pick hk
  | alloc t => exact op_alloc hk
  | box t x => exact op_box hk
  | build t parts => exact op_build hk
  | buildSlice t len parts => exact op_buildSlice hk
  | load t x => exact op_load hk
  | store t p x => exact op_store hk
  | nilCheck x => exact op_nilCheck hk
  | binOp op t x y t' => exact op_binAll hk
  | unOp op t x => exact op_unOp hk
  | convert s d x => exact op_convert hk
  | makeFunc f fs cs => exact op_makeFunc hk
  | makeInterface t x => exact op_makeInterface hk.1 hk.2
  | makeSlice t l c => exact op_makeSlice hk
  | slice t x lo hi mx =>
    cases mx with
    | none => exact op_sliceAll hk
    | some m => exact hk.elim
  | fieldAddr s x f => exact op_fieldAddr hk
  | field t x f => exact op_field hk
  | indexAddr t x i => exact op_indexAddr hk
  | index t x i => exact op_index hk
  | extract x i => exact op_extract hk
  | call c =>
    obtain ⟨callee, args, ts⟩ := c
    cases callee with
    | value f => exact op_call hk
    | builtin b => exact op_builtin hk
    | invoke r m => exact hk.elim
  | _ => exact hk.elim
end
end Go.AL
