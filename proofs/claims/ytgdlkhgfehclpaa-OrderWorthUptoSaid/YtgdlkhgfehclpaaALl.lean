/- Bodies in the small logic: sequences, branches, loops; what a function's body owes; functions of values alone. No condition. -/
import Derived.Test.YtgdlkhgfehclpaaALka
import Derived.Deep.LoopGhost
namespace Go.AL
set_option linter.unusedVariables false
set_option linter.unusedSimpArgs false
set_option linter.unnecessarySimpa false

def thenK (next : Fr → Heap → Prop) (Q : Exit → Fr → Heap → Prop) : Exit → Fr → Heap → Prop
  | .normal, a, h => next a h
  | e, a, h => Q e a h
def blockK (id : Nat) (Q : Exit → Fr → Heap → Prop) : Exit → Fr → Heap → Prop
  | .exit j, a, h => if j = id then Q .normal a h else Q (.exit j) a h
  | e, a, h => Q e a h

/-- A loop: what holds ahead of each round, and a number that each round lowers. -/
def LoopK (body : (Exit → Fr → Heap → Prop) → Fr → Heap → Prop) (Q : Exit → Fr → Heap → Prop) (a : Fr) (h : Heap) : Prop :=
  ∃ J : Nat → Fr → Heap → Prop, (∃ m, J m a h) ∧ ∀ m a1 h1, J m a1 h1 → body (thenK (fun a2 h2 => (∃ m', m' < m ∧ J m' a2 h2) ∨ GcK h.length a2 h2 fun a3 h3 => ∃ m', m' < m ∧ J m' a3 h3) Q) a1 h1
theorem LoopK.intro {body : (Exit → Fr → Heap → Prop) → Fr → Heap → Prop} {Q : Exit → Fr → Heap → Prop} {a : Fr} {h : Heap} (J : Nat → Fr → Heap → Prop) (m : Nat) (h0 : J m a h)
    (hr : ∀ m a1 h1, J m a1 h1 → body (thenK (fun a2 h2 => (∃ m', m' < m ∧ J m' a2 h2) ∨ GcK h.length a2 h2 fun a3 h3 => ∃ m', m' < m ∧ J m' a3 h3) Q) a1 h1) : LoopK body Q a h := ⟨J, ⟨m, h0⟩, hr⟩
theorem LoopK_congr {body : (Exit → Fr → Heap → Prop) → Fr → Heap → Prop} {Q : Exit → Fr → Heap → Prop} {a : Fr} {h h' : Heap} (e : h = h') : LoopK body Q a h = LoopK body Q a h' := by rw [e]

/-- WHAT A PIECE OF CODE OWES. A loop: what holds ahead of each round, and a number that each round lowers. -/
def asx (P : Program) (n : Nat) (pl : Nat → Plan) : Code → (Exit → Fr → Heap → Prop) → Fr → Heap → Prop
  | .skip, Q, a, h => Q .normal a h
  | .region id ops draw, Q, a, h => (match draw with
    | false => aops P n ops.toList ops.toList a h fun a h => Q .normal a h
    | true => adrD P n ops.toList (pl id) a h fun a h => Q .normal a h)
  | .seq x y, Q, a, h => asx P n pl x (thenK (asx P n pl y Q) Q) a h
  | .cond c x y, Q, a, h => evK a c fun v => match v with | .bool b => (b = true → asx P n pl x Q a h) ∧ (b = false → asx P n pl y Q a h) | _ => False
  | .block id c, Q, a, h => asx P n pl c (blockK id Q) a h
  | .loop c, Q, a, h => LoopK (asx P n pl c) Q a h
  | .exit id, Q, a, h => Q (.exit id) a h
  | .ret, Q, a, h => Q .ret a h
  | .label _, Q, a, h => Q .normal a h
  | _, _, _, _ => False

def codeChk (pl : Nat → Plan) : Code → Bool
  | .region id ops true => drawChkD ops.toList (pl id)
  | .seq x y => codeChk pl x && codeChk pl y
  | .cond _ x y => codeChk pl x && codeChk pl y
  | .block _ c => codeChk pl c
  | .loop c => codeChk pl c
  | _ => true

section
variable {P : Program} {n : Nat} {pl : Nat → Plan}

theorem aop_imp_quiet {op : Op} : True := trivial

theorem asx_sound (hm : P.follows .mixedOrders = true) : ∀ (c : Code), codeChk pl c = true → ∀ (Q : Exit → Fr → Heap → Prop) (a : Fr) (h : Heap), asx P n pl c Q a h → ∀ (I : Nat → Prop) (β : Nat → Nat) (w : World) (ac : Act), Rel I β h w → FRel I β h.length w n a ac →
    ∀ Q' : Exit → Act → World → Prop, (∀ e a' h' I' β' c' w', Q e a' h' → Ext I β h w I' β' h' w' → Rel I' β' h' w' → FRel I' β' h'.length w' n a' c' → Q' e c' w') → c.wp P Q' ac w := by
  intro c
  induction c with
  | skip => intro _ Q a h hk I β w ac r f Q' hQ; exact wp_skip (hQ _ _ _ _ _ _ _ hk (.refl _ _ _ _) r f)
  | region id ops draw =>
    intro hc Q a h hk I β w ac r f Q' hQ
    cases draw with
    | false =>
      refine wp_region ?_
      have := aops_sound (P := P) (n := n) (ops := ops) (Q := Q') ops.toList 0 (fun j => by simp) a h _ I β w ac r f hk (fun a' h' I' β' c' w' hk' => hQ _ a' h' I' β' c' w' hk')
      rwa [Array.length_toList, ← List.range_eq_range'] at this
    | true => exact drawD_sound hm hc r f hk (fun a' h' I' β' c' w' hk' => hQ _ a' h' I' β' c' w' hk')
  | seq x y ihx ihy =>
    intro hc Q a h hk I β w ac r f Q' hQ
    simp only [codeChk, Bool.and_eq_true] at hc
    refine wp_seq (ihx hc.1 _ a h hk I β w ac r f _ (fun e a' h' I' β' c' w' hk' he hr hf => ?_))
    cases e with
    | normal => exact ihy hc.2 Q a' h' hk' I' β' w' c' hr hf _ (fun e2 a2 h2 I2 β2 c2 w2 hk2 he2 => hQ e2 a2 h2 I2 β2 c2 w2 hk2 (he.trans he2))
    | exit j => exact hQ _ _ _ _ _ _ _ hk' he hr hf
    | goto l => exact hQ _ _ _ _ _ _ _ hk' he hr hf
    | ret => exact hQ _ _ _ _ _ _ _ hk' he hr hf
    | panic ch => exact hQ _ _ _ _ _ _ _ hk' he hr hf
    | outgrown => exact hQ _ _ _ _ _ _ _ hk' he hr hf
  | cond x thn els iht ihe =>
    intro hc Q a h hk I β w ac r f Q' hQ
    simp only [codeChk, Bool.and_eq_true] at hc
    obtain ⟨u, hu, hk⟩ := evK_sound f hk
    cases u with
    | bool b =>
      refine wp_cond_split hu.bool_inv (fun e => ?_) (fun e => ?_)
      · exact iht hc.1 Q a h (hk.1 e) I β w ac r f Q' hQ
      · exact ihe hc.2 Q a h (hk.2 e) I β w ac r f Q' hQ
    | _ => exact hk.elim
  | block id c ih =>
    intro hc Q a h hk I β w ac r f Q' hQ
    refine wp_block (ih hc _ a h hk I β w ac r f _ (fun e a' h' I' β' c' w' hk' he hr hf => ?_))
    cases e with
    | exit j =>
      simp only [blockK, Exit.inBlock] at hk' ⊢
      split at hk'
      · rename_i hj; rw [if_pos hj]; exact hQ _ _ _ _ _ _ _ hk' he hr hf
      · rename_i hj; rw [if_neg hj]; exact hQ _ _ _ _ _ _ _ hk' he hr hf
    | normal => exact hQ _ _ _ _ _ _ _ hk' he hr hf
    | goto l => exact hQ _ _ _ _ _ _ _ hk' he hr hf
    | ret => exact hQ _ _ _ _ _ _ _ hk' he hr hf
    | panic ch => exact hQ _ _ _ _ _ _ _ hk' he hr hf
    | outgrown => exact hQ _ _ _ _ _ _ _ hk' he hr hf
  | loop c ih =>
    intro hc Q a h hk I β w ac r f Q' hQ
    obtain ⟨J, ⟨m0, hJ0⟩, hround⟩ := hk
    refine wp_loop_ghost (fun m ac' w' => ∃ I' β' a' h', J m a' h' ∧ Ext I β h w I' β' h' w' ∧ Rel I' β' h' w' ∧ FRel I' β' h'.length w' n a' ac') m0 ⟨I, β, a, h, hJ0, .refl _ _ _ _, r, f⟩ ?_
    rintro m ac' w' ⟨I', β', a', h', hJ, he, hr, hf⟩
    refine ih hc _ a' h' (hround m a' h' hJ) I' β' w' ac' hr hf _ (fun e a2 h2 I2 β2 c2 w2 hk2 he2 hr2 hf2 => ?_)
    cases e with
    | normal =>
      rcases hk2 with ⟨m', hlt, hJ'⟩ | ⟨ids, ⟨hnd, hids⟩, m', hlt, hJ'⟩
      · exact ⟨m', hlt, I2, β2, a2, h2, hJ', he.trans he2, hr2, hf2⟩
      · exact ⟨m', hlt, I2, _, _, _, hJ', (he.trans he2).gc hids, hr2.gc hnd, hf2.gc⟩
    | exit j => exact hQ _ _ _ _ _ _ _ hk2 (he.trans he2) hr2 hf2
    | goto l => exact hQ _ _ _ _ _ _ _ hk2 (he.trans he2) hr2 hf2
    | ret => exact hQ _ _ _ _ _ _ _ hk2 (he.trans he2) hr2 hf2
    | panic ch => exact hQ _ _ _ _ _ _ _ hk2 (he.trans he2) hr2 hf2
    | outgrown => exact hQ _ _ _ _ _ _ _ hk2 (he.trans he2) hr2 hf2
  | exit id => intro _ Q a h hk I β w ac r f Q' hQ; exact wp_exit (hQ _ _ _ _ _ _ _ hk (.refl _ _ _ _) r f)
  | ret => intro _ Q a h hk I β w ac r f Q' hQ; exact wp_ret (hQ _ _ _ _ _ _ _ hk (.refl _ _ _ _) r f)
  | label l => intro _ Q a h hk I β w ac r f Q' hQ; exact wp_label (hQ _ _ _ _ _ _ _ hk (.refl _ _ _ _) r f)
  | rangeFunc _ _ _ _ _ _ => intro _ Q a h hk; exact hk.elim
  | scope _ _ => intro _ Q a h hk; exact hk.elim
  | goto _ => intro _ Q a h hk; exact hk.elim
  | refuse _ => intro _ Q a h hk; exact hk.elim

/-! ### results -/
def resK (P : Program) (a : Fr) (h : Heap) : List ResultVar → (List AV → Prop) → Prop
  | [], K => K []
  | .tmp t :: r, K => resK P a h r fun us => K (a t :: us)
  | .cell p t :: r, K => loadK P t h (a p) fun u => resK P a h r fun us => K (u :: us)
def oneK (us : List AV) (K : AV → Prop) : Prop := match us with | [u] => K u | us => K (.tup us)
def bodyQ (P : Program) (rs : List ResultVar) (Q : AV → Heap → Prop) : Exit → Fr → Heap → Prop
  | .normal, a, h => resK P a h rs fun us => oneK us fun u => Q u h
  | .ret, a, h => resK P a h rs fun us => oneK us fun u => Q u h
  | _, _, _ => False
def fr0 (args : List AV) : Fr := fun t => (args[t]?).getD .undef

def resF (tmps : Array Value) : ResultVar → Sem Value
  | .tmp t => Pure.pure (tmps.getD t undef)
  | .cell a t => do loadVar t (← asAddr (tmps.getD a undef))
theorem results_eq (fn : Func) (tmps : Array Value) : results fn tmps = (do
    let vs ← fn.results.mapM (resF tmps)
    Pure.pure (if h : vs.size = 1 then vs[0] else .tuple vs)) := by
  unfold results
  congr 2

theorem resK_sound {I : Nat → Prop} {β : Nat → Nat} {h : Heap} {w : World} {a : Fr} {c : Act} (r : Rel I β h w) (f : FRel I β h.length w n a c) : ∀ (rs : List ResultVar) (K : List AV → Prop), resK P a h rs K →
    ∃ vs us, (rs.mapM (m := Sem) (resF c.tmps)).run P w = .ok vs w ∧ VRels I β h.length w us vs ∧ K us
  | [], K, hk => ⟨[], [], rfl, .nil, hk⟩
  | .tmp t :: rs, K, hk => by
    obtain ⟨vs, us, h1, h2, h3⟩ := resK_sound r f rs _ hk
    refine ⟨c.tmps.getD t undef :: vs, a t :: us, ?_, .cons (f.val t) h2, h3⟩
    simp only [List.mapM_cons, resF, Sem.run_bind, Sem.run_pure, Result.andThen_ok, h1]
  | .cell p t :: rs, K, hk => by
    obtain ⟨cv, u, e1, hk, e3⟩ := load_ok (P := P) r (f.val p) hk
    obtain ⟨vs, us, h1, h2, h3⟩ := resK_sound r f rs _ hk
    refine ⟨cv :: vs, u :: us, ?_, .cons e3 h2, h3⟩
    have e4 : (do loadVar t (← asAddr (c.tmps.getD p undef)) : Sem Value).run P w = .ok cv w := by
      generalize c.tmps.getD p undef = v at e1
      unfold Instr.loadAt at e1
      cases v with
      | pointer q =>
        cases q with
        | none => simp [Instr.sureAddr] at e1
        | some q => simpa [Instr.sureAddr, asAddr] using e1
      | _ => simp [Instr.sureAddr] at e1
    simp only [List.mapM_cons, resF, Sem.run_bind, Sem.run_pure, Result.andThen_ok]
    simp only [Sem.run_bind] at e4
    rw [e4]
    simp only [Result.andThen_ok, h1]

/-- WHAT A FUNCTION OWES, OUT OF ITS BODY. -/
theorem acalls_of_body (hm : P.follows .mixedOrders = true) {f : FuncId} {fn : Func} {c : Code} {args : List AV} {h : Heap} {Q : AV → Heap → Prop} (hf : P.funcs[f]? = some fn) (hb : fn.body = some c) (hg : good P f = true) (hn : args.length ≤ fn.ntmps) (pl : Nat → Plan) (hc : codeChk pl c = true)
    (hk : asx P fn.ntmps pl c (bodyQ P fn.results.toList Q) (fr0 args) h) : ACalls P f args h Q := by
  refine ⟨hg, fun I β w vs r hv => calls_of_wp hf hb ?_⟩
  have hl : vs.length = args.length := hv.1.symm
  refine asx_sound (n := fn.ntmps) hm c hc _ _ _ hk I β w _ r ⟨fun t => ?_, by simp; omega, rfl⟩ _ (fun e a' h' I' β' c' w' hk' he hr hf => ?_)
  · simp only [fr0, Array.getD_eq_getD_getElem?]
    by_cases ht : t < args.length
    · rw [List.getElem?_eq_getElem ht, Array.getElem?_append_left (by simp; omega)]
      have ht' : t < vs.length := by omega
      simp only [List.getElem?_toArray, List.getElem?_eq_getElem ht', Option.getD_some]
      exact hv.2 t _ _ (List.getElem?_eq_getElem ht) (List.getElem?_eq_getElem ht')
    · rw [List.getElem?_eq_none (by omega), Array.getElem?_append_right (by simp; omega)]
      simp only [Option.getD_none, Array.getElem?_replicate]
      split
      · exact .imm _ _ (.undef _ _)
      · exact .imm _ _ (.undef _ _)
  · have key : resK P a' h' fn.results.toList (fun us => oneK us fun u => Q u h') → bodyPost P fn (fun e w'' => ∃ cv u I'' β'' h'', e = .returned cv ∧ Q u h'' ∧ Ext I β h w I'' β'' h'' w'' ∧ Rel I'' β'' h'' w'' ∧ VRel I'' β'' h''.length w'' u cv) .ret c' w' := by
      intro hk'
      obtain ⟨vs', us, h1, h2, h3⟩ := resK_sound hr hf _ _ hk'
      have hmm : (fn.results.mapM (m := Sem) (resF c'.tmps)).run P w' = .ok vs'.toArray w' := by
        have : fn.results = fn.results.toList.toArray := by simp
        rw [this, List.mapM_toArray, Sem.run_map, h1]
        rfl
      refine ⟨hf.defers, (if h : vs'.toArray.size = 1 then vs'.toArray[0] else .tuple vs'.toArray), ?_, ?_⟩
      · rw [results_eq]
        simp only [Sem.run_bind]
        rw [hmm]
        rfl
      · cases us with
        | nil =>
          have := h2.none
          subst this
          exact ⟨_, _, I', β', h', rfl, h3, he, hr, .tup [] #[] rfl (fun j u v h => by simp at h)⟩
        | cons u us =>
          obtain ⟨v, vs2, rfl, h4, h5⟩ := h2.head
          cases us with
          | nil =>
            have := h5.none
            subst this
            exact ⟨_, _, I', β', h', rfl, h3, he, hr, by simpa using h4⟩
          | cons u2 us =>
            obtain ⟨v2, vs3, rfl, h6, h7⟩ := h5.head
            refine ⟨_, _, I', β', h', rfl, h3, he, hr, ?_⟩
            have h8 := VRels.cons h4 (VRels.cons h6 h7)
            simp only [List.size_toArray, List.length_cons]
            rw [dif_neg (by omega)]
            exact .tup _ _ (by simp [h7.1]) (fun j u v hu hv => h8.2 j u v hu (by simpa using hv))
    cases e with
    | normal => exact key hk'
    | ret => exact key hk'
    | _ => exact hk'.elim

end
end Go.AL
