/- The small logic's operations that write nothing, on: pieces of slices, sums and comparisons, conversions, parts of values, lengths. No condition. -/
import Derived.Test.YtgdlkhgfehclpaaALc
namespace Go.AL
set_option linter.unusedVariables false
set_option linter.unusedSimpArgs false
section
variable {P : Program} {dst : Option Tmp} {ty : TypeId} {pos : String} {after : Array Edge} {guard : Option (Nat × Bool)} {a : Fr} {h : Heap} {K : AV → Heap → Prop}

theorem evoK_sound {I : Nat → Prop} {β : Nat → Nat} {N : Nat} {w : World} {n : Nat} {a : Fr} {c : Act} (hf : FRel I β N w n a c) {x : Option Operand} {K : Option AV → Prop} (hk : evoK a x K) :
    (x = none ∧ K none) ∨ ∃ o u, x = some o ∧ VRel I β N w u (c.eval o) ∧ K (some u) := by
  cases x with
  | none => exact .inl ⟨rfl, hk⟩
  | some o =>
    obtain ⟨u, hu, hk⟩ := evK_sound (K := fun u => K (some u)) hf hk
    exact .inr ⟨o, u, rfl, hu, hk⟩

/-- A bound of a piece, as the machine reads it. -/
def bound (x : Option Value) (d : Nat) : Option Nat := match x with | none => some d | some (.int _ n) => if 0 ≤ n then some n.toNat else none | _ => none

theorem loK_sound {I : Nat → Prop} {β : Nat → Nat} {N : Nat} {w : World} {n : Nat} {a : Fr} {c : Act} (hf : FRel I β N w n a c) {x : Option Operand} {K : Option AV → Prop} {K' : Nat → Prop} {d : Nat}
    (hk : evoK a x K) (hK : ∀ u, K u → hiK d u K') : ∃ l, bound (x.map c.eval) d = some l ∧ K' l := by
  rcases evoK_sound hf hk with ⟨rfl, hk⟩ | ⟨o, u, rfl, hu, hk⟩
  · exact ⟨d, rfl, hK _ hk⟩
  · have := hK _ hk
    cases u with
    | int k m =>
      refine ⟨m.toNat, ?_, this.2⟩
      have h0 := this.1
      simp [bound, hu.int_inv, h0]
    | _ => exact this.elim

theorem run_sliceBounds' {isSlice : Bool} {len cap : Nat} {lo hi : Option Value} {l m : Nat} (h1 : bound lo 0 = some l) (h2 : bound hi len = some m) (hlm : l ≤ m) (hmc : m ≤ cap) (P : Program) (w : World) :
    (Instr.sliceBounds isSlice len cap lo hi none).run P w = .ok (l, m, cap) w := by
  have e1 : ∀ (k : IntKind) (x : Int) (y : Nat) (code : BoundsCode), 0 ≤ x → x.toNat ≤ y → (Instr.sliceBound (.int k x) y code).run P w = .ok x.toNat w := by
    intro k x y code h0 hy
    have : x ≤ (y : Int) := by omega
    simp [Instr.sliceBound, asIntOf, h0, this]
  cases hi with
  | none =>
    simp [bound] at h2
    subst h2
    cases lo with
    | none =>
      simp [bound] at h1
      subst h1
      simp [Instr.sliceBounds]
    | some v =>
      unfold bound at h1
      split at h1
      · rename_i h; cases h
      · rename_i k x h
        cases h
        split at h1
        · simp at h1
          subst h1
          simp [Instr.sliceBounds, e1 _ _ _ _ ‹_› hlm]
        · simp at h1
      · simp at h1
  | some hv =>
    unfold bound at h2
    split at h2
    · rename_i h; cases h
    · rename_i k x h
      cases h
      split at h2
      · rename_i hx
        simp at h2
        subst h2
        cases lo with
        | none =>
          simp [bound] at h1
          subst h1
          simp [Instr.sliceBounds, e1 _ _ _ _ hx hmc]
        | some v =>
          unfold bound at h1
          split at h1
          · rename_i h; cases h
          · rename_i k' y h
            cases h
            split at h1
            · rename_i hy
              simp at h1
              subst h1
              simp [Instr.sliceBounds, e1 _ _ _ _ hx hmc, e1 _ _ _ _ hy hlm]
            · simp at h1
          · simp at h1
      · simp at h2
    · simp at h2

theorem run_sliceAt_sl {t e s : Nat} (he : telem P t = some e) (hs : tsize P e = some s) {A : Option Addr} {len cap : Nat} {lo hi : Option Value} {l m : Nat} (h1 : bound lo 0 = some l) (h2 : bound hi len = some m) (hlm : l ≤ m) (hmc : m ≤ cap) (w : World) :
    (Instr.sliceAt t (.slice A len cap) lo hi none).run P w = .ok (.slice (if cap = l then A else A.map (·.add (l * s))) (m - l) (cap - l)) w := by
  simp [Instr.sliceAt, run_underlying (telem_und he), Instr.slice, run_sliceBounds' h1 h2 hlm hmc, run_sizeOf' hs]

theorem tsize_of_telem {t e : Nat} (w : World) (he : telem P t = some e) : True := trivial

theorem op_slice {t : TypeId} {x : Operand} {lo hi : Option Operand} (hk : evK a x fun x => evoK a lo fun lo => evoK a hi fun hi => (∃ e s, telem P t = some e ∧ tsize P e = some s) ∧ sliceK P t x lo hi fun u => K u h) :
    OpOk P ⟨dst, .slice t x lo hi none, ty, pos, after, guard⟩ a h K := by
  refine .pure fun I β w n c r g => ?_
  obtain ⟨u, hu, hk⟩ := evK_sound g hk
  have hlo : ∃ ulo, (∀ d, ∀ K' : Nat → Prop, hiK d ulo K' → ∃ l, bound (lo.map c.eval) d = some l ∧ K' l) ∧ evoK a hi fun hi => (∃ e s, telem P t = some e ∧ tsize P e = some s) ∧ sliceK P t u ulo hi fun u => K u h := by
    rcases evoK_sound g hk with ⟨rfl, hk⟩ | ⟨o, uu, rfl, huu, hk⟩
    · exact ⟨none, fun d K' hK => ⟨d, rfl, hK⟩, hk⟩
    · refine ⟨some uu, fun d K' hK => ?_, hk⟩
      cases uu with
      | int k m => exact ⟨m.toNat, by have h0 := hK.1; simp [bound, huu.int_inv, h0], hK.2⟩
      | _ => exact hK.elim
  obtain ⟨ulo, hulo, hk⟩ := hlo
  have hhi : ∃ uhi, (∀ d, ∀ K' : Nat → Prop, hiK d uhi K' → ∃ l, bound (hi.map c.eval) d = some l ∧ K' l) ∧ (∃ e s, telem P t = some e ∧ tsize P e = some s) ∧ sliceK P t u ulo uhi fun u => K u h := by
    rcases evoK_sound g hk with ⟨rfl, hk⟩ | ⟨o, uu, rfl, huu, hk⟩
    · exact ⟨none, fun d K' hK => ⟨d, rfl, hK⟩, hk⟩
    · refine ⟨some uu, fun d K' hK => ?_, hk⟩
      cases uu with
      | int k m => exact ⟨m.toNat, by have h0 := hK.1; simp [bound, huu.int_inv, h0], hK.2⟩
      | _ => exact hK.elim
  obtain ⟨uhi, huhi, ⟨e, s, he, hs⟩, hk⟩ := hhi
  have hlk : ∀ x K', loK x K' → hiK 0 x K' := fun x K' h => by cases x <;> exact h
  cases u with
  | isl k es =>
    obtain ⟨⟨e', he', hsk⟩, hk⟩ := hk
    obtain ⟨l, hl, hk⟩ := hulo 0 _ (hlk _ _ hk)
    obtain ⟨m, hm, hlm, hme, hk⟩ := huhi _ _ hk
    rcases hu.isl_inv.isl_inv with ⟨A, cp, rfl, ev⟩ | ⟨b, o, cp, f, hne, ev, hle, hb, hkk, hcell, h1, hr⟩
    · simp at hme
      obtain rfl : m = 0 := hme
      obtain rfl : l = 0 := by omega
      refine ⟨_, _, by simp only [execOp, ev, Sem.run_bind, Option.map_none, run_sliceAt_sl he hs hl (show bound (hi.map c.eval) 0 = some 0 from hm) (Nat.le_refl 0) (Nat.zero_le cp), Result.andThen_ok]; rfl, hk, .imm _ _ ?_⟩
      simp
      exact .isl0 _ _ _
    · have : e' = e := by rw [he] at he'; injection he' with he'; exact he'.symm
      subst this
      have hsk := hsk hne
      have : s = k := by rw [hs] at hsk; injection hsk
      subst this
      refine ⟨_, _, by simp only [execOp, ev, Sem.run_bind, Option.map_none, run_sliceAt_sl he hs hl hm hlm (by omega : m ≤ cp), Result.andThen_ok]; rfl, hk, .imm _ _ ?_⟩
      rcases Nat.eq_or_lt_of_le hlm with e0 | hlt
      · subst e0
        simp only [Nat.sub_self, List.take_zero]
        exact .isl0 _ _ _
      · rw [if_neg (by omega)]
        have hlen : ((es.drop l).take (m - l)).length = m - l := by simp; omega
        have := IRel.isl (I := I) (w := w) s ((es.drop l).take (m - l)) b (o + l * s) (cp - l) (fun i j => f (l + i) j) (by intro h0; rw [h0] at hlen; simp at hlen; omega) (by omega) hb
          (fun i e hi => ?_) (fun i e j u hi hj => ?_) (fun i e j u hi hj => ?_) (fun i e j u hi hj => ?_)
        · rw [hlen] at this
          simpa [Addr.add_lit] using this
        all_goals
          rw [List.getElem?_take] at hi
          split at hi
          · rw [List.getElem?_drop] at hi
            first
              | exact hkk _ e hi
              | (have hc := hcell _ e j u hi hj; rw [Nat.add_mul] at hc; simpa [Nat.add_assoc] using hc)
              | exact h1 _ e j u hi hj
              | exact hr _ e j u hi hj
          · simp at hi
  | osl id k i len cap ex =>
    obtain ⟨⟨e', he', hsk⟩, hk⟩ := hk
    obtain ⟨l, hl, hk⟩ := hulo 0 _ (hlk _ _ hk)
    obtain ⟨m, hm, hlm, hme, hk⟩ := huhi _ _ hk
    have : e' = e := by rw [he] at he'; injection he' with he'; exact he'.symm
    subst this
    have : s = k := by rw [hs] at hsk; injection hsk
    subst this
    obtain ⟨cp, nn, ev, hid, hlc, hcc, hex, hbs, hfit⟩ := hu.osl_inv
    refine ⟨.slice (if cp = l then some ⟨β id, i * s, none⟩ else some ⟨β id, i * s + l * s, none⟩) (m - l) (cp - l), ?_⟩
    have hrun : (execOp c.eval ⟨dst, .slice t x lo hi none, ty, pos, after, guard⟩).run P w = .ok (.value (.slice (if cp = l then some ⟨β id, i * s, none⟩ else some ⟨β id, i * s + l * s, none⟩) (m - l) (cp - l))) w := by
      simp only [execOp, ev, Sem.run_bind, Option.map_none, run_sliceAt_sl he hs hl hm hlm (by omega : m ≤ cp), Result.andThen_ok, Option.map_none, Option.map_some, Addr.add_lit]
      rfl
    split at hk
    · rename_i hc
      refine ⟨_, hrun, hk, ?_⟩
      have haddr : (if cp = l then some (⟨β id, i * s, none⟩ : Addr) else some ⟨β id, i * s + l * s, none⟩) = some ⟨β id, (i + l) * s, none⟩ := by
        rcases hc with hc | hc
        · rw [if_neg (by omega), Nat.add_mul]
        · subst hc; simp
      rw [haddr]
      refine .osl id s (i + l) (m - l) (cap - l) ex (cp - l) nn hid (by omega) (by omega) (fun hx => by rw [hex hx]) hbs ?_
      refine Nat.le_trans (Nat.mul_le_mul_right _ ?_) hfit
      omega
    · rename_i hc
      obtain ⟨hx, hk⟩ := hk
      have hcap : cp = cap := hex hx
      have hlcap : l = cap := by omega
      refine ⟨_, hrun, hk, ?_⟩
      rw [if_pos (by omega), show m - l = 0 by omega, show cp - l = 0 by omega]
      refine .osl id s i 0 0 ex 0 nn hid (Nat.le_refl _) (Nat.le_refl _) (fun _ => rfl) hbs ?_
      refine Nat.le_trans (Nat.mul_le_mul_right _ ?_) hfit
      omega
  | nils =>
    obtain ⟨_, hk⟩ := hk
    obtain ⟨l, hl, hk⟩ := hulo 0 _ (hlk _ _ hk)
    obtain ⟨m, hm, rfl, rfl, hk⟩ := huhi _ _ hk
    refine ⟨_, _, by simp only [execOp, hu.nils_inv, Sem.run_bind, Option.map_none, run_sliceAt_sl he hs hl hm (Nat.le_refl _) (Nat.le_refl _), Result.andThen_ok]; rfl, hk, ?_⟩
    simp
    exact .imm _ _ .nils
  | str b =>
    obtain ⟨ht, hk⟩ := hk
    exfalso
    unfold tstring at ht
    rw [telem_und he] at ht
    simp at ht
  | _ => exact hk.elim

theorem op_sliceStr {t : TypeId} {x : Operand} {lo hi : Option Operand} (hk : evK a x fun x => evoK a lo fun lo => evoK a hi fun hi => match x with | .str s => sliceK P t x lo hi fun u => K u h | _ => False) :
    OpOk P ⟨dst, .slice t x lo hi none, ty, pos, after, guard⟩ a h K := by
  refine .pure fun I β w n c r g => ?_
  obtain ⟨u, hu, hk⟩ := evK_sound g hk
  cases u with
  | str b =>
    have ev := hu.str_inv
    have hst : ∀ {X}, (match (AV.str b : AV) with | .str s => X | _ => False) → X := fun x => x
    have hlo : ∃ ulo, (∀ d, ∀ K' : Nat → Prop, hiK d ulo K' → ∃ l, bound (lo.map c.eval) d = some l ∧ K' l) ∧ evoK a hi fun hi => sliceK P t (.str b) ulo hi fun u => K u h := by
      rcases evoK_sound g hk with ⟨rfl, hk⟩ | ⟨o, uu, rfl, huu, hk⟩
      · exact ⟨none, fun d K' hK => ⟨d, rfl, hK⟩, hk⟩
      · refine ⟨some uu, fun d K' hK => ?_, hk⟩
        cases uu with
        | int k m => exact ⟨m.toNat, by have h0 := hK.1; simp [bound, huu.int_inv, h0], hK.2⟩
        | _ => exact hK.elim
    obtain ⟨ulo, hulo, hk⟩ := hlo
    have hhi : ∃ uhi, (∀ d, ∀ K' : Nat → Prop, hiK d uhi K' → ∃ l, bound (hi.map c.eval) d = some l ∧ K' l) ∧ sliceK P t (.str b) ulo uhi fun u => K u h := by
      rcases evoK_sound g hk with ⟨rfl, hk⟩ | ⟨o, uu, rfl, huu, hk⟩
      · exact ⟨none, fun d K' hK => ⟨d, rfl, hK⟩, hk⟩
      · refine ⟨some uu, fun d K' hK => ?_, hk⟩
        cases uu with
        | int k m => exact ⟨m.toNat, by have h0 := hK.1; simp [bound, huu.int_inv, h0], hK.2⟩
        | _ => exact hK.elim
    obtain ⟨uhi, huhi, ht, hk⟩ := hhi
    have hund : P.underlying t = some .string := by
      unfold tstring at ht
      split at ht
      · assumption
      · simp at ht
    have hlk : ∀ x K', loK x K' → hiK 0 x K' := fun x K' h => by cases x <;> exact h
    obtain ⟨l, hl, hk⟩ := hulo 0 _ (hlk _ _ hk)
    obtain ⟨m, hm, hlm, hme, hk⟩ := huhi _ _ hk
    refine ⟨.string (b.extract l m), _, ?_, hk, .imm _ _ (.str _)⟩
    simp [execOp, ev, Instr.sliceAt, run_underlying hund, Instr.slice, run_sliceBounds' hl hm hlm hme]
  | _ => exact (by rcases evoK_sound g hk with ⟨_, hk⟩ | ⟨_, _, _, _, hk⟩ <;> rcases evoK_sound g hk with ⟨_, hk⟩ | ⟨_, _, _, _, hk⟩ <;> exact hk.elim)

/-! sums, comparisons -/
/-- A sum: of the widest kind none may wrap. -/
def fitK (k : IntKind) (z : Int) (K : AV → Prop) : Prop := match k with | .i64 => (-9223372036854775808 ≤ z ∧ z ≤ 9223372036854775807) ∧ K (.int .i64 z) | k => K (.int k (k.wrap z))
theorem fitK_imp {k : IntKind} {z : Int} {K : AV → Prop} (hk : fitK k z K) : K (.int k (k.wrap z)) := by
  cases k with
  | i64 => rw [IntWalk.i64_in z hk.1]; exact hk.2
  | _ => exact hk
theorem fitK_mono {k : IntKind} {z : Int} {K K' : AV → Prop} (hK : ∀ u, K u → K' u) (hk : fitK k z K) : fitK k z K' := by
  cases k with
  | i64 => exact ⟨hk.1, hK _ hk.2⟩
  | _ => exact hK _ hk
def iK (op : BinOp) (k : IntKind) (x : Int) (k' : IntKind) (y : Int) (K : AV → Prop) : Prop :=
  match op with
  | .shl => 0 ≤ y ∧ K (.int k (k.wrap (x * 2 ^ (min y.toNat k.bits))))
  | .shr => 0 ≤ y ∧ K (.int k (x.fdiv (2 ^ (min y.toNat k.bits))))
  | .add => k = k' ∧ fitK k (x + y) K
  | .sub => k = k' ∧ fitK k (x - y) K
  | .mul => k = k' ∧ fitK k (x * y) K
  | .quo => k = k' ∧ y ≠ 0 ∧ K (.int k (k.wrap (x.tdiv y)))
  | .rem => k = k' ∧ y ≠ 0 ∧ K (.int k (x.tmod y))
  | .and => k = k' ∧ K (.int k (k.wrap ((BitVec.ofInt k.bits x &&& BitVec.ofInt k.bits y).toNat)))
  | .or => k = k' ∧ K (.int k (k.wrap ((BitVec.ofInt k.bits x ||| BitVec.ofInt k.bits y).toNat)))
  | .xor => k = k' ∧ K (.int k (k.wrap ((BitVec.ofInt k.bits x ^^^ BitVec.ofInt k.bits y).toNat)))
  | .andNot => k = k' ∧ K (.int k (k.wrap ((BitVec.ofInt k.bits x &&& ~~~ (BitVec.ofInt k.bits y)).toNat)))
  | .eql => k = k' ∧ K (.bool (x == y))
  | .neq => k = k' ∧ K (.bool (x != y))
  | .lss => k = k' ∧ K (.bool (decide (x < y)))
  | .leq => k = k' ∧ K (.bool (decide (x ≤ y)))
  | .gtr => k = k' ∧ K (.bool (decide (x > y)))
  | .geq => k = k' ∧ K (.bool (decide (x ≥ y)))

def eqK (op : BinOp) (b : Bool) (K : AV → Prop) : Prop := match op with | .eql => K (.bool b) | .neq => K (.bool (!b)) | _ => False
def strK (op : BinOp) (x y : ByteArray) (K : AV → Prop) : Prop := match op with | .eql => K (.bool (x.toList == y.toList)) | .neq => K (.bool (x.toList != y.toList)) | _ => False

/-- Is a value nil? none: both may be. -/
def isNil : AV → Option (Option Bool)
  | .nils | .nilp | .nilf | .nili | .nilm => some (some true)
  | .isl _ [] => some none
  | .isl _ _ | .osl .. | .ip .. | .op .. | .fn .. | .ifc .. | .om _ => some (some false)
  | _ => none
def nilK (op : BinOp) (x : AV) (K : AV → Prop) : Prop :=
  match isNil x with
  | some (some b) => eqK op b K
  | some none => eqK op true K ∧ eqK op false K
  | none => False
def isNilC : AV → Bool | .nils | .nilp | .nilf | .nili | .nilm => true | _ => false

def binK (P : Program) (op : BinOp) (t : TypeId) (x y : AV) (K : AV → Prop) : Prop :=
  match x with
  | .int k m => (match y with | .int k' m' => iK op k m k' m' K | _ => False)
  | .bool b => (match y with | .bool b' => tbool P t = true ∧ eqK op (b == b') K | _ => False)
  | .str s => (match y with | .str s' => strK op s s' K | _ => False)
  | _ => False

theorem run_iK {op : BinOp} {t : TypeId} {k k' : IntKind} {x y : Int} {K : AV → Prop} (hk : iK op k x k' y K) (w : World) : ∃ cv u, (binOp op t (.int k x) (.int k' y)).run P w = .ok cv w ∧ K u ∧ ∀ I β N, VRel I β N w u cv := by
  cases op
  case shl => exact ⟨_, _, by simp [binOp, Op.shift, Int.not_lt.mpr hk.1], hk.2, fun I β N => .ofInt _ _⟩
  case shr => exact ⟨_, _, by simp [binOp, Op.shift, Int.not_lt.mpr hk.1], hk.2, fun I β N => .ofInt _ _⟩
  case add => obtain ⟨rfl, hk⟩ := hk; exact ⟨_, _, by simp [binOp, Op.intArith], fitK_imp hk, fun I β N => .ofInt _ _⟩
  case sub => obtain ⟨rfl, hk⟩ := hk; exact ⟨_, _, by simp [binOp, Op.intArith], fitK_imp hk, fun I β N => .ofInt _ _⟩
  case mul => obtain ⟨rfl, hk⟩ := hk; exact ⟨_, _, by simp [binOp, Op.intArith], fitK_imp hk, fun I β N => .ofInt _ _⟩
  case quo => obtain ⟨rfl, h0, hk⟩ := hk; exact ⟨_, _, by simp [binOp, Op.intDiv, h0], hk, fun I β N => .ofInt _ _⟩
  case rem => obtain ⟨rfl, h0, hk⟩ := hk; exact ⟨_, _, by simp [binOp, Op.intDiv, h0], hk, fun I β N => .ofInt _ _⟩
  case and => obtain ⟨rfl, hk⟩ := hk; exact ⟨_, _, by simp [binOp, Op.intBits], hk, fun I β N => .ofInt _ _⟩
  case or => obtain ⟨rfl, hk⟩ := hk; exact ⟨_, _, by simp [binOp, Op.intBits], hk, fun I β N => .ofInt _ _⟩
  case xor => obtain ⟨rfl, hk⟩ := hk; exact ⟨_, _, by simp [binOp, Op.intBits], hk, fun I β N => .ofInt _ _⟩
  case andNot => obtain ⟨rfl, hk⟩ := hk; exact ⟨_, _, by simp [binOp, Op.intBits], hk, fun I β N => .ofInt _ _⟩
  case eql => obtain ⟨rfl, hk⟩ := hk; exact ⟨_, _, by simp [binOp, Op.intCmp], hk, fun I β N => .ofBool _⟩
  case neq => obtain ⟨rfl, hk⟩ := hk; exact ⟨_, _, by simp [binOp, Op.intCmp], hk, fun I β N => .ofBool _⟩
  case lss => obtain ⟨rfl, hk⟩ := hk; exact ⟨_, _, by simp [binOp, Op.intCmp], hk, fun I β N => .ofBool _⟩
  case leq => obtain ⟨rfl, hk⟩ := hk; exact ⟨_, _, by simp [binOp, Op.intCmp], hk, fun I β N => .ofBool _⟩
  case gtr => obtain ⟨rfl, hk⟩ := hk; exact ⟨_, _, by simp [binOp, Op.intCmp], hk, fun I β N => .ofBool _⟩
  case geq => obtain ⟨rfl, hk⟩ := hk; exact ⟨_, _, by simp [binOp, Op.intCmp], hk, fun I β N => .ofBool _⟩


theorem run_binBool {op : BinOp} {t : TypeId} {x y : Bool} {K : AV → Prop} (ht : tbool P t = true) (hk : eqK op (x == y) K) (w : World) : ∃ cv u, (binOp op t (.bool x) (.bool y)).run P w = .ok cv w ∧ K u ∧ ∀ I β N, VRel I β N w u cv := by
  have hu : P.underlying t = some .bool := by
    unfold tbool at ht
    split at ht
    · assumption
    · simp at ht
  have he : (Op.equal t (.bool x) (.bool y)).run P w = .ok (x == y) w := by
    have : ∀ d, (Op.equalIn (d + 1) t (.bool x) (.bool y)).run P w = .ok (x == y) w := fun d => by
      simp only [Op.equalIn, Sem.run_bind, run_underlying hu, Result.andThen_ok, Sem.run_pure]
    exact this 9999
  cases op
  case eql => exact ⟨.bool (x == y), _, by simp only [binOp, Sem.run_bind, he, Result.andThen_ok, Sem.run_pure], hk, fun I β N => .ofBool _⟩
  case neq => exact ⟨.bool (!(x == y)), _, by simp only [binOp, Sem.run_bind, he, Result.andThen_ok, Sem.run_pure], hk, fun I β N => .ofBool _⟩
  all_goals exact hk.elim
theorem run_binStr {op : BinOp} {t : TypeId} {x y : ByteArray} {K : AV → Prop} (hk : strK op x y K) (w : World) : ∃ cv u, (binOp op t (.string x) (.string y)).run P w = .ok cv w ∧ K u ∧ ∀ I β N, VRel I β N w u cv := by
  cases op
  case eql => exact ⟨_, _, by simp [binOp, Op.stringOp], hk, fun I β N => .ofBool _⟩
  case neq => exact ⟨_, _, by simp [binOp, Op.stringOp, bne], hk, fun I β N => .ofBool _⟩
  all_goals exact hk.elim

theorem op_binOp {op : BinOp} {t t' : TypeId} {x y : Operand} (hk : evK a x fun u => evK a y fun v => binK P op t u v fun u => K u h) : OpOk P ⟨dst, .binOp op t x y t', ty, pos, after, guard⟩ a h K := by
  refine .pure fun I β w n c r g => ?_
  obtain ⟨u, hu, hk⟩ := evK_sound g hk
  obtain ⟨v, hv, hk⟩ := evK_sound g hk
  cases u with
  | int k m =>
    cases v with
    | int k' m' =>
      obtain ⟨cv, u, e1, e2, e3⟩ := run_iK (P := P) (t := t) (K := fun u => K u h) hk w
      exact ⟨cv, u, by simp [execOp, hu.int_inv, hv.int_inv, eqGuard_at_int, e1], e2, e3 _ _ _⟩
    | _ => exact hk.elim
  | bool b =>
    cases v with
    | bool b' =>
      obtain ⟨cv, u, e1, e2, e3⟩ := run_binBool (P := P) (t := t) (K := fun u => K u h) hk.1 hk.2 w
      exact ⟨cv, u, by simp [execOp, hu.bool_inv, hv.bool_inv, eqGuard_at_bool, e1], e2, e3 _ _ _⟩
    | _ => exact hk.elim
  | str s =>
    cases v with
    | str s' =>
      obtain ⟨cv, u, e1, e2, e3⟩ := run_binStr (P := P) (t := t) (K := fun u => K u h) hk w
      exact ⟨cv, u, by simp [execOp, hu.str_inv, hv.str_inv, eqGuard_at_string, e1], e2, e3 _ _ _⟩
    | _ => exact hk.elim
  | _ => exact hk.elim

/-! unary -/
def unK (op : UnOp) (x : AV) (K : AV → Prop) : Prop :=
  match x with
  | .bool b => (match op with | .not => K (.bool (!b)) | _ => False)
  | .int k n => (match op with
    | .neg => fitK k (0 - n) K
    | .xor => K (.int k (k.wrap ((BitVec.ofInt k.bits (if k.signed then -1 else k.max) ^^^ BitVec.ofInt k.bits n).toNat)))
    | _ => False)
  | _ => False
theorem op_unOp {op : UnOp} {t : TypeId} {x : Operand} (hk : evK a x fun u => unK op u fun u => K u h) : OpOk P ⟨dst, .unOp op t x, ty, pos, after, guard⟩ a h K := by
  refine .pure fun I β w n c r g => ?_
  obtain ⟨u, hu, hk⟩ := evK_sound g hk
  cases u with
  | bool b =>
    cases op with
    | not => exact ⟨_, _, by simp [execOp, hu.bool_inv, Op.unary], hk, .ofBool _⟩
    | _ => exact hk.elim
  | int k m =>
    cases op with
    | neg => exact ⟨_, _, by simp [execOp, hu.int_inv, Op.unary, Op.intArith]; rfl, fitK_imp (K := fun u => K u h) hk, by simp; exact .ofInt _ _⟩
    | xor => exact ⟨_, _, by simp [execOp, hu.int_inv, Op.unary, Op.intBits], hk, .ofInt _ _⟩
    | _ => exact hk.elim
  | _ => exact hk.elim

/-! conversions -/
def convK (P : Program) (src dst : TypeId) (x : AV) (K : AV → Prop) : Prop :=
  match x with
  | .int _ n => (∃ ks, tint P src = some ks) ∧ ∃ k, tint P dst = some k ∧ fitK k n K
  | .str s => tstring P src = true ∧ tstring P dst = true ∧ K (.str s)
  | _ => False
theorem tstring_und {t : TypeId} (h : tstring P t = true) : P.underlying t = some .string := by
  unfold tstring at h
  split at h
  · assumption
  · simp at h
theorem op_convert {src d : TypeId} {x : Operand} (hk : evK a x fun u => convK P src d u fun u => K u h) : OpOk P ⟨dst, .convert src d x, ty, pos, after, guard⟩ a h K := by
  refine .pure fun I β w n c r g => ?_
  obtain ⟨u, hu, hk⟩ := evK_sound g hk
  cases u with
  | int k m =>
    obtain ⟨⟨ks, hs⟩, kd, hd, hk⟩ := hk
    exact ⟨.int kd (kd.wrap m), _, by simp [execOp, hu.int_inv, convert, run_underlying (tint_und hs), run_underlying (tint_und hd), Conv.intToInt], fitK_imp (K := fun u => K u h) hk, .ofInt _ _⟩
  | str s =>
    obtain ⟨hs, hd, hk⟩ := hk
    exact ⟨.string s, _, by simp [execOp, hu.str_inv, convert, run_underlying (tstring_und hs), run_underlying (tstring_und hd)], hk, .ofStr _⟩
  | _ => exact hk.elim

/-! functions as values; parts -/
theorem op_makeFunc {f : Fn} {first cap : Array Operand} (hk : evsK a first.toList fun fs => evsK a cap.toList fun cs => K (.fn f fs cs) h) : OpOk P ⟨dst, .makeFunc f first cap, ty, pos, after, guard⟩ a h K := by
  refine .pure fun I β w n c r g => ?_
  obtain ⟨fs, hf, hk⟩ := evsK_sound g hk
  obtain ⟨cs, hc, hk⟩ := evsK_sound g hk
  refine ⟨.func f (first.map c.eval) (cap.map c.eval), _, by simp [execOp, Instr.makeFunc], hk, .fn f fs cs _ _ (by have := hf.1; simp at this; simp [this]) (by have := hc.1; simp at this; simp [this]) ?_ ?_⟩
  · intro j u v hj hj'; exact hf.2 j u v hj (by simpa using hj')
  · intro j u v hj hj'; exact hc.2 j u v hj (by simpa using hj')

def extK (x : AV) (i : Nat) (K : AV → Prop) : Prop := match x with | .tup vs => ∃ v, vs[i]? = some v ∧ K v | _ => False
theorem op_extract {x : Operand} {i : Nat} (hk : evK a x fun u => extK u i fun u => K u h) : OpOk P ⟨dst, .extract x i, ty, pos, after, guard⟩ a h K := by
  refine .pure fun I β w n c r g => ?_
  obtain ⟨u, hu, hk⟩ := evK_sound g hk
  cases u with
  | tup vs =>
    obtain ⟨v, hv, hk⟩ := hk
    obtain ⟨cs', e, hl, hr⟩ := hu.tup_inv
    have hlt : i < cs'.size := by rw [hl]; exact (List.getElem?_eq_some_iff.1 hv).1
    have hg : cs'[i]? = some cs'[i] := Array.getElem?_eq_getElem hlt
    exact ⟨cs'[i], v, by simp [execOp, e, Instr.extract, hg], hk, hr i v _ hv hg⟩
  | _ => exact hk.elim

def partK (P : Program) (t : TypeId) (cs : List AV) (off : Nat) (K : AV → Prop) : Prop :=
  match tagg P t with
  | some true => ∃ n, tsize P t = some n ∧ off + n ≤ cs.length ∧ K (.agg ((cs.drop off).take n))
  | some false => ∃ v, cs[off]? = some v ∧ K v
  | none => False
theorem run_partK {t : TypeId} {cs : List AV} {off : Nat} {K : AV → Prop} {w : World} {I : Nat → Prop} {β : Nat → Nat} {N : Nat} {cs' : Array Value} (hl : cs'.size = cs.length) (h1 : ∀ (j : Nat) (v : Value), cs'[j]? = some v → v.oneCell' = true)
    (hr : ∀ (j : Nat) (u : AV) (v : Value), cs[j]? = some u → cs'[j]? = some v → VRel I β N w u v) (hk : partK P t cs off K) : ∃ cv u, (part t cs' off).run P w = .ok cv w ∧ K u ∧ VRel I β N w u cv := by
  unfold partK at hk
  split at hk
  · rename_i ht
    obtain ⟨n, hn, hle, hk⟩ := hk
    refine ⟨.agg (cs'.extract off (off + n)), _, by simp [part, run_isAgg' ht, run_sizeOf' hn], hk, .agg _ _ (by simp; omega) (fun j v hj => ?_) (fun j u v hj hj' => ?_)⟩
    · rw [Array.getElem?_extract] at hj
      split at hj
      · exact h1 _ v hj
      · simp at hj
    · rw [Array.getElem?_extract] at hj'
      split at hj'
      · rw [List.getElem?_take] at hj
        split at hj
        · rw [List.getElem?_drop] at hj; exact hr _ u v hj hj'
        · simp at hj
      · simp at hj'
  · rename_i ht
    obtain ⟨v, hv, hk⟩ := hk
    have hlt : off < cs'.size := by rw [hl]; exact (List.getElem?_eq_some_iff.1 hv).1
    have hg : cs'[off]? = some cs'[off] := Array.getElem?_eq_getElem hlt
    exact ⟨cs'[off], v, by simp [part, run_isAgg' ht, hg], hk, hr off v _ hv hg⟩
  · exact hk.elim

def fieldK (P : Program) (t : TypeId) (f : Nat) (x : AV) (K : AV → Prop) : Prop := ∃ o ft, foff P t f = some (o, ft) ∧ match x with | .agg cs => partK P ft cs o K | _ => False
theorem op_field {t : TypeId} {x : Operand} {f : Nat} (hk : evK a x fun u => fieldK P t f u fun u => K u h) : OpOk P ⟨dst, .field t x f, ty, pos, after, guard⟩ a h K := by
  refine .pure fun I β w n c r g => ?_
  obtain ⟨u, hu, o, ft, hf, hk⟩ := evK_sound g hk
  cases u with
  | agg cs =>
    obtain ⟨cs', e, hl, h1, hr⟩ := hu.agg_inv
    obtain ⟨cv, u, e1, e2, e3⟩ := run_partK hl h1 hr hk
    refine ⟨cv, u, ?_, e2, e3⟩
    unfold foff at hf
    split at hf
    · rename_i fs hun
      split at hf
      · rename_i fd hfd
        split at hf
        · simp at hf
          obtain ⟨rfl, rfl⟩ := hf
          simp [execOp, e, Instr.field, run_underlying hun, hfd, asAgg, e1]
        · simp at hf
      · simp at hf
    · simp at hf
  | _ => exact hk.elim

def bt (s : ByteArray) (i : Nat) : Int := match s[i]? with | some b => b.toNat | none => 0
def indexK (P : Program) (t : TypeId) (x i : AV) (K : AV → Prop) : Prop :=
  match i with
  | .int _ n => (match x with
    | .agg cs => ∃ m e s, tarr P t = some (m, e) ∧ tsize P e = some s ∧ 0 ≤ n ∧ n < m ∧ partK P e cs (n.toNat * s) K
    | .str s => tstring P t = true ∧ 0 ≤ n ∧ n < s.size ∧ K (.int .u8 (bt s n.toNat))
    | _ => False)
  | _ => False
theorem op_index {t : TypeId} {x i : Operand} (hk : evK a x fun u => evK a i fun i => indexK P t u i fun u => K u h) : OpOk P ⟨dst, .index t x i, ty, pos, after, guard⟩ a h K := by
  refine .pure fun I β w n c r g => ?_
  obtain ⟨u, hu, hk⟩ := evK_sound g hk
  obtain ⟨ui, hi, hk⟩ := evK_sound g hk
  cases ui with
  | int ik m =>
    have ei := hi.int_inv
    cases u with
    | agg cs =>
      obtain ⟨mm, e, s, ht, hs, h0, hm, hk⟩ := hk
      obtain ⟨cs', ev, hl, h1, hr⟩ := hu.agg_inv
      obtain ⟨cv, u, e1, e2, e3⟩ := run_partK hl h1 hr hk
      exact ⟨cv, u, by simp [execOp, ev, ei, Instr.index, asIntOf, run_underlying (tarr_und ht), h0, hm, run_sizeOf' hs, e1], e2, e3⟩
    | str s =>
      obtain ⟨ht, h0, hm, hk⟩ := hk
      have hlt : m.toNat < s.size := by omega
      refine ⟨.int .u8 (bt s m.toNat), _, ?_, hk, .ofInt _ _⟩
      have hg : s[m.toNat]? = some s[m.toNat] := getElem?_pos s m.toNat hlt
      simp [execOp, hu.str_inv, ei, Instr.index, asIntOf, run_underlying (tstring_und ht), h0, hg, bt]
    | _ => exact hk.elim
  | _ => exact hk.elim

def tnotIface (P : Program) (t : TypeId) : Bool := match P.underlying t with | some (.interface _) => false | some _ => true | none => false
theorem op_makeInterface {t : TypeId} {x : Operand} (ht : tnotIface P t = true) (hk : evK a x fun u => K (.ifc t u) h) : OpOk P ⟨dst, .makeInterface t x, ty, pos, after, guard⟩ a h K := by
  refine .pure fun I β w n c r g => ?_
  obtain ⟨u, hu, hk⟩ := evK_sound g hk
  refine ⟨.iface t (c.eval x), _, ?_, hk, .ifc _ _ _ hu⟩
  unfold tnotIface at ht
  split at ht
  · simp at ht
  · rename_i d hne hd
    have : (Instr.makeInterface t (c.eval x)).run P w = .ok (.iface t (c.eval x)) w := by
      simp only [Instr.makeInterface, Sem.run_bind, run_underlying hd, Result.andThen_ok]
      rfl
    simp [execOp, this]
  · simp at ht

def nilCheckK (x : AV) (K : AV → Prop) : Prop := match x with | .ip c o => K (.ip c o) | .op id k e o => K (.op id k e o) | _ => False
theorem op_nilCheck {x : Operand} (hk : evK a x fun u => nilCheckK u fun u => K u h) : OpOk P ⟨dst, .nilCheck x, ty, pos, after, guard⟩ a h K := by
  refine .pure fun I β w n c r g => ?_
  obtain ⟨u, hu, hk⟩ := evK_sound g hk
  cases u with
  | ip cells off =>
    obtain ⟨b, o, vs, e, hi⟩ := hu.ip_inv
    exact ⟨_, _, by simp only [execOp, e]; rfl, hk, .imm _ _ (hi _).1⟩
  | op id k e off =>
    obtain ⟨e', hid⟩ := hu.op_inv
    exact ⟨_, _, by simp only [execOp, e']; rfl, hk, .op _ _ _ _ hid⟩
  | _ => exact hk.elim

/-! lengths, least and greatest -/
def lenK (P : Program) (t : TypeId) (x : AV) (K : AV → Prop) : Prop :=
  match x with
  | .isl _ es => (telem P t).isSome = true ∧ K (.int .i64 es.length)
  | .osl _ _ _ len _ _ => (telem P t).isSome = true ∧ K (.int .i64 len)
  | .nils => (telem P t).isSome = true ∧ K (.int .i64 0)
  | .str s => tstring P t = true ∧ K (.int .i64 s.size)
  | _ => False
theorem run_len_sl {t ty : TypeId} (ht : (telem P t).isSome = true) (A : Option Addr) (n c : Nat) (w : World) : (Builtin.len_ #[t] ty #[.slice A n c]).run P w = .ok (.int .i64 n) w := by
  obtain ⟨e, he⟩ := Option.isSome_iff_exists.1 ht
  simp [Builtin.len_, run_underlying (telem_und he), goInt]
theorem op_len {t : TypeId} {x : Operand} (hk : evK a x fun u => lenK P t u fun u => K u h) : OpOk P ⟨dst, .call { callee := .builtin .len, args := #[x], argTypes := #[t] }, ty, pos, after, guard⟩ a h K := by
  refine .pure fun I β w n c r g => ?_
  obtain ⟨u, hu, hk⟩ := evK_sound g hk
  have key : ∀ (v : Value) (cv : Value), (Builtin.len_ #[t] ty #[v]).run P w = .ok cv w → c.eval x = v →
      (execOp c.eval ⟨dst, .call { callee := .builtin .len, args := #[x], argTypes := #[t] }, ty, pos, after, guard⟩).run P w = .ok (.value cv) w := by
    intro v cv hv he
    simp [execOp, resolve, invoke, builtin, he, hv]
  cases u with
  | isl k es =>
    obtain ⟨A, cp, e⟩ := hu.isl_inv.isl_slice
    exact ⟨_, _, key _ _ (run_len_sl hk.1 _ _ _ _) e, hk.2, .ofInt _ _⟩
  | osl id k i len cap ex =>
    obtain ⟨cp, nn, e, _⟩ := hu.osl_inv
    exact ⟨_, _, key _ _ (run_len_sl hk.1 _ _ _ _) e, hk.2, .ofInt _ _⟩
  | nils => exact ⟨_, _, key _ _ (run_len_sl hk.1 _ _ _ _) hu.nils_inv, hk.2, .ofInt _ _⟩
  | str s => exact ⟨_, _, key _ (.int .i64 s.size) (by simp [Builtin.len_, run_underlying (tstring_und hk.1), goInt]) hu.str_inv, hk.2, .ofInt _ _⟩
  | _ => exact hk.elim

def capK (P : Program) (t : TypeId) (x : AV) (K : AV → Prop) : Prop :=
  match x with
  | .osl _ _ _ _ cap ex => ex = true ∧ (telem P t).isSome = true ∧ K (.int .i64 cap)
  | .nils => (telem P t).isSome = true ∧ K (.int .i64 0)
  | _ => False
theorem op_cap {t : TypeId} {x : Operand} (hk : evK a x fun u => capK P t u fun u => K u h) : OpOk P ⟨dst, .call { callee := .builtin .cap, args := #[x], argTypes := #[t] }, ty, pos, after, guard⟩ a h K := by
  refine .pure fun I β w n c r g => ?_
  obtain ⟨u, hu, hk⟩ := evK_sound g hk
  have hrun : ∀ (A : Option Addr) (m cc : Nat), (telem P t).isSome = true → (Builtin.cap_ #[t] ty #[.slice A m cc]).run P w = .ok (.int .i64 cc) w := by
    intro A m cc ht
    obtain ⟨e, he⟩ := Option.isSome_iff_exists.1 ht
    simp [Builtin.cap_, run_underlying (telem_und he), goInt]
  cases u with
  | osl id k i len cap ex =>
    obtain ⟨cp, nn, e, _, _, _, hex, _⟩ := hu.osl_inv
    obtain ⟨hx, ht, hk⟩ := hk
    exact ⟨.int .i64 cap, _, by simp [execOp, resolve, invoke, builtin, e, hrun _ _ _ ht, hex hx], hk, .ofInt _ _⟩
  | nils => exact ⟨.int .i64 0, _, by simp [execOp, resolve, invoke, builtin, hu.nils_inv, hrun _ _ _ hk.1], hk.2, .ofInt _ _⟩
  | _ => exact hk.elim

/-- The least, or the greatest, of whole numbers. -/
def mins (g : Int → Int → Int) : Int → List AV → (Int → Prop) → IntKind → Prop
  | x, [], K, _ => K x
  | x, .int k' y :: r, K, k => k' = k ∧ mins g (g x y) r K k
  | _, _, _, _ => False
def imin (x y : Int) : Int := if y < x then y else x
def imax (x y : Int) : Int := if y > x then y else x
def minK (g : Int → Int → Int) (xs : List AV) (K : AV → Prop) : Prop := match xs with | .int k x :: r => mins g x r (fun x => K (.int k x)) k | _ => False

theorem mins_ok {I : Nat → Prop} {β : Nat → Nat} {N : Nat} {w : World} (f : Value → Value → Sem Value) (g : Int → Int → Int) (hf : ∀ k x y, f (.int k x) (.int k y) = Pure.pure (.int k (g x y))) {k : IntKind} : ∀ (us : List AV) (vs : List Value) (x : Int) (K : Int → Prop),
    VRels I β N w us vs → mins g x us K k → ∃ z, (vs.foldlM f (.int k x)).run P w = .ok (.int k z) w ∧ K z
  | [], vs, x, K, hv, hk => by
    obtain rfl := hv.none
    exact ⟨x, rfl, hk⟩
  | u :: us, vs, x, K, hv, hk => by
    obtain ⟨v, vs', rfl, h1, h2⟩ := hv.head
    cases u with
    | int k' y =>
      obtain ⟨rfl, hk⟩ := hk
      obtain ⟨z, e, hz⟩ := mins_ok f g hf us vs' _ K h2 hk
      refine ⟨z, ?_, hz⟩
      rw [h1.int_inv]
      simp only [List.foldlM_cons, hf, Sem.run_bind, Sem.run_pure, Result.andThen_ok]
      exact e
    | _ => exact hk.elim

theorem op_min {xs : Array Operand} {ts : Array TypeId} (hk : evsK a xs.toList fun us => minK imin us fun u => K u h) : OpOk P ⟨dst, .call { callee := .builtin .min, args := xs, argTypes := ts }, ty, pos, after, guard⟩ a h K := by
  refine .pure fun I β w n c r g => ?_
  obtain ⟨us, hu, hk⟩ := evsK_sound g hk
  cases us with
  | nil => exact hk.elim
  | cons u us =>
    obtain ⟨v, vs, ev, h1, h2⟩ := hu.head
    cases u with
    | int k x =>
      obtain ⟨z, e, hz⟩ := mins_ok (P := P) Builtin.min2 imin (fun k x y => rfl) us vs x _ h2 hk
      refine ⟨.int k z, _, ?_, hz, .ofInt _ _⟩
      rw [h1.int_inv] at ev
      have : (Builtin.min_ ts ty (xs.map c.eval)).run P w = .ok (.int k z) w := by
        unfold Builtin.min_
        rw [Array.toList_map, ev]
        exact e
      simp [execOp, resolve, invoke, builtin, this]
    | _ => exact hk.elim
theorem op_max {xs : Array Operand} {ts : Array TypeId} (hk : evsK a xs.toList fun us => minK imax us fun u => K u h) : OpOk P ⟨dst, .call { callee := .builtin .max, args := xs, argTypes := ts }, ty, pos, after, guard⟩ a h K := by
  refine .pure fun I β w n c r g => ?_
  obtain ⟨us, hu, hk⟩ := evsK_sound g hk
  cases us with
  | nil => exact hk.elim
  | cons u us =>
    obtain ⟨v, vs, ev, h1, h2⟩ := hu.head
    cases u with
    | int k x =>
      obtain ⟨z, e, hz⟩ := mins_ok (P := P) Builtin.max2 imax (fun k x y => rfl) us vs x _ h2 hk
      refine ⟨.int k z, _, ?_, hz, .ofInt _ _⟩
      rw [h1.int_inv] at ev
      have : (Builtin.max_ ts ty (xs.map c.eval)).run P w = .ok (.int k z) w := by
        unfold Builtin.max_
        rw [Array.toList_map, ev]
        exact e
      simp [execOp, resolve, invoke, builtin, this]
    | _ => exact hk.elim

end
end Go.AL
