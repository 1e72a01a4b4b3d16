/- From what the small logic shows of a law to the statement: the arguments as trees, what the call leaves. No condition. -/
import Derived.Test.YtgdlkhgfehclpaaRows
import Derived.Test.YtgdlkhgfehclpaaALs
import Derived.ProofKit
import Derived.OpenShut
import Derived.JoinedCond
namespace Go.Proofs.Ytgdlkhgfehclpaa
open Go Go.AL Go.ChangeShapes Go.WideShapes Go.ChangeAt Go.RowKit
set_option linter.unusedVariables false
set_option linter.unusedSimpArgs false
theorem zOwn : ownKnob Try.prog.godebug = none := by kernel_rfl
theorem zLaidOut : laidOutB Try.prog = true := by kernel_rfl

/-! ### the bound -/
theorem bulk_one {H : Type} (d : DataW H) : 1 ≤ Rows.uptoBulk d := by
  cases d with
  | lit l => cases l <;> simp [Rows.uptoBulk]
  | _ => simp [Rows.uptoBulk]
theorem bulk_len {H : Type} (l : List (DataW H)) : l.length ≤ Rows.uptoBulkAll l := by
  induction l with
  | nil => simp
  | cons x r ih => have := bulk_one x; simp only [Rows.uptoBulkAll, List.length_cons]; omega
theorem bulk_part {H : Type} {d : DataW H} : ∀ {l : List (DataW H)}, d ∈ l → Rows.uptoBulk d ≤ Rows.uptoBulkAll l
  | x :: r, h => by
    simp only [Rows.uptoBulkAll]
    rcases List.mem_cons.1 h with e | e
    · subst e; omega
    · have := bulk_part e; omega
theorem bulk_slice {H : Type} (elems spare : List (DataW H)) : elems.length ≤ Rows.uptoBulk (.slice elems spare) := by
  have h1 := bulk_len elems
  simp only [Rows.uptoBulk]
  omega
theorem bulk_agg {H : Type} (parts : List (DataW H)) : Rows.uptoBulkAll parts ≤ Rows.uptoBulk (.agg parts) := by
  simp only [Rows.uptoBulk]
  omega
theorem bulk_ok {H : Type} {l : List (DataW H)} (hk : Rows.uptoSmall H l = true) : Rows.uptoBulkAll l ≤ 1048576 := by
  simpa [Rows.uptoSmall] using hk

/-! ### the arguments -/
abbrev allOf (W : World) : Nat → Prop := fun b => b < W.heap.size
theorem cell_lt {W : World} {a : Addr} {v : Value} (h : W.cell? a = some v) : a.block < W.heap.size := by
  unfold World.cell? at h
  rcases Nat.lt_or_ge a.block W.heap.size with hlt | hge
  · exact hlt
  · rw [Array.getElem?_eq_none hge] at h
    simp at h
theorem irel_ints {W : World} {a : Addr} {len cap : Nat} {zs : List Int} (hl : len ≤ zs.length) (hc : len ≤ cap) (hcell : ∀ i, i < zs.length → W.cell? (a.add i) = some (.int .i64 (zs.getD i 0))) :
    IRel (allOf W) W (ints (zs.take len)) (.slice (some a) len cap) := by
  rcases Nat.eq_zero_or_pos len with h0 | h0
  · subst h0
    exact .isl0 1 _ _
  · obtain ⟨b, off, rfl, hx⟩ := ints_at hcell (by omega)
    have hlen : (List.map intE (zs.take len)).length = len := by simp; omega
    have key : ∀ (i : Nat) (e : List AV), (List.map intE (zs.take len))[i]? = some e → i < zs.length ∧ e = [AV.int .i64 (zs.getD i 0)] := by
      intro i e hi
      have hlt := (List.getElem?_eq_some_iff.1 hi).1
      rw [hlen] at hlt
      rw [List.getElem?_map, List.getElem?_take, if_pos hlt, List.getElem?_eq_getElem (by omega)] at hi
      simp only [Option.map_some, Option.some.injEq] at hi
      refine ⟨by omega, ?_⟩
      rw [← hi]
      simp [intE, List.getD_eq_getElem?_getD, List.getElem?_eq_getElem (show i < zs.length by omega)]
    have hr := IRel.isl (I := allOf W) (w := W) 1 (List.map intE (zs.take len)) b off cap (fun i _ => .int .i64 (zs.getD i 0)) (by intro e; rw [e] at hlen; simp at hlen; omega) (by rw [hlen]; exact hc) (by have := cell_lt (hx 0 (by omega)); exact this)
      (fun i e hi => by rw [(key i e hi).2]; rfl) (fun i e j u hi hj => by
        obtain ⟨h1, h2⟩ := key i e hi
        subst h2
        have hj0 : j = 0 := by
          have := (List.getElem?_eq_some_iff.1 hj).1
          simp at this
          exact this
        subst hj0
        rw [show off + (i * 1 + 0) = off + i by omega]
        exact hx i h1) (fun i e j u hi hj => rfl) (fun i e j u hi hj => by
        obtain ⟨h1, h2⟩ := key i e hi
        subst h2
        have hj0 : j = 0 := by
          have := (List.getElem?_eq_some_iff.1 hj).1
          simp at this
          exact this
        subst hj0
        simp at hj
        rw [← hj]
        exact .int _ _)
    rw [hlen] at hr
    exact hr
/-- An argument that is a list of numbers. -/
theorem open_list {H : Type} {enc : TypeId × Value → H} {W : World} {t e : TypeId} {fuel : Nat} {v : Value} {d : DataW H} {p : List MemPlace} (ht : Try.prog.underlying t = some (.slice e)) (he : Try.prog.underlying e = some (.int .i64)) (hc : Try.prog.cellsOf e = 1)
    (hv : ∃ a len cap, v = .slice a len cap) (h : DataW.trod enc Try.prog W 0 (fun _ => true) true fuel t v.cells.toList = some (d, p)) : ∃ xs : List Int, IRel (allOf W) W (ints xs) v ∧ xs.length ≤ Rows.uptoBulk d := by
  obtain ⟨a0, len0, cap0, rfl⟩ := hv
  rcases open_ints ht he hc h with ⟨hcs, hx⟩ | ⟨a, len, cap, zs, hcs, _, hl, hm, hz, hx, hcell, _⟩
  · simp [Value.cells] at hcs
    obtain ⟨rfl, rfl, rfl⟩ := hcs
    exact ⟨[], .isl0 1 _ _, by simp⟩
  · simp [Value.cells] at hcs
    obtain ⟨rfl, rfl, rfl⟩ := hcs
    simp only [Prod.mk.injEq] at hx
    obtain ⟨rfl, _⟩ := hx
    simp only [if_true] at hz
    refine ⟨zs.take len0, irel_ints (by omega) hl hcell, ?_⟩
    refine Nat.le_trans ?_ (bulk_slice _ _)
    simp [lits]

/-! ### the call -/
theorem calls_true {f : FuncId} {us : List AV} {vs : List Value} {W : World} (hc : ACalls Try.prog f us [] fun v h => OFz h v (.bool true)) (hl : vs.length = us.length) (hv : ∀ (j : Nat) (u : AV) (v : Value), us[j]? = some u → vs[j]? = some v → IRel (allOf W) W u v) :
    Calls Try.prog f vs.toArray W fun e W' => e = .returned (.bool true) ∧ Below W.heap.size W W' := by
  refine (hc.2 (allOf W) (fun _ => 0) W vs ⟨fun b hb => hb, fun id o h => by simp at h, fun id id' o o' h => by simp at h⟩ ⟨hl.symm, fun j u v hu hv' => .imm _ _ (hv j u v hu hv')⟩).mono ?_
  rintro e w' ⟨cv, u, I', β', h', rfl, hq, hE, hR, hv'⟩
  refine ⟨?_, ⟨hE.os, hE.tape, hE.output, hE.size, fun k hk => hE.keep k hk (fun ⟨id, o, h1, _⟩ => by simp at h1)⟩⟩
  have hu : u = .bool true := by
    cases hq
    rfl
  subst hu
  cases hv' with
  | imm _ _ hi => cases hi; rfl
theorem trodAll_stays {H : Type} {enc : TypeId × Value → H} {W W' : World} {sp : Nat → Bool} (hb : Below W.heap.size W W') : ∀ {ts : List TypeId} {vs : List Value} {ds : List (DataW H)} {ps : List MemPlace}, (∀ t ∈ ts, Try.prog.readableRec t = true ∧ t < Try.prog.types.size) →
    DataW.TrodAll enc Try.prog W 0 (fun _ => true) true ts vs ds ps → (∀ x ∈ ps, x.block < W.heap.size) → (∀ x ∈ ps, sp x.block = true) → DataW.TrodAll enc Try.prog W' 0 sp true ts vs ds ps
  | [], [], [], _, _, h, _, _ => h
  | _ :: _, _ :: _, _ :: _, _, hT, ⟨p, q, h1, h2, e⟩, hlt, hs => by
    subst e
    exact ⟨p, q, WideElems.Trod_stays zLaidOut (hT _ List.mem_cons_self).1 (hT _ List.mem_cons_self).2 h1 (fun x hx => hb.same (hlt x (List.mem_append_left _ hx))) (fun x hx => hs x (List.mem_append_left _ hx)),
      trodAll_stays hb (fun t ht => hT t (List.mem_cons_of_mem _ ht)) h2 (fun x hx => hlt x (List.mem_append_right _ hx)) (fun x hx => hs x (List.mem_append_right _ hx)), rfl⟩
/-- 'post' of a law that came out true and wrote nothing of what was there. -/
theorem post_true {H : Type} {enc : TypeId × Value → H} {f : Func} {s : ChangeSpec} {W W' : World} {args : Array Value} {ds : List (DataW H)} {p : List MemPlace} (hW : DataW.Whole enc Try.prog f.params.toList s.vars false W args.toList ds [] (p ++ []))
    (hA : DataW.TrodAll enc Try.prog W 0 (fun _ => true) true f.params.toList args.toList ds p) (hT : ∀ t ∈ f.params.toList, Try.prog.readableRec t = true ∧ t < Try.prog.types.size) (hr : f.resultTypes = #[4]) (hs : s.fn H (ds ++ []) = { results := [.lit (.bool true)], args := ds }) (hv : s.vars = [])
    (hb : Below W.heap.size W W') : s.post enc Try.prog f false true false false W args (.bool true) W' := by
  have hlt : ∀ x ∈ p, x.block < W.heap.size := fun x hx => hW.lt x (List.mem_append_left _ hx)
  refine ⟨ds, [], p ++ [], [], p, [], hW, ?_, ?_, ?_, ?_, fun h => by cases h⟩
  · rw [hr, hs]
    exact trodAll_cons_mk (shut_bool Try.underlying4 _) trodAll_mk0
  · rw [hs]
    exact trodAll_stays hb hT hA hlt (fun x hx => by simpa using hlt x hx)
  · rw [hs, hv]
    rfl
  · exact hb.frame _
end Go.Proofs.Ytgdlkhgfehclpaa
