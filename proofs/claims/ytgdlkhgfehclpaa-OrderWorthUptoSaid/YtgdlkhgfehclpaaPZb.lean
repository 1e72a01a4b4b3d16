/- Arguments that are patterns. No condition. -/
import Derived.Test.YtgdlkhgfehclpaaPZa
import Derived.Test.YtgdlkhgfehclpaaPOg
namespace Go.Proofs.Ytgdlkhgfehclpaa
open Go Go.AL Go.ChangeShapes Go.WideShapes Go.ChangeAt Go.RowKit
set_option linter.unusedVariables false
set_option linter.unusedSimpArgs false
theorem open_cell {H : Type} {enc : TypeId × Value → H} {W : World} {t e : TypeId} {fuel : Nat} {v : Value} {d : DataW H} {p : List MemPlace} (ht : Try.prog.underlying t = some (.slice e)) (he : Try.prog.underlying e = some (.int .i64)) (hc : Try.prog.cellsOf e = 1)
    (h : DataW.trod enc Try.prog W 0 (fun _ => true) true fuel t [v] = some (d, p)) : ∃ xs : List Int, IRel (allOf W) W (ints xs) v ∧ v.oneCell' = true ∧ xs.length ≤ Rows.uptoBulk d := by
  rcases open_ints ht he hc h with ⟨hcs, hx⟩ | ⟨a, len, cap, zs, hcs, _, hl, hm, hz, hx, hcell, _⟩
  · simp only [List.cons.injEq, and_true] at hcs
    subst hcs
    exact ⟨[], .isl0 1 _ _, rfl, by simp⟩
  · simp only [List.cons.injEq, and_true] at hcs
    subst hcs
    simp only [Prod.mk.injEq] at hx
    obtain ⟨rfl, _⟩ := hx
    simp only [if_true] at hz
    refine ⟨zs.take len, irel_ints (by omega) hl hcell, rfl, ?_⟩
    refine Nat.le_trans ?_ (bulk_slice _ _)
    simp [lits]
set_option maxRecDepth 100000 in
theorem open_pat {H : Type} {enc : TypeId × Value → H} {W : World} {fuel : Nat} {v : Value} {d : DataW H} {p : List MemPlace} (hv : ∃ cs, v = .agg cs ∧ cs.size = Try.prog.cellsOf 45) (h : DataW.trod enc Try.prog W 0 (fun _ => true) true fuel 45 v.cells.toList = some (d, p)) :
    ∃ (rows width : Int) (st cs : List Int), IRel (allOf W) W (pat rows width st cs) v ∧ st.length ≤ Rows.uptoBulk d ∧ cs.length ≤ Rows.uptoBulk d := by
  obtain ⟨cells, rfl, hsz⟩ := hv
  rw [show Try.prog.cellsOf 45 = 4 by kernel_rfl] at hsz
  obtain ⟨xs, n, rfl, hx, hl, hlen, hf⟩ := DataW.trod_struct Try.underlying45 h
  simp only [Prod.mk.injEq] at hx
  obtain ⟨hd, _⟩ := hx
  have hlen4 : xs.length = 4 := hlen
  obtain ⟨c0, c1, c2, c3, hcells⟩ : ∃ c0 c1 c2 c3, cells.toList = [c0, c1, c2, c3] := by
    have h4 : cells.toList.length = 4 := by simpa using hsz
    match hm : cells.toList, h4 with
    | [c0, c1, c2, c3], _ => exact ⟨c0, c1, c2, c3, rfl⟩
  have hcl : (Value.agg cells).cells.toList = [c0, c1, c2, c3] := hcells
  rw [hcl] at hf
  obtain ⟨x0, x1, x2, x3, hxs⟩ : ∃ x0 x1 x2 x3, xs = [x0, x1, x2, x3] := by
    match hm : xs, hlen4 with
    | [x0, x1, x2, x3], _ => exact ⟨x0, x1, x2, x3, rfl⟩
  subst hxs
  have h0 : DataW.trod enc Try.prog W 0 (fun _ => true) true n 3 (([c0, c1, c2, c3].drop 0).take (Try.prog.cellsOf 3)) = [x0, x1, x2, x3][0]? := hf 0 _ rfl
  have h1 : DataW.trod enc Try.prog W 0 (fun _ => true) true n 3 (([c0, c1, c2, c3].drop 1).take (Try.prog.cellsOf 3)) = [x0, x1, x2, x3][1]? := hf 1 _ rfl
  have h2 : DataW.trod enc Try.prog W 0 (fun _ => true) true n 23 (([c0, c1, c2, c3].drop 2).take (Try.prog.cellsOf 23)) = [x0, x1, x2, x3][2]? := hf 2 _ rfl
  have h3 : DataW.trod enc Try.prog W 0 (fun _ => true) true n 23 (([c0, c1, c2, c3].drop 3).take (Try.prog.cellsOf 23)) = [x0, x1, x2, x3][3]? := hf 3 _ rfl
  rw [show Try.prog.cellsOf 3 = 1 by kernel_rfl] at h0 h1
  rw [show Try.prog.cellsOf 23 = 1 by kernel_rfl] at h2 h3
  simp only [List.drop_zero, List.drop_succ_cons, List.take_succ_cons, List.take_zero, List.getElem?_cons_zero, List.getElem?_cons_succ] at h0 h1 h2 h3
  obtain ⟨r, e0, _, _⟩ := DataW.trod_int Try.underlying3 h0
  obtain ⟨w, e1, _, _⟩ := DataW.trod_int Try.underlying3 h1
  simp only [List.cons.injEq, and_true] at e0 e1
  obtain ⟨st, i2, o2, b2⟩ := open_cell (p := x2.2) (d := x2.1) Try.underlying23 Try.underlying3 (by kernel_rfl) h2
  obtain ⟨cs, i3, o3, b3⟩ := open_cell (p := x3.2) (d := x3.1) Try.underlying23 Try.underlying3 (by kernel_rfl) h3
  have hca : cells = #[c0, c1, c2, c3] := by
    apply Array.ext'
    simpa using hcells
  subst e0 e1 hca
  refine ⟨r, w, st, cs, .agg _ _ rfl (fun j v hj => ?_) (fun j u v hu hj => ?_), ?_, ?_⟩
  · match j with
    | 0 => simp at hj; subst hj; rfl
    | 1 => simp at hj; subst hj; rfl
    | 2 => simp at hj; subst hj; exact o2
    | 3 => simp at hj; subst hj; exact o3
    | j + 4 => simp at hj
  · match j with
    | 0 => simp at hu hj; subst hu; subst hj; exact .int _ _
    | 1 => simp at hu hj; subst hu; subst hj; exact .int _ _
    | 2 => simp at hu hj; subst hu; subst hj; exact i2
    | 3 => simp at hu hj; subst hu; subst hj; exact i3
    | j + 4 => simp at hj
  · subst hd
    refine Nat.le_trans b2 (Nat.le_trans (bulk_part ?_) (bulk_agg _))
    simp
  · subst hd
    refine Nat.le_trans b3 (Nat.le_trans (bulk_part ?_) (bulk_agg _))
    simp
end Go.Proofs.Ytgdlkhgfehclpaa
