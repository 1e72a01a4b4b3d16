/- The small logic's calls, for simp: renamed values and objects; lists of numbers lent. No condition. -/
import Derived.Test.YtgdlkhgfehclpaaALr
namespace Go.AL
set_option linter.unusedVariables false
set_option linter.unusedSimpArgs false
def ints (xs : List Int) : AV := .isl 1 (List.map intE xs)
theorem ren_osl {N id k i len cap : Nat} {ex : Bool} : AV.ren (sh N) (.osl id k i len cap ex) = .osl (id + N) k i len cap ex := (rfl)
theorem ren_op {N id k e off : Nat} : AV.ren (sh N) (.op id k e off) = .op (id + N) k e off := (rfl)
theorem ren_int {ρ : Nat → Option Nat} {k : IntKind} {n : Int} : AV.ren ρ (.int k n) = .int k n := (rfl)
theorem ren_bool {ρ : Nat → Option Nat} {b : Bool} : AV.ren ρ (.bool b) = .bool b := (rfl)
theorem ren_nils {ρ : Nat → Option Nat} : AV.ren ρ .nils = .nils := (rfl)
theorem ren_tup {ρ : Nat → Option Nat} {vs : List AV} : AV.ren ρ (.tup vs) = .tup (rens ρ vs) := (rfl)
theorem ren_agg {ρ : Nat → Option Nat} {vs : List AV} : AV.ren ρ (.agg vs) = .agg (rens ρ vs) := (rfl)
theorem ren_isl {ρ : Nat → Option Nat} {k : Nat} {es : List (List AV)} : AV.ren ρ (.isl k es) = .isl k es := (rfl)
theorem rens_nil {ρ : Nat → Option Nat} : rens ρ [] = [] := (rfl)
theorem rens_cons {ρ : Nat → Option Nat} {v : AV} {r : List AV} : rens ρ (v :: r) = v.ren ρ :: rens ρ r := (rfl)
theorem ren_intEs {ρ : Nat → Option Nat} {xs : List Int} {ex : Bool} : Ob.ren ρ (.arr 1 (List.map intE xs) ex) = .arr 1 (List.map intE xs) ex := by
  simp only [Ob.ren, List.map_map]
  congr 1
theorem ren_boolEs {ρ : Nat → Option Nat} {xs : List Bool} {ex : Bool} : Ob.ren ρ (.arr 1 (List.map boolE xs) ex) = .arr 1 (List.map boolE xs) ex := by
  simp only [Ob.ren, List.map_map]
  congr 1
theorem behind_eq {h h0 : Heap} : behind h h0 = h ++ h0.map (Ob.ren (sh h.length)) := (rfl)
theorem map_one {α β : Type} {f : α → β} {x : α} : List.map f [x] = [f x] := (rfl)
theorem lean_intEs {xs : List Int} {ex : Bool} : (Ob.arr 1 (List.map intE xs) ex).lean = true := by
  simp [Ob.lean, leans, intE, AV.lean]
/-- A list of numbers of one's own, lent. -/
theorem frz_ints {h : Heap} {id len cap : Nat} {ex ex' : Bool} {l l' : List Int} (hid : h[id]? = some (.arr 1 (List.map intE l') ex')) (hl : l'.take len = l) (hn : l.length = len) : Frz h (.osl id 1 0 len cap ex) (ints l) := by
  have h1 : len ≤ l'.length := by
    have := congrArg List.length hl
    rw [List.length_take] at this
    omega
  have := Frz.flat (h := h) (id := id) (k := 1) (i := 0) (len := len) (cap := cap) (ex := ex) hid (by simpa using h1) (fun e he => by
    obtain ⟨x, _, rfl⟩ := List.mem_map.1 he; rfl)
  rw [List.drop_zero, ← List.map_take, hl] at this
  exact this
theorem frz_isl {h : Heap} {l : List Int} : Frz h (.isl 1 (List.map intE l)) (ints l) := .pure _ rfl
theorem ofz_ints {h : Heap} {id len cap : Nat} {ex ex' : Bool} {l : List Int} (hid : h[id]? = some (.arr 1 (List.map intE l) ex')) (hl : len = l.length) : OFz h (.osl id 1 0 len cap ex) (ints l) := by
  have := OFz.osl (h := h) id 1 0 len cap ex ex' (List.map intE l) hid (by simp; omega) (fun e he => by
    obtain ⟨x, _, rfl⟩ := List.mem_map.1 he; rfl)
  rw [List.drop_zero, List.take_of_length_le (by simp; omega)] at this
  exact this
end Go.AL
