
/-
  Grammars that a call has made: marked, held.
-/
import Derived.Test.YtkkadlihlbpbiaaDoorMarkI
namespace Go.Proofs.YtkkadlihlbpbiaaDoor
open Go.RowKit

def markF (k i : Nat) : Fac := ⟨mt (k + 3 * i), ((k + 3 * i + 1 : Nat) : Int), ((k + 3 * i + 2 : Nat) : Int)⟩
/-- the marks of n rules from k on -/
def marksR (k n : Nat) : List Fac := (List.range n).map (markF k)
theorem marksR_len (k n : Nat) : (marksR k n).length = n := by simp [marksR]
theorem marksR_at {k n i : Nat} (h : i < n) : (marksR k n)[i]? = some (markF k i) := by
  unfold marksR; rw [List.getElem?_map, List.getElem?_range h]; rfl
theorem flat_set3 : ∀ (l : List Fac) (i : Nat) (y : Fac), i < l.length →
    (((l.flatMap Fac.cells).set (i * 3) (.string y.l)).set (i * 3 + 1) (.int .i64 y.a)).set (i * 3 + 2) (.int .i64 y.b) = (l.set i y).flatMap Fac.cells
  | [], _, _, h => by simp at h
  | x :: r, 0, y, _ => by simp [Fac.cells]
  | x :: r, i + 1, y, h => by
    have ih := flat_set3 r i y (by simpa using h)
    rw [show (i + 1) * 3 = i * 3 + 3 by omega]
    simp only [List.flatMap_cons, List.set_cons_succ, Fac.cells, List.cons_append, List.nil_append]
    rw [ih]
theorem set_marks {k n i : Nat} {l : List Fac} (hl : l.length = n) (h : ∀ j, j < i → l[j]? = some (markF k j)) (hi : i < n) : (l.set i (markF k i)).length = n ∧ ∀ j, j < i + 1 → (l.set i (markF k i))[j]? = some (markF k j) := by
  refine ⟨by simpa using hl, fun j hj => ?_⟩
  by_cases e : i = j
  · subst e; rw [List.getElem?_set_self (by omega)]
  · rw [List.getElem?_set_ne e]; exact h j (by omega)
theorem marks_end {k n : Nat} {l : List Fac} (hl : l.length = n) (h : ∀ j, j < n → l[j]? = some (markF k j)) : l = marksR k n := by
  refine List.ext_getElem? fun j => ?_
  by_cases hj : j < n
  · rw [h j hj, marksR_at hj]
  · rw [List.getElem?_eq_none (by omega), List.getElem?_eq_none (by rw [marksR_len]; omega)]
end Go.Proofs.YtkkadlihlbpbiaaDoor
