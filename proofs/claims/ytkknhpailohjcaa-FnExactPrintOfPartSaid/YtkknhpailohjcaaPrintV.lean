/-
  Prints: what is told.
-/
import Derived.Test.YtkknhpailohjcaaPrintM
namespace Go.Proofs.Ytkknhpailohjcaa

def printpV (rs : List Fac) (i j b m : Int) : Value := match gOk rs with
  | none => tup2 0 1
  | some ls => if inB m 1 1000000000 = false then tup2 0 2 else if inB b 0 (m - 1) = false then tup2 0 2 else if inB i 0 j = false then tup2 0 2 else if lastI ls < j then tup2 0 2 else tup2 (partMk b m rs (pcsT ls rs i j)).p 0
def printV (rs : List Fac) (b m : Int) : Value := match gOk rs with
  | none => tup2 0 1
  | some ls => printpV rs 0 (lastI ls) b m
section
variable {rs : List Fac} {ls : List Int} {i j b m : Int}
theorem printpV0 (h : gOk rs = none) : printpV rs i j b m = tup2 0 1 := by unfold printpV; rw [h]
theorem printpV1 (h : gOk rs = some ls) (h1 : inB m 1 1000000000 = false) : printpV rs i j b m = tup2 0 2 := by
  unfold printpV; rw [h]; show (if _ then _ else _) = _; rw [if_pos h1]
theorem printpV2 (h : gOk rs = some ls) (h1 : inB m 1 1000000000 = true) (h2 : inB b 0 (m - 1) = false) : printpV rs i j b m = tup2 0 2 := by
  unfold printpV; rw [h]; show (if _ then _ else _) = _; rw [if_neg (by rw [h1]; decide), if_pos h2]
theorem printpV3 (h : gOk rs = some ls) (h1 : inB m 1 1000000000 = true) (h2 : inB b 0 (m - 1) = true) (h3 : inB i 0 j = false) : printpV rs i j b m = tup2 0 2 := by
  unfold printpV; rw [h]; show (if _ then _ else _) = _; rw [if_neg (by rw [h1]; decide), if_neg (by rw [h2]; decide), if_pos h3]
theorem printpV4 (h : gOk rs = some ls) (h1 : inB m 1 1000000000 = true) (h2 : inB b 0 (m - 1) = true) (h3 : inB i 0 j = true) (h4 : lastI ls < j) : printpV rs i j b m = tup2 0 2 := by
  unfold printpV; rw [h]; show (if _ then _ else _) = _; rw [if_neg (by rw [h1]; decide), if_neg (by rw [h2]; decide), if_neg (by rw [h3]; decide), if_pos h4]
theorem printpV5 (h : gOk rs = some ls) (h1 : inB m 1 1000000000 = true) (h2 : inB b 0 (m - 1) = true) (h3 : inB i 0 j = true) (h4 : ¬ lastI ls < j) : printpV rs i j b m = tup2 (partMk b m rs (pcsT ls rs i j)).p 0 := by
  unfold printpV; rw [h]; show (if _ then _ else _) = _; rw [if_neg (by rw [h1]; decide), if_neg (by rw [h2]; decide), if_neg (by rw [h3]; decide), if_neg h4]
end
theorem lastI_bP {rs : List Fac} {ls : List Int} (hls : gLens rs [] = some ls) (hl : ls.length = rs.length) : 0 ≤ lastI ls ∧ lastI ls ≤ 1000000000000000 := by
  unfold lastI
  by_cases h0 : rs.length = 0
  · rw [List.eq_nil_of_length_eq_zero (hl.trans h0)]; show (0 : Int) ≤ 0 ∧ (0 : Int) ≤ 1000000000000000; omega
  · have := lens_bound hls (i := ls.length - 1) (by omega)
    omega
theorem printpV_form (rs : List Fac) (i j b m : Int) : ∃ x k, printpV rs i j b m = .tuple #[.int .i64 x, .int .i64 k] := by
  unfold printpV tup2
  split
  · exact ⟨_, _, rfl⟩
  · split
    · exact ⟨_, _, rfl⟩
    split
    · exact ⟨_, _, rfl⟩
    split
    · exact ⟨_, _, rfl⟩
    split
    · exact ⟨_, _, rfl⟩
    · exact ⟨_, _, rfl⟩
theorem printV_form (rs : List Fac) (b m : Int) : ∃ x k, printV rs b m = .tuple #[.int .i64 x, .int .i64 k] := by
  unfold printV
  split
  · exact ⟨_, _, rfl⟩
  · exact printpV_form _ _ _ _ _
end Go.Proofs.Ytkknhpailohjcaa
