/-
  The last of what is made of a grammar.
-/
import Derived.Test.YtkknhpailohjcaaFoldL
namespace Go.Proofs.Ytkknhpailohjcaa

def tup2 (a b : Int) : Value := .tuple #[.int .i64 a, .int .i64 b]
theorem foldAll_len {α : Type} (d : α) (F : Nat → α) (G : α → α → Fac → α) (z : α) (rs : List Fac) : 1 ≤ (foldAll d F G z rs).length ∧ (foldAll d F G z rs).length ≤ rs.length + 1 := by
  unfold foldAll
  split
  · simp
  · rw [foldG_len]; simp; omega
/-- the last of what is made -/
theorem foldAll_top {α : Type} (d : α) (F : Nat → α) (G : α → α → Fac → α) (z : α) (rs : List Fac) : (foldAll d F G z rs).getD ((foldAll d F G z rs).length - 1) d = if rs.length = 0 then z else (full d F G rs).getD (rs.length - 1) d := by
  unfold foldAll
  split
  · rfl
  · have := full_len d F G (rs := rs)
    unfold full at this ⊢
    rw [this]
theorem foldAll_pos {α : Type} (d : α) (F : Nat → α) (G : α → α → Fac → α) (z : α) {rs : List Fac} (h : 0 < rs.length) : foldAll d F G z rs = full d F G rs := by
  unfold foldAll
  rw [if_neg (by omega)]
end Go.Proofs.Ytkknhpailohjcaa
