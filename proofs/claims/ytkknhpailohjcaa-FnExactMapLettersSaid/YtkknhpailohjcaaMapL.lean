/-
  How long the grammar is whose letters are replaced.
-/
import Derived.Test.YtkknhpailohjcaaMapS
namespace Go.Proofs.Ytkknhpailohjcaa

theorem mapF_len (rs : List Fac) (ws : List ByteArray) : (mapF rs ws).length ≤ 1048576 := by
  unfold mapF
  split
  · simp
  · split
    · simp
    · rename_i h
      split
      · simp
      · unfold limF
        split
        · unfold mapT
          have h1 := trimL_le ((mapS2 rs ws).1.take ((lastI (mapS2 rs ws).2).toNat + 1))
          rw [List.length_take] at h1
          omega
        · simp
end Go.Proofs.Ytkknhpailohjcaa
