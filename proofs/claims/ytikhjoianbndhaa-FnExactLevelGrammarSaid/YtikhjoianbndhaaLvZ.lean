/-
  Level grammars: how many rules there are.
-/
import Derived.Test.YtikhjoianbndhaaLvN
import Derived.Test.YtikhjoianbndhaaTrim
namespace Go.Proofs.Ytikhjoianbndhaa

theorem levF_len (rs : List Fac) : (levF rs).length ≤ 400 := by
  unfold levF
  split
  · unfold lvT
    split
    · simp
    · rename_i st h
      split
      · simp
      · unfold trimL
        split
        · simp
        · generalize hT : st.1.rs.take (lastI st.2 + 1).toNat = xs
          have hl : xs.length ≤ 400 := by
            rw [← hT, List.length_take]
            have := lvAll_len h
            omega
          have h1 := outT_len (useT (trK xs [] []).1 xs.length (use0 xs.length (trK xs [] []).2)) (trK xs [] []).1 0 [] (List.replicate xs.length 0)
          have h2 := trK_len xs [] []
          simp only [List.length_nil, Nat.zero_add] at h1 h2
          omega
  · simp
end Go.Proofs.Ytikhjoianbndhaa
