/-
  TrimGrammar on both sides.
-/
import Derived.Test.YtikhjoianbndhaaTrimI
import Derived.Test.YtikhjoianbndhaaTrimS
import Derived.Test.YtikhjoianbndhaaGramV
namespace Go.Proofs.Ytikhjoianbndhaa
open Go.RowKit

/-- a grammar in new memory, and a code -/
def RetGC (w0 : World) (xs : List Fac) (k : Int) (e : Ending) (w' : World) : Prop :=
  ∃ A c, e = .returned (.tuple #[.agg #[.slice A xs.length c], .int .i64 k]) ∧ w'.ownsRow w0.heap.size 44 3 (.slice A xs.length c) xs.length (xs.flatMap Fac.cells) ∧ Below w0.heap.size w0 w'
def trimF (rs : List Fac) : List Fac := if (gOk rs).isSome then trimL rs else []
def trimC (rs : List Fac) : Int := if (gOk rs).isSome then 0 else 1
theorem outT_len (used : List Bool) : ∀ (ks : List Fac) (i : Nat) (out : List Fac) (at_ : List Int), (outT used i ks out at_).length ≤ out.length + ks.length
  | [], i, out, at_ => by simp [outT]
  | r :: ks, i, out, at_ => by
    rw [outT]
    split
    · have := outT_len used ks (i + 1) (out ++ [trR at_ r]) (at_.set i (out.length : Int))
      simp only [List.length_append, List.length_singleton] at this
      simp only [List.length_cons]; omega
    · have := outT_len used ks (i + 1) out at_
      simp only [List.length_cons]; omega
theorem trK_len : ∀ (rs kept : List Fac) (same : List Int), (trK rs kept same).1.length = kept.length + rs.length
  | [], kept, same => by simp [trK]
  | r :: rs, kept, same => by
    rw [trK, trK_len rs]; simp; omega
theorem trimF_len (rs : List Fac) : (trimF rs).length ≤ rs.length := by
  unfold trimF
  split
  · unfold trimL
    split
    · simp
    · have h1 := outT_len (useT (trK rs [] []).1 rs.length (use0 rs.length (trK rs [] []).2)) (trK rs [] []).1 0 [] (List.replicate rs.length 0)
      have h2 := trK_len rs [] []
      simp only [List.length_nil, Nat.zero_add] at h1 h2
      omega
  · simp
end Go.Proofs.Ytikhjoianbndhaa
