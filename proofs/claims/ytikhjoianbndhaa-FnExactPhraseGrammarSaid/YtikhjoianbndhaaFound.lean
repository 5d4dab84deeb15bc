/-
  All places of a word at which another one begins, in the reference.
-/
import Derived.Test.YtikhjoianbndhaaLet
import Derived.Test.YtikhjoianbndhaaOwn
import Derived.Test.YtikhjoianbndhaaFoldM
namespace Go.Proofs.Ytikhjoianbndhaa
open Go.RowKit

/-- the places before one at which a word begins -/
def fndT (p s : ByteArray) (k : Nat) : List Int := ((List.range k).filter (fun i => decide (s.extract i (i + p.size) = p))).map (fun (i : Nat) => (i : Int))
def fndL (p s : ByteArray) : List Int := fndT p s (s.size + 1 - p.size)
theorem fndT_yes {p s : ByteArray} {k : Nat} (h : s.extract k (k + p.size) = p) : fndT p s (k + 1) = fndT p s k ++ [(k : Int)] := by
  simp [fndT, List.range_succ, h]
theorem fndT_no {p s : ByteArray} {k : Nat} (h : ¬ s.extract k (k + p.size) = p) : fndT p s (k + 1) = fndT p s k := by
  simp [fndT, List.range_succ, h]
theorem fndT_len (p s : ByteArray) (k : Nat) : (fndT p s k).length ≤ k := by
  unfold fndT
  rw [List.length_map]
  exact Nat.le_trans (List.length_filter_le _ _) (by simp)
end Go.Proofs.Ytikhjoianbndhaa
