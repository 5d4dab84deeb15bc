/-
  PhrasesOf in the program and in the reference.
-/
import Derived.Test.YtikhjoianbndhaaPhrS
namespace Go.Proofs.Ytikhjoianbndhaa
open Go.RowKit

theorem phr_len (s : ByteArray) (at_ : Nat) (out : List ByteArray) : (phr s at_ out).length ≤ out.length + (s.size - at_) := by
  rw [phr]
  split
  · have := phr_len s (at_ + plen s out at_ 1) (out ++ [s.extract at_ (at_ + plen s out at_ 1)])
    have h2 := plen_ge s out at_ 1
    simp at this
    omega
  · omega
termination_by s.size - at_
decreasing_by have := plen_ge s out at_ 1; omega

def phrOf (s : ByteArray) : List ByteArray := if okW s = true then phr s 0 [] else []
def codeW (s : ByteArray) : Int := if okW s = true then 0 else 1
theorem okW_len2 {s : ByteArray} (h : okW s = true) : s.size ≤ 2000 := by
  rcases Nat.lt_or_ge 2000 s.size with q | q
  · rw [okW_big q] at h; cases h
  · exact q
theorem phrOf_len (s : ByteArray) : (phrOf s).length ≤ 2000 := by
  unfold phrOf
  split
  · rename_i h
    have := phr_len s 0 []
    have := okW_len2 h
    simp at *
    omega
  · simp

end Go.Proofs.Ytikhjoianbndhaa
