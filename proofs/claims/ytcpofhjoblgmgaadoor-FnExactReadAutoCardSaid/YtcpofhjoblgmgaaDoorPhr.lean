
/-
  The phrases of a word, in the program and in the reference.
-/
import Derived.Test.YtcpofhjoblgmgaaDoorLet
import Derived.Test.YtcpofhjoblgmgaaDoorOwn
namespace Go.Proofs.YtcpofhjoblgmgaaDoor
open Go.RowKit

def strE (s : ByteArray) : List Value := [.string s]
def memS (x : ByteArray) (out : List ByteArray) : Bool := out.any fun y => decide (x = y)
/-- how long the phrase is that begins at a place -/
def plen (s : ByteArray) (out : List ByteArray) (at_ n : Nat) : Nat :=
  if at_ + n < s.size ∧ memS (s.extract at_ (at_ + n)) out = true then plen s out at_ (n + 1) else n
termination_by s.size - (at_ + n)
decreasing_by omega
theorem plen_ge (s : ByteArray) (out : List ByteArray) (at_ n : Nat) : n ≤ plen s out at_ n := by
  rw [plen]
  split
  · rename_i h
    have := plen_ge s out at_ (n + 1)
    omega
  · exact Nat.le_refl _
termination_by s.size - (at_ + n)
decreasing_by omega
theorem plen_le (s : ByteArray) (out : List ByteArray) (at_ n : Nat) (h : at_ + n ≤ s.size) : at_ + plen s out at_ n ≤ s.size := by
  rw [plen]
  split
  · rename_i h1
    exact plen_le s out at_ (n + 1) (by omega)
  · exact h
termination_by s.size - (at_ + n)
decreasing_by omega
def phr (s : ByteArray) (at_ : Nat) (out : List ByteArray) : List ByteArray :=
  if at_ < s.size then phr s (at_ + plen s out at_ 1) (out ++ [s.extract at_ (at_ + plen s out at_ 1)]) else out
termination_by s.size - at_
decreasing_by have := plen_ge s out at_ 1; omega

theorem elem_str : Elem Tryd.prog 31 9 1 16 := Elem.mk' (z := .string .empty) Tryd.underlying31 (by kernel_rfl) rfl
theorem zero_bool (w : World) : (zeroValue 4).run Tryd.prog w = .ok (.bool false) w := by kernel_rfl

end Go.Proofs.YtcpofhjoblgmgaaDoor
