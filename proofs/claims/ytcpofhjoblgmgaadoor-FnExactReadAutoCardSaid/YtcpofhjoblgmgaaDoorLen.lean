
/-
  What the program and the reference tell of a list of factors: is it valid; its length.
-/
import Derived.Test.YtcpofhjoblgmgaaDoorFacLen
namespace Go.Proofs.YtcpofhjoblgmgaaDoor
open Go.RowKit

theorem optTuple_some (n : Int) : optTuple (some n) = .tuple #[.int .i64 n, .bool true] := rfl
theorem optTuple_none : optTuple none = .tuple #[.int .i64 0, .bool false] := rfl

section
variable (A : Option Addr) (n c : Nat) (fs : List Fac) (w : World) (hn : n ≤ maxLen) (hr : Rd w w.heap.size A n 3 Fac.cells fs) (hs : ∀ f ∈ fs, f.l.size ≤ maxLen) (x : Option Int) (hx : facTotal fs = x)
include hn hr hs hx
/-- a length and a code -/
def lenTuple : Option Int → Value
  | none => .tuple #[.int .i64 0, .int .i64 1]
  | some n => .tuple #[.int .i64 n, .int .i64 0]
end
end Go.Proofs.YtcpofhjoblgmgaaDoor
