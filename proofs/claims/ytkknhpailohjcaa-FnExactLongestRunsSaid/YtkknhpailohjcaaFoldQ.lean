/-
  impl.folded at [4]int64: what it makes of a grammar, by the contracts of the two functions that it is handed.
-/
import Derived.Test.YtkknhpailohjcaaFoldI
namespace Go.Proofs.Ytkknhpailohjcaa
open Go.RowKit

structure Q4 where
  a : Int
  b : Int
  c : Int
  d : Int
  deriving Inhabited, DecidableEq
def Q4.nil : Q4 := ⟨0, 0, 0, 0⟩
def encQ4 (y : Q4) : List Value := [.int .i64 y.a, .int .i64 y.b, .int .i64 y.c, .int .i64 y.d]
end Go.Proofs.Ytkknhpailohjcaa
