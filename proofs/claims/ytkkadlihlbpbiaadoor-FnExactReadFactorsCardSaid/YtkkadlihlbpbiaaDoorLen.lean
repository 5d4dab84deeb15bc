
/-
  What the program and the reference tell of a list of factors: is it valid; its length.
-/
import Derived.Test.YtkkadlihlbpbiaaDoorFacLen
namespace Go.Proofs.YtkkadlihlbpbiaaDoor
open Go.RowKit

theorem optTuple_some (n : Int) : optTuple (some n) = .tuple #[.int .i64 n, .bool true] := rfl
theorem optTuple_none : optTuple none = .tuple #[.int .i64 0, .bool false] := rfl

section
variable (A : Option Addr) (n c : Nat) (fs : List Fac) (w : World) (hn : n ≤ maxLen) (hr : Rd w w.heap.size A n 3 Fac.cells fs) (hs : ∀ f ∈ fs, f.l.size ≤ maxLen) (x : Option Int) (hx : facTotal fs = x)
include hn hr hs hx
theorem implValid_any : Calls Tryd.prog 16 #[.slice A n c] w (Ret (.bool x.isSome) w) := by
  cases x
  all_goals
    go_enter Tryd.func16, Tryd.ntmps16
    go_wp2_with fail
    refine (factorsLength_any A n c fs w hn hr hs).mono ?_
    rintro e w1 ⟨rfl, hb1⟩
    rw [hx]
    first | rw [optTuple_some] | rw [optTuple_none]
    go_wp2
    go_ret
    exact ⟨rfl, hb1⟩
theorem specValid_any : Calls Tryd.prog 11 #[.slice A n c] w (Ret (.bool x.isSome) w) := by
  cases x
  all_goals
    go_enter Tryd.func11, Tryd.ntmps11
    go_wp2_with fail
    refine (specLength_any A n c fs w hn hr hs).mono ?_
    rintro e w1 ⟨rfl, hb1⟩
    rw [hx]
    first | rw [optTuple_some] | rw [optTuple_none]
    go_wp2
    go_ret
    exact ⟨rfl, hb1⟩
/-- a length and a code -/
def lenTuple : Option Int → Value
  | none => .tuple #[.int .i64 0, .int .i64 1]
  | some n => .tuple #[.int .i64 n, .int .i64 0]
end
end Go.Proofs.YtkkadlihlbpbiaaDoor
