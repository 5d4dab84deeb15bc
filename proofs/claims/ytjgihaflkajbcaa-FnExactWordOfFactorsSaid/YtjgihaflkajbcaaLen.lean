/-
  What the program and the reference tell of a list of factors: is it valid; its length.
-/
import Derived.Test.YtjgihaflkajbcaaFacLen
namespace Go.Proofs.Ytjgihaflkajbcaa
open Go.RowKit

theorem optTuple_some (n : Int) : optTuple (some n) = .tuple #[.int .i64 n, .bool true] := rfl
theorem optTuple_none : optTuple none = .tuple #[.int .i64 0, .bool false] := rfl

section
variable (A : Option Addr) (n c : Nat) (fs : List Fac) (w : World) (hn : n ≤ maxLen) (hr : Rd w w.heap.size A n 3 Fac.cells fs) (hs : ∀ f ∈ fs, f.l.size ≤ maxLen) (x : Option Int) (hx : facTotal fs = x)
include hn hr hs hx
theorem implValid_any : Calls Try.prog 23 #[.slice A n c] w (Ret (.bool x.isSome) w) := by
  cases x
  all_goals
    go_enter Try.func23, Try.ntmps23
    go_wp2_with fail
    refine (factorsLength_any A n c fs w hn hr hs).mono ?_
    rintro e w1 ⟨rfl, hb1⟩
    rw [hx]
    first | rw [optTuple_some] | rw [optTuple_none]
    go_wp2
    go_ret
    exact ⟨rfl, hb1⟩
theorem specValid_any : Calls Try.prog 22 #[.slice A n c] w (Ret (.bool x.isSome) w) := by
  cases x
  all_goals
    go_enter Try.func22, Try.ntmps22
    go_wp2_with fail
    refine (specLength_any A n c fs w hn hr hs).mono ?_
    rintro e w1 ⟨rfl, hb1⟩
    rw [hx]
    first | rw [optTuple_some] | rw [optTuple_none]
    go_wp2
    go_ret
    exact ⟨rfl, hb1⟩
/-- a length and a code -/
def lenTuple : Option Int → Value
  | none => .tuple #[.int .i64 0, .int .i64 1]
  | some n => .tuple #[.int .i64 n, .int .i64 0]
theorem implFL_any : Calls Try.prog 25 #[.slice A n c] w (Ret (lenTuple x) w) := by
  cases x
  all_goals
    go_enter Try.func25, Try.ntmps25
    go_wp2_with fail
    refine (factorsLength_any A n c fs w hn hr hs).mono ?_
    rintro e w1 ⟨rfl, hb1⟩
    rw [hx]
    first | rw [optTuple_some] | rw [optTuple_none]
    go_wp2
    go_ret2
    exact ⟨rfl, hb1⟩
theorem specFL_any : Calls Try.prog 24 #[.slice A n c] w (Ret (lenTuple x) w) := by
  cases x
  all_goals
    go_enter Try.func24, Try.ntmps24
    go_wp2_with fail
    refine (specLength_any A n c fs w hn hr hs).mono ?_
    rintro e w1 ⟨rfl, hb1⟩
    rw [hx]
    first | rw [optTuple_some] | rw [optTuple_none]
    go_wp2
    go_ret2
    exact ⟨rfl, hb1⟩
end
end Go.Proofs.Ytjgihaflkajbcaa
