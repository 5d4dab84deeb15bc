/-
  The reference's small functions on letters and numbers.
-/
import Derived.Test.YtikhjoianbndhaaFoldI
namespace Go.Proofs.Ytikhjoianbndhaa
open Go.RowKit

theorem l00Max_any (a b : Int) (w : World) : Calls Try.prog 64 #[.int .i64 a, .int .i64 b] w (Ret (.int .i64 (max a b)) w) := by
  go_enter Try.func64, Try.ntmps64
  go_wp2
  all_goals
    go_ret
    exact ⟨ret_int (by omega), by (repeat first | exact Below.refl _ _ | assumption | refine Below.drew ?_ | refine Below.alloc ?_ (by first | exact Nat.le_refl _ | (simp; done) | omega | (simp; omega)) _ | refine Below.setCell ?_ (by first | exact Nat.le_refl _ | (simp; done) | omega | (simp; omega)) _)⟩
theorem l04Letter_any (c : UInt8) (hc : letB c = true) (w : World) : Calls Try.prog 54 #[.int .u8 (c.toNat : Int)] w (Ret (.int .i64 ((c.toNat : Int) - 97)) w) := by
  obtain ⟨h0, h1⟩ := letB_num hc
  clear hc
  go_enter Try.func54, Try.ntmps54
  go_wp2
  go_ret
  exact ⟨ret_int (by omega), by (repeat first | exact Below.refl _ _ | assumption | refine Below.drew ?_ | refine Below.alloc ?_ (by first | exact Nat.le_refl _ | (simp; done) | omega | (simp; omega)) _ | refine Below.setCell ?_ (by first | exact Nat.le_refl _ | (simp; done) | omega | (simp; omega)) _)⟩
end Go.Proofs.Ytikhjoianbndhaa
