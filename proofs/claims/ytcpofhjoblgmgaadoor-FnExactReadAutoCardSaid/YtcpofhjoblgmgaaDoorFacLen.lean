
/-
  The length of the word of factors, in the program and in the reference.
-/
import Derived.Test.YtcpofhjoblgmgaaDoorLet
namespace Go.Proofs.YtcpofhjoblgmgaaDoor
open Go.RowKit

/-- one factor more -/
def facStep (total : Int) (f : Fac) : Option Int :=
  if f.l.size = 0 then (if 0 ≤ f.a ∧ f.a ≤ total ∧ 1 ≤ f.b ∧ f.b ≤ total - f.a ∧ total + f.b ≤ 1000000000000000 then some (total + f.b) else none)
  else if letT f.l = true ∧ f.a = 0 ∧ f.b = 0 ∧ total + 1 ≤ 1000000000000000 then some (total + 1) else none
def facLen : List Fac → Int → Option Int
  | [], t => some t
  | f :: r, t => (facStep t f).bind (facLen r)
def facTotal (fs : List Fac) : Option Int := if 120 < fs.length then none else facLen fs 0
def optTuple : Option Int → Value
  | none => .tuple #[.int .i64 0, .bool false]
  | some n => .tuple #[.int .i64 n, .bool true]
theorem ret2_int {x : Option Int} {n : Int} {b : Bool} (h : optTuple x = .tuple #[.int .i64 n, .bool b]) : Ending.returned (.tuple #[.int .i64 n, .bool b]) = .returned (optTuple x) := by rw [h]

theorem facStep_none_a {t : Int} {f : Fac} (h : f.l.size = 0) (ha : inB f.a 0 t = false) : facStep t f = none := by
  unfold facStep; rw [if_pos h, if_neg (by simp [inB] at ha; omega)]
theorem facStep_none_b {t : Int} {f : Fac} (h : f.l.size = 0) (ha : inB f.b 1 (t - f.a) = false) : facStep t f = none := by
  unfold facStep; rw [if_pos h, if_neg (by simp [inB] at ha; omega)]
theorem facStep_none_c {t : Int} {f : Fac} (h : f.l.size = 0) (ha : 1000000000000000 < t + f.b) : facStep t f = none := by
  unfold facStep; rw [if_pos h, if_neg (by omega)]
theorem facStep_some {t : Int} {f : Fac} (h : f.l.size = 0) (ha : inB f.a 0 t = true) (hb : inB f.b 1 (t - f.a) = true) (hc : t + f.b ≤ 1000000000000000) : facStep t f = some (t + f.b) := by
  simp [inB] at ha hb
  unfold facStep; rw [if_pos h, if_pos (by omega)]
theorem facStep_let_none {t : Int} {f : Fac} (h : f.l.size ≠ 0) (ha : ¬ (letT f.l = true ∧ f.a = 0 ∧ f.b = 0 ∧ t + 1 ≤ 1000000000000000)) : facStep t f = none := by
  unfold facStep; rw [if_neg h, if_neg ha]
theorem facStep_let {t : Int} {f : Fac} (h : f.l.size ≠ 0) (ha : letT f.l = true ∧ f.a = 0 ∧ f.b = 0 ∧ t + 1 ≤ 1000000000000000) : facStep t f = some (t + 1) := by
  unfold facStep; rw [if_neg h, if_pos ha]
end Go.Proofs.YtcpofhjoblgmgaaDoor
