
/-
  Rules and lengths in the reference.
-/
import Derived.Test.YtcpofhjoblgmgaaDoorGram
namespace Go.Proofs.YtcpofhjoblgmgaaDoor
open Go.RowKit

theorem specIn_any (n lo hi : Int) (b : Bool) (w : World) (hb : inB n lo hi = b) :
    Calls Tryd.prog 24 #[.int .i64 n, .int .i64 lo, .int .i64 hi] w (Ret (.bool b) w) := by
  by_cases h1 : lo ≤ n
  · by_cases h2 : n ≤ hi
    all_goals
      have e := Lib.hid (show inB n lo hi = decide (n ≤ hi) by simp [inB, h1])
      have Hb := Lib.hid hb; clear hb
      go_enter Tryd.func24, Tryd.ntmps24
      go_wp2
      go_ret
      exact ⟨ret_bool (by rw [← Hb.out, e.out]; simp; omega), Below.refl _ _⟩
  · have e := Lib.hid (show inB n lo hi = false by simp [inB, h1])
    have Hb := Lib.hid hb; clear hb
    go_enter Tryd.func24, Tryd.ntmps24
    go_wp2
    go_ret
    exact ⟨ret_bool (by rw [← Hb.out, e.out]), Below.refl _ _⟩
/-- is a rule right at a place? -/
def gRight (x : Fac) (k : Int) : Bool := if x.l.size = 0 then inB x.a 0 (k - 1) && inB x.b 0 (k - 1) else letT x.l && decide (x.a = 0) && decide (x.b = 0)
theorem gRight_no {out : List Int} {x : Fac} (h : gRight x out.length = false) : gStep out x = none := by
  unfold gRight at h
  split at h
  · rename_i h0
    by_cases ha : inB x.a 0 ((out.length : Int) - 1) = true
    · exact gStep_no_b h0 (by simpa [ha] using h)
    · exact gStep_no_a h0 (by simpa using ha)
  · rename_i h0
    exact gStep_no_l h0 (fun q => by simp [q.1, q.2.1, q.2.2] at h)
theorem gRight_pair {out : List Int} {x : Fac} (h0 : x.l.size = 0) (h : gRight x out.length = true) : inB x.a 0 ((out.length : Int) - 1) = true ∧ inB x.b 0 ((out.length : Int) - 1) = true := by
  unfold gRight at h
  rw [if_pos h0] at h
  simpa using h
theorem gRight_let {out : List Int} {x : Fac} (h0 : x.l.size ≠ 0) (h : gRight x out.length = true) : gStep out x = some 1 := by
  unfold gRight at h
  rw [if_neg h0] at h
  exact gStep_let h0 (by simpa [and_assoc] using h)

/-- what 'l02Sizes' leaves -/
def SizesPost (rs : List Fac) (w : World) (e : Ending) (w' : World) : Prop :=
  Below w.heap.size w w' ∧ ((∃ ls A c, gLens rs [] = some ls ∧ e = .returned (.tuple #[.slice A ls.length c, .bool true]) ∧ w'.ownsRow w.heap.size 2 1 (.slice A ls.length c) ls.length (ls.flatMap intE)) ∨
    (gLens rs [] = none ∧ ∃ A n c, e = .returned (.tuple #[.slice A n c, .bool false])))
theorem SizesPost.no {rs : List Fac} {w w' : World} {A : Option Addr} {n c : Nat} (h : gLens rs [] = none) (hb : Below w.heap.size w w') : SizesPost rs w (.returned (.tuple #[.slice A n c, .bool false])) w' :=
  ⟨hb, .inr ⟨h, A, n, c, rfl⟩⟩
end Go.Proofs.YtcpofhjoblgmgaaDoor
