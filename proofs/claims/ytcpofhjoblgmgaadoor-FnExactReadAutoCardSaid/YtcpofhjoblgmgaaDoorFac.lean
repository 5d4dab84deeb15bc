
/-
  What the helpers on lists of factors do: sizes, copies and equality.
-/
import Derived.Test.YtcpofhjoblgmgaaDoorBase
namespace Go.Proofs.YtcpofhjoblgmgaaDoor
open Go.RowKit

def szFac (left : Int) (f : Fac) : Int := if left < f.l.size then -1 else left - f.l.size

/-- the rest of the loop -/
def szFacs : Int → List Fac → Int
  | left, [] => left
  | left, f :: r => if szFac left f < 0 then -1 else szFacs (szFac left f) r
def szFacAll (left : Int) (fs : List Fac) : Int := if left < fs.length then -1 else szFacs (left - fs.length) fs

theorem szFac_le (left : Int) (f : Fac) (h0 : 0 ≤ left) (h1 : left ≤ 1048576) : szFac left f ≤ 1048576 := by unfold szFac; split <;> omega
theorem eq_fac (f g : Fac) : decide (f = g) = (decide (f.l = g.l) && (decide (f.a = g.a) && decide (f.b = g.b))) := by
  cases f; cases g; simp
def eqFacs : List Fac → List Fac → Bool
  | x :: r, y :: s => decide (x = y) && eqFacs r s
  | _, _ => true
theorem eqFacs_eq : ∀ (a b : List Fac), a.length = b.length → eqFacs a b = decide (a = b)
  | [], [], _ => rfl
  | x :: r, y :: s, h => by
    rw [eqFacs, eqFacs_eq r s (by simpa using h)]
    by_cases h1 : x = y <;> by_cases h2 : r = s <;> simp [h1, h2]

theorem szFacs_le : ∀ (fs : List Fac) (left : Int), 0 ≤ left → szFacs left fs ≤ left
  | [], left, _ => Int.le_refl _
  | f :: r, left, h => by
    unfold szFacs
    split
    · omega
    · have := szFacs_le r (szFac left f) (by omega)
      have h2 : szFac left f ≤ left := by unfold szFac; split <;> omega
      omega
theorem szFacAll_le (left : Int) (fs : List Fac) (h : 0 ≤ left) : szFacAll left fs ≤ left := by
  unfold szFacAll
  split
  · omega
  · have := szFacs_le fs (left - fs.length) (by omega); omega
theorem szFacAll_len (left : Int) (fs : List Fac) (h0 : 0 ≤ szFacAll left fs) : (fs.length : Int) ≤ left := by
  unfold szFacAll at h0
  split at h0 <;> omega

end Go.Proofs.YtcpofhjoblgmgaaDoor
