/-
  Sizes of rules and of factors: the plain part of the laws' helpers.
-/
import Derived.Test.YtikhjoianbndhaaOwn
namespace Go.Proofs.Ytikhjoianbndhaa
open Go.RowKit

def szFac (left : Int) (f : Fac) : Int := if left < f.l.size then -1 else left - f.l.size

/-- the rest of the loop -/
def szFacs : Int → List Fac → Int
  | left, [] => left
  | left, f :: r => if szFac left f < 0 then -1 else szFacs (szFac left f) r
def szFacAll (left : Int) (fs : List Fac) : Int := if left < fs.length then -1 else szFacs (left - fs.length) fs

theorem szFac_le (left : Int) (f : Fac) (h0 : 0 ≤ left) (h1 : left ≤ 1048576) : szFac left f ≤ 1048576 := by unfold szFac; split <;> omega
theorem eq_fac (f g : Fac) : decide (f = g) = (decide (f.l = g.l) && (decide (f.a = g.a) && decide (f.b = g.b))) := by
  cases f; cases g; simp
def eqFacs : List Fac → List Fac → Bool
  | x :: r, y :: s => decide (x = y) && eqFacs r s
  | _, _ => true
theorem eqFacs_eq : ∀ (a b : List Fac), a.length = b.length → eqFacs a b = decide (a = b)
  | [], [], _ => rfl
  | x :: r, y :: s, h => by
    rw [eqFacs, eqFacs_eq r s (by simpa using h)]
    by_cases h1 : x = y <;> by_cases h2 : r = s <;> simp [h1, h2]

theorem szFacs_le : ∀ (fs : List Fac) (left : Int), 0 ≤ left → szFacs left fs ≤ left
  | [], left, _ => Int.le_refl _
  | f :: r, left, h => by
    unfold szFacs
    split
    · omega
    · have := szFacs_le r (szFac left f) (by omega)
      have h2 : szFac left f ≤ left := by unfold szFac; split <;> omega
      omega
theorem szFacAll_le (left : Int) (fs : List Fac) (h : 0 ≤ left) : szFacAll left fs ≤ left := by
  unfold szFacAll
  split
  · omega
  · have := szFacs_le fs (left - fs.length) (by omega); omega
theorem szFacAll_len (left : Int) (fs : List Fac) (h0 : 0 ≤ szFacAll left fs) : (fs.length : Int) ≤ left := by
  unfold szFacAll at h0
  split at h0 <;> omega

theorem fac_len (f : Fac) : f.cells.length = 3 := rfl
/-- one element more of a block that is being filled -/
theorem fill3 {cs : Array Value} {n k : Nat} {fs : List Fac} {x : Fac} (hs : cs.size = n * 3) (hk : k < n) (hx : fs[k]? = some x)
    (hc : ∀ i y, i < k → fs[i]? = some y → ∀ j, j < 3 → cs[i * 3 + j]? = y.cells[j]?) :
    ((((cs.setIfInBounds (k * 3) (.string x.l)).setIfInBounds (k * 3 + 1) (.int .i64 x.a)).setIfInBounds (k * 3 + 2) (.int .i64 x.b)).size = n * 3) ∧
    ∀ i y, i < k + 1 → fs[i]? = some y → ∀ j, j < 3 → (((cs.setIfInBounds (k * 3) (.string x.l)).setIfInBounds (k * 3 + 1) (.int .i64 x.a)).setIfInBounds (k * 3 + 2) (.int .i64 x.b))[i * 3 + j]? = y.cells[j]? := by
  refine ⟨by simpa using hs, fun i y hi hy j hj => ?_⟩
  by_cases he : i = k
  · subst he
    obtain rfl : x = y := by rw [hx] at hy; exact Option.some.inj hy
    rcases j with _ | _ | _ | j
    · simp [Array.getElem?_setIfInBounds, Fac.cells]; omega
    · simp [Array.getElem?_setIfInBounds, Fac.cells]; omega
    · simp [Array.getElem?_setIfInBounds, Fac.cells]; omega
    · omega
  · rw [Array.getElem?_setIfInBounds_ne (by omega), Array.getElem?_setIfInBounds_ne (by omega), Array.getElem?_setIfInBounds_ne (by omega)]
    exact hc i y (by omega) hy j hj

end Go.Proofs.Ytikhjoianbndhaa
