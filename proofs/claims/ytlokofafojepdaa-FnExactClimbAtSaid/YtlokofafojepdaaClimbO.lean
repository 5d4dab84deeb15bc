/-
  ClimbOf in the program and in the reference; climbs compared.
-/
import Derived.Test.YtlokofafojepdaaWs
import Derived.Deep.RegionWith
namespace Go.Proofs.Ytlokofafojepdaa
open Go.RowKit

def Cl.w (x : Cl) (k : Int) : Value := .tuple #[x.v, .int .i64 k]
def cloT (rs : List Fac) (ws : List Int) : Cl := if wsC rs ws = 0 then climT ws rs else Cl.nil
theorem wsC_cases (rs : List Fac) (ws : List Int) : (wsC rs ws ≠ 0 ∧ cloT rs ws = Cl.nil) ∨ (wsC rs ws = 0 ∧ (gOk rs).isSome = true ∧ WsOk ws ∧ cloT rs ws = climT ws rs) := by
  by_cases h : wsC rs ws = 0
  · refine Or.inr ⟨h, ?_, ?_, if_pos h⟩
    · unfold wsC at h
      by_cases h1 : (gOk rs).isSome = false
      · rw [if_pos h1] at h; omega
      · simpa only [Bool.not_eq_false] using h1
    · refine wsB_ok ?_
      unfold wsC at h
      by_cases h1 : (gOk rs).isSome = false
      · rw [if_pos h1] at h; omega
      · rw [if_neg h1] at h
        by_cases h2 : wsB ws = false
        · rw [if_pos h2] at h; omega
        · simpa only [Bool.not_eq_false] using h2
  · exact Or.inl ⟨h, if_neg h⟩

def cloV (rs : List Fac) (ws : List Int) : Value := (cloT rs ws).w (wsC rs ws)
theorem cloV_form (rs : List Fac) (ws : List Int) : ∃ t l h k, cloV rs ws = .tuple #[.agg #[.int .i64 t, .int .i64 l, .int .i64 h], .int .i64 k] := ⟨_, _, _, _, rfl⟩
end Go.Proofs.Ytlokofafojepdaa
