/-
  ScatteredParts on both sides: what is told, with rows of no width where there is no table.
-/
import Derived.Test.YtkknhpailohjcaaScat
namespace Go.Proofs.Ytkknhpailohjcaa
open Go.RowKit

def scW (rs : List Fac) (s : ByteArray) (m : Int) : Nat := if scCode rs s m = 0 then s.size + 1 else 0
theorem scW_le (rs : List Fac) (s : ByteArray) (m : Int) : scW rs s m ≤ 9 := by
  unfold scW
  rcases scCode_cases rs s m with ⟨_, h⟩ | ⟨_, _, h⟩ | ⟨_, _, _, h⟩ | ⟨_, _, _, _, h⟩ | ⟨_, _, _, h8, h⟩
  · rw [if_neg (by omega)]; omega
  · rw [if_neg (by omega)]; omega
  · rw [if_neg (by omega)]; omega
  · rw [if_neg (by omega)]; omega
  · rw [if_pos h]; omega
theorem scLen_le (rs : List Fac) (s : ByteArray) (m : Int) : scLen rs s m ≤ 9 := by
  have := scW_le rs s m
  unfold scLen
  unfold scW at this
  exact this
abbrev scwT (rs : List Fac) (s : ByteArray) (m : Int) : List (List Int) := tabL (s.size + 1) (scTop rs s m)
theorem retScat_w {rs : List Fac} {s : ByteArray} {m : Int} {w w' : World} {e : Ending} (h : RetScat rs s m w e w') : RetTabC w (scLen rs s m) (scW rs s m) (scwT rs s m) (scCode rs s m) e w' := by
  obtain ⟨A, c, gs, he, hT, hb⟩ := h
  refine ⟨A, c, gs, he, ?_, hb⟩
  by_cases h0 : scCode rs s m = 0
  · have e1 : scW rs s m = s.size + 1 := by unfold scW; rw [if_pos h0]
    rw [e1]; exact hT
  · have e1 : scLen rs s m = 0 := by unfold scLen; rw [if_neg h0]
    rw [e1] at hT ⊢
    obtain ⟨o, lg, r, m, d⟩ := hT
    obtain rfl : gs = [] := List.eq_nil_of_length_eq_zero lg
    exact ⟨o, rfl, fun i g hg => by simp at hg, fun i hi => absurd hi (by omega), fun i j g hg => by simp at hg⟩
theorem specScatW_any (A : Option Addr) (n c : Nat) (rs : List Fac) (s : ByteArray) (m : Int) (w : World) (hn : n ≤ 1048576) (hr : Rd w w.heap.size A n 3 Fac.cells rs) (hok : ∀ f ∈ rs, f.l.size ≤ maxLen) (hs : s.size ≤ maxLen) (hm : -9223372036854775808 ≤ m ∧ m ≤ 9223372036854775807) :
    Calls Try.prog 18 #[.agg #[.slice A n c], .string s, .int .i64 m] w (RetTabC w (scLen rs s m) (scW rs s m) (scwT rs s m) (scCode rs s m)) :=
  (specScatP_any A n c rs s m w hn hr hok hs hm).mono fun _ _ h => retScat_w h
theorem implScatW_any (A : Option Addr) (n c : Nat) (rs : List Fac) (s : ByteArray) (m : Int) (w : World) (hn : n ≤ 1048576) (hr : Rd w w.heap.size A n 3 Fac.cells rs) (hok : ∀ f ∈ rs, f.l.size ≤ maxLen) (hs : s.size ≤ maxLen) (hm : -9223372036854775808 ≤ m ∧ m ≤ 9223372036854775807) :
    Calls Try.prog 19 #[.agg #[.slice A n c], .string s, .int .i64 m] w (RetTabC w (scLen rs s m) (scW rs s m) (scwT rs s m) (scCode rs s m)) :=
  (implScatP_any A n c rs s m w hn hr hok hs hm).mono fun _ _ h => retScat_w h
end Go.Proofs.Ytkknhpailohjcaa
