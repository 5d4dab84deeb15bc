/-
  Sums over the rules that are met for a beginning of the word.
-/
import Derived.Test.YtchlipklmdlklaaPieces
namespace Go.Proofs.Ytchlipklmdlklaa
open Go.RowKit

/-- the sum of values for the first letters of a rule's word -/
def rk (v : Nat → Int) (ls : List Int) (rs : List Fac) : Nat → Nat → Int → Int
  | 0, _, _ => 0
  | f + 1, r, m =>
    if m ≤ 0 then 0 else if ls.getD r 0 ≤ m then v r else
    match rs[r]? with
    | none => 0
    | some x => rk v ls rs f x.a.toNat m + rk v ls rs f x.b.toNat (m - ls.getD x.a.toNat 0)
section
variable {v : Nat → Int} {ls : List Int} {rs : List Fac}
theorem rk_zero {f r : Nat} {m : Int} (h : m ≤ 0) : rk v ls rs f r m = 0 := by
  cases f with
  | zero => rfl
  | succ f => rw [rk, if_pos h]
theorem rk_full {f r : Nat} {m : Int} (hf : r < f) (h0 : 0 < m) (h : ls.getD r 0 ≤ m) : rk v ls rs f r m = v r := by
  obtain ⟨g, rfl⟩ : ∃ g, f = g + 1 := ⟨f - 1, by omega⟩
  rw [rk, if_neg (by omega), if_pos h]
theorem rk_go {f r : Nat} {m : Int} {x : Fac} (hf : r < f) (h0 : 0 < m) (h : m < ls.getD r 0) (hx : rs[r]? = some x) : rk v ls rs f r m = rk v ls rs (f - 1) x.a.toNat m + rk v ls rs (f - 1) x.b.toNat (m - ls.getD x.a.toNat 0) := by
  obtain ⟨g, rfl⟩ : ∃ g, f = g + 1 := ⟨f - 1, by omega⟩
  rw [rk, if_neg (by omega), if_neg (by omega), hx]
  rfl
def sumL (v : Nat → Int) : List Nat → Int
  | [] => 0
  | k :: r => v k + sumL v r
theorem sumL_app (v : Nat → Int) : ∀ a b : List Nat, sumL v (a ++ b) = sumL v a + sumL v b
  | [], b => by simp [sumL]
  | k :: r, b => by simp only [List.cons_append, sumL, sumL_app v r b]; omega
theorem pcs_sum (hls : gLens rs [] = some ls) (j : Int) : ∀ (f r : Nat) (a : Int), r < rs.length → 0 ≤ a → sumL v (pcs ls rs 0 j f r a) = rk v ls rs f r (j - a)
  | 0, _, _, _, _ => rfl
  | f + 1, r, a, hr, ha => by
    have lb := lens_bound hls hr
    rw [pcs, rk, if_neg (show ¬ a + ls.getD r 0 ≤ 0 by omega)]
    by_cases h2 : j ≤ a
    · rw [if_pos h2, if_pos (show j - a ≤ 0 by omega)]; rfl
    rw [if_neg h2, if_neg (show ¬ j - a ≤ 0 by omega)]
    by_cases h3 : a + ls.getD r 0 ≤ j
    · rw [if_pos (show 0 ≤ a ∧ a + ls.getD r 0 ≤ j from ⟨ha, h3⟩), if_pos (show ls.getD r 0 ≤ j - a by omega)]; simp [sumL]
    rw [if_neg (show ¬ (0 ≤ a ∧ a + ls.getD r 0 ≤ j) from fun h => h3 h.2), if_neg (show ¬ ls.getD r 0 ≤ j - a by omega)]
    have hx : rs[r]? = some (rs[r]'hr) := List.getElem?_eq_getElem _
    rw [hx]
    generalize rs[r]'hr = x at *
    have hab : x.a.toNat < rs.length ∧ x.b.toNat < rs.length := by
      rcases wf_of hls r x hx with ⟨_, h4, h5, h6, h7⟩ | ⟨_, _, _, h5, h6⟩
      · omega
      · rw [h5, h6]; show 0 < _ ∧ 0 < _; omega
    have lb2 := lens_bound hls hab.1
    show sumL v (pcs ls rs 0 j f x.a.toNat a ++ pcs ls rs 0 j f x.b.toNat (a + ls.getD x.a.toNat 0)) = _
    rw [sumL_app, pcs_sum hls j f _ a hab.1 ha, pcs_sum hls j f _ _ hab.2 (by omega), show j - (a + ls.getD x.a.toNat 0) = j - a - ls.getD x.a.toNat 0 by omega]
theorem rk_fuel (hls : gLens rs [] = some ls) : ∀ {r f g : Nat} {m : Int}, r < f → r < g → r < rs.length → rk v ls rs f r m = rk v ls rs g r m := by
  intro r
  induction r using Nat.strongRecOn with
  | ind r ih =>
    intro f g m hf hg hr
    by_cases h0 : m ≤ 0
    · rw [rk_zero h0, rk_zero h0]
    by_cases h1 : ls.getD r 0 ≤ m
    · rw [rk_full hf (by omega) h1, rk_full hg (by omega) h1]
    have hx : rs[r]? = some (rs[r]'hr) := List.getElem?_eq_getElem _
    generalize rs[r]'hr = x at *
    rcases wf_of hls r x hx with ⟨_, ha0, ha1, hb0, hb1⟩ | ⟨cc, _, hxl, _⟩
    · rw [rk_go hf (by omega) (by omega) hx, rk_go hg (by omega) (by omega) hx, ih x.a.toNat (by omega) (f := f - 1) (g := g - 1) (by omega) (by omega) (by omega), ih x.b.toNat (by omega) (f := f - 1) (g := g - 1) (by omega) (by omega) (by omega)]
    · exfalso
      have := lens_let hls hx (show x.l.size ≠ 0 by rw [hxl]; show (1 : Nat) ≠ 0; omega)
      omega
/-- between 0 and the length, where each value is -/
theorem rk_bound (hls : gLens rs [] = some ls) {c : Int} (hc : 0 ≤ c) (hv : ∀ k, k < rs.length → -(c * ls.getD k 0) ≤ v k ∧ v k ≤ c * ls.getD k 0) : ∀ (f r : Nat) (m : Int), r < rs.length → 0 ≤ m → -(c * m) ≤ rk v ls rs f r m ∧ rk v ls rs f r m ≤ c * m
  | 0, r, m, _, hm => by
    have := Int.mul_nonneg hc hm
    exact ⟨by show _ ≤ (0 : Int); omega, by show (0 : Int) ≤ _; omega⟩
  | f + 1, r, m, hr, hm => by
    have hcm := Int.mul_nonneg hc hm
    rw [rk]
    by_cases h0 : m ≤ 0
    · rw [if_pos h0]; omega
    rw [if_neg h0]
    by_cases h1 : ls.getD r 0 ≤ m
    · rw [if_pos h1]
      have := hv r hr
      have := Int.mul_le_mul_of_nonneg_left h1 hc
      omega
    rw [if_neg h1]
    have hx : rs[r]? = some (rs[r]'hr) := List.getElem?_eq_getElem _
    rw [hx]
    generalize rs[r]'hr = x at *
    have hab : x.a.toNat < rs.length ∧ x.b.toNat < rs.length := by
      rcases wf_of hls r x hx with ⟨_, h4, h5, h6, h7⟩ | ⟨_, _, _, h5, h6⟩
      · omega
      · rw [h5, h6]; show 0 < _ ∧ 0 < _; omega
    have lb2 := lens_bound hls hab.1
    show -(c * m) ≤ rk v ls rs f x.a.toNat m + rk v ls rs f x.b.toNat (m - ls.getD x.a.toNat 0) ∧ rk v ls rs f x.a.toNat m + rk v ls rs f x.b.toNat (m - ls.getD x.a.toNat 0) ≤ c * m
    by_cases h2 : m ≤ ls.getD x.a.toNat 0
    · rw [rk_zero (r := x.b.toNat) (show m - ls.getD x.a.toNat 0 ≤ 0 by omega)]
      have := rk_bound hls hc hv f x.a.toNat m hab.1 hm
      omega
    · have e1 : f = 0 ∨ rk v ls rs f x.a.toNat m = v x.a.toNat := by
        cases f with
        | zero => exact Or.inl rfl
        | succ f => right; rw [rk, if_neg h0, if_pos (by omega)]
      rcases e1 with e1 | e1
      · subst e1
        show -(c * m) ≤ (0 : Int) + 0 ∧ (0 : Int) + 0 ≤ c * m
        omega
      · rw [e1]
        have a1 := hv x.a.toNat hab.1
        have a2 := rk_bound hls hc hv f x.b.toNat (m - ls.getD x.a.toNat 0) hab.2 (by omega)
        rw [Int.mul_sub] at a2
        omega
end
theorem wrap_add (a b : Int) : wrap64 (wrap64 a + b) = wrap64 (a + b) := by unfold wrap64; omega
theorem wrap_in {a : Int} (h0 : -9223372036854775808 ≤ a) (h1 : a ≤ 9223372036854775807) : wrap64 a = a := by unfold wrap64; omega
theorem fold_wrap (v : Nat → Int) : ∀ (l : List Nat) (s : Int), -9223372036854775808 ≤ s → s ≤ 9223372036854775807 → l.foldl (fun s k => wrap64 (s + v k)) s = wrap64 (s + sumL v l)
  | [], s, h0, h1 => by simp only [List.foldl_nil, sumL, Int.add_zero]; rw [wrap_in h0 h1]
  | k :: r, s, h0, h1 => by
    rw [List.foldl_cons, fold_wrap v r _ (by unfold wrap64; omega) (by unfold wrap64; omega), wrap_add, sumL, Int.add_assoc]
/-- the whole sum -/
def rkT (v : Nat → Int) (ls : List Int) (rs : List Fac) (m : Int) : Int := if rs.length = 0 then 0 else rk v ls rs rs.length (rs.length - 1) m
theorem pcsT_sum {v : Nat → Int} {ls : List Int} {rs : List Fac} (hls : gLens rs [] = some ls) {m : Int} (hm : 0 ≤ m) : sumL v (pcsT ls rs 0 m) = rkT v ls rs m := by
  unfold pcsT rkT
  by_cases h0 : rs.length = 0
  · rw [if_neg (by omega), if_pos h0]; rfl
  rw [if_neg h0]
  by_cases h1 : 0 < m
  · rw [if_pos (by omega), pcs_sum hls m rs.length _ 0 (by omega) (by omega), Int.sub_zero]
  · rw [if_neg (by omega), rk_zero (by omega)]; rfl
theorem fold_pcsT {v : Nat → Int} {ls : List Int} {rs : List Fac} (hls : gLens rs [] = some ls) {m : Int} (hm : 0 ≤ m) {c : Int} (hc : 0 ≤ c) (hv : ∀ k, k < rs.length → -(c * ls.getD k 0) ≤ v k ∧ v k ≤ c * ls.getD k 0) (hb : c * m ≤ 9000000000000000000) :
    (pcsT ls rs 0 m).foldl (fun s k => wrap64 (s + v k)) 0 = rkT v ls rs m := by
  have h : -(c * m) ≤ rkT v ls rs m ∧ rkT v ls rs m ≤ c * m := by
    have := Int.mul_nonneg hc hm
    unfold rkT
    by_cases h0 : rs.length = 0
    · rw [if_pos h0]; omega
    · rw [if_neg h0]; exact rk_bound hls hc hv _ _ _ (by omega) hm
  rw [fold_wrap v _ 0 (by omega) (by omega), pcsT_sum hls hm, Int.zero_add, wrap_in (by omega) (by omega)]
end Go.Proofs.Ytchlipklmdlklaa
