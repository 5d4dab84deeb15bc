/-
  The least places at which a word is scattered: the model.
-/
import Derived.Test.YtchlipklmdlklaaSel
import Derived.Test.YtchlipklmdlklaaRankS
namespace Go.Proofs.Ytchlipklmdlklaa
open Go.RowKit

theorem rk_nonneg {v : Nat → Int} {ls : List Int} {rs : List Fac} (hls : gLens rs [] = some ls) (hv : ∀ k, k < rs.length → 0 ≤ v k) : ∀ (f r : Nat) (m : Int), r < rs.length → 0 ≤ rk v ls rs f r m
  | 0, _, _, _ => Int.le_refl _
  | f + 1, r, m, hr => by
    rw [rk]
    by_cases h0 : m ≤ 0
    · rw [if_pos h0]; exact Int.le_refl _
    rw [if_neg h0]
    by_cases h1 : ls.getD r 0 ≤ m
    · rw [if_pos h1]; exact hv r hr
    rw [if_neg h1]
    have hx : rs[r]? = some (rs[r]'hr) := List.getElem?_eq_getElem _
    rw [hx]
    generalize rs[r]'hr = x at *
    have hab : x.a.toNat < rs.length ∧ x.b.toNat < rs.length := by
      rcases wf_of hls r x hx with ⟨_, h4, h5, h6, h7⟩ | ⟨_, _, _, h5, h6⟩
      · omega
      · rw [h5, h6]; show 0 < _ ∧ 0 < _; omega
    have a1 := rk_nonneg hls hv f x.a.toNat m hab.1
    have a2 := rk_nonneg hls hv f x.b.toNat (m - ls.getD x.a.toNat 0) hab.2
    show 0 ≤ rk v ls rs f x.a.toNat m + rk v ls rs f x.b.toNat (m - ls.getD x.a.toNat 0)
    omega
theorem rkV_nonneg {rs : List Fac} {ls : List Int} (hls : gLens rs [] = some ls) (l : Nat) : ∀ k, k < rs.length → 0 ≤ rkV rs l k := fun _ hk => ((cnt_bound hls hk).at_ l).1
theorem rkT_b {rs : List Fac} {ls : List Int} (hls : gLens rs [] = some ls) (l : Nat) {m : Int} (hm : 0 ≤ m) : 0 ≤ rkT (rkV rs l) ls rs m ∧ rkT (rkV rs l) ls rs m ≤ m := by
  unfold rkT
  by_cases h0 : rs.length = 0
  · rw [if_pos h0]; omega
  rw [if_neg h0]
  have a := rk_bound hls (c := 1) (by omega) (rkV_bound hls l) rs.length (rs.length - 1) m (by omega) hm
  exact ⟨rk_nonneg hls (rkV_nonneg hls l) _ _ _ (by omega), by omega⟩
theorem selGo_range {rs : List Fac} {ls : List Int} (hls : gLens rs [] = some ls) {l : Nat} (_hl : l < 4) : ∀ {r f : Nat} {k t : Int}, r < f → r < rs.length → 0 ≤ k → k < ((cnts rs).getD r Q4.nil).at_ l →
    t ≤ selGo (cnts rs) ls rs l f r k t ∧ selGo (cnts rs) ls rs l f r k t < t + ls.getD r 0 := by
  intro r
  induction r using Nat.strongRecOn with
  | ind r ih =>
    intro f k t hf hr h0 h1
    have hx : rs[r]? = some (rs[r]'hr) := List.getElem?_eq_getElem _
    generalize rs[r]'hr = x at *
    have lb := lens_bound hls hr
    by_cases hp : x.l.size = 0
    · rcases wf_of hls r x hx with ⟨_, ha0, ha1, hb0, hb1⟩ | ⟨_, _, hxl, _⟩
      · have e := full_pair Q4.nil cntF cntG (wf_of hls) hx hp
        have e2 : ((cnts rs).getD r Q4.nil).at_ l = ((cnts rs).getD x.a.toNat Q4.nil).at_ l + ((cnts rs).getD x.b.toNat Q4.nil).at_ l := by
          show ((full Q4.nil cntF cntG rs).getD r Q4.nil).at_ l = _
          rw [e, cntG_at]
        have lp := lens_pair hls hx hp
        have lb1 := lens_bound hls (i := x.a.toNat) (by omega)
        have lb2 := lens_bound hls (i := x.b.toNat) (by omega)
        rw [selGo_step hf hx hp]
        by_cases hk : k < ((cnts rs).getD x.a.toNat Q4.nil).at_ l
        · rw [if_pos hk]
          have := ih x.a.toNat (by omega) (f := f - 1) (k := k) (t := t) (by omega) (by omega) h0 hk
          omega
        · rw [if_neg hk]
          have := ih x.b.toNat (by omega) (f := f - 1) (k := k - ((cnts rs).getD x.a.toNat Q4.nil).at_ l) (t := t + ls.getD x.a.toNat 0) (by omega) (by omega) (by omega) (by omega)
          omega
      · rw [hxl] at hp; exact absurd hp (show ¬ (1 : Nat) = 0 by omega)
    · rw [selGo_stop hf hx hp]
      omega
/-- the place of a letter from some place on -/
def nextAt (rs : List Fac) (ls : List Int) (l : Nat) (nx : Int) : Int := selGo (cnts rs) ls rs l rs.length (rs.length - 1) (rkT (rkV rs l) ls rs nx) 0
def embGo (rs : List Fac) (ls : List Int) : List UInt8 → Int → List Int
  | [], _ => []
  | c :: r, nx => if (topQ rs).at_ (c.toNat - 97) ≤ rkT (rkV rs (c.toNat - 97)) ls rs nx then [] else nextAt rs ls (c.toNat - 97) nx :: embGo rs ls r (nextAt rs ls (c.toNat - 97) nx + 1)
theorem nextAt_b {rs : List Fac} {ls : List Int} (hls : gLens rs [] = some ls) (hll : ls.length = rs.length) {l : Nat} (hl : l < 4) {nx : Int} (hn : 0 ≤ nx) (h : ¬ (topQ rs).at_ l ≤ rkT (rkV rs l) ls rs nx) :
    0 ≤ nextAt rs ls l nx ∧ nextAt rs ls l nx + 1 ≤ lastI ls := by
  have hb := rkT_b hls l hn
  have hpos : 0 < rs.length := by
    rcases Nat.eq_zero_or_pos rs.length with h0 | h0
    · exfalso; apply h
      rw [show topQ rs = Q4.nil by unfold topQ; rw [if_pos h0]]
      have : Q4.nil.at_ l = 0 := by
        rcases (show l = 0 ∨ l = 1 ∨ l = 2 ∨ l = 3 by omega) with rfl | rfl | rfl | rfl <;> rfl
      omega
    · exact h0
  have e : topQ rs = (cnts rs).getD (rs.length - 1) Q4.nil := by unfold topQ; rw [if_neg (by omega)]
  rw [e] at h
  have := selGo_range hls hl (r := rs.length - 1) (f := rs.length) (t := 0) (by omega) (by omega) hb.1 (by omega)
  have e2 : lastI ls = ls.getD (rs.length - 1) 0 := by unfold lastI; rw [hll]
  rw [e2]
  unfold nextAt
  omega
def embAll (rs : List Fac) (ls : List Int) (p : ByteArray) : List Int := embGo rs ls p.data.toList 0
theorem embGo_len (rs : List Fac) (ls : List Int) : ∀ (p : List UInt8) (nx : Int), (embGo rs ls p nx).length ≤ p.length
  | [], _ => by simp [embGo]
  | c :: r, nx => by
    unfold embGo
    split
    · simp
    · have := embGo_len rs ls r (nextAt rs ls (c.toNat - 97) nx + 1)
      simp; omega
def embsV (rs : List Fac) (p : ByteArray) : Value := if (gOk rs).isSome = false then tup2 0 1 else if okW p = false then tup2 0 1 else tup2 ((embAll rs ((gLens rs []).getD []) p).length : Int) 0
theorem embsV_form (rs : List Fac) (p : ByteArray) : ∃ b k, embsV rs p = .tuple #[.int .i64 b, .int .i64 k] := by
  unfold embsV
  split
  · exact ⟨_, _, rfl⟩
  split
  · exact ⟨_, _, rfl⟩
  · exact ⟨_, _, rfl⟩
theorem embsV1 {rs : List Fac} {p : ByteArray} (h : (gOk rs).isSome = false) : embsV rs p = tup2 0 1 := by unfold embsV; rw [if_pos h]
theorem embsV2 {rs : List Fac} {p : ByteArray} (h : (gOk rs).isSome = true) (h2 : okW p = false) : embsV rs p = tup2 0 1 := by unfold embsV; rw [if_neg (by rw [h]; decide), if_pos h2]
theorem embsV3 {rs : List Fac} {ls : List Int} {p : ByteArray} (hls : gLens rs [] = some ls) (h : (gOk rs).isSome = true) (h2 : okW p = true) : embsV rs p = tup2 ((embAll rs ls p).length : Int) 0 := by
  unfold embsV; rw [if_neg (by rw [h]; decide), if_neg (by rw [h2]; decide), hls]; rfl
end Go.Proofs.Ytchlipklmdlklaa
