/-
  The grammar of a plain word in the program.
-/
import Derived.Test.YtikhjoianbndhaaPlainI
import Derived.Deep.RegionLaw
import Derived.Deep.DeepCutAuto
namespace Go.Proofs.Ytikhjoianbndhaa
open Go.RowKit

/-- a slice of the call's own that is the beginning of one which is appended to -/
theorem own_prefix {W W' : World} {base E sz k n c0 c : Nat} {A0 A : Option Addr} {xs0 ys : List Value} (hsz : 0 < sz) (hL : W.ownsRow base E sz (.slice A0 k c0) k xs0) (hA : W.ownsRow base E sz (.slice A n c) n (xs0 ++ ys))
    (hA' : W'.ownsRow base E sz (.slice A n c) n (xs0 ++ ys)) (hg : W.grownBy W' (Value.slice A n c).ownBlock) : W'.ownsRow base E sz (.slice A0 k c0) k xs0 := by
  rcases hL.2 with ⟨hnil, hk⟩ | ⟨g0, cap0, cur0, hv0, hb0, hh0, hk0, hm0, hs0, ht0⟩
  · rw [hnil] at hL ⊢
    exact ⟨hL.1, .inl ⟨rfl, hk⟩⟩
  · by_cases hne : (Value.slice A n c).ownBlock = some g0
    · rcases hA'.2 with ⟨hnil, _⟩ | ⟨g1, cap1, cur1, hv1, hb1, hh1, hk1, hm1, hs1, ht1⟩
      · rw [hnil] at hne; cases hne
      · rcases hA.2 with ⟨hnil, _⟩ | ⟨g2, cap2, cur2, hv2, hb2, hh2, hk2, hm2, hs2, ht2⟩
        · rw [hnil] at hne; cases hne
        · rw [hv1] at hne
          have e1 : g1 = g0 := by simpa [Value.ownBlock] using hne
          have e2 : g1 = g2 ∧ cap1 = cap2 := by
            rw [hv1] at hv2; injection hv2 with q1 q2 q3; injection q1 with q1; injection q1 with q1; exact ⟨q1, q3⟩
          obtain ⟨e2, e3⟩ := e2
          subst e1 e2 e3
          have ec : cur0 = cur2 := by
            rw [hh0] at hh2; injection hh2 with q; injection q with q
          subst ec
          have ecap : cap0 = cap1 := by
            have := hs0.symm.trans hs2
            exact Nat.eq_of_mul_eq_mul_right hsz this
          subst ecap
          refine ⟨hL.1, .inr ⟨g1, cap0, cur1, hv0, hb0, hh1, hk0, hm0, hs1, ?_⟩⟩
          have hkn : k * sz ≤ n * sz := by
            have h1 := hA.1
            have h2 := hL.1
            rw [List.length_append] at h1; omega
          have e5 : cur1.toList.take (k * sz) = (cur1.toList.take (n * sz)).take (k * sz) := by rw [List.take_take, Nat.min_eq_left hkn]
          rw [e5, ht1, ← hL.1]
          exact List.take_left
    · refine hL.kept hg (.inr ?_)
      rw [hv0]
      intro e; exact hne e.symm

/-- the letters up to one -/
def ksT (w : List UInt8) (c : Int) : List UInt8 := [97, 98, 99, 100].filter (fun u => decide (u ∈ w) && decide ((u.toNat : Int) < c))
theorem ksT_first (w : List UInt8) : ksT w 97 = [] := by simp [ksT]
theorem ksT_last (w : List UInt8) : ksT w 101 = ksP w := by
  unfold ksT ksP
  apply List.filter_congr
  intro u hu
  have : (u.toNat : Int) < 101 := by
    simp only [List.mem_cons, List.not_mem_nil, or_false] at hu
    rcases hu with rfl | rfl | rfl | rfl <;> decide
  simp [this]
theorem ksT_step (w : List UInt8) (u : UInt8) (h : letB u = true) : ksT w ((u.toNat : Int) + 1) = if u ∈ w then ksT w u.toNat ++ [u] else ksT w u.toNat := by
  have h : (97 : Int) ≤ u.toNat ∧ (u.toNat : Int) ≤ 100 := by simpa [letB] using h
  have h4 : u = 97 ∨ u = 98 ∨ u = 99 ∨ u = 100 := by
    simp only [← UInt8.toNat_inj]
    have : u.toNat = 97 ∨ u.toNat = 98 ∨ u.toNat = 99 ∨ u.toNat = 100 := by omega
    exact this
  unfold ksT
  rcases h4 with rfl | rfl | rfl | rfl
  all_goals
    by_cases h1 : (97 : UInt8) ∈ w <;> by_cases h2 : (98 : UInt8) ∈ w <;> by_cases h3 : (99 : UInt8) ∈ w <;> by_cases h4 : (100 : UInt8) ∈ w <;> simp [h1, h2, h3, h4]
theorem ksT_le (w : List UInt8) (c : Int) : (ksT w c).length ≤ 4 := by
  unfold ksT; exact Nat.le_trans (List.length_filter_le _ _) (by simp)

theorem okW_at {s : ByteArray} (h : okW s = true) {i : Nat} (hi : i < s.size) : letB s[i] = true := by
  unfold okW at h
  simp only [Bool.and_eq_true, List.all_eq_true] at h
  exact h.2 _ (List.mem_of_getElem? (at_byte s i hi))
theorem okW_size {s : ByteArray} (h : okW s = true) : s.size ≤ 2000 := by
  unfold okW at h
  simp only [Bool.and_eq_true, decide_eq_true_eq] at h
  exact h.1
end Go.Proofs.Ytikhjoianbndhaa
