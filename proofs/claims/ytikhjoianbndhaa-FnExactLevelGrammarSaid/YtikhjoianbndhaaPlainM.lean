/-
  The grammar of a plain word: the plain part.
-/
import Derived.Test.YtikhjoianbndhaaGramL
namespace Go.Proofs.Ytikhjoianbndhaa

/-- the letters that a word has, in order -/
def ksP (w : List UInt8) : List UInt8 := [97, 98, 99, 100].filter (fun c => decide (c ∈ w))
def ruleC (c : UInt8) : Fac := ⟨⟨#[c]⟩, 0, 0⟩
def lettersP (w : List UInt8) : List Fac := (ksP w).map ruleC
/-- the place of a letter's rule -/
def atP (w : List UInt8) (c : UInt8) : Int := (((ksP w).idxOf c : Nat) : Int)
/-- the rules for the letters from the second on -/
def pairsP (w : List UInt8) : List UInt8 → Int → Nat → List Fac
  | [], _, _ => []
  | c :: cs, before, len => ⟨⟨#[]⟩, before, atP w c⟩ :: pairsP w cs (len : Int) (len + 1)
def plainL (w : List UInt8) : List Fac :=
  match w with
  | [] => []
  | c :: cs => lettersP w ++ pairsP w cs (atP w c) (ksP w).length
theorem pairsP_len (w : List UInt8) : ∀ (cs : List UInt8) (b : Int) (n : Nat), (pairsP w cs b n).length = cs.length
  | [], _, _ => rfl
  | _ :: cs, b, n => by simp [pairsP, pairsP_len w cs]
theorem ksP_len (w : List UInt8) : (ksP w).length ≤ 4 := by
  unfold ksP; exact Nat.le_trans (List.length_filter_le _ _) (by simp)
theorem plainL_len (w : List UInt8) : (plainL w).length ≤ w.length + 4 := by
  unfold plainL
  split
  · simp
  · rename_i c cs
    rw [List.length_append, pairsP_len]
    have := ksP_len (c :: cs)
    simp only [lettersP, List.length_map, List.length_cons]; omega
/-- the place of a rule in a list, or -1 -/
def ixR (f : Fac) : List Fac → Int → Int
  | [], _ => -1
  | x :: r, i => if f = x then i else ixR f r (i + 1)
theorem ixR_idx (f : Fac) : ∀ (xs : List Fac) (i : Int), f ∈ xs → ixR f xs i = i + (xs.idxOf f : Nat)
  | [], _, h => by simp at h
  | x :: r, i, h => by
    unfold ixR
    by_cases hx : f = x
    · subst hx; simp
    · have hx' : (x == f) = false := by simp; exact fun e => hx e.symm
      rw [if_neg hx, ixR_idx f r (i + 1) (by simpa [hx] using h), List.idxOf_cons, hx']
      simp; omega
theorem ruleC_inj {a b : UInt8} : ruleC a = ruleC b ↔ a = b := by simp [ruleC]
theorem idx_map (c : UInt8) : ∀ ks : List UInt8, (ks.map ruleC).idxOf (ruleC c) = ks.idxOf c
  | [] => rfl
  | k :: ks => by
    rw [List.map_cons, List.idxOf_cons, List.idxOf_cons, idx_map c ks]
    by_cases h : k = c
    · simp [h]
    · have h1 : (k == c) = false := by simpa using h
      have h2 : (ruleC k == ruleC c) = false := by simpa [ruleC_inj] using h
      rw [h1, h2]
theorem mem_ks {w : List UInt8} {c : UInt8} (hc : c ∈ w) (hl : letB c = true) : c ∈ ksP w := by
  unfold ksP
  rw [List.mem_filter]
  refine ⟨?_, by simpa using hc⟩
  have h : (97 : Int) ≤ c.toNat ∧ (c.toNat : Int) ≤ 100 := by simpa [letB] using hl
  have h4 : c.toNat = 97 ∨ c.toNat = 98 ∨ c.toNat = 99 ∨ c.toNat = 100 := by omega
  simp only [List.mem_cons, List.not_mem_nil, or_false, ← UInt8.toNat_inj]
  exact h4
theorem atP_ix {w : List UInt8} {c : UInt8} (hc : c ∈ w) (hl : letB c = true) : ixR (ruleC c) (lettersP w) 0 = atP w c := by
  have hm : ruleC c ∈ lettersP w := List.mem_map.2 ⟨c, mem_ks hc hl, rfl⟩
  rw [ixR_idx _ _ _ hm]
  unfold lettersP atP
  rw [idx_map]; simp
theorem atP_lt {w : List UInt8} {c : UInt8} (hc : c ∈ w) (hl : letB c = true) : 0 ≤ atP w c ∧ atP w c < ((ksP w).length : Int) := by
  have := List.idxOf_lt_length_of_mem (mem_ks hc hl)
  unfold atP; omega
end Go.Proofs.Ytikhjoianbndhaa
