/-
  What is made of a grammar, rule by rule: laws by the rule's number; the lengths.
-/
import Derived.Test.YtikhjoianbndhaaFoldM
namespace Go.Proofs.Ytikhjoianbndhaa

section
variable {α : Type} (d : α) (F : Nat → α) (G : α → α → Fac → α) {rs : List Fac}
/-- what is made of all rules -/
abbrev full (rs : List Fac) : List α := foldG d F G rs []
theorem full_len : (full d F G rs).length = rs.length := by unfold full; rw [foldG_len]; simp
theorem outs_full {k i : Nat} (hi : i < k) (hk : k ≤ rs.length) : (outs d F G rs k).getD i d = (full d F G rs).getD i d := by
  rw [List.getD_eq_getElem?_getD, List.getD_eq_getElem?_getD, outs_at d F G rs k i hi hk]
theorem full_at {k : Nat} {r : Fac} (h : rs[k]? = some r) : (full d F G rs).getD k d = fStep d F G (outs d F G rs k) r := by
  have hk : k < rs.length := (List.getElem?_eq_some_iff.1 h).1
  rw [← outs_full d F G (k := k + 1) (by omega) (by omega), outs_step d F G h, List.getD_eq_getElem?_getD, List.getElem?_append_right (by rw [outs_len d F G rs k (by omega)]; omega), outs_len d F G rs k (by omega)]
  simp
theorem full_pair (hwf : WF rs) {k : Nat} {r : Fac} (h : rs[k]? = some r) (h0 : r.l.size = 0) : (full d F G rs).getD k d = G ((full d F G rs).getD r.a.toNat d) ((full d F G rs).getD r.b.toNat d) r := by
  have hk : k < rs.length := (List.getElem?_eq_some_iff.1 h).1
  rcases hwf k r h with ⟨_, ha0, ha1, hb0, hb1⟩ | ⟨c, _, hl, _⟩
  · rw [full_at d F G h, fStep, if_pos h0, outs_full d F G (by omega) (by omega), outs_full d F G (by omega) (by omega)]
  · rw [hl] at h0; exact absurd h0 (show ¬ (1 : Nat) = 0 by omega)
theorem full_let {k : Nat} {r : Fac} (h : rs[k]? = some r) (h0 : r.l.size ≠ 0) : (full d F G rs).getD k d = F (letN r.l) := by
  rw [full_at d F G h, fStep, if_neg h0]
/-- what holds of each rule's value -/
theorem full_ind (hwf : WF rs) (P : Nat → α → Prop) (hF : ∀ (k : Nat) (r : Fac), rs[k]? = some r → letT r.l = true → P k (F (letN r.l)))
    (hG : ∀ (k : Nat) (r : Fac) (a b : α), rs[k]? = some r → r.l.size = 0 → 0 ≤ r.a → r.a < k → 0 ≤ r.b → r.b < k → P r.a.toNat a → P r.b.toNat b → P k (G a b r)) : ∀ k, k < rs.length → P k ((full d F G rs).getD k d) := by
  intro k
  induction k using Nat.strongRecOn with
  | ind k ih =>
    intro hk
    have gx : rs[k]? = some (rs[k]'(by omega)) := List.getElem?_eq_getElem _
    rcases hwf k _ gx with ⟨h0, ha0, ha1, hb0, hb1⟩ | ⟨c, hc, hl, _⟩
    · rw [full_pair d F G hwf gx h0]
      exact hG k _ _ _ gx h0 ha0 ha1 hb0 hb1 (ih _ (by omega) (by omega)) (ih _ (by omega) (by omega))
    · have h0 : (rs[k]'(by omega)).l.size ≠ 0 := by rw [hl]; show (1 : Nat) ≠ 0; omega
      rw [full_let d F G gx h0]
      exact hF k _ gx (by rw [hl]; exact hc)
end

/-- lengths as what is made of a grammar -/
def lenF (_ : Nat) : Int := 1
def lenG (a b : Int) (_ : Fac) : Int := a + b
theorem gStep_fold {out : List Int} {r : Fac} {n : Int} (h : gStep out r = some n) : n = fStep 0 lenF lenG out r := by
  unfold gStep at h
  unfold fStep
  split at h
  · rename_i h0
    rw [if_pos h0]
    split at h
    · obtain rfl := Option.some.inj h; rfl
    · cases h
  · rename_i h0
    rw [if_neg h0]
    split at h
    · obtain rfl := Option.some.inj h; rfl
    · cases h
theorem gLens_fold : ∀ (rs : List Fac) (out ls : List Int), gLens rs out = some ls → ls = foldG 0 lenF lenG rs out
  | [], out, ls, h => by obtain rfl := Option.some.inj h; rfl
  | r :: rs, out, ls, h => by
    unfold gLens at h
    obtain ⟨n, h1, h2⟩ := Option.bind_eq_some_iff.1 h
    rw [gStep_fold h1] at h2
    exact gLens_fold rs _ ls h2
theorem gLens_bound : ∀ (rs : List Fac) (out ls : List Int), gLens rs out = some ls → (∀ x ∈ out, 1 ≤ x ∧ x ≤ 1000000000000000) → ∀ x ∈ ls, 1 ≤ x ∧ x ≤ 1000000000000000
  | [], out, ls, h, hb => by obtain rfl := Option.some.inj h; exact hb
  | r :: rs, out, ls, h, hb => by
    unfold gLens at h
    obtain ⟨n, h1, h2⟩ := Option.bind_eq_some_iff.1 h
    refine gLens_bound rs _ ls h2 (fun x hx => ?_)
    rcases List.mem_append.1 hx with hx | hx
    · exact hb x hx
    · simp only [List.mem_singleton] at hx; subst hx; exact gStep_bound hb h1
theorem lens_bound {rs : List Fac} {ls : List Int} (h : gLens rs [] = some ls) {i : Nat} (hi : i < rs.length) : 1 ≤ ls.getD i 0 ∧ ls.getD i 0 ≤ 1000000000000000 := by
  have hl := gLens_len rs [] ls h
  refine gLens_bound rs [] ls h (by simp) _ ?_
  rw [List.getD_eq_getElem?_getD, List.getElem?_eq_getElem (by simp at hl; omega)]; simp
theorem lens_pair {rs : List Fac} {ls : List Int} (h : gLens rs [] = some ls) {k : Nat} {r : Fac} (hr : rs[k]? = some r) (h0 : r.l.size = 0) : ls.getD k 0 = ls.getD r.a.toNat 0 + ls.getD r.b.toNat 0 := by
  have e := gLens_fold rs [] ls h
  have := full_pair 0 lenF lenG (wf_of h) hr h0
  unfold full at this
  rw [← e] at this
  exact this
theorem lens_let {rs : List Fac} {ls : List Int} (h : gLens rs [] = some ls) {k : Nat} {r : Fac} (hr : rs[k]? = some r) (h0 : r.l.size ≠ 0) : ls.getD k 0 = 1 := by
  have e := gLens_fold rs [] ls h
  have := full_let 0 lenF lenG hr h0
  unfold full at this
  rw [← e] at this
  exact this
end Go.Proofs.Ytikhjoianbndhaa
