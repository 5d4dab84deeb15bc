/-
  Texts of this claim, merged: PlainM FoldM FoldL TrimM MapM TrimV PhgM PhgI PrsM Stop RuleP RuleK PrsK PrsC.
-/
import Derived.Test.YtikhjoianbndhaaP0
import Derived.Deep.RegionLaw
import Derived.Maps.OwnOps
import Derived.Maps.RangeRun
import Derived.WideKeyEntry


/-
  The grammar of a plain word: the plain part.
-/
namespace Go.Proofs.Ytikhjoianbndhaa

/-- the letters that a word has, in order -/
def ksP (w : List UInt8) : List UInt8 := [97, 98, 99, 100].filter (fun c => decide (c ∈ w))
def ruleC (c : UInt8) : Fac := ⟨⟨#[c]⟩, 0, 0⟩
def lettersP (w : List UInt8) : List Fac := (ksP w).map ruleC
/-- the place of a letter's rule -/
def atP (w : List UInt8) (c : UInt8) : Int := (((ksP w).idxOf c : Nat) : Int)
/-- the rules for the letters from the second on -/
def pairsP (w : List UInt8) : List UInt8 → Int → Nat → List Fac
  | [], _, _ => []
  | c :: cs, before, len => ⟨⟨#[]⟩, before, atP w c⟩ :: pairsP w cs (len : Int) (len + 1)
def plainL (w : List UInt8) : List Fac :=
  match w with
  | [] => []
  | c :: cs => lettersP w ++ pairsP w cs (atP w c) (ksP w).length
theorem pairsP_len (w : List UInt8) : ∀ (cs : List UInt8) (b : Int) (n : Nat), (pairsP w cs b n).length = cs.length
  | [], _, _ => rfl
  | _ :: cs, b, n => by simp [pairsP, pairsP_len w cs]
theorem ksP_len (w : List UInt8) : (ksP w).length ≤ 4 := by
  unfold ksP; exact Nat.le_trans (List.length_filter_le _ _) (by simp)
theorem plainL_len (w : List UInt8) : (plainL w).length ≤ w.length + 4 := by
  unfold plainL
  split
  · simp
  · rename_i c cs
    rw [List.length_append, pairsP_len]
    have := ksP_len (c :: cs)
    simp only [lettersP, List.length_map, List.length_cons]; omega
/-- the place of a rule in a list, or -1 -/
def ixR (f : Fac) : List Fac → Int → Int
  | [], _ => -1
  | x :: r, i => if f = x then i else ixR f r (i + 1)
theorem ixR_idx (f : Fac) : ∀ (xs : List Fac) (i : Int), f ∈ xs → ixR f xs i = i + (xs.idxOf f : Nat)
  | [], _, h => by simp at h
  | x :: r, i, h => by
    unfold ixR
    by_cases hx : f = x
    · subst hx; simp
    · have hx' : (x == f) = false := by simp; exact fun e => hx e.symm
      rw [if_neg hx, ixR_idx f r (i + 1) (by simpa [hx] using h), List.idxOf_cons, hx']
      simp; omega
theorem ruleC_inj {a b : UInt8} : ruleC a = ruleC b ↔ a = b := by simp [ruleC]
theorem idx_map (c : UInt8) : ∀ ks : List UInt8, (ks.map ruleC).idxOf (ruleC c) = ks.idxOf c
  | [] => rfl
  | k :: ks => by
    rw [List.map_cons, List.idxOf_cons, List.idxOf_cons, idx_map c ks]
    by_cases h : k = c
    · simp [h]
    · have h1 : (k == c) = false := by simpa using h
      have h2 : (ruleC k == ruleC c) = false := by simpa [ruleC_inj] using h
      rw [h1, h2]
theorem mem_ks {w : List UInt8} {c : UInt8} (hc : c ∈ w) (hl : letB c = true) : c ∈ ksP w := by
  unfold ksP
  rw [List.mem_filter]
  refine ⟨?_, by simpa using hc⟩
  have h : (97 : Int) ≤ c.toNat ∧ (c.toNat : Int) ≤ 100 := by simpa [letB] using hl
  have h4 : c.toNat = 97 ∨ c.toNat = 98 ∨ c.toNat = 99 ∨ c.toNat = 100 := by omega
  simp only [List.mem_cons, List.not_mem_nil, or_false, ← UInt8.toNat_inj]
  exact h4
theorem atP_ix {w : List UInt8} {c : UInt8} (hc : c ∈ w) (hl : letB c = true) : ixR (ruleC c) (lettersP w) 0 = atP w c := by
  have hm : ruleC c ∈ lettersP w := List.mem_map.2 ⟨c, mem_ks hc hl, rfl⟩
  rw [ixR_idx _ _ _ hm]
  unfold lettersP atP
  rw [idx_map]; simp
theorem atP_lt {w : List UInt8} {c : UInt8} (hc : c ∈ w) (hl : letB c = true) : 0 ≤ atP w c ∧ atP w c < ((ksP w).length : Int) := by
  have := List.idxOf_lt_length_of_mem (mem_ks hc hl)
  unfold atP; omega
end Go.Proofs.Ytikhjoianbndhaa


/-
  What is made of a grammar rule by rule: the plain part.
-/
namespace Go.Proofs.Ytikhjoianbndhaa

/-- the number of a letter -/
def letN (s : ByteArray) : Nat := match s.data.toList with | [c] => c.toNat - 97 | _ => 0
section
variable {α : Type} (d : α) (F : Nat → α) (G : α → α → Fac → α)
def fStep (out : List α) (r : Fac) : α := if r.l.size = 0 then G (out.getD r.a.toNat d) (out.getD r.b.toNat d) r else F (letN r.l)
def foldG : List Fac → List α → List α
  | [], out => out
  | r :: rs, out => foldG rs (out ++ [fStep d F G out r])
theorem foldG_app : ∀ (xs ys : List Fac) (out : List α), foldG d F G (xs ++ ys) out = foldG d F G ys (foldG d F G xs out)
  | [], _, _ => rfl
  | _ :: xs, ys, _ => foldG_app xs ys _
theorem foldG_len : ∀ (xs : List Fac) (out : List α), (foldG d F G xs out).length = out.length + xs.length
  | [], _ => by simp [foldG]
  | x :: xs, out => by
    show (foldG d F G xs (out ++ [fStep d F G out x])).length = _
    rw [foldG_len xs]; simp; omega
theorem foldG_snoc (xs : List Fac) (x : Fac) (out : List α) : foldG d F G (xs ++ [x]) out = foldG d F G xs out ++ [fStep d F G (foldG d F G xs out) x] := by
  rw [foldG_app]; rfl
/-- what is made of the rules ahead of rule k -/
def outs (rs : List Fac) (k : Nat) : List α := foldG d F G (rs.take k) []
theorem outs_len (rs : List Fac) (k : Nat) (h : k ≤ rs.length) : (outs d F G rs k).length = k := by
  unfold outs; rw [foldG_len]; simp; omega
theorem outs_step {rs : List Fac} {k : Nat} {r : Fac} (h : rs[k]? = some r) : outs d F G rs (k + 1) = outs d F G rs k ++ [fStep d F G (outs d F G rs k) r] := by
  unfold outs
  obtain ⟨hk, he⟩ := List.getElem?_eq_some_iff.1 h
  rw [List.take_succ_eq_append_getElem hk, foldG_snoc, he]
theorem outs_all (rs : List Fac) (k : Nat) (h : rs.length ≤ k) : outs d F G rs k = foldG d F G rs [] := by
  unfold outs; rw [List.take_of_length_le h]
/-- what was made of a rule, at any time behind it -/
theorem outs_at (rs : List Fac) : ∀ (k i : Nat), i < k → k ≤ rs.length → (outs d F G rs k)[i]? = (foldG d F G rs [])[i]? := by
  intro k i hi hk
  have e : foldG d F G rs [] = foldG d F G (rs.drop k) (outs d F G rs k) := by
    unfold outs; rw [← foldG_app, List.take_append_drop]
  have pre : ∀ (xs : List Fac) (out : List α), i < out.length → (foldG d F G xs out)[i]? = out[i]? := by
    intro xs
    induction xs with
    | nil => intro out _; rfl
    | cons x xs ih =>
      intro out h
      show (foldG d F G xs (out ++ [fStep d F G out x]))[i]? = _
      rw [ih _ (by simp; omega), List.getElem?_append_left h]
  rw [e, pre _ _ (by rw [outs_len d F G rs k hk]; exact hi)]
/-- one value for each rule; one for no rule where there is none -/
def foldAll (z : α) (rs : List Fac) : List α := if rs.length = 0 then [z] else foldG d F G rs []
end

/-- each rule is a pair of earlier ones, or a letter -/
def WF (rs : List Fac) : Prop := ∀ (k : Nat) (r : Fac), rs[k]? = some r → (r.l.size = 0 ∧ 0 ≤ r.a ∧ r.a < k ∧ 0 ≤ r.b ∧ r.b < k) ∨ (∃ c, letB c = true ∧ r.l = ⟨#[c]⟩ ∧ r.a = 0 ∧ r.b = 0)
theorem letT_one {s : ByteArray} (h : letT s = true) : ∃ c, letB c = true ∧ s = ⟨#[c]⟩ := by
  by_cases h1 : s.size = 1
  · obtain ⟨c, rfl⟩ := one_byte h1
    exact ⟨c, h, rfl⟩
  · rw [letT_not h1] at h; cases h
theorem wf_go : ∀ (rs : List Fac) (out ls : List Int), gLens rs out = some ls → ∀ (k : Nat) (r : Fac), rs[k]? = some r →
    (r.l.size = 0 ∧ 0 ≤ r.a ∧ r.a < (out.length + k : Nat) ∧ 0 ≤ r.b ∧ r.b < (out.length + k : Nat)) ∨ (∃ c, letB c = true ∧ r.l = ⟨#[c]⟩ ∧ r.a = 0 ∧ r.b = 0)
  | [], _, _, _, k, r, h => by simp at h
  | x :: rs, out, ls, h, 0, r, hr => by
    obtain rfl : x = r := by simpa using hr
    unfold gLens at h
    obtain ⟨n, h1, _⟩ := Option.bind_eq_some_iff.1 h
    unfold gStep at h1
    split at h1
    · rename_i h0
      split at h1
      · rename_i hc; exact .inl ⟨h0, by simpa using hc.1, by simpa using hc.2.1, by simpa using hc.2.2.1, by simpa using hc.2.2.2.1⟩
      · cases h1
    · split at h1
      · rename_i hc
        obtain ⟨c, hc1, hc2⟩ := letT_one hc.1
        exact .inr ⟨c, hc1, hc2, hc.2⟩
      · cases h1
  | x :: rs, out, ls, h, k + 1, r, hr => by
    unfold gLens at h
    obtain ⟨n, h1, h2⟩ := Option.bind_eq_some_iff.1 h
    have := wf_go rs _ ls h2 k r (by simpa using hr)
    simp only [List.length_append, List.length_cons, List.length_nil] at this
    rcases this with h | h
    · exact .inl ⟨h.1, h.2.1, by have := h.2.2.1; omega, h.2.2.2.1, by have := h.2.2.2.2; omega⟩
    · exact .inr h
theorem wf_of {rs : List Fac} {ls : List Int} (h : gLens rs [] = some ls) : WF rs := fun k r hr => by simpa using wf_go rs [] ls h k r hr
theorem letB_num {c : UInt8} (h : letB c = true) : 97 ≤ (c.toNat : Int) ∧ (c.toNat : Int) ≤ 100 := by simpa [letB] using h
theorem letN_one (c : UInt8) : letN ⟨#[c]⟩ = c.toNat - 97 := rfl
theorem letN_lt {s : ByteArray} (h : letT s = true) : letN s < 4 := by
  obtain ⟨c, hc, rfl⟩ := letT_one h
  have := letB_num hc
  rw [letN_one]; omega
end Go.Proofs.Ytikhjoianbndhaa


/-
  What is made of a grammar, rule by rule: laws by the rule's number; the lengths.
-/
namespace Go.Proofs.Ytikhjoianbndhaa

section
variable {α : Type} (d : α) (F : Nat → α) (G : α → α → Fac → α) {rs : List Fac}
/-- what is made of all rules -/
abbrev full (rs : List Fac) : List α := foldG d F G rs []
theorem full_len : (full d F G rs).length = rs.length := by unfold full; rw [foldG_len]; simp
theorem outs_full {k i : Nat} (hi : i < k) (hk : k ≤ rs.length) : (outs d F G rs k).getD i d = (full d F G rs).getD i d := by
  rw [List.getD_eq_getElem?_getD, List.getD_eq_getElem?_getD, outs_at d F G rs k i hi hk]
theorem full_at {k : Nat} {r : Fac} (h : rs[k]? = some r) : (full d F G rs).getD k d = fStep d F G (outs d F G rs k) r := by
  have hk : k < rs.length := (List.getElem?_eq_some_iff.1 h).1
  rw [← outs_full d F G (k := k + 1) (by omega) (by omega), outs_step d F G h, List.getD_eq_getElem?_getD, List.getElem?_append_right (by rw [outs_len d F G rs k (by omega)]; omega), outs_len d F G rs k (by omega)]
  simp
theorem full_pair (hwf : WF rs) {k : Nat} {r : Fac} (h : rs[k]? = some r) (h0 : r.l.size = 0) : (full d F G rs).getD k d = G ((full d F G rs).getD r.a.toNat d) ((full d F G rs).getD r.b.toNat d) r := by
  have hk : k < rs.length := (List.getElem?_eq_some_iff.1 h).1
  rcases hwf k r h with ⟨_, ha0, ha1, hb0, hb1⟩ | ⟨c, _, hl, _⟩
  · rw [full_at d F G h, fStep, if_pos h0, outs_full d F G (by omega) (by omega), outs_full d F G (by omega) (by omega)]
  · rw [hl] at h0; exact absurd h0 (show ¬ (1 : Nat) = 0 by omega)
theorem full_let {k : Nat} {r : Fac} (h : rs[k]? = some r) (h0 : r.l.size ≠ 0) : (full d F G rs).getD k d = F (letN r.l) := by
  rw [full_at d F G h, fStep, if_neg h0]
/-- what holds of each rule's value -/
theorem full_ind (hwf : WF rs) (P : Nat → α → Prop) (hF : ∀ (k : Nat) (r : Fac), rs[k]? = some r → letT r.l = true → P k (F (letN r.l)))
    (hG : ∀ (k : Nat) (r : Fac) (a b : α), rs[k]? = some r → r.l.size = 0 → 0 ≤ r.a → r.a < k → 0 ≤ r.b → r.b < k → P r.a.toNat a → P r.b.toNat b → P k (G a b r)) : ∀ k, k < rs.length → P k ((full d F G rs).getD k d) := by
  intro k
  induction k using Nat.strongRecOn with
  | ind k ih =>
    intro hk
    have gx : rs[k]? = some (rs[k]'(by omega)) := List.getElem?_eq_getElem _
    rcases hwf k _ gx with ⟨h0, ha0, ha1, hb0, hb1⟩ | ⟨c, hc, hl, _⟩
    · rw [full_pair d F G hwf gx h0]
      exact hG k _ _ _ gx h0 ha0 ha1 hb0 hb1 (ih _ (by omega) (by omega)) (ih _ (by omega) (by omega))
    · have h0 : (rs[k]'(by omega)).l.size ≠ 0 := by rw [hl]; show (1 : Nat) ≠ 0; omega
      rw [full_let d F G gx h0]
      exact hF k _ gx (by rw [hl]; exact hc)
end

/-- lengths as what is made of a grammar -/
def lenF (_ : Nat) : Int := 1
def lenG (a b : Int) (_ : Fac) : Int := a + b
theorem gStep_fold {out : List Int} {r : Fac} {n : Int} (h : gStep out r = some n) : n = fStep 0 lenF lenG out r := by
  unfold gStep at h
  unfold fStep
  split at h
  · rename_i h0
    rw [if_pos h0]
    split at h
    · obtain rfl := Option.some.inj h; rfl
    · cases h
  · rename_i h0
    rw [if_neg h0]
    split at h
    · obtain rfl := Option.some.inj h; rfl
    · cases h
theorem gLens_fold : ∀ (rs : List Fac) (out ls : List Int), gLens rs out = some ls → ls = foldG 0 lenF lenG rs out
  | [], out, ls, h => by obtain rfl := Option.some.inj h; rfl
  | r :: rs, out, ls, h => by
    unfold gLens at h
    obtain ⟨n, h1, h2⟩ := Option.bind_eq_some_iff.1 h
    rw [gStep_fold h1] at h2
    exact gLens_fold rs _ ls h2
theorem gLens_bound : ∀ (rs : List Fac) (out ls : List Int), gLens rs out = some ls → (∀ x ∈ out, 1 ≤ x ∧ x ≤ 1000000000000000) → ∀ x ∈ ls, 1 ≤ x ∧ x ≤ 1000000000000000
  | [], out, ls, h, hb => by obtain rfl := Option.some.inj h; exact hb
  | r :: rs, out, ls, h, hb => by
    unfold gLens at h
    obtain ⟨n, h1, h2⟩ := Option.bind_eq_some_iff.1 h
    refine gLens_bound rs _ ls h2 (fun x hx => ?_)
    rcases List.mem_append.1 hx with hx | hx
    · exact hb x hx
    · simp only [List.mem_singleton] at hx; subst hx; exact gStep_bound hb h1
theorem lens_bound {rs : List Fac} {ls : List Int} (h : gLens rs [] = some ls) {i : Nat} (hi : i < rs.length) : 1 ≤ ls.getD i 0 ∧ ls.getD i 0 ≤ 1000000000000000 := by
  have hl := gLens_len rs [] ls h
  refine gLens_bound rs [] ls h (by simp) _ ?_
  rw [List.getD_eq_getElem?_getD, List.getElem?_eq_getElem (by simp at hl; omega)]; simp
theorem lens_pair {rs : List Fac} {ls : List Int} (h : gLens rs [] = some ls) {k : Nat} {r : Fac} (hr : rs[k]? = some r) (h0 : r.l.size = 0) : ls.getD k 0 = ls.getD r.a.toNat 0 + ls.getD r.b.toNat 0 := by
  have e := gLens_fold rs [] ls h
  have := full_pair 0 lenF lenG (wf_of h) hr h0
  unfold full at this
  rw [← e] at this
  exact this
theorem lens_let {rs : List Fac} {ls : List Int} (h : gLens rs [] = some ls) {k : Nat} {r : Fac} (hr : rs[k]? = some r) (h0 : r.l.size ≠ 0) : ls.getD k 0 = 1 := by
  have e := gLens_fold rs [] ls h
  have := full_let 0 lenF lenG hr h0
  unfold full at this
  rw [← e] at this
  exact this
end Go.Proofs.Ytikhjoianbndhaa


/-
  A grammar trimmed: the plain part.
-/
namespace Go.Proofs.Ytikhjoianbndhaa

/-- a rule with the numbers that stand for its parts -/
def trR (same : List Int) (r : Fac) : Fac := if r.l.size = 0 then ⟨⟨#[]⟩, same.getD r.a.toNat 0, same.getD r.b.toNat 0⟩ else r
/-- the rules, told by the first equal ones; the first equal one of each rule -/
def trK : List Fac → List Fac → List Int → List Fac × List Int
  | [], kept, same => (kept, same)
  | r :: rs, kept, same => trK rs (kept ++ [trR same r]) (same ++ [((kept.idxOf (trR same r) : Nat) : Int)])
/-- which rules the last one is made of -/
def useStep (kept : List Fac) (i : Nat) (u : List Bool) : List Bool := if u.getD i false = true ∧ (kept.getD i default).l.size = 0 then (u.set (kept.getD i default).a.toNat true).set (kept.getD i default).b.toNat true else u
def useT (kept : List Fac) : Nat → List Bool → List Bool
  | 0, u => u
  | i + 1, u => useT kept i (useStep kept i u)
def use0 (n : Nat) (same : List Int) : List Bool := (List.replicate n false).set (same.getD (n - 1) 0).toNat true
/-- the rules that are left -/
def outT (used : List Bool) : Nat → List Fac → List Fac → List Int → List Fac
  | _, [], out, _ => out
  | i, r :: ks, out, at_ => if used.getD i false = true then outT used (i + 1) ks (out ++ [trR at_ r]) (at_.set i (out.length : Int)) else outT used (i + 1) ks out at_
def trimL (rs : List Fac) : List Fac :=
  if rs.length = 0 then [] else outT (useT (trK rs [] []).1 rs.length (use0 rs.length (trK rs [] []).2)) 0 (trK rs [] []).1 [] (List.replicate rs.length 0)

/-- what holds of the rules that are told by the first equal ones -/
structure TrI (kept : List Fac) (same : List Int) : Prop where
  len : same.length = kept.length
  s : ∀ j, j < kept.length → 0 ≤ same.getD j 0 ∧ same.getD j 0 ≤ (j : Int)
  k : ∀ (j : Nat) (r : Fac), kept[j]? = some r → (r.l.size = 0 ∧ 0 ≤ r.a ∧ r.a < (j : Int) ∧ 0 ≤ r.b ∧ r.b < (j : Int)) ∨ (∃ c, letB c = true ∧ r.l = ⟨#[c]⟩ ∧ r.a = 0 ∧ r.b = 0)
theorem TrI.nil : TrI [] [] := ⟨rfl, fun j h => absurd h (by simp), fun j r h => by simp at h⟩
theorem TrI.step {rs kept : List Fac} {same : List Int} (h : TrI kept same) (hwf : WF rs) {r : Fac} (hr : rs[kept.length]? = some r) : TrI (kept ++ [trR same r]) (same ++ [((kept.idxOf (trR same r) : Nat) : Int)]) := by
  have hl := h.len
  refine ⟨by simp [hl], fun j hj => ?_, fun j x hx => ?_⟩
  · simp only [List.length_append, List.length_singleton] at hj
    by_cases e : j < kept.length
    · rw [List.getD_eq_getElem?_getD, List.getElem?_append_left (by omega), ← List.getD_eq_getElem?_getD]; exact h.s j e
    · obtain rfl : j = kept.length := by omega
      rw [List.getD_eq_getElem?_getD, List.getElem?_append_right (by omega), hl, Nat.sub_self]
      simp only [List.getElem?_cons_zero, Option.getD_some]
      have := List.idxOf_le_length (a := trR same r) (l := kept)
      omega
  · by_cases e : j < kept.length
    · rw [List.getElem?_append_left e] at hx; exact h.k j x hx
    · have hj2 := (List.getElem?_eq_some_iff.1 hx).1
      simp only [List.length_append, List.length_singleton] at hj2
      obtain rfl : j = kept.length := by omega
      rw [List.getElem?_append_right (Nat.le_refl _), Nat.sub_self] at hx
      obtain rfl : trR same r = x := by simpa using hx
      rcases hwf _ r hr with ⟨h0, a0, a1, b0, b1⟩ | ⟨c, hc, hxl, ha, hb⟩
      · left
        unfold trR
        rw [if_pos h0]
        have s1 := h.s r.a.toNat (by omega)
        have s2 := h.s r.b.toNat (by omega)
        exact ⟨rfl, s1.1, by simp only; omega, s2.1, by simp only; omega⟩
      · right
        have h0 : r.l.size ≠ 0 := by rw [hxl]; show (1 : Nat) ≠ 0; omega
        unfold trR
        rw [if_neg h0]
        exact ⟨c, hc, hxl, ha, hb⟩
/-- the rules told, step by step -/
theorem trK_take (rs : List Fac) {k : Nat} {kept : List Fac} {same : List Int} {r : Fac} (hr : rs[k]? = some r) (H : trK (rs.drop k) kept same = trK rs [] []) : trK (rs.drop (k + 1)) (kept ++ [trR same r]) (same ++ [((kept.idxOf (trR same r) : Nat) : Int)]) = trK rs [] [] := by
  rw [← H, drop_cons hr]; rfl
theorem trK_all {rs : List Fac} {kept : List Fac} {same : List Int} {k : Nat} (hk : rs.length ≤ k) (H : trK (rs.drop k) kept same = trK rs [] []) : (kept, same) = trK rs [] [] := by
  rw [← H, List.drop_of_length_le hk]; rfl
theorem trK_I {rs : List Fac} (hwf : WF rs) : ∀ (k : Nat) (kept : List Fac) (same : List Int), TrI kept same → kept.length = k → k ≤ rs.length → TrI (trK (rs.drop k) kept same).1 (trK (rs.drop k) kept same).2 ∧ (trK (rs.drop k) kept same).1.length = rs.length := by
  intro k
  induction hd : rs.length - k generalizing k with
  | zero =>
    intro kept same h hk hle
    rw [List.drop_of_length_le (by omega)]
    exact ⟨h, by show kept.length = _; omega⟩
  | succ d ih =>
    intro kept same h hk hle
    have hr : rs[k]? = some (rs[k]'(by omega)) := List.getElem?_eq_getElem _
    rw [drop_cons hr]
    exact ih (k + 1) (by omega) _ _ (h.step hwf (by rw [hk]; exact hr)) (by simp [hk]) (by omega)
theorem idxOf_le {α : Type} [DecidableEq α] {x : α} : ∀ {l : List α} {j : Nat}, l[j]? = some x → l.idxOf x ≤ j
  | [], j, h => by simp at h
  | y :: l, 0, h => by
    obtain rfl : y = x := by simpa using h
    simp
  | y :: l, j + 1, h => by
    rw [List.idxOf_cons]
    by_cases e : y = x
    · subst e; simp
    · have := idxOf_le (l := l) (j := j) (x := x) (by simpa using h)
      rw [show (y == x) = false by simpa using e]
      show (bif false then 0 else l.idxOf x + 1) ≤ j + 1
      simp only [cond_false]
      omega
/-- the least number of an equal rule, looked for among those that are first ones -/
theorem first_eq {kept : List Fac} {same : List Int} (hs : ∀ (j : Nat) (x : Fac), kept[j]? = some x → same.getD j 0 = ((kept.idxOf x : Nat) : Int)) {j : Nat} {x : Fac} (hj : kept[j]? = some x) (h0 : ∀ i, i < j → kept[i]? ≠ some x) : same.getD j 0 = (j : Int) := by
  rw [hs j x hj]
  have hlt := (List.getElem?_eq_some_iff.1 hj).1
  have hm : x ∈ kept := List.mem_of_getElem? hj
  have h1 : kept.idxOf x < kept.length := List.idxOf_lt_length_iff.2 hm
  have h2 : kept[kept.idxOf x]? = some x := by rw [List.getElem?_eq_getElem h1, List.getElem_idxOf]
  rcases Nat.lt_trichotomy (kept.idxOf x) j with h | h | h
  · exact absurd h2 (h0 _ h)
  · rw [h]
  · exfalso
    have := idxOf_le hj
    omega
theorem idx_app1 {f y : Fac} {kept : List Fac} (h : f ∈ kept) : (kept ++ [y]).idxOf f = kept.idxOf f := by rw [List.idxOf_append, if_pos h]
theorem idx_app2 (y : Fac) (kept : List Fac) : (kept ++ [y]).idxOf y = kept.idxOf y := by
  rw [List.idxOf_append]
  by_cases h : y ∈ kept
  · rw [if_pos h]
  · rw [if_neg h, List.idxOf_eq_length h]; simp
/-- the map behind a rule that was known -/
theorem map_known {g : Fac → Option Value} {y : Fac} {kept : List Fac} (h : ∀ f, g f = if f ∈ kept then some (.int .i64 ((kept.idxOf f : Nat) : Int)) else none) (hy : y ∈ kept) (f : Fac) : g f = if f ∈ kept ++ [y] then some (.int .i64 (((kept ++ [y]).idxOf f : Nat) : Int)) else none := by
  rw [h f]
  by_cases hf : f ∈ kept
  · rw [if_pos hf, if_pos (List.mem_append_left _ hf), idx_app1 hf]
  · rw [if_neg hf, if_neg (by
      intro e
      rcases List.mem_append.1 e with e | e
      · exact hf e
      · rw [List.mem_singleton.1 e] at hf; exact hf hy)]
/-- and behind one that was not -/
theorem map_new {g : Fac → Option Value} {y : Fac} {kept : List Fac} (h : ∀ f, g f = if f ∈ kept then some (.int .i64 ((kept.idxOf f : Nat) : Int)) else none) (hy : y ∉ kept) (f : Fac) : (if f = y then some (.int .i64 (kept.length : Int)) else g f) = if f ∈ kept ++ [y] then some (.int .i64 (((kept ++ [y]).idxOf f : Nat) : Int)) else none := by
  by_cases hf : f = y
  · subst hf
    rw [if_pos rfl, if_pos (by simp), idx_app2, List.idxOf_eq_length hy]
  · rw [if_neg hf, h f]
    by_cases hk : f ∈ kept
    · rw [if_pos hk, if_pos (List.mem_append_left _ hk), idx_app1 hk]
    · rw [if_neg hk, if_neg (by
        intro e
        rcases List.mem_append.1 e with e | e
        · exact hk e
        · exact hf (List.mem_singleton.1 e))]
end Go.Proofs.Ytikhjoianbndhaa


/-
  The letters of a grammar replaced: the plain part.
-/
namespace Go.Proofs.Ytikhjoianbndhaa

/-- a rule with its numbers raised -/
def rsF (by_ : Int) (r : Fac) : Fac := if r.l.size = 0 then ⟨r.l, r.a + by_, r.b + by_⟩ else r
def raiseL (by_ : Int) (rs : List Fac) : List Fac := rs.map (rsF by_)
theorem raiseL_len (b : Int) (rs : List Fac) : (raiseL b rs).length = rs.length := by simp [raiseL]
/-- is a letter a rule? -/
def usedL (rs : List Fac) (u : UInt8) : Bool := rs.any fun r => decide (r.l = ⟨#[u]⟩)
theorem usedL_mem {rs : List Fac} (hwf : WF rs) (u : UInt8) : usedL rs u = decide (ruleC u ∈ rs) := by
  rw [Bool.eq_iff_iff]
  unfold usedL
  simp only [List.any_eq_true, decide_eq_true_eq]
  constructor
  · rintro ⟨r, hr, h⟩
    obtain ⟨k, hk⟩ := List.mem_iff_getElem?.1 hr
    rcases hwf k r hk with ⟨h0, _⟩ | ⟨c, _, hl, ha, hb⟩
    · rw [h] at h0; exact absurd h0 (show ¬ (1 : Nat) = 0 by omega)
    · have : r = ruleC u := by
        cases r; simp only at h ha hb; subst h ha hb; rfl
      rw [← this]; exact hr
  · intro h; exact ⟨_, h, rfl⟩
def lb (k : Nat) : UInt8 := UInt8.ofNat (97 + k)
theorem lb_num {k : Nat} (h : k < 4) : ((lb k).toNat : Int) = 97 + k := by unfold lb; simp; omega
def mlStep (rs : List Fac) (k : Nat) (w : ByteArray) (s : List Fac × List Int) : List Fac × List Int :=
  if w.size ≠ 0 ∧ usedL rs (lb k) = true then (s.1 ++ raiseL s.1.length (plainL w.data.toList), s.2.set k (((s.1.length + (plainL w.data.toList).length : Nat) : Int) - 1)) else s
def mlGo (rs : List Fac) : Nat → List ByteArray → List Fac × List Int → List Fac × List Int
  | _, [], s => s
  | k, w :: ws, s => mlGo rs (k + 1) ws (mlStep rs k w s)
def mrStep (st : List Int) (r : Fac) (s : List Fac × List Int) : List Fac × List Int :=
  if r.l.size = 0 then
    (if s.2.getD r.a.toNat 0 < 0 then (s.1, s.2 ++ [s.2.getD r.b.toNat 0])
     else if s.2.getD r.b.toNat 0 < 0 then (s.1, s.2 ++ [s.2.getD r.a.toNat 0])
     else (s.1 ++ [⟨⟨#[]⟩, s.2.getD r.a.toNat 0, s.2.getD r.b.toNat 0⟩], s.2 ++ [(s.1.length : Int)]))
  else (s.1, s.2 ++ [st.getD (letN r.l) 0])
def mrGo (st : List Int) : List Fac → List Fac × List Int → List Fac × List Int
  | [], s => s
  | r :: rs, s => mrGo st rs (mrStep st r s)
def mapS1 (rs : List Fac) (ws : List ByteArray) : List Fac × List Int := mlGo rs 0 ws ([], [-1, -1, -1, -1])
def mapS2 (rs : List Fac) (ws : List ByteArray) : List Fac × List Int := mrGo (mapS1 rs ws).2 rs ((mapS1 rs ws).1, [])

theorem wf_nil : WF [] := fun k r h => by simp at h
theorem wf_snoc {rs : List Fac} (h : WF rs) {a b : Int} (ha : 0 ≤ a ∧ a < rs.length) (hb : 0 ≤ b ∧ b < rs.length) : WF (rs ++ [⟨⟨#[]⟩, a, b⟩]) := by
  intro k r hr
  by_cases hk : k < rs.length
  · rw [List.getElem?_append_left hk] at hr; exact h k r hr
  · rw [List.getElem?_append_right (by omega)] at hr
    have hk' : k = rs.length := by
      have := (List.getElem?_eq_some_iff.1 hr).1
      simp only [List.length_cons, List.length_nil] at this; omega
    subst hk'
    simp at hr
    subst hr
    exact .inl ⟨rfl, ha.1, ha.2, hb.1, hb.2⟩
theorem wf_take {rs : List Fac} (h : WF rs) (n : Nat) : WF (rs.take n) := fun k r hr => by
  rw [List.getElem?_take] at hr
  split at hr
  · exact h k r hr
  · cases hr
theorem wf_raise {xs ys : List Fac} (hx : WF xs) (hy : WF ys) : WF (xs ++ raiseL xs.length ys) := by
  intro k r hr
  by_cases hk : k < xs.length
  · rw [List.getElem?_append_left hk] at hr; exact hx k r hr
  · rw [List.getElem?_append_right (by omega)] at hr
    unfold raiseL at hr
    rw [List.getElem?_map] at hr
    obtain ⟨y, hy1, rfl⟩ := Option.map_eq_some_iff.1 hr
    rcases hy _ y hy1 with ⟨h0, a0, a1, b0, b1⟩ | ⟨c, hc, hl, ha, hb⟩
    · unfold rsF
      rw [if_pos h0]
      exact .inl ⟨h0, by show 0 ≤ y.a + _; omega, by show y.a + _ < _; omega, by show 0 ≤ y.b + _; omega, by show y.b + _ < _; omega⟩
    · unfold rsF
      rw [if_neg (by rw [hl]; show ¬ (1 : Nat) = 0; omega)]
      exact .inr ⟨c, hc, hl, ha, hb⟩
theorem wf_letters (ks : List UInt8) (h : ∀ c ∈ ks, letB c = true) : WF (ks.map ruleC) := fun k r hr => by
  rw [List.getElem?_map] at hr
  obtain ⟨c, hc, rfl⟩ := Option.map_eq_some_iff.1 hr
  exact .inr ⟨c, h c (List.mem_of_getElem? hc), rfl, rfl, rfl⟩
theorem ks_letB {w : List UInt8} {c : UInt8} (h : c ∈ ksP w) : letB c = true := by
  unfold ksP at h
  have := (List.mem_filter.1 h).1
  simp only [List.mem_cons, List.not_mem_nil, or_false] at this
  rcases this with rfl | rfl | rfl | rfl <;> rfl
theorem wf_pairs (w : List UInt8) : ∀ (cs : List UInt8) (b : Int) (xs : List Fac), WF xs → (∀ c ∈ cs, 0 ≤ atP w c ∧ atP w c < xs.length) → 0 ≤ b → b < xs.length → WF (xs ++ pairsP w cs b xs.length)
  | [], b, xs, h, _, _, _ => by simpa [pairsP] using h
  | c :: cs, b, xs, h, hc, hb0, hb1 => by
    have h1 := hc c (by simp)
    have h2 := wf_snoc h ⟨hb0, hb1⟩ h1
    have h3 := wf_pairs w cs (xs.length : Int) (xs ++ [⟨⟨#[]⟩, b, atP w c⟩]) h2 (fun c' hc' => by have := hc c' (by simp [hc']); simp only [List.length_append, List.length_singleton]; omega) (by omega) (by simp only [List.length_append, List.length_singleton]; omega)
    simp only [List.length_append, List.length_singleton, List.append_assoc] at h3
    exact h3
theorem wf_plain {w : List UInt8} (hl : w.all letB = true) : WF (plainL w) := by
  unfold plainL
  split
  · exact wf_nil
  · rename_i c cs
    have hm : ∀ c' ∈ c :: cs, letB c' = true := by simpa using hl
    have hlen : (lettersP (c :: cs)).length = (ksP (c :: cs)).length := by simp [lettersP]
    rw [← hlen]
    have := atP_lt (w := c :: cs) (c := c) (by simp) (hm c (by simp))
    exact wf_pairs _ cs _ _ (wf_letters _ fun _ h => ks_letB h) (fun c' hc' => by rw [hlen]; exact atP_lt (by simp [hc']) (hm c' (by simp [hc']))) this.1 (by rw [hlen]; exact this.2)
theorem plainL_pos {w : List UInt8} (h : w ≠ []) (hl : w.all letB = true) : 0 < (plainL w).length := by
  unfold plainL
  split
  · exact absurd rfl h
  · rename_i c cs
    have hc : letB c = true := by simp at hl; exact hl.1
    have : 0 < (lettersP (c :: cs)).length := by
      rw [List.length_pos_iff_exists_mem]
      exact ⟨ruleC c, List.mem_map.2 ⟨c, mem_ks (by simp) hc, rfl⟩⟩
    simp only [List.length_append]; omega
/-- what holds of the letters' rules and numbers -/
structure MlI (s : List Fac × List Int) (k : Nat) : Prop where
  wf : WF s.1
  st : s.2.length = 4
  b : ∀ i, i < 4 → -1 ≤ s.2.getD i 0 ∧ s.2.getD i 0 < s.1.length
  n : s.1.length ≤ 2004 * k
theorem okW_let {s : ByteArray} (h : okW s = true) : s.data.toList.all letB = true ∧ s.size ≤ 2000 := by
  unfold okW at h; simpa [and_comm] using h
theorem MlI.step {rs : List Fac} {s : List Fac × List Int} {k : Nat} (h : MlI s k) (hk : k < 4) {w : ByteArray} (hw : okW w = true) : MlI (mlStep rs k w s) (k + 1) := by
  unfold mlStep
  split
  · rename_i hc
    obtain ⟨hl, hsz⟩ := okW_let hw
    have h1 := plainL_len w.data.toList
    have h2 := plainL_pos (w := w.data.toList) (fun e => hc.1 (by rw [← byte_len, e]; rfl)) hl
    rw [byte_len] at h1
    refine ⟨wf_raise h.wf (wf_plain hl), by simpa using h.st, fun i hi => ?_, ?_⟩
    · have := h.b i hi
      simp only [List.length_append, raiseL_len]
      rw [List.getD_eq_getElem?_getD, List.getElem?_set]
      split
      · rw [if_pos (by rw [h.st]; omega)]; simp only [Option.getD_some]; omega
      · rw [← List.getD_eq_getElem?_getD]; omega
    · have := h.n
      simp only [List.length_append, raiseL_len]; omega
  · exact ⟨h.wf, h.st, h.b, by have := h.n; omega⟩
theorem MlI.nil : MlI ([], [-1, -1, -1, -1]) 0 := ⟨wf_nil, rfl, fun i hi => by
  rcases i with _ | _ | _ | _ | i
  · decide
  · decide
  · decide
  · decide
  · omega, by simp⟩
theorem MlI.go {rs : List Fac} : ∀ (ws : List ByteArray) (k : Nat) (s : List Fac × List Int), MlI s k → k + ws.length ≤ 4 → (∀ w ∈ ws, okW w = true) → MlI (mlGo rs k ws s) (k + ws.length)
  | [], _, _, h, _, _ => h
  | w :: ws, k, s, h, hk, hw => by
    simp only [List.length_cons] at hk ⊢
    have := MlI.go (rs := rs) ws (k + 1) (mlStep rs k w s) (h.step (by omega) (hw w (by simp))) (by omega) (fun x hx => hw x (by simp [hx]))
    rw [show k + (ws.length + 1) = k + 1 + ws.length by omega]
    exact this
/-- what holds of the rules that stand for others -/
structure MrI (s : List Fac × List Int) (n k : Nat) : Prop where
  wf : WF s.1
  st : s.2.length = k
  b : ∀ i, i < k → -1 ≤ s.2.getD i 0 ∧ s.2.getD i 0 < s.1.length
  n : s.1.length ≤ n + k
theorem getD_snoc (xs : List Int) (x : Int) (i : Nat) : (xs ++ [x]).getD i 0 = if i < xs.length then xs.getD i 0 else if i = xs.length then x else 0 := by
  rw [List.getD_eq_getElem?_getD]
  split
  · rw [List.getElem?_append_left (by omega), ← List.getD_eq_getElem?_getD]
  · split
    · rename_i h; subst h; simp
    · rw [List.getElem?_eq_none (by simp; omega)]; rfl
theorem MrI.step {st : List Int} {s : List Fac × List Int} {n k : Nat} (h : MrI s n k) (hst : ∀ i, i < 4 → -1 ≤ st.getD i 0 ∧ st.getD i 0 < s.1.length) {r : Fac}
    (hr : (r.l.size = 0 ∧ 0 ≤ r.a ∧ r.a < k ∧ 0 ≤ r.b ∧ r.b < k) ∨ (∃ c, letB c = true ∧ r.l = ⟨#[c]⟩ ∧ r.a = 0 ∧ r.b = 0)) : MrI (mrStep st r s) n (k + 1) ∧ s.1.length ≤ (mrStep st r s).1.length := by
  have snoc : ∀ (out : List Fac) (x : Int), s.1.length ≤ out.length → -1 ≤ x ∧ x < out.length → ∀ i, i < k + 1 → -1 ≤ (s.2 ++ [x]).getD i 0 ∧ (s.2 ++ [x]).getD i 0 < out.length := by
    intro out x hle hx i hi
    rw [getD_snoc, h.st]
    split
    · have := h.b i (by assumption); omega
    · split
      · exact hx
      · omega
  unfold mrStep
  rcases hr with ⟨h0, a0, a1, b0, b1⟩ | ⟨c, hc, hl, ha, hb⟩
  · rw [if_pos h0]
    have hA := h.b r.a.toNat (by omega)
    have hB := h.b r.b.toNat (by omega)
    split
    · exact ⟨⟨h.wf, by simp [h.st], snoc _ _ (Nat.le_refl _) hB, Nat.le_trans h.n (by omega)⟩, Nat.le_refl _⟩
    · split
      · exact ⟨⟨h.wf, by simp [h.st], snoc _ _ (Nat.le_refl _) hA, Nat.le_trans h.n (by omega)⟩, Nat.le_refl _⟩
      · refine ⟨⟨wf_snoc h.wf ⟨by omega, hA.2⟩ ⟨by omega, hB.2⟩, by simp [h.st], snoc _ _ (by simp) (by simp; omega), by have := h.n; simp; omega⟩, by simp⟩
  · rw [if_neg (by rw [hl]; show ¬ (1 : Nat) = 0; omega)]
    have hq : letN r.l < 4 := by rw [hl]; exact letN_lt (s := ⟨#[c]⟩) hc
    exact ⟨⟨h.wf, by simp [h.st], snoc _ _ (Nat.le_refl _) (hst _ hq), Nat.le_trans h.n (by omega)⟩, Nat.le_refl _⟩
theorem mrGo_snoc (st : List Int) : ∀ (rs : List Fac) (r : Fac) (s : List Fac × List Int), mrGo st (rs ++ [r]) s = mrStep st r (mrGo st rs s)
  | [], _, _ => rfl
  | x :: rs, r, s => mrGo_snoc st rs r (mrStep st x s)
theorem take_succ_at {α : Type} {rs : List α} {k : Nat} {r : α} (h : rs[k]? = some r) : rs.take (k + 1) = rs.take k ++ [r] := by
  rw [List.take_add_one, h]; rfl
/-- the rules up to one -/
theorem mapS2_I {rs : List Fac} (hwf : WF rs) {s : List Fac × List Int} {n : Nat} (h : MrI (s.1, []) n 0) (hst : ∀ i, i < 4 → -1 ≤ s.2.getD i 0 ∧ s.2.getD i 0 < s.1.length) :
    ∀ k, k ≤ rs.length → MrI (mrGo s.2 (rs.take k) (s.1, [])) n k ∧ s.1.length ≤ (mrGo s.2 (rs.take k) (s.1, [])).1.length
  | 0, _ => ⟨h, Nat.le_refl _⟩
  | k + 1, hk => by
    have ⟨h1, h2⟩ := mapS2_I hwf h hst k (by omega)
    have hr : rs[k]? = some rs[k] := List.getElem?_eq_getElem (by omega)
    rw [take_succ_at hr, mrGo_snoc]
    have ⟨h3, h4⟩ := h1.step (st := s.2) (fun i hi => by have := hst i hi; omega) (hwf k _ hr)
    exact ⟨h3, by omega⟩
end Go.Proofs.Ytikhjoianbndhaa


/-
  A grammar trimmed: it is valid where the grammar was, and its word is the grammar's.
-/
namespace Go.Proofs.Ytikhjoianbndhaa

section
variable {α : Type} (d : α) (F : Nat → α) (G : α → α → Fac → α)
theorem full_snoc (xs : List Fac) (y : Fac) : full d F G (xs ++ [y]) = full d F G xs ++ [fStep d F G (full d F G xs) y] := foldG_snoc d F G xs y []
theorem full_old (xs : List Fac) (y : Fac) {p : Nat} (h : p < xs.length) : (full d F G (xs ++ [y])).getD p d = (full d F G xs).getD p d := by
  rw [full_snoc, List.getD_eq_getElem?_getD, List.getElem?_append_left (by rw [full_len]; exact h), ← List.getD_eq_getElem?_getD]
theorem full_new (xs : List Fac) (y : Fac) : (full d F G (xs ++ [y])).getD xs.length d = fStep d F G (full d F G xs) y := by
  rw [full_snoc, List.getD_eq_getElem?_getD, List.getElem?_append_right (by rw [full_len]; exact Nat.le_refl _), full_len, Nat.sub_self]; rfl
/-- equal rules have equal values -/
theorem full_same {rs : List Fac} (hwf : WF rs) {i j : Nat} {y : Fac} (hi : rs[i]? = some y) (hj : rs[j]? = some y) : (full d F G rs).getD i d = (full d F G rs).getD j d := by
  by_cases h0 : y.l.size = 0
  · rw [full_pair d F G hwf hi h0, full_pair d F G hwf hj h0]
  · rw [full_let d F G hi h0, full_let d F G hj h0]
end

/-- what the first round leaves -/
structure TkI (rs kept : List Fac) (same : List Int) (k : Nat) : Prop where
  lk : kept.length = k
  ls : same.length = k
  r : ∀ (i : Nat) (r : Fac), i < k → rs[i]? = some r → kept[i]? = some (trR same r)
  s : ∀ i, i < k → ∃ s : Nat, same.getD i 0 = (s : Int) ∧ s ≤ i ∧ kept[s]? = kept[i]?
theorem trR_more {same : List Int} (x : Int) {r : Fac} {i : Nat} (hr : (r.l.size = 0 ∧ 0 ≤ r.a ∧ r.a < (i : Int) ∧ 0 ≤ r.b ∧ r.b < (i : Int)) ∨ (∃ c, letB c = true ∧ r.l = ⟨#[c]⟩ ∧ r.a = 0 ∧ r.b = 0)) (hi : i ≤ same.length) : trR (same ++ [x]) r = trR same r := by
  unfold trR
  rcases hr with ⟨h0, a0, a1, b0, b1⟩ | ⟨c, _, hl, _⟩
  · rw [if_pos h0, if_pos h0, getD_snoc, if_pos (by omega), getD_snoc, if_pos (by omega)]
  · rw [if_neg (by rw [hl]; show ¬ (1 : Nat) = 0; omega), if_neg (by rw [hl]; show ¬ (1 : Nat) = 0; omega)]
theorem TkI.step {rs kept : List Fac} {same : List Int} {k : Nat} (h : TkI rs kept same k) (hwf : WF rs) {r : Fac} (hr : rs[k]? = some r) : TkI rs (kept ++ [trR same r]) (same ++ [((kept.idxOf (trR same r) : Nat) : Int)]) (k + 1) := by
  have hlk := h.lk
  have hls := h.ls
  refine ⟨by simp [hlk], by simp [hls], fun i x hi hx => ?_, fun i hi => ?_⟩
  · by_cases e : i < k
    · rw [List.getElem?_append_left (by omega), h.r i x e hx, trR_more _ (hwf i x hx) (by omega)]
    · obtain rfl : i = k := by omega
      obtain rfl : r = x := by rw [hr] at hx; exact Option.some.inj hx
      rw [List.getElem?_append_right (by omega), hlk, Nat.sub_self, trR_more _ (hwf i r hr) (by omega)]; rfl
  · by_cases e : i < k
    · obtain ⟨s, h1, h2, h3⟩ := h.s i e
      refine ⟨s, ?_, h2, ?_⟩
      · rw [getD_snoc, if_pos (by omega)]; exact h1
      · rw [List.getElem?_append_left (by omega), List.getElem?_append_left (by omega)]; exact h3
    · obtain rfl : i = k := by omega
      have hle := List.idxOf_le_length (a := trR same r) (l := kept)
      refine ⟨kept.idxOf (trR same r), ?_, by omega, ?_⟩
      · rw [getD_snoc, if_neg (by omega), if_pos (by omega)]
      · by_cases e2 : kept.idxOf (trR same r) < kept.length
        · rw [List.getElem?_append_left e2, List.getElem?_append_right (by omega), hlk, Nat.sub_self, List.getElem?_eq_getElem e2, List.getElem_idxOf]; rfl
        · rw [show kept.idxOf (trR same r) = i by omega]
theorem trK_tk {rs : List Fac} (hwf : WF rs) : ∀ (n k : Nat) (kept : List Fac) (same : List Int), TkI rs kept same k → k + n = rs.length → TkI rs (trK (rs.drop k) kept same).1 (trK (rs.drop k) kept same).2 rs.length
  | 0, k, kept, same, h, hk => by
    rw [List.drop_of_length_le (by omega)]
    have : k = rs.length := by omega
    rw [← this]; exact h
  | n + 1, k, kept, same, h, hk => by
    have hr : rs[k]? = some (rs[k]'(by omega)) := List.getElem?_eq_getElem _
    rw [drop_cons hr]
    exact trK_tk hwf n (k + 1) _ _ (h.step hwf hr) (by omega)
theorem tk_all {rs : List Fac} (hwf : WF rs) : TkI rs (trK rs [] []).1 (trK rs [] []).2 rs.length ∧ WF (trK rs [] []).1 := by
  refine ⟨trK_tk hwf rs.length 0 [] [] ⟨rfl, rfl, fun i r h => absurd h (by omega), fun i h => absurd h (by omega)⟩ (by omega), ?_⟩
  exact (trK_I hwf 0 [] [] TrI.nil rfl (by omega)).1.k
section
variable {α : Type} (d : α) (F : Nat → α) (G : α → α → Fac → α) (hG : ∀ a b r r', G a b r = G a b r')
include hG
/-- the rules told by the first equal ones have the same values -/
theorem kept_val {rs kept : List Fac} {same : List Int} (hwf : WF rs) (h : TkI rs kept same rs.length) (hwk : WF kept) : ∀ i, i < rs.length → (full d F G kept).getD i d = (full d F G rs).getD i d := by
  intro i
  induction i using Nat.strongRecOn with
  | ind i ih =>
    intro hi
    have hr : rs[i]? = some (rs[i]'hi) := List.getElem?_eq_getElem _
    have hk := h.r i _ hi hr
    have val : ∀ j, j < i → (full d F G kept).getD (same.getD j 0).toNat d = (full d F G rs).getD j d := fun j hj => by
      obtain ⟨s, h1, h2, h3⟩ := h.s j (by omega)
      rw [h1, Int.toNat_natCast, ← ih j hj (by omega)]
      have hj' : kept[j]? = some (kept[j]'(by rw [h.lk]; omega)) := List.getElem?_eq_getElem _
      exact full_same d F G hwk (h3.trans hj') hj'
    rcases hwf i _ hr with ⟨h0, a0, a1, b0, b1⟩ | ⟨c, hc, hl, _⟩
    · unfold trR at hk
      rw [if_pos h0] at hk
      rw [full_pair d F G hwk hk rfl, full_pair d F G hwf hr h0]
      show G ((full d F G kept).getD (same.getD _ 0).toNat d) ((full d F G kept).getD (same.getD _ 0).toNat d) _ = _
      rw [val _ (by omega), val _ (by omega)]
      exact hG _ _ _ _
    · have h0 : (rs[i]'hi).l.size ≠ 0 := by rw [hl]; show (1 : Nat) ≠ 0; omega
      unfold trR at hk
      rw [if_neg h0] at hk
      rw [full_let d F G hk h0, full_let d F G hr h0]
end

/-- which rules are used -/
theorem useStep_len (kept : List Fac) (i : Nat) (u : List Bool) : (useStep kept i u).length = u.length := by unfold useStep; split <;> simp
theorem set_getD {u : List Bool} {i j : Nat} (hi : i < u.length) : (u.set i true).getD j false = if i = j then true else u.getD j false := by
  rw [List.getD_eq_getElem?_getD, List.getElem?_set]
  split
  · rename_i h; subst h; simp [hi]
  · rw [← List.getD_eq_getElem?_getD]
theorem useT_I {kept : List Fac} (hwk : WF kept) : ∀ (k : Nat) (u : List Bool), k ≤ kept.length → u.length = kept.length →
    (useT kept k u).length = kept.length ∧ (∀ j, k ≤ j → (useT kept k u).getD j false = u.getD j false) ∧ (∀ j, u.getD j false = true → (useT kept k u).getD j false = true) ∧
    (∀ (i : Nat) (r : Fac), i < k → kept[i]? = some r → r.l.size = 0 → (useT kept k u).getD i false = true → (useT kept k u).getD r.a.toNat false = true ∧ (useT kept k u).getD r.b.toNat false = true) ∧
    (∀ s, (∀ j, s < j → u.getD j false = false) → ∀ j, s < j → (useT kept k u).getD j false = false)
  | 0, u, _, hl => ⟨hl, fun _ _ => rfl, fun _ h => h, fun i r h => absurd h (by omega), fun s h => h⟩
  | k + 1, u, hk, hl => by
    have hr : kept[k]? = some (kept[k]'(by omega)) := List.getElem?_eq_getElem _
    have hd : kept.getD k default = kept[k]'(by omega) := by rw [List.getD_eq_getElem?_getD, hr]; rfl
    obtain ⟨i1, i2, i3, i4, i5⟩ := useT_I hwk k (useStep kept k u) (by omega) (by rw [useStep_len, hl])
    have hst : ∀ j, (useStep kept k u).getD j false = if (u.getD k false = true ∧ (kept[k]'(by omega)).l.size = 0) ∧ (j = (kept[k]'(by omega)).a.toNat ∨ j = (kept[k]'(by omega)).b.toNat) then true else u.getD j false := by
      intro j
      unfold useStep
      rw [hd]
      by_cases hc : u.getD k false = true ∧ (kept[k]'(by omega)).l.size = 0
      · rw [if_pos hc]
        rcases hwk k _ hr with ⟨_, a0, a1, b0, b1⟩ | ⟨c, _, hl', _⟩
        · rw [set_getD (by simp; omega), set_getD (by omega)]
          by_cases h1 : j = (kept[k]'(by omega)).b.toNat
          · rw [if_pos h1.symm, if_pos ⟨hc, .inr h1⟩]
          · rw [if_neg (fun e => h1 e.symm)]
            by_cases h2 : j = (kept[k]'(by omega)).a.toNat
            · rw [if_pos h2.symm, if_pos ⟨hc, .inl h2⟩]
            · rw [if_neg (fun e => h2 e.symm), if_neg (fun e => by rcases e.2 with e | e; exact h2 e; exact h1 e)]
        · have := hc.2; rw [hl'] at this; exact absurd this (show ¬ (1 : Nat) = 0 by omega)
      · rw [if_neg hc, if_neg (fun e => hc e.1)]
    have hab : (u.getD k false = true ∧ (kept[k]'(by omega)).l.size = 0) → (kept[k]'(by omega)).a.toNat < k ∧ (kept[k]'(by omega)).b.toNat < k := fun hc => by
      rcases hwk k _ hr with ⟨_, a0, a1, b0, b1⟩ | ⟨c, _, hl', _⟩
      · omega
      · have := hc.2; rw [hl'] at this; exact absurd this (show ¬ (1 : Nat) = 0 by omega)
    have keep : ∀ j, k ≤ j → (useStep kept k u).getD j false = u.getD j false := fun j hj => by
      rw [hst j, if_neg]
      rintro ⟨hc, h | h⟩
      · have := (hab hc).1; omega
      · have := (hab hc).2; omega
    refine ⟨i1, fun j hj => (i2 j (by omega)).trans (keep j (by omega)), fun j hj => i3 j (by rw [hst j]; split; rfl; exact hj), fun i r hi hir h0 hu => ?_, fun s hs j hj => ?_⟩
    · by_cases e : i < k
      · exact i4 i r e hir h0 hu
      · obtain rfl : i = k := by omega
        have hxr : kept[i]'(by omega) = r := by rw [hr] at hir; exact Option.some.inj hir
        rw [← hxr] at h0 ⊢
        have h1 : u.getD i false = true := by
          have := hu
          show _
          rw [show useT kept (i + 1) u = useT kept i (useStep kept i u) from rfl, i2 i (Nat.le_refl _), keep i (Nat.le_refl _)] at this
          exact this
        exact ⟨i3 _ (by rw [hst _, if_pos ⟨⟨h1, h0⟩, .inl rfl⟩]), i3 _ (by rw [hst _, if_pos ⟨⟨h1, h0⟩, .inr rfl⟩])⟩
    · refine i5 s (fun j' hj' => ?_) j hj
      rw [hst j']
      split
      · rename_i hc
        exfalso
        have h1 := hab hc.1
        have h2 : ¬ s < k := fun h => by have := hs k h; rw [hc.1.1] at this; cases this
        rcases hc.2 with h | h <;> omega
      · exact hs j' hj'

section
variable {α : Type} (d : α) (F : Nat → α) (G : α → α → Fac → α) (hG : ∀ a b r r', G a b r = G a b r')
/-- the rules that are left, under way -/
structure OutI (kept : List Fac) (used : List Bool) (i : Nat) (out : List Fac) (at_ : List Int) : Prop where
  wf : WF out
  la : at_.length = kept.length
  v : ∀ j, j < i → used.getD j false = true → ∃ p : Nat, at_.getD j 0 = (p : Int) ∧ p < out.length ∧ (full d F G out).getD p d = (full d F G kept).getD j d
  p : ∀ p, p < out.length → ∃ j, j < kept.length ∧ (full d F G out).getD p d = (full d F G kept).getD j d
  z : ∀ s, s < i → used.getD s false = true → (∀ j, s < j → used.getD j false = false) → 0 < out.length ∧ at_.getD s 0 = (out.length : Int) - 1
include hG
theorem outT_I {kept : List Fac} {used : List Bool} (hwk : WF kept) (hu : ∀ (i : Nat) (r : Fac), kept[i]? = some r → r.l.size = 0 → used.getD i false = true → used.getD r.a.toNat false = true ∧ used.getD r.b.toNat false = true) :
    ∀ (n i : Nat) (out : List Fac) (at_ : List Int), i + n = kept.length → OutI d F G kept used i out at_ → ∃ at2, OutI d F G kept used kept.length (outT used i (kept.drop i) out at_) at2
  | 0, i, out, at_, hi, h => by
    rw [List.drop_of_length_le (by omega)]
    have : i = kept.length := by omega
    subst this
    exact ⟨at_, h⟩
  | n + 1, i, out, at_, hi, h => by
    have hr : kept[i]? = some (kept[i]'(by omega)) := List.getElem?_eq_getElem _
    rw [drop_cons hr, outT]
    by_cases hui : used.getD i false = true
    · rw [if_pos hui]
      refine outT_I hwk hu n (i + 1) _ _ (by omega) ?_
      have hval : WF (out ++ [trR at_ (kept[i]'(by omega))]) ∧ fStep d F G (full d F G out) (trR at_ (kept[i]'(by omega))) = (full d F G kept).getD i d := by
        rcases hwk i _ hr with ⟨h0, a0, a1, b0, b1⟩ | ⟨c, hc, hl, ha, hb⟩
        · obtain ⟨ua, ub⟩ := hu i _ hr h0 hui
          obtain ⟨p, p1, p2, p3⟩ := h.v _ (by omega) ua
          obtain ⟨q, q1, q2, q3⟩ := h.v _ (by omega) ub
          have e : trR at_ (kept[i]'(by omega)) = ⟨⟨#[]⟩, (p : Int), (q : Int)⟩ := by unfold trR; rw [if_pos h0, p1, q1]
          rw [e]
          refine ⟨wf_snoc h.wf ⟨by omega, by omega⟩ ⟨by omega, by omega⟩, ?_⟩
          rw [full_pair d F G hwk hr h0, ← p3, ← q3]
          show (if (0 : Nat) = 0 then G ((full d F G out).getD (p : Int).toNat d) ((full d F G out).getD (q : Int).toNat d) _ else _) = _
          rw [if_pos rfl, Int.toNat_natCast, Int.toNat_natCast]
          exact hG _ _ _ _
        · have h0 : (kept[i]'(by omega)).l.size ≠ 0 := by rw [hl]; show (1 : Nat) ≠ 0; omega
          have e : trR at_ (kept[i]'(by omega)) = kept[i]'(by omega) := by unfold trR; rw [if_neg h0]
          rw [e, full_let d F G hr h0]
          refine ⟨fun k r hk => ?_, by unfold fStep; rw [if_neg h0]⟩
          by_cases hlt : k < out.length
          · rw [List.getElem?_append_left hlt] at hk; exact h.wf k r hk
          · rw [List.getElem?_append_right (by omega)] at hk
            have : r = kept[i]'(by omega) := by
              have h2 := (List.getElem?_eq_some_iff.1 hk).1
              simp only [List.length_cons, List.length_nil] at h2
              rw [show k - out.length = 0 by omega] at hk
              exact (Option.some.inj hk).symm
            subst this
            exact .inr ⟨c, hc, hl, ha, hb⟩
      refine ⟨hval.1, by simp [h.la], fun j hj hj2 => ?_, fun p hp => ?_, fun s hs hs2 hs3 => ?_⟩
      · by_cases e : j = i
        · subst e
          refine ⟨out.length, ?_, by simp, ?_⟩
          · rw [List.getD_eq_getElem?_getD, List.getElem?_set_self (by rw [h.la]; omega)]; rfl
          · rw [full_new, hval.2]
        · obtain ⟨p, p1, p2, p3⟩ := h.v j (by omega) hj2
          refine ⟨p, ?_, by simp; omega, ?_⟩
          · rw [List.getD_eq_getElem?_getD, List.getElem?_set_ne (fun e' => e e'.symm), ← List.getD_eq_getElem?_getD]; exact p1
          · rw [full_old d F G _ _ p2]; exact p3
      · simp only [List.length_append, List.length_singleton] at hp
        by_cases e : p < out.length
        · obtain ⟨j, j1, j2⟩ := h.p p e
          exact ⟨j, j1, by rw [full_old d F G _ _ e]; exact j2⟩
        · obtain rfl : p = out.length := by omega
          exact ⟨i, by omega, by rw [full_new, hval.2]⟩
      · by_cases e : s = i
        · subst e
          refine ⟨by simp, ?_⟩
          rw [List.getD_eq_getElem?_getD, List.getElem?_set_self (by rw [h.la]; omega)]
          simp
        · exfalso
          have := hs3 i (by omega)
          rw [hui] at this; cases this
    · rw [if_neg hui]
      refine outT_I hwk hu n (i + 1) _ _ (by omega) ⟨h.wf, h.la, fun j hj hj2 => ?_, h.p, fun s hs hs2 hs3 => ?_⟩
      · by_cases e : j = i
        · subst e; exact absurd hj2 hui
        · exact h.v j (by omega) hj2
      · by_cases e : s = i
        · subst e; exact absurd hs2 hui
        · exact h.z s (by omega) hs2 hs3
/-- the last value, and where each value comes from -/
theorem trim_val {rs : List Fac} (hwf : WF rs) (h0 : 0 < rs.length) : WF (trimL rs) ∧ 0 < (trimL rs).length ∧ (full d F G (trimL rs)).getD ((trimL rs).length - 1) d = (full d F G rs).getD (rs.length - 1) d ∧
    ∀ p, p < (trimL rs).length → ∃ j, j < rs.length ∧ (full d F G (trimL rs)).getD p d = (full d F G rs).getD j d := by
  obtain ⟨hT, hwk⟩ := tk_all hwf
  have hkv := kept_val d F G hG hwf hT hwk
  have htr : trimL rs = outT (useT (trK rs [] []).1 rs.length (use0 rs.length (trK rs [] []).2)) 0 (trK rs [] []).1 [] (List.replicate rs.length 0) := by unfold trimL; rw [if_neg (by omega)]
  rw [htr]
  generalize (trK rs [] []).1 = kept at *
  generalize (trK rs [] []).2 = same at *
  obtain ⟨s, h1, h2, h3⟩ := hT.s (rs.length - 1) (by omega)
  have hlk := hT.lk
  have hu0 : ∀ j, (use0 rs.length same).getD j false = decide (j = s) := fun j => by
    unfold use0
    rw [h1, Int.toNat_natCast, set_getD (by simp; omega)]
    by_cases e : s = j
    · rw [if_pos e]; simp [e]
    · rw [if_neg e, List.getD_eq_getElem?_getD, List.getElem?_replicate]
      have : decide (j = s) = false := by simp; exact fun h => e h.symm
      rw [this]; split <;> rfl
  obtain ⟨u1, u2, u3, u4, u5⟩ := useT_I hwk rs.length (use0 rs.length same) (by omega) (by unfold use0; simp [hlk])
  have hus : (useT kept rs.length (use0 rs.length same)).getD s false = true := u3 s (by rw [hu0]; simp)
  have hul : ∀ j, s < j → (useT kept rs.length (use0 rs.length same)).getD j false = false := u5 s (fun j hj => by rw [hu0]; simp; omega)
  obtain ⟨at2, hO⟩ := outT_I d F G hG hwk (fun i r hi h0 hu => u4 i r (by have := (List.getElem?_eq_some_iff.1 hi).1; omega) hi h0 hu) kept.length 0 [] (List.replicate rs.length 0) (by omega)
    ⟨wf_nil, by simp [hlk], fun j hj => absurd hj (by omega), fun p hp => absurd hp (by simp), fun s hs => absurd hs (by omega)⟩
  rw [List.drop_zero] at hO
  obtain ⟨z1, z2⟩ := hO.z s (by omega) hus hul
  obtain ⟨p, p1, p2, p3⟩ := hO.v s (by omega) hus
  refine ⟨hO.wf, z1, ?_, fun p hp => ?_⟩
  · have : p = (outT (useT kept rs.length (use0 rs.length same)) 0 kept [] (List.replicate rs.length 0)).length - 1 := by omega
    rw [← this, p3, hkv s (by omega), ← hkv (rs.length - 1) (by omega), ← hkv s (by omega)]
    have hj' : kept[rs.length - 1]? = some (kept[rs.length - 1]'(by omega)) := List.getElem?_eq_getElem _
    exact full_same d F G hwk (h3.trans hj') hj'
  · obtain ⟨j, j1, j2⟩ := hO.p p hp
    exact ⟨j, by omega, by rw [j2]; exact hkv j (by omega)⟩
end

/-- a grammar whose lengths are not too great is valid -/
theorem gLens_of {rs : List Fac} (hwf : WF rs) (hb : ∀ k, k < rs.length → (full 0 lenF lenG rs).getD k 0 ≤ 1000000000000000) : ∀ (n k : Nat), k + n = rs.length → (gLens (rs.drop k) (outs 0 lenF lenG rs k)).isSome = true
  | 0, k, hk => by rw [List.drop_of_length_le (by omega)]; rfl
  | n + 1, k, hk => by
    have hr : rs[k]? = some (rs[k]'(by omega)) := List.getElem?_eq_getElem _
    rw [drop_cons hr]
    have hol : (outs 0 lenF lenG rs k).length = k := outs_len 0 lenF lenG rs k (by omega)
    have hst : gStep (outs 0 lenF lenG rs k) (rs[k]'(by omega)) = some (fStep 0 lenF lenG (outs 0 lenF lenG rs k) (rs[k]'(by omega))) := by
      have hv := hb k (by omega)
      rw [full_at 0 lenF lenG hr] at hv
      unfold gStep
      unfold fStep at hv ⊢
      rcases hwf k _ hr with ⟨h0, a0, a1, b0, b1⟩ | ⟨c, hc, hl, ha, hb'⟩
      · rw [if_pos h0] at hv ⊢
        rw [if_pos h0, if_pos ⟨a0, by omega, b0, by omega, hv⟩]; rfl
      · have h0 : (rs[k]'(by omega)).l.size ≠ 0 := by rw [hl]; show (1 : Nat) ≠ 0; omega
        rw [if_neg h0, if_neg h0, if_pos ⟨by rw [hl]; exact hc, ha, hb'⟩]; rfl
    unfold gLens
    rw [hst]
    show (gLens (rs.drop (k + 1)) (outs 0 lenF lenG rs k ++ [fStep 0 lenF lenG (outs 0 lenF lenG rs k) (rs[k]'(by omega))])).isSome = true
    rw [← outs_step 0 lenF lenG hr]
    exact gLens_of hwf hb n (k + 1) (by omega)
/-- a trimmed grammar is valid, if it has not too many rules -/
theorem trim_ok {rs : List Fac} (hwf : WF rs) (hb : ∀ k, k < rs.length → (full 0 lenF lenG rs).getD k 0 ≤ 1000000000000000) (hn : (trimL rs).length ≤ 400) : (gOk (trimL rs)).isSome = true := by
  unfold gOk
  rw [if_neg (by omega)]
  by_cases h0 : rs.length = 0
  · have : trimL rs = [] := by unfold trimL; rw [if_pos h0]
    rw [this]; rfl
  · obtain ⟨h1, h2, _, h4⟩ := trim_val 0 lenF lenG (fun _ _ _ _ => rfl) hwf (by omega)
    have := gLens_of h1 (fun k hk => by obtain ⟨j, j1, j2⟩ := h4 k hk; rw [j2]; exact hb j j1) (trimL rs).length 0 (by omega)
    simpa [outs, foldG] using this
end Go.Proofs.Ytikhjoianbndhaa


/-
  The grammar of the phrases of a word: the plain part.
-/
namespace Go.Proofs.Ytikhjoianbndhaa

/-- the length of a rule's word -/
def lenV (rs : List Fac) (k : Nat) : Int := (full 0 lenF lenG rs).getD k 0
theorem lenV_old (rs : List Fac) (y : Fac) {k : Nat} (h : k < rs.length) : lenV (rs ++ [y]) k = lenV rs k := full_old 0 lenF lenG rs y h
theorem lenV_new (rs : List Fac) (a b : Int) : lenV (rs ++ [⟨⟨#[]⟩, a, b⟩]) rs.length = lenV rs a.toNat + lenV rs b.toNat := by
  unfold lenV
  rw [full_new]
  rfl
/-- rules made of a list of rules, one behind the other -/
def chF : List Int → Int → Nat → List Fac
  | [], _, _ => []
  | c :: cs, b, n => ⟨⟨#[]⟩, b, c⟩ :: chF cs (n : Int) (n + 1)
def chainL (rs : List Fac) : List Int → List Fac
  | [] => rs
  | k :: cs => rs ++ chF cs k rs.length
theorem chF_len : ∀ (cs : List Int) (b : Int) (n : Nat), (chF cs b n).length = cs.length
  | [], _, _ => rfl
  | _ :: cs, b, n => by simp [chF, chF_len cs]
theorem chainL_len (rs : List Fac) (pl : List Int) : (chainL rs pl).length = rs.length + (pl.length - 1) := by
  cases pl with
  | nil => rfl
  | cons k cs => simp [chainL, chF_len]
def sumV (rs : List Fac) (cs : List Int) : Int := (cs.map fun c => lenV rs c.toNat).sum
theorem sumV_old (rs : List Fac) (y : Fac) : ∀ (cs : List Int), (∀ c ∈ cs, 0 ≤ c ∧ c < rs.length) → sumV (rs ++ [y]) cs = sumV rs cs
  | [], _ => rfl
  | c :: cs, h => by
    have h1 := h c (by simp)
    have h2 := sumV_old rs y cs (fun d hd => h d (by simp [hd]))
    unfold sumV at h2 ⊢
    simp only [List.map_cons, List.sum_cons]
    rw [h2, lenV_old rs y (by omega)]
theorem chF_ok {B : Int} : ∀ (cs : List Int) (b : Int) (rs : List Fac), WF rs → (∀ k, k < rs.length → 0 ≤ lenV rs k ∧ lenV rs k ≤ B) → (0 ≤ b ∧ b < rs.length) → (∀ c ∈ cs, 0 ≤ c ∧ c < rs.length) → lenV rs b.toNat + sumV rs cs ≤ B →
    WF (rs ++ chF cs b rs.length) ∧ ∀ k, k < (rs ++ chF cs b rs.length).length → lenV (rs ++ chF cs b rs.length) k ≤ B
  | [], b, rs, hwf, hb, _, _, _ => by
    simp only [chF, List.append_nil]
    exact ⟨hwf, fun k hk => (hb k hk).2⟩
  | c :: cs, b, rs, hwf, hb, h1, h2, h3 => by
    have hc := h2 c (by simp)
    have e : rs ++ chF (c :: cs) b rs.length = (rs ++ [(⟨⟨#[]⟩, b, c⟩ : Fac)]) ++ chF cs ((rs.length : Nat) : Int) (rs ++ [(⟨⟨#[]⟩, b, c⟩ : Fac)]).length := by
      rw [List.append_assoc, List.length_append]; rfl
    have h4 := lenV_new rs b c
    have h5 : ∀ cs : List Int, (∀ c ∈ cs, 0 ≤ c ∧ c < rs.length) → 0 ≤ sumV rs cs := by
      intro cs
      induction cs with
      | nil => intro _; simp [sumV]
      | cons d cs ih =>
        intro h
        have i1 := ih (fun d hd => h d (by simp [hd]))
        have i2 := h d (by simp)
        have i3 := (hb d.toNat (by omega)).1
        unfold sumV at i1 ⊢
        simp only [List.map_cons, List.sum_cons]
        omega
    have h2' : ∀ d ∈ cs, 0 ≤ d ∧ d < (rs.length : Int) := fun d hd => h2 d (by simp [hd])
    have h6 := h5 cs h2'
    have h7 := (hb b.toNat (by omega)).1
    have h8 := (hb c.toNat (by omega)).1
    have h9 : sumV rs (c :: cs) = lenV rs c.toNat + sumV rs cs := by unfold sumV; simp
    rw [h9] at h3
    rw [e]
    refine chF_ok (B := B) cs ((rs.length : Nat) : Int) (rs ++ [⟨⟨#[]⟩, b, c⟩]) (wf_snoc hwf h1 hc) (fun k hk => ?_) (And.intro (by omega) (by simp; omega)) (fun d hd => ?_) ?_
    · by_cases hk' : k < rs.length
      · rw [lenV_old _ _ hk']; exact hb k hk'
      · obtain rfl : k = rs.length := by simp at hk; omega
        rw [h4]; omega
    · have := h2' d hd
      simp; omega
    · rw [Int.toNat_natCast, h4, sumV_old _ _ _ h2']; omega

/-- the numbers of texts -/
abbrev NumF := ByteArray → Option Int
def numPut (m : NumF) (p : ByteArray) (k : Int) : NumF := fun x => if x = p then some k else m x
/-- texts of one letter are told by the letter's place -/
def headB (x : ByteArray) : UInt8 := x.data.toList.headD 0
def num0 (ks : List UInt8) : NumF := fun x => if x.size = 1 ∧ headB x ∈ ks then some ((ks.idxOf (headB x) : Nat) : Int) else none
theorem num0_snoc {ks : List UInt8} {c : UInt8} (h : c ∉ ks) : num0 (ks ++ [c]) = numPut (num0 ks) ⟨#[c]⟩ ks.length := by
  funext x
  unfold numPut
  by_cases hx : x = ⟨#[c]⟩
  · subst hx
    rw [if_pos rfl]
    unfold num0
    rw [if_pos ⟨rfl, by simp [headB]⟩]
    have : headB ⟨#[c]⟩ = c := rfl
    rw [this, List.idxOf_append, if_neg h]
    simp
  · rw [if_neg hx]
    unfold num0
    by_cases h1 : x.size = 1
    · obtain ⟨d, rfl⟩ := one_byte h1
      have hd : headB ⟨#[d]⟩ = d := rfl
      have hdc : d ≠ c := fun e => hx (by rw [e])
      rw [hd]
      by_cases hm : d ∈ ks
      · rw [if_pos ⟨h1, by simp [hm]⟩, if_pos ⟨h1, hm⟩, List.idxOf_append, if_pos hm]
      · rw [if_neg (by simp [hm, hdc]), if_neg (by simp [hm])]
    · rw [if_neg (fun q => h1 q.1), if_neg (fun q => h1 q.1)]
def lastS (p : ByteArray) : ByteArray := p.extract (p.size - 1) p.size
theorem extract_mem {p : ByteArray} {a b : Nat} {c : UInt8} (h : c ∈ (p.extract a b).data.toList) : c ∈ p.data.toList := by
  rw [ByteArray.data_extract, Array.toList_extract, List.extract_eq_take_drop] at h
  exact List.mem_of_mem_drop (List.mem_of_mem_take h)
theorem lastS_one {p : ByteArray} (h : 0 < p.size) : ∃ c, c ∈ p.data.toList ∧ lastS p = ⟨#[c]⟩ := by
  obtain ⟨c, hc⟩ := one_byte (s := lastS p) (by unfold lastS; rw [ByteArray.size_extract]; omega)
  refine ⟨c, ?_, hc⟩
  have : c ∈ (lastS p).data.toList := by rw [hc]; simp
  exact extract_mem this

structure PhS where
  rs : List Fac
  m : NumF
  pl : List Int
def phStep (s : PhS) (p : ByteArray) : PhS := match s.m p with
  | some k => ⟨s.rs, s.m, s.pl ++ [k]⟩
  | none => ⟨s.rs ++ [⟨⟨#[]⟩, (s.m (initS p)).getD 0, (s.m (lastS p)).getD 0⟩], numPut s.m p s.rs.length, s.pl ++ [(s.rs.length : Int)]⟩
def phGo : List ByteArray → PhS → PhS
  | [], s => s
  | p :: r, s => phGo r (phStep s p)
structure PhI (w : List UInt8) (s : PhS) (done : List ByteArray) : Prop where
  wf : WF s.rs
  bd : ∀ k, k < s.rs.length → 0 ≤ lenV s.rs k ∧ lenV s.rs k ≤ 2000
  mv : ∀ x k, s.m x = some k → 0 ≤ k ∧ k < s.rs.length ∧ lenV s.rs k.toNat = x.size
  mc : ∀ c ∈ w, s.m ⟨#[c]⟩ = some (atP w c)
  md : ∀ q ∈ done, (s.m q).isSome = true
  mn : ∀ x k, s.m x = some k → x ∈ done ∨ x.size = 1
  pv : s.pl = done.map fun q => (s.m q).getD 0
theorem PhI.known {w : List UInt8} {s : PhS} {done : List ByteArray} {p : ByteArray} {k : Int} (h : PhI w s done) (hm : s.m p = some k) : PhI w ⟨s.rs, s.m, s.pl ++ [k]⟩ (done ++ [p]) := by
  refine ⟨h.wf, h.bd, h.mv, h.mc, fun q hq => ?_, fun x j hx => ?_, ?_⟩
  · rcases List.mem_append.1 hq with hq | hq
    · exact h.md q hq
    · obtain rfl : q = p := by simpa using hq
      show (s.m q).isSome = true
      rw [hm]; rfl
  · rcases h.mn x j hx with q | q
    · exact .inl (by simp [q])
    · exact .inr q
  · show s.pl ++ [k] = _
    rw [List.map_append, h.pv]
    simp [hm]
/-- what a new phrase is made of -/
theorem PhI.parts {w : List UInt8} {s : PhS} {done : List ByteArray} {p : ByteArray} (h : PhI w s done) (hm : s.m p = none) (h0 : 0 < p.size) (hl : ∀ c ∈ p.data.toList, c ∈ w) (hb : p.size ≤ 1 ∨ initS p ∈ done ∨ p ∈ done) :
    1 < p.size ∧ initS p ∈ done ∧ ∃ a b, s.m (initS p) = some a ∧ s.m (lastS p) = some b := by
  have h1 : 1 < p.size := by
    rcases Nat.lt_or_ge 1 p.size with q | q
    · exact q
    · obtain ⟨c, rfl⟩ := one_byte (s := p) (by omega)
      have := h.mc c (hl c (by simp))
      rw [hm] at this; cases this
  have h2 : initS p ∈ done := by
    rcases hb with q | q | q
    · omega
    · exact q
    · have := h.md p q
      rw [hm] at this; cases this
  obtain ⟨c, hc, hce⟩ := lastS_one h0
  have h3 := h.md _ h2
  refine ⟨h1, h2, ((s.m (initS p)).getD 0), atP w c, ?_, by rw [hce]; exact h.mc c (hl c hc)⟩
  cases e : s.m (initS p) with
  | none => rw [e] at h3; cases h3
  | some a => rfl
theorem PhI.fresh {w : List UInt8} {s : PhS} {done : List ByteArray} {p : ByteArray} (h : PhI w s done) (hm : s.m p = none) (h0 : 0 < p.size) (h2000 : p.size ≤ 2000) (hl : ∀ c ∈ p.data.toList, c ∈ w) (hb : p.size ≤ 1 ∨ initS p ∈ done ∨ p ∈ done) :
    PhI w ⟨s.rs ++ [⟨⟨#[]⟩, (s.m (initS p)).getD 0, (s.m (lastS p)).getD 0⟩], numPut s.m p s.rs.length, s.pl ++ [(s.rs.length : Int)]⟩ (done ++ [p]) := by
  obtain ⟨h1, h2, a, b, ha, hbb⟩ := h.parts hm h0 hl hb
  have va := h.mv _ _ ha
  have vb := h.mv _ _ hbb
  have la : (initS p).size = p.size - 1 := by unfold initS; rw [ByteArray.size_extract]; omega
  have lb : (lastS p).size = 1 := by unfold lastS; rw [ByteArray.size_extract]; omega
  have hne : ∀ x, (s.m x).isSome = true → x ≠ p := fun x hx e => by subst e; rw [hm] at hx; cases hx
  have hold : ∀ x, (s.m x).isSome = true → numPut s.m p s.rs.length x = s.m x := fun x hx => by unfold numPut; rw [if_neg (hne x hx)]
  rw [ha, hbb]
  simp only [Option.getD_some]
  have hnew := lenV_new s.rs a b
  rw [va.2.2, vb.2.2] at hnew
  refine ⟨wf_snoc h.wf ⟨va.1, va.2.1⟩ ⟨vb.1, vb.2.1⟩, fun k hk => ?_, fun x k hx => ?_, fun c hc => ?_, fun q hq => ?_, fun x k hx => ?_, ?_⟩
  · by_cases hk' : k < s.rs.length
    · show 0 ≤ lenV (s.rs ++ _) k ∧ lenV (s.rs ++ _) k ≤ 2000
      rw [lenV_old _ _ hk']; exact h.bd k hk'
    · obtain rfl : k = s.rs.length := by simp at hk; omega
      show 0 ≤ lenV (s.rs ++ _) s.rs.length ∧ lenV (s.rs ++ _) s.rs.length ≤ 2000
      rw [hnew]; omega
  · simp only [numPut] at hx
    split at hx
    · rename_i e
      obtain rfl : (s.rs.length : Int) = k := by simpa using hx
      subst e
      refine ⟨by omega, by simp; omega, ?_⟩
      show lenV (s.rs ++ _) _ = _
      rw [Int.toNat_natCast, hnew]; omega
    · have := h.mv x k hx
      refine ⟨this.1, by simp; omega, ?_⟩
      show lenV (s.rs ++ _) _ = _
      rw [lenV_old _ _ (by omega)]; exact this.2.2
  · have := h.mc c hc
    show numPut s.m p s.rs.length _ = _
    rw [hold _ (by rw [this]; rfl), this]
  · show (numPut s.m p s.rs.length q).isSome = true
    rcases List.mem_append.1 hq with hq | hq
    · rw [hold _ (h.md q hq)]; exact h.md q hq
    · obtain rfl : q = p := by simpa using hq
      simp [numPut]
  · simp only [numPut] at hx
    split at hx
    · rename_i e
      subst e
      exact .inl (by simp)
    · rcases h.mn x k hx with q | q
      · exact .inl (by simp [q])
      · exact .inr q
  · show s.pl ++ [(s.rs.length : Int)] = _
    rw [List.map_append, h.pv]
    congr 1
    · refine List.map_congr_left fun q hq => ?_
      show _ = (numPut s.m p s.rs.length q).getD 0
      rw [hold _ (h.md q hq)]
    · simp [numPut]
theorem PhI.step {w : List UInt8} {s : PhS} {done : List ByteArray} {p : ByteArray} (h : PhI w s done) (h0 : 0 < p.size) (h2000 : p.size ≤ 2000) (hl : ∀ c ∈ p.data.toList, c ∈ w) (hb : p.size ≤ 1 ∨ initS p ∈ done ∨ p ∈ done) : PhI w (phStep s p) (done ++ [p]) := by
  unfold phStep
  split
  · rename_i k hk
    exact h.known hk
  · rename_i hk
    exact h.fresh hk h0 h2000 hl hb
/-- what is asked of a list of phrases -/
def PhOk (w : List UInt8) (ps : List ByteArray) : Prop := ∀ i p, ps[i]? = some p → 0 < p.size ∧ p.size ≤ 2000 ∧ (∀ c ∈ p.data.toList, c ∈ w) ∧ (p.size ≤ 1 ∨ initS p ∈ ps.take i ∨ p ∈ ps.take i)
theorem PhI.go {w : List UInt8} {ps : List ByteArray} (hok : PhOk w ps) : ∀ (n i : Nat) (s : PhS), i + n = ps.length → PhI w s (ps.take i) → PhI w (phGo (ps.drop i) s) ps
  | 0, i, s, hi, h => by
    rw [List.drop_of_length_le (by omega)]
    rw [List.take_of_length_le (by omega)] at h
    exact h
  | n + 1, i, s, hi, h => by
    have hp : ps[i]? = some (ps[i]'(by omega)) := List.getElem?_eq_getElem _
    obtain ⟨h0, h1, h2, h3⟩ := hok i _ hp
    rw [drop_cons hp]
    refine PhI.go hok n (i + 1) _ (by omega) ?_
    rw [List.take_succ_eq_append_getElem (by omega)]
    exact h.step h0 h1 h2 h3
theorem phGo_grow : ∀ (ps : List ByteArray) (s : PhS), s.rs.length ≤ (phGo ps s).rs.length ∧ (phGo ps s).pl.length = s.pl.length + ps.length ∧ (phGo ps s).rs.length ≤ s.rs.length + ps.length
  | [], s => by simp [phGo]
  | p :: r, s => by
    have := phGo_grow r (phStep s p)
    have h1 : s.rs.length ≤ (phStep s p).rs.length ∧ (phStep s p).pl.length = s.pl.length + 1 ∧ (phStep s p).rs.length ≤ s.rs.length + 1 := by
      unfold phStep; split <;> simp
    simp only [phGo, List.length_cons]; omega
end Go.Proofs.Ytikhjoianbndhaa


/-
  The grammar of the phrases of a word: where the rounds begin and what they leave.
-/
namespace Go.Proofs.Ytikhjoianbndhaa

theorem ksP_let {w : List UInt8} {c : UInt8} (h : c ∈ ksP w) : letB c = true := by
  unfold ksP at h
  have := (List.mem_filter.1 h).1
  simp only [List.mem_cons, List.not_mem_nil, or_false] at this
  rcases this with rfl | rfl | rfl | rfl <;> rfl
theorem ksP_nodup (w : List UInt8) : (ksP w).Nodup := by
  unfold ksP
  exact List.Pairwise.filter _ (show ([97, 98, 99, 100] : List UInt8).Nodup by decide)
theorem letters_at {w : List UInt8} {k : Nat} {r : Fac} (hr : (lettersP w)[k]? = some r) : ∃ c, (ksP w)[k]? = some c ∧ r = ruleC c := by
  unfold lettersP at hr
  rw [List.getElem?_map, Option.map_eq_some_iff] at hr
  obtain ⟨c, hc, rfl⟩ := hr
  exact ⟨c, hc, rfl⟩
theorem letters_wf (w : List UInt8) : WF (lettersP w) := fun k r hr => by
  obtain ⟨c, hc, rfl⟩ := letters_at hr
  exact .inr ⟨c, ksP_let (List.mem_of_getElem? hc), rfl, rfl, rfl⟩
theorem letters_lenV (w : List UInt8) {k : Nat} (hk : k < (lettersP w).length) : lenV (lettersP w) k = 1 := by
  unfold lenV
  obtain ⟨r, hr⟩ : ∃ r, (lettersP w)[k]? = some r := ⟨_, List.getElem?_eq_getElem hk⟩
  obtain ⟨c, hc, rfl⟩ := letters_at hr
  exact full_let 0 lenF lenG hr (show (1 : Nat) ≠ 0 by omega)
theorem num0_some {ks : List UInt8} {x : ByteArray} {k : Int} (h : num0 ks x = some k) : x.size = 1 ∧ headB x ∈ ks ∧ k = ((ks.idxOf (headB x) : Nat) : Int) := by
  unfold num0 at h
  split at h
  · rename_i q
    exact ⟨q.1, q.2, by injection h with h; exact h.symm⟩
  · cases h
def phg0 (w : List UInt8) : PhS := ⟨lettersP w, num0 (ksP w), []⟩
theorem phI_init {w : List UInt8} (hl : ∀ c ∈ w, letB c = true) : PhI w (phg0 w) [] := by
  refine ⟨letters_wf w, fun k hk => ?_, fun x k hx => ?_, fun c hc => ?_, fun q hq => by simp at hq, fun x k hx => .inr (num0_some hx).1, rfl⟩
  · show 0 ≤ lenV (lettersP w) k ∧ lenV (lettersP w) k ≤ 2000
    rw [letters_lenV w hk]; omega
  · obtain ⟨h1, h2, rfl⟩ := num0_some hx
    have h3 := List.idxOf_lt_length_of_mem h2
    have h4 : (lettersP w).length = (ksP w).length := by unfold lettersP; simp
    refine ⟨by omega, ?_, ?_⟩
    · show _ < (((lettersP w).length : Nat) : Int)
      omega
    · show lenV (lettersP w) _ = _
      rw [letters_lenV w (by simp; omega), h1]; rfl
  · show num0 (ksP w) _ = _
    unfold num0
    rw [if_pos ⟨rfl, mem_ks hc (hl c hc)⟩]; rfl
theorem mem_catS {c : UInt8} : ∀ {out : List ByteArray} {p : ByteArray}, p ∈ out → c ∈ p.data.toList → c ∈ (catS out).data.toList
  | [], _, hp, _ => by simp at hp
  | x :: r, p, hp, hc => by
    rw [catS, ByteArray.data_append, Array.toList_append, List.mem_append]
    rcases List.mem_cons.1 hp with rfl | hp
    · exact .inl hc
    · exact .inr (mem_catS hp hc)
theorem size_catS : ∀ {out : List ByteArray} {p : ByteArray}, p ∈ out → p.size ≤ (catS out).size
  | [], _, hp => by simp at hp
  | x :: r, p, hp => by
    rw [catS, ByteArray.size_append]
    rcases List.mem_cons.1 hp with rfl | hp
    · omega
    · have := size_catS hp; omega
theorem cat_phr (s : ByteArray) : catS (phr s 0 []) = s := by
  rw [(phr_all s).cat]; simp
theorem phOk_of {s : ByteArray} (hs : s.size ≤ 2000) : PhOk s.data.toList (phr s 0 []) := by
  have I := phr_all s
  have hc := cat_phr s
  intro i p hp
  have hm := List.mem_of_getElem? hp
  refine ⟨I.pos i p hp, ?_, fun c hcp => ?_, ?_⟩
  · have := size_catS hm
    rw [hc] at this; omega
  · have := mem_catS hm hcp
    rw [hc] at this; exact this
  · rcases I.before i p hp with q | ⟨k, q, hk, hq, e⟩
    · exact .inl q
    · have hmk : q ∈ (phr s 0 []).take i := by
        refine List.mem_of_getElem? (i := k) ?_
        rw [List.getElem?_take, if_pos hk]; exact hq
      rcases e with rfl | rfl
      · exact .inr (.inl hmk)
      · exact .inr (.inr hmk)
theorem sum_phr {w : List UInt8} {S : PhS} {ps : List ByteArray} (h : PhI w S ps) : ∀ qs : List ByteArray, (∀ q ∈ qs, q ∈ ps) → sumV S.rs (qs.map fun q => (S.m q).getD 0) = ((catS qs).size : Int)
  | [], _ => rfl
  | q :: qs, hq => by
    have ih := sum_phr h qs (fun x hx => hq x (by simp [hx]))
    have h1 := h.md q (hq q (by simp))
    unfold sumV at ih ⊢
    simp only [List.map_cons, List.sum_cons]
    rw [ih, catS, ByteArray.size_append]
    cases e : S.m q with
    | none => rw [e] at h1; cases h1
    | some k => rw [Option.getD_some, (h.mv q k e).2.2]; simp
/-- all rules, the last ones for the whole word -/
def phgS (s : ByteArray) : PhS := phGo (phr s 0 []) (phg0 s.data.toList)
def phgL (s : ByteArray) : List Fac := chainL (phgS s).rs (phgS s).pl
theorem phgS_ok {s : ByteArray} (ho : okW s = true) : PhI s.data.toList (phgS s) (phr s 0 []) := by
  have h1 : ∀ c ∈ s.data.toList, letB c = true := by
    unfold okW at ho
    simp only [Bool.and_eq_true, List.all_eq_true] at ho
    exact ho.2
  have := PhI.go (phOk_of (okW_len2 ho)) (phr s 0 []).length 0 (phg0 s.data.toList) (by omega) (by rw [List.take_zero]; exact phI_init h1)
  rw [List.drop_zero] at this
  exact this
theorem phr_len' {s : ByteArray} (ho : okW s = true) : (phr s 0 []).length ≤ 2000 := by
  have h1 := phr_len s 0 []
  have h2 := okW_len2 ho
  simp at h1; omega
theorem phgS_len {s : ByteArray} (ho : okW s = true) : (phgS s).rs.length ≤ 2004 ∧ (phgS s).pl.length ≤ 2000 := by
  have h1 := phGo_grow (phr s 0 []) (phg0 s.data.toList)
  have h2 := phr_len' ho
  have h3 := ksP_len s.data.toList
  have h4 : (phg0 s.data.toList).rs.length = (ksP s.data.toList).length := by simp [phg0, lettersP]
  have h5 : (phg0 s.data.toList).pl.length = 0 := rfl
  unfold phgS
  omega
theorem phgL_len {s : ByteArray} (ho : okW s = true) : (phgL s).length ≤ 4004 := by
  have := phgS_len ho
  unfold phgL
  rw [chainL_len]; omega
theorem phgL_ok {s : ByteArray} (ho : okW s = true) : WF (phgL s) ∧ ∀ k, k < (phgL s).length → lenV (phgL s) k ≤ 2000 := by
  have I := phgS_ok ho
  have hs := okW_len2 ho
  have hsum := sum_phr I (phr s 0 []) (fun q h => h)
  rw [← I.pv, cat_phr] at hsum
  have hrg : ∀ c ∈ (phgS s).pl, 0 ≤ c ∧ c < ((phgS s).rs.length : Int) := by
    intro c hc
    rw [I.pv] at hc
    obtain ⟨q, hq, rfl⟩ := List.mem_map.1 hc
    have h1 := I.md q hq
    cases e : (phgS s).m q with
    | none => rw [e] at h1; cases h1
    | some k => have := I.mv q k e; rw [Option.getD_some]; omega
  unfold phgL
  generalize phgS s = S at *
  cases e : S.pl with
  | nil => exact ⟨I.wf, fun k hk => (I.bd k hk).2⟩
  | cons b cs =>
    rw [e] at hsum hrg
    have h9 : sumV S.rs (b :: cs) = lenV S.rs b.toNat + sumV S.rs cs := by unfold sumV; simp
    exact chF_ok cs b S.rs I.wf I.bd (hrg b (by simp)) (fun c hc => hrg c (by simp [hc])) (by omega)
theorem phg_one {s : ByteArray} (ho : okW s = true) {k : Int} (h : (phgS s).pl = [k]) : (phgS s).rs.length = 1 ∧ k = 0 := by
  have I := phgS_ok ho
  have h2 : (phr s 0 []).length = 1 := by
    have := congrArg List.length I.pv
    rw [h] at this; simp at this; exact this.symm
  have hc := cat_phr s
  have h3 := (phr_all s).before 0
  have h4 := (phr_all s).pos 0
  have hS : phgS s = phGo (phr s 0 []) (phg0 s.data.toList) := rfl
  obtain ⟨p, hp⟩ := List.length_eq_one_iff.1 h2
  rw [hp] at hc h3 h4 hS
  have h5 : p.size ≤ 1 := by
    rcases h3 p rfl with q | ⟨k, q, hk, _⟩
    · exact q
    · omega
  have h6 := h4 p rfl
  rw [catS, catS, app_empty'] at hc
  subst hc
  obtain ⟨c, rfl⟩ := one_byte (s := p) (by omega)
  have hl : letB c = true := by
    have h7 := ho
    unfold okW at h7
    simp only [Bool.and_eq_true, List.all_eq_true] at h7
    exact h7.2 c (by simp)
  have hks : ksP [c] = [c] := by
    have h8 : (97 : Int) ≤ c.toNat ∧ (c.toNat : Int) ≤ 100 := by simpa [letB] using hl
    have h9 : c.toNat = 97 ∨ c.toNat = 98 ∨ c.toNat = 99 ∨ c.toNat = 100 := by omega
    have h10 : c = 97 ∨ c = 98 ∨ c = 99 ∨ c = 100 := by simp only [← UInt8.toNat_inj]; exact h9
    rcases h10 with rfl | rfl | rfl | rfl <;> decide
  have hm : (phg0 [c]).m ⟨#[c]⟩ = some 0 := by
    show num0 (ksP [c]) _ = _
    rw [hks]
    unfold num0
    rw [if_pos ⟨rfl, by simp [headB]⟩]
    simp [headB]
  have h11 : phgS ⟨#[c]⟩ = ⟨lettersP [c], num0 (ksP [c]), [0]⟩ := by
    rw [hS]
    show phStep (phg0 [c]) ⟨#[c]⟩ = _
    unfold phStep
    rw [hm]; rfl
  rw [h11] at h ⊢
  refine ⟨by simp [lettersP, hks], ?_⟩
  injection h with h
  exact h.symm
/-- where a text stands in a list -/
theorem findS_at (t : ByteArray) : ∀ (ss : List ByteArray) (i : Int), t ∈ ss → ∃ j : Nat, findS t ss i = i + j ∧ ss[j]? = some t
  | [], _, h => by simp at h
  | x :: r, i, h => by
    unfold findS
    by_cases hx : x = t
    · rw [if_pos hx]; exact ⟨0, by simp, by simp [hx]⟩
    · rw [if_neg hx]
      rcases List.mem_cons.1 h with e | h
      · exact absurd e.symm hx
      · obtain ⟨j, h1, h2⟩ := findS_at t r (i + 1) h
        exact ⟨j + 1, by rw [h1]; omega, by simpa using h2⟩
theorem findS_no (t : ByteArray) : ∀ (ss : List ByteArray) (i : Int), t ∉ ss → findS t ss i = -1
  | [], _, _ => rfl
  | x :: r, i, h => by
    unfold findS
    rw [if_neg (fun e => h (by simp [e])), findS_no t r (i + 1) (fun e => h (by simp [e]))]
theorem findS_app (t : ByteArray) (r : List ByteArray) : ∀ (ss : List ByteArray) (i : Int), t ∈ ss → findS t (ss ++ r) i = findS t ss i
  | [], _, h => by simp at h
  | x :: ss, i, h => by
    simp only [List.cons_append, findS]
    by_cases hx : x = t
    · rw [if_pos hx, if_pos hx]
    · rw [if_neg hx, if_neg hx]
      rcases List.mem_cons.1 h with e | h
      · exact absurd e.symm hx
      · exact findS_app t r ss (i + 1) h
end Go.Proofs.Ytikhjoianbndhaa


/-
  The pairs that occur most often, and how they become rules: plain.
-/
namespace Go.Proofs.Ytikhjoianbndhaa
open Go.RowKit

abbrev PI := Int × Int
/-- the pairs that are counted: a letter with itself only where the pair before is not such a counted one -/
def cps : Bool → List Int → List PI
  | sk, x :: y :: r => if x = y ∧ sk = true then cps false (y :: r) else (x, y) :: cps (decide (x = y)) (y :: r)
  | _, _ => []
theorem cps_two (sk : Bool) (x y : Int) (r : List Int) : cps sk (x :: y :: r) = if x = y ∧ sk = true then cps false (y :: r) else (x, y) :: cps (decide (x = y)) (y :: r) := by rw [cps]
theorem cps_one (sk : Bool) (x : Int) : cps sk [x] = [] := by rw [cps]; intro _ _ _ h; cases h
theorem cps_nil (sk : Bool) : cps sk [] = [] := by rw [cps]; intro _ _ _ h; cases h
theorem cps_len : ∀ (l : List Int) (sk : Bool), (cps sk l).length ≤ l.length - 1
  | [], sk => by rw [cps_nil]; simp
  | [x], sk => by rw [cps_one]; simp
  | x :: y :: r, sk => by
    rw [cps_two]
    have h1 := cps_len (y :: r)
    split
    · have := h1 false; simp only [List.length_cons] at this ⊢; omega
    · have := h1 (decide (x = y)); simp only [List.length_cons] at this ⊢; omega
/-- a counted pair stands in the list -/
theorem cps_mem {p : PI} : ∀ (l : List Int) (sk : Bool), p ∈ cps sk l → ∃ a b, l = a ++ p.1 :: p.2 :: b
  | [], sk, h => by rw [cps_nil] at h; cases h
  | [x], sk, h => by rw [cps_one] at h; cases h
  | x :: y :: r, sk, h => by
    rw [cps_two] at h
    split at h
    · obtain ⟨a, b, e⟩ := cps_mem (y :: r) false h
      exact ⟨x :: a, b, by rw [e]; rfl⟩
    · rcases List.mem_cons.1 h with rfl | h
      · exact ⟨[], r, rfl⟩
      · obtain ⟨a, b, e⟩ := cps_mem (y :: r) _ h
        exact ⟨x :: a, b, by rw [e]; rfl⟩
theorem cps_some {x y : Int} {r : List Int} : cps false (x :: y :: r) ≠ [] := by
  rw [cps_two, if_neg (by simp)]; simp
def lexLE (p q : PI) : Prop := p.1 < q.1 ∨ (p.1 = q.1 ∧ p.2 ≤ q.2)
theorem lexLE_anti {p q : PI} (h1 : lexLE p q) (h2 : lexLE q p) : p = q := by
  obtain ⟨a, b⟩ := p; obtain ⟨c, d⟩ := q
  simp only [lexLE] at h1 h2
  have e1 : a = c := by omega
  have e2 : b = d := by omega
  rw [e1, e2]
/-- the pair that is told -/
def Best (D : List PI) (p : PI) (n : Nat) : Prop := D.count p = n ∧ (∀ q, D.count q ≤ n) ∧ ∀ q, D.count q = n → lexLE p q
theorem Best.one {D : List PI} {p q : PI} {m n : Nat} (h : Best D p m) (k : Best D q n) : p = q ∧ m = n := by
  have e : m = n := by
    have h1 := h.2.1 q
    have h2 := k.2.1 p
    have h3 := h.1
    have h4 := k.1
    omega
  subst e
  exact ⟨lexLE_anti (h.2.2 q k.1) (k.2.2 p h.1), rfl⟩
open Classical in
noncomputable def bst (D : List PI) : PI × Nat := if h : D ≠ [] ∧ ∃ x : PI × Nat, Best D x.1 x.2 then Classical.choose h.2 else ((0, 0), 0)
theorem bst_of {D : List PI} {p : PI} {n : Nat} (h0 : D ≠ []) (h : Best D p n) : bst D = (p, n) := by
  have hx : D ≠ [] ∧ ∃ x : PI × Nat, Best D x.1 x.2 := ⟨h0, (p, n), h⟩
  unfold bst
  rw [dif_pos hx]
  have hc := Classical.choose_spec hx.2
  obtain ⟨e1, e2⟩ := hc.one h
  exact Prod.ext e1 e2
theorem bst_nil : bst [] = ((0, 0), 0) := by
  unfold bst
  rw [dif_neg (fun h => h.1 rfl)]
/-- there is one -/
theorem best_ex : ∀ (D : List PI), D ≠ [] → ∃ p n, Best D p n := by
  intro D hD
  -- the greatest count, then the least pair
  have h1 : ∃ n, (∃ p, p ∈ D ∧ D.count p = n) ∧ ∀ q, D.count q ≤ n := by
    have : ∀ L : List PI, L ≠ [] → ∃ p, p ∈ L ∧ ∀ q ∈ L, D.count q ≤ D.count p := by
      intro L
      induction L with
      | nil => intro h; exact absurd rfl h
      | cons x r ih =>
        intro _
        by_cases hr : r = []
        · subst hr; exact ⟨x, List.mem_cons_self, fun q hq => by rw [List.mem_singleton.1 hq]; exact Nat.le_refl _⟩
        · obtain ⟨p, hp, hm⟩ := ih hr
          by_cases hx : D.count p ≤ D.count x
          · exact ⟨x, List.mem_cons_self, fun q hq => by
              rcases List.mem_cons.1 hq with rfl | hq
              · exact Nat.le_refl _
              · exact Nat.le_trans (hm q hq) hx⟩
          · exact ⟨p, List.mem_cons_of_mem _ hp, fun q hq => by
              rcases List.mem_cons.1 hq with rfl | hq
              · omega
              · exact hm q hq⟩
    obtain ⟨p, hp, hm⟩ := this D hD
    refine ⟨D.count p, ⟨p, hp, rfl⟩, fun q => ?_⟩
    by_cases hq : q ∈ D
    · exact hm q hq
    · rw [List.count_eq_zero_of_not_mem hq]; omega
  obtain ⟨n, ⟨p0, hp0, hn0⟩, hmax⟩ := h1
  have h2 : ∀ L : List PI, (∃ p ∈ L, D.count p = n) → ∃ p, D.count p = n ∧ ∀ q ∈ L, D.count q = n → lexLE p q := by
    intro L
    induction L with
    | nil => rintro ⟨p, hp, _⟩; cases hp
    | cons x r ih =>
      rintro ⟨p, hp, hpn⟩
      by_cases hr : ∃ p ∈ r, D.count p = n
      · obtain ⟨m, hm, hml⟩ := ih hr
        by_cases hx : D.count x = n
        · by_cases hc : lexLE m x
          · exact ⟨m, hm, fun q hq hqn => by
              rcases List.mem_cons.1 hq with rfl | hq
              · exact hc
              · exact hml q hq hqn⟩
          · refine ⟨x, hx, fun q hq hqn => ?_⟩
            rcases List.mem_cons.1 hq with rfl | hq
            · exact .inr ⟨rfl, Int.le_refl _⟩
            · have := hml q hq hqn
              simp only [lexLE] at hc this ⊢
              omega
        · exact ⟨m, hm, fun q hq hqn => by
            rcases List.mem_cons.1 hq with rfl | hq
            · exact absurd hqn hx
            · exact hml q hq hqn⟩
      · rcases List.mem_cons.1 hp with rfl | hp
        · exact ⟨p, hpn, fun q hq hqn => by
            rcases List.mem_cons.1 hq with rfl | hq
            · exact .inr ⟨rfl, Int.le_refl _⟩
            · exact absurd ⟨q, hq, hqn⟩ hr⟩
        · exact absurd ⟨p, hp, hpn⟩ hr
  obtain ⟨p, hp, hl⟩ := h2 D ⟨p0, hp0, hn0⟩
  refine ⟨p, n, hp, hmax, fun q hq => hl q ?_ hq⟩
  have : 0 < D.count q := by
    have := hmax p0
    have h3 : 0 < D.count p0 := List.count_pos_iff.2 hp0
    omega
  exact List.count_pos_iff.1 this
theorem bst_best {D : List PI} (h : D ≠ []) : Best D (bst D).1 (bst D).2 := by
  obtain ⟨p, n, hb⟩ := best_ex D h
  rw [bst_of h hb]; exact hb
/-- a pair replaced by a number -/
def repl (p : PI) (k : Int) : List Int → List Int
  | x :: y :: r => if x = p.1 ∧ y = p.2 then k :: repl p k r else x :: repl p k (y :: r)
  | [x] => [x]
  | [] => []
theorem repl_two (p : PI) (k x y : Int) (r : List Int) : repl p k (x :: y :: r) = if x = p.1 ∧ y = p.2 then k :: repl p k r else x :: repl p k (y :: r) := by rw [repl]
theorem repl_half (p : PI) (k : Int) : ∀ l, l.length ≤ 2 * (repl p k l).length ∧ (repl p k l).length ≤ l.length
  | [] => by simp [repl]
  | [x] => by simp [repl]
  | x :: y :: r => by
    rw [repl_two]
    split
    · have := repl_half p k r; simp only [List.length_cons]; omega
    · have := repl_half p k (y :: r)
      simp only [List.length_cons] at this ⊢; omega
theorem repl_less {p : PI} (k : Int) : ∀ (l a b : List Int), l = a ++ p.1 :: p.2 :: b → (repl p k l).length < l.length
  | [], a, b, h => by cases a <;> simp at h
  | [x], a, b, h => by
    cases a with
    | nil => simp at h
    | cons _ a => cases a <;> simp at h
  | x :: y :: r, a, b, h => by
    rw [repl_two]
    split
    · have := (repl_half p k r).2; simp only [List.length_cons]; omega
    · rename_i hn
      cases a with
      | nil =>
        simp only [List.nil_append, List.cons.injEq] at h
        exact absurd ⟨h.1, h.2.1⟩ hn
      | cons z a =>
        simp only [List.cons_append, List.cons.injEq] at h
        have := repl_less k (y :: r) a b h.2
        simp only [List.length_cons] at this ⊢; omega
theorem repl_mem {p : PI} {k c : Int} : ∀ {l : List Int}, c ∈ repl p k l → c = k ∨ c ∈ l
  | [], h => by simp [repl] at h
  | [x], h => by simp [repl] at h; exact .inr (by simp [h])
  | x :: y :: r, h => by
    rw [repl_two] at h
    split at h
    · rcases List.mem_cons.1 h with h | h
      · exact .inl h
      · rcases repl_mem h with h | h
        · exact .inl h
        · exact .inr (List.mem_cons_of_mem _ (List.mem_cons_of_mem _ h))
    · rcases List.mem_cons.1 h with h | h
      · exact .inr (by rw [h]; exact List.mem_cons_self)
      · rcases repl_mem h with h | h
        · exact .inl h
        · exact .inr (List.mem_cons_of_mem _ h)
theorem repl_sum {rs : List Fac} {p : PI} {k : Int} (hk : lenV rs k.toNat = lenV rs p.1.toNat + lenV rs p.2.toNat) : ∀ l, sumV rs (repl p k l) = sumV rs l
  | [] => by simp [repl]
  | [x] => by simp [repl]
  | x :: y :: r => by
    rw [repl_two]
    have e : ∀ (c : Int) (cs : List Int), sumV rs (c :: cs) = lenV rs c.toNat + sumV rs cs := fun c cs => by unfold sumV; simp
    split
    · rename_i h
      rw [e, e, e, hk, repl_sum hk r, h.1, h.2]; omega
    · rw [e, e, repl_sum hk (y :: r)]
/-- the rules and the list, under way -/
noncomputable def pgo : Nat → List Fac → List Int → List Fac × List Int
  | 0, rs, l => (rs, l)
  | f + 1, rs, l => if (bst (cps false l)).2 < 2 then (rs, l) else pgo f (rs ++ [⟨⟨#[]⟩, (bst (cps false l)).1.1, (bst (cps false l)).1.2⟩]) (repl (bst (cps false l)).1 rs.length l)
theorem bst_pos {l : List Int} (h : ¬ (bst (cps false l)).2 < 2) : cps false l ≠ [] := by
  intro e
  rw [e, bst_nil] at h
  exact h (by show (0 : Nat) < 2; omega)
theorem bst_in {l : List Int} (h : ¬ (bst (cps false l)).2 < 2) : ∃ a b, l = a ++ (bst (cps false l)).1.1 :: (bst (cps false l)).1.2 :: b := by
  have hb := bst_best (bst_pos h)
  refine cps_mem l false (List.count_pos_iff.1 ?_)
  have := hb.1
  omega
theorem bst_three {l : List Int} (h : ¬ (bst (cps false l)).2 < 2) : 3 ≤ l.length := by
  have hb := bst_best (bst_pos h)
  have h1 := cps_len l false
  have h2 := List.count_le_length (a := (bst (cps false l)).1) (l := cps false l)
  have := hb.1
  omega
theorem pgo_fuel : ∀ (f g : Nat) (rs : List Fac) (l : List Int), l.length ≤ f → l.length ≤ g → pgo f rs l = pgo g rs l := by
  intro f
  induction f with
  | zero =>
    intro g rs l hf _
    have hl : l = [] := List.eq_nil_of_length_eq_zero (by omega)
    subst hl
    cases g with
    | zero => rfl
    | succ g => rw [pgo, pgo, cps_nil, bst_nil]; rfl
  | succ f ih =>
    intro g rs l hf hg
    cases g with
    | zero =>
      have hl : l = [] := List.eq_nil_of_length_eq_zero (by omega)
      subst hl
      rw [pgo, pgo, cps_nil, bst_nil]; rfl
    | succ g =>
      rw [pgo, pgo]
      split
      · rfl
      · rename_i h
        obtain ⟨a, b, e⟩ := bst_in h
        have := repl_less (rs.length : Int) l a b e
        exact ih g _ _ (by omega) (by omega)
noncomputable def pgoL (rs : List Fac) (l : List Int) : List Fac × List Int := pgo l.length rs l
theorem pgoL_stop {rs : List Fac} {l : List Int} (h : (bst (cps false l)).2 < 2) : pgoL rs l = (rs, l) := by
  unfold pgoL
  cases hl : l.length with
  | zero => rfl
  | succ n => rw [pgo, if_pos h]
theorem pgoL_step {rs : List Fac} {l : List Int} (h : ¬ (bst (cps false l)).2 < 2) :
    pgoL rs l = pgoL (rs ++ [⟨⟨#[]⟩, (bst (cps false l)).1.1, (bst (cps false l)).1.2⟩]) (repl (bst (cps false l)).1 rs.length l) := by
  have h3 := bst_three h
  obtain ⟨a, b, e⟩ := bst_in h
  have hl := repl_less (rs.length : Int) l a b e
  unfold pgoL
  cases hn : l.length with
  | zero => omega
  | succ n =>
    rw [pgo, if_neg h]
    exact pgo_fuel _ _ _ _ (by omega) (Nat.le_refl _)
/-- what holds under way -/
structure PrI (rs : List Fac) (l : List Int) : Prop where
  wf : WF rs
  bd : ∀ k, k < rs.length → 0 ≤ lenV rs k ∧ lenV rs k ≤ 2000
  rg : ∀ c ∈ l, 0 ≤ c ∧ c < (rs.length : Int)
  sm : sumV rs l ≤ 2000
  sz : rs.length + l.length ≤ 2004
theorem sumV_pos {rs : List Fac} (hb : ∀ k, k < rs.length → 0 ≤ lenV rs k) : ∀ (l : List Int), (∀ c ∈ l, 0 ≤ c ∧ c < (rs.length : Int)) → 0 ≤ sumV rs l
  | [], _ => by simp [sumV]
  | c :: l, h => by
    have i1 := sumV_pos hb l (fun d hd => h d (by simp [hd]))
    have i2 := h c (by simp)
    have i3 := hb c.toNat (by omega)
    unfold sumV at i1 ⊢
    simp only [List.map_cons, List.sum_cons]
    omega
theorem sumV_app (rs : List Fac) (a b : List Int) : sumV rs (a ++ b) = sumV rs a + sumV rs b := by unfold sumV; simp
theorem PrI.step {rs : List Fac} {l : List Int} (h : PrI rs l) (hs : ¬ (bst (cps false l)).2 < 2) :
    PrI (rs ++ [⟨⟨#[]⟩, (bst (cps false l)).1.1, (bst (cps false l)).1.2⟩]) (repl (bst (cps false l)).1 rs.length l) := by
  obtain ⟨a, b, e⟩ := bst_in hs
  have hl := repl_less (rs.length : Int) l a b e
  generalize (bst (cps false l)).1 = p at *
  obtain ⟨x, y⟩ := p
  have e' : l = a ++ (x :: y :: b) := e
  have hx := h.rg x (by rw [e']; simp)
  have hy := h.rg y (by rw [e']; simp)
  have bx := h.bd x.toNat (by omega)
  have bY := h.bd y.toNat (by omega)
  have hsum := h.sm
  rw [e', sumV_app] at hsum
  have ec : ∀ (c : Int) (cs : List Int), sumV rs (c :: cs) = lenV rs c.toNat + sumV rs cs := fun c cs => by unfold sumV; simp
  rw [ec, ec] at hsum
  have pa := sumV_pos (fun k hk => (h.bd k hk).1) a (fun c hc => h.rg c (by rw [e']; simp [hc]))
  have pb := sumV_pos (fun k hk => (h.bd k hk).1) b (fun c hc => h.rg c (by rw [e']; simp [hc]))
  have hnew := lenV_new rs x y
  refine ⟨wf_snoc h.wf hx hy, fun k hk => ?_, fun c hc => ?_, ?_, ?_⟩
  · by_cases hk' : k < rs.length
    · rw [lenV_old _ _ hk']; exact h.bd k hk'
    · obtain rfl : k = rs.length := by simp at hk; omega
      show 0 ≤ lenV (rs ++ [⟨⟨#[]⟩, x, y⟩]) rs.length ∧ lenV (rs ++ [⟨⟨#[]⟩, x, y⟩]) rs.length ≤ 2000
      rw [hnew]; omega
  · rcases repl_mem hc with rfl | hc
    · simp; omega
    · have := h.rg c hc
      simp; omega
  · show sumV (rs ++ [⟨⟨#[]⟩, x, y⟩]) (repl (x, y) rs.length l) ≤ 2000
    rw [repl_sum (by show lenV (rs ++ [⟨⟨#[]⟩, x, y⟩]) rs.length = lenV (rs ++ [⟨⟨#[]⟩, x, y⟩]) x.toNat + lenV (rs ++ [⟨⟨#[]⟩, x, y⟩]) y.toNat; rw [hnew, lenV_old _ _ (by omega), lenV_old _ _ (by omega)]),
      sumV_old _ _ _ h.rg]
    exact h.sm
  · have := h.sz
    simp only [List.length_append, List.length_singleton] at hl ⊢
    omega
theorem PrI.all : ∀ (f : Nat) (rs : List Fac) (l : List Int), PrI rs l → PrI (pgo f rs l).1 (pgo f rs l).2 ∧ rs.length ≤ (pgo f rs l).1.length
  | 0, rs, l, h => ⟨h, Nat.le_refl _⟩
  | f + 1, rs, l, h => by
    rw [pgo]
    split
    · exact ⟨h, Nat.le_refl _⟩
    · rename_i hs
      have := PrI.all f _ _ (h.step hs)
      refine ⟨this.1, ?_⟩
      have h2 := this.2
      rw [List.length_append] at h2
      simp only [List.length_singleton] at h2
      omega
/-- a list of one number is left only where the word is one letter -/
theorem pgo_one : ∀ (f : Nat) (rs : List Fac) (l : List Int) (k : Int), (pgo f rs l).2 = [k] → (pgo f rs l).1 = rs ∧ l = [k]
  | 0, rs, l, k, h => ⟨rfl, h⟩
  | f + 1, rs, l, k, h => by
    rw [pgo] at h ⊢
    split at h
    · rename_i hs; rw [if_pos hs]; exact ⟨rfl, h⟩
    · rename_i hs
      have h3 := bst_three hs
      have := pgo_one f _ _ k h
      have h5 := (repl_half (bst (cps false l)).1 (rs.length : Int) l).1
      rw [this.2] at h5
      simp only [List.length_singleton] at h5
      omega
/-- the rules and the list at the start -/
def numsQ (w : List UInt8) : List Int := w.map (atP w)
theorem nums_len' (w : List UInt8) : (numsQ w).length = w.length := by simp [numsQ]
theorem prI_first {w : List UInt8} (hl : ∀ c ∈ w, letB c = true) (hs : w.length ≤ 2000) : PrI (lettersP w) (numsQ w) := by
  have hn : (lettersP w).length = (ksP w).length := by simp [lettersP]
  have hrg : ∀ c ∈ numsQ w, 0 ≤ c ∧ c < ((lettersP w).length : Int) := fun c hc => by
    obtain ⟨u, hu, rfl⟩ := List.mem_map.1 hc
    have := atP_lt hu (hl u hu)
    omega
  refine ⟨letters_wf w, fun k hk => ?_, hrg, ?_, ?_⟩
  · rw [letters_lenV w hk]; omega
  · have : ∀ l : List Int, (∀ c ∈ l, 0 ≤ c ∧ c < ((lettersP w).length : Int)) → sumV (lettersP w) l = l.length := by
      intro l
      induction l with
      | nil => intro _; rfl
      | cons c l ih =>
        intro h
        have h1 := h c (by simp)
        have h2 := ih (fun d hd => h d (by simp [hd]))
        have h3 := letters_lenV w (k := c.toNat) (by omega)
        unfold sumV at h2 ⊢
        simp only [List.map_cons, List.sum_cons, List.length_cons]
        rw [h2, h3]; omega
    rw [this _ hrg, nums_len']; omega
  · have := ksP_len w
    rw [nums_len']; omega
noncomputable def prR (s : ByteArray) : List Fac × List Int := pgoL (lettersP s.data.toList) (numsQ s.data.toList)
noncomputable def prL (s : ByteArray) : List Fac := chainL (prR s).1 (prR s).2
theorem okW_lets {s : ByteArray} (ho : okW s = true) : ∀ c ∈ s.data.toList, letB c = true := by
  unfold okW at ho
  simp only [Bool.and_eq_true, List.all_eq_true] at ho
  exact ho.2
theorem prI_start {s : ByteArray} (ho : okW s = true) : PrI (lettersP s.data.toList) (numsQ s.data.toList) :=
  prI_first (okW_lets ho) (by have := okW_len2 ho; rw [byte_len]; exact this)
theorem prR_ok {s : ByteArray} (ho : okW s = true) : PrI (prR s).1 (prR s).2 := (PrI.all _ _ _ (prI_start ho)).1
theorem chainL_ok {rs : List Fac} {l : List Int} (h : PrI rs l) : WF (chainL rs l) ∧ ∀ k, k < (chainL rs l).length → lenV (chainL rs l) k ≤ 2000 := by
  cases l with
  | nil => exact ⟨h.wf, fun k hk => (h.bd k hk).2⟩
  | cons b cs =>
    have h9 : sumV rs (b :: cs) = lenV rs b.toNat + sumV rs cs := by unfold sumV; simp
    have := h.sm
    exact chF_ok cs b rs h.wf h.bd (h.rg b (by simp)) (fun c hc => h.rg c (by simp [hc])) (by omega)
theorem prL_ok {s : ByteArray} (ho : okW s = true) : WF (prL s) ∧ ∀ k, k < (prL s).length → lenV (prL s) k ≤ 2000 := chainL_ok (prR_ok ho)
theorem prL_len {s : ByteArray} (ho : okW s = true) : (prL s).length ≤ 4008 := by
  have := (prR_ok ho).sz
  unfold prL
  rw [chainL_len]; omega
theorem pr_one {s : ByteArray} (ho : okW s = true) {k : Int} (h : (prR s).2 = [k]) : (prR s).1.length = 1 ∧ k = 0 := by
  obtain ⟨h1, h2⟩ := pgo_one _ _ _ k h
  have hw : s.data.toList.length = 1 := by rw [← nums_len', h2]; rfl
  have hl := okW_lets ho
  have e1 : (prR s).1 = lettersP s.data.toList := h1
  rw [e1]
  generalize s.data.toList = w at *
  match w, hw with
  | [c], _ =>
    have hc := hl c (by simp)
    have hks : ksP [c] = [c] := by
      have h8 : (97 : Int) ≤ c.toNat ∧ (c.toNat : Int) ≤ 100 := by simpa [letB] using hc
      have h9 : c.toNat = 97 ∨ c.toNat = 98 ∨ c.toNat = 99 ∨ c.toNat = 100 := by omega
      have h10 : c = 97 ∨ c = 98 ∨ c = 99 ∨ c = 100 := by simp only [← UInt8.toNat_inj]; exact h9
      rcases h10 with rfl | rfl | rfl | rfl <;> decide
    refine ⟨by simp [lettersP, hks], ?_⟩
    have e2 : numsQ [c] = [0] := by simp [numsQ, atP, hks]
    rw [e2] at h2
    injection h2 with h2
    exact h2.symm
end Go.Proofs.Ytikhjoianbndhaa


/-
  The walk made to stand ahead of an operation, so that a law can be laid there.
-/
namespace Go.Proofs.Ytikhjoianbndhaa
open Go.RowKit

/-! ### the walk made to stand ahead of an operation -/
def Stop (p : Prop) : Prop := p
theorem stopW {P : Program} {ops : Array Oper} {Q : Exit → Act → World → Prop} {a : Act} {W : World} {l : List Oper} (h : Stop (wpList P ops Q l a W)) : wpList P ops Q l a W := h
theorem stop_named {P : Program} {ops : Array Oper} {Q : Exit → Act → World → Prop} {a : Act} {W : World} {l : List Oper} (h : ∀ w, Hid (w = W) → Stop (wpList P ops Q l a w)) : Stop (wpList P ops Q l a W) := h W (Lib.hid rfl)
end Go.Proofs.Ytikhjoianbndhaa


/-
  Lists of rules that a call makes: what is appended, copied.
-/
namespace Go.Proofs.Ytikhjoianbndhaa
open Go.RowKit

theorem elem_rule : Elem Try.prog 22 44 3 32 := Elem.mk' (z := .agg #[.string .empty, .int .i64 0, .int .i64 0]) Try.underlying22 (by kernel_rfl) rfl
theorem one_fac (f : Fac) : ∀ u ∈ Fac.cells f, u.oneCell' = true := by simp [Fac.cells, Value.oneCell']
/-- what lies behind a list, cell for cell -/
theorem Rd.news {α : Type} {w : World} {B n sz : Nat} {A : Option Addr} {enc : α → List Value} {xs : List α} (h : Rd w B A n sz enc xs) (hl : ∀ x ∈ xs, (enc x).length = sz) (hn : 0 < n) :
    ∃ b o, A = some ⟨b, o, none⟩ ∧ b < B ∧ ∀ j u, (xs.flatMap enc)[j]? = some u → w.cell? ((⟨b, o, none⟩ : Addr).add j) = some u := by
  obtain ⟨b, o, hA, hb, hc⟩ := h.2 hn
  refine ⟨b, o, hA, hb, fun j u hj => ?_⟩
  have hlt := (List.getElem?_eq_some_iff.1 hj).1
  rw [flat_len xs hl] at hlt
  have hsz : 0 < sz := by
    rcases Nat.eq_zero_or_pos sz with h | h
    · subst h; simp at hlt
    · exact h
  have hk : j / sz < xs.length := Nat.div_lt_of_lt_mul (by rw [Nat.mul_comm]; exact hlt)
  have he : j / sz * sz + j % sz = j := by rw [Nat.mul_comm]; exact Nat.div_add_mod j sz
  have hx : xs[j / sz]? = some (xs[j / sz]'hk) := List.getElem?_eq_getElem _
  have h2 := flat_at xs hl _ _ hx (j % sz) (Nat.mod_lt _ hsz)
  rw [he, hj] at h2
  have h3 := hc _ _ hx (j % sz) u h2.symm
  rw [Nat.add_assoc, he] at h3
  simpa [Addr.add_lit] using h3
/-- a row of the call's own, behind a store into a block of another type -/
theorem own_kept' {w : World} {base g : Nat} {e t : TypeId} {sz n : Nat} {v : Value} {xs : List Value} {cs : Array Value} (h : w.ownsRow base e sz v n xs) (hB : Blk w g t cs) (ht : e ≠ t) (u : Value) {i : Nat} : (w.setCell ⟨g, i, none⟩ u).ownsRow base e sz v n xs := by
  refine h.kept (gb_set w g i u) ?_
  cases hv : v.ownBlock with
  | none => exact .inl rfl
  | some k => exact .inr fun e => own_blk_ne h hB ht (by rw [hv]; exact e.symm)
section
variable {α : Type} {P : Program} {w : World} {ops : Array Oper} {o : Oper} {a : Act} {rest : List Oper}
/-- a list appended to a slice of the call's own -/
theorem wpList_app {Q : Exit → Act → World → Prop} (hgd : o.guard = none) (s x : Operand) (t : TypeId) (ho : o.op = .call { callee := .builtin .append, args := #[s, x], argTypes := #[t, t] })
    (base : Nat) (e : TypeId) (sz bytes : Nat) (EI : Elem P t e sz bytes) (enc : α → List Value) (A : Option Addr) (n c : Nat) (xs : List α) (hs : a.eval s = .slice A n c)
    (hown : w.ownsRow base e sz (.slice A n c) n (xs.flatMap enc)) (ad : Addr) (m cc : Nat) (ys : List α) (hx : a.eval x = .slice (some ad) m cc) (hym : ys.length = m) (hm0 : 0 < m) (hnews : ∀ j u, (ys.flatMap enc)[j]? = some u → w.cell? (ad.add j) = some u)
    (hlen : ∀ y ∈ ys, (enc y).length = sz) (hone : ∀ y ∈ ys, ∀ u ∈ enc y, u.oneCell' = true) (hsz : 0 < sz) (hbytes : (n + m) * bytes ≤ 140737488355328) (hm : n + m ≤ maxLen) (hsize : base ≤ w.heap.size)
    (h : ∀ A' c' w', w'.ownsRow base e sz (.slice A' (n + m) c') (n + m) ((xs ++ ys).flatMap enc) → w.grownBy w' (Value.slice A n c).ownBlock →
      ((Value.slice A' (n + m) c').ownBlock = (Value.slice A n c).ownBlock ∨ (Value.slice A' (n + m) c').ownBlock = some w.heap.size) → wpList P ops Q rest (a.put o.dst (.slice A' (n + m) c')) w') : wpList P ops Q (o :: rest) a w := by
  obtain ⟨ht, i, z, hi, hz, h1, h2, hzs⟩ := EI
  refine wpList_plain hgd fun _ hK => ?_
  obtain ⟨v', w', hr, r2, r3, _, r5⟩ := run_append_own_at (P := P) w base t o.type e i z sz bytes ht hi hz h1 h2 hzs hsz _ n _ hown ad m cc (ys.flatMap enc) (by rw [flat_len ys hlen, hym]) hnews
    (fun u hu => by obtain ⟨y, hy, hu⟩ := List.mem_flatMap.1 hu; exact hone y hy u hu) hm hbytes hsize
  obtain ⟨g', cap, rfl, _, _⟩ := r2.form (by omega)
  unfold Oper.wp execOp
  simp only [ho, resolve, invoke, builtin, Sem.run_bind, Sem.run_pure, Result.andThen_ok, List.map_toArray, List.map_cons, List.map_nil, hs, hx, hr]
  exact hK _ _ (h _ _ w' (by rw [List.flatMap_append]; exact r2) r3 r5)
/-- the same, as a step of a region that draws its order -/
theorem step_app {K : Act → World → Prop} {Q : Exit → Act → World → Prop} {E : Prop} (hgd : o.guard = none) (s x : Operand) (t : TypeId) (ho : o.op = .call { callee := .builtin .append, args := #[s, x], argTypes := #[t, t] })
    (base : Nat) (e : TypeId) (sz bytes : Nat) (EI : Elem P t e sz bytes) (enc : α → List Value) (A : Option Addr) (n c : Nat) (xs : List α) (hs : a.eval s = .slice A n c)
    (hown : w.ownsRow base e sz (.slice A n c) n (xs.flatMap enc)) (ad : Addr) (m cc : Nat) (ys : List α) (hx : a.eval x = .slice (some ad) m cc) (hym : ys.length = m) (hm0 : 0 < m) (hnews : ∀ j u, (ys.flatMap enc)[j]? = some u → w.cell? (ad.add j) = some u)
    (hlen : ∀ y ∈ ys, (enc y).length = sz) (hone : ∀ y ∈ ys, ∀ u ∈ enc y, u.oneCell' = true) (hsz : 0 < sz) (hbytes : (n + m) * bytes ≤ 140737488355328) (hm : n + m ≤ maxLen) (hsize : base ≤ w.heap.size)
    (h : ∀ A' c' w', w'.ownsRow base e sz (.slice A' (n + m) c') (n + m) ((xs ++ ys).flatMap enc) → w.grownBy w' (Value.slice A n c).ownBlock → K (a.put o.dst (.slice A' (n + m) c')) w') :
    if Region.wanted o (yielded ops a.tmps) = true then Oper.wp P o a w K Q else E := by
  obtain ⟨ht, i, z, hi, hz, h1, h2, hzs⟩ := EI
  obtain ⟨v', w', hr, r2, r3, _, r5⟩ := run_append_own_at (P := P) w base t o.type e i z sz bytes ht hi hz h1 h2 hzs hsz _ n _ hown ad m cc (ys.flatMap enc) (by rw [flat_len ys hlen, hym]) hnews
    (fun u hu => by obtain ⟨y, hy, hu⟩ := List.mem_flatMap.1 hu; exact hone y hy u hu) hm hbytes hsize
  obtain ⟨g', cap, rfl, _, _⟩ := r2.form (by omega)
  have hw : Region.wanted o (yielded ops a.tmps) = true := by simp [Region.wanted, hgd]
  rw [if_pos hw]
  unfold Oper.wp execOp
  simp only [ho, resolve, invoke, builtin, Sem.run_bind, Sem.run_pure, Result.andThen_ok, List.map_toArray, List.map_cons, List.map_nil, hs, hx, hr]
  exact h _ _ w' (by rw [List.flatMap_append]; exact r2) r3
end
end Go.Proofs.Ytikhjoianbndhaa


/-
  A map whose keys are rules.
-/
namespace Go.Proofs.Ytikhjoianbndhaa
open Go.RowKit Go.MapKept

section
variable {α : Type} [DecidableEq α] {P : Program} {w : World} {ops : Array Oper} {rest : List Oper} {o : Oper} {a : Act} {b : Nat} {K : α → Value} {mm : List (α × Value)} {kt t e : TypeId} {z : Value}
/-- a look-up in a map of the call's own, with the word whether there is an entry -/
theorem wpList_lookOk {Q : Exit → Act → World → Prop} (hgd : o.guard = none) (m x : Operand) (ho : o.op = .lookup t m x true) (KO : KeyOk P kt K) (ht : P.underlying t = some (.map kt e)) (hz : (zeroValue e).run P w = .ok z w) (hm : a.eval m = .map (some b)) (y : α) (hx : a.eval x = K y)
    (h : MapIs w b K mm) (hK : wpList P ops Q rest (a.put o.dst (.tuple #[(mget y mm).getD z, .bool (mget y mm).isSome])) w) : wpList P ops Q (o :: rest) a w := by
  refine wpList_plain hgd fun _ hK' => ?_
  unfold Oper.wp execOp
  simp only [ho, hm, hx, Sem.run_bind, h.lookOk KO ht hz y, Result.andThen_ok, Sem.run_pure]
  exact hK' _ _ hK
end
theorem zero_i64 (w : World) : (zeroValue 2).run Try.prog w = .ok (.int .i64 0) w := by kernel_rfl
theorem eql_rule (f g : Fac) (W : World) : (binOp .eql 44 (.agg #[.string f.l, .int .i64 f.a, .int .i64 f.b]) (.agg #[.string g.l, .int .i64 g.a, .int .i64 g.b])).run Try.prog W = .ok (.bool (decide (f = g))) W := by
  rw [eq_fac]
  simp [go_sem, tl_inj]
  try (by_cases h1 : f.l = g.l <;> by_cases h2 : f.a = g.a <;> by_cases h3 : f.b = g.b <;> simp [h1, h2, h3])
theorem equal_rule (f g : Fac) (W : World) : (Op.equal 44 f.val g.val).run Try.prog W = .ok (decide (f = g)) W := by
  have h := eql_rule f g W
  unfold binOp at h
  simp only [Sem.run_bind] at h
  unfold Fac.val
  generalize hr : Sem.run Try.prog (Op.equal 44 (.agg #[.string f.l, .int .i64 f.a, .int .i64 f.b]) (.agg #[.string g.l, .int .i64 g.a, .int .i64 g.b])) W = r at h ⊢
  cases r with
  | ok b w' =>
    simp [Result.andThen] at h
    rw [h.1, h.2]
  | _ => simp [Result.andThen] at h
theorem rule_key : KeyOk Try.prog 44 Fac.val := by
  refine ⟨fun e a w => ?_, fun a m es w he => ?_, fun a w => ?_⟩
  · have hs : ∀ n v, (Instr.checkKey e (n + 1) 9 (.string v)).run Try.prog w = .ok () w := fun n v => run_checkKey Try.underlying9 (by simp [IsKey]) e n
    have hi : ∀ n v, (Instr.checkKey e (n + 1) 2 (.int .i64 v)).run Try.prog w = .ok () w := fun n v => run_checkKey Try.underlying2 (by simp [IsKey]) e n
    unfold Fac.val
    show (Instr.checkKey e (9999 + 1) 44 _).run _ _ = _
    unfold Instr.checkKey
    simp only [Sem.run_bind, run_underlying Try.underlying44]
    have hs' := hs 9998
    have hi' := hi 9998
    simp [go_sem, hs', hi']
  · have ask : ∀ (m : List (Fac × Value)) (es : List MapEntry) (i : Nat), es.map (fun e => (e.key, e.val)) = m.map (fun p => (Fac.val p.1, p.2)) → (Instr.findAsking 44 (Fac.val a) es i).run Try.prog w = .ok (midx a m i) w := by
      intro m
      induction m with
      | nil => intro es i he; cases es with | nil => rfl | cons _ _ => simp at he
      | cons p r ih =>
        intro es i he
        cases es with
        | nil => simp at he
        | cons e es =>
          simp at he
          obtain ⟨⟨h1, h2⟩, h3⟩ := he
          unfold Instr.findAsking
          rw [h1, midx_cons]
          simp only [Sem.run_bind, equal_rule, Result.andThen_ok]
          by_cases hap : a = p.1
          · simp [hap, h2]
          · simp only [hap, decide_false, if_false, Bool.false_eq_true]
            exact ih es (i + 1) h3
    cases es with
    | nil =>
      cases m with
      | nil => simp [Instr.findKey, run_underlying Try.underlying44, Instr.findNow, midx]
      | cons _ _ => simp at he
    | cons e es =>
      have hn : Instr.findNow (TypeDesc.struct #[]) (Fac.val a) (e :: es) 0 = none := by unfold Instr.findNow Instr.sameNow; rfl
      have := ask m (e :: es) 0 he
      simp [Instr.findKey, run_underlying Try.underlying44, Instr.findNow, Instr.sameNow, Fac.val] at this ⊢
      exact this
  · have : Instr.sameBits 10000 a.val a.val = true := by
      show Instr.sameBits (9999 + 1) (.agg _) (.agg _) = true
      unfold Instr.sameBits
      simp [Instr.sameBits, beq_toListBytes, tl_beq]
    simp [Instr.keyThatStays, this]
end Go.Proofs.Ytikhjoianbndhaa


/-
  Maps whose keys are pairs of numbers: key, entry, range.
-/
namespace Go.Proofs.Ytikhjoianbndhaa
open Go.RowKit Go.MapKept
open Go.ChangeMaps (setBlock)

def PIv (p : PI) : Value := .agg #[.int .i64 p.1, .int .i64 p.2]
theorem equal_pi (p q : PI) (W : World) : (Op.equal 58 (PIv p) (PIv q)).run Try.prog W = .ok (decide (p = q)) W := by
  have e : decide (p = q) = (decide (p.1 = q.1) && decide (p.2 = q.2)) := by
    rw [← Bool.decide_and]
    exact decide_eq_decide.2 Prod.ext_iff
  rw [e]
  unfold PIv
  show (Op.equalIn (9999 + 1) _ _ _).run _ _ = _
  unfold Op.equalIn
  simp only [Sem.run_bind, run_underlying Try.underlying58, Result.andThen_ok]
  have hI : ∀ (a b : Int) (W : World), (Op.equalIn 9999 2 (.int .i64 a) (.int .i64 b)).run Try.prog W = .ok (decide (a = b)) W := fun a b W => by
    show (Op.equalIn (9998 + 1) _ _ _).run _ _ = _
    unfold Op.equalIn
    simp only [Sem.run_bind, run_underlying Try.underlying2, Result.andThen_ok]
    simp [go_sem]
    exact Bool.beq_eq_decide_eq a b
  simp [go_sem, hI, isAgg, run_underlying Try.underlying2, show List.range' 0 2 = [0, 1] from rfl]
  by_cases h1 : p.1 = q.1 <;> by_cases h2 : p.2 = q.2 <;> simp [h1, h2]
theorem pi_key : KeyOk Try.prog 58 PIv := by
  refine ⟨fun e a w => ?_, fun a m es w he => ?_, fun a w => ?_⟩
  · have hi : ∀ n v, (Instr.checkKey e (n + 1) 2 (.int .i64 v)).run Try.prog w = .ok () w := fun n v => run_checkKey Try.underlying2 (by simp [IsKey]) e n
    unfold PIv
    show (Instr.checkKey e (9999 + 1) 58 _).run _ _ = _
    unfold Instr.checkKey
    simp only [Sem.run_bind, run_underlying Try.underlying58]
    have hi' := hi 9998
    simp [go_sem, hi', isAgg, run_underlying Try.underlying2, show List.range' 0 2 = [0, 1] from rfl]
  · have ask : ∀ (m : List (PI × Value)) (es : List MapEntry) (i : Nat), es.map (fun e => (e.key, e.val)) = m.map (fun p => (PIv p.1, p.2)) → (Instr.findAsking 58 (PIv a) es i).run Try.prog w = .ok (midx a m i) w := by
      intro m
      induction m with
      | nil => intro es i he; cases es with | nil => rfl | cons _ _ => simp at he
      | cons p r ih =>
        intro es i he
        cases es with
        | nil => simp at he
        | cons e es =>
          simp at he
          obtain ⟨⟨h1, h2⟩, h3⟩ := he
          unfold Instr.findAsking
          rw [h1, midx_cons]
          simp only [Sem.run_bind, equal_pi, Result.andThen_ok]
          by_cases hap : a = p.1
          · simp [hap, h2]
          · simp only [hap, decide_false, if_false, Bool.false_eq_true]
            exact ih es (i + 1) h3
    cases es with
    | nil =>
      cases m with
      | nil => simp [Instr.findKey, run_underlying Try.underlying58, Instr.findNow, midx]
      | cons _ _ => simp at he
    | cons e es =>
      have := ask m (e :: es) 0 he
      simp [Instr.findKey, run_underlying Try.underlying58, Instr.findNow, Instr.sameNow, PIv] at this ⊢
      exact this
  · have : Instr.sameBits 10000 (PIv a) (PIv a) = true := by
      show Instr.sameBits (9999 + 1) (.agg _) (.agg _) = true
      unfold Instr.sameBits
      simp [Instr.sameBits]
    simp [Instr.keyThatStays, this]
section
variable {α : Type}
/-- a map that holds m, its keys told apart, its entries stamped -/
def MapS (w : World) (b : Nat) (K : α → Value) (m : List (α × Value)) : Prop :=
  ∃ es clock, w.heap[b]? = some (.map es clock) ∧ (∀ x ∈ es.toList, x.born < clock) ∧ (es.toList.map (·.born)).Nodup ∧ (m.map (·.1)).Nodup ∧ es.toList.map (fun e => (e.key, e.val)) = m.map (fun p => (K p.1, p.2))
variable {w w' : World} {b : Nat} {K : α → Value} {m : List (α × Value)}
theorem MapS.is (h : MapS w b K m) : MapIs w b K m := by obtain ⟨es, clock, h1, _, _, _, h2⟩ := h; exact ⟨es, clock, h1, h2⟩
theorem MapS.lt (h : MapS w b K m) : b < w.heap.size := h.is.lt
theorem MapS.keep (h : MapS w b K m) (hb : w'.heap[b]? = w.heap[b]?) : MapS w' b K m := by obtain ⟨es, clock, h1, h2⟩ := h; exact ⟨es, clock, hb.trans h1, h2⟩
theorem MapS.next (h : MapS w b K m) (hb : Below w.heap.size w w') : MapS w' b K m := h.keep (hb.block b h.lt)
theorem MapS.alloc (h : MapS w b K m) (o : Obj) : MapS (w.alloc o) b K m := h.keep (Below.heap_alloc w o b h.lt)
theorem MapS.grown {row : Option Nat} (h : MapS w b K m) (hg : w.grownBy w' row) (hne : some b ≠ row) : MapS w' b K m := h.keep (hg.block b h.lt hne)
theorem MapS.far (h : MapS w b K m) {p : Addr} (hp : b ≠ p.block) (u : Value) : MapS (w.setCell p u) b K m := h.keep (Below.heap_setCell w p u b hp)
theorem MapS.made (w : World) (K : α → Value) : MapS (w.alloc (.map #[] 0)) w.heap.size K [] := ⟨#[], 0, (MapKept.heap_alloc w _).1, by simp, by simp, by simp, rfl⟩
variable [DecidableEq α]
theorem mput_keys (a : α) (v : Value) : ∀ m : List (α × Value), (mput a v m).map (·.1) = if (mget a m).isSome then m.map (·.1) else m.map (·.1) ++ [a]
  | [] => rfl
  | p :: m => by
    rw [mput_cons, mget_cons]
    by_cases h : a = p.1
    · rw [if_pos h, if_pos h]; simp [h]
    · rw [if_neg h, if_neg h, List.map_cons, mput_keys a v m]
      split <;> simp
theorem mget_none {a : α} : ∀ {m : List (α × Value)}, mget a m = none → a ∉ m.map (·.1)
  | [], _ => by simp
  | p :: m, h => by
    rw [mget_cons] at h
    split at h
    · cases h
    · rename_i hn
      rw [List.map_cons, List.mem_cons, not_or]
      exact ⟨hn, mget_none h⟩
theorem mput_nodup (a : α) (v : Value) {m : List (α × Value)} (h : (m.map (·.1)).Nodup) : ((mput a v m).map (·.1)).Nodup := by
  rw [mput_keys]
  split
  · exact h
  · rename_i hn
    have hn' : mget a m = none := by
      cases e : mget a m with
      | none => rfl
      | some _ => rw [e] at hn; exact absurd rfl hn
    exact List.nodup_append.2 ⟨h, by simp, fun x hx y hy e => by
      rw [List.mem_singleton] at hy
      subst hy; subst e
      exact mget_none hn' hx⟩
theorem mget_at : ∀ {m : List (α × Value)}, (m.map (·.1)).Nodup → ∀ {i : Nat} {p : α × Value}, m[i]? = some p → mget p.1 m = some p.2
  | [], _, i, p, h => by simp at h
  | q :: m, hn, i, p, h => by
    rw [mget_cons]
    rw [List.map_cons, List.nodup_cons] at hn
    cases i with
    | zero =>
      have : q = p := by simpa using h
      subst this
      rw [if_pos rfl]
    | succ i =>
      have h' : m[i]? = some p := by simpa using h
      rw [if_neg (fun e => hn.1 (by rw [← e]; exact List.mem_map.2 ⟨p, List.mem_of_getElem? h', rfl⟩))]
      exact mget_at hn.2 h'
theorem mget_in : ∀ {m : List (α × Value)} {a : α} {v : Value}, mget a m = some v → ∃ i : Nat, m[i]? = some (a, v)
  | [], a, v, h => by cases h
  | p :: m, a, v, h => by
    rw [mget_cons] at h
    split at h
    · rename_i e
      injection h with h
      exact ⟨0, by rw [e, ← h]; rfl⟩
    · obtain ⟨i, hi⟩ := mget_in h
      exact ⟨i + 1, by simpa using hi⟩
end
section
variable {α : Type} [DecidableEq α] {P : Program} {w : World} {b : Nat} {K : α → Value} {m : List (α × Value)} {kt t e : TypeId} {z : Value}
/-- an entry looked for or laid, and what is stored into it -/
theorem MapS.entry (h : MapS w b K m) (KO : KeyOk P kt K) (ht : P.underlying t = some (.map kt e)) (hz : ∀ u : World, (zeroValue e).run P u = .ok z u) (a : α) :
    ∃ (v0 : Value) (st : Nat) (w1 : World), (Instr.mapEntry t (.map (some b)) (K a)).run P w = .ok (.tuple #[v0, goInt st]) w1 ∧ MapS w1 b K (mput a ((mget a m).getD z) m) ∧ w.grownBy w1 (some b) ∧
      ∀ (w2 : World) (val : Value), w2.heap[b]? = w1.heap[b]? → ∃ w3, (Instr.entryStore t (.map (some b)) (goInt st) val).run P w2 = .ok () w3 ∧ MapS w3 b K (mput a val m) ∧ w2.grownBy w3 (some b) := by
  obtain ⟨es, clock, hb, s1, s2, s3, he⟩ := h
  have hf := KO.find a m es.toList w he
  have hc := KO.check false a w
  have hlt := (Array.getElem?_eq_some_iff.1 hb).1
  have hset : ∀ (W : World) (o : Obj), b < W.heap.size → (setBlock W b o).heap[b]? = some o := fun W o hl => by simp [setBlock, hl]
  have hg : ∀ (W : World) (o : Obj), W.grownBy (setBlock W b o) (some b) := fun W o => ⟨rfl, rfl, rfl, by simp [setBlock], fun k hk hne => by
    simp only [setBlock]
    rw [Array.getElem?_setIfInBounds_ne (by intro e; exact hne (by rw [e]))]⟩
  cases hi : midx a m 0 with
  | none =>
    rw [hi] at hf
    have hgn : mget a m = none := by unfold mget; rw [hi]; rfl
    have hmp : ∀ v, mput a v m = m ++ [(a, v)] := fun v => by unfold mput; rw [hi]
    have hst : ∀ (W : World) (val : Value), b < W.heap.size → MapS (setBlock W b (.map (es.push ⟨K a, val, clock⟩) (clock + 1))) b K (mput a val m) := fun W val hl => by
      refine ⟨_, _, hset W _ hl, fun x hx => ?_, ?_, mput_nodup a val s3, ?_⟩
      · rw [Array.toList_push] at hx
        rcases List.mem_append.1 hx with hx | hx
        · have := s1 x hx; omega
        · rw [List.mem_singleton] at hx; subst hx; show clock < clock + 1; omega
      · rw [Array.toList_push, List.map_append]
        refine List.nodup_append.2 ⟨s2, by simp, fun x hx c hc e1 => ?_⟩
        simp only [List.map_cons, List.map_nil, List.mem_singleton] at hc
        obtain ⟨y, hy, rfl⟩ := List.mem_map.1 hx
        have := s1 y hy
        omega
      · rw [hmp, Array.toList_push, List.map_append, List.map_append, he]; rfl
    refine ⟨z, clock, setBlock w b (.map (es.push ⟨K a, z, clock⟩) (clock + 1)), ?_, ?_, hg w _, fun w2 val hw2 => ?_⟩
    · simp [Instr.mapEntry, run_underlying ht, MapKept.run_getObj_map hb, hc, hf, hz, MapKept.run_setObj_map _ hb, Result.andThen, setBlock]
    · rw [hgn]
      exact hst w z hlt
    · have hw3 : w2.heap[b]? = some (.map (es.push ⟨K a, z, clock⟩) (clock + 1)) := hw2.trans (hset w _ hlt)
      have hl2 := (Array.getElem?_eq_some_iff.1 hw3).1
      have hidx : (es.push ⟨K a, z, clock⟩).findIdx? (fun e => ((e.born : Nat) : Int) == ((clock : Nat) : Int)) = some es.size := by
        rw [WideElems.findIdx_arr]
        have := WideElems.findIdx_born (l := (es.push ⟨K a, z, clock⟩).toList) (j := es.size) (e0 := ⟨K a, z, clock⟩) (by
          simp only [Array.toList_push, List.map_append, List.map_cons, List.map_nil]
          refine List.nodup_append.2 ⟨s2, by simp, fun x hx c hc e1 => ?_⟩
          simp only [List.mem_singleton] at hc
          obtain ⟨y, hy, rfl⟩ := List.mem_map.1 hx
          have := s1 y hy
          omega) (by simp)
        exact this
      have hmod : (es.push ⟨K a, z, clock⟩).modify es.size (fun e => { e with val := val }) = es.push ⟨K a, val, clock⟩ := by
        apply Array.ext'
        rw [Array.toList_modify, Array.toList_push, Array.toList_push, ← Array.length_toList, WideElems.modify_last]
      refine ⟨setBlock w2 b (.map (es.push ⟨K a, val, clock⟩) (clock + 1)), ?_, hst w2 val hl2, hg w2 _⟩
      simp [Instr.entryStore, MapKept.run_getObj_map hw3, asInt, asIntOf, goInt, hidx, hmod, MapKept.run_setObj_map _ hw3, Result.andThen, setBlock]
  | some q =>
    obtain ⟨i, v0⟩ := q
    rw [hi] at hf
    have hgs : mget a m = some v0 := by unfold mget; rw [hi]; rfl
    have hm := midx_at a m i v0 hi
    have hk : ∃ e0, es[i]? = some e0 ∧ e0.key = K a ∧ e0.val = v0 := by
      have h1 : (es.toList.map (fun e => (e.key, e.val)))[i]? = some (K a, v0) := by rw [he]; simp [hm]
      simp at h1
      obtain ⟨e0, h2, h3, h4⟩ := h1
      exact ⟨e0, h2, h3, h4⟩
    obtain ⟨e0, h2, h3, h4⟩ := hk
    have h2' : es.toList[i]? = some e0 := by simpa using h2
    have hsame : es.modify i (fun e => { e with key := K a }) = es := by
      apply Array.ext'
      rw [Array.toList_modify, Go.ChangeMaps.modify_eq_set _ _ _ _ h2']
      have : ({ e0 with key := K a } : MapEntry) = e0 := by rw [← h3]
      rw [this]
      exact WideElems.set_self _ _ _ h2'
    have hmp : ∀ v, mput a v m = m.modify i (fun _ => (a, v)) := fun v => by unfold mput; rw [hi]
    have hst : ∀ (W : World) (val : Value), b < W.heap.size → MapS (setBlock W b (.map (es.modify i (fun e' => { e' with val := val })) clock)) b K (mput a val m) := fun W val hl => by
      have hbn : (es.modify i (fun e' => { e' with val := val })).toList.map (·.born) = es.toList.map (·.born) := by
        rw [Array.toList_modify, Go.ChangeMaps.modify_eq_set _ _ _ _ h2', List.map_set]
        exact WideElems.set_self _ _ _ (by rw [List.getElem?_map, h2']; rfl)
      refine ⟨_, _, hset W _ hl, fun x hx => ?_, ?_, mput_nodup a val s3, ?_⟩
      · have hx2 : x.born ∈ (es.modify i (fun e' => { e' with val := val })).toList.map (·.born) := List.mem_map.2 ⟨x, hx, rfl⟩
        rw [hbn] at hx2
        obtain ⟨y, hy, e1⟩ := List.mem_map.1 hx2
        have := s1 y hy
        omega
      · rw [hbn]; exact s2
      · rw [hmp, Array.toList_modify, Go.ChangeMaps.modify_eq_set _ _ _ _ h2', Go.ChangeMaps.modify_eq_set _ _ _ _ hm, List.map_set, List.map_set, he, h3]
    refine ⟨e0.val, e0.born, setBlock w b (.map es clock), ?_, ?_, hg w _, fun w2 val hw2 => ?_⟩
    · simp [Instr.mapEntry, run_underlying ht, MapKept.run_getObj_map hb, hc, hf, h2, h3, h4, KO.stays a w, hsame, MapKept.run_setObj_map _ hb, Result.andThen, setBlock]
    · have e1 : mput a ((mget a m).getD z) m = m := by
        rw [hgs, hmp, Go.ChangeMaps.modify_eq_set _ _ _ _ hm]
        exact WideElems.set_self _ _ _ hm
      rw [e1]
      exact ⟨es, clock, hset w _ hlt, s1, s2, s3, he⟩
    · have hw3 : w2.heap[b]? = some (.map es clock) := hw2.trans (hset w _ hlt)
      have hl2 := (Array.getElem?_eq_some_iff.1 hw3).1
      have hidx : es.findIdx? (fun e => ((e.born : Nat) : Int) == ((e0.born : Nat) : Int)) = some i := by
        rw [WideElems.findIdx_arr]
        exact WideElems.findIdx_born s2 h2'
      refine ⟨setBlock w2 b (.map (es.modify i (fun e' => { e' with val := val })) clock), ?_, hst w2 val hl2, hg w2 _⟩
      simp [Instr.entryStore, MapKept.run_getObj_map hw3, asInt, asIntOf, goInt, hidx, MapKept.run_setObj_map _ hw3, Result.andThen, setBlock]
end
section
variable {α : Type}
/-- block r ranges over the map in block b; the entries with the numbers vs have come -/
def Rng (w : World) (r b : Nat) (K : α → Value) (m : List (α × Value)) (vs : List Nat) : Prop :=
  ∃ es clock since seen c0, w.heap[b]? = some (.map es clock) ∧ w.heap[r]? = some (.mapIter (some b) since seen c0) ∧ since ≤ c0 ∧ since ≤ clock ∧ (∀ x ∈ es.toList, x.born < since) ∧ (es.toList.map (·.born)).Nodup ∧
    es.toList.map (fun e => (e.key, e.val)) = m.map (fun p => (K p.1, p.2)) ∧ (∀ (i : Nat) (e : MapEntry), es[i]? = some e → (seen.contains e.born = true ↔ i ∈ vs)) ∧ vs.Nodup ∧ (∀ i ∈ vs, i < m.length) ∧ seen.size = vs.length
variable {w w' : World} {r b : Nat} {K : α → Value} {m : List (α × Value)} {vs : List Nat}
theorem Rng.seen (h : Rng w r b K m vs) : (w.iterSeen r).size = vs.length := by
  obtain ⟨es, clock, since, seen, c0, _, hr, _, _, _, _, _, _, _, _, hs⟩ := h
  unfold World.iterSeen
  rw [hr]; exact hs
theorem nodup_len : ∀ {n : Nat} {vs : List Nat}, vs.Nodup → (∀ i ∈ vs, i < n) → vs.length ≤ n
  | 0, vs, _, hb => by
    cases vs with
    | nil => simp
    | cons x r => have := hb x (by simp); omega
  | n + 1, vs, h, hb => by
    by_cases hn : n ∈ vs
    · have h1 := nodup_len (n := n) (h.erase n) (fun i hi => by
        have h2 := (List.Nodup.mem_erase_iff h).1 hi
        have := hb i h2.2
        have := h2.1
        omega)
      rw [List.length_erase_of_mem hn] at h1
      omega
    · have h1 := nodup_len (n := n) h (fun i hi => by
        have := hb i hi
        have : i ≠ n := fun e => hn (by rw [← e]; exact hi)
        omega)
      omega
theorem Rng.le (h : Rng w r b K m vs) : vs.length ≤ m.length := by
  obtain ⟨es, clock, since, seen, c0, _, _, _, _, _, _, _, _, h1, h2, _⟩ := h
  exact nodup_len h1 h2
theorem Rng.ltR (h : Rng w r b K m vs) : r < w.heap.size := by
  obtain ⟨es, clock, since, seen, c0, _, hr, _⟩ := h
  exact (Array.getElem?_eq_some_iff.1 hr).1
theorem Rng.ltB (h : Rng w r b K m vs) : b < w.heap.size := by
  obtain ⟨es, clock, since, seen, c0, hb, _⟩ := h
  exact (Array.getElem?_eq_some_iff.1 hb).1
theorem Rng.keep (h : Rng w r b K m vs) (h1 : w'.heap[b]? = w.heap[b]?) (h2 : w'.heap[r]? = w.heap[r]?) : Rng w' r b K m vs := by
  obtain ⟨es, clock, since, seen, c0, hb, hr, rest⟩ := h
  exact ⟨es, clock, since, seen, c0, h1.trans hb, h2.trans hr, rest⟩
theorem Rng.next' (h : Rng w r b K m vs) (hb : Below w.heap.size w w') : Rng w' r b K m vs := h.keep (hb.block b h.ltB) (hb.block r h.ltR)
theorem Rng.far (h : Rng w r b K m vs) {p : Addr} (hp : b ≠ p.block) (hq : r ≠ p.block) (u : Value) : Rng (w.setCell p u) r b K m vs := h.keep (Below.heap_setCell w p u b hp) (Below.heap_setCell w p u r hq)
/-- the start -/
theorem MapS.range {P : Program} (h : MapS w b K m) (t k e : TypeId) (ht : P.underlying t = some (.map k e)) :
    ∃ clock, (Instr.range t (.map (some b))).run P w = .ok (.pointer (some ⟨w.heap.size, 0, none⟩)) (w.alloc (.mapIter (some b) clock #[] clock)) ∧ Rng (w.alloc (.mapIter (some b) clock #[] clock)) w.heap.size b K m [] := by
  obtain ⟨es, clock, hb, s1, s2, s3, he⟩ := h
  have hlt := (Array.getElem?_eq_some_iff.1 hb).1
  exact ⟨clock, run_range_map w t k e b es clock ht hb, es, clock, clock, #[], clock, (heap_alloc_old w _ hlt).trans hb, heap_alloc_new w _, Nat.le_refl _, Nat.le_refl _, s1, s2, he, fun i e _ => by simp, by simp, by simp, rfl⟩
/-- the next entry, or the end -/
theorem Rng.step {P : Program} (h : Rng w r b K m vs) (ty : TypeId) :
    ((∀ i, i < m.length → i ∈ vs) ∧ (Instr.next (.pointer (some ⟨r, 0, none⟩)) false ty).run P w = .ok (.tuple #[.bool false]) w) ∨
    ∃ i p w', m[i]? = some p ∧ i ∉ vs ∧ (Instr.next (.pointer (some ⟨r, 0, none⟩)) false ty).run P w = .ok (.tuple #[.bool true, K p.1, p.2]) w' ∧ Rng w' r b K m (i :: vs) ∧ w.grownBy w' (some r) ∧ w'.heap.size = w.heap.size ∧
      (Instr.entry (.pointer (some ⟨r, 0, none⟩))).run P w' = .ok (.tuple #[K p.1, p.2]) w' := by
  have hltR := h.ltR
  obtain ⟨es, clock, since, seen, c0, hb, hr, hsc, hcl, hold, hnd, he, hvs, hvn, hvl, hss⟩ := h
  have hlen : es.toList.length = m.length := by have := congrArg List.length he; simpa using this
  have hat : ∀ (i : Nat) (e : MapEntry), es[i]? = some e → ∃ p, m[i]? = some p ∧ e.key = K p.1 ∧ e.val = p.2 := by
    intro i e hi
    have h1 : (es.toList.map (fun e => (e.key, e.val)))[i]? = some (e.key, e.val) := by
      rw [List.getElem?_map, show es.toList[i]? = some e by simpa using hi]; rfl
    rw [he, List.getElem?_map, Option.map_eq_some_iff] at h1
    obtain ⟨p, hp, e1⟩ := h1
    injection e1 with e1 e2
    exact ⟨p, hp, e1.symm, e2.symm⟩
  rcases run_next_at (P := P) w ty r b since c0 seen es clock hr hb hold hsc with ⟨h0, hrun⟩ | ⟨e, hmem, w1, hw1, hrun⟩
  · left
    refine ⟨fun i hi => ?_, hrun⟩
    have hi2 : i < es.toList.length := by omega
    have hei : es[i]? = some (es.toList[i]) := by
      rw [← Array.getElem?_toList]; exact List.getElem?_eq_getElem hi2
    refine (hvs i _ hei).1 ?_
    cases hc : seen.contains (es.toList[i]).born with
    | true => rfl
    | false =>
      exfalso
      have : es.toList[i] ∈ leftOf es seen := by
        unfold leftOf
        rw [Array.mem_filter]
        exact ⟨Array.mem_def.2 (List.getElem_mem hi2), by rw [hc]; rfl⟩
      have h1 : leftOf es seen = #[] := Array.eq_empty_of_size_eq_zero h0
      rw [h1] at this
      simp at this
  · right
    have hme : e ∈ es.toList ∧ seen.contains e.born = false := by
      have h1 : e ∈ leftOf es seen := Array.mem_def.2 hmem
      unfold leftOf at h1
      rw [Array.mem_filter] at h1
      exact ⟨Array.mem_def.1 h1.1, by simpa using h1.2⟩
    obtain ⟨i, hi⟩ := List.mem_iff_getElem?.1 hme.1
    have hei : es[i]? = some e := by rw [← Array.getElem?_toList]; exact hi
    obtain ⟨p, hp, hk, hv⟩ := hat i e hei
    have hnv : i ∉ vs := fun hc => by
      have := (hvs i e hei).2 hc
      rw [hme.2] at this; cases this
    have hh1 : w1.heap = w.heap := by rcases hw1 with rfl | rfl <;> rfl
    have hbr : b ≠ r := fun e => by subst e; rw [hb] at hr; cases hr
    have hR : (setBlock w1 r (.mapIter (some b) since (seen.push e.born) clock)).heap[r]? = some (.mapIter (some b) since (seen.push e.born) clock) := by
      simp [setBlock, hh1, hltR]
    have hB : (setBlock w1 r (.mapIter (some b) since (seen.push e.born) clock)).heap[b]? = some (.map es clock) := by
      simp only [setBlock]
      rw [Array.getElem?_setIfInBounds_ne (fun e => hbr e.symm), hh1]; exact hb
    refine ⟨i, p, _, hp, hnv, by rw [← hk, ← hv]; exact hrun, ⟨es, clock, since, seen.push e.born, clock, hB, hR, hcl, hcl, hold, hnd, he, fun i' e' hi' => ?_, List.nodup_cons.2 ⟨hnv, hvn⟩, fun j hj => ?_, by rw [Array.size_push, hss]; rfl⟩, ?_, by simp [setBlock, hh1], ?_⟩
    · rw [Array.contains_push, Bool.or_eq_true, hvs i' e' hi', List.mem_cons, or_comm]
      refine or_congr ?_ Iff.rfl
      rw [beq_iff_eq]
      constructor
      · intro hbn
        have g1 : (es.toList.map (·.born))[i']? = some e.born := by rw [List.getElem?_map, show es.toList[i']? = some e' by simpa using hi']; simp [hbn]
        have g2 : (es.toList.map (·.born))[i]? = some e.born := by rw [List.getElem?_map, hi]; rfl
        obtain ⟨l1, e1⟩ := List.getElem?_eq_some_iff.1 g1
        obtain ⟨l2, e2⟩ := List.getElem?_eq_some_iff.1 g2
        exact (List.getElem_inj hnd).1 (e1.trans e2.symm)
      · intro hii
        subst hii
        rw [hei] at hi'
        injection hi' with hi'
        rw [hi']
    · rcases List.mem_cons.1 hj with rfl | hj
      · exact (List.getElem?_eq_some_iff.1 hp).1
      · exact hvl j hj
    · have ho : w1.os = w.os ∧ w1.tape = w.tape ∧ w1.output = w.output := by rcases hw1 with rfl | rfl <;> exact ⟨rfl, rfl, rfl⟩
      exact ⟨ho.1, ho.2.1, ho.2.2, by simp [setBlock, hh1], fun k hk hne => by
        simp only [setBlock]
        rw [Array.getElem?_setIfInBounds_ne (by intro e; exact hne (by rw [e])), hh1]⟩
    · rw [← hk, ← hv]
      exact run_entry_at _ r b since seen es clock e hR hB hme.1 hnd
end
end Go.Proofs.Ytikhjoianbndhaa


/-
  Two pairs of numbers compared, in the program's library.
-/
namespace Go.Proofs.Ytikhjoianbndhaa
open Go.RowKit

def cmpI (a b : Int) : Int := if a < b then -1 else if b < a then 1 else 0
def cmpP (p q : PI) : Int := if cmpI p.1 q.1 ≠ 0 then cmpI p.1 q.1 else cmpI p.2 q.2
theorem cmpI_zero {a b : Int} : cmpI a b = 0 ↔ a = b := by
  unfold cmpI
  split
  · constructor
    · intro h; cases h
    · intro h; omega
  · split
    · constructor
      · intro h; cases h
      · intro h; omega
    · constructor
      · intro _; omega
      · intro _; rfl
theorem cmpP_neg {p q : PI} : cmpP p q < 0 ↔ ¬ lexLE q p := by
  have hc : ∀ a b : Int, (a < b → cmpI a b = -1) ∧ (b < a → cmpI a b = 1) ∧ (a = b → cmpI a b = 0) := fun a b => by
    unfold cmpI
    refine ⟨fun h => by rw [if_pos h], fun h => by rw [if_neg (by omega), if_pos h], fun h => by rw [if_neg (by omega), if_neg (by omega)]⟩
  unfold cmpP lexLE
  have h1 := hc p.1 q.1
  have h2 := hc p.2 q.2
  generalize cmpI p.1 q.1 = u at *
  generalize cmpI p.2 q.2 = v at *
  split <;> omega
theorem isNaN_any (x : Int) (w : World) : Calls Try.prog 76 #[.int .i64 x] w (Ret (.bool false) w) := by
  go_enter Try.func76, Try.ntmps76
  go_wp2_with fail
  go_ret
  exact ⟨rfl, Below.refl _ _⟩
theorem cmpI_any (x y : Int) (w : World) : Calls Try.prog 72 #[.int .i64 x, .int .i64 y] w (Ret (.int .i64 (cmpI x y)) w) := by
  unfold cmpI
  by_cases h1 : x < y
  · rw [if_pos h1]
    go_enter Try.func72, Try.ntmps72
    go_wp2_with fail
    refine (isNaN_any x w).mono ?_
    rintro e w1 ⟨rfl, hb1⟩
    go_wp2_with fail
    refine (isNaN_any y w1).mono ?_
    rintro e w2 ⟨rfl, hb2⟩
    go_wp2_with fail
    go_ret
    exact ⟨rfl, hb1.trans (hb2.mono hb1.size)⟩
  · rw [if_neg h1]
    by_cases h2 : y < x
    · rw [if_pos h2]
      go_enter Try.func72, Try.ntmps72
      go_wp2_with fail
      refine (isNaN_any x w).mono ?_
      rintro e w1 ⟨rfl, hb1⟩
      go_wp2_with fail
      refine (isNaN_any y w1).mono ?_
      rintro e w2 ⟨rfl, hb2⟩
      go_wp2_with fail
      go_ret
      exact ⟨rfl, hb1.trans (hb2.mono hb1.size)⟩
    · rw [if_neg h2]
      go_enter Try.func72, Try.ntmps72
      go_wp2_with fail
      refine (isNaN_any x w).mono ?_
      rintro e w1 ⟨rfl, hb1⟩
      go_wp2_with fail
      refine (isNaN_any y w1).mono ?_
      rintro e w2 ⟨rfl, hb2⟩
      go_wp2_with fail
      go_ret
      exact ⟨rfl, hb1.trans (hb2.mono hb1.size)⟩
set_option maxHeartbeats 1000000 in
set_option maxRecDepth 100000 in
theorem cmpP_any (g h : Nat) (c d : Nat) (p q : PI) (w : World) (hg : g < w.heap.size) (hh : h < w.heap.size) (p0 : w.cell? ⟨g, 0, none⟩ = some (.int .i64 p.1)) (p1 : w.cell? ⟨g, 1, none⟩ = some (.int .i64 p.2))
    (q0 : w.cell? ⟨h, 0, none⟩ = some (.int .i64 q.1)) (q1 : w.cell? ⟨h, 1, none⟩ = some (.int .i64 q.2)) :
    Calls Try.prog 61 #[.slice (some ⟨g, 0, none⟩) 2 c, .slice (some ⟨h, 0, none⟩) 2 d] w (Ret (.int .i64 (cmpP p q)) w) := by
  obtain ⟨x1, x2⟩ := p
  obtain ⟨y1, y2⟩ := q
  have C0 := Lib.hid (fun (W : World) (hb : Below w.heap.size w W) => show W.cell? ⟨g, 0, none⟩ = some (.int .i64 x1) ∧ W.cell? ⟨g, 1, none⟩ = some (.int .i64 x2) ∧ W.cell? ⟨h, 0, none⟩ = some (.int .i64 y1) ∧ W.cell? ⟨h, 1, none⟩ = some (.int .i64 y2) from
    ⟨(hb.cell (p := ⟨g, 0, none⟩) hg).trans p0, (hb.cell (p := ⟨g, 1, none⟩) hg).trans p1, (hb.cell (p := ⟨h, 0, none⟩) hh).trans q0, (hb.cell (p := ⟨h, 1, none⟩) hh).trans q1⟩)
  obtain ⟨R, hR⟩ : ∃ R, cmpP (x1, x2) (y1, y2) = R := ⟨_, rfl⟩
  have cv := Lib.hid (show R = if cmpI x1 y1 ≠ 0 then cmpI x1 y1 else cmpI x2 y2 from hR.symm)
  rw [hR]
  clear p0 p1 q0 q1 hR
  go_enter Try.func61, Try.ntmps61
  go_wp2_with fail
  go_loopw [11] (fun i_ w' => ∃ i : Nat, i_ = .int .i64 i ∧ i ≤ 2 ∧ Hid (1 ≤ i → cmpI x1 y1 = 0) ∧ Hid (2 ≤ i → cmpI x2 y2 = 0) ∧ Hid (Below w.heap.size w w')) (fun i_ _ => 2 - (intOf i_).toNat)
  case atStart => exact ⟨0, rfl, by omega, Lib.hid (fun h => by omega), Lib.hid (fun h => by omega), Lib.hid (Below.refl _ _)⟩
  case round =>
    obtain ⟨i, rfl, hi, H1, H2, HB⟩ := hrel
    obtain ⟨c0, c1, d0, d1⟩ := C0.out wr HB.out
    by_cases h0 : i = 0
    · subst h0
      go_wp2_with fail
      refine (cmpI_any x1 y1 wr).mono ?_
      rintro e w2 ⟨rfl, hb2⟩
      have B2 := Lib.hid (HB.out.trans (hb2.mono HB.out.size))
      clear hb2 c0 c1 d0 d1
      by_cases hz : cmpI x1 y1 = 0
      · have hzb : (cmpI x1 y1 == 0) = true := by rw [beq_iff_eq]; exact hz
        generalize hcz : cmpI x1 y1 = z at *
        subst hz
        go_wp2_with fail
        go_roundw
        case rel => exact ⟨1, by go_num, by omega, Lib.hid (fun _ => hcz), Lib.hid (fun h => by omega), B2⟩
        case measure => simp [intOf]
      · have cv2 := cv.out
        rw [if_pos hz] at cv2
        clear cv
        generalize cmpI x1 y1 = z at *
        subst cv2
        have hzb : (R == 0) = false := by rw [beq_eq_false_iff_ne]; exact hz
        go_wp2_with fail
        go_ret
        exact ⟨rfl, B2.out⟩
    · by_cases h1 : i = 1
      · subst h1
        have E1 := H1.out (by omega)
        have cv2 := cv.out
        rw [if_neg (by rw [E1]; simp)] at cv2
        go_wp2_with fail
        refine (cmpI_any x2 y2 wr).mono ?_
        rintro e w2 ⟨rfl, hb2⟩
        have B2 := Lib.hid (HB.out.trans (hb2.mono HB.out.size))
        clear hb2 c0 c1 d0 d1
        by_cases hz : cmpI x2 y2 = 0
        · generalize hcz : cmpI x2 y2 = z at *
          subst hz
          go_wp2_with fail
          go_roundw
          case rel => exact ⟨2, by go_num, by omega, Lib.hid (fun _ => H1.out (by omega)), Lib.hid (fun _ => hcz), B2⟩
          case measure => simp [intOf]
        · clear cv
          generalize cmpI x2 y2 = z at *
          subst cv2
          have hzb : (R == 0) = false := by rw [beq_eq_false_iff_ne]; exact hz
          go_wp2_with fail
          go_ret
          exact ⟨rfl, B2.out⟩
      · obtain rfl : i = 2 := by omega
        have E1 := H1.out (by omega)
        have E2 := H2.out (by omega)
        have cv2 := cv.out
        rw [if_neg (by rw [E1]; simp), E2] at cv2
        subst cv2
        go_wp2_with fail
        go_ret
        exact ⟨rfl, HB.out⟩
end Go.Proofs.Ytikhjoianbndhaa
