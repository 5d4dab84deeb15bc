
/-
  What is made of a grammar rule by rule: the plain part.
-/
import Derived.Test.YtcpofhjoblgmgaaDoorGramS
namespace Go.Proofs.YtcpofhjoblgmgaaDoor

/-- the number of a letter -/
def letN (s : ByteArray) : Nat := match s.data.toList with | [c] => c.toNat - 97 | _ => 0
section
variable {α : Type} (d : α) (F : Nat → α) (G : α → α → Fac → α)
def fStep (out : List α) (r : Fac) : α := if r.l.size = 0 then G (out.getD r.a.toNat d) (out.getD r.b.toNat d) r else F (letN r.l)
def foldG : List Fac → List α → List α
  | [], out => out
  | r :: rs, out => foldG rs (out ++ [fStep d F G out r])
theorem foldG_app : ∀ (xs ys : List Fac) (out : List α), foldG d F G (xs ++ ys) out = foldG d F G ys (foldG d F G xs out)
  | [], _, _ => rfl
  | _ :: xs, ys, _ => foldG_app xs ys _
theorem foldG_len : ∀ (xs : List Fac) (out : List α), (foldG d F G xs out).length = out.length + xs.length
  | [], _ => by simp [foldG]
  | x :: xs, out => by
    show (foldG d F G xs (out ++ [fStep d F G out x])).length = _
    rw [foldG_len xs]; simp; omega
theorem foldG_snoc (xs : List Fac) (x : Fac) (out : List α) : foldG d F G (xs ++ [x]) out = foldG d F G xs out ++ [fStep d F G (foldG d F G xs out) x] := by
  rw [foldG_app]; rfl
/-- what is made of the rules ahead of rule k -/
def outs (rs : List Fac) (k : Nat) : List α := foldG d F G (rs.take k) []
theorem outs_len (rs : List Fac) (k : Nat) (h : k ≤ rs.length) : (outs d F G rs k).length = k := by
  unfold outs; rw [foldG_len]; simp; omega
theorem outs_step {rs : List Fac} {k : Nat} {r : Fac} (h : rs[k]? = some r) : outs d F G rs (k + 1) = outs d F G rs k ++ [fStep d F G (outs d F G rs k) r] := by
  unfold outs
  obtain ⟨hk, he⟩ := List.getElem?_eq_some_iff.1 h
  rw [List.take_succ_eq_append_getElem hk, foldG_snoc, he]
theorem outs_all (rs : List Fac) (k : Nat) (h : rs.length ≤ k) : outs d F G rs k = foldG d F G rs [] := by
  unfold outs; rw [List.take_of_length_le h]
/-- what was made of a rule, at any time behind it -/
theorem outs_at (rs : List Fac) : ∀ (k i : Nat), i < k → k ≤ rs.length → (outs d F G rs k)[i]? = (foldG d F G rs [])[i]? := by
  intro k i hi hk
  have e : foldG d F G rs [] = foldG d F G (rs.drop k) (outs d F G rs k) := by
    unfold outs; rw [← foldG_app, List.take_append_drop]
  have pre : ∀ (xs : List Fac) (out : List α), i < out.length → (foldG d F G xs out)[i]? = out[i]? := by
    intro xs
    induction xs with
    | nil => intro out _; rfl
    | cons x xs ih =>
      intro out h
      show (foldG d F G xs (out ++ [fStep d F G out x]))[i]? = _
      rw [ih _ (by simp; omega), List.getElem?_append_left h]
  rw [e, pre _ _ (by rw [outs_len d F G rs k hk]; exact hi)]
/-- one value for each rule; one for no rule where there is none -/
def foldAll (z : α) (rs : List Fac) : List α := if rs.length = 0 then [z] else foldG d F G rs []
end

/-- each rule is a pair of earlier ones, or a letter -/
def WF (rs : List Fac) : Prop := ∀ (k : Nat) (r : Fac), rs[k]? = some r → (r.l.size = 0 ∧ 0 ≤ r.a ∧ r.a < k ∧ 0 ≤ r.b ∧ r.b < k) ∨ (∃ c, letB c = true ∧ r.l = ⟨#[c]⟩ ∧ r.a = 0 ∧ r.b = 0)
theorem letT_one {s : ByteArray} (h : letT s = true) : ∃ c, letB c = true ∧ s = ⟨#[c]⟩ := by
  by_cases h1 : s.size = 1
  · obtain ⟨c, rfl⟩ := one_byte h1
    exact ⟨c, h, rfl⟩
  · rw [letT_not h1] at h; cases h
theorem wf_go : ∀ (rs : List Fac) (out ls : List Int), gLens rs out = some ls → ∀ (k : Nat) (r : Fac), rs[k]? = some r →
    (r.l.size = 0 ∧ 0 ≤ r.a ∧ r.a < (out.length + k : Nat) ∧ 0 ≤ r.b ∧ r.b < (out.length + k : Nat)) ∨ (∃ c, letB c = true ∧ r.l = ⟨#[c]⟩ ∧ r.a = 0 ∧ r.b = 0)
  | [], _, _, _, k, r, h => by simp at h
  | x :: rs, out, ls, h, 0, r, hr => by
    obtain rfl : x = r := by simpa using hr
    unfold gLens at h
    obtain ⟨n, h1, _⟩ := Option.bind_eq_some_iff.1 h
    unfold gStep at h1
    split at h1
    · rename_i h0
      split at h1
      · rename_i hc; exact .inl ⟨h0, by simpa using hc.1, by simpa using hc.2.1, by simpa using hc.2.2.1, by simpa using hc.2.2.2.1⟩
      · cases h1
    · split at h1
      · rename_i hc
        obtain ⟨c, hc1, hc2⟩ := letT_one hc.1
        exact .inr ⟨c, hc1, hc2, hc.2⟩
      · cases h1
  | x :: rs, out, ls, h, k + 1, r, hr => by
    unfold gLens at h
    obtain ⟨n, h1, h2⟩ := Option.bind_eq_some_iff.1 h
    have := wf_go rs _ ls h2 k r (by simpa using hr)
    simp only [List.length_append, List.length_cons, List.length_nil] at this
    rcases this with h | h
    · exact .inl ⟨h.1, h.2.1, by have := h.2.2.1; omega, h.2.2.2.1, by have := h.2.2.2.2; omega⟩
    · exact .inr h
theorem wf_of {rs : List Fac} {ls : List Int} (h : gLens rs [] = some ls) : WF rs := fun k r hr => by simpa using wf_go rs [] ls h k r hr
theorem letB_num {c : UInt8} (h : letB c = true) : 97 ≤ (c.toNat : Int) ∧ (c.toNat : Int) ≤ 100 := by simpa [letB] using h
theorem letN_one (c : UInt8) : letN ⟨#[c]⟩ = c.toNat - 97 := rfl
theorem letN_lt {s : ByteArray} (h : letT s = true) : letN s < 4 := by
  obtain ⟨c, hc, rfl⟩ := letT_one h
  have := letB_num hc
  rw [letN_one]; omega
end Go.Proofs.YtcpofhjoblgmgaaDoor
