/-
  What phrases are: they give the word, each but the last is a new one, and all but its last letter is an earlier one.
-/
import Derived.Test.YtikhjoianbndhaaPhrOf
namespace Go.Proofs.Ytikhjoianbndhaa

/-- texts one behind the other -/
def catS : List ByteArray → ByteArray
  | [] => ⟨#[]⟩
  | x :: r => x ++ catS r
theorem ba_app_assoc (a b c : ByteArray) : a ++ b ++ c = a ++ (b ++ c) := ByteArray.append_assoc
theorem empty_app' (a : ByteArray) : (⟨#[]⟩ : ByteArray) ++ a = a := ByteArray.empty_append
theorem app_empty' (a : ByteArray) : a ++ (⟨#[]⟩ : ByteArray) = a := ByteArray.append_empty
theorem catS_app : ∀ (a b : List ByteArray), catS (a ++ b) = catS a ++ catS b
  | [], b => by simp [catS, empty_app']
  | x :: r, b => by simp [catS, catS_app r b, ba_app_assoc]
theorem memS_iff {x : ByteArray} {out : List ByteArray} : memS x out = true ↔ x ∈ out := by
  unfold memS
  simp

/-- all but the last letter -/
def initS (p : ByteArray) : ByteArray := p.extract 0 (p.size - 1)
structure PInv (s : ByteArray) (at_ : Nat) (out : List ByteArray) : Prop where
  le : at_ ≤ s.size
  cat : catS out = s.extract 0 at_
  pos : ∀ (i : Nat) (p : ByteArray), out[i]? = some p → 0 < p.size
  new : at_ < s.size → ∀ (k i : Nat) (p q : ByteArray), k < i → out[k]? = some p → out[i]? = some q → p ≠ q
  new' : ∀ (k i : Nat) (p q : ByteArray), k < i → i + 1 < out.length → out[k]? = some p → out[i]? = some q → p ≠ q
  before : ∀ (i : Nat) (p : ByteArray), out[i]? = some p → p.size ≤ 1 ∨ ∃ k q, k < i ∧ out[k]? = some q ∧ (q = initS p ∨ q = p)

theorem plen_mem (s : ByteArray) (out : List ByteArray) (at_ n : Nat) : ∀ m, n ≤ m → m < plen s out at_ n → s.extract at_ (at_ + m) ∈ out := by
  intro m h1 h2
  rw [plen] at h2
  split at h2
  · rename_i h
    by_cases hm : n = m
    · subst hm; exact memS_iff.1 h.2
    · exact plen_mem s out at_ (n + 1) m (by omega) h2
  · omega
termination_by s.size - (at_ + n)
decreasing_by omega
theorem plen_not (s : ByteArray) (out : List ByteArray) (at_ n : Nat) : at_ + plen s out at_ n < s.size → s.extract at_ (at_ + plen s out at_ n) ∉ out := by
  intro h1
  rw [plen]
  split
  · rename_i h
    have h2 : plen s out at_ n = plen s out at_ (n + 1) := by rw [plen, if_pos h]
    exact plen_not s out at_ (n + 1) (by rw [← h2]; exact h1)
  · rename_i h
    have h2 : plen s out at_ n = n := by rw [plen, if_neg h]
    rw [h2] at h1
    intro hm
    exact h ⟨h1, memS_iff.2 hm⟩
termination_by s.size - (at_ + n)
decreasing_by omega

theorem ba_ext' {a b : ByteArray} (h : a.data.toList = b.data.toList) : a = b := by
  cases a; cases b; simp_all
theorem ba_extract_split (s : ByteArray) (a b : Nat) (h : a ≤ b) : s.extract 0 a ++ s.extract a b = s.extract 0 b :=
  (ByteArray.extract_eq_extract_append_extract a (Nat.zero_le _) h).symm
theorem pinv_step {s : ByteArray} {at_ : Nat} {out : List ByteArray} (h : PInv s at_ out) (hlt : at_ < s.size) :
    PInv s (at_ + plen s out at_ 1) (out ++ [s.extract at_ (at_ + plen s out at_ 1)]) := by
  have hge := plen_ge s out at_ 1
  have hle := plen_le s out at_ 1 (by omega)
  have hmem := plen_mem s out at_ 1
  have hnot := plen_not s out at_ 1
  generalize plen s out at_ 1 = n at *
  have hsz : (s.extract at_ (at_ + n)).size = n := by rw [ByteArray.size_extract]; omega
  have at1 : ∀ i : Nat, i < out.length → (out ++ [s.extract at_ (at_ + n)])[i]? = out[i]? := fun i hi => List.getElem?_append_left hi
  have at2 : (out ++ [s.extract at_ (at_ + n)])[out.length]? = some (s.extract at_ (at_ + n)) := by simp
  have len1 : ∀ (i : Nat) (p : ByteArray), (out ++ [s.extract at_ (at_ + n)])[i]? = some p → i ≤ out.length := fun i p hp => by
    have := (List.getElem?_eq_some_iff.1 hp).1; simp at this; omega
  refine ⟨hle, ?_, fun i p hp => ?_, fun hl k i p q hki hp hq => ?_, fun k i p q hki hi hp hq => ?_, fun i p hp => ?_⟩
  · rw [catS_app, h.cat]
    simp only [catS, app_empty']
    exact ba_extract_split s at_ (at_ + n) (by omega)
  · have hi := len1 i p hp
    by_cases hi2 : i = out.length
    · subst hi2; rw [at2] at hp; obtain rfl := Option.some.inj hp; omega
    · rw [at1 i (by omega)] at hp; exact h.pos i p hp
  · have hi := len1 i q hq
    by_cases hi2 : i = out.length
    · subst hi2; rw [at2] at hq; obtain rfl := Option.some.inj hq
      rw [at1 k (by omega)] at hp
      intro e
      exact hnot hl (e ▸ List.mem_of_getElem? hp)
    · rw [at1 i (by omega)] at hq; rw [at1 k (by omega)] at hp
      exact h.new hlt k i p q hki hp hq
  · simp at hi
    rw [at1 i (by omega)] at hq; rw [at1 k (by omega)] at hp
    exact h.new hlt k i p q hki hp hq
  · have hi := len1 i p hp
    by_cases hi2 : i = out.length
    · subst hi2; rw [at2] at hp; obtain rfl := Option.some.inj hp
      by_cases hn1 : n ≤ 1
      · left; omega
      · right
        obtain ⟨k, hk⟩ := List.mem_iff_getElem?.1 (hmem (n - 1) (by omega) (by omega))
        refine ⟨k, _, (List.getElem?_eq_some_iff.1 hk).1, (at1 k (List.getElem?_eq_some_iff.1 hk).1).trans hk, .inl ?_⟩
        unfold initS
        rw [hsz, ByteArray.extract_extract]
        congr 1 <;> omega
    · rw [at1 i (by omega)] at hp
      rcases h.before i p hp with q | ⟨k, q, hk, hq, hqq⟩
      · exact .inl q
      · exact .inr ⟨k, q, hk, (at1 k (by omega)).trans hq, hqq⟩
theorem phr_inv (s : ByteArray) (at_ : Nat) (out : List ByteArray) (h : PInv s at_ out) : PInv s s.size (phr s at_ out) := by
  rw [phr]
  split
  · rename_i hlt
    exact phr_inv s _ _ (pinv_step h hlt)
  · rename_i hlt
    have := h.le
    obtain rfl : at_ = s.size := by omega
    exact h
termination_by s.size - at_
decreasing_by have := plen_ge s out at_ 1; omega
theorem phr_all (s : ByteArray) : PInv s s.size (phr s 0 []) :=
  phr_inv s 0 [] ⟨by omega, by apply ba_ext'; simp [catS], by simp, by simp, by simp, by simp⟩
end Go.Proofs.Ytikhjoianbndhaa
