/-
  The factors of a plain word: the plain part. The longest text that occurs before, found by searching it in what comes before, and found by trying all places.
-/
import Derived.Test.YtmfgmkahifcgpaaLet
import Derived.Lib.IndexMore
namespace Go.Proofs.Ytmfgmkahifcgpaa

/-- letters that are equal from two places on -/
def MatchF (L : List UInt8) (at_ from_ n : Nat) : Prop := ∀ t, t < n → from_ + t < at_ ∧ at_ + t < L.length ∧ L[from_ + t]? = L[at_ + t]?
theorem MatchF.mono {L : List UInt8} {at_ from_ n m : Nat} (h : MatchF L at_ from_ n) (hm : m ≤ n) : MatchF L at_ from_ m := fun t ht => h t (by omega)
/-- how far the letters from a place on are those at another one -/
def extF (L : List UInt8) (at_ from_ k : Nat) : Nat :=
  if at_ + k < L.length ∧ from_ + k < at_ ∧ L[from_ + k]? = L[at_ + k]? then extF L at_ from_ (k + 1) else k
termination_by L.length - (at_ + k)
decreasing_by omega
theorem extF_spec (L : List UInt8) (at_ from_ k : Nat) (h : MatchF L at_ from_ k) : k ≤ extF L at_ from_ k ∧ MatchF L at_ from_ (extF L at_ from_ k) ∧ ¬ MatchF L at_ from_ (extF L at_ from_ k + 1) := by
  rw [extF]
  split
  · rename_i hc
    have h2 : MatchF L at_ from_ (k + 1) := fun t ht => by
      by_cases htk : t < k
      · exact h t htk
      · obtain rfl : t = k := by omega
        exact ⟨hc.2.1, hc.1, hc.2.2⟩
    have := extF_spec L at_ from_ (k + 1) h2
    exact ⟨by omega, this.2⟩
  · rename_i hc
    refine ⟨Nat.le_refl _, h, fun hm => hc ?_⟩
    have := hm k (by omega)
    exact ⟨this.2.1, this.1, this.2.2⟩
termination_by L.length - (at_ + k)
decreasing_by omega
theorem extF_iff (L : List UInt8) (at_ from_ n : Nat) : MatchF L at_ from_ n ↔ n ≤ extF L at_ from_ 0 := by
  have h := extF_spec L at_ from_ 0 (fun t ht => by omega)
  constructor
  · intro hm
    rcases Nat.lt_or_ge (extF L at_ from_ 0) n with q | q
    · exact absurd (hm.mono q) h.2.2
    · exact q
  · exact fun hn => h.2.1.mono hn
/-- the first of the places from which on the most letters are equal -/
def bstF (L : List UInt8) (at_ from_ bf bn : Nat) : Nat × Nat :=
  if from_ < at_ then (if bn < extF L at_ from_ 0 then bstF L at_ (from_ + 1) from_ (extF L at_ from_ 0) else bstF L at_ (from_ + 1) bf bn) else (bf, bn)
termination_by at_ - from_
theorem bstF_spec (L : List UInt8) (at_ from_ bf bn : Nat) (h1 : ∀ j, j < from_ → extF L at_ j 0 ≤ bn) (h2 : 0 < bn → bf < from_ ∧ extF L at_ bf 0 = bn ∧ ∀ j, j < bf → extF L at_ j 0 < bn) :
    (∀ j, j < at_ → extF L at_ j 0 ≤ (bstF L at_ from_ bf bn).2) ∧ (0 < (bstF L at_ from_ bf bn).2 → extF L at_ (bstF L at_ from_ bf bn).1 0 = (bstF L at_ from_ bf bn).2 ∧ ∀ j, j < (bstF L at_ from_ bf bn).1 → extF L at_ j 0 < (bstF L at_ from_ bf bn).2) := by
  rw [bstF]
  split
  · split
    · rename_i hlt hgt
      refine bstF_spec L at_ (from_ + 1) from_ (extF L at_ from_ 0) (fun j hj => ?_) (fun _ => ⟨by omega, rfl, fun j hj => ?_⟩)
      · by_cases hjf : j < from_
        · have := h1 j hjf; omega
        · obtain rfl : j = from_ := by omega
          exact Nat.le_refl _
      · have := h1 j hj; omega
    · rename_i hlt hgt
      refine bstF_spec L at_ (from_ + 1) bf bn (fun j hj => ?_) (fun hb => ?_)
      · by_cases hjf : j < from_
        · exact h1 j hjf
        · obtain rfl : j = from_ := by omega
          omega
      · have := h2 hb
        exact ⟨by omega, this.2⟩
  · rename_i hge
    refine ⟨fun j hj => h1 j (by omega), fun hb => ?_⟩
    exact (h2 hb).2
termination_by at_ - from_
/-- the text of n letters at a place, and what comes before -/
def befF (s : ByteArray) (at_ : Nat) : List UInt8 := (s.extract 0 at_).data.toList
def partF (s : ByteArray) (at_ n : Nat) : List UInt8 := (s.extract at_ (at_ + n)).data.toList
theorem befF_eq (s : ByteArray) (at_ : Nat) : befF s at_ = s.data.toList.take at_ := by
  unfold befF
  rw [ByteArray.data_extract, Array.toList_extract, List.extract_eq_take_drop]; simp
theorem partF_eq (s : ByteArray) (at_ n : Nat) : partF s at_ n = (s.data.toList.drop at_).take n := by
  unfold partF
  rw [ByteArray.data_extract, Array.toList_extract, List.extract_eq_take_drop]
  congr 1; omega
theorem occF_iff (s : ByteArray) (at_ n from_ : Nat) (hn : 0 < n) (h : at_ + n ≤ s.size) : Lib.occAt (befF s at_) (partF s at_ n) from_ = true ↔ MatchF s.data.toList at_ from_ n := by
  have hL : s.data.toList.length = s.size := byte_len s
  unfold Lib.occAt
  rw [List.isPrefixOf_iff_prefix, List.prefix_iff_eq_take, befF_eq, partF_eq]
  have hlen : ((s.data.toList.drop at_).take n).length = n := by rw [List.length_take, List.length_drop, hL]; omega
  rw [hlen]
  have e1 : ∀ t, t < n → ((s.data.toList.drop at_).take n)[t]? = s.data.toList[at_ + t]? := fun t ht => by
    rw [List.getElem?_take, if_pos ht, List.getElem?_drop]
  have e2 : ∀ t, t < n → ((List.drop from_ (s.data.toList.take at_)).take n)[t]? = if from_ + t < at_ then s.data.toList[from_ + t]? else none := fun t ht => by
    rw [List.getElem?_take, if_pos ht, List.getElem?_drop, List.getElem?_take]
  constructor
  · intro he t ht
    have h1 := e1 t ht
    rw [he, e2 t ht] at h1
    have hs : s.data.toList[at_ + t]? = some (s.data.toList[at_ + t]'(by omega)) := List.getElem?_eq_getElem _
    by_cases hf : from_ + t < at_
    · rw [if_pos hf] at h1
      exact ⟨hf, by omega, h1⟩
    · rw [if_neg hf, hs] at h1; cases h1
  · intro hm
    apply List.ext_getElem?
    intro t
    by_cases ht : t < n
    · rw [e1 t ht, e2 t ht, if_pos (hm t ht).1]; exact (hm t ht).2.2.symm
    · rw [List.getElem?_eq_none (by omega), List.getElem?_eq_none (by rw [List.length_take]; omega)]
theorem befF_len {s : ByteArray} {at_ : Nat} (h : at_ ≤ s.size) : (befF s at_).length = at_ := by
  rw [befF_eq, List.length_take, byte_len]; omega
theorem contF_iff (s : ByteArray) (at_ n : Nat) (hn : 0 < n) (h : at_ + n ≤ s.size) : Lib.contains (befF s at_) (partF s at_ n) = true ↔ ∃ f, MatchF s.data.toList at_ f n := by
  unfold Lib.contains
  constructor
  · intro hc
    by_cases hex : ∃ f, MatchF s.data.toList at_ f n
    · exact hex
    · exfalso
      have := Lib.index_none (s := befF s at_) (sub := partF s at_ n) (fun j _ => by
        cases hq : Lib.occAt (befF s at_) (partF s at_ n) j with
        | false => rfl
        | true => exact absurd ⟨j, (occF_iff s at_ n j hn h).1 hq⟩ hex)
      rw [this] at hc
      simp at hc
  · rintro ⟨f, hf⟩
    have hle : ∃ g, g ≤ f ∧ MatchF s.data.toList at_ g n ∧ ∀ j, j < g → ¬ MatchF s.data.toList at_ j n := by
      clear hn h
      induction f using Nat.strongRecOn with
      | ind f ih =>
        by_cases hex : ∃ j, j < f ∧ MatchF s.data.toList at_ j n
        · obtain ⟨j, hj, hm⟩ := hex
          obtain ⟨g, hg, h1, h2⟩ := ih j hj hm
          exact ⟨g, by omega, h1, h2⟩
        · exact ⟨f, Nat.le_refl _, hf, fun j hj hm => hex ⟨j, hj, hm⟩⟩
    obtain ⟨g, _, h1, h2⟩ := hle
    have hg := (h1 0 hn).1
    have := Lib.index_first (s := befF s at_) (sub := partF s at_ n) (i := g) (by rw [befF_len (by omega)]; omega) ((occF_iff s at_ n g hn h).2 h1) (fun j hj => by
      cases hq : Lib.occAt (befF s at_) (partF s at_ n) j with
      | false => rfl
      | true => exact absurd ((occF_iff s at_ n j hn h).1 hq) (h2 j hj))
    rw [this]; simp
/-- how long the text is that occurs before -/
def fonF (s : ByteArray) (at_ n : Nat) : Nat :=
  if at_ + n < s.size ∧ Lib.contains (befF s at_) (partF s at_ (n + 1)) = true then fonF s at_ (n + 1) else n
termination_by s.size - (at_ + n)
decreasing_by omega
theorem fonF_spec (s : ByteArray) (at_ n : Nat) (hle : at_ + n ≤ s.size) (h : n = 0 ∨ ∃ f, MatchF s.data.toList at_ f n) :
    at_ + fonF s at_ n ≤ s.size ∧ n ≤ fonF s at_ n ∧ (fonF s at_ n = 0 ∨ ∃ f, MatchF s.data.toList at_ f (fonF s at_ n)) ∧ ∀ f, ¬ MatchF s.data.toList at_ f (fonF s at_ n + 1) := by
  rw [fonF]
  split
  · rename_i hc
    have := fonF_spec s at_ (n + 1) (by omega) (.inr ((contF_iff s at_ (n + 1) (by omega) (by omega)).1 hc.2))
    exact ⟨this.1, by omega, this.2.2⟩
  · rename_i hc
    refine ⟨hle, Nat.le_refl _, h, fun f hm => hc ?_⟩
    have h1 := (hm n (by omega)).2.1
    rw [byte_len] at h1
    exact ⟨h1, (contF_iff s at_ (n + 1) (by omega) (by omega)).2 ⟨f, hm⟩⟩
termination_by s.size - (at_ + n)
decreasing_by omega
theorem bst_fon {s : ByteArray} {at_ : Nat} (hat : at_ ≤ s.size) : (bstF s.data.toList at_ 0 0 0).2 = fonF s at_ 0 ∧ (0 < fonF s at_ 0 → ((bstF s.data.toList at_ 0 0 0).1 : Int) = Lib.index (befF s at_) (partF s at_ (fonF s at_ 0))) := by
  obtain ⟨f0, _, f1, f2⟩ := fonF_spec s at_ 0 (by omega) (.inl rfl)
  obtain ⟨b1, b2⟩ := bstF_spec s.data.toList at_ 0 0 0 (fun j hj => by omega) (fun h => by omega)
  generalize bstF s.data.toList at_ 0 0 0 = B at *
  generalize fonF s at_ 0 = N at *
  have e : B.2 = N := by
    apply Nat.le_antisymm
    · rcases Nat.eq_zero_or_pos B.2 with q | q
      · omega
      · rcases Nat.lt_or_ge N B.2 with q2 | q2
        · exfalso
          exact f2 B.1 ((extF_iff _ _ _ _).2 (by rw [(b2 q).1]; omega))
        · exact q2
    · rcases f1 with q | ⟨f, hf⟩
      · omega
      · rcases Nat.eq_zero_or_pos N with q | q
        · omega
        · have := b1 f (by have := (hf 0 q).1; omega)
          have := (extF_iff _ _ _ _).1 hf
          omega
  refine ⟨e, fun hN => ?_⟩
  obtain ⟨b3, b4⟩ := b2 (by omega)
  have hm : MatchF s.data.toList at_ B.1 N := (extF_iff _ _ _ _).2 (by omega)
  have := Lib.index_first (s := befF s at_) (sub := partF s at_ N) (i := B.1) (by rw [befF_len hat]; have := (hm 0 hN).1; omega) ((occF_iff s at_ N B.1 hN f0).2 hm) (fun j hj => by
    cases hq : Lib.occAt (befF s at_) (partF s at_ N) j with
    | false => rfl
    | true =>
      exfalso
      have h1 := (extF_iff _ _ _ _).1 ((occF_iff s at_ N j hN f0).1 hq)
      have h2 := b4 j hj
      omega)
  rw [this]
/-- the factor at a place, and how far it goes -/
def facF (s : ByteArray) (at_ : Nat) : Fac := if fonF s at_ 0 = 0 then ⟨s.extract at_ (at_ + 1), 0, 0⟩ else ⟨⟨#[]⟩, Lib.index (befF s at_) (partF s at_ (fonF s at_ 0)), (fonF s at_ 0 : Nat)⟩
def stepF (s : ByteArray) (at_ : Nat) : Nat := if fonF s at_ 0 = 0 then 1 else fonF s at_ 0
theorem stepF_pos (s : ByteArray) (at_ : Nat) : 1 ≤ stepF s at_ := by unfold stepF; split <;> omega
theorem stepF_le {s : ByteArray} {at_ : Nat} (h : at_ < s.size) : at_ + stepF s at_ ≤ s.size := by
  have := (fonF_spec s at_ 0 (by omega) (.inl rfl)).1
  unfold stepF; split <;> omega
def facsF (s : ByteArray) (at_ : Nat) : List Fac := if at_ < s.size then facF s at_ :: facsF s (at_ + stepF s at_) else []
termination_by s.size - at_
decreasing_by have := stepF_pos s at_; omega
theorem facsF_len (s : ByteArray) (at_ : Nat) : (facsF s at_).length ≤ s.size - at_ := by
  rw [facsF]
  split
  · have h1 := facsF_len s (at_ + stepF s at_)
    have := stepF_pos s at_
    simp only [List.length_cons]; omega
  · simp
termination_by s.size - at_
decreasing_by have := stepF_pos s at_; omega
def foF (s : ByteArray) : List Fac := if okW s = true then (if 120 < (facsF s 0).length then [] else facsF s 0) else []
def foC (s : ByteArray) : Int := if okW s = true then (if 120 < (facsF s 0).length then 3 else 0) else 1
theorem foF_len (s : ByteArray) : (foF s).length ≤ 120 := by
  unfold foF
  split
  · split
    · simp
    · omega
  · simp
theorem facF_index {s : ByteArray} {at_ : Nat} (hat : at_ ≤ s.size) (h : fonF s at_ 0 ≠ 0) : 0 ≤ Lib.index (befF s at_) (partF s at_ (fonF s at_ 0)) ∧ Lib.index (befF s at_) (partF s at_ (fonF s at_ 0)) ≤ s.size := by
  obtain ⟨e1, e2⟩ := bst_fon hat
  rw [← e2 (by omega)]
  refine ⟨by omega, ?_⟩
  obtain ⟨_, b2⟩ := bstF_spec s.data.toList at_ 0 0 0 (fun j hj => by omega) (fun h => by omega)
  have h3 := (b2 (by omega)).1
  have hm : MatchF s.data.toList at_ (bstF s.data.toList at_ 0 0 0).1 (bstF s.data.toList at_ 0 0 0).2 := (extF_iff _ _ _ _).2 (by omega)
  have := (hm 0 (by omega)).1
  omega
end Go.Proofs.Ytmfgmkahifcgpaa
