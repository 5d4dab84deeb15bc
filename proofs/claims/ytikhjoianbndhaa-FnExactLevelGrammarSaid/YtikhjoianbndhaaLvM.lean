/-
  Level grammars: the plain part: rules with their depths, and how two level rules are made one.
-/
import Derived.Test.YtikhjoianbndhaaMapM
import Derived.Test.YtikhjoianbndhaaTrimM
namespace Go.Proofs.Ytikhjoianbndhaa

structure LvS where
  rs : List Fac
  ds : List Int
def lvD (s : LvS) (k : Int) : Int := s.ds.getD k.toNat 0
def lvR (s : LvS) (k : Int) : Fac := s.rs.getD k.toNat default
def lvDep (s : LvS) (r : Fac) : Int := if r.l.size = 0 then max (lvD s r.a) (lvD s r.b) + 1 else 1
/-- a rule, added if it is not there -/
def lvRule (s : LvS) (r : Fac) : LvS × Int := if r ∈ s.rs then (s, ((s.rs.idxOf r : Nat) : Int)) else (⟨s.rs ++ [r], s.ds ++ [lvDep s r]⟩, (s.rs.length : Int))
def lvPair (s : LvS) (a b : Int) : LvS × Int := lvRule s ⟨⟨#[]⟩, a, b⟩
def lvLeft (s : LvS) (a z : Int) : LvS × Int :=
  if lvD s z ≤ lvD s a + 1 then lvPair s a z
  else if lvD s (lvR s z).a ≤ lvD s (lvR s z).b then lvPair (lvPair s a (lvR s z).a).1 (lvPair s a (lvR s z).a).2 (lvR s z).b
  else lvPair (lvPair (lvPair s a (lvR s (lvR s z).a).a).1 (lvR s (lvR s z).a).b (lvR s z).b).1 (lvPair s a (lvR s (lvR s z).a).a).2 (lvPair (lvPair s a (lvR s (lvR s z).a).a).1 (lvR s (lvR s z).a).b (lvR s z).b).2
def lvRight (s : LvS) (a z : Int) : LvS × Int :=
  if lvD s z ≤ lvD s a + 1 then lvPair s z a
  else if lvD s (lvR s z).b ≤ lvD s (lvR s z).a then lvPair (lvPair s (lvR s z).b a).1 (lvR s z).a (lvPair s (lvR s z).b a).2
  else lvPair (lvPair (lvPair s (lvR s z).a (lvR s (lvR s z).b).a).1 (lvR s (lvR s z).b).b a).1 (lvPair s (lvR s z).a (lvR s (lvR s z).b).a).2 (lvPair (lvPair s (lvR s z).a (lvR s (lvR s z).b).a).1 (lvR s (lvR s z).b).b a).2
def lvLevel : Nat → LvS → Int → Int → LvS × Int
  | 0, s, l, r => lvPair s l r
  | f + 1, s, l, r =>
    if 1 < lvD s l - lvD s r then lvLeft (lvLevel f s (lvR s l).b r).1 (lvR s l).a (lvLevel f s (lvR s l).b r).2
    else if lvD s l - lvD s r < -1 then lvRight (lvLevel f s l (lvR s r).a).1 (lvR s r).b (lvLevel f s l (lvR s r).a).2
    else lvPair s l r
/-- what holds of rules and depths -/
structure LvI (s : LvS) : Prop where
  len : s.ds.length = s.rs.length
  wf : WF s.rs
  dep : ∀ (k : Nat) (r : Fac), s.rs[k]? = some r → lvD s (k : Int) = lvDep s r
  lo : ∀ k : Nat, k < s.rs.length → 1 ≤ lvD s (k : Int) ∧ lvD s (k : Int) ≤ (k : Int) + 1
def Idx (s : LvS) (k : Int) : Prop := 0 ≤ k ∧ k < (s.rs.length : Int)
theorem LvI.get {s : LvS} (h : LvI s) {k : Int} (hk : Idx s k) : s.rs[k.toNat]? = some (lvR s k) := by
  unfold lvR
  rw [List.getD_eq_getElem?_getD, List.getElem?_eq_getElem (by have := hk.2; have := hk.1; omega)]; rfl
/-- a deep rule is a pair -/
theorem LvI.deep {s : LvS} (h : LvI s) {k : Int} (hk : Idx s k) (hd : 1 < lvD s k) : (lvR s k).l.size = 0 ∧ Idx s (lvR s k).a ∧ Idx s (lvR s k).b ∧ (lvR s k).a < k ∧ (lvR s k).b < k ∧ lvD s k = max (lvD s (lvR s k).a) (lvD s (lvR s k).b) + 1 := by
  have hg := h.get hk
  have h1 := h.dep _ _ hg
  have e : ((k.toNat : Nat) : Int) = k := by have := hk.1; omega
  rw [e] at h1
  rcases h.wf _ _ hg with ⟨h0, ha0, ha1, hb0, hb1⟩ | ⟨c, _, hl, _⟩
  · have := hk.2
    unfold lvDep at h1
    rw [if_pos h0] at h1
    exact ⟨h0, ⟨ha0, by omega⟩, ⟨hb0, by omega⟩, by omega, by omega, h1⟩
  · exfalso
    unfold lvDep at h1
    rw [if_neg (by rw [hl]; show ¬ (1 : Nat) = 0; omega)] at h1
    omega
/-- what an operation does -/
structure LvO (s : LvS) (t : LvS × Int) (g : Nat) : Prop where
  i : LvI t.1
  ext : ∃ er ed, t.1.rs = s.rs ++ er ∧ t.1.ds = s.ds ++ ed
  ix : Idx t.1 t.2
  len : t.1.rs.length ≤ s.rs.length + g
theorem LvO.grow {s : LvS} {t : LvS × Int} {g : Nat} (h : LvO s t g) : s.rs.length ≤ t.1.rs.length := by
  obtain ⟨er, ed, h1, _⟩ := h.ext
  rw [h1, List.length_append]; omega
theorem LvO.idx {s : LvS} {t : LvS × Int} {g : Nat} (h : LvO s t g) {k : Int} (hk : Idx s k) : Idx t.1 k := ⟨hk.1, by have := h.grow; have := hk.2; omega⟩
theorem LvO.r {s : LvS} {t : LvS × Int} {g : Nat} (h : LvO s t g) {k : Int} (hk : Idx s k) : lvR t.1 k = lvR s k := by
  obtain ⟨er, ed, h1, _⟩ := h.ext
  unfold lvR
  rw [h1, List.getD_eq_getElem?_getD, List.getD_eq_getElem?_getD, List.getElem?_append_left (by have := hk.1; have := hk.2; omega)]
theorem LvO.d {s : LvS} {t : LvS × Int} {g : Nat} (hs : LvI s) (h : LvO s t g) {k : Int} (hk : Idx s k) : lvD t.1 k = lvD s k := by
  obtain ⟨er, ed, _, h2⟩ := h.ext
  unfold lvD
  rw [h2, List.getD_eq_getElem?_getD, List.getD_eq_getElem?_getD, List.getElem?_append_left (by have := hk.1; have := hk.2; have := hs.len; omega)]
theorem LvO.trans {s : LvS} {t u : LvS × Int} {g1 g2 : Nat} (h1 : LvO s t g1) (h2 : LvO t.1 u g2) : LvO s u (g1 + g2) := by
  obtain ⟨e1, d1, a1, b1⟩ := h1.ext
  obtain ⟨e2, d2, a2, b2⟩ := h2.ext
  exact ⟨h2.i, ⟨e1 ++ e2, d1 ++ d2, by rw [a2, a1, List.append_assoc], by rw [b2, b1, List.append_assoc]⟩, h2.ix, by have := h1.len; have := h2.len; omega⟩
theorem LvO.more {s : LvS} {t : LvS × Int} {g g' : Nat} (h : LvO s t g) (hg : g ≤ g') : LvO s t g' := ⟨h.i, h.ext, h.ix, by have := h.len; omega⟩
/-- what may be added -/
def RuleOk (s : LvS) (r : Fac) : Prop := (r.l.size = 0 ∧ Idx s r.a ∧ Idx s r.b) ∨ (∃ c, letB c = true ∧ r.l = ⟨#[c]⟩ ∧ r.a = 0 ∧ r.b = 0)
theorem lvRule_do {s : LvS} (h : LvI s) {r : Fac} (hr : RuleOk s r) : LvO s (lvRule s r) 1 := by
  unfold lvRule
  split
  · rename_i hm
    have := List.idxOf_lt_length_of_mem hm
    exact ⟨h, ⟨[], [], by simp, by simp⟩, ⟨by simp, by simp only; omega⟩, by simp⟩
  · rename_i hm
    have hl := h.len
    have hdd : 1 ≤ lvDep s r ∧ lvDep s r ≤ (s.rs.length : Int) + 1 := by
      unfold lvDep
      rcases hr with ⟨h0, ha, hb⟩ | ⟨c, _, hl2, _⟩
      · rw [if_pos h0]
        have e1 := h.lo r.a.toNat (by have := ha.1; have := ha.2; omega)
        have e2 := h.lo r.b.toNat (by have := hb.1; have := hb.2; omega)
        rw [show ((r.a.toNat : Nat) : Int) = r.a by have := ha.1; omega] at e1
        rw [show ((r.b.toNat : Nat) : Int) = r.b by have := hb.1; omega] at e2
        have := ha.2; have := hb.2
        omega
      · rw [if_neg (by rw [hl2]; show ¬ (1 : Nat) = 0; omega)]; omega
    obtain ⟨dd, hdn⟩ : ∃ dd, lvDep s r = dd := ⟨_, rfl⟩
    rw [hdn] at hdd ⊢
    have old : ∀ k : Int, Idx s k → lvD ⟨s.rs ++ [r], s.ds ++ [dd]⟩ k = lvD s k := fun k hk => by
      unfold lvD
      rw [List.getD_eq_getElem?_getD, List.getD_eq_getElem?_getD, List.getElem?_append_left (by have := hk.1; have := hk.2; omega)]
    have new : lvD ⟨s.rs ++ [r], s.ds ++ [dd]⟩ (s.rs.length : Int) = dd := by
      unfold lvD
      rw [List.getD_eq_getElem?_getD, Int.toNat_natCast, ← hl, List.getElem?_append_right (Nat.le_refl _), Nat.sub_self]; rfl
    have dold : ∀ q : Fac, (q.l.size = 0 → Idx s q.a ∧ Idx s q.b) → lvDep ⟨s.rs ++ [r], s.ds ++ [dd]⟩ q = lvDep s q := fun q hq => by
      unfold lvDep
      by_cases h0 : q.l.size = 0
      · rw [if_pos h0, if_pos h0, old _ (hq h0).1, old _ (hq h0).2]
      · rw [if_neg h0, if_neg h0]
    refine ⟨⟨by simp [hl], ?_, ?_, ?_⟩, ⟨[r], [dd], rfl, rfl⟩, ⟨by simp, by simp only [List.length_append, List.length_singleton]; omega⟩, by simp⟩
    · intro k q hq
      by_cases hk : k < s.rs.length
      · rw [List.getElem?_append_left hk] at hq; exact h.wf k q hq
      · have hk2 : k = s.rs.length := by have := (List.getElem?_eq_some_iff.1 hq).1; simp at this; omega
        subst hk2
        simp at hq; subst hq
        rcases hr with ⟨h0, ha, hb⟩ | hc
        · exact .inl ⟨h0, ha.1, ha.2, hb.1, hb.2⟩
        · exact .inr hc
    · intro k q hq
      by_cases hk : k < s.rs.length
      · rw [List.getElem?_append_left hk] at hq
        rw [old k ⟨by omega, by omega⟩, h.dep k q hq, dold]
        intro h0
        rcases h.wf k q hq with ⟨_, ha0, ha1, hb0, hb1⟩ | ⟨c, _, hl2, _⟩
        · exact ⟨⟨ha0, by omega⟩, ⟨hb0, by omega⟩⟩
        · rw [hl2] at h0; exact absurd h0 (show ¬ (1 : Nat) = 0 by omega)
      · have hk2 : k = s.rs.length := by have := (List.getElem?_eq_some_iff.1 hq).1; simp at this; omega
        subst hk2
        simp at hq; subst hq
        rw [new, dold, hdn]
        intro h0
        rcases hr with ⟨_, ha, hb⟩ | ⟨c, _, hl2, _⟩
        · exact ⟨ha, hb⟩
        · rw [hl2] at h0; exact absurd h0 (show ¬ (1 : Nat) = 0 by omega)
    · intro k hk
      by_cases hk' : k < s.rs.length
      · rw [old k ⟨by omega, by omega⟩]; exact h.lo k hk'
      · have hk2 : k = s.rs.length := by simp at hk; omega
        subst hk2
        rw [new]; exact hdd
theorem lvPair_do {s : LvS} (h : LvI s) {a b : Int} (ha : Idx s a) (hb : Idx s b) : LvO s (lvPair s a b) 1 := lvRule_do h (.inl ⟨rfl, ha, hb⟩)
theorem lvLeft_do {s : LvS} (h : LvI s) {a z : Int} (ha : Idx s a) (hz : Idx s z) : LvO s (lvLeft s a z) 3 := by
  have da := h.lo a.toNat (by have := ha.1; have := ha.2; omega)
  rw [show ((a.toNat : Nat) : Int) = a by have := ha.1; omega] at da
  unfold lvLeft
  split
  · exact (lvPair_do h ha hz).more (by omega)
  · rename_i h1
    obtain ⟨_, hc, hd, _, _, _⟩ := h.deep hz (by omega)
    have dd := h.lo (lvR s z).b.toNat (by have := hd.1; have := hd.2; omega)
    rw [show (((lvR s z).b.toNat : Nat) : Int) = (lvR s z).b by have := hd.1; omega] at dd
    split
    · have o1 := lvPair_do h ha hc
      exact (o1.trans (lvPair_do o1.i o1.ix (o1.idx hd))).more (by omega)
    · rename_i h2
      obtain ⟨_, he, hf, _, _, _⟩ := h.deep hc (by omega)
      have o1 := lvPair_do h ha he
      have o2 := lvPair_do o1.i (o1.idx hf) (o1.idx hd)
      exact ((o1.trans o2).trans (lvPair_do o2.i (o2.idx o1.ix) o2.ix)).more (by omega)
theorem lvRight_do {s : LvS} (h : LvI s) {a z : Int} (ha : Idx s a) (hz : Idx s z) : LvO s (lvRight s a z) 3 := by
  have da := h.lo a.toNat (by have := ha.1; have := ha.2; omega)
  rw [show ((a.toNat : Nat) : Int) = a by have := ha.1; omega] at da
  unfold lvRight
  split
  · exact (lvPair_do h hz ha).more (by omega)
  · rename_i h1
    obtain ⟨_, hd, hc, _, _, _⟩ := h.deep hz (by omega)
    have dd := h.lo (lvR s z).a.toNat (by have := hd.1; have := hd.2; omega)
    rw [show (((lvR s z).a.toNat : Nat) : Int) = (lvR s z).a by have := hd.1; omega] at dd
    split
    · have o1 := lvPair_do h hc ha
      exact (o1.trans (lvPair_do o1.i (o1.idx hd) o1.ix)).more (by omega)
    · rename_i h2
      obtain ⟨_, hf, he, _, _, _⟩ := h.deep hc (by omega)
      have o1 := lvPair_do h hd hf
      have o2 := lvPair_do o1.i (o1.idx he) (o1.idx ha)
      exact ((o1.trans o2).trans (lvPair_do o2.i (o2.idx o1.ix) o2.ix)).more (by omega)
theorem lvLevel_do : ∀ (f : Nat) {s : LvS} (_ : LvI s) {l r : Int} (_ : Idx s l) (_ : Idx s r), l + r ≤ f → LvO s (lvLevel f s l r) (3 * f + 1)
  | 0, s, h, l, r, hl, hr, hf => (lvPair_do h hl hr).more (by omega)
  | f + 1, s, h, l, r, hl, hr, hf => by
    have d1 := h.lo l.toNat (by have := hl.1; have := hl.2; omega)
    have d2 := h.lo r.toNat (by have := hr.1; have := hr.2; omega)
    rw [show ((l.toNat : Nat) : Int) = l by have := hl.1; omega] at d1
    rw [show ((r.toNat : Nat) : Int) = r by have := hr.1; omega] at d2
    unfold lvLevel
    split
    · obtain ⟨_, ha, hb, ha2, hb2, _⟩ := h.deep hl (by omega)
      have o1 := lvLevel_do f h hb hr (by omega)
      exact (o1.trans (lvLeft_do o1.i (o1.idx ha) o1.ix)).more (by omega)
    · split
      · obtain ⟨_, ha, hb, ha2, hb2, _⟩ := h.deep hr (by omega)
        have o1 := lvLevel_do f h hl ha (by omega)
        exact (o1.trans (lvRight_do o1.i (o1.idx hb) o1.ix)).more (by omega)
      · exact (lvPair_do h hl hr).more (by omega)
end Go.Proofs.Ytikhjoianbndhaa
