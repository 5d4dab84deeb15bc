/-
  Level grammars: the plain part of the reference, which makes no more rules when it is full.
-/
import Derived.Test.YtikhjoianbndhaaLvN
namespace Go.Proofs.Ytikhjoianbndhaa

def rfMake (t : LvS × Bool) (r : Fac) : (LvS × Bool) × Int :=
  if r ∈ t.1.rs then (t, ((t.1.rs.idxOf r : Nat) : Int)) else if 400 < t.1.rs.length then ((t.1, true), 0)
  else ((⟨t.1.rs ++ [r], t.1.ds ++ [lvDep t.1 r]⟩, t.2), (t.1.rs.length : Int))
def rfPair (t : LvS × Bool) (a b : Int) : (LvS × Bool) × Int := rfMake t ⟨⟨#[]⟩, a, b⟩
def rfLeft (t : LvS × Bool) (a z : Int) : (LvS × Bool) × Int :=
  if t.2 then (t, 0)
  else if lvD t.1 z ≤ lvD t.1 a + 1 then rfPair t a z
  else if lvD t.1 (lvR t.1 z).a ≤ lvD t.1 (lvR t.1 z).b then rfPair (rfPair t a (lvR t.1 z).a).1 (rfPair t a (lvR t.1 z).a).2 (lvR t.1 z).b
  else rfPair (rfPair (rfPair t a (lvR t.1 (lvR t.1 z).a).a).1 (lvR t.1 (lvR t.1 z).a).b (lvR t.1 z).b).1 (rfPair t a (lvR t.1 (lvR t.1 z).a).a).2 (rfPair (rfPair t a (lvR t.1 (lvR t.1 z).a).a).1 (lvR t.1 (lvR t.1 z).a).b (lvR t.1 z).b).2
def rfRight (t : LvS × Bool) (a z : Int) : (LvS × Bool) × Int :=
  if t.2 then (t, 0)
  else if lvD t.1 z ≤ lvD t.1 a + 1 then rfPair t z a
  else if lvD t.1 (lvR t.1 z).b ≤ lvD t.1 (lvR t.1 z).a then rfPair (rfPair t (lvR t.1 z).b a).1 (lvR t.1 z).a (rfPair t (lvR t.1 z).b a).2
  else rfPair (rfPair (rfPair t (lvR t.1 z).a (lvR t.1 (lvR t.1 z).b).a).1 (lvR t.1 (lvR t.1 z).b).b a).1 (rfPair t (lvR t.1 z).a (lvR t.1 (lvR t.1 z).b).a).2 (rfPair (rfPair t (lvR t.1 z).a (lvR t.1 (lvR t.1 z).b).a).1 (lvR t.1 (lvR t.1 z).b).b a).2
def rfLevel : Nat → LvS → Int → Int → (LvS × Bool) × Int
  | 0, s, l, r => rfPair (s, false) l r
  | f + 1, s, l, r =>
    if 1 < lvD s l - lvD s r then rfLeft (rfLevel f s (lvR s l).b r).1 (lvR s l).a (rfLevel f s (lvR s l).b r).2
    else if lvD s l - lvD s r < -1 then rfRight (rfLevel f s l (lvR s r).a).1 (lvR s r).b (rfLevel f s l (lvR s r).a).2
    else rfPair (s, false) l r
/-- what holds of a state -/
structure RfI (t : LvS × Bool) : Prop where
  i : LvI t.1
  len : t.1.rs.length ≤ 401
  full : t.2 = true → 400 < t.1.rs.length
/-- what an operation does -/
structure RfO (t u : LvS × Bool) (k : Int) : Prop where
  i : RfI u
  ext : ∃ er ed, u.1.rs = t.1.rs ++ er ∧ u.1.ds = t.1.ds ++ ed
  ix : u.2 = false → Idx u.1 k
  stay : t.2 = true → u = t
theorem RfO.grow {t u : LvS × Bool} {k : Int} (h : RfO t u k) : t.1.rs.length ≤ u.1.rs.length := by
  obtain ⟨er, ed, h1, _⟩ := h.ext
  rw [h1, List.length_append]; omega
theorem RfO.idx {t u : LvS × Bool} {j : Int} (h : RfO t u j) {k : Int} (hk : Idx t.1 k) : Idx u.1 k := ⟨hk.1, by have := h.grow; have := hk.2; omega⟩
theorem RfO.r {t u : LvS × Bool} {j : Int} (h : RfO t u j) {k : Int} (hk : Idx t.1 k) : lvR u.1 k = lvR t.1 k := by
  obtain ⟨er, ed, h1, _⟩ := h.ext
  unfold lvR
  rw [h1, List.getD_eq_getElem?_getD, List.getD_eq_getElem?_getD, List.getElem?_append_left (by have := hk.1; have := hk.2; omega)]
theorem RfO.trans {t u v : LvS × Bool} {j k : Int} (h1 : RfO t u j) (h2 : RfO u v k) : RfO t v k := by
  obtain ⟨e1, d1, a1, b1⟩ := h1.ext
  obtain ⟨e2, d2, a2, b2⟩ := h2.ext
  exact ⟨h2.i, ⟨e1 ++ e2, d1 ++ d2, by rw [a2, a1, List.append_assoc], by rw [b2, b1, List.append_assoc]⟩, h2.ix, fun e => by
    have h := h1.stay e
    rw [h2.stay (by rw [h]; exact e), h]⟩
theorem rfMake_do {t : LvS × Bool} (h : RfI t) {r : Fac} (hr : t.2 = false → RuleOk t.1 r) : RfO t (rfMake t r).1 (rfMake t r).2 := by
  unfold rfMake
  split
  · rename_i hm
    have := List.idxOf_lt_length_of_mem hm
    exact ⟨h, ⟨[], [], by simp, by simp⟩, fun _ => ⟨by simp, by simp only; omega⟩, fun _ => rfl⟩
  · rename_i hm
    split
    · rename_i h4
      exact ⟨⟨h.i, h.len, fun _ => h4⟩, ⟨[], [], by simp, by simp⟩, fun e => (by cases e), fun e => by
        obtain ⟨s, f⟩ := t
        simp only at e; subst e; rfl⟩
    · rename_i h4
      have hf : t.2 = false := by
        cases e : t.2 with
        | false => rfl
        | true => exact absurd (h.full e) h4
      have o := lvRule_do h.i (hr hf)
      unfold lvRule at o
      rw [if_neg hm] at o
      refine ⟨⟨o.i, by have := o.len; simp only at this ⊢; omega, fun e => ?_⟩, o.ext, fun _ => o.ix, fun e => ?_⟩
      · simp only at e; rw [hf] at e; cases e
      · rw [hf] at e; cases e
theorem rfPair_do {t : LvS × Bool} (h : RfI t) {a b : Int} (ha : t.2 = false → Idx t.1 a) (hb : t.2 = false → Idx t.1 b) : RfO t (rfPair t a b).1 (rfPair t a b).2 := rfMake_do h (fun e => .inl ⟨rfl, ha e, hb e⟩)
theorem RfO.rfl_ {t : LvS × Bool} (h : RfI t) (ht : t.2 = true) : RfO t t 0 := ⟨h, ⟨[], [], by simp, by simp⟩, fun e => (by rw [ht] at e; cases e), fun _ => rfl⟩
/-- one pair of a grammar's state beside the program's -/
def Rel (m : LvS × Int) (t : (LvS × Bool) × Int) : Prop := (t = ((m.1, false), m.2) ∧ m.1.rs.length ≤ 401) ∨ (t.1.2 = true ∧ 401 < m.1.rs.length)
theorem Rel.make {s : LvS} (hl : s.rs.length ≤ 401) (r : Fac) : Rel (lvRule s r) (rfMake (s, false) r) := by
  unfold lvRule rfMake
  by_cases hm : r ∈ s.rs
  · rw [if_pos hm, if_pos hm]
    exact .inl ⟨rfl, hl⟩
  · rw [if_neg hm, if_neg hm]
    by_cases h4 : 400 < s.rs.length
    · rw [if_pos h4]
      exact .inr ⟨rfl, by simp; omega⟩
    · rw [if_neg h4]
      exact .inl ⟨rfl, by simp; omega⟩
theorem rfMake_full (s : LvS) (r : Fac) (hl : 400 < s.rs.length) : (rfMake (s, true) r).1 = (s, true) := by
  unfold rfMake
  by_cases hm : r ∈ s.rs
  · rw [if_pos hm]
  · rw [if_neg hm, if_pos hl]
theorem Rel.full {m : LvS × Int} {t : (LvS × Bool) × Int} {m' : LvS × Int} {g : Nat} (ho : LvO m.1 m' g) (h4 : 401 < m.1.rs.length) (ht : t.1.2 = true) : Rel m' t := .inr ⟨ht, by have := ho.grow; omega⟩
theorem RfO.full {t u : LvS × Bool} {k : Int} (h : RfO t u k) (ht : t.2 = true) : u.2 = true := by rw [h.stay ht, ht]
/-- one more pair -/
theorem Rel.pair {m : LvS} {t : LvS × Bool} (hm : LvI m) (ht : RfI t) (h : (t = (m, false) ∧ m.rs.length ≤ 401) ∨ (t.2 = true ∧ 401 < m.rs.length)) {a b a' b' : Int} (ha : Idx m a) (hb : Idx m b) (e : t.2 = false → a' = a ∧ b' = b) :
    Rel (lvPair m a b) (rfPair t a' b') := by
  rcases h with ⟨rfl, hl⟩ | ⟨h1, h2⟩
  · obtain ⟨rfl, rfl⟩ := e rfl
    exact Rel.make hl _
  · obtain ⟨s, f⟩ := t
    simp only at h1; subst h1
    refine .inr ⟨?_, ?_⟩
    · have := rfMake_full s ⟨⟨#[]⟩, a', b'⟩ (ht.full rfl)
      show (rfMake (s, true) _).1.2 = true
      rw [this]
    · have := (lvPair_do hm ha hb).grow; omega
theorem Rel.next {m : LvS × Int} {t : (LvS × Bool) × Int} (h : Rel m t) : (t.1 = (m.1, false) ∧ m.1.rs.length ≤ 401) ∨ (t.1.2 = true ∧ 401 < m.1.rs.length) := by
  rcases h with ⟨rfl, hl⟩ | h
  · exact .inl ⟨rfl, hl⟩
  · exact .inr h
theorem Rel.val {m : LvS × Int} {t : (LvS × Bool) × Int} (h : Rel m t) (hf : t.1.2 = false) : t.2 = m.2 ∧ t.1 = (m.1, false) ∧ m.1.rs.length ≤ 401 := by
  rcases h with ⟨rfl, hl⟩ | ⟨h1, _⟩
  · exact ⟨rfl, rfl, hl⟩
  · rw [h1] at hf; cases hf
theorem rfLeft_do {t : LvS × Bool} (h : RfI t) {a z : Int} (ha : Idx t.1 a) (hz : t.2 = false → Idx t.1 z) : RfO t (rfLeft t a z).1 (rfLeft t a z).2 ∧ (t.2 = false → Rel (lvLeft t.1 a z) (rfLeft t a z)) := by
  unfold rfLeft
  cases ht : t.2 with
  | true => rw [if_pos rfl]; exact ⟨RfO.rfl_ h ht, fun e => (by cases e)⟩
  | false =>
    rw [if_neg (by decide)]
    have hz1 := hz ht
    clear hz
    obtain ⟨s, f⟩ := t
    simp only at ht ha h; subst ht
    simp only
    have hz : Idx s z := hz1
    have da := h.i.lo a.toNat (by have := ha.1; have := ha.2; simp only at *; omega)
    rw [show ((a.toNat : Nat) : Int) = a by have := ha.1; omega] at da
    simp only at da
    have hi : LvI s := h.i
    have hl : s.rs.length ≤ 401 := h.len
    have h0 : ((s, false) = (s, false) ∧ s.rs.length ≤ 401) ∨ ((s, false).2 = true ∧ 401 < s.rs.length) := .inl ⟨rfl, hl⟩
    unfold lvLeft
    by_cases h1 : lvD s z ≤ lvD s a + 1
    · rw [if_pos h1, if_pos h1]
      exact ⟨rfPair_do h (fun _ => ha) (fun _ => hz), fun _ => Rel.pair hi h h0 ha hz (fun _ => ⟨rfl, rfl⟩)⟩
    · rw [if_neg h1, if_neg h1]
      obtain ⟨_, hc, hd, _, _, _⟩ := hi.deep hz (by omega)
      have dd := hi.lo (lvR s z).b.toNat (by have := hd.1; have := hd.2; omega)
      rw [show (((lvR s z).b.toNat : Nat) : Int) = (lvR s z).b by have := hd.1; omega] at dd
      by_cases h2 : lvD s (lvR s z).a ≤ lvD s (lvR s z).b
      · rw [if_pos h2, if_pos h2]
        have o1 := rfPair_do h (fun _ => ha) (fun _ => hc)
        have l1 := lvPair_do hi ha hc
        have r1 := Rel.pair hi h h0 ha hc (fun _ => ⟨rfl, rfl⟩)
        exact ⟨o1.trans (rfPair_do o1.i o1.ix (fun _ => o1.idx hd)), fun _ => Rel.pair l1.i o1.i r1.next l1.ix (l1.idx hd) (fun e => ⟨(r1.val e).1, rfl⟩)⟩
      · rw [if_neg h2, if_neg h2]
        obtain ⟨_, he, hf, _, _, _⟩ := hi.deep hc (by omega)
        have o1 := rfPair_do h (fun _ => ha) (fun _ => he)
        have l1 := lvPair_do hi ha he
        have r1 := Rel.pair hi h h0 ha he (fun _ => ⟨rfl, rfl⟩)
        have o2 := rfPair_do o1.i (fun _ => o1.idx hf) (fun _ => o1.idx hd)
        have l2 := lvPair_do l1.i (l1.idx hf) (l1.idx hd)
        have r2 := Rel.pair l1.i o1.i r1.next (l1.idx hf) (l1.idx hd) (fun _ => ⟨rfl, rfl⟩)
        have b1 : (rfPair (rfPair (s, false) a (lvR s (lvR s z).a).a).1 (lvR s (lvR s z).a).b (lvR s z).b).1.2 = false → (rfPair (s, false) a (lvR s (lvR s z).a).a).1.2 = false := fun e => by
          cases q : (rfPair (s, false) a (lvR s (lvR s z).a).a).1.2 with
          | false => rfl
          | true => rw [o2.full q] at e; cases e
        exact ⟨(o1.trans o2).trans (rfPair_do o2.i (fun e => o2.idx (o1.ix (b1 e))) o2.ix), fun _ => Rel.pair l2.i o2.i r2.next (l2.idx l1.ix) l2.ix (fun e => ⟨(r1.val (b1 e)).1, (r2.val e).1⟩)⟩
theorem rfRight_do {t : LvS × Bool} (h : RfI t) {a z : Int} (ha : Idx t.1 a) (hz : t.2 = false → Idx t.1 z) : RfO t (rfRight t a z).1 (rfRight t a z).2 ∧ (t.2 = false → Rel (lvRight t.1 a z) (rfRight t a z)) := by
  unfold rfRight
  cases ht : t.2 with
  | true => rw [if_pos rfl]; exact ⟨RfO.rfl_ h ht, fun e => (by cases e)⟩
  | false =>
    rw [if_neg (by decide)]
    have hz1 := hz ht
    clear hz
    obtain ⟨s, f⟩ := t
    simp only at ht ha h; subst ht
    simp only
    have hz : Idx s z := hz1
    have da := h.i.lo a.toNat (by have := ha.1; have := ha.2; simp only at *; omega)
    rw [show ((a.toNat : Nat) : Int) = a by have := ha.1; omega] at da
    simp only at da
    have hi : LvI s := h.i
    have hl : s.rs.length ≤ 401 := h.len
    have h0 : ((s, false) = (s, false) ∧ s.rs.length ≤ 401) ∨ ((s, false).2 = true ∧ 401 < s.rs.length) := .inl ⟨rfl, hl⟩
    unfold lvRight
    by_cases h1 : lvD s z ≤ lvD s a + 1
    · rw [if_pos h1, if_pos h1]
      exact ⟨rfPair_do h (fun _ => hz) (fun _ => ha), fun _ => Rel.pair hi h h0 hz ha (fun _ => ⟨rfl, rfl⟩)⟩
    · rw [if_neg h1, if_neg h1]
      obtain ⟨_, hd, hc, _, _, _⟩ := hi.deep hz (by omega)
      have dd := hi.lo (lvR s z).a.toNat (by have := hd.1; have := hd.2; omega)
      rw [show (((lvR s z).a.toNat : Nat) : Int) = (lvR s z).a by have := hd.1; omega] at dd
      by_cases h2 : lvD s (lvR s z).b ≤ lvD s (lvR s z).a
      · rw [if_pos h2, if_pos h2]
        have o1 := rfPair_do h (fun _ => hc) (fun _ => ha)
        have l1 := lvPair_do hi hc ha
        have r1 := Rel.pair hi h h0 hc ha (fun _ => ⟨rfl, rfl⟩)
        exact ⟨o1.trans (rfPair_do o1.i (fun _ => o1.idx hd) o1.ix), fun _ => Rel.pair l1.i o1.i r1.next (l1.idx hd) l1.ix (fun e => ⟨rfl, (r1.val e).1⟩)⟩
      · rw [if_neg h2, if_neg h2]
        obtain ⟨_, hf, he, _, _, _⟩ := hi.deep hc (by omega)
        have o1 := rfPair_do h (fun _ => hd) (fun _ => hf)
        have l1 := lvPair_do hi hd hf
        have r1 := Rel.pair hi h h0 hd hf (fun _ => ⟨rfl, rfl⟩)
        have o2 := rfPair_do o1.i (fun _ => o1.idx he) (fun _ => o1.idx ha)
        have l2 := lvPair_do l1.i (l1.idx he) (l1.idx ha)
        have r2 := Rel.pair l1.i o1.i r1.next (l1.idx he) (l1.idx ha) (fun _ => ⟨rfl, rfl⟩)
        have b1 : (rfPair (rfPair (s, false) (lvR s z).a (lvR s (lvR s z).b).a).1 (lvR s (lvR s z).b).b a).1.2 = false → (rfPair (s, false) (lvR s z).a (lvR s (lvR s z).b).a).1.2 = false := fun e => by
          cases q : (rfPair (s, false) (lvR s z).a (lvR s (lvR s z).b).a).1.2 with
          | false => rfl
          | true => rw [o2.full q] at e; cases e
        exact ⟨(o1.trans o2).trans (rfPair_do o2.i (fun e => o2.idx (o1.ix (b1 e))) o2.ix), fun _ => Rel.pair l2.i o2.i r2.next (l2.idx l1.ix) l2.ix (fun e => ⟨(r1.val (b1 e)).1, (r2.val e).1⟩)⟩
theorem rfLevel_do : ∀ (f : Nat) {s : LvS} (_ : LvI s) (_ : s.rs.length ≤ 401) {l r : Int} (_ : Idx s l) (_ : Idx s r), l + r ≤ f → RfO (s, false) (rfLevel f s l r).1 (rfLevel f s l r).2 ∧ Rel (lvLevel f s l r) (rfLevel f s l r)
  | 0, s, h, h4, l, r, hl, hr, hf => ⟨rfPair_do ⟨h, h4, fun e => (by cases e)⟩ (fun _ => hl) (fun _ => hr), Rel.pair h ⟨h, h4, fun e => (by cases e)⟩ (.inl ⟨rfl, h4⟩) hl hr (fun _ => ⟨rfl, rfl⟩)⟩
  | f + 1, s, h, h4, l, r, hl, hr, hf => by
    have d1 := h.lo l.toNat (by have := hl.1; have := hl.2; omega)
    have d2 := h.lo r.toNat (by have := hr.1; have := hr.2; omega)
    rw [show ((l.toNat : Nat) : Int) = l by have := hl.1; omega] at d1
    rw [show ((r.toNat : Nat) : Int) = r by have := hr.1; omega] at d2
    unfold lvLevel rfLevel
    by_cases c1 : 1 < lvD s l - lvD s r
    · rw [if_pos c1, if_pos c1]
      obtain ⟨_, ha, hb, ha2, hb2, _⟩ := h.deep hl (by omega)
      obtain ⟨o1, r1⟩ := rfLevel_do f h h4 hb hr (by omega)
      have l1 := lvLevel_do f h hb hr (by omega)
      obtain ⟨o2, r2⟩ := rfLeft_do o1.i (o1.idx ha) o1.ix
      refine ⟨o1.trans o2, ?_⟩
      cases q : (rfLevel f s (lvR s l).b r).1.2 with
      | false =>
        obtain ⟨e1, e2, e3⟩ := r1.val q
        have := r2 q
        rw [e2] at this ⊢
        rw [e1] at this ⊢
        exact this
      | true =>
        refine .inr ⟨o2.full q, ?_⟩
        rcases r1 with ⟨e, _⟩ | ⟨_, e⟩
        · rw [e] at q; cases q
        · have := (lvLeft_do l1.i (l1.idx ha) l1.ix).grow; omega
    · rw [if_neg c1, if_neg c1]
      by_cases c2 : lvD s l - lvD s r < -1
      · rw [if_pos c2, if_pos c2]
        obtain ⟨_, ha, hb, ha2, hb2, _⟩ := h.deep hr (by omega)
        obtain ⟨o1, r1⟩ := rfLevel_do f h h4 hl ha (by omega)
        have l1 := lvLevel_do f h hl ha (by omega)
        obtain ⟨o2, r2⟩ := rfRight_do o1.i (o1.idx hb) o1.ix
        refine ⟨o1.trans o2, ?_⟩
        cases q : (rfLevel f s l (lvR s r).a).1.2 with
        | false =>
          obtain ⟨e1, e2, e3⟩ := r1.val q
          have := r2 q
          rw [e2] at this ⊢
          rw [e1] at this ⊢
          exact this
        | true =>
          refine .inr ⟨o2.full q, ?_⟩
          rcases r1 with ⟨e, _⟩ | ⟨_, e⟩
          · rw [e] at q; cases q
          · have := (lvRight_do l1.i (l1.idx hb) l1.ix).grow; omega
      · rw [if_neg c2, if_neg c2]
        exact ⟨rfPair_do ⟨h, h4, fun e => (by cases e)⟩ (fun _ => hl) (fun _ => hr), Rel.pair h ⟨h, h4, fun e => (by cases e)⟩ (.inl ⟨rfl, h4⟩) hl hr (fun _ => ⟨rfl, rfl⟩)⟩
end Go.Proofs.Ytikhjoianbndhaa
