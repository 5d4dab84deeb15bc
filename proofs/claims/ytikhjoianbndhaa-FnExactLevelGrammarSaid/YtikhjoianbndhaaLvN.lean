/-
  Level grammars: the plain part: all rules of a grammar.
-/
import Derived.Test.YtikhjoianbndhaaLvM
import Derived.Test.YtikhjoianbndhaaGramL
namespace Go.Proofs.Ytikhjoianbndhaa

/-- one rule more -/
def lvOne (st : LvS × List Int) (r : Fac) : LvS × List Int :=
  if r.l.size = 0 then ((lvLevel 800 st.1 (st.2.getD r.a.toNat 0) (st.2.getD r.b.toNat 0)).1, st.2 ++ [(lvLevel 800 st.1 (st.2.getD r.a.toNat 0) (st.2.getD r.b.toNat 0)).2])
  else ((lvRule st.1 r).1, st.2 ++ [(lvRule st.1 r).2])
def lvGo : List Fac → LvS × List Int → Option (LvS × List Int)
  | [], st => some st
  | r :: rs, st => if 400 < (lvOne st r).1.rs.length then none else lvGo rs (lvOne st r)
def lv0 : LvS × List Int := (⟨[], []⟩, [])
def lvAll (rs : List Fac) : Option (LvS × List Int) := lvGo rs lv0
def lvT (rs : List Fac) : List Fac := match lvAll rs with
  | none => []
  | some st => if st.2 = [] then [] else trimL (st.1.rs.take (lastI st.2 + 1).toNat)
def lvE (rs : List Fac) : Int := if (lvAll rs).isSome then 0 else 3
def levF (rs : List Fac) : List Fac := if (gOk rs).isSome then lvT rs else []
def levC (rs : List Fac) : Int := if (gOk rs).isSome then lvE rs else 1
/-- what holds after some rules -/
structure LvJ (rs : List Fac) (k : Nat) (st : LvS × List Int) : Prop where
  i : LvI st.1
  pl : st.2.length = k
  ix : ∀ (j : Nat) (p : Int), st.2[j]? = some p → Idx st.1 p
  len : st.1.rs.length ≤ 400
  go : lvGo (rs.drop k) st = lvAll rs
theorem LvJ.first (rs : List Fac) : LvJ rs 0 lv0 := by
  refine ⟨⟨rfl, fun k r h => by simp [lv0] at h, fun k r h => by simp [lv0] at h, fun k h => by simp [lv0] at h⟩, rfl, fun j p h => by simp [lv0] at h, by simp [lv0], rfl⟩
theorem LvJ.at_ {rs : List Fac} {k : Nat} {st : LvS × List Int} (h : LvJ rs k st) {j : Int} (h0 : 0 ≤ j) (h1 : j < k) : Idx st.1 (st.2.getD j.toNat 0) := by
  have hj : j.toNat < st.2.length := by rw [h.pl]; omega
  rw [List.getD_eq_getElem?_getD, List.getElem?_eq_getElem hj]
  exact h.ix j.toNat _ (List.getElem?_eq_getElem hj)
/-- a rule more: what is made, whether it fits -/
theorem LvJ.one {rs : List Fac} {k : Nat} {st : LvS × List Int} {r : Fac} (h : LvJ rs k st) (hr : rs[k]? = some r) (hl : (lvOne st r).1.rs.length ≤ 400) {t : LvS × Int} {g : Nat} (ht : lvOne st r = (t.1, st.2 ++ [t.2])) (ho : LvO st.1 t g) : LvJ rs (k + 1) (lvOne st r) := by
  have hgo := h.go
  have hd : rs.drop k = r :: rs.drop (k + 1) := by
    have hk := (List.getElem?_eq_some_iff.1 hr).1
    rw [List.drop_eq_getElem_cons hk, (List.getElem?_eq_some_iff.1 hr).2]
  rw [hd] at hgo
  unfold lvGo at hgo
  rw [if_neg (by omega)] at hgo
  refine ⟨by rw [ht]; exact ho.i, by rw [ht]; simp [h.pl], fun j p hp => ?_, hl, hgo⟩
  rw [ht] at hp ⊢
  simp only at hp ⊢
  by_cases hj : j < st.2.length
  · rw [List.getElem?_append_left hj] at hp; exact ho.idx (h.ix j p hp)
  · rw [List.getElem?_append_right (by omega)] at hp
    have : j - st.2.length = 0 := by have := (List.getElem?_eq_some_iff.1 hp).1; simp at this; omega
    rw [this] at hp; simp at hp; subst hp
    exact ho.ix
/-- too many -/
theorem LvJ.full {rs : List Fac} {k : Nat} {st : LvS × List Int} {r : Fac} (h : LvJ rs k st) (hr : rs[k]? = some r) (hl : 400 < (lvOne st r).1.rs.length) : lvAll rs = none := by
  have hgo := h.go
  have hd : rs.drop k = r :: rs.drop (k + 1) := by
    have hk := (List.getElem?_eq_some_iff.1 hr).1
    rw [List.drop_eq_getElem_cons hk, (List.getElem?_eq_some_iff.1 hr).2]
  rw [hd] at hgo
  unfold lvGo at hgo
  rw [if_pos hl] at hgo
  exact hgo.symm
theorem LvJ.all {rs : List Fac} {k : Nat} {st : LvS × List Int} (h : LvJ rs k st) (hk : rs.length ≤ k) : lvAll rs = some st := by
  have := h.go
  rw [List.drop_of_length_le hk] at this
  exact this.symm
/-- the pair of two rules that are there -/
theorem LvJ.pair {rs : List Fac} {k : Nat} {st : LvS × List Int} (h : LvJ rs k st) {a b : Int} (a0 : 0 ≤ a) (a1 : a < k) (b0 : 0 ≤ b) (b1 : b < k) : LvO st.1 (lvLevel 800 st.1 (st.2.getD a.toNat 0) (st.2.getD b.toNat 0)) 2401 := by
  have ia := h.at_ a0 a1
  have ib := h.at_ b0 b1
  exact lvLevel_do 800 h.i ia ib (by have := ia.2; have := ib.2; have := h.len; omega)
theorem lvGo_len : ∀ (rs : List Fac) (st st' : LvS × List Int), st.1.rs.length ≤ 400 → lvGo rs st = some st' → st'.1.rs.length ≤ 400
  | [], st, st', h, e => by injection e with e; subst e; exact h
  | r :: rs, st, st', h, e => by
    unfold lvGo at e
    split at e
    · cases e
    · exact lvGo_len rs _ st' (by omega) e
theorem lvAll_len {rs : List Fac} {st : LvS × List Int} (h : lvAll rs = some st) : st.1.rs.length ≤ 400 := lvGo_len rs lv0 st (by simp [lv0]) h
end Go.Proofs.Ytikhjoianbndhaa
