/-
  A grammar trimmed: the plain part.
-/
import Derived.Test.YtikhjoianbndhaaGramL
import Derived.Test.YtikhjoianbndhaaFoldL
namespace Go.Proofs.Ytikhjoianbndhaa

/-- a rule with the numbers that stand for its parts -/
def trR (same : List Int) (r : Fac) : Fac := if r.l.size = 0 then ⟨⟨#[]⟩, same.getD r.a.toNat 0, same.getD r.b.toNat 0⟩ else r
/-- the rules, told by the first equal ones; the first equal one of each rule -/
def trK : List Fac → List Fac → List Int → List Fac × List Int
  | [], kept, same => (kept, same)
  | r :: rs, kept, same => trK rs (kept ++ [trR same r]) (same ++ [((kept.idxOf (trR same r) : Nat) : Int)])
/-- which rules the last one is made of -/
def useStep (kept : List Fac) (i : Nat) (u : List Bool) : List Bool := if u.getD i false = true ∧ (kept.getD i default).l.size = 0 then (u.set (kept.getD i default).a.toNat true).set (kept.getD i default).b.toNat true else u
def useT (kept : List Fac) : Nat → List Bool → List Bool
  | 0, u => u
  | i + 1, u => useT kept i (useStep kept i u)
def use0 (n : Nat) (same : List Int) : List Bool := (List.replicate n false).set (same.getD (n - 1) 0).toNat true
/-- the rules that are left -/
def outT (used : List Bool) : Nat → List Fac → List Fac → List Int → List Fac
  | _, [], out, _ => out
  | i, r :: ks, out, at_ => if used.getD i false = true then outT used (i + 1) ks (out ++ [trR at_ r]) (at_.set i (out.length : Int)) else outT used (i + 1) ks out at_
def trimL (rs : List Fac) : List Fac :=
  if rs.length = 0 then [] else outT (useT (trK rs [] []).1 rs.length (use0 rs.length (trK rs [] []).2)) 0 (trK rs [] []).1 [] (List.replicate rs.length 0)

/-- what holds of the rules that are told by the first equal ones -/
structure TrI (kept : List Fac) (same : List Int) : Prop where
  len : same.length = kept.length
  s : ∀ j, j < kept.length → 0 ≤ same.getD j 0 ∧ same.getD j 0 ≤ (j : Int)
  k : ∀ (j : Nat) (r : Fac), kept[j]? = some r → (r.l.size = 0 ∧ 0 ≤ r.a ∧ r.a < (j : Int) ∧ 0 ≤ r.b ∧ r.b < (j : Int)) ∨ (∃ c, letB c = true ∧ r.l = ⟨#[c]⟩ ∧ r.a = 0 ∧ r.b = 0)
theorem TrI.nil : TrI [] [] := ⟨rfl, fun j h => absurd h (by simp), fun j r h => by simp at h⟩
theorem TrI.step {rs kept : List Fac} {same : List Int} (h : TrI kept same) (hwf : WF rs) {r : Fac} (hr : rs[kept.length]? = some r) : TrI (kept ++ [trR same r]) (same ++ [((kept.idxOf (trR same r) : Nat) : Int)]) := by
  have hl := h.len
  refine ⟨by simp [hl], fun j hj => ?_, fun j x hx => ?_⟩
  · simp only [List.length_append, List.length_singleton] at hj
    by_cases e : j < kept.length
    · rw [List.getD_eq_getElem?_getD, List.getElem?_append_left (by omega), ← List.getD_eq_getElem?_getD]; exact h.s j e
    · obtain rfl : j = kept.length := by omega
      rw [List.getD_eq_getElem?_getD, List.getElem?_append_right (by omega), hl, Nat.sub_self]
      simp only [List.getElem?_cons_zero, Option.getD_some]
      have := List.idxOf_le_length (a := trR same r) (l := kept)
      omega
  · by_cases e : j < kept.length
    · rw [List.getElem?_append_left e] at hx; exact h.k j x hx
    · have hj2 := (List.getElem?_eq_some_iff.1 hx).1
      simp only [List.length_append, List.length_singleton] at hj2
      obtain rfl : j = kept.length := by omega
      rw [List.getElem?_append_right (Nat.le_refl _), Nat.sub_self] at hx
      obtain rfl : trR same r = x := by simpa using hx
      rcases hwf _ r hr with ⟨h0, a0, a1, b0, b1⟩ | ⟨c, hc, hxl, ha, hb⟩
      · left
        unfold trR
        rw [if_pos h0]
        have s1 := h.s r.a.toNat (by omega)
        have s2 := h.s r.b.toNat (by omega)
        exact ⟨rfl, s1.1, by simp only; omega, s2.1, by simp only; omega⟩
      · right
        have h0 : r.l.size ≠ 0 := by rw [hxl]; show (1 : Nat) ≠ 0; omega
        unfold trR
        rw [if_neg h0]
        exact ⟨c, hc, hxl, ha, hb⟩
/-- the rules told, step by step -/
theorem trK_take (rs : List Fac) {k : Nat} {kept : List Fac} {same : List Int} {r : Fac} (hr : rs[k]? = some r) (H : trK (rs.drop k) kept same = trK rs [] []) : trK (rs.drop (k + 1)) (kept ++ [trR same r]) (same ++ [((kept.idxOf (trR same r) : Nat) : Int)]) = trK rs [] [] := by
  rw [← H, drop_cons hr]; rfl
theorem trK_all {rs : List Fac} {kept : List Fac} {same : List Int} {k : Nat} (hk : rs.length ≤ k) (H : trK (rs.drop k) kept same = trK rs [] []) : (kept, same) = trK rs [] [] := by
  rw [← H, List.drop_of_length_le hk]; rfl
theorem trK_I {rs : List Fac} (hwf : WF rs) : ∀ (k : Nat) (kept : List Fac) (same : List Int), TrI kept same → kept.length = k → k ≤ rs.length → TrI (trK (rs.drop k) kept same).1 (trK (rs.drop k) kept same).2 ∧ (trK (rs.drop k) kept same).1.length = rs.length := by
  intro k
  induction hd : rs.length - k generalizing k with
  | zero =>
    intro kept same h hk hle
    rw [List.drop_of_length_le (by omega)]
    exact ⟨h, by show kept.length = _; omega⟩
  | succ d ih =>
    intro kept same h hk hle
    have hr : rs[k]? = some (rs[k]'(by omega)) := List.getElem?_eq_getElem _
    rw [drop_cons hr]
    exact ih (k + 1) (by omega) _ _ (h.step hwf (by rw [hk]; exact hr)) (by simp [hk]) (by omega)
theorem idxOf_le {α : Type} [DecidableEq α] {x : α} : ∀ {l : List α} {j : Nat}, l[j]? = some x → l.idxOf x ≤ j
  | [], j, h => by simp at h
  | y :: l, 0, h => by
    obtain rfl : y = x := by simpa using h
    simp
  | y :: l, j + 1, h => by
    rw [List.idxOf_cons]
    by_cases e : y = x
    · subst e; simp
    · have := idxOf_le (l := l) (j := j) (x := x) (by simpa using h)
      rw [show (y == x) = false by simpa using e]
      show (bif false then 0 else l.idxOf x + 1) ≤ j + 1
      simp only [cond_false]
      omega
/-- the least number of an equal rule, looked for among those that are first ones -/
theorem first_eq {kept : List Fac} {same : List Int} (hs : ∀ (j : Nat) (x : Fac), kept[j]? = some x → same.getD j 0 = ((kept.idxOf x : Nat) : Int)) {j : Nat} {x : Fac} (hj : kept[j]? = some x) (h0 : ∀ i, i < j → kept[i]? ≠ some x) : same.getD j 0 = (j : Int) := by
  rw [hs j x hj]
  have hlt := (List.getElem?_eq_some_iff.1 hj).1
  have hm : x ∈ kept := List.mem_of_getElem? hj
  have h1 : kept.idxOf x < kept.length := List.idxOf_lt_length_iff.2 hm
  have h2 : kept[kept.idxOf x]? = some x := by rw [List.getElem?_eq_getElem h1, List.getElem_idxOf]
  rcases Nat.lt_trichotomy (kept.idxOf x) j with h | h | h
  · exact absurd h2 (h0 _ h)
  · rw [h]
  · exfalso
    have := idxOf_le hj
    omega
theorem idx_app1 {f y : Fac} {kept : List Fac} (h : f ∈ kept) : (kept ++ [y]).idxOf f = kept.idxOf f := by rw [List.idxOf_append, if_pos h]
theorem idx_app2 (y : Fac) (kept : List Fac) : (kept ++ [y]).idxOf y = kept.idxOf y := by
  rw [List.idxOf_append]
  by_cases h : y ∈ kept
  · rw [if_pos h]
  · rw [if_neg h, List.idxOf_eq_length h]; simp
/-- the map behind a rule that was known -/
theorem map_known {g : Fac → Option Value} {y : Fac} {kept : List Fac} (h : ∀ f, g f = if f ∈ kept then some (.int .i64 ((kept.idxOf f : Nat) : Int)) else none) (hy : y ∈ kept) (f : Fac) : g f = if f ∈ kept ++ [y] then some (.int .i64 (((kept ++ [y]).idxOf f : Nat) : Int)) else none := by
  rw [h f]
  by_cases hf : f ∈ kept
  · rw [if_pos hf, if_pos (List.mem_append_left _ hf), idx_app1 hf]
  · rw [if_neg hf, if_neg (by
      intro e
      rcases List.mem_append.1 e with e | e
      · exact hf e
      · rw [List.mem_singleton.1 e] at hf; exact hf hy)]
/-- and behind one that was not -/
theorem map_new {g : Fac → Option Value} {y : Fac} {kept : List Fac} (h : ∀ f, g f = if f ∈ kept then some (.int .i64 ((kept.idxOf f : Nat) : Int)) else none) (hy : y ∉ kept) (f : Fac) : (if f = y then some (.int .i64 (kept.length : Int)) else g f) = if f ∈ kept ++ [y] then some (.int .i64 (((kept ++ [y]).idxOf f : Nat) : Int)) else none := by
  by_cases hf : f = y
  · subst hf
    rw [if_pos rfl, if_pos (by simp), idx_app2, List.idxOf_eq_length hy]
  · rw [if_neg hf, h f]
    by_cases hk : f ∈ kept
    · rw [if_pos hk, if_pos (List.mem_append_left _ hk), idx_app1 hk]
    · rw [if_neg hk, if_neg (by
        intro e
        rcases List.mem_append.1 e with e | e
        · exact hk e
        · exact hf (List.mem_singleton.1 e))]
end Go.Proofs.Ytikhjoianbndhaa
