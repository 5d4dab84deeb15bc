
/-
  Rules and lengths: is a grammar valid, and how long are the words of its rules.
-/
import Derived.Test.YtcpofhjoblgmgaaDoorLet
import Derived.Test.YtcpofhjoblgmgaaDoorOwn
namespace Go.Proofs.YtcpofhjoblgmgaaDoor
open Go.RowKit

def intE (z : Int) : List Value := [.int .i64 z]
/-- the length of one rule more; none if it is not right -/
def gStep (out : List Int) (r : Fac) : Option Int :=
  if r.l.size = 0 then
    (if 0 ≤ r.a ∧ r.a < out.length ∧ 0 ≤ r.b ∧ r.b < out.length ∧ out.getD r.a.toNat 0 + out.getD r.b.toNat 0 ≤ 1000000000000000 then some (out.getD r.a.toNat 0 + out.getD r.b.toNat 0) else none)
  else if letT r.l = true ∧ r.a = 0 ∧ r.b = 0 then some 1 else none
def gLens : List Fac → List Int → Option (List Int)
  | [], out => some out
  | r :: rs, out => (gStep out r).bind fun n => gLens rs (out ++ [n])
/-- the lengths of the words of all rules, if the grammar is valid -/
def gOk (rs : List Fac) : Option (List Int) := if 400 < rs.length then none else gLens rs []

theorem gLens_len : ∀ (rs : List Fac) (out ls : List Int), gLens rs out = some ls → ls.length = out.length + rs.length
  | [], out, ls, h => by obtain rfl := Option.some.inj h; simp
  | r :: rs, out, ls, h => by
    unfold gLens at h
    obtain ⟨n, _, h2⟩ := Option.bind_eq_some_iff.1 h
    have := gLens_len rs _ _ h2
    simp at this ⊢
    omega
theorem gStep_bound {out : List Int} {r : Fac} {n : Int} (h0 : ∀ x ∈ out, 1 ≤ x ∧ x ≤ 1000000000000000) (h : gStep out r = some n) : 1 ≤ n ∧ n ≤ 1000000000000000 := by
  unfold gStep at h
  split at h
  · split at h
    · rename_i hc
      obtain rfl := Option.some.inj h
      have ha : out.getD r.a.toNat 0 ∈ out := by rw [List.getD_eq_getElem?_getD, List.getElem?_eq_getElem (by omega)]; simp
      have hb : out.getD r.b.toNat 0 ∈ out := by rw [List.getD_eq_getElem?_getD, List.getElem?_eq_getElem (by omega)]; simp
      have := h0 _ ha
      have := h0 _ hb
      omega
    · cases h
  · split at h
    · obtain rfl := Option.some.inj h; omega
    · cases h

theorem elem_int : Elem Tryd.prog 22 2 1 8 := Elem.mk' (z := .int .i64 0) Tryd.underlying22 (by kernel_rfl) rfl

def isP (r : Fac) : Bool := decide (r.l.size = 0)
theorem gStep_no_a {out : List Int} {x : Fac} (h0 : x.l.size = 0) (ha : inB x.a 0 ((out.length : Int) - 1) = false) : gStep out x = none := by
  unfold gStep; rw [if_pos h0, if_neg (by simp [inB] at ha; omega)]
theorem gStep_no_b {out : List Int} {x : Fac} (h0 : x.l.size = 0) (hb : inB x.b 0 ((out.length : Int) - 1) = false) : gStep out x = none := by
  unfold gStep; rw [if_pos h0, if_neg (by simp [inB] at hb; omega)]
theorem gStep_no_c {out : List Int} {x : Fac} (h0 : x.l.size = 0) (hc : 1000000000000000 < out.getD x.a.toNat 0 + out.getD x.b.toNat 0) : gStep out x = none := by
  unfold gStep; rw [if_pos h0, if_neg (by omega)]
theorem gStep_pair {out : List Int} {x : Fac} (h0 : x.l.size = 0) (ha : inB x.a 0 ((out.length : Int) - 1) = true) (hb : inB x.b 0 ((out.length : Int) - 1) = true) (hc : out.getD x.a.toNat 0 + out.getD x.b.toNat 0 ≤ 1000000000000000) :
    gStep out x = some (out.getD x.a.toNat 0 + out.getD x.b.toNat 0) := by
  simp [inB] at ha hb
  unfold gStep; rw [if_pos h0, if_pos (by omega)]
theorem gStep_no_l {out : List Int} {x : Fac} (h0 : x.l.size ≠ 0) (h : ¬ (letT x.l = true ∧ x.a = 0 ∧ x.b = 0)) : gStep out x = none := by
  unfold gStep; rw [if_neg h0, if_neg h]
theorem gStep_let {out : List Int} {x : Fac} (h0 : x.l.size ≠ 0) (h : letT x.l = true ∧ x.a = 0 ∧ x.b = 0) : gStep out x = some 1 := by
  unfold gStep; rw [if_neg h0, if_pos h]
/-- an element of a list of numbers of the call's own -/
theorem own_int {w : World} {base e n c : Nat} {A : Option Addr} {out : List Int} (h : w.ownsRow base e 1 (.slice A n c) n (out.flatMap intE)) (hl : out.length = n) (i : Int) (h0 : 0 ≤ i) (h1 : i < n) :
    ∃ g, A = some ⟨g, 0, none⟩ ∧ base ≤ g ∧ g < w.heap.size ∧ w.cell? ⟨g, i.toNat, none⟩ = some (.int .i64 (out.getD i.toNat 0)) := by
  obtain ⟨g, cap, hv, hg, hs⟩ := h.form (by omega)
  injection hv with hA _ _
  subst hA
  refine ⟨g, rfl, hg, hs, ?_⟩
  rw [h.cellAt i.toNat (by omega)]
  have hx : out[i.toNat]? = some (out[i.toNat]'(by omega)) := List.getElem?_eq_getElem _
  have := flat_at (enc := intE) (sz := 1) out (fun _ _ => rfl) i.toNat _ hx 0 (by omega)
  rw [Nat.mul_one, Nat.add_zero] at this
  rw [this, List.getD_eq_getElem?_getD, hx]; rfl
theorem ret_sliceB {A : Option Addr} {n m c : Nat} {k : Bool} (h : n = m) : Ending.returned (.tuple #[.slice A n c, .bool k]) = .returned (.tuple #[.slice A m c, .bool k]) := by rw [h]
/-- what 'lengths' leaves -/
def LenPost (rs : List Fac) (w : World) (e : Ending) (w' : World) : Prop :=
  Below w.heap.size w w' ∧ ((∃ ls A c, gOk rs = some ls ∧ e = .returned (.tuple #[.slice A ls.length c, .bool true]) ∧ w'.ownsRow w.heap.size 2 1 (.slice A ls.length c) ls.length (ls.flatMap intE)) ∨
    (gOk rs = none ∧ ∃ A n c, e = .returned (.tuple #[.slice A n c, .bool false])))
theorem LenPost.no {rs : List Fac} {w w' : World} {A : Option Addr} {n c : Nat} (h : gOk rs = none) (hb : Below w.heap.size w w') : LenPost rs w (.returned (.tuple #[.slice A n c, .bool false])) w' :=
  ⟨hb, .inr ⟨h, A, n, c, rfl⟩⟩
theorem gOk_none {rs : List Fac} (h : gLens rs [] = none) : gOk rs = none := by unfold gOk; split <;> first | rfl | exact h

end Go.Proofs.YtcpofhjoblgmgaaDoor
