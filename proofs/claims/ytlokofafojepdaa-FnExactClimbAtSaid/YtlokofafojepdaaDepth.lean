/-
  The depths of rules, in the program and in the reference.
-/
import Derived.Test.YtlokofafojepdaaFoldI
import Derived.Test.YtlokofafojepdaaGramL
namespace Go.Proofs.Ytlokofafojepdaa
open Go.RowKit

section
variable {α : Type} {d : α} {F : Nat → α} {G : α → α → Fac → α} {rs : List Fac}
/-- what holds of all that is made of a grammar -/
theorem outs_inv (hwf : WF rs) (I : Nat → α → Prop) (mono : ∀ k x, I k x → I (k + 1) x) (hF : ∀ (k : Nat) (r : Fac), rs[k]? = some r → letT r.l = true → I (k + 1) (F (letN r.l)))
    (hG : ∀ (k : Nat) (r : Fac) (a b : α), rs[k]? = some r → I k a → I k b → I (k + 1) (G a b r)) : ∀ k, k ≤ rs.length → ∀ x ∈ outs d F G rs k, I k x := by
  intro k
  induction k with
  | zero => intro _ x hx; simp [outs, foldG] at hx
  | succ k ih =>
    intro hk x hx
    have gx : rs[k]? = some (rs[k]'(by omega)) := List.getElem?_eq_getElem _
    rw [outs_step d F G gx] at hx
    have hl := outs_len d F G rs k (by omega)
    rcases List.mem_append.1 hx with hx | hx
    · exact mono _ _ (ih (by omega) x hx)
    · simp only [List.mem_singleton] at hx
      subst hx
      unfold fStep
      rcases hwf k _ gx with ⟨h0, ha0, ha1, hb0, hb1⟩ | ⟨c, hc, hl', _⟩
      · rw [if_pos h0]
        refine hG k _ _ _ gx (ih (by omega) _ ?_) (ih (by omega) _ ?_)
        · rw [List.getD_eq_getElem?_getD, List.getElem?_eq_getElem (by omega)]; simp
        · rw [List.getD_eq_getElem?_getD, List.getElem?_eq_getElem (by omega)]; simp
      · have hl1 : letT (rs[k]'(by omega)).l = true := by rw [hl']; exact hc
        have hne : ¬ (rs[k]'(by omega)).l.size = 0 := by rw [hl']; show ¬ (1 : Nat) = 0; omega
        rw [if_neg hne]
        exact hF k _ gx hl1
theorem outs_getD (hwf : WF rs) (I : Nat → α → Prop) (mono : ∀ k x, I k x → I (k + 1) x) (hF : ∀ (k : Nat) (r : Fac), rs[k]? = some r → letT r.l = true → I (k + 1) (F (letN r.l)))
    (hG : ∀ (k : Nat) (r : Fac) (a b : α), rs[k]? = some r → I k a → I k b → I (k + 1) (G a b r)) {k : Nat} (hk : k ≤ rs.length) {i : Nat} (hi : i < k) : I k ((outs d F G rs k).getD i d) := by
  refine outs_inv (d := d) hwf I mono hF hG k hk _ ?_
  have hl := outs_len d F G rs k hk
  rw [List.getD_eq_getElem?_getD, List.getElem?_eq_getElem (by omega)]; simp
end

def depF (_ : Nat) : Int := 1
def depG (a b : Int) (_ : Fac) : Int := max a b + 1
/-- the depths of all rules -/
def depths (rs : List Fac) : List Int := foldG 0 depF depG rs []
theorem dep_bound {rs : List Fac} (hwf : WF rs) {k i : Nat} (hk : k ≤ rs.length) (hi : i < k) : 1 ≤ (outs 0 depF depG rs k).getD i 0 ∧ (outs 0 depF depG rs k).getD i 0 ≤ k := by
  refine outs_getD (d := 0) (F := depF) (G := depG) hwf (fun (k : Nat) (x : Int) => 1 ≤ x ∧ x ≤ k) (fun k x h => ⟨h.1, by omega⟩) (fun k r _ _ => by unfold depF; omega) (fun k r a b _ ha hb => ?_) hk hi
  unfold depG
  omega

theorem l00Max_any (a b : Int) (w : World) : Calls Try.prog 119 #[.int .i64 a, .int .i64 b] w (Ret (.int .i64 (max a b)) w) := by
  go_enter Try.func119, Try.ntmps119
  go_wp2
  all_goals
    go_ret
    exact ⟨ret_int (by omega), by (repeat first | exact Below.refl _ _ | assumption | refine Below.drew ?_ | refine Below.alloc ?_ (by first | exact Nat.le_refl _ | (simp; done) | omega | (simp; omega)) _ | refine Below.setCell ?_ (by first | exact Nat.le_refl _ | (simp; done) | omega | (simp; omega)) _)⟩
end Go.Proofs.Ytlokofafojepdaa
