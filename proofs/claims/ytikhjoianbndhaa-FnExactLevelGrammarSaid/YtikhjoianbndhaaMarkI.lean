/-
  The marks that the laws lay into lists of numbers and of rules.
-/
import Derived.Test.YtikhjoianbndhaaMark
import Derived.Test.YtikhjoianbndhaaFrame
import Derived.Test.YtikhjoianbndhaaGram
namespace Go.Proofs.Ytikhjoianbndhaa
open Go.RowKit

/-- two rows of different element types do not share a block -/
theorem own_ne {w : World} {b1 b2 e1 e2 s1 s2 n1 n2 : Nat} {v1 v2 : Value} {xs1 xs2 : List Value} (h1 : w.ownsRow b1 e1 s1 v1 n1 xs1) (h2 : w.ownsRow b2 e2 s2 v2 n2 xs2) (hne : e1 ≠ e2) : v1.ownBlock = none ∨ v1.ownBlock ≠ v2.ownBlock := by
  rcases h1.2 with ⟨rfl, _⟩ | ⟨g1, c1, u1, rfl, _, hh1, _⟩
  · left; rfl
  · right
    rcases h2.2 with ⟨rfl, _⟩ | ⟨g2, c2, u2, rfl, _, hh2, _⟩
    · simp [Value.ownBlock]
    · intro he
      have hg : g1 = g2 := by simpa [Value.ownBlock] using he
      subst hg
      rw [hh1] at hh2
      injection hh2 with hh2
      injection hh2 with _ ht
      exact hne ht
/-- the numbers from k on -/
def marksI (k : Nat) : Nat → List Int
  | 0 => []
  | n + 1 => (k : Int) :: marksI (k + 1) n
theorem marksI_len : ∀ (n k : Nat), (marksI k n).length = n
  | 0, _ => rfl
  | n + 1, k => by simp [marksI, marksI_len n]
theorem marksI_at : ∀ (n k i : Nat), i < n → (marksI k n)[i]? = some ((k + i : Nat) : Int)
  | 0, _, i, h => by omega
  | n + 1, k, 0, _ => by simp [marksI]
  | n + 1, k, i + 1, h => by
    rw [marksI, List.getElem?_cons_succ, marksI_at n (k + 1) i (by omega)]
    congr 2; omega
theorem own_setI {w : World} {base : Nat} {e : TypeId} {sz n c g : Nat} {xs : List Value} (h : w.ownsRow base e sz (.slice (some ⟨g, 0, none⟩) n c) n xs) (i : Nat) (u : Value) :
    (w.setCell ⟨g, i, none⟩ u).ownsRow base e sz (.slice (some ⟨g, 0, none⟩) n c) n (xs.set i u) := (h.stored i u).1
set_option maxHeartbeats 1000000 in
theorem markRuleS_any (A : Option Addr) (n c : Nat) (base : Nat) (xs : List Value) (k : Nat) (w : World) (hn : n ≤ 1048576) (hk : k ≤ 1048576)
    (hown : w.ownsRow base 44 3 (.slice A n c) n xs) :
    Calls Try.prog 33 #[.slice A n c, .int .i64 (k : Int)] w fun e w' => e = .returned (.int .i64 ((k + 3 * n : Nat) : Int)) ∧ w.grownBy w' (Value.slice A n c).ownBlock := by
  go_enter Try.func33, Try.ntmps33
  go_wp2
  go_loopw [1, 5] (fun k_ i_ w' => ∃ (i : Nat) (ys : List Value), i_ = .int .i64 i ∧ k_ = .int .i64 ((k : Int) + 3 * (i : Int)) ∧ i ≤ n ∧ Hid (w'.ownsRow base 44 3 (.slice A n c) n ys) ∧
      Hid (w.grownBy w' (Value.slice A n c).ownBlock)) (fun _ i_ _ => n - (intOf i_).toNat)
  case atStart => exact ⟨0, xs, rfl, by go_num, by omega, Lib.hid hown, Lib.hid (World.grownBy.refl _ _)⟩
  case round =>
    obtain ⟨i, ys, rfl, rfl, hi, ho, hg⟩ := hrel
    by_cases hlt : i < n
    · obtain ⟨g, cap, hv, hgb, hgs⟩ := ho.out.form (by omega)
      injection hv with hA _ hc
      subst hA
      clear hc
      have hc1 := Lib.hid ho.out.1
      go_wp2_with fail
      refine (markText_int _ wr (by omega) (by omega)).mono ?_
      rintro e w1 ⟨rfl, hb1⟩
      have ho1 := Lib.hid (own_next ho.out hb1)
      have c0 := (ho1.out.cellAt (i * 3) (by omega)).trans (List.getElem?_eq_getElem (by rw [hc1.out]; omega))
      have c1 := (ho1.out.cellAt (i * 3 + 1) (by omega)).trans (List.getElem?_eq_getElem (by rw [hc1.out]; omega))
      have c2 := (ho1.out.cellAt (i * 3 + 2) (by omega)).trans (List.getElem?_eq_getElem (by rw [hc1.out]; omega))
      have f0 := ho1.out.frozenAt
      have G1 := Lib.hid (gb_trans hg.out (gb_below hb1 (r := (Value.slice (some ⟨g, 0, none⟩) n c).ownBlock)))
      go_wp2_with fail
      go_roundw
      case rel =>
        refine ⟨i + 1, _, by go_num, by go_num, by omega, Lib.hid (own_setI (own_setI (own_setI ho1.out (i * 3) _) (i * 3 + 1) _) (i * 3 + 2) _), Lib.hid (gb_setCell (gb_setCell (gb_setCell G1.out (i * 3) _) (i * 3 + 1) _) (i * 3 + 2) _)⟩
      case measure => simp [intOf]; omega
    · have hin : i = n := by omega
      have Hin := Lib.hid hin; clear hin
      go_wp2
      go_ret
      exact ⟨ret_int (by rw [Hin.out]; omega), hg.out⟩
theorem markGrammar_any (A : Option Addr) (n c : Nat) (base : Nat) (xs : List Value) (k : Nat) (w : World) (hn : n ≤ 1048576) (hk : k ≤ 1048576)
    (hown : w.ownsRow base 44 3 (.slice A n c) n xs) :
    Calls Try.prog 10 #[.agg #[.slice A n c], .int .i64 (k : Int)] w fun e w' => e = .returned (.int .i64 ((k + 3 * n : Nat) : Int)) ∧ w.grownBy w' (Value.slice A n c).ownBlock := by
  have Ho := Lib.hid hown; clear hown
  have hb0 : Below w.heap.size w (w.alloc (.cells #[.slice A n c] 24)) := by (repeat first | exact Below.refl _ _ | assumption | refine Below.drew ?_ | refine Below.alloc ?_ (by first | exact Nat.le_refl _ | (simp; done) | omega | (simp; omega)) _ | refine Below.setCell ?_ (by first | exact Nat.le_refl _ | (simp; done) | omega | (simp; omega)) _)
  go_enter Try.func10, Try.ntmps10
  go_wp2_with fail
  refine (markRuleS_any A n c base xs k _ hn hk (own_next Ho.out hb0)).mono ?_
  rintro e w1 ⟨rfl, hg1⟩
  go_wp2_with fail
  go_ret
  exact ⟨rfl, gb_trans (gb_below hb0) hg1⟩
end Go.Proofs.Ytikhjoianbndhaa
