
/-
  The marks that the laws lay into lists of numbers and of rules.
-/
import Derived.Test.YtcpofhjoblgmgaaDoorMark
import Derived.Test.YtcpofhjoblgmgaaDoorFrame
import Derived.Test.YtcpofhjoblgmgaaDoorGram
namespace Go.Proofs.YtcpofhjoblgmgaaDoor
open Go.RowKit

/-- two rows of different element types do not share a block -/
theorem own_ne {w : World} {b1 b2 e1 e2 s1 s2 n1 n2 : Nat} {v1 v2 : Value} {xs1 xs2 : List Value} (h1 : w.ownsRow b1 e1 s1 v1 n1 xs1) (h2 : w.ownsRow b2 e2 s2 v2 n2 xs2) (hne : e1 ≠ e2) : v1.ownBlock = none ∨ v1.ownBlock ≠ v2.ownBlock := by
  rcases h1.2 with ⟨rfl, _⟩ | ⟨g1, c1, u1, rfl, _, hh1, _⟩
  · left; rfl
  · right
    rcases h2.2 with ⟨rfl, _⟩ | ⟨g2, c2, u2, rfl, _, hh2, _⟩
    · simp [Value.ownBlock]
    · intro he
      have hg : g1 = g2 := by simpa [Value.ownBlock] using he
      subst hg
      rw [hh1] at hh2
      injection hh2 with hh2
      injection hh2 with _ ht
      exact hne ht
/-- the numbers from k on -/
def marksI (k : Nat) : Nat → List Int
  | 0 => []
  | n + 1 => (k : Int) :: marksI (k + 1) n
theorem marksI_len : ∀ (n k : Nat), (marksI k n).length = n
  | 0, _ => rfl
  | n + 1, k => by simp [marksI, marksI_len n]
theorem marksI_at : ∀ (n k i : Nat), i < n → (marksI k n)[i]? = some ((k + i : Nat) : Int)
  | 0, _, i, h => by omega
  | n + 1, k, 0, _ => by simp [marksI]
  | n + 1, k, i + 1, h => by
    rw [marksI, List.getElem?_cons_succ, marksI_at n (k + 1) i (by omega)]
    congr 2; omega
theorem own_setI {w : World} {base : Nat} {e : TypeId} {sz n c g : Nat} {xs : List Value} (h : w.ownsRow base e sz (.slice (some ⟨g, 0, none⟩) n c) n xs) (i : Nat) (u : Value) :
    (w.setCell ⟨g, i, none⟩ u).ownsRow base e sz (.slice (some ⟨g, 0, none⟩) n c) n (xs.set i u) := (h.stored i u).1
set_option maxHeartbeats 400000 in
theorem markInt64S_any (A : Option Addr) (n c : Nat) (base : Nat) (xs : List Value) (k : Nat) (w : World) (hn : n ≤ 1048576) (hk : k ≤ 1048576)
    (hown : w.ownsRow base 2 1 (.slice A n c) n xs) :
    Calls Tryd.prog 19 #[.slice A n c, .int .i64 (k : Int)] w fun e w' => e = .returned (.int .i64 ((k + n : Nat) : Int)) ∧ w'.ownsRow base 2 1 (.slice A n c) n ((marksI k n).flatMap intE) ∧ w.grownBy w' (Value.slice A n c).ownBlock := by
  go_enter Tryd.func19, Tryd.ntmps19
  go_wp2
  go_loopw [1, 5] (fun k_ i_ w' => ∃ (i : Nat) (ys : List Value), i_ = .int .i64 i ∧ k_ = .int .i64 ((k : Int) + (i : Int)) ∧ i ≤ n ∧ Hid (w'.ownsRow base 2 1 (.slice A n c) n ys) ∧ Hid (∀ j, j < i → ys[j]? = some (.int .i64 ((k + j : Nat) : Int))) ∧
      Hid (w.grownBy w' (Value.slice A n c).ownBlock)) (fun _ i_ _ => n - (intOf i_).toNat)
  case atStart => exact ⟨0, xs, rfl, by go_num, by omega, Lib.hid hown, Lib.hid (fun j h => absurd h (by omega)), Lib.hid (World.grownBy.refl _ _)⟩
  case round =>
    obtain ⟨i, ys, rfl, rfl, hi, ho, hy, hg⟩ := hrel
    by_cases hlt : i < n
    · obtain ⟨g, cap, hv, hgb, hgs⟩ := ho.out.form (by omega)
      injection hv with hA _ hc
      subst hA
      clear hc
      have hc1 := Lib.hid ho.out.1
      have c0 := (ho.out.cellAt i (by omega)).trans (List.getElem?_eq_getElem (by rw [hc1.out]; omega))
      have f0 := ho.out.frozenAt i
      go_wp2_with fail
      go_roundw
      case rel =>
        refine ⟨i + 1, ys.set i (.int .i64 ((k : Int) + (i : Int))), by go_num, by go_num, by omega, Lib.hid (own_setI ho.out i _), Lib.hid (fun j hj => ?_), Lib.hid (gb_setCell hg.out i _)⟩
        by_cases hji : j = i
        · subst hji; rw [List.getElem?_set_self (by rw [hc1.out]; omega)]; rfl
        · rw [List.getElem?_set_ne (by omega)]; exact hy.out j (by omega)
      case measure => simp [intOf]; omega
    · have hin : i = n := by omega
      have Hin := Lib.hid hin; clear hin
      have e : Hid (ys = (marksI k n).flatMap intE) := by
        refine Lib.hid ?_
        have h1 := ho.out.1
        have e2 := Hin.out
        apply List.ext_getElem?
        intro j
        by_cases hj : j < n
        · rw [hy.out j (by omega)]
          have := flat_at (enc := intE) (sz := 1) (marksI k n) (fun _ _ => rfl) j _ (marksI_at n k j hj) 0 (by omega)
          rw [Nat.mul_one, Nat.add_zero] at this
          rw [this]; rfl
        · rw [List.getElem?_eq_none (by omega), List.getElem?_eq_none (by rw [flat_len (sz := 1) _ (fun _ _ => rfl), marksI_len]; omega)]
      go_wp2
      go_ret
      exact ⟨ret_int (by rw [Hin.out]; omega), by rw [← e.out]; exact ho.out, hg.out⟩
set_option maxHeartbeats 400000 in
theorem heldInt64S_any (A : Option Addr) (n c : Nat) (k : Nat) (w : World) (hn : n ≤ 1048576) (hk : k ≤ 1048576) (hr : Rd w w.heap.size A n 1 intE (marksI k n)) :
    Calls Tryd.prog 21 #[.slice A n c, .int .i64 (k : Int)] w (Ret (.int .i64 ((k : Int) + (n : Int))) w) := by
  go_enter Tryd.func21, Tryd.ntmps21
  go_wp2
  go_loopw [1, 5] (fun k_ i_ w' => ∃ (i : Nat), i_ = .int .i64 i ∧ k_ = .int .i64 ((k : Int) + (i : Int)) ∧ i ≤ n ∧ Below w.heap.size w w') (fun _ i_ _ => n - (intOf i_).toNat)
  case atStart => exact ⟨0, rfl, by go_num, by omega, Below.refl _ _⟩
  case round =>
    obtain ⟨i, rfl, rfl, hi, hb⟩ := hrel
    by_cases hlt : i < n
    · obtain ⟨b, o, x, rfl, hB, gx, c0⟩ := (show Rd wr wr.heap.size A n 1 (fun s => [.int .i64 s]) (marksI k n) from hr.next hb).int hlt
      obtain rfl : ((k + i : Nat) : Int) = x := by
        rw [marksI_at n k i hlt] at gx
        exact Option.some.inj gx
      clear gx
      go_wp2
      go_roundw
      case rel => exact ⟨i + 1, by go_num, by go_num, by omega, hb⟩
      case measure => simp [intOf]; omega
    · go_wp2
      go_ret
      exact ⟨ret_int (by omega), hb⟩
end Go.Proofs.YtcpofhjoblgmgaaDoor
