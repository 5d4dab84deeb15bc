/-
  Lists of texts that a call has made: marked from a greater number on.
-/
import Derived.Test.YtkknhpailohjcaaMark
namespace Go.Proofs.Ytkknhpailohjcaa
open Go.RowKit

set_option maxHeartbeats 400000 in
theorem markStringSK_any (A : Option Addr) (n c : Nat) (base : Nat) (xs : List Value) (k : Nat) (w : World) (hn : n ≤ 1048576) (hk : k ≤ 10000000)
    (hown : w.ownsRow base 9 1 (.slice A n c) n xs) :
    Calls Try.prog 35 #[.slice A n c, .int .i64 (k : Int)] w fun e w' => e = .returned (.int .i64 ((k + n : Nat) : Int)) ∧ w'.ownsRow base 9 1 (.slice A n c) n ((marks k n).flatMap strEM) ∧ w.grownBy w' (Value.slice A n c).ownBlock := by
  go_enter Try.func35, Try.ntmps35
  go_wp2
  go_loopw [1, 5] (fun k_ i_ w' => ∃ (i : Nat) (ys : List Value), i_ = .int .i64 i ∧ k_ = .int .i64 ((k : Int) + (i : Int)) ∧ i ≤ n ∧ Hid (w'.ownsRow base 9 1 (.slice A n c) n ys) ∧ Hid (∀ j, j < i → ys[j]? = some (.string (mt (k + j)))) ∧
      Hid (w.grownBy w' (Value.slice A n c).ownBlock)) (fun _ i_ _ => n - (intOf i_).toNat)
  case atStart => exact ⟨0, xs, rfl, by go_num, by omega, Lib.hid hown, Lib.hid (fun j h => absurd h (by omega)), Lib.hid (World.grownBy.refl _ _)⟩
  case round =>
    obtain ⟨i, ys, rfl, rfl, hi, ho, hy, hg⟩ := hrel
    by_cases hlt : i < n
    · obtain ⟨g, cap, hv, hgb, hgs⟩ := ho.out.form (by omega)
      injection hv with hA _ hc
      subst hA
      clear hc
      have hc1 := Lib.hid ho.out.1
      have hcell := Lib.hid (fun (w1 : World) (hb : Below wr.heap.size wr w1) => (own_next ho.out hb).cellAt i (by omega))
      have hfr := Lib.hid (fun (w1 : World) (hb : Below wr.heap.size wr w1) => (own_next ho.out hb).frozenAt i)
      go_wp2_with fail
      refine (markText_int _ wr (by omega) (by omega)).mono ?_
      rintro e w1 ⟨rfl, hb1⟩
      have c0 := (hcell.out w1 hb1).trans (List.getElem?_eq_getElem (by rw [hc1.out]; omega))
      have f0 := hfr.out w1 hb1
      go_wp2_with fail
      go_roundw
      case rel =>
        refine ⟨i + 1, ys.set i (.string (mt ((k : Int) + (i : Int)).toNat)), by go_num, by go_num, by omega, Lib.hid (own_set (own_next ho.out hb1) i _), Lib.hid (fun j hj => ?_), Lib.hid ?_⟩
        · by_cases hji : j = i
          · subst hji; rw [List.getElem?_set_self (by rw [hc1.out]; omega), show ((k : Int) + (j : Int)).toNat = k + j by omega]
          · rw [List.getElem?_set_ne (by omega)]; exact hy.out j (by omega)
        · have h1 := hg.out
          refine ⟨hb1.os.trans h1.os, hb1.tape.trans h1.tape, hb1.output.trans h1.output, by have := h1.size; have := hb1.size; simp only [World.setCell, Array.size_modify]; omega, fun q hq hne => ?_⟩
          have hq2 : q ≠ g := fun e => hne (by rw [e]; rfl)
          rw [Below.heap_setCell _ _ _ _ hq2, hb1.block q (by have := h1.size; omega)]
          exact h1.block q hq hne
      case measure => simp [intOf]; omega
    · have hin : i = n := by omega
      have Hin := Lib.hid hin; clear hin
      have e : Hid (ys = (marks k n).flatMap strEM) := by
        refine Lib.hid ?_
        have h1 := ho.out.1
        have e2 := Hin.out
        apply List.ext_getElem?
        intro j
        by_cases hj : j < n
        · rw [hy.out j (by omega)]
          have := flat_at (enc := strEM) (sz := 1) (marks k n) (fun _ _ => rfl) j _ (marks_at n k j hj) 0 (by omega)
          rw [Nat.mul_one, Nat.add_zero] at this
          rw [this]; rfl
        · rw [List.getElem?_eq_none (by omega), List.getElem?_eq_none (by rw [flat_len (sz := 1) _ (fun _ _ => rfl), marks_len]; omega)]
      go_wp2
      go_ret
      exact ⟨ret_int (by rw [Hin.out]; omega), by rw [← e.out]; exact ho.out, hg.out⟩
end Go.Proofs.Ytkknhpailohjcaa
