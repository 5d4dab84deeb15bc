
/-
  Marks in lists of factors.
-/
import Derived.Test.YtkkadlihlbpbiaaDoorMarkG
namespace Go.Proofs.YtkkadlihlbpbiaaDoor
open Go.RowKit

set_option maxHeartbeats 2000000 in
theorem markFactorSC_any (A : Option Addr) (n c : Nat) (base : Nat) (xs : List Fac) (k : Nat) (w : World) (hn : n ≤ 1048576) (hk : k ≤ 1048576) (hx : xs.length = n)
    (hown : w.ownsRow base 32 3 (.slice A n c) n (xs.flatMap Fac.cells)) :
    Calls Tryd.prog 7 #[.slice A n c, .int .i64 (k : Int)] w fun e w' => e = .returned (.int .i64 ((k + 3 * n : Nat) : Int)) ∧ w'.ownsRow base 32 3 (.slice A n c) n ((marksR k n).flatMap Fac.cells) ∧ w.grownBy w' (Value.slice A n c).ownBlock := by
  go_enter Tryd.func7, Tryd.ntmps7
  go_wp2
  go_loopw [1, 5] (fun k_ i_ w' => ∃ (i : Nat) (l : List Fac), i_ = .int .i64 i ∧ k_ = .int .i64 ((k : Int) + 3 * (i : Int)) ∧ i ≤ n ∧ Hid (w'.ownsRow base 32 3 (.slice A n c) n (l.flatMap Fac.cells)) ∧
      Hid (l.length = n) ∧ Hid (∀ j, j < i → l[j]? = some (markF k j)) ∧ Hid (w.grownBy w' (Value.slice A n c).ownBlock)) (fun _ i_ _ => n - (intOf i_).toNat)
  case atStart => exact ⟨0, xs, rfl, by go_num, by omega, Lib.hid hown, Lib.hid hx, Lib.hid (fun j hj => absurd hj (by omega)), Lib.hid (World.grownBy.refl _ _)⟩
  case round =>
    obtain ⟨i, l, rfl, rfl, hi, ho, hll, hmk, hg⟩ := hrel
    by_cases hlt : i < n
    · obtain ⟨g, cap, hv, hgb, hgs⟩ := ho.out.form (by omega)
      injection hv with hA _ hc
      subst hA
      clear hc
      have hc1 := Lib.hid ho.out.1
      go_wp2_with fail
      refine (markText_eq _ (k + 3 * i) wr (by omega) (by omega) (by omega)).mono ?_
      rintro e w1 ⟨rfl, hb1⟩
      have ho1 := Lib.hid (own_next ho.out hb1)
      have c0 := (ho1.out.cellAt (i * 3) (by omega)).trans (List.getElem?_eq_getElem (by rw [hc1.out]; omega))
      have c1 := (ho1.out.cellAt (i * 3 + 1) (by omega)).trans (List.getElem?_eq_getElem (by rw [hc1.out]; omega))
      have c2 := (ho1.out.cellAt (i * 3 + 2) (by omega)).trans (List.getElem?_eq_getElem (by rw [hc1.out]; omega))
      have f0 := ho1.out.frozenAt
      have G1 := Lib.hid (gb_trans hg.out (gb_below hb1 (r := (Value.slice (some ⟨g, 0, none⟩) n c).ownBlock)))
      have hS := Lib.hid (set_marks hll.out hmk.out hlt)
      have hO := Lib.hid (own_setI (own_setI (own_setI ho1.out (i * 3) (.string (mt (k + 3 * i)))) (i * 3 + 1) (.int .i64 ((k + 3 * i + 1 : Nat) : Int))) (i * 3 + 2) (.int .i64 ((k + 3 * i + 2 : Nat) : Int)))
      have hfs : (((l.flatMap Fac.cells).set (i * 3) (.string (mt (k + 3 * i)))).set (i * 3 + 1) (.int .i64 ((k + 3 * i + 1 : Nat) : Int))).set (i * 3 + 2) (.int .i64 ((k + 3 * i + 2 : Nat) : Int)) = (l.set i (markF k i)).flatMap Fac.cells := flat_set3 l i (markF k i) (by rw [hll.out]; exact hlt)
      have hO2 := hO.out
      rw [hfs] at hO2
      have q1 : ((k + 3 * i + 1 : Nat) : Int) = (k : Int) + 3 * (i : Int) + 1 := by omega
      have q2 : ((k + 3 * i + 2 : Nat) : Int) = (k : Int) + 3 * (i : Int) + 1 + 1 := by omega
      rw [q1, q2] at hO2
      have HO2 := Lib.hid hO2
      clear hO hO2 hfs
      generalize mt (k + 3 * i) = tx at *
      go_wp2_with fail
      go_roundw
      case rel =>
        exact ⟨i + 1, _, by go_num, by go_num, by omega, HO2, Lib.hid hS.out.1, Lib.hid hS.out.2, Lib.hid (gb_setCell (gb_setCell (gb_setCell G1.out (i * 3) _) (i * 3 + 1) _) (i * 3 + 2) _)⟩
      case measure => simp [intOf]; omega
    · have hin : n = i := by omega
      subst hin
      have hE := Lib.hid (marks_end hll.out hmk.out)
      go_wp2
      go_ret
      refine ⟨ret_int (by omega), ?_, hg.out⟩
      rw [← hE.out]; exact ho.out
set_option maxHeartbeats 2000000 in
theorem heldFactorS_any (A : Option Addr) (n c : Nat) (k : Nat) (w : World) (hn : n ≤ 1048576) (hk : k ≤ 1048576) (hr : Rd w w.heap.size A n 3 Fac.cells (marksR k n)) :
    Calls Tryd.prog 8 #[.slice A n c, .int .i64 (k : Int)] w (Ret (.int .i64 ((k + 3 * n : Nat) : Int)) w) := by
  go_enter Tryd.func8, Tryd.ntmps8
  go_wp2
  go_loopw [1, 5] (fun k_ i_ w' => ∃ (i : Nat), i_ = .int .i64 i ∧ k_ = .int .i64 ((k : Int) + 3 * (i : Int)) ∧ i ≤ n ∧ Below w.heap.size w w') (fun _ i_ _ => n - (intOf i_).toNat)
  case atStart => exact ⟨0, rfl, by go_num, by omega, Below.refl _ _⟩
  case round =>
    obtain ⟨i, rfl, rfl, hi, hb⟩ := hrel
    by_cases hlt : i < n
    · obtain ⟨b, o, x, rfl, hB, gx, c0, c1, c2⟩ := (hr.next hb).fac hlt
      obtain rfl : markF k i = x := by
        rw [marksR_at hlt] at gx
        exact Option.some.inj gx
      clear gx
      have c1' : wr.cell? ⟨b, o + i * 3 + 1, none⟩ = some (.int .i64 ((k : Int) + 3 * (i : Int) + 1)) := c1.trans (by show some (Value.int .i64 ((k + 3 * i + 1 : Nat) : Int)) = _; congr 2 <;> omega)
      have c2' : wr.cell? ⟨b, o + i * 3 + 2, none⟩ = some (.int .i64 ((k : Int) + 3 * (i : Int) + 1 + 1)) := c2.trans (by show some (Value.int .i64 ((k + 3 * i + 2 : Nat) : Int)) = _; congr 2 <;> omega)
      have c0' : wr.cell? ⟨b, o + i * 3, none⟩ = some (.string (mt (k + 3 * i))) := c0
      clear c0 c1 c2
      have hM := Lib.hid (fun (w' : World) => markText_eq ((k : Int) + 3 * (i : Int)) (k + 3 * i) w' (by omega) (by omega) (by omega))
      generalize mt (k + 3 * i) = tx at *
      have hup := upc wr.heap.size wr
      have i0 : (0 : Int) ≤ (i : Int) := by omega
      have i1 : (i : Int) < (n : Int) := by omega
      go_wp2_with fail
      refine wp_region_up wr.heap.size (by kernel_rfl) (by kernel_rfl) ?_
      repeat (go_big_quiet_step (((go_at_call 19; exact Calls.up (Nat.le_refl _) (hM.out _)))))
      refine wpQuiet_nil ?_
      intro w2 hup_w2
      have hb2 := up_of hup_w2
      have d1 := (hb2.cell (p := ⟨b, o + i * 3 + 1, none⟩) hB).trans c1'
      have d2 := (hb2.cell (p := ⟨b, o + i * 3 + 2, none⟩) hB).trans c2'
      go_wp2
      go_roundw
      case rel => exact ⟨i + 1, by go_num, by go_num, by omega, hb.trans (hb2.mono hb.size)⟩
      case measure => simp [intOf]; omega
    · go_wp2
      go_ret
      exact ⟨ret_int (by omega), hb⟩
end Go.Proofs.YtkkadlihlbpbiaaDoor
