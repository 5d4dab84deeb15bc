/-
  Equality of lists of factors, in the program and in the reference.
-/
import Derived.Test.YtjgihaflkajbcaaFac
namespace Go.Proofs.Ytjgihaflkajbcaa
open Go.RowKit

set_option maxHeartbeats 400000 in
theorem specSame_any (A D : Option Addr) (n c m d : Nat) (xs ys : List Fac) (w : World) (hn : n ≤ maxLen) (hm : m ≤ maxLen)
    (hx : Rd w w.heap.size A n 3 Fac.cells xs) (hy : Rd w w.heap.size D m 3 Fac.cells ys) :
    Calls Try.prog 14 #[.slice A n c, .slice D m d] w (Ret (.bool (decide (xs = ys))) w) := by
  have hl := Lib.hid hx.len
  have hl' := Lib.hid hy.len
  unfold maxLen at hn hm
  by_cases h : n = m
  · obtain rfl := h
    have HR := Lib.hid (show eqFacs (xs.drop 0) (ys.drop 0) = decide (xs = ys) from eqFacs_eq _ _ (by rw [List.drop_zero, List.drop_zero, hl.out, hl'.out]))
    go_enter Try.func14, Try.ntmps14
    go_wp2
    go_loopw [5] (fun i w' => ∃ k : Nat, i = .int .i64 k ∧ k ≤ n ∧ Below w.heap.size w w' ∧ Hid (eqFacs (xs.drop k) (ys.drop k) = decide (xs = ys))) (fun i _ => n - (intOf i).toNat)
    case atStart => exact ⟨0, rfl, by omega, Below.refl _ _, HR⟩
    case round =>
      obtain ⟨k, rfl, hk, hb, H⟩ := hrel
      by_cases hlt : k < n
      · obtain ⟨b, o, x, rfl, hB, gx, c0, c1, c2⟩ := (hx.next hb).fac hlt
        obtain ⟨b', o', y, rfl, hB', gy, d0, d1, d2⟩ := (hy.next hb).fac hlt
        have H' := Lib.hid (show (decide (x = y) && eqFacs (xs.drop (k + 1)) (ys.drop (k + 1))) = decide (xs = ys) by
          rw [← H.out, drop_cons gx, drop_cons gy]; rfl)
        clear gx gy H hx hy HR
        have hup := upc wr.heap.size wr
        have i0 : (0 : Int) ≤ (k : Int) := by omega
        have i1 : (k : Int) < (n : Int) := by omega
        by_cases he : x = y
        · have he' := Lib.hid (show decide (x = y) = true by simpa using he)
          have hne := fun W => (neq_fac x y W).trans (by rw [he'.out])
          clear he
          go_wp2_with fail
          refine wp_region_up wr.heap.size (by kernel_rfl) (by kernel_rfl) ?_
          repeat (go_big_quiet_step (fail))
          refine wpQuiet_nil ?_
          intro w2 hw2
          have hb2 := up_of hw2
          go_wp2
          go_roundw
          case rel => exact ⟨k + 1, by go_num, by omega, hb.trans (hb2.mono hb.size), by rw [← H'.out, he'.out, Bool.true_and]; exact Lib.hid rfl⟩
          case measure => simp [intOf]; omega
        · have he' := Lib.hid (show decide (x = y) = false by simpa using he)
          have hne := fun W => (neq_fac x y W).trans (by rw [he'.out])
          clear he
          go_wp2_with fail
          refine wp_region_up wr.heap.size (by kernel_rfl) (by kernel_rfl) ?_
          repeat (go_big_quiet_step (fail))
          refine wpQuiet_nil ?_
          intro w2 hw2
          have hb2 := up_of hw2
          go_wp2
          go_ret
          exact ⟨ret_bool (by rw [← H'.out, he'.out, Bool.false_and]), hb.trans (hb2.mono hb.size)⟩
      · go_wp2
        go_ret
        exact ⟨ret_bool (by rw [← H.out, List.drop_of_length_le (by rw [hl.out]; omega)]; rfl), hb⟩
  · have e := Lib.hid (show decide (xs = ys) = false by simp; rintro rfl; exact h (hl.out.symm.trans hl'.out))
    go_enter Try.func14, Try.ntmps14
    go_wp2
    go_ret
    exact ⟨ret_bool e.out.symm, Below.refl _ _⟩
set_option maxHeartbeats 400000 in
theorem slicesEqFactor_any (A D : Option Addr) (n c m d : Nat) (xs ys : List Fac) (w : World) (hn : n ≤ maxLen) (hm : m ≤ maxLen)
    (hx : Rd w w.heap.size A n 3 Fac.cells xs) (hy : Rd w w.heap.size D m 3 Fac.cells ys) :
    Calls Try.prog 39 #[.slice A n c, .slice D m d] w (Ret (.bool (decide (xs = ys))) w) := by
  have hl := Lib.hid hx.len
  have hl' := Lib.hid hy.len
  unfold maxLen at hn hm
  by_cases h : n = m
  · obtain rfl := h
    have HR := Lib.hid (show eqFacs (xs.drop 0) (ys.drop 0) = decide (xs = ys) from eqFacs_eq _ _ (by rw [List.drop_zero, List.drop_zero, hl.out, hl'.out]))
    go_enter Try.func39, Try.ntmps39
    go_wp2
    go_loopw [13] (fun i w' => ∃ k : Nat, i = .int .i64 k ∧ k ≤ n ∧ Below w.heap.size w w' ∧ Hid (eqFacs (xs.drop k) (ys.drop k) = decide (xs = ys))) (fun i _ => n - (intOf i).toNat)
    case atStart => exact ⟨0, rfl, by omega, Below.refl _ _, HR⟩
    case round =>
      obtain ⟨k, rfl, hk, hb, H⟩ := hrel
      by_cases hlt : k < n
      · obtain ⟨b, o, x, rfl, hB, gx, c0, c1, c2⟩ := (hx.next hb).fac hlt
        obtain ⟨b', o', y, rfl, hB', gy, d0, d1, d2⟩ := (hy.next hb).fac hlt
        have H' := Lib.hid (show (decide (x = y) && eqFacs (xs.drop (k + 1)) (ys.drop (k + 1))) = decide (xs = ys) by
          rw [← H.out, drop_cons gx, drop_cons gy]; rfl)
        clear gx gy H hx hy HR
        have hup := upc wr.heap.size wr
        have i0 : (0 : Int) ≤ (k : Int) := by omega
        have i1 : (k : Int) < (n : Int) := by omega
        by_cases he : x = y
        · have he' := Lib.hid (show decide (x = y) = true by simpa using he)
          have hne := fun W => (neq_fac x y W).trans (by rw [he'.out])
          clear he
          go_wp2_with fail
          refine wp_region_up wr.heap.size (by kernel_rfl) (by kernel_rfl) ?_
          repeat (go_big_quiet_step (fail))
          refine wpQuiet_nil ?_
          intro w2 hw2
          have hb2 := up_of hw2
          go_wp2
          go_roundw
          case rel => exact ⟨k + 1, by go_num, by omega, hb.trans (hb2.mono hb.size), by rw [← H'.out, he'.out, Bool.true_and]; exact Lib.hid rfl⟩
          case measure => simp [intOf]; omega
        · have he' := Lib.hid (show decide (x = y) = false by simpa using he)
          have hne := fun W => (neq_fac x y W).trans (by rw [he'.out])
          clear he
          go_wp2_with fail
          refine wp_region_up wr.heap.size (by kernel_rfl) (by kernel_rfl) ?_
          repeat (go_big_quiet_step (fail))
          refine wpQuiet_nil ?_
          intro w2 hw2
          have hb2 := up_of hw2
          go_wp2
          go_ret
          exact ⟨ret_bool (by rw [← H'.out, he'.out, Bool.false_and]), hb.trans (hb2.mono hb.size)⟩
      · go_wp2
        go_ret
        exact ⟨ret_bool (by rw [← H.out, List.drop_of_length_le (by rw [hl.out]; omega)]; rfl), hb⟩
  · have e := Lib.hid (show decide (xs = ys) = false by simp; rintro rfl; exact h (hl.out.symm.trans hl'.out))
    go_enter Try.func39, Try.ntmps39
    go_wp2
    go_ret
    exact ⟨ret_bool e.out.symm, Below.refl _ _⟩
set_option maxHeartbeats 400000 in
theorem implSame_any (A D : Option Addr) (n c m d : Nat) (xs ys : List Fac) (w : World) (hn : n ≤ maxLen) (hm : m ≤ maxLen)
    (hx : Rd w w.heap.size A n 3 Fac.cells xs) (hy : Rd w w.heap.size D m 3 Fac.cells ys) :
    Calls Try.prog 16 #[.slice A n c, .slice D m d] w (Ret (.bool (decide (xs = ys))) w) := by
  go_enter Try.func16, Try.ntmps16
  go_wp2_with (go_at_call 39; refine (slicesEqFactor_any _ _ _ _ _ _ xs ys _ hn hm hx hy).mono ?_; rintro e w1 ⟨rfl, hb1⟩)
  go_ret
  exact ⟨rfl, hb1⟩
end Go.Proofs.Ytjgihaflkajbcaa
