/-
  Equality of lists of texts, and whether marks are still there.
-/
import Derived.Test.YtkknhpailohjcaaMark
namespace Go.Proofs.Ytkknhpailohjcaa
open Go.RowKit

def eqStrs : List ByteArray → List ByteArray → Bool
  | x :: r, y :: s => decide (x = y) && eqStrs r s
  | _, _ => true
theorem eqStrs_eq : ∀ (a b : List ByteArray), a.length = b.length → eqStrs a b = decide (a = b)
  | [], [], _ => rfl
  | x :: r, y :: s, h => by
    rw [eqStrs, eqStrs_eq r s (by simpa using h)]
    by_cases h1 : x = y <;> by_cases h2 : r = s <;> simp [h1, h2]

set_option maxHeartbeats 400000 in
theorem eqStringS_any (A D : Option Addr) (n c m d : Nat) (xs ys : List ByteArray) (w : World) (hn : n ≤ maxLen) (hm : m ≤ maxLen)
    (hx : Rd w w.heap.size A n 1 strEM xs) (hy : Rd w w.heap.size D m 1 strEM ys) :
    Calls Try.prog 34 #[.slice A n c, .slice D m d] w (Ret (.bool (decide (xs = ys))) w) := by
  have hl := Lib.hid hx.len
  have hl' := Lib.hid hy.len
  unfold maxLen at hn hm
  by_cases h : n = m
  · obtain rfl := h
    have HR := Lib.hid (show eqStrs (xs.drop 0) (ys.drop 0) = decide (xs = ys) from eqStrs_eq _ _ (by rw [List.drop_zero, List.drop_zero, hl.out, hl'.out]))
    go_enter Try.func34, Try.ntmps34
    go_wp2
    go_loopw [5] (fun i w' => ∃ k : Nat, i = .int .i64 k ∧ k ≤ n ∧ Below w.heap.size w w' ∧ Hid (eqStrs (xs.drop k) (ys.drop k) = decide (xs = ys))) (fun i _ => n - (intOf i).toNat)
    case atStart => exact ⟨0, rfl, by omega, Below.refl _ _, HR⟩
    case round =>
      obtain ⟨k, rfl, hk, hb, H⟩ := hrel
      by_cases hlt : k < n
      · obtain ⟨b, o, x, rfl, hB, gx, c0⟩ := (show Rd wr wr.heap.size A n 1 (fun s => [.string s]) xs from hx.next hb).str hlt
        obtain ⟨b', o', y, rfl, hB', gy, d0⟩ := (show Rd wr wr.heap.size D n 1 (fun s => [.string s]) ys from hy.next hb).str hlt
        have H' := Lib.hid (show (decide (x = y) && eqStrs (xs.drop (k + 1)) (ys.drop (k + 1))) = decide (xs = ys) by
          rw [← H.out, drop_cons gx, drop_cons gy]; rfl)
        clear gx gy H hx hy HR
        have hup := upc wr.heap.size wr
        have i0 : (0 : Int) ≤ (k : Int) := by omega
        have i1 : (k : Int) < (n : Int) := by omega
        by_cases he : x = y
        · have he' := Lib.hid (show decide (x = y) = true by simpa using he)
          subst he
          go_wp2_with fail
          refine wp_region_up wr.heap.size (by kernel_rfl) (by kernel_rfl) ?_
          repeat (go_big_quiet_step (fail))
          refine wpQuiet_nil ?_
          intro w2 hup_w2
          have hb2 := up_of hup_w2
          go_wp2
          go_roundw
          case rel => exact ⟨k + 1, by go_num, by omega, hb.trans (hb2.mono hb.size), Lib.hid (by rw [← H'.out]; simp)⟩
          case measure => simp [intOf]; omega
        · have he' := Lib.hid (show decide (x = y) = false by simpa using he)
          have h1 : ¬ x.toList = y.toList := by rw [tl_inj]; exact he
          have h2 : (x.toList == y.toList) = false := by rw [tl_beq]; simpa using he
          clear he
          go_wp2_with fail
          refine wp_region_up wr.heap.size (by kernel_rfl) (by kernel_rfl) ?_
          repeat (go_big_quiet_step (fail))
          refine wpQuiet_nil ?_
          intro w2 hup_w2
          have hb2 := up_of hup_w2
          go_wp2
          go_ret
          exact ⟨ret_bool (by rw [← H'.out, he'.out, Bool.false_and]), hb.trans (hb2.mono hb.size)⟩
      · go_wp2
        go_ret
        exact ⟨ret_bool (by rw [← H.out, List.drop_of_length_le (by rw [hl.out]; omega)]; rfl), hb⟩
  · have e := Lib.hid (show decide (xs = ys) = false by simp; rintro rfl; exact h (hl.out.symm.trans hl'.out))
    go_enter Try.func34, Try.ntmps34
    go_wp2
    go_ret
    exact ⟨ret_bool e.out.symm, Below.refl _ _⟩
end Go.Proofs.Ytkknhpailohjcaa
