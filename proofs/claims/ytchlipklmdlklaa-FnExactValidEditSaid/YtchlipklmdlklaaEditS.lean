/-
  Is an edit valid: in the reference.
-/
import Derived.Test.YtchlipklmdlklaaEdit
import Derived.Test.YtchlipklmdlklaaGramO
namespace Go.Proofs.Ytchlipklmdlklaa
open Go.RowKit

def hasB (s : ByteArray) (b : Int) : Bool := s.data.toList.any fun c => decide ((c.toNat : Int) = b)
set_option maxHeartbeats 1000000 in
theorem l07Has_any (s : ByteArray) (b : Int) (r : Bool) (w : World) (hs : s.size ≤ 1048576) (hr : hasB s b = r) : Calls Try.prog 70 #[.string s, .int .u8 b] w (Ret (.bool r) w) := by
  have Hr := Lib.hid (show (s.data.toList.drop 0).any (fun c => decide ((c.toNat : Int) = b)) = r from hr)
  have hbl := byte_len s
  clear hr
  go_enter Try.func70, Try.ntmps70
  go_wp2
  go_loopw [5] (fun i_ w' => ∃ i : Nat, i_ = .int .i64 i ∧ i ≤ s.size ∧ Below w.heap.size w w' ∧ Hid ((s.data.toList.drop i).any (fun c => decide ((c.toNat : Int) = b)) = r)) (fun i_ _ => s.size - (intOf i_).toNat)
  case atStart => exact ⟨0, rfl, by omega, Below.refl _ _, Hr⟩
  case round =>
    obtain ⟨i, rfl, hi, hb, H⟩ := hrel
    by_cases hlt : i < s.size
    · have H' := Lib.hid (show (decide (((s[i]'hlt).toNat : Int) = b) || (s.data.toList.drop (i + 1)).any (fun c => decide ((c.toNat : Int) = b))) = r by rw [← H.out, drop_cons (at_byte s i hlt)]; rfl)
      by_cases hc : ((s[i]'hlt).toNat : Int) = b
      · have E := Lib.hid (show true = r by rw [← H'.out, decide_eq_true hc, Bool.true_or])
        have e0 : (((s[i]'hlt).toNat : Int) == b) = true := by simpa using hc
        go_wp2
        go_ret
        exact ⟨ret_bool E.out, hb⟩
      · have E := Lib.hid (show (s.data.toList.drop (i + 1)).any (fun c => decide ((c.toNat : Int) = b)) = r by rw [← H'.out, decide_eq_false hc, Bool.false_or])
        have e0 : (((s[i]'hlt).toNat : Int) == b) = false := by simpa using hc
        clear hc
        go_wp2
        go_roundw
        case rel => exact ⟨i + 1, by go_num, by omega, hb, E⟩
        case measure => simp [intOf]; omega
    · have E := Lib.hid (show false = r by rw [← H.out, List.drop_of_length_le (by rw [hbl]; omega)]; rfl)
      go_wp2
      go_ret
      exact ⟨ret_bool E.out, hb⟩
def numB (n : Int) (told : Bool) : Bool := if told then inB n 0 1000000000000000 else decide (n = 0)
theorem l07Num_any (n : Int) (told r : Bool) (w : World) (hr : numB n told = r) : Calls Try.prog 69 #[.int .i64 n, .bool told] w (Ret (.bool r) w) := by
  rcases told with _ | _
  · have e := Lib.hid (show decide (n = 0) = r from hr)
    clear hr
    by_cases h : n = 0
    · have E := Lib.hid (show true = r by rw [← e.out]; simp [h])
      have e0 : (n == 0) = true := by simpa using h
      go_enter Try.func69, Try.ntmps69
      go_wp2
      go_ret
      exact ⟨ret_bool E.out, Below.refl _ _⟩
    · have E := Lib.hid (show false = r by rw [← e.out]; simp [h])
      have e0 : (n == 0) = false := by simpa using h
      go_enter Try.func69, Try.ntmps69
      go_wp2
      go_ret
      exact ⟨ret_bool E.out, Below.refl _ _⟩
  · have Hr := Lib.hid (show inB n 0 1000000000000000 = r from hr)
    clear hr
    go_enter Try.func69, Try.ntmps69
    go_wp2_with fail
    refine (specIn_any n 0 1000000000000000 r _ Hr.out).mono ?_
    rintro e w1 ⟨rfl, hb1⟩
    go_wp2_with fail
    go_ret
    exact ⟨rfl, hb1⟩
def usS (k : Int) : ByteArray :=
  if k = 1 then ⟨#[73, 80]⟩ else if k = 2 then ⟨#[73, 74]⟩ else if k = 3 then ⟨#[73, 74, 75]⟩ else if k = 4 then ⟨#[73, 74, 75]⟩ else if k = 5 then ⟨#[73, 74]⟩ else if k = 6 then ⟨#[73, 74, 75]⟩ else ⟨#[73, 74, 77]⟩
theorem usS_has {k : Int} (h : 1 ≤ k ∧ k ≤ 7) : (usS k).size ≤ 1048576 ∧ hasB (usS k) 74 = usJ k ∧ hasB (usS k) 75 = usK k ∧ hasB (usS k) 80 = usP k ∧ hasB (usS k) 77 = usM k := by
  rcases (show k = 1 ∨ k = 2 ∨ k = 3 ∨ k = 4 ∨ k = 5 ∨ k = 6 ∨ k = 7 by omega) with rfl | rfl | rfl | rfl | rfl | rfl | rfl <;> decide
set_option maxHeartbeats 1000000 in
theorem l07Uses_any (k : Int) (w : World) (h : 1 ≤ k ∧ k ≤ 7) : Calls Try.prog 68 #[.int .i64 k] w (Ret (.string (usS k)) w) := by
  rcases (show k = 1 ∨ k = 2 ∨ k = 3 ∨ k = 4 ∨ k = 5 ∨ k = 6 ∨ k = 7 by omega) with rfl | rfl | rfl | rfl | rfl | rfl | rfl
  all_goals
    clear h
    go_enter Try.func68, Try.ntmps68
    go_wp2
    go_ret
    exact ⟨rfl, by (repeat first | exact Below.refl _ _ | assumption | refine Below.drew ?_ | refine Below.alloc ?_ (by first | exact Nat.le_refl _ | (simp; done) | omega | (simp; omega)) _ | refine Below.setCell ?_ (by first | exact Nat.le_refl _ | (simp; done) | omega | (simp; omega)) _)⟩
end Go.Proofs.Ytchlipklmdlklaa
