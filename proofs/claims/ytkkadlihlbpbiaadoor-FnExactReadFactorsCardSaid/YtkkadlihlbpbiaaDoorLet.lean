
/-
  Bounds, letters and plain words, in the program and in the reference.
-/
import Derived.Test.YtkkadlihlbpbiaaDoorBase
namespace Go.Proofs.YtkkadlihlbpbiaaDoor
open Go.RowKit

/-- is a number from low to high? -/
def inB (n lo hi : Int) : Bool := decide (lo ≤ n ∧ n ≤ hi)
/-- is a byte a letter? -/
def letB (c : UInt8) : Bool := decide (97 ≤ (c.toNat : Int) ∧ (c.toNat : Int) ≤ 100)
/-- is a text a letter? -/
def letT (s : ByteArray) : Bool := match s.data.toList with | [c] => letB c | _ => false
/-- is a text a plain word? -/
def okW (s : ByteArray) : Bool := decide (s.size ≤ 2000) && s.data.toList.all letB

theorem within_any (n lo hi : Int) (b : Bool) (w : World) (hb : inB n lo hi = b) :
    Calls Tryd.prog 38 #[.int .i64 n, .int .i64 lo, .int .i64 hi] w (Ret (.bool b) w) := by
  by_cases h1 : lo ≤ n
  · by_cases h2 : n ≤ hi
    all_goals
      have e := Lib.hid (show inB n lo hi = decide (n ≤ hi) by simp [inB, h1])
      have Hb := Lib.hid hb; clear hb
      go_enter Tryd.func38, Tryd.ntmps38
      go_wp2
      go_ret
      exact ⟨ret_bool (by rw [← Hb.out, e.out]; simp; omega), Below.refl _ _⟩
  · have e := Lib.hid (show inB n lo hi = false by simp [inB, h1])
    have Hb := Lib.hid hb; clear hb
    go_enter Tryd.func38, Tryd.ntmps38
    go_wp2
    go_ret
    exact ⟨ret_bool (by rw [← Hb.out, e.out]), Below.refl _ _⟩

theorem isLetter_any (c : UInt8) (b : Bool) (w : World) (hb : letB c = b) :
    Calls Tryd.prog 54 #[.int .u8 (c.toNat : Int)] w (Ret (.bool b) w) := by
  have hc : (c.toNat : Int) < 256 := by have := c.toNat_lt; omega
  have e := Lib.hid (show letB c = decide (97 ≤ (c.toNat : Int) ∧ (c.toNat : Int) ≤ 100) from rfl)
  have Hb := Lib.hid hb; clear hb
  by_cases h1 : 97 ≤ (c.toNat : Int)
  all_goals
    go_enter Tryd.func54, Tryd.ntmps54
    go_wp2
    go_ret
    exact ⟨ret_bool (by rw [← Hb.out, e.out]; simp; omega), Below.refl _ _⟩
theorem one_byte {s : ByteArray} (h : s.size = 1) : ∃ c, s = ⟨#[c]⟩ := by
  obtain ⟨⟨l⟩⟩ := s
  match l, h with
  | [c], _ => exact ⟨c, rfl⟩
theorem letT_not {s : ByteArray} (h : s.size ≠ 1) : letT s = false := by
  unfold letT
  split
  · rename_i c hc
    exfalso; apply h
    show s.data.size = 1
    rw [← Array.length_toList, hc]; rfl
  · rfl

theorem isLetterText_any (s : ByteArray) (b : Bool) (w : World) (hs : s.size ≤ maxLen) (hb : letT s = b) :
    Calls Tryd.prog 39 #[.string s] w (Ret (.bool b) w) := by
  unfold maxLen at hs
  have Hb := Lib.hid hb; clear hb
  by_cases h1 : s.size = 1
  · obtain ⟨c, rfl⟩ := one_byte h1
    clear h1
    go_enter Tryd.func39, Tryd.ntmps39
    go_wp2_with fail
    refine (isLetter_any c b _ Hb.out).mono ?_
    rintro e w1 ⟨rfl, hb1⟩
    go_wp2
    go_ret
    exact ⟨rfl, hb1⟩
  · have e := Lib.hid (letT_not h1)
    have e1 : ((s.size : Int) == 1) = false := by simp; omega
    clear h1
    go_enter Tryd.func39, Tryd.ntmps39
    go_wp2
    go_ret
    exact ⟨ret_bool (by rw [← Hb.out, e.out]), Below.refl _ _⟩
theorem at_byte (s : ByteArray) (k : Nat) (h : k < s.size) : s.data.toList[k]? = some s[k] := by
  rw [List.getElem?_eq_getElem (by rw [Array.length_toList]; exact h)]
  simp; rfl
theorem byte_len (s : ByteArray) : s.data.toList.length = s.size := by rw [Array.length_toList]; rfl
theorem size0 {s : ByteArray} (h : s.size = 0) : s.toList = [] := by
  rw [ByteArray.toList_eq]; apply List.eq_nil_of_length_eq_zero; rw [byte_len]; exact h
theorem size1 {s : ByteArray} (h : s.size ≠ 0) : s.toList ≠ [] := by
  rw [ByteArray.toList_eq]; intro e; apply h; rw [← byte_len, e]; rfl

theorem size1' {s : ByteArray} (h : s.size ≠ 0) : s.toList.isEmpty = false := by
  have := size1 h
  cases hq : s.toList with
  | nil => exact absurd hq this
  | cons => rfl
theorem okW_all {s : ByteArray} (h : s.size ≤ 2000) : okW s = s.data.toList.all letB := by simp [okW, h]
theorem okW_big {s : ByteArray} (h : 2000 < s.size) : okW s = false := by
  have : decide (s.size ≤ 2000) = false := by simp; omega
  simp only [okW, this, Bool.false_and]
theorem okW_not {s : ByteArray} (h : s.data.toList.all letB = false) : okW s = false := by simp only [okW, h, Bool.and_false]

set_option maxHeartbeats 400000 in
theorem specOk_any (s : ByteArray) (b : Bool) (w : World) (hs : s.size ≤ maxLen) (hb : okW s = b) :
    Calls Tryd.prog 41 #[.string s] w (Ret (.bool b) w) := by
  unfold maxLen at hs
  have Hb := Lib.hid hb; clear hb
  by_cases h : s.size ≤ 2000
  · have e := Lib.hid (okW_all h)
    go_enter Tryd.func41, Tryd.ntmps41
    go_wp2
    go_loopw [3] (fun i w' => ∃ k : Nat, i = .int .i64 k ∧ k ≤ s.size ∧ Below w.heap.size w w' ∧ Hid ((s.data.toList.drop k).all letB = s.data.toList.all letB)) (fun i _ => s.size - (intOf i).toNat)
    case atStart => exact ⟨0, rfl, by omega, Below.refl _ _, Lib.hid rfl⟩
    case round =>
      obtain ⟨k, rfl, hk, hbb, H⟩ := hrel
      by_cases hlt : k < s.size
      · have H' := Lib.hid (show (letB s[k] && (s.data.toList.drop (k + 1)).all letB) = s.data.toList.all letB by rw [← H.out, drop_cons (at_byte s k hlt)]; rfl)
        have hc : (s[k].toNat : Int) < 256 := by have := s[k].toNat_lt; omega
        have he := Lib.hid (show letB s[k] = decide (97 ≤ (s[k].toNat : Int) ∧ (s[k].toNat : Int) ≤ 100) from rfl)
        by_cases h1 : (s[k].toNat : Int) < 97
        · have d1 : decide ((s[k].toNat : Int) < 97) = true := by simpa using h1
          go_wp2
          go_ret
          exact ⟨ret_bool (by rw [← Hb.out, e.out, ← H'.out, he.out]; simp; omega), hbb⟩
        · have d1 : decide ((s[k].toNat : Int) < 97) = false := by simpa using h1
          by_cases h2 : 100 < (s[k].toNat : Int)
          · go_wp2
            go_ret
            exact ⟨ret_bool (by rw [← Hb.out, e.out, ← H'.out, he.out]; simp; omega), hbb⟩
          · go_wp2
            go_roundw
            case rel => exact ⟨k + 1, by go_num, by omega, hbb, Lib.hid (by rw [← H'.out, he.out]; simp; omega)⟩
            case measure => simp [intOf]; omega
      · go_wp2
        go_ret
        exact ⟨ret_bool (by rw [← Hb.out, e.out, ← H.out, List.drop_of_length_le (by rw [byte_len]; omega)]; rfl), hbb⟩
  · have e := Lib.hid (okW_big (s := s) (by omega))
    go_enter Tryd.func41, Tryd.ntmps41
    go_wp2
    go_ret
    exact ⟨ret_bool (by rw [← Hb.out, e.out]), Below.refl _ _⟩
theorem okW_one (c : UInt8) : okW ⟨#[c]⟩ = letB c := by
  show (decide (1 ≤ 2000) && (letB c && true)) = letB c
  simp
theorem specLetter_any (s : ByteArray) (b : Bool) (w : World) (hs : s.size ≤ maxLen) (hb : letT s = b) :
    Calls Tryd.prog 28 #[.string s] w (Ret (.bool b) w) := by
  have hs' := hs
  unfold maxLen at hs
  have Hb := Lib.hid hb; clear hb
  by_cases h1 : s.size = 1
  · obtain ⟨c, rfl⟩ := one_byte h1
    clear h1
    go_enter Tryd.func28, Tryd.ntmps28
    go_wp2_with fail
    refine (specOk_any ⟨#[c]⟩ b _ hs' (by rw [okW_one]; exact Hb.out)).mono ?_
    rintro e w1 ⟨rfl, hb1⟩
    go_wp2
    go_ret
    exact ⟨rfl, hb1⟩
  · have e := Lib.hid (letT_not h1)
    have e1 : ((s.size : Int) == 1) = false := by simp; omega
    clear h1
    go_enter Tryd.func28, Tryd.ntmps28
    go_wp2
    go_ret
    exact ⟨ret_bool (by rw [← Hb.out, e.out]), Below.refl _ _⟩
end Go.Proofs.YtkkadlihlbpbiaaDoor
