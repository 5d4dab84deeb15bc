
/-
  Bounds, letters and plain words, in the program and in the reference.
-/
import Derived.Test.YtcpofhjoblgmgaaDoorBase
namespace Go.Proofs.YtcpofhjoblgmgaaDoor
open Go.RowKit

/-- is a number from low to high? -/
def inB (n lo hi : Int) : Bool := decide (lo ≤ n ∧ n ≤ hi)
/-- is a byte a letter? -/
def letB (c : UInt8) : Bool := decide (97 ≤ (c.toNat : Int) ∧ (c.toNat : Int) ≤ 100)
/-- is a text a letter? -/
def letT (s : ByteArray) : Bool := match s.data.toList with | [c] => letB c | _ => false
/-- is a text a plain word? -/
def okW (s : ByteArray) : Bool := decide (s.size ≤ 2000) && s.data.toList.all letB

theorem within_any (n lo hi : Int) (b : Bool) (w : World) (hb : inB n lo hi = b) :
    Calls Tryd.prog 31 #[.int .i64 n, .int .i64 lo, .int .i64 hi] w (Ret (.bool b) w) := by
  by_cases h1 : lo ≤ n
  · by_cases h2 : n ≤ hi
    all_goals
      have e := Lib.hid (show inB n lo hi = decide (n ≤ hi) by simp [inB, h1])
      have Hb := Lib.hid hb; clear hb
      go_enter Tryd.func31, Tryd.ntmps31
      go_wp2
      go_ret
      exact ⟨ret_bool (by rw [← Hb.out, e.out]; simp; omega), Below.refl _ _⟩
  · have e := Lib.hid (show inB n lo hi = false by simp [inB, h1])
    have Hb := Lib.hid hb; clear hb
    go_enter Tryd.func31, Tryd.ntmps31
    go_wp2
    go_ret
    exact ⟨ret_bool (by rw [← Hb.out, e.out]), Below.refl _ _⟩

theorem one_byte {s : ByteArray} (h : s.size = 1) : ∃ c, s = ⟨#[c]⟩ := by
  obtain ⟨⟨l⟩⟩ := s
  match l, h with
  | [c], _ => exact ⟨c, rfl⟩
theorem letT_not {s : ByteArray} (h : s.size ≠ 1) : letT s = false := by
  unfold letT
  split
  · rename_i c hc
    exfalso; apply h
    show s.data.size = 1
    rw [← Array.length_toList, hc]; rfl
  · rfl

theorem at_byte (s : ByteArray) (k : Nat) (h : k < s.size) : s.data.toList[k]? = some s[k] := by
  rw [List.getElem?_eq_getElem (by rw [Array.length_toList]; exact h)]
  simp; rfl
theorem byte_len (s : ByteArray) : s.data.toList.length = s.size := by rw [Array.length_toList]; rfl
theorem size0 {s : ByteArray} (h : s.size = 0) : s.toList = [] := by
  rw [ByteArray.toList_eq]; apply List.eq_nil_of_length_eq_zero; rw [byte_len]; exact h
theorem size1 {s : ByteArray} (h : s.size ≠ 0) : s.toList ≠ [] := by
  rw [ByteArray.toList_eq]; intro e; apply h; rw [← byte_len, e]; rfl

theorem size1' {s : ByteArray} (h : s.size ≠ 0) : s.toList.isEmpty = false := by
  have := size1 h
  cases hq : s.toList with
  | nil => exact absurd hq this
  | cons => rfl
theorem okW_all {s : ByteArray} (h : s.size ≤ 2000) : okW s = s.data.toList.all letB := by simp [okW, h]
theorem okW_big {s : ByteArray} (h : 2000 < s.size) : okW s = false := by
  have : decide (s.size ≤ 2000) = false := by simp; omega
  simp only [okW, this, Bool.false_and]
theorem okW_not {s : ByteArray} (h : s.data.toList.all letB = false) : okW s = false := by simp only [okW, h, Bool.and_false]

theorem okW_one (c : UInt8) : okW ⟨#[c]⟩ = letB c := by
  show (decide (1 ≤ 2000) && (letB c && true)) = letB c
  simp
end Go.Proofs.YtcpofhjoblgmgaaDoor
