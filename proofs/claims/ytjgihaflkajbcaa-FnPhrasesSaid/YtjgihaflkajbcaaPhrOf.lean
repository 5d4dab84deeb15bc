/-
  PhrasesOf in the program and in the reference.
-/
import Derived.Test.YtjgihaflkajbcaaPhrS
namespace Go.Proofs.Ytjgihaflkajbcaa
open Go.RowKit

theorem phr_len (s : ByteArray) (at_ : Nat) (out : List ByteArray) : (phr s at_ out).length ≤ out.length + (s.size - at_) := by
  rw [phr]
  split
  · have := phr_len s (at_ + plen s out at_ 1) (out ++ [s.extract at_ (at_ + plen s out at_ 1)])
    have h2 := plen_ge s out at_ 1
    simp at this
    omega
  · omega
termination_by s.size - at_
decreasing_by have := plen_ge s out at_ 1; omega

def phrOf (s : ByteArray) : List ByteArray := if okW s = true then phr s 0 [] else []
def codeW (s : ByteArray) : Int := if okW s = true then 0 else 1
theorem okW_size {s : ByteArray} (h : okW s = true) : s.size ≤ 2000 := by
  rcases Nat.lt_or_ge 2000 s.size with q | q
  · rw [okW_big q] at h; cases h
  · exact q
theorem phrOf_len (s : ByteArray) : (phrOf s).length ≤ 2000 := by
  unfold phrOf
  split
  · rename_i h
    have := phr_len s 0 []
    have := okW_size h
    simp at *
    omega
  · simp

section
variable (s : ByteArray) (w : World) (hs : s.size ≤ maxLen)
include hs
set_option maxHeartbeats 400000 in
theorem implPhrasesOf_any : Calls Try.prog 12 #[.string s] w (RetNewC w 9 1 strE (phrOf s) (codeW s)) := by
  rcases hok : okW s with _ | _
  · have e1 := Lib.hid (show phrOf s = [] by simp [phrOf, hok])
    have e2 := Lib.hid (show codeW s = 1 by simp [codeW, hok])
    have Hok := Lib.hid hok; clear hok
    go_enter Try.func12, Try.ntmps12
    go_wp2_with (go_at_call 35; refine (validWord_any s false _ hs Hok.out).mono ?_; rintro e w1 ⟨rfl, hb1⟩)
    go_ret2
    rw [e1.out, e2.out]
    exact ⟨none, 0, rfl, World.ownsRow_nil _ _ _ _, hb1⟩
  · have e1 := Lib.hid (show phrOf s = phr s 0 [] by simp only [phrOf, hok, if_true])
    have e2 := Lib.hid (show codeW s = 0 by simp only [codeW, hok, if_true])
    have hsz := okW_size hok
    have Hok := Lib.hid hok; clear hok
    go_enter Try.func12, Try.ntmps12
    go_wp2_with (first
      | (go_at_call 35; refine (validWord_any s true _ hs Hok.out).mono ?_; rintro e w1 ⟨rfl, hb1⟩)
      | (go_at_call 36; refine (implPhrases_any s _ hsz).mono ?_; rintro e w2 ⟨A, c, rfl, own2, hb2⟩))
    go_ret2
    rw [e1.out, e2.out]
    exact ⟨A, c, rfl, own2.mono hb1.size, hb1.trans (hb2.mono hb1.size)⟩
set_option maxHeartbeats 400000 in
theorem specPhrasesOf_any : Calls Try.prog 18 #[.string s] w (RetNewC w 9 1 strE (phrOf s) (codeW s)) := by
  rcases hok : okW s with _ | _
  · have e1 := Lib.hid (show phrOf s = [] by simp [phrOf, hok])
    have e2 := Lib.hid (show codeW s = 1 by simp [codeW, hok])
    have Hok := Lib.hid hok; clear hok
    go_enter Try.func18, Try.ntmps18
    go_wp2_with (go_at_call 41; refine (specOk_any s false _ hs Hok.out).mono ?_; rintro e w1 ⟨rfl, hb1⟩)
    go_ret2
    rw [e1.out, e2.out]
    exact ⟨_, 0, rfl, World.ownsRow_made w1 #[] 0 hb1.size (by unfold maxLen; omega) rfl, hb1.alloc hb1.size _⟩
  · have e1 := Lib.hid (show phrOf s = phr s 0 [] by simp only [phrOf, hok, if_true])
    have e2 := Lib.hid (show codeW s = 0 by simp only [codeW, hok, if_true])
    have hsz := okW_size hok
    have Hok := Lib.hid hok; clear hok
    go_enter Try.func18, Try.ntmps18
    go_wp2_with (first
      | (go_at_call 41; refine (specOk_any s true _ hs Hok.out).mono ?_; rintro e w1 ⟨rfl, hb1⟩)
      | (go_at_call 42; refine (specPhrases_any s _ hsz).mono ?_; rintro e w2 ⟨A, c, rfl, own2, hb2⟩))
    go_ret2
    rw [e1.out, e2.out]
    exact ⟨A, c, rfl, own2.mono hb1.size, hb1.trans (hb2.mono hb1.size)⟩
end
end Go.Proofs.Ytjgihaflkajbcaa
