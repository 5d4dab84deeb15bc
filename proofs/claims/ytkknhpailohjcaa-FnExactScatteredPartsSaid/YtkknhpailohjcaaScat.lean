/-
  ScatteredParts and ScatteredCount in the reference.
-/
import Derived.Test.YtkknhpailohjcaaScatT
namespace Go.Proofs.Ytkknhpailohjcaa
open Go.RowKit

theorem retScat_none {rs : List Fac} {s : ByteArray} {m k : Int} {w w' : World} {p : Nat} (hk : scCode rs s m = k) (h0 : k ≠ 0) (hT : TabJ w' w.heap.size (some ⟨p, 0, none⟩) 0 0 (s.size + 1) [] (tabL (s.size + 1) (scTop rs s m))) (hb : Below w.heap.size w w') :
    RetScat rs s m w (.returned (.tuple #[.slice (some ⟨p, 0, none⟩) 0 0, .int .i64 k])) w' := by
  have e : scLen rs s m = 0 := by unfold scLen; rw [if_neg (by rw [hk]; exact h0)]
  exact ⟨_, 0, [], by rw [e, hk], by rw [e]; exact hT, hb⟩
theorem mod_of_code {rs : List Fac} {s : ByteArray} {m : Int} (h : scCode rs s m = 3 ∨ scCode rs s m = 0) : modC rs s m = 0 := by
  by_cases h0 : modC rs s m = 0
  · exact h0
  · exfalso
    have e : scCode rs s m = modC rs s m := by unfold scCode; rw [if_pos h0]
    have hc : modC rs s m = 1 ∨ modC rs s m = 2 ∨ modC rs s m = 0 := by
      unfold modC
      split
      · exact .inl rfl
      split
      · exact .inl rfl
      split
      · exact .inr (.inl rfl)
      · exact .inr (.inr rfl)
    omega
theorem mod_of_code' {rs : List Fac} {s : ByteArray} {m : Int} (h : scCode rs s m = 1 ∨ scCode rs s m = 2) : modC rs s m = scCode rs s m := by
  by_cases h0 : modC rs s m = 0
  · exfalso
    have e : scCode rs s m = if 8 < s.size then 3 else 0 := by unfold scCode; rw [if_neg (by rw [h0]; decide)]
    split at e <;> omega
  · unfold scCode; rw [if_pos h0]
set_option maxHeartbeats 2000000 in
set_option maxRecDepth 100000 in
theorem specScatP_any (A : Option Addr) (n c : Nat) (rs : List Fac) (s : ByteArray) (m : Int) (w : World) (hn : n ≤ 1048576) (hr : Rd w w.heap.size A n 3 Fac.cells rs) (hok : ∀ f ∈ rs, f.l.size ≤ maxLen) (hs : s.size ≤ maxLen) (_hm : -9223372036854775808 ≤ m ∧ m ≤ 9223372036854775807) :
    Calls Try.prog 18 #[.agg #[.slice A n c], .string s, .int .i64 m] w (RetScat rs s m w) := by
  have hb0 : Below w.heap.size w (w.alloc (.cells #[.slice A n c] 31)) := by (repeat first | exact Below.refl _ _ | assumption | refine Below.drew ?_ | refine Below.alloc ?_ (by first | exact Nat.le_refl _ | (simp; done) | omega | (simp; omega)) _ | refine Below.setCell ?_ (by first | exact Nat.le_refl _ | (simp; done) | omega | (simp; omega)) _)
  have hB0 := Lib.hid (Blk.new w 31 #[.slice A n c])
  have hl := Lib.hid hr.len
  have HR := Lib.hid hr; clear hr
  have HO := Lib.hid hok; clear hok
  have HC := Lib.hid (scCode_cases rs s m)
  go_enter Try.func18, Try.ntmps18
  go_wp2_with fail
  refine (l05Mod_any w.heap.size A n c rs s m _ hB0.out.lt (hB0.out.cell 0) hn (HR.out.next hb0) HO.out hs).mono ?_
  rintro e1 w1 ⟨rfl, hb1⟩
  have b1 := hb0.trans (hb1.mono hb0.size)
  have B1 := Lib.hid (hB0.out.next hb1)
  by_cases h12 : scCode rs s m = 1 ∨ scCode rs s m = 2
  · have hk := mod_of_code' h12
    rw [hk]
    have HK := Lib.hid (show ∀ k, scCode rs s m = k → k ≠ 0 from fun k hk => by omega)
    have e0 : (scCode rs s m != 0) = true := by simp; omega
    generalize hkk : scCode rs s m = k at *
    have Hk := Lib.hid hkk
    clear hk h12 hkk
    go_wp2_with fail
    go_ret2
    exact retScat_none Hk.out (HK.out k rfl) (made_nil' w1 w.heap.size _ _ b1.size) (b1.alloc b1.size _)
  have h30 : scCode rs s m = 3 ∨ scCode rs s m = 0 := by
    rcases HC.out with ⟨_, h⟩ | ⟨_, _, h⟩ | ⟨_, _, _, h⟩ | ⟨_, _, _, _, h⟩ | ⟨_, _, _, _, h⟩ <;> omega
  rw [mod_of_code h30]
  by_cases h8 : 8 < s.size
  · have hk : scCode rs s m = 3 := by
      rcases HC.out with ⟨_, h⟩ | ⟨_, _, h⟩ | ⟨_, _, _, h⟩ | ⟨_, _, _, _, h⟩ | ⟨_, _, _, h', _⟩ <;> omega
    have Hk := Lib.hid hk
    have h8' : (8 : Int) < (s.size : Int) := by omega
    clear h12 h30 hk
    go_wp2_with fail
    go_ret2
    exact retScat_none Hk.out (by decide) (made_nil' w1 w.heap.size _ _ b1.size) (b1.alloc b1.size _)
  · obtain ⟨hg, hp, hm, _, hk⟩ : (gOk rs).isSome = true ∧ okW s = true ∧ inB m 1 1000000000 = true ∧ s.size ≤ 8 ∧ scCode rs s m = 0 := by
      rcases HC.out with ⟨_, h⟩ | ⟨_, _, h⟩ | ⟨_, _, _, h⟩ | ⟨_, _, _, h', h⟩ | h
      · omega
      · omega
      · omega
      · omega
      · exact h
    have Hk := Lib.hid hk
    have hm' : 1 ≤ m ∧ m ≤ 1000000000 := by simpa [inB] using hm
    obtain ⟨m0, m1⟩ := hm'
    obtain ⟨ls, hls⟩ := Option.isSome_iff_exists.1 hg
    have HL := Lib.hid (gOk_lens hls).1
    have HP := Lib.hid hp
    have h8' : ¬ ((8 : Int) < (s.size : Int)) := by omega
    have h8n : s.size ≤ 8 := by omega
    clear hg hm hp h12 h30 hk hls HC
    go_wp2_with fail
    refine (l05Scattered_any w.heap.size A n c rs s m w1 B1.out.lt (B1.out.cell 0) hn (HR.out.next b1) HL.out HP.out h8n m0 m1).mono ?_
    rintro e4 w4 ⟨v, rfl, hT, hb4⟩
    have T4 := Lib.hid (hT.mono b1.size)
    obtain ⟨A5, c5, gs5, rfl, _⟩ := hT
    go_wp2_with fail
    go_ret2
    exact retScat_ok Hk.out T4.out (b1.trans (hb4.mono b1.size))
end Go.Proofs.Ytkknhpailohjcaa
