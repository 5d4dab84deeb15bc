/-
  PrintOf on both sides.
-/
import Derived.Test.YtlokofafojepdaaPrintT
import Derived.Test.YtlokofafojepdaaPrintK
namespace Go.Proofs.Ytlokofafojepdaa
open Go.RowKit

set_option maxHeartbeats 2000000 in
set_option maxRecDepth 100000 in
theorem specPrint_any (A : Option Addr) (n c : Nat) (rs : List Fac) (b m : Int) (w : World) (hn : n ≤ 1048576) (hr : Rd w w.heap.size A n 3 Fac.cells rs)
    (hok : ∀ f ∈ rs, f.l.size ≤ maxLen) (_hb : -9223372036854775808 ≤ b ∧ b ≤ 9223372036854775807) (_hm : -9223372036854775808 ≤ m ∧ m ≤ 9223372036854775807) :
    Calls Try.prog 18 #[.agg #[.slice A n c], .int .i64 b, .int .i64 m] w (Ret (printV rs b m) w) := by
  have hb0 : Below w.heap.size w (w.alloc (.cells #[.slice A n c] 31)) := by (repeat first | exact Below.refl _ _ | assumption | refine Below.drew ?_ | refine Below.alloc ?_ (by first | exact Nat.le_refl _ | (simp; done) | omega | (simp; omega)) _ | refine Below.setCell ?_ (by first | exact Nat.le_refl _ | (simp; done) | omega | (simp; omega)) _)
  have hB0 := Lib.hid (Blk.new w 31 #[.slice A n c])
  have hl := Lib.hid hr.len
  have HR := Lib.hid hr; clear hr
  have HO := Lib.hid hok; clear hok
  have HC := Lib.hid (printC_cases rs b m)
  go_enter Try.func18, Try.ntmps18
  go_wp2_with fail
  refine (l05Printed_any w.heap.size A n c rs b m _ hB0.out.lt (hB0.out.cell 0) hn (HR.out.next hb0) HO.out _hb _hm).mono ?_
  rintro e1 w1 ⟨rfl, hb1⟩
  have b1 := hb0.trans (hb1.mono hb0.size)
  have B1 := Lib.hid (hB0.out.next hb1)
  rcases HC.out with ⟨h1, h2, _⟩ | ⟨h1, ⟨ls, hls⟩, h3, h4⟩
  · have e0 : (printC rs b m != 0) = true := by simpa using h1
    have e := Lib.hid h2
    generalize printC rs b m = k at *
    clear h1 h2 HC
    go_wp2_with fail
    go_ret2
    exact ⟨by rw [e.out]; rfl, b1⟩
  have hm' : 1 ≤ m ∧ m ≤ 1000000000 := by simpa [inB] using h3
  obtain ⟨m0, m1⟩ := hm'
  have hbb : 0 ≤ b ∧ b ≤ m - 1 := by simpa [inB] using h4
  obtain ⟨q0, q1⟩ := hbb
  have Hk := Lib.hid hls
  have HL := Lib.hid (gOk_lens hls).1
  have hll0 := Lib.hid (gOk_lens hls).2.2
  have hll := Lib.hid ((gOk_lens hls).2.2.trans hl.out)
  have hlb := lastI_bP (gOk_lens hls).1 (gOk_lens hls).2.2
  have hn4 : n ≤ 400 := by have := (gOk_lens hls).2.1; have := hl.out; omega
  have ev := Lib.hid (show printV rs b m = tup2 (printN rs b m) 0 by
    unfold printV; rw [hls]
    show printpV rs 0 (lastI ls) b m = _
    rw [printpV5 hls h3 h4 (by simpa [inB] using hlb.1) (by omega)]
    unfold printN; rw [(gOk_lens hls).1])
  rw [h1]
  clear h1 h3 h4 HC hls
  go_wp2_with fail
  refine (l02Lengths_any w.heap.size A n c rs w1 B1.out.lt (B1.out.cell 0) (by omega) (HR.out.next b1) HO.out).mono ?_
  rintro e1 w2 ⟨hb2, ⟨ls', A2, c2, hg2, rfl, hown2⟩ | ⟨hg2, _⟩⟩
  case inr => exact absurd (hg2.symm.trans Hk.out) (by simp)
  obtain rfl : ls' = ls := Option.some.inj (hg2.symm.trans Hk.out)
  have r2 := Lib.hid (Rd.of_own (enc := intE) (fun _ _ => rfl) rfl hown2)
  rw [hll.out] at r2 ⊢
  have b2 := b1.trans (hb2.mono b1.size)
  have B2 := Lib.hid (B1.out.next hb2)
  clear hown2 hg2
  go_wp2_with fail
  refine (l05Prints_any w.heap.size A n c rs A2 c2 ls' b m w2 B2.out.lt (B2.out.cell 0) hn (HR.out.next b2) HL.out r2.out m0 m1 q0 (by omega)).mono ?_
  rintro e1 w3 ⟨A3, c3, rfl, own3, hb3⟩
  have r3 := Lib.hid (Rd.of_own (enc := intE) (fun _ _ => rfl) rfl own3)
  have hN := (full_len 0 (prF m) (prG b m ls') (rs := rs)).trans hl.out
  have hN' : (prAll b m ls' rs).length = n := hN
  rw [hN'] at r3 ⊢
  have b3 := b2.trans (hb3.mono b2.size)
  have B3 := Lib.hid (B2.out.next hb3)
  have r3l := Lib.hid (r2.out.next hb3)
  clear own3
  go_wp2_with fail
  refine (l02Length_any w.heap.size A n c rs w3 B3.out.lt (B3.out.cell 0) (by omega) (HR.out.next b3) HO.out ls' HL.out).mono ?_
  rintro e1 w4 ⟨rfl, hb4⟩
  have b4 := b3.trans (hb4.mono b3.size)
  have B4 := Lib.hid (B3.out.next hb4)
  go_wp2_with fail
  refine (l05Begin_any w.heap.size A n c rs A2 c2 ls' A3 c3 b m w4 B4.out.lt (B4.out.cell 0) hn (HR.out.next b4) HL.out (r3l.out.next hb4) (r3.out.next hb4) m0 m1 q0 (by omega)).mono ?_
  rintro e1 w5 ⟨rfl, hb5⟩
  generalize printN rs b m = y at *
  go_wp2_with fail
  go_ret2
  exact ⟨by rw [ev.out]; rfl, b4.trans (hb5.mono b4.size)⟩
end Go.Proofs.Ytlokofafojepdaa
