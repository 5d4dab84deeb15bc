/-
  PrintOf in the reference.
-/
import Derived.Test.YtkknhpailohjcaaPrintS
import Derived.Test.YtkknhpailohjcaaPrintV
import Derived.Test.YtkknhpailohjcaaModC
import Derived.Deep.RegionWith
namespace Go.Proofs.Ytkknhpailohjcaa
open Go.RowKit

def printC (rs : List Fac) (b m : Int) : Int := if modC rs ⟨#[]⟩ m ≠ 0 then modC rs ⟨#[]⟩ m else if inB b 0 (m - 1) = false then 2 else 0
theorem printC_cases (rs : List Fac) (b m : Int) : (printC rs b m ≠ 0 ∧ printV rs b m = tup2 0 (printC rs b m) ∧ ∀ i j, printpV rs i j b m = tup2 0 (printC rs b m)) ∨
    (printC rs b m = 0 ∧ (∃ ls, gOk rs = some ls) ∧ inB m 1 1000000000 = true ∧ inB b 0 (m - 1) = true) := by
  have hw : okW ⟨#[]⟩ = true := by decide +kernel
  rcases hg : gOk rs with _ | ls
  · have hc : modC rs ⟨#[]⟩ m = 1 := by unfold modC; rw [hg]; rfl
    have hp : printC rs b m = 1 := by unfold printC; rw [hc]; rfl
    left
    rw [hp]
    exact ⟨by decide, by unfold printV; rw [hg], fun i j => printpV0 hg⟩
  have h0 : ¬ ((gOk rs).isSome = false) := by rw [hg]; simp
  have hv : printV rs b m = printpV rs 0 (lastI ls) b m := by unfold printV; rw [hg]
  rcases h1 : inB m 1 1000000000 with _ | _
  · have hc : modC rs ⟨#[]⟩ m = 2 := by unfold modC; rw [if_neg h0, if_neg (by rw [hw]; decide), if_pos h1]
    have hp : printC rs b m = 2 := by unfold printC; rw [hc]; rfl
    left
    rw [hp]
    exact ⟨by decide, by rw [hv]; exact printpV1 hg h1, fun i j => printpV1 hg h1⟩
  have hc : modC rs ⟨#[]⟩ m = 0 := by unfold modC; rw [if_neg h0, if_neg (by rw [hw]; decide), if_neg (by rw [h1]; decide)]
  rcases h2 : inB b 0 (m - 1) with _ | _
  · have hp : printC rs b m = 2 := by unfold printC; rw [hc, if_neg (by decide), if_pos h2]
    left
    rw [hp]
    exact ⟨by decide, by rw [hv]; exact printpV2 hg h1 h2, fun i j => printpV2 hg h1 h2⟩
  · right
    have hp : printC rs b m = 0 := by unfold printC; rw [hc, if_neg (by decide), if_neg (by rw [h2]; decide)]
    exact ⟨hp, ⟨ls, rfl⟩, rfl, rfl⟩
theorem l05Printed_any (gb : Nat) (A : Option Addr) (n c : Nat) (rs : List Fac) (b m : Int) (w : World) (hg : gb < w.heap.size) (hc : w.cell? ⟨gb, 0, none⟩ = some (.slice A n c)) (hn : n ≤ 1048576) (hr : Rd w w.heap.size A n 3 Fac.cells rs)
    (hok : ∀ f ∈ rs, f.l.size ≤ maxLen) (hb : -9223372036854775808 ≤ b ∧ b ≤ 9223372036854775807) (hm : -9223372036854775808 ≤ m ∧ m ≤ 9223372036854775807) :
    Calls Try.prog 53 #[.pointer (some ⟨gb, 0, none⟩), .int .i64 b, .int .i64 m] w (Ret (.int .i64 (printC rs b m)) w) := by
  have HR := Lib.hid hr; clear hr
  have HO := Lib.hid hok; clear hok
  have HM := Lib.hid (fun w' h1 h2 h3 => l05Mod_any gb A n c rs ⟨#[]⟩ m w' h1 h2 hn h3 HO.out (by unfold maxLen; show (0 : Nat) ≤ _; omega))
  by_cases h0 : modC rs ⟨#[]⟩ m = 0
  · have hm1 : 1 ≤ m ∧ m ≤ 1000000000 := by
      unfold modC at h0
      split at h0
      · exact absurd h0 (by decide)
      split at h0
      · exact absurd h0 (by decide)
      split at h0
      · exact absurd h0 (by decide)
      · rename_i _ _ h; simpa [inB] using h
    obtain ⟨m0, m1⟩ := hm1
    have um : IntKind.i64.wrap (m - 1) = m - 1 := IntWalk.i64_in _ (by omega)
    have E := Lib.hid h0
    rcases h2 : inB b 0 (m - 1) with _ | _
    all_goals
      have H2 := Lib.hid h2
      have e := Lib.hid (show printC rs b m = if inB b 0 (m - 1) = false then 2 else 0 by unfold printC; rw [if_neg (by rw [h0]; decide)])
      rw [h2] at e
      clear h2 h0
      go_enter Try.func53, Try.ntmps53
      go_wp2_with fail
      refine (HM.out _ hg hc HR.out).mono ?_
      rintro e1 w1 ⟨rfl, hb1⟩
      rw [E.out]
      go_wp2_with fail
      refine (specIn_any b 0 (m - 1) _ _ H2.out).mono ?_
      rintro e1 w2 ⟨rfl, hb2⟩
      go_wp2_with fail
      go_ret
      exact ⟨ret_int e.out.symm, hb1.trans (hb2.mono hb1.size)⟩
  · have e := Lib.hid (show printC rs b m = modC rs ⟨#[]⟩ m by unfold printC; rw [if_pos h0])
    generalize modC rs ⟨#[]⟩ m = k at *
    have e0 : (k != 0) = true := by simpa using h0
    clear h0
    go_enter Try.func53, Try.ntmps53
    go_wp2_with fail
    refine (HM.out _ hg hc HR.out).mono ?_
    rintro e1 w1 ⟨rfl, hb1⟩
    go_wp2_with fail
    go_ret
    exact ⟨ret_int e.out.symm, hb1⟩
set_option maxHeartbeats 2000000 in
set_option maxRecDepth 100000 in
theorem l05Begin_any (gb : Nat) (A : Option Addr) (n c : Nat) (rs : List Fac) (D : Option Addr) (d : Nat) (ls : List Int) (E : Option Addr) (e : Nat) (b m : Int) (w : World) (hg : gb < w.heap.size) (hc : w.cell? ⟨gb, 0, none⟩ = some (.slice A n c)) (hn : n ≤ 1048576) (hr : Rd w w.heap.size A n 3 Fac.cells rs)
    (hls : gLens rs [] = some ls) (hd : Rd w w.heap.size D n 1 intE ls) (he : Rd w w.heap.size E n 1 intE (prAll b m ls rs)) (hm : 1 ≤ m) (hm2 : m ≤ 1000000000) (hb0 : 0 ≤ b) (hbm : b < m) :
    Calls Try.prog 59 #[.pointer (some ⟨gb, 0, none⟩), .slice D n d, .slice E n e, .int .i64 (lastI ls), .int .i64 b, .int .i64 m] w (Ret (.int .i64 (printN rs b m)) w) := by
  have hl := hr.len
  have hdl := hd.len
  have hm0 : ¬ m = 0 := by omega
  rcases Nat.eq_zero_or_pos n with h0 | h0
  · subst h0
    have hrs : rs = [] := List.eq_nil_of_length_eq_zero hl
    have hln : ls = [] := List.eq_nil_of_length_eq_zero hdl
    subst hrs hln
    have ev := Lib.hid (printN_nil hls b m)
    have el : lastI ([] : List Int) = 0 := rfl
    clear hr hd he hls hl hdl
    rw [el]
    go_enter Try.func59, Try.ntmps59
    go_wp2_with fail
    go_loopw [3, 12, 13, 14, 15] (fun n_ o_ s_ d_ r_ w' => n_ = .int .i64 0 ∧ o_ = .int .i64 0 ∧ s_ = .int .i64 0 ∧ w' = w) (fun _ _ _ _ _ _ => 0)
    case atStart => exact ⟨rfl, rfl, rfl, by first | rfl | trivial⟩
    case round =>
      obtain ⟨rfl, rfl, rfl, rfl⟩ := hrel
      go_wp2_with fail
      go_ret
      exact ⟨ret_int ev.out.symm, Below.refl _ _⟩
  · obtain ⟨k, hk⟩ : ∃ k, n = k + 1 := ⟨n - 1, by omega⟩
    have hkn : (n : Int) - 1 = (k : Int) := by omega
    have ev := Lib.hid (printN_eq hls (hdl.trans hl.symm) hm hb0 hbm (by omega))
    have hrk : rs.length - 1 = k := by omega
    have el : lastI ls = ls.getD k 0 := by unfold lastI; rw [show ls.length - 1 = k by omega]
    have lb := lens_bound hls (i := k) (by omega)
    have pb := pr_in (b := b) hls hm (k := k) (by omega)
    obtain ⟨bb, o, x, rfl, hB, gx, c0, c1, c2⟩ := hr.fac (k := k) (by omega)
    obtain ⟨pD, oD, rfl, hBD, cD⟩ := hd.i64 (k := k) (by omega)
    obtain ⟨pE, oE, rfl, hBE, cE⟩ := he.i64 (k := k) (by omega)
    rw [el]
    rw [hrk] at ev
    have H0 := Lib.hid (fun (w' : World) => l05Power_any b m 0 w' hm hm2 hb0 hbm (by omega) (by omega))
    have pw0 : pw b m (0 : Int).toNat = 1 % m := rfl
    rw [pw0] at H0
    generalize (prAll b m ls rs).getD k 0 = v at *
    generalize ls.getD k 0 = z at *
    obtain ⟨lb0, lb1⟩ := lb
    obtain ⟨pb0, pb1⟩ := pb
    have re := emod_in (a := 1) hm
    obtain ⟨re0, re1⟩ := re
    have em := Lib.hid (show 1 % m * v % m = v by rw [emodL, Int.one_mul, emod_id pb0 pb1])
    have mq := mul_b9 (x := 1 % m) (y := v) re0 (by omega) pb0 (by omega)
    generalize 1 % m = q at *
    obtain ⟨mq0, mq1⟩ := mq
    have u1 : IntKind.i64.wrap (q * v) = q * v := IntWalk.i64_in _ (by omega)
    have rz := emod_in (a := q * v) hm
    obtain ⟨rz0, rz1⟩ := rz
    have u3 : IntKind.i64.wrap (q * v % m) = q * v % m := IntWalk.i64_in _ (by clear u1; omega)
    have v1 : (q * v).tmod m = q * v % m := Int.tmod_eq_emod_of_nonneg mq0
    have i0 : (0 : Int) ≤ (k : Int) := by omega
    have i1 : (k : Int) < (n : Int) := by omega
    have z0 : (0 : Int) < z := by omega
    clear hr hd he hls gx hl hdl hrk el pw0
    have sw := Lib.hid hk
    clear hk
    go_enter Try.func59, Try.ntmps59
    go_wp2_with fail
    go_loopw [3, 12, 13, 14, 15] (fun n_ o_ s_ d_ r_ w' => n_ = .int .i64 z ∧ o_ = .int .i64 0 ∧ s_ = .int .i64 0 ∧ d_ = .int .i64 0 ∧ r_ = .int .i64 (k : Int) ∧ w' = w) (fun _ _ _ _ _ _ => 0)
    case atStart => exact ⟨rfl, rfl, rfl, rfl, by rw [← hkn], by first | rfl | trivial⟩
    case round =>
      obtain ⟨rfl, rfl, rfl, rfl, rfl, rfl⟩ := hrel
      go_wp2_with fail
      refine named fun w1 H1 => ?_
      have b1 : Below wr.heap.size wr w1 := by rw [H1.out]; (repeat first | exact Below.refl _ _ | assumption | refine Below.drew ?_ | refine Below.alloc ?_ (by first | exact Nat.le_refl _ | (simp; done) | omega | (simp; omega)) _ | refine Below.setCell ?_ (by first | exact Nat.le_refl _ | (simp; done) | omega | (simp; omega)) _)
      have c1E := (b1.cell (p := ⟨pE, oE + k, none⟩) hBE).trans cE
      have sz1 := b1.size
      have hup := upc w1.heap.size w1
      have lE : pE < w1.heap.size := by omega
      clear H1
      refine wp_region_up w1.heap.size (by kernel_rfl) (by kernel_rfl) ?_
      repeat (go_big_quiet_step ((go_at_call 99; exact Calls.up (Nat.le_refl _) (H0.out _))))
      refine wpQuiet_nil ?_
      intro w4 hup_w4
      have hb4 := up_of hup_w4
      go_wp2_with fail
      go_ret
      exact ⟨ret_int (by rw [ev.out]; exact em.out), b1.trans (hb4.mono b1.size)⟩
end Go.Proofs.Ytkknhpailohjcaa
