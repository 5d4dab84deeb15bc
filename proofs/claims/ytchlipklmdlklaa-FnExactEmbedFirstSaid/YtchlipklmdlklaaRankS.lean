/-
  RankOf in the reference.
-/
import Derived.Test.YtchlipklmdlklaaRank
import Derived.Deep.RegionWith
namespace Go.Proofs.Ytchlipklmdlklaa
open Go.RowKit

set_option maxHeartbeats 2000000 in
set_option maxRecDepth 100000 in
theorem l05Rank_any (gb : Nat) (A : Option Addr) (n c : Nat) (rs : List Fac) (A2 : Option Addr) (c2 : Nat) (A3 : Option Addr) (c3 : Nat) (ls : List Int) (l : Nat) (m0 : Int) (w : World) (hg : gb < w.heap.size) (hc : w.cell? ⟨gb, 0, none⟩ = some (.slice A n c)) (hn : n ≤ 1048576) (hr : Rd w w.heap.size A n 3 Fac.cells rs)
    (hls : gLens rs [] = some ls) (hll : ls.length = rs.length) (h2 : Rd w w.heap.size A2 n 1 intE ls) (hT : Tab w w.heap.size A3 n (cnts rs)) (hl4 : l < 4) (hm0 : 0 ≤ m0) (hm1 : m0 ≤ lastI ls) :
    Calls Try.prog 55 #[.pointer (some ⟨gb, 0, none⟩), .slice A2 n c2, .slice A3 n c3, .int .i64 (l : Int), .int .i64 m0] w (Ret (.int .i64 (rkT (rkV rs l) ls rs m0)) w) := by
  have hl := Lib.hid hr.len
  have R2 := Lib.hid hr; clear hr
  have HL := Lib.hid hls; clear hls
  have Hll := Lib.hid hll; clear hll
  have r22 := Lib.hid h2; clear h2
  have T2 := Lib.hid hT; clear hT
  have HW := Lib.hid (wf_of HL.out)
  have HV := Lib.hid (rkV_bound HL.out l)
  by_cases h0 : m0 ≤ 0
  · have e := Lib.hid (show rkT (rkV rs l) ls rs m0 = 0 by unfold rkT; split; rfl; exact rk_zero h0)
    obtain rfl : m0 = 0 := by omega
    rw [e.out]
    go_enter Try.func55, Try.ntmps55
    go_wp2_with fail
    go_loopw [4, 11] (fun m_ s_ w' => m_ = .int .i64 0 ∧ s_ = .int .i64 0 ∧ w' = w) (fun _ _ _ => 0)
    case atStart => exact ⟨rfl, rfl, rfl⟩
    case round =>
      obtain ⟨rfl, rfl, rfl⟩ := hrel
      go_wp2_with fail
      go_ret
      exact ⟨rfl, Below.refl _ _⟩
  have hpos : 0 < rs.length := by
    rcases Nat.eq_zero_or_pos rs.length with h | h
    · exfalso
      unfold lastI at hm1
      rw [List.eq_nil_of_length_eq_zero (Hll.out.trans h)] at hm1
      have : m0 ≤ 0 := hm1
      omega
    · exact h
  have hm2 : m0 ≤ ls.getD (n - 1) 0 := by
    unfold lastI at hm1
    rw [Hll.out, hl.out] at hm1
    exact hm1
  have e := Lib.hid (show rkT (rkV rs l) ls rs m0 = rk (rkV rs l) ls rs n (n - 1) m0 by unfold rkT; rw [if_neg (by omega), hl.out])
  rw [e.out]
  rw [hl.out] at hpos
  clear e hm1
  go_enter Try.func55, Try.ntmps55
  go_wp2_with fail
  go_loopw [4, 11, 12] (fun m_ s_ r_ w' => ∃ (r f : Nat) (m s : Int), r_ = .int .i64 r ∧ s_ = .int .i64 s ∧ m_ = .int .i64 m ∧ r < n ∧ r < f ∧ Below w.heap.size w w' ∧
      (0 ≤ m ∧ m ≤ ls.getD r 0 ∧ 0 ≤ s ∧ s + m ≤ 1000000000000000) ∧ Hid (rk (rkV rs l) ls rs n (n - 1) m0 = s + rk (rkV rs l) ls rs f r m)) (fun _ _ r_ _ => (intOf r_).toNat)
  case atStart =>
    have := lens_bound HL.out (i := n - 1) (by rw [hl.out]; omega)
    exact ⟨n - 1, n, m0, 0, by go_num, rfl, rfl, by omega, by omega, Below.refl _ _, by omega, Lib.hid (by omega)⟩
  case round =>
    obtain ⟨r, f, m, s, rfl, rfl, rfl, hrn, hrf, hb, ⟨g1, g2, g3, g4⟩, H⟩ := hrel
    by_cases hm : m ≤ 0
    · have H' := Lib.hid (show rk (rkV rs l) ls rs n (n - 1) m0 = s by rw [H.out, rk_zero hm]; omega)
      clear H
      go_wp2_with fail
      go_ret
      exact ⟨ret_int H'.out.symm, hb⟩
    obtain ⟨b, o, x, rfl, hB, gx, c0, c1, c2⟩ := (R2.out.next hb).fac hrn
    have cg := (hb.cell (p := ⟨gb, 0, none⟩) hg).trans hc
    have lg : gb < wr.heap.size := by have := hb.size; omega
    obtain ⟨p2, o2, rfl, hB2, l0⟩ := (r22.out.next hb).i64 (k := r) hrn
    obtain ⟨p1, o1, gr, rfl, hB1, hgr, d1, d2⟩ := (T2.out.next hb).2 r hrn
    have d3 := d2 l hl4
    have hvr := HV.out r (by rw [hl.out]; exact hrn)
    have hcr := cnt_at HL.out (k := r) (by rw [hl.out]; exact hrn) l
    have hlr := lens_bound HL.out (i := r) (by rw [hl.out]; exact hrn)
    have i0 : (0 : Int) ≤ (l : Int) := by omega
    have i1 : (l : Int) < 4 := by omega
    have i2 : (0 : Int) ≤ (r : Int) := by omega
    have i3 : (r : Int) < (n : Int) := by omega
    have ev : rkV rs l r = ((cnts rs).getD r Q4.nil).at_ l := rfl
    clear d2
    by_cases hmr : m = ls.getD r 0
    · have H' := Lib.hid (show rk (rkV rs l) ls rs n (n - 1) m0 = s + ((cnts rs).getD r Q4.nil).at_ l by rw [H.out, rk_full hrf (by omega) (by omega)]; rfl)
      rw [ev] at hvr
      generalize ((cnts rs).getD r Q4.nil).at_ l = v at *
      have u1 : IntKind.i64.wrap (s + v) = s + v := IntWalk.i64_in _ (by omega)
      have hbe : (m == ls.getD r 0) = true := by simpa using hmr
      generalize ls.getD r 0 = lr at *
      clear H
      go_wp2_with fail
      go_ret
      exact ⟨ret_int H'.out.symm, hb⟩
    have hbe : (m == ls.getD r 0) = false := by simpa using hmr
    rcases HW.out r x gx with ⟨h0', ha0, ha1, hb0', hb1'⟩ | ⟨cc, hcc, hxl, hxa, hxb⟩
    case inr =>
      exfalso
      have := lens_let HL.out gx (show x.l.size ≠ 0 by rw [hxl]; show (1 : Nat) ≠ 0; omega)
      omega
    have H1 := rk_go (v := rkV rs l) hrf (show 0 < m by omega) (show m < ls.getD r 0 by omega) gx
    have lp := lens_pair HL.out gx h0'
    have lb1 := lens_bound HL.out (i := x.a.toNat) (by rw [hl.out]; omega)
    have lb2 := lens_bound HL.out (i := x.b.toNat) (by rw [hl.out]; omega)
    obtain ⟨p3, o3, hA3, hB3, l1⟩ := (r22.out.next hb).i64 (k := x.a.toNat) (by omega)
    obtain ⟨rfl, rfl⟩ : p2 = p3 ∧ o2 = o3 := by injection hA3 with hA3; injection hA3 with h1 h2; exact ⟨h1, h2⟩
    obtain ⟨p4, o4, ga, hA4, hB4, hga, d4, d5⟩ := (T2.out.next hb).2 x.a.toNat (by omega)
    obtain ⟨rfl, rfl⟩ : p1 = p4 ∧ o1 = o4 := by injection hA4 with hA4; injection hA4 with h1 h2; exact ⟨h1, h2⟩
    have d6 := d5 l hl4
    have hva := HV.out x.a.toNat (by rw [hl.out]; omega)
    have hca := cnt_at HL.out (k := x.a.toNat) (by rw [hl.out]; omega) l
    have eva : rkV rs l x.a.toNat = ((cnts rs).getD x.a.toNat Q4.nil).at_ l := rfl
    rw [eva] at hva
    clear hA3 hA4 d5 ev hvr hcr hmr
    by_cases q4 : ls.getD x.a.toNat 0 ≤ m
    · have H2 := Lib.hid (show rk (rkV rs l) ls rs n (n - 1) m0 = s + ((cnts rs).getD x.a.toNat Q4.nil).at_ l + rk (rkV rs l) ls rs (f - 1) x.b.toNat (m - ls.getD x.a.toNat 0) by
        rw [H.out, H1, rk_full (r := x.a.toNat) (by omega) (by omega) q4, eva]; omega)
      generalize ((cnts rs).getD x.a.toNat Q4.nil).at_ l = v at *
      generalize hya : ls.getD x.a.toNat 0 = ya at *
      generalize hyr : ls.getD r 0 = lr at *
      have u1 : IntKind.i64.wrap (s + v) = s + v := IntWalk.i64_in _ (by omega)
      have u2 : IntKind.i64.wrap (m - ya) = m - ya := IntWalk.i64_in _ (by clear u1; omega)
      have LP := Lib.hid lp
      clear H H1 gx lp
      go_wp2_with fail
      clear u1 u2
      have lp := LP.out
      go_roundw
      case rel => exact ⟨x.b.toNat, f - 1, m - ya, s + v, by go_num, rfl, rfl, by omega, by omega, hb.alloc hb.size _, ⟨by omega, by omega, by omega, by omega⟩, H2⟩
      case measure => simp [intOf]; omega
    · have H2 := Lib.hid (show rk (rkV rs l) ls rs n (n - 1) m0 = s + rk (rkV rs l) ls rs (f - 1) x.a.toNat m by
        rw [H.out, H1, rk_zero (r := x.b.toNat) (show m - ls.getD x.a.toNat 0 ≤ 0 by omega)]; omega)
      generalize hya : ls.getD x.a.toNat 0 = ya at *
      generalize hyr : ls.getD r 0 = lr at *
      have LP := Lib.hid lp
      clear H H1 gx lp
      go_wp2_with fail
      have lp := LP.out
      go_roundw
      case rel => exact ⟨x.a.toNat, f - 1, m, s, by go_num, rfl, rfl, by omega, by omega, hb.alloc hb.size _, ⟨by omega, by omega, by omega, by omega⟩, H2⟩
      case measure => simp [intOf]; omega
end Go.Proofs.Ytchlipklmdlklaa
