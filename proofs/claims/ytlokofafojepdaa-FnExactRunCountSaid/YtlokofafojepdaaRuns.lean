/-
  The number of runs: in the program and in the reference.
-/
import Derived.Test.YtlokofafojepdaaPairsS
namespace Go.Proofs.Ytlokofafojepdaa
open Go.RowKit

def offA (qs : List Q4) (k l : Nat) : Int := if k = l then 0 else (qs.getD k Q4.nil).at_ l
def rowOff (qs : List Q4) (k : Nat) : Int := sumTo (offA qs k) 4
def diagA (qs : List Q4) (k : Nat) : Int := (qs.getD k Q4.nil).at_ k
theorem off_diag (qs : List Q4) : sumTo (rowOff qs) 4 + sumTo (diagA qs) 4 = totT qs := by
  simp only [sumTo, rowOff, offA, diagA, totT, Q4.sum, Q4.at_, if_true, show ¬ (0 : Nat) = 1 by omega, show ¬ (0 : Nat) = 2 by omega, show ¬ (0 : Nat) = 3 by omega, show ¬ (1 : Nat) = 0 by omega, show ¬ (1 : Nat) = 2 by omega, show ¬ (1 : Nat) = 3 by omega,
    show ¬ (2 : Nat) = 0 by omega, show ¬ (2 : Nat) = 1 by omega, show ¬ (2 : Nat) = 3 by omega, show ¬ (3 : Nat) = 0 by omega, show ¬ (3 : Nat) = 1 by omega, show ¬ (3 : Nat) = 2 by omega, if_false]
  omega
def runsN (rs : List Fac) : Int := if rs.length = 0 then 0 else 1 + sumTo (rowOff (pcAll rs)) 4
theorem runs_spec {rs : List Fac} {ls : List Int} (hls : gLens rs [] = some ls) (hll : ls.length = rs.length) : lastI ls - sumTo (diagA (pcAll rs)) 4 = runsN rs := by
  unfold runsN
  split
  · rename_i h
    have h1 := List.eq_nil_of_length_eq_zero h
    subst h1
    have h2 := List.eq_nil_of_length_eq_zero hll
    subst h2
    rfl
  · have := off_diag (pcAll rs)
    rw [pc_total hls hll (by omega)] at this
    omega
def runsV (rs : List Fac) : Value := if (gOk rs).isSome = false then tup2 0 1 else tup2 (runsN rs) 0
theorem runsV_form (rs : List Fac) : ∃ b k, runsV rs = .tuple #[.int .i64 b, .int .i64 k] := by
  unfold runsV
  split
  · exact ⟨_, _, rfl⟩
  · exact ⟨_, _, rfl⟩
theorem runsV1 {rs : List Fac} (h : (gOk rs).isSome = false) : runsV rs = tup2 0 1 := by unfold runsV; rw [if_pos h]
theorem runsV2 {rs : List Fac} (h : (gOk rs).isSome = true) : runsV rs = tup2 (runsN rs) 0 := by unfold runsV; rw [if_neg (by rw [h]; decide)]
theorem offA_b {rs : List Fac} {ls : List Int} (hls : gLens rs [] = some ls) (hll : ls.length = rs.length) (hn : rs.length ≤ 400) (k l : Nat) : 0 ≤ ((pcAll rs).getD k Q4.nil).at_ l ∧ ((pcAll rs).getD k Q4.nil).at_ l ≤ 400000000000000000 := by
  have := pcT_bd hls hll rs.length (Nat.le_refl _) k l
  exact ⟨this.1, Int.le_trans this.2 (by omega)⟩
set_option maxHeartbeats 4000000 in
set_option maxRecDepth 100000 in
theorem implRuns_any (A : Option Addr) (n c : Nat) (rs : List Fac) (w : World) (hn : n ≤ 1048576) (hr : Rd w w.heap.size A n 3 Fac.cells rs) (hok : ∀ f ∈ rs, f.l.size ≤ maxLen) :
    Calls Try.prog 23 #[.agg #[.slice A n c]] w (Ret (runsV rs) w) := by
  have hl := Lib.hid hr.len
  have HR := Lib.hid hr; clear hr
  have HO := Lib.hid hok; clear hok
  rcases hg : (gOk rs).isSome with _ | _
  · have e := Lib.hid (runsV1 hg)
    have Hg := Lib.hid hg; clear hg
    go_enter Try.func23, Try.ntmps23
    go_wp2_with fail
    refine namedC fun w0 H0 => ?_
    have hb0 : Below w.heap.size w w0 := by rw [H0.out]; (repeat first | exact Below.refl _ _ | assumption | refine Below.drew ?_ | refine Below.alloc ?_ (by first | exact Nat.le_refl _ | (simp; done) | omega | (simp; omega)) _ | refine Below.setCell ?_ (by first | exact Nat.le_refl _ | (simp; done) | omega | (simp; omega)) _)
    clear H0
    refine (validG_any A n c rs w0 (by omega) (HR.out.next hb0) HO.out false Hg.out).mono ?_
    rintro e1 w1 ⟨rfl, hb1⟩
    go_wp2_with fail
    go_ret2
    exact ⟨by rw [e.out]; rfl, hb0.trans (hb1.mono hb0.size)⟩
  have HG := Lib.hid hg
  have e := Lib.hid (runsV2 hg)
  obtain ⟨ls, hls⟩ := Option.isSome_iff_exists.1 hg
  have HL := Lib.hid (gOk_lens hls).1
  have Hll := Lib.hid (gOk_lens hls).2.2
  have hn4 : n ≤ 400 := by have := (gOk_lens hls).2.1; have := hl.out; omega
  clear hg hls
  go_enter Try.func23, Try.ntmps23
  go_wp2_with fail
  refine namedC fun w0 H0 => ?_
  have hb0 : Below w.heap.size w w0 := by rw [H0.out]; (repeat first | exact Below.refl _ _ | assumption | refine Below.drew ?_ | refine Below.alloc ?_ (by first | exact Nat.le_refl _ | (simp; done) | omega | (simp; omega)) _ | refine Below.setCell ?_ (by first | exact Nat.le_refl _ | (simp; done) | omega | (simp; omega)) _)
  have G0 := Lib.hid (show Blk w0 w.heap.size 31 #[.slice A n c] by rw [H0.out]; exact Blk.new _ _ _)
  clear H0
  refine (validG_any A n c rs w0 (by omega) (HR.out.next hb0) HO.out true HG.out).mono ?_
  rintro e1 w1 ⟨rfl, hb1⟩
  have b1 := Lib.hid (hb0.trans (hb1.mono hb0.size))
  have G1 := Lib.hid (G0.out.next hb1)
  have cg := G1.out.cell 0
  have lg := G1.out.lt
  clear hb0 hb1 G0
  rcases Nat.eq_zero_or_pos n with hn0 | hn1
  · have e2 := Lib.hid (show runsN rs = 0 by unfold runsN; rw [if_pos (by rw [hl.out]; exact hn0)])
    subst hn0
    go_wp2_with fail
    go_ret2
    exact ⟨by rw [e.out, e2.out]; rfl, b1.out⟩
  have e2 := Lib.hid (show runsN rs = 1 + sumTo (rowOff (pcAll rs)) 4 by unfold runsN; rw [if_neg (by rw [hl.out]; omega)])
  go_wp2_with fail
  refine (implPairs_any A n c rs ls w1 (by omega) ((HR.out.below b1.out).more b1.out.size) HL.out Hll.out).mono ?_
  rintro e3 w2 ⟨A3, c3, gs, rfl, own3, row3, hb2⟩
  have T := Lib.hid (Tab.of rfl own3 row3)
  have b2 := Lib.hid (b1.out.trans (hb2.mono b1.out.size))
  have OB := Lib.hid (offA_b HL.out Hll.out (by rw [hl.out]; exact hn4))
  rw [show (pcAll rs).length = 4 from pcT_len _ _] at T ⊢
  clear own3 row3 hb2 cg lg
  generalize pcAll rs = qs at *
  go_wp2_with fail
  rename World => wo
  go_loopw [4, 19] (fun o_ k_ w' => ∃ (k : Nat) (o : Int), k_ = .int .i64 k ∧ o_ = .int .i64 o ∧ k ≤ 4 ∧ Below wo.heap.size wo w' ∧ Hid (o = 1 + sumTo (rowOff qs) k) ∧ 0 ≤ o ∧ o ≤ 1 + 4 * 400000000000000000 * (k : Int)) (fun _ k_ _ => 4 - (intOf k_).toNat)
  case atStart => exact ⟨0, 1, rfl, rfl, by omega, Below.refl _ _, Lib.hid rfl, by omega, by omega⟩
  case round =>
    obtain ⟨k, o, rfl, rfl, hk, hb, hO, o0, o1⟩ := hrel
    by_cases hlt : k < 4
    · obtain ⟨p, q, g, rfl, hB1, hgr, d1, d2⟩ := (T.out.next hb).2 k hlt
      have D2 := Lib.hid d2
      clear d2
      go_wp2_with fail
      rename World => wi
      go_loopw [4, 26] (fun o_ l_ w' => ∃ (l : Nat) (o2 : Int), l_ = .int .i64 l ∧ o_ = .int .i64 o2 ∧ l ≤ 4 ∧ w' = wi ∧ Hid (o2 = o + sumTo (offA qs k) l) ∧ 0 ≤ o2 ∧ o2 ≤ 1 + 4 * 400000000000000000 * (k : Int) + 400000000000000000 * (l : Int)) (fun _ l_ _ => 4 - (intOf l_).toNat)
      case atStart => exact ⟨0, o, rfl, rfl, by omega, rfl, Lib.hid (by show o = o + 0; omega), by omega, by omega⟩
      case round =>
        obtain ⟨l, o2, rfl, rfl, hl4, rfl, hO2, o20, o21⟩ := hrel
        by_cases hlt2 : l < 4
        · have s1 := D2.out l hlt2
          have ob := OB.out k l
          generalize hv : (qs.getD k Q4.nil).at_ l = v at *
          have Hv := Lib.hid hv; clear hv
          by_cases hkl : k = l
          · have e5 := Lib.hid (show sumTo (offA qs k) (l + 1) = sumTo (offA qs k) l by show sumTo (offA qs k) l + offA qs k l = _; unfold offA; rw [if_pos hkl]; omega)
            have e6 : ((k : Int) != (l : Int)) = false := by simp; omega
            clear hkl
            go_wp2_with fail
            go_roundw
            case rel => exact ⟨l + 1, o2, by go_num, rfl, by omega, trivial, Lib.hid (by rw [e5.out]; exact hO2.out), by omega, by omega⟩
            case measure => simp [intOf]; omega
          · have e5 := Lib.hid (show sumTo (offA qs k) (l + 1) = sumTo (offA qs k) l + v by show sumTo (offA qs k) l + offA qs k l = _; unfold offA; rw [if_neg hkl, Hv.out])
            have e6 : ((k : Int) != (l : Int)) = true := by simp; omega
            clear hkl
            go_wp2_with fail
            go_roundw
            case rel => exact ⟨l + 1, o2 + v, by go_num, rfl, by omega, trivial, Lib.hid (by rw [e5.out, hO2.out]; omega), by omega, by omega⟩
            case measure => simp [intOf]; omega
        · obtain rfl : l = 4 := by omega
          go_wp2_with fail
          go_roundw
          case rel => exact ⟨k + 1, o2, by go_num, rfl, by omega, hb, Lib.hid (by rw [hO2.out, hO.out]; show _ = 1 + (sumTo (rowOff qs) k + rowOff qs k); unfold rowOff; omega), by omega, by omega⟩
          case measure => simp [intOf]; omega
    · obtain rfl : k = 4 := by omega
      go_wp2_with fail
      go_ret2
      exact ⟨by rw [e.out, e2.out, hO.out]; rfl, b2.out.trans (hb.mono b2.out.size)⟩
set_option maxHeartbeats 4000000 in
set_option maxRecDepth 100000 in
theorem specRuns_any (A : Option Addr) (n c : Nat) (rs : List Fac) (w : World) (hn : n ≤ 1048576) (hr : Rd w w.heap.size A n 3 Fac.cells rs) (hok : ∀ f ∈ rs, f.l.size ≤ maxLen) :
    Calls Try.prog 22 #[.agg #[.slice A n c]] w (Ret (runsV rs) w) := by
  have hl := Lib.hid hr.len
  have HR := Lib.hid hr; clear hr
  have HO := Lib.hid hok; clear hok
  rcases hg : (gOk rs).isSome with _ | _
  · have e := Lib.hid (runsV1 hg)
    have Hg := Lib.hid hg; clear hg
    go_enter Try.func22, Try.ntmps22
    go_wp2_with fail
    refine namedC fun w0 H0 => ?_
    have hb0 : Below w.heap.size w w0 := by rw [H0.out]; (repeat first | exact Below.refl _ _ | assumption | refine Below.drew ?_ | refine Below.alloc ?_ (by first | exact Nat.le_refl _ | (simp; done) | omega | (simp; omega)) _ | refine Below.setCell ?_ (by first | exact Nat.le_refl _ | (simp; done) | omega | (simp; omega)) _)
    have G0 := Lib.hid (show Blk w0 w.heap.size 31 #[.slice A n c] by rw [H0.out]; exact Blk.new _ _ _)
    clear H0
    refine (l02Ok_any w.heap.size A n c rs w0 G0.out.lt (G0.out.cell 0) (by omega) (HR.out.next hb0) HO.out false Hg.out).mono ?_
    rintro e1 w1 ⟨rfl, hb1⟩
    go_wp2_with fail
    go_ret2
    exact ⟨by rw [e.out]; rfl, hb0.trans (hb1.mono hb0.size)⟩
  have HG := Lib.hid hg
  have e := Lib.hid (runsV2 hg)
  obtain ⟨ls, hls⟩ := Option.isSome_iff_exists.1 hg
  have HL := Lib.hid (gOk_lens hls).1
  have Hll := Lib.hid (gOk_lens hls).2.2
  have hn4 : n ≤ 400 := by have := (gOk_lens hls).2.1; have := hl.out; omega
  clear hg hls
  go_enter Try.func22, Try.ntmps22
  go_wp2_with fail
  refine namedC fun w0 H0 => ?_
  have hb0 : Below w.heap.size w w0 := by rw [H0.out]; (repeat first | exact Below.refl _ _ | assumption | refine Below.drew ?_ | refine Below.alloc ?_ (by first | exact Nat.le_refl _ | (simp; done) | omega | (simp; omega)) _ | refine Below.setCell ?_ (by first | exact Nat.le_refl _ | (simp; done) | omega | (simp; omega)) _)
  have G0 := Lib.hid (show Blk w0 w.heap.size 31 #[.slice A n c] by rw [H0.out]; exact Blk.new _ _ _)
  clear H0
  refine (l02Ok_any w.heap.size A n c rs w0 G0.out.lt (G0.out.cell 0) (by omega) (HR.out.next hb0) HO.out true HG.out).mono ?_
  rintro e1 w1 ⟨rfl, hb1⟩
  have b1 := Lib.hid (hb0.trans (hb1.mono hb0.size))
  have G1 := Lib.hid (G0.out.next hb1)
  clear hb0 hb1 G0
  go_wp2_with fail
  refine (l02Length_any w.heap.size A n c rs w1 G1.out.lt (G1.out.cell 0) (by omega) ((HR.out.below b1.out).more b1.out.size) HO.out ls HL.out).mono ?_
  rintro e2 w2 ⟨rfl, hb2⟩
  have b2 := Lib.hid (b1.out.trans (hb2.mono b1.out.size))
  have G2 := Lib.hid (G1.out.next hb2)
  clear hb2
  go_wp2_with fail
  refine (specPairs_any w.heap.size A n c rs ls w2 G2.out.lt (G2.out.cell 0) (by omega) ((HR.out.below b2.out).more b2.out.size) HL.out Hll.out).mono ?_
  rintro e3 w3 ⟨A3, c3, gs, rfl, own3, row3, hb3⟩
  have T := Lib.hid (Tab.of rfl own3 row3)
  have b3 := Lib.hid (b2.out.trans (hb3.mono b2.out.size))
  have OB := Lib.hid (offA_b HL.out Hll.out (by rw [hl.out]; exact hn4))
  have ER := Lib.hid (runs_spec HL.out Hll.out)
  have lb : 0 ≤ lastI ls ∧ lastI ls ≤ 1000000000000000 := by
    unfold lastI
    rcases Nat.eq_zero_or_pos n with h | h
    · have := List.eq_nil_of_length_eq_zero (Hll.out.trans (hl.out.trans h))
      subst this; exact ⟨by decide, by decide⟩
    · have := lens_bound HL.out (i := ls.length - 1) (by rw [Hll.out, hl.out]; omega)
      omega
  obtain ⟨lb0, lb1⟩ := lb
  rw [show (pcAll rs).length = 4 from pcT_len _ _] at T ⊢
  clear own3 row3 hb3
  generalize pcAll rs = qs at *
  generalize lastI ls = m at *
  go_wp2_with fail
  rename World => wo
  go_loopw [4, 6] (fun o_ k_ w' => ∃ (k : Nat) (o : Int), k_ = .int .i64 k ∧ o_ = .int .i64 o ∧ k ≤ 4 ∧ w' = wo ∧ Hid (o = m - sumTo (diagA qs) k) ∧ o ≤ 1000000000000000 ∧ -(400000000000000000 * (k : Int)) ≤ o) (fun _ k_ _ => 4 - (intOf k_).toNat)
  case atStart => exact ⟨0, m, rfl, rfl, by omega, rfl, Lib.hid (by show m = m - 0; omega), by omega, by omega⟩
  case round =>
    obtain ⟨k, o, rfl, rfl, hk, rfl, hO, o0, o1⟩ := hrel
    by_cases hlt : k < 4
    · obtain ⟨p, q, g, rfl, hB1, hgr, d1, d2⟩ := T.out.2 k hlt
      have s1 := d2 k hlt
      have ob := OB.out k k
      have e5 := Lib.hid (show sumTo (diagA qs) (k + 1) = sumTo (diagA qs) k + (qs.getD k Q4.nil).at_ k from rfl)
      generalize hv : (qs.getD k Q4.nil).at_ k = v at *
      clear d2 hv
      have k0 : (0 : Int) ≤ (k : Int) := by omega
      have k4 : (k : Int) < 4 := by omega
      go_wp2_with fail
      go_roundw
      case rel => exact ⟨k + 1, o - v, by go_num, rfl, by omega, trivial, Lib.hid (by rw [e5.out, hO.out]; omega), by omega, by omega⟩
      case measure => simp [intOf]; omega
    · obtain rfl : k = 4 := by omega
      go_wp2_with fail
      go_ret2
      exact ⟨by rw [e.out, hO.out, ER.out]; rfl, b3.out⟩
end Go.Proofs.Ytlokofafojepdaa
