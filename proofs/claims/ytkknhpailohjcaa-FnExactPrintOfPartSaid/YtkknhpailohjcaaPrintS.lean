/-
  Prints in the reference.
-/
import Derived.Test.YtkknhpailohjcaaPrintM
import Derived.Test.YtkknhpailohjcaaLett
import Derived.Test.YtkknhpailohjcaaPlace
import Derived.Deep.RegionHeld3
namespace Go.Proofs.Ytkknhpailohjcaa
open Go.RowKit

theorem mul_b9 {x y : Int} (x0 : 0 ≤ x) (x1 : x ≤ 1000000000) (y0 : 0 ≤ y) (y1 : y ≤ 1000000000) : 0 ≤ x * y ∧ x * y ≤ 1000000000000000000 := by
  refine ⟨Int.mul_nonneg x0 y0, ?_⟩
  have := Int.mul_le_mul x1 y1 y0 (by omega : (0 : Int) ≤ 1000000000)
  omega
theorem own_cell' {w : World} {base n c : Nat} {A : Option Addr} {xs : List Int} (h : w.ownsRow base 2 1 (.slice A n c) n (xs.flatMap intE)) (hl : xs.length = n) {i : Nat} (hi : i < n) :
    ∃ g, A = some ⟨g, 0, none⟩ ∧ base ≤ g ∧ g < w.heap.size ∧ w.cell? ⟨g, i, none⟩ = some (.int .i64 (xs.getD i 0)) := by
  obtain ⟨g, cp, hv, h1, h2⟩ := h.form (by omega)
  obtain rfl : A = some ⟨g, 0, none⟩ := by injection hv
  refine ⟨g, rfl, h1, h2, ?_⟩
  have := own_at (sz := 1) (enc := intE) (fun _ _ => rfl) h hl 0 i hi 0 (by omega)
  rw [Nat.mul_one, Nat.add_zero] at this; exact this
set_option maxHeartbeats 2000000 in
theorem l05Power_any (b m n : Int) (w : World) (hm : 1 ≤ m) (hm2 : m ≤ 1000000000) (h0 : 0 ≤ b) (hb : b < m) (hn0 : 0 ≤ n) (hn : n ≤ 1000000000000000) :
    Calls Try.prog 99 #[.int .i64 b, .int .i64 n, .int .i64 m] w (Ret (.int .i64 (pw b m n.toNat)) w) := by
  have q1 := emod_in (a := 1) hm
  obtain ⟨q10, q11⟩ := q1
  have u0 : IntKind.i64.wrap (1 % m) = 1 % m := IntWalk.i64_in _ (by omega)
  have t0 : (1 : Int).tmod m = 1 % m := Int.tmod_eq_emod_of_nonneg (by omega)
  have hm0 : ¬ m = 0 := by omega
  obtain ⟨v, hv⟩ : ∃ v, pw b m n.toNat = v := ⟨_, rfl⟩
  rw [hv]
  have Hs := Lib.hid (show (1 % m) * pw b m n.toNat % m = v by rw [emodL, Int.one_mul, emod_id (pw_in hm _).1 (pw_in hm _).2, hv])
  clear hv
  go_enter Try.func99, Try.ntmps99
  go_wp2_with fail
  clear u0 t0
  go_loopw [0, 1, 7] (fun b_ n_ o_ w' => ∃ (k : Nat) (b o : Int), b_ = .int .i64 b ∧ n_ = .int .i64 (k : Int) ∧ o_ = .int .i64 o ∧ w' = w ∧ 0 ≤ b ∧ b < m ∧ 0 ≤ o ∧ o < m ∧ k ≤ 1000000000000000 ∧ Hid (o * pw b m k % m = v)) (fun _ n_ _ _ => (intOf n_).toNat)
  case atStart =>
    refine ⟨n.toNat, b, 1 % m, rfl, by rw [show ((n.toNat : Nat) : Int) = n by omega], ?_, rfl, h0, hb, q10, q11, by omega, Hs⟩
    first | rfl | trivial
  case round =>
    obtain ⟨k, b, o, rfl, rfl, rfl, rfl, b0, b1, o0, o1, hk, H⟩ := hrel
    rcases Nat.eq_zero_or_pos k with hk0 | hk1
    · subst hk0
      have e := Lib.hid (show o = v by rw [← H.out]; show o = o * (1 % m) % m; rw [emodR, Int.mul_one, emod_id o0 o1])
      go_wp2_with fail
      go_ret
      exact ⟨ret_int e.out, Below.refl _ _⟩
    · have p1 := mul_b9 (x := b) (y := b) b0 (by omega) b0 (by omega)
      have p2 := mul_b9 (x := o) (y := b) o0 (by omega) b0 (by omega)
      obtain ⟨p10, p11⟩ := p1
      obtain ⟨p20, p21⟩ := p2
      have r1 := emod_in (a := b * b) hm
      have r2 := emod_in (a := o * b) hm
      obtain ⟨r10, r11⟩ := r1
      obtain ⟨r20, r21⟩ := r2
      have u1 : IntKind.i64.wrap (b * b) = b * b := IntWalk.i64_in _ (by omega)
      have u2 : IntKind.i64.wrap (o * b) = o * b := IntWalk.i64_in _ (by clear u1; omega)
      have u3 : IntKind.i64.wrap (b * b % m) = b * b % m := IntWalk.i64_in _ (by clear u1 u2; omega)
      have u4 : IntKind.i64.wrap (o * b % m) = o * b % m := IntWalk.i64_in _ (by clear u1 u2 u3; omega)
      have v1 : (b * b).tmod m = b * b % m := Int.tmod_eq_emod_of_nonneg p10
      have v2 : (o * b).tmod m = o * b % m := Int.tmod_eq_emod_of_nonneg p20
      have hkp : (0 : Int) < (k : Int) := by omega
      obtain ⟨j, hj⟩ : ∃ j : Nat, j = k / 2 := ⟨_, rfl⟩
      have e2 : (k : Int).tdiv 2 = (j : Int) := by rw [Int.tdiv_eq_ediv_of_nonneg (by omega)]; omega
      have e2' : (k : Int) / 2 = (j : Int) := by omega
      rcases Nat.mod_two_eq_zero_or_one k with h2 | h2
      · have e1 : (k : Int).tmod 2 = 0 := by rw [Int.tmod_eq_emod_of_nonneg (by omega)]; omega
        have e1' : (k : Int) % 2 = 0 := by omega
        have H2 := Lib.hid (show o * pw (b * b % m) m j % m = v by rw [pw_even, show 2 * j = k by omega]; exact H.out)
        have Hj := Lib.hid (show j < k by omega)
        clear hj h2 H
        go_wp2_with fail
        clear u1 u2 u3 u4
        go_roundw
        case rel => exact ⟨j, b * b % m, o, rfl, rfl, rfl, trivial, r10, r11, o0, o1, by have := Hj.out; omega, H2⟩
        case measure => have := Hj.out; simp [intOf]; omega
      · have e1 : (k : Int).tmod 2 = 1 := by rw [Int.tmod_eq_emod_of_nonneg (by omega)]; omega
        have e1' : (k : Int) % 2 = 1 := by omega
        have H2 := Lib.hid (show (o * b % m) * pw (b * b % m) m j % m = v by rw [pw_odd, show 2 * j + 1 = k by omega]; exact H.out)
        have Hj := Lib.hid (show j < k by omega)
        clear hj h2 H
        go_wp2_with fail
        clear u1 u2 u3 u4
        go_roundw
        case rel => exact ⟨j, b * b % m, o * b % m, rfl, rfl, rfl, trivial, r10, r11, r20, r21, by have := Hj.out; omega, H2⟩
        case measure => have := Hj.out; simp [intOf]; omega
set_option maxHeartbeats 4000000 in
set_option maxRecDepth 100000 in
theorem l05Prints_any (gb : Nat) (A : Option Addr) (n c : Nat) (rs : List Fac) (D : Option Addr) (d : Nat) (ls : List Int) (b m : Int) (w : World) (hg : gb < w.heap.size) (hc : w.cell? ⟨gb, 0, none⟩ = some (.slice A n c)) (hn : n ≤ 1048576) (hr : Rd w w.heap.size A n 3 Fac.cells rs)
    (hls : gLens rs [] = some ls) (hd : Rd w w.heap.size D n 1 intE ls) (hm : 1 ≤ m) (hm2 : m ≤ 1000000000) (hb0 : 0 ≤ b) (hbm : b < m) :
    Calls Try.prog 58 #[.pointer (some ⟨gb, 0, none⟩), .slice D n d, .int .i64 b, .int .i64 m] w (RetNew w 2 1 intE (prAll b m ls rs)) := by
  have hl := Lib.hid hr.len
  have HR := Lib.hid hr; clear hr
  have HD := Lib.hid hd; clear hd
  have HL := Lib.hid hls; clear hls
  have HWF := Lib.hid (wf_of HL.out)
  have hm0 : ¬ m = 0 := by omega
  go_enter Try.func58, Try.ntmps58
  go_wp2
  go_loopw [9, 10] (fun o_ i_ w' => ∃ (k : Nat) (A' : Option Addr) (c' : Nat), i_ = .int .i64 k ∧ o_ = .slice A' k c' ∧ k ≤ n ∧
      Hid (w'.ownsRow w.heap.size 2 1 (.slice A' k c') k ((outs 0 (prF m) (prG b m ls) rs k).flatMap intE)) ∧ Below w.heap.size w w') (fun _ i_ _ => n - (intOf i_).toNat)
  case atStart =>
    exact ⟨0, _, 0, rfl, rfl, by omega, Lib.hid (by simpa [outs, foldG] using World.ownsRow_made (base := w.heap.size) (e := 2) (size := 1) w #[] 0 (Nat.le_refl _) (by unfold maxLen; omega) rfl), by (repeat first | exact Below.refl _ _ | assumption | refine Below.drew ?_ | refine Below.alloc ?_ (by first | exact Nat.le_refl _ | (simp; done) | omega | (simp; omega)) _ | refine Below.setCell ?_ (by first | exact Nat.le_refl _ | (simp; done) | omega | (simp; omega)) _)⟩
  case round =>
    obtain ⟨k, A', c', rfl, rfl, hk, hown, hb⟩ := hrel
    have cg := (hb.cell (p := ⟨gb, 0, none⟩) hg).trans hc
    have lg : gb < wr.heap.size := by have := hb.size; omega
    by_cases hlt : k < n
    · obtain ⟨bb, o, x, rfl, hB, gx, c0, c1, c2⟩ := (HR.out.below hb).fac hlt
      have hB2 : bb < wr.heap.size := Nat.lt_of_lt_of_le hB hb.size
      have Hst := Lib.hid (outs_step 0 (prF m) (prG b m ls) gx)
      have Hol := Lib.hid (outs_len 0 (prF m) (prG b m ls) rs k (by rw [hl.out]; exact hk))
      have Gx := Lib.hid gx; clear gx
      rcases HWF.out k x Gx.out with ⟨h0, ha0, ha1, hb0', hb1'⟩ | ⟨cc, hcc, hxl, hxa, hxb⟩
      · have e0 := size0 h0
        have hkr : k ≤ rs.length := by rw [hl.out]; exact hk
        have q1 := pr_in (b := b) HL.out hm (k := x.a.toNat) (by omega)
        have q2 := pr_in (b := b) HL.out hm (k := x.b.toNat) (by omega)
        have m1 := lens_bound HL.out (i := x.a.toNat) (by omega)
        rw [← outs_full 0 (prF m) (prG b m ls) (k := k) (i := x.a.toNat) (by omega) hkr] at q1
        rw [← outs_full 0 (prF m) (prG b m ls) (k := k) (i := x.b.toNat) (by omega) hkr] at q2
        have hfs := Lib.hid (show fStep 0 (prF m) (prG b m ls) (outs 0 (prF m) (prG b m ls) rs k) x = ((outs 0 (prF m) (prG b m ls) rs k).getD x.a.toNat 0 + pw b m (ls.getD x.a.toNat 0).toNat * (outs 0 (prF m) (prG b m ls) rs k).getD x.b.toNat 0) % m by unfold fStep; rw [if_pos h0]; rfl)
        obtain ⟨pD, oD, rfl, hBD, clw⟩ := HD.out.i64 (k := x.a.toNat) (by omega)
        obtain ⟨g, rfl, hg0, hg1, va⟩ := own_cell' hown.out Hol.out (i := x.a.toNat) (by omega)
        have vb : wr.cell? ⟨g, x.b.toNat, none⟩ = some (.int .i64 ((outs 0 (prF m) (prG b m ls) rs k).getD x.b.toNat 0)) := by
          obtain ⟨g', hA', _, _, v⟩ := own_cell' hown.out Hol.out (i := x.b.toNat) (by omega)
          obtain rfl : g = g' := by injection hA' with h; injection h
          exact v
        have HE := Lib.hid (fun (w' : World) (h : w'.ownsRow w.heap.size 2 1 (.slice (some ⟨g, 0, none⟩) k c') k ((outs 0 (prF m) (prG b m ls) rs k).flatMap intE)) (i : Nat) (hi : i < k) =>
          show w'.cell? ⟨g, i, none⟩ = some (.int .i64 ((outs 0 (prF m) (prG b m ls) rs k).getD i 0)) by
            obtain ⟨g', hA', _, _, v⟩ := own_cell' h Hol.out hi
            obtain rfl : g = g' := by injection hA' with h; injection h
            exact v)
        have ea := Lib.hid (fun (w' : World) h => HE.out w' h x.a.toNat (by omega))
        have eb := Lib.hid (fun (w' : World) h => HE.out w' h x.b.toNat (by omega))
        clear HE
        have pL := pw_in (b := b) hm (ls.getD x.a.toNat 0).toNat
        have Hpw := Lib.hid (fun (w' : World) => l05Power_any b m (ls.getD x.a.toNat 0) w' hm hm2 hb0 hbm (by omega) (by omega))
        generalize (outs 0 (prF m) (prG b m ls) rs k).getD x.a.toNat 0 = y1 at *
        generalize (outs 0 (prF m) (prG b m ls) rs k).getD x.b.toNat 0 = y2 at *
        generalize hpv : pw b m (ls.getD x.a.toNat 0).toNat = pv at *
        generalize ls.getD x.a.toNat 0 = la at *
        clear hpv
        obtain ⟨q10, q11⟩ := q1
        obtain ⟨q20, q21⟩ := q2
        obtain ⟨pv0, pv1⟩ := pL
        have i1 : x.a < (k : Int) := ha1
        have i2 : x.b < (k : Int) := hb1'
        have i3 : x.a < (n : Int) := by omega
        clear h0 m1
        go_wp2_with fail
        refine named fun w1 H1 => ?_
        have B1 : Blk w1 wr.heap.size 75 #[.string x.l, .int .i64 x.a, .int .i64 x.b] := by rw [H1.out]; exact Blk.new _ _ _
        have b1 : Below w.heap.size w w1 := by rw [H1.out]; exact hb.alloc hb.size _
        have own1 : w1.ownsRow w.heap.size 2 1 (.slice (some ⟨g, 0, none⟩) k c') k ((outs 0 (prF m) (prG b m ls) rs k).flatMap intE) := by rw [H1.out]; exact hown.out.alloc _
        obtain ⟨d0, d1, d2⟩ := B1.three
        have hz1 := B1.lt
        have Own1 := Lib.hid own1
        have lD : pD < w1.heap.size := by have := b1.size; omega
        have CLw := Lib.hid clw
        have sw0 := b1.size
        have hx1 := (b1.cell (p := ⟨pD, oD + x.a.toNat, none⟩) hBD).trans clw
        have va1 := ea.out w1 own1
        have vb1 := eb.out w1 own1
        have KS := Lib.hid (fun (w' : World) (h : Below w.heap.size w w' ∧ w'.ownsRow w.heap.size 2 1 (.slice (some ⟨g, 0, none⟩) k c') k ((outs 0 (prF m) (prG b m ls) rs k).flatMap intE) ∧ w1.heap.size ≤ w'.heap.size ∧ (∀ b o, wr.heap.size ≤ b → b < w1.heap.size → w'.cell? ⟨b, o, none⟩ = w1.cell? ⟨b, o, none⟩)) => show (Below w.heap.size w w' ∧ w'.ownsRow w.heap.size 2 1 (.slice (some ⟨g, 0, none⟩) k c') k ((outs 0 (prF m) (prG b m ls) rs k).flatMap intE) ∧ w1.heap.size ≤ w'.heap.size ∧ (∀ b o, wr.heap.size ≤ b → b < w1.heap.size → w'.cell? ⟨b, o, none⟩ = w1.cell? ⟨b, o, none⟩)) ∧ w'.cell? ⟨wr.heap.size, 1, none⟩ = some (.int .i64 x.a) ∧ w'.cell? ⟨wr.heap.size, 2, none⟩ = some (.int .i64 x.b) ∧ w'.cell? ⟨g, x.a.toNat, none⟩ = some (.int .i64 y1) ∧ w'.cell? ⟨g, x.b.toNat, none⟩ = some (.int .i64 y2) ∧ w'.cell? ⟨pD, oD + x.a.toNat, none⟩ = some (.int .i64 la) from
          ⟨h, (h.2.2.2 wr.heap.size 1 (by omega) (by omega)).trans d1, (h.2.2.2 wr.heap.size 2 (by omega) (by omega)).trans d2, ea.out _ h.2.1, eb.out _ h.2.1, (h.1.cell (p := ⟨pD, oD + x.a.toNat, none⟩) hBD).trans CLw.out⟩)
        have mq := mul_b9 (x := pv) (y := y2) pv0 (by omega) q20 (by omega)
        obtain ⟨mq0, mq1⟩ := mq
        clear own1 H1 va vb clw
        have hk1 : (k + 1) * 8 ≤ 140737488355328 := by omega
        have hk2 : k + 1 ≤ maxLen := by unfold maxLen; omega
        have u1 : IntKind.i64.wrap (pv * y2) = pv * y2 := IntWalk.i64_in _ (by omega)
        have u2 : IntKind.i64.wrap (y1 + pv * y2) = y1 + pv * y2 := IntWalk.i64_in _ (by clear u1; omega)
        have re := emod_in (a := y1 + pv * y2) hm
        obtain ⟨re0, re1⟩ := re
        have u3 : IntKind.i64.wrap ((y1 + pv * y2) % m) = (y1 + pv * y2) % m := IntWalk.i64_in _ (by clear u1 u2; omega)
        have u4 : (y1 + pv * y2).tmod m = (y1 + pv * y2) % m := Int.tmod_eq_emod_of_nonneg (by omega)
        go_region_held3 (fun w' => (Below w.heap.size w w' ∧ w'.ownsRow w.heap.size 2 1 (.slice (some ⟨g, 0, none⟩) k c') k ((outs 0 (prF m) (prG b m ls) rs k).flatMap intE) ∧ w1.heap.size ≤ w'.heap.size ∧ (∀ b o, wr.heap.size ≤ b → b < w1.heap.size → w'.cell? ⟨b, o, none⟩ = w1.cell? ⟨b, o, none⟩)) ∧ w'.cell? ⟨wr.heap.size, 1, none⟩ = some (.int .i64 x.a) ∧ w'.cell? ⟨wr.heap.size, 2, none⟩ = some (.int .i64 x.b) ∧ w'.cell? ⟨g, x.a.toNat, none⟩ = some (.int .i64 y1) ∧ w'.cell? ⟨g, x.b.toNat, none⟩ = some (.int .i64 y2) ∧ w'.cell? ⟨pD, oD + x.a.toNat, none⟩ = some (.int .i64 la))
          (first | exact KS.out _ bk | exact KS.out _ (held_alloc bk _) | exact KS.out _ (held_drew b1 Own1.out _))
          (first
            | (go_at_call 99
               refine (Hpw.out _).mono ?_
               rintro e wm ⟨rfl, hbm⟩
               have bk := held_callR (by assumption) hbm)
            | (refine step_push (by rfl) _ _ _ (by rfl) w.heap.size 2 1 8 elem_int intE (some ⟨g, 0, none⟩) k c' (outs 0 (prF m) (prG b m ls) rs k) (by rfl) (held_alloc bk _).2.1 _ ((y1 + pv * y2) % m) #[.int .i64 ((y1 + pv * y2) % m)] 2 (0, 0) (by rfl) (heap_alloc_new _ _) rfl rfl (by simp [intE, Value.oneCell']) (by decide) hk1 hk2 (Nat.le_trans (held_alloc bk _).1.size (Nat.le_refl _)) ?_
               intro A5 c5 w5 own5 hg5 old5
               have bk' := held_push bk hg5 old5 (fun q hq => by cases hq; exact ⟨hg0, hg1⟩)
               clear bk
               have bk := bk')
            | fail)
        all_goals
          clear u1 u2 u3 u4
          go_wp2_with fail
          go_roundw
          case rel =>
            refine ⟨k + 1, A5, c5, by go_num, rfl, by omega, Lib.hid ?_, bk.1⟩
            rw [Hst.out, hfs.out]; exact own5
          case measure => simp [intOf]; omega
      · obtain ⟨xl, xa, xb⟩ := x
        simp only at hxl hxa hxb c0 c1 c2
        subst hxl hxa hxb
        obtain ⟨hl0, hl1⟩ := letB_num hcc
        have e1 := size1 (s := ⟨#[cc]⟩) (show (1 : Nat) ≠ 0 by omega)
        have e2 := size1' (s := ⟨#[cc]⟩) (show (1 : Nat) ≠ 0 by omega)
        have hfs := Lib.hid (show fStep 0 (prF m) (prG b m ls) (outs 0 (prF m) (prG b m ls) rs k) ⟨⟨#[cc]⟩, 0, 0⟩ = ((cc.toNat : Int) - 97 + 1) % m by
          show prF m (letN ⟨#[cc]⟩) = _
          unfold prF; rw [letN_one, show (((cc.toNat - 97 : Nat) : Int)) = (cc.toNat : Int) - 97 by omega])
        have Hcc := Lib.hid hcc
        clear hcc
        have re := emod_in (a := (cc.toNat : Int) - 97 + 1) hm
        obtain ⟨re0, re1⟩ := re
        have u3 : IntKind.i64.wrap (((cc.toNat : Int) - 97 + 1) % m) = ((cc.toNat : Int) - 97 + 1) % m := IntWalk.i64_in _ (by omega)
        have u4 : ((cc.toNat : Int) - 97 + 1).tmod m = ((cc.toNat : Int) - 97 + 1) % m := Int.tmod_eq_emod_of_nonneg (by omega)
        go_wp2_with fail
        refine (l04Letter_any cc Hcc.out _).mono ?_
        rintro e w1 ⟨rfl, hb1'⟩
        have b1 := (hb.alloc hb.size _).trans (hb1'.mono (by have := hb.size; simp; omega))
        have own1 := Lib.hid (own_next (hown.out.alloc _) hb1')
        go_wp2_with
          (at_builtin
           refine wpList_push (w0 := w) rfl _ _ _ rfl w.heap.size 2 1 8 elem_int intE _ k c' (outs 0 (prF m) (prG b m ls) rs k) rfl (own1.out.alloc _) w1.heap.size (((cc.toNat : Int) - 97 + 1) % m) #[.int .i64 (((cc.toNat : Int) - 97 + 1) % m)] 2 (0, 0) rfl (heap_alloc_new _ _) rfl rfl (by simp [intE, Value.oneCell']) (by omega) (by omega) (by unfold maxLen; omega) rfl (b1.alloc b1.size _) ?_
           intro A9 c9 w9 own9 hg9 hat9 hb9
           have O9 := Lib.hid own9; clear own9)
        clear u3 u4
        go_roundw
        case rel =>
          refine ⟨k + 1, A9, c9, by go_num, rfl, by omega, Lib.hid ?_, hb9⟩
          rw [Hst.out, hfs.out]; exact O9.out
        case measure => simp [intOf]; omega
    · have e := Lib.hid (show outs 0 (prF m) (prG b m ls) rs k = prAll b m ls rs from outs_all 0 (prF m) (prG b m ls) rs k (by rw [hl.out]; omega))
      have e2 := Lib.hid (outs_len 0 (prF m) (prG b m ls) rs k (by rw [hl.out]; omega))
      go_wp2_with fail
      go_ret
      refine ⟨A', c', ret_slice (by rw [← e.out, e2.out]), ?_, hb⟩
      rw [← e.out, e2.out]
      exact hown.out
end Go.Proofs.Ytkknhpailohjcaa
