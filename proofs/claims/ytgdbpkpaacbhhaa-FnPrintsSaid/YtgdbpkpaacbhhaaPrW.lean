/-
  The statement FnPrints: for all bytes, the print of a word is that of its letters, of a join that of both parts, and that of a part is that of its grammar. No condition.
-/
import Derived.Test.YtgdbpkpaacbhhaaP7

namespace Go.Proofs.Ytgdbpkpaacbhhaa
open Go.ChangeShapes Go.WideShapes Go.ChangeAt Go.RowKit

theorem own_capX {w : World} {base n c : Nat} {e : TypeId} {sz : Nat} {A : Option Addr} {xs : List Value} (h : w.ownsRow base e sz (.slice A n c) n xs) : n ≤ c := by
  rcases h.2 with ⟨hv, _⟩ | ⟨g, cap, cur, hv, _, _, hnc, _⟩
  · injection hv with _ h1 h2
    omega
  · injection hv with _ _ h2
    omega
set_option maxHeartbeats 16000000 in
set_option maxRecDepth 100000 in
theorem walkPr (A : Option Addr) (n c : Nat) (zs : List Int) (D : Option Addr) (m d : Nat) (ys : List Int) (w : World)
    (hn : n ≤ maxLen) (hx : Rd w w.heap.size A n 1 (fun z => [.int .u8 z]) zs) (ox : ∀ z ∈ zs, 0 ≤ z ∧ z < 256) (hm : m ≤ maxLen) (hy : Rd w w.heap.size D m 1 (fun z => [.int .u8 z]) ys) (oy : ∀ z ∈ ys, 0 ≤ z ∧ z < 256) :
    Calls Try.prog 3 #[.slice A n c, .slice D m d] w (Ret (.bool true) w) := by
  by_cases h1 : 4096 < n
  · have h1' := Lib.hid (decide_eq_true h1)
    go_enter Try.func3, Try.ntmps3
    go_wp2_with fail
    refine (f6big_any A n c w hn true h1'.out).mono ?_
    rintro e w1 ⟨rfl, hb1⟩
    go_wp2_with fail
    go_ret
    exact ⟨rfl, hb1⟩
  by_cases h2 : 4096 < m
  · have h1' := Lib.hid (decide_eq_false h1)
    have h2' := Lib.hid (decide_eq_true h2)
    go_enter Try.func3, Try.ntmps3
    go_wp2_with fail
    refine (f6big_any A n c w hn false h1'.out).mono ?_
    rintro e w1 ⟨rfl, hb1⟩
    go_wp2_with fail
    refine (f6big_any D m d w1 hm true h2'.out).mono ?_
    rintro e w2 ⟨rfl, hb2⟩
    go_wp2_with fail
    go_ret
    exact ⟨rfl, hb1.trans (hb2.mono hb1.size)⟩
  have h1' := Lib.hid (decide_eq_false h1)
  have h2' := Lib.hid (decide_eq_false h2)
  have hbs := Lib.hid (hx.bytes ox)
  have hds := Lib.hid (hy.bytes oy)
  clear hx hy ox oy
  have hn4 : n ≤ 4096 := by omega
  have hm4 : m ≤ 4096 := by omega
  go_enter Try.func3, Try.ntmps3
  go_wp2_with fail
  refine (f6big_any A n c w hn false h1'.out).mono ?_
  rintro e w1 ⟨rfl, hb1⟩
  go_wp2_with fail
  refine (f6big_any D m d w1 hm false h2'.out).mono ?_
  rintro e w2 ⟨rfl, hb2⟩
  have b2 := Lib.hid (hb1.trans (hb2.mono hb1.size))
  clear hb1 hb2 h1 h2
  go_wp2_with fail
  refine (p6Grammar_any A n c _ w2 (by omega) (hbs.out.next b2.out)).mono ?_
  rintro e w3 ⟨A3, c3, rs, rfl, ok3, own3, hb3⟩
  have b3 := Lib.hid (b2.out.trans (hb3.mono b2.out.size))
  have R3 := Lib.hid (Rd.of_own (fun x _ => fac_len x) rfl own3)
  have hgo := Lib.hid ok3.gok
  have hwf := Lib.hid ok3.wf
  have hfew := ok3.few
  have hl8 := ok3.len
  have hp3 := ok3.pos
  have Z3 := Lib.hid (wf_sz ok3.wf)
  clear ok3 own3 hb3 b2
  go_wp2_with fail
  refine namedC fun w4 H4 => ?_
  have c4 := Lib.hid (show Below w3.heap.size w3 w4 by rw [H4.out]; (repeat first | exact Below.refl _ _ | assumption | refine Below.drew ?_ | refine Below.alloc ?_ (by first | exact Nat.le_refl _ | (simp; done) | omega | (simp; omega)) _ | refine Below.setCell ?_ (by first | exact Nat.le_refl _ | (simp; done) | omega | (simp; omega)) _))
  have BG4 := Lib.hid (show Blk w4 w3.heap.size 26 #[.slice A3 rs.length c3] by rw [H4.out]; exact Blk.new _ _ _)
  clear H4
  refine (p6Huge_any D m d _ w4 (by omega) (hds.out.next (b3.out.trans (c4.out.mono b3.out.size)))).mono ?_
  rintro e w5 ⟨A5, c5, hs, rfl, gi, hv, hb5⟩
  have c45 := Lib.hid (c4.out.trans (hb5.mono c4.out.size))
  have b5 := Lib.hid (b3.out.trans (c45.out.mono b3.out.size))
  have BG5 := Lib.hid (BG4.out.next hb5)
  have R5 := Lib.hid (Rd.of_own (fun x _ => fac_len x) rfl gi.own)
  have cap5 := own_capX gi.own
  have hgo5 := Lib.hid gi.ok
  have hwf5 := Lib.hid gi.wf
  have hp5 := gi.pos
  have Z5 := Lib.hid (wf_sz gi.wf)
  have hn5 : hs.length ≤ 400 := by obtain ⟨_, _, h, _⟩ := big_lens gi.ok; exact h
  clear gi hb5 c4 BG4
  have e3 := Lib.hid (fun W (h : Below w5.heap.size w5 W) => c45.out.trans (h.mono c45.out.size))
  have bw := Lib.hid (fun W (h : Below w5.heap.size w5 W) => b5.out.trans (h.mono b5.out.size))
  have PK1 := Lib.hid (fun W (h : Below w5.heap.size w5 W) (z k : Int) => p6Pick_any D m d _ z k W hm4 (hds.out.next (bw.out W h)))
  have PK2 := Lib.hid (fun W (h : Below w5.heap.size w5 W) (z k : Int) => p6Pick_any A n c _ z k W hn4 (hbs.out.next (bw.out W h)))
  clear hbs hds
  go_wp2_with fail
  refine namedC fun w6 H6 => ?_
  have c6 := Lib.hid (show Below w5.heap.size w5 w6 by rw [H6.out]; (repeat first | exact Below.refl _ _ | assumption | refine Below.drew ?_ | refine Below.alloc ?_ (by first | exact Nat.le_refl _ | (simp; done) | omega | (simp; omega)) _ | refine Below.setCell ?_ (by first | exact Nat.le_refl _ | (simp; done) | omega | (simp; omega)) _))
  have BG6 := Lib.hid (show Blk w6 w3.heap.size 26 #[.slice A3 rs.length c3] by rw [H6.out]; exact BG5.out.alloc _)
  have BH6 := Lib.hid (show Blk w6 w5.heap.size 26 #[.slice A5 hs.length c5] by rw [H6.out]; exact Blk.new _ _ _)
  clear H6 BG5
  refine (PK1.out w6 c6.out 999999000 999999000 (by omega) (by omega)).mono ?_
  rintro e w7 ⟨v0, rfl, v00, v01, hb7⟩
  have c7 := Lib.hid (c6.out.trans (hb7.mono c6.out.size))
  have BG7 := Lib.hid (BG6.out.next hb7)
  have BH7 := Lib.hid (BH6.out.next hb7)
  clear c6 BG6 BH6 hb7
  have uv : IntKind.i64.wrap (2 + v0) = 2 + v0 := IntWalk.i64_in _ (by omega)
  go_wp2_with fail
  clear uv
  obtain ⟨M, hM⟩ : ∃ M, 2 + v0 = M := ⟨_, rfl⟩
  rw [hM]
  have M0 : 2 ≤ M := by omega
  have M1 : M ≤ 999999001 := by omega
  clear hM v00 v01
  refine (PK2.out w7 c7.out M M (by omega) (by omega)).mono ?_
  rintro e w8 ⟨B, rfl, B0, B1, hb8⟩
  have c8 := Lib.hid (c7.out.trans (hb8.mono c7.out.size))
  have BG8 := Lib.hid (BG7.out.next hb8)
  have BH8 := Lib.hid (BH7.out.next hb8)
  clear c7 BG7 BH7 hb8
  -- what is called
  obtain ⟨ls3, hls3⟩ := Option.isSome_iff_exists.1 hgo.out
  have UW := Lib.hid (fun W (h : Below w5.heap.size w5 W) => unpackWord_any A3 rs.length c3 rs ls3 W (R3.out.next (e3.out W h)) Z3.out hls3 (by omega))
  have PG := Lib.hid (fun W (h : Below w5.heap.size w5 W) => implPrint_any A3 rs.length c3 rs B M W (by omega) (R3.out.next (e3.out W h)) Z3.out (by omega) (by omega))
  have PH := Lib.hid (fun W (h : Below w5.heap.size w5 W) => implPrint_any A5 hs.length c5 hs B M W (by omega) (R5.out.next h) Z5.out (by omega) (by omega))
  have JG := Lib.hid (fun W (h : Below w5.heap.size w5 W) => joinG_any A3 rs.length c3 rs A5 hs.length c5 hs W hp3 hp5 (R3.out.next (e3.out W h)) (R5.out.next h) hwf.out hwf5.out hgo.out hgo5.out)
  have FL := Lib.hid (fun W (h : Below w5.heap.size w5 W) => f6length_any A5 hs.length c5 hs W (R5.out.next h) hgo5.out)
  have PA := Lib.hid (fun W (h : Below w5.heap.size w5 W) (i j : Int) => partG_any A5 hs.length c5 hs i j W (R5.out.next h) cap5 hgo5.out)
  have PP := Lib.hid (fun W (h : Below w5.heap.size w5 W) (i j : Int) (hi : 0 ≤ i) (hij : i ≤ j) (hj : j ≤ (wdN hs).length) => implPrintP_any A5 hs.length c5 hs i j B M W (by omega) (R5.out.next h) Z5.out (by omega) (by omega) (by omega) (by omega))
  have PPV := Lib.hid (fun (i j : Int) (hi : 0 ≤ i) (hij : i ≤ j) (hj : j ≤ (wdN hs).length) => printpV_word (b := B) (m := M) hgo5.out (by omega) (by omega) B0 B1 hi hij hj)
  have PTW := Lib.hid (fun (i j : Int) (hi : 0 ≤ i) (hij : i ≤ j) (hj : j ≤ (wdN hs).length) => pt_word hgo5.out hi hij hj)
  have PN := Lib.hid (fun (A : Option Addr) (c : Nat) (J : List Fac) (W : World) (hj : J.length ≤ 1048576) (hr : Rd W W.heap.size A J.length 3 Fac.cells J) (hw : WF J) (hg : (gOk J).isSome = true) => by
    have h := implPrint_any A J.length c J B M W hj hr (wf_sz hw) (by omega) (by omega)
    rw [printV_word hg (by omega) (by omega) B0 B1] at h
    exact h)
  have JW := Lib.hid (And.intro (join_wf hwf.out hwf5.out) (And.intro (join_word hwf.out hwf5.out) (join_len (gs := rs) (hs := hs) (by omega) (by omega))))
  rw [printV_word hgo.out (by omega) (by omega) B0 B1] at PG
  rw [printV_word hgo5.out (by omega) (by omega) B0 B1] at PH
  unfold tup2 at PG PH PPV PN
  have HU4 := Lib.hid (wdN_let hwf.out)
  clear hls3 hgo hwf R3 R5 hgo5 hwf5 Z3 Z5
  generalize joinL rs hs = J at *
  generalize wdN rs = u at *
  generalize wdN hs = v at *
  have hx := Lib.hid (prW_in (b := B) (show 1 ≤ M by omega) u)
  have hyv := prW_in (b := B) (show 1 ≤ M by omega) v
  have Hsn := Lib.hid (fun (i : Nat) (hi : i < u.length) => show prW B M (u.take (i + 1)) = (prW B M (u.take i) + ((u.getD i 0 : Int) + 1) * pw B M i) % M by
    rw [List.take_succ_eq_append_getElem hi, prW_snoc (by omega), List.length_take, Nat.min_eq_left (by omega), List.getD_eq_getElem?_getD, List.getElem?_eq_getElem hi]; rfl)
  have Hap := Lib.hid (prW_app (b := B) (m := M) (by omega) u v)
  have g0 := BG8.out.cell 0
  have gl := BG8.out.lt
  go_wp2_with fail
  refine (UW.out w8 c8.out).mono ?_
  rintro e w9 ⟨rfl, hb9⟩
  have c9 := Lib.hid (c8.out.trans (hb9.mono c8.out.size))
  have BG9 := Lib.hid (BG8.out.next hb9)
  have BH9 := Lib.hid (BH8.out.next hb9)
  clear c8 BG8 BH8 hb9 UW g0 gl
  have g0 := BG9.out.cell 0
  have gl := BG9.out.lt
  go_wp2_with fail
  refine (PG.out w9 c9.out).mono ?_
  rintro e w10 ⟨rfl, hb10⟩
  have c10 := Lib.hid (c9.out.trans (hb10.mono c9.out.size))
  have BG10 := Lib.hid (BG9.out.next hb10)
  have BH10 := Lib.hid (BH9.out.next hb10)
  clear c9 BG9 BH9 hb10 PG g0 gl
  have Hs := Lib.hid (tx_at u HU4.out)
  have hsz := tx_size u
  generalize tx u = x at *
  have HX := Lib.hid hsz
  have hx8 : x.size ≤ 8 := by omega
  clear hsz
  go_wp2_with fail
  go_loopw [13, 14, 15] (fun s_ p_ i_ w' => ∃ i : Nat, i_ = .int .i64 i ∧ s_ = .int .i64 (prW B M (u.take i)) ∧ p_ = .int .i64 (pw B M i) ∧ i ≤ x.size ∧ Hid (Below w10.heap.size w10 w')) (fun _ _ i_ _ => x.size - (intOf i_).toNat)
  case atStart => exact ⟨0, rfl, rfl, by rw [show pw B M 0 = 1 % M from rfl, emod_id (by omega) (by omega)], by omega, Lib.hid (Below.refl _ _)⟩
  case round =>
    obtain ⟨i, rfl, rfl, rfl, hi, hw1⟩ := hrel
    by_cases hlt : i < x.size
    · have hil : i < u.length := by rw [← HX.out]; exact hlt
      have i0 : (0 : Int) ≤ (i : Int) := by omega
      have i1 : (i : Int) < (x.size : Int) := by omega
      obtain ⟨hbi, hv4⟩ := Hs.out i hlt
      have hsn := Lib.hid (Hsn.out i hil)
      have s0 := prW_in (b := B) (show 1 ≤ M by omega) (u.take i)
      have q0 := pw_in (b := B) (show 1 ≤ M by omega) i
      have hpn : pw B M (i + 1) = pw B M i * B % M := rfl
      have HPN := Lib.hid hpn
      clear hpn
      generalize u.getD i 0 = vi at *
      generalize hsnE : prW B M (u.take (i + 1)) = sn at *
      generalize prW B M (u.take i) = so at *
      generalize hpnE : pw B M (i + 1) = pn at *
      generalize pw B M i = po at *
      obtain ⟨s00, s01⟩ := s0
      obtain ⟨q00, q01⟩ := q0
      have ub : IntKind.u8.wrap ((97 : Int) + (vi : Int) - 97) = (vi : Int) := by rw [IntKind.wrap_u8]; omega
      have ub2 : IntKind.u8.wrap ((vi : Int) + 1) = (vi : Int) + 1 := by rw [IntKind.wrap_u8]; omega
      have z0 := mul_b (a := (vi : Int) + 1) (b := po) (by omega) (by omega) q00 (by omega)
      have z5 : ((vi : Int) + 1) * po ≤ 5000000000 := by
        have h := Int.mul_le_mul (show (vi : Int) + 1 ≤ 5 by omega) (show po ≤ 1000000000 by omega) q00 (by decide)
        exact Int.le_trans h (by decide)
      have z1 := mul_b (a := po) (b := B) q00 (by omega) B0 (by omega)
      obtain ⟨z00, z01⟩ := z0
      obtain ⟨z10, z11⟩ := z1
      have um1 : IntKind.i64.wrap (((vi : Int) + 1) * po) = ((vi : Int) + 1) * po := IntWalk.i64_in _ (by omega)
      have um2 : IntKind.i64.wrap (so + ((vi : Int) + 1) * po) = so + ((vi : Int) + 1) * po := IntWalk.i64_in _ (by omega)
      have um3 : IntKind.i64.wrap (po * B) = po * B := IntWalk.i64_in _ (by omega)
      have mne : ¬ (M = 0) := by omega
      go_wp2_with fail
      go_roundw
      case rel => exact ⟨i + 1, by go_num, by rw [hsnE, hsn.out], by rw [hpnE, HPN.out], by omega, hw1⟩
      case measure => simp [intOf]; omega
    · obtain rfl : i = x.size := by omega
      have et : u.take x.size = u := List.take_of_length_le (by rw [HX.out]; omega)
      have hxu := hx.out
      rw [et, show pw B M x.size = pw B M u.length by rw [HX.out]]
      have c11 := Lib.hid (c10.out.trans (hw1.out.mono c10.out.size))
      have BG11 := Lib.hid (BG10.out.next hw1.out)
      have BH11 := Lib.hid (BH10.out.next hw1.out)
      have hpp := pw_in (b := B) (show 1 ≤ M by omega) u.length
      have Jw := Lib.hid JW.out.2.1
      have hJ := JW.out.2.2
      generalize prW B M u = xv at *
      generalize prW B M v = yv at *
      generalize pw B M u.length = pp at *
      have y0 := hyv.1
      have y1 := hyv.2
      have y2 : ¬ (M ≤ yv) := by omega
      clear et c10 BG10 BH10 hw1 Hsn hyv
      have g0 := BH11.out.cell 0
      have gl := BH11.out.lt
      go_wp2_with fail
      refine (PH.out _ c11.out).mono ?_
      rintro e w12 ⟨rfl, hb12⟩
      have c12 := Lib.hid (c11.out.trans (hb12.mono c11.out.size))
      have BG12 := Lib.hid (BG11.out.next hb12)
      have BH12 := Lib.hid (BH11.out.next hb12)
      clear c11 BG11 BH11 hb12 g0 gl PH
      have g0 := BG12.out.cell 0
      have gl := BG12.out.lt
      have k0 := BH12.out.cell 0
      have kl := BH12.out.lt
      unfold RetGC at JG
      go_wp2_with fail
      rcases hok : (gOk J).isSome with _ | _
      · have hF : limF J = [] := by unfold limF; rw [hok]; rfl
        have hC : limC J = 3 := by unfold limC; rw [hok]; rfl
        rw [hF, hC] at JG
        refine (JG.out w12 c12.out).mono ?_
        rintro e w13 ⟨A13, c13', rfl, _, hb13⟩
        have c13 := Lib.hid (c12.out.trans (hb13.mono c12.out.size))
        have BH13 := Lib.hid (BH12.out.next hb13)
        clear c12 BG12 BH12 hb13 g0 gl k0 kl
        have g0 := BH13.out.cell 0
        have gl := BH13.out.lt
        go_wp2_with fail
        refine namedC fun w14 H14 => ?_
        have c14 := Lib.hid (show Below w5.heap.size w5 w14 by rw [H14.out]; exact c13.out.alloc c13.out.size _)
        have BH14 := Lib.hid (show Blk w14 w5.heap.size 26 #[.slice A5 hs.length c5] by rw [H14.out]; exact BH13.out.alloc _)
        clear H14 c13 BH13
        clear hok hF hC
        refine (FL.out w14 c14.out).mono ?_
        rintro e w20 ⟨rfl, hb20⟩
        have c20 := Lib.hid (c14.out.trans (hb20.mono c14.out.size))
        have BH20 := Lib.hid (BH14.out.next hb20)
        have un1 : IntKind.i64.wrap ((v.length : Int) + 1) = (v.length : Int) + 1 := IntWalk.i64_in _ (by omega)
        clear c14 BH14 hb20 g0 gl
        go_wp2_with fail
        refine (PK1.out w20 c20.out ((v.length : Int) + 1) ((v.length : Int) + 1) (by omega) (by omega)).mono ?_
        rintro e w21 ⟨i, rfl, i0, i1, hb21⟩
        have c21 := Lib.hid (c20.out.trans (hb21.mono c20.out.size))
        have BH21 := Lib.hid (BH20.out.next hb21)
        clear c20 BH20 hb21 un1
        have un2 : IntKind.i64.wrap ((v.length : Int) - i) = (v.length : Int) - i := IntWalk.i64_in _ (by omega)
        have un3 : IntKind.i64.wrap ((v.length : Int) - i + 1) = (v.length : Int) - i + 1 := IntWalk.i64_in _ (by omega)
        go_wp2_with fail
        refine (PK2.out w21 c21.out ((v.length : Int) - i + 1) ((v.length : Int) - i + 1) (by omega) (by omega)).mono ?_
        rintro e w22 ⟨q, rfl, q0, q1, hb22⟩
        have c22 := Lib.hid (c21.out.trans (hb22.mono c21.out.size))
        have BH22 := Lib.hid (BH21.out.next hb22)
        clear c21 BH21 hb22 un2 un3
        have un4 : IntKind.i64.wrap (i + q) = i + q := IntWalk.i64_in _ (by omega)
        have g0 := BH22.out.cell 0
        have gl := BH22.out.lt
        obtain ⟨j, hj⟩ : ∃ j, i + q = j := ⟨_, rfl⟩
        skip
        have ij : i ≤ j := by omega
        have jn : j ≤ (v.length : Int) := by omega
        have PA1 := Lib.hid (fun W h => PA.out W h i j i0 ij jn)
        have PP1 := Lib.hid (fun W h => PP.out W h i j i0 ij jn)
        rw [PPV.out i j i0 ij jn] at PP1
        obtain ⟨ptw, ptu, ptl⟩ := PTW.out i j i0 ij jn
        have HPU := Lib.hid ptu
        have HPT := Lib.hid ptw
        unfold RetGC at PA1
        clear ptu ptw
        generalize ptL hs i j = T at *
        generalize (List.take j.toNat v).drop i.toNat = tv at *
        go_wp2_with fail
        clear hj un4
        rcases hok : (gOk T).isSome with _ | _
        · have hF : limF T = [] := by unfold limF; rw [hok]; rfl
          have hC : limC T = 3 := by unfold limC; rw [hok]; rfl
          rw [hF, hC] at PA1
          refine (PA1.out w22 c22.out).mono ?_
          rintro e w23 ⟨A23, c23', rfl, _, hb23⟩
          have c23 := Lib.hid (c22.out.trans (hb23.mono c22.out.size))
          have BH23 := Lib.hid (BH22.out.next hb23)
          clear c22 BH22 hb23 g0 gl
          have g0 := BH23.out.cell 0
          have gl := BH23.out.lt
          go_wp2_with fail
          refine namedC fun w24 H24 => ?_
          have c24 := Lib.hid (show Below w5.heap.size w5 w24 by rw [H24.out]; exact c23.out.alloc c23.out.size _)
          clear H24
          refine (PP1.out w24 c24.out).mono ?_
          rintro e w25 ⟨rfl, hb25⟩
          have c25 := Lib.hid (c24.out.trans (hb25.mono c24.out.size))
          go_wp2_with fail
          go_ret
          exact ⟨rfl, bw.out _ c25.out⟩
        · have hF : limF T = T := by unfold limF; rw [hok]; rfl
          have hC : limC T = 0 := by unfold limC; rw [hok]; rfl
          rw [hF, hC] at PA1
          refine (PA1.out w22 c22.out).mono ?_
          rintro e w23 ⟨A23, c23', rfl, own23, hb23⟩
          have c23 := Lib.hid (c22.out.trans (hb23.mono c22.out.size))
          have BH23 := Lib.hid (BH22.out.next hb23)
          have O23 := Lib.hid own23
          clear c22 BH22 hb23 g0 gl own23
          have g0 := BH23.out.cell 0
          have gl := BH23.out.lt
          go_wp2_with fail
          refine namedC fun w24 H24 => ?_
          have c24 := Lib.hid (show Below w5.heap.size w5 w24 by rw [H24.out]; exact c23.out.alloc c23.out.size _)
          have BT24 := Lib.hid (show Blk w24 w23.heap.size 26 #[.slice A23 T.length c23'] by rw [H24.out]; exact Blk.new _ _ _)
          have O24 := Lib.hid (show w24.ownsRow w22.heap.size 82 3 (.slice A23 T.length c23') T.length (T.flatMap Fac.cells) by rw [H24.out]; exact O23.out.alloc _)
          clear H24 O23
          refine (PP1.out w24 c24.out).mono ?_
          rintro e w25 ⟨rfl, hb25⟩
          have c25 := Lib.hid (c24.out.trans (hb25.mono c24.out.size))
          have BT25 := Lib.hid (BT24.out.next hb25)
          have R25 := Lib.hid (Rd.of_own (fun x _ => fac_len x) rfl (own_next O24.out hb25))
          clear c24 BT24 O24 hb25 g0 gl
          have g0 := BT25.out.cell 0
          have gl := BT25.out.lt
          have PT := PN.out A23 c23' T w25 (by omega) R25.out HPT.out hok
          rw [HPU.out] at PT
          have PTH := Lib.hid PT
          clear PT hok hF hC
          go_wp2_with fail
          refine PTH.out.mono ?_
          rintro e w26 ⟨rfl, hb26⟩
          have c26 := Lib.hid (c25.out.trans (hb26.mono c25.out.size))
          go_wp2_with fail
          go_ret
          exact ⟨rfl, bw.out _ c26.out⟩
      · have hF : limF J = J := by unfold limF; rw [hok]; rfl
        have hC : limC J = 0 := by unfold limC; rw [hok]; rfl
        rw [hF, hC] at JG
        refine (JG.out w12 c12.out).mono ?_
        rintro e w13 ⟨A13, c13', rfl, own13, hb13⟩
        have c13 := Lib.hid (c12.out.trans (hb13.mono c12.out.size))
        have BH13 := Lib.hid (BH12.out.next hb13)
        have R13 := Lib.hid (Rd.of_own (fun x _ => fac_len x) rfl (own13.alloc (.cells #[.slice A13 J.length c13'] 26)))
        have PJ := PN.out A13 c13' J _ (by omega) R13.out JW.out.1 hok
        rw [Jw.out, Hap.out] at PJ
        have PJH := Lib.hid PJ
        have z1 := mul_b (a := pp) (b := yv) hpp.1 (by omega) y0 (by omega)
        obtain ⟨z10, z11⟩ := z1
        obtain ⟨x0, x1⟩ := hxu
        have um1 : IntKind.i64.wrap (pp * yv) = pp * yv := IntWalk.i64_in _ (by omega)
        have um2 : IntKind.i64.wrap (xv + pp * yv) = xv + pp * yv := IntWalk.i64_in _ (by omega)
        have mne : ¬ (M = 0) := by omega
        clear PJ c12 BG12 BH12 own13 hb13 g0 gl k0 kl hok hF hC R13
        go_wp2_with fail
        refine PJH.out.mono ?_
        rintro e w14 ⟨rfl, hb14⟩
        have c14 := Lib.hid ((c13.out.alloc c13.out.size (.cells #[.slice A13 J.length c13'] 26)).trans (hb14.mono (by have := c13.out.size; simp; omega)))
        have BH14 := Lib.hid ((BH13.out.alloc (.cells #[.slice A13 J.length c13'] 26)).next hb14)
        clear c13 BH13 hb14 PJH
        have g0 := BH14.out.cell 0
        have gl := BH14.out.lt
        go_wp2_with fail
        refine (FL.out w14 c14.out).mono ?_
        rintro e w20 ⟨rfl, hb20⟩
        have c20 := Lib.hid (c14.out.trans (hb20.mono c14.out.size))
        have BH20 := Lib.hid (BH14.out.next hb20)
        have un1 : IntKind.i64.wrap ((v.length : Int) + 1) = (v.length : Int) + 1 := IntWalk.i64_in _ (by omega)
        clear c14 BH14 hb20 g0 gl
        go_wp2_with fail
        refine (PK1.out w20 c20.out ((v.length : Int) + 1) ((v.length : Int) + 1) (by omega) (by omega)).mono ?_
        rintro e w21 ⟨i, rfl, i0, i1, hb21⟩
        have c21 := Lib.hid (c20.out.trans (hb21.mono c20.out.size))
        have BH21 := Lib.hid (BH20.out.next hb21)
        clear c20 BH20 hb21 un1
        have un2 : IntKind.i64.wrap ((v.length : Int) - i) = (v.length : Int) - i := IntWalk.i64_in _ (by omega)
        have un3 : IntKind.i64.wrap ((v.length : Int) - i + 1) = (v.length : Int) - i + 1 := IntWalk.i64_in _ (by omega)
        go_wp2_with fail
        refine (PK2.out w21 c21.out ((v.length : Int) - i + 1) ((v.length : Int) - i + 1) (by omega) (by omega)).mono ?_
        rintro e w22 ⟨q, rfl, q0, q1, hb22⟩
        have c22 := Lib.hid (c21.out.trans (hb22.mono c21.out.size))
        have BH22 := Lib.hid (BH21.out.next hb22)
        clear c21 BH21 hb22 un2 un3
        have un4 : IntKind.i64.wrap (i + q) = i + q := IntWalk.i64_in _ (by omega)
        have g0 := BH22.out.cell 0
        have gl := BH22.out.lt
        obtain ⟨j, hj⟩ : ∃ j, i + q = j := ⟨_, rfl⟩
        skip
        have ij : i ≤ j := by omega
        have jn : j ≤ (v.length : Int) := by omega
        have PA1 := Lib.hid (fun W h => PA.out W h i j i0 ij jn)
        have PP1 := Lib.hid (fun W h => PP.out W h i j i0 ij jn)
        rw [PPV.out i j i0 ij jn] at PP1
        obtain ⟨ptw, ptu, ptl⟩ := PTW.out i j i0 ij jn
        have HPU := Lib.hid ptu
        have HPT := Lib.hid ptw
        unfold RetGC at PA1
        clear ptu ptw
        generalize ptL hs i j = T at *
        generalize (List.take j.toNat v).drop i.toNat = tv at *
        go_wp2_with fail
        clear hj un4
        rcases hok : (gOk T).isSome with _ | _
        · have hF : limF T = [] := by unfold limF; rw [hok]; rfl
          have hC : limC T = 3 := by unfold limC; rw [hok]; rfl
          rw [hF, hC] at PA1
          refine (PA1.out w22 c22.out).mono ?_
          rintro e w23 ⟨A23, c23', rfl, _, hb23⟩
          have c23 := Lib.hid (c22.out.trans (hb23.mono c22.out.size))
          have BH23 := Lib.hid (BH22.out.next hb23)
          clear c22 BH22 hb23 g0 gl
          have g0 := BH23.out.cell 0
          have gl := BH23.out.lt
          go_wp2_with fail
          refine namedC fun w24 H24 => ?_
          have c24 := Lib.hid (show Below w5.heap.size w5 w24 by rw [H24.out]; exact c23.out.alloc c23.out.size _)
          clear H24
          refine (PP1.out w24 c24.out).mono ?_
          rintro e w25 ⟨rfl, hb25⟩
          have c25 := Lib.hid (c24.out.trans (hb25.mono c24.out.size))
          go_wp2_with fail
          go_ret
          exact ⟨rfl, bw.out _ c25.out⟩
        · have hF : limF T = T := by unfold limF; rw [hok]; rfl
          have hC : limC T = 0 := by unfold limC; rw [hok]; rfl
          rw [hF, hC] at PA1
          refine (PA1.out w22 c22.out).mono ?_
          rintro e w23 ⟨A23, c23', rfl, own23, hb23⟩
          have c23 := Lib.hid (c22.out.trans (hb23.mono c22.out.size))
          have BH23 := Lib.hid (BH22.out.next hb23)
          have O23 := Lib.hid own23
          clear c22 BH22 hb23 g0 gl own23
          have g0 := BH23.out.cell 0
          have gl := BH23.out.lt
          go_wp2_with fail
          refine namedC fun w24 H24 => ?_
          have c24 := Lib.hid (show Below w5.heap.size w5 w24 by rw [H24.out]; exact c23.out.alloc c23.out.size _)
          have BT24 := Lib.hid (show Blk w24 w23.heap.size 26 #[.slice A23 T.length c23'] by rw [H24.out]; exact Blk.new _ _ _)
          have O24 := Lib.hid (show w24.ownsRow w22.heap.size 82 3 (.slice A23 T.length c23') T.length (T.flatMap Fac.cells) by rw [H24.out]; exact O23.out.alloc _)
          clear H24 O23
          refine (PP1.out w24 c24.out).mono ?_
          rintro e w25 ⟨rfl, hb25⟩
          have c25 := Lib.hid (c24.out.trans (hb25.mono c24.out.size))
          have BT25 := Lib.hid (BT24.out.next hb25)
          have R25 := Lib.hid (Rd.of_own (fun x _ => fac_len x) rfl (own_next O24.out hb25))
          clear c24 BT24 O24 hb25 g0 gl
          have g0 := BT25.out.cell 0
          have gl := BT25.out.lt
          have PT := PN.out A23 c23' T w25 (by omega) R25.out HPT.out hok
          rw [HPU.out] at PT
          have PTH := Lib.hid PT
          clear PT hok hF hC
          go_wp2_with fail
          refine PTH.out.mono ?_
          rintro e w26 ⟨rfl, hb26⟩
          have c26 := Lib.hid (c25.out.trans (hb26.mono c25.out.size))
          go_wp2_with fail
          go_ret
          exact ⟨rfl, bw.out _ c26.out⟩
set_option maxRecDepth 100000 in
theorem fnPrints_contract (H : Type) (enc : TypeId × Value → H) (W : World) (base : Nat) (args : Array Value) (ds gs : List (DataW H)) (before : List MemPlace)
    (hval : ∀ (j : Nat) t v, Try.f3.params[j]? = some t → args[j]? = some v → Value.okWide Try.prog W .any base t v)
    (hW : DataW.Whole enc Try.prog Try.f3.params.toList Rows.fnPrintsSpec.vars false W args.toList ds gs before) :
    Calls Try.prog 3 args W fun e W' => ∃ v, e = .returned v ∧ Rows.fnPrintsSpec.post enc Try.prog Try.f3 false true false false W args v W' := by
  have hW' := hW
  obtain ⟨p, q, hA0, hV, rfl, hfz, hnd⟩ := hW
  have hA : DataW.TrodAll enc Try.prog W 0 (fun _ => true) true Try.f3.params.toList args.toList ds p := hA0
  rw [Try.params3] at hA hval
  obtain ⟨v0, vs0, d0, ds0, p0, q0, hargs, rfl, rfl, h0, r0⟩ := trodAll_cons hA
  obtain ⟨v1, vs1, d1, ds1, p1, q1, rfl, rfl, rfl, h1, r1⟩ := trodAll_cons r0
  obtain ⟨rfl, rfl, rfl⟩ := trodAll_nil r1
  obtain rfl : args = #[v0, v1] := by cases args; simp_all
  obtain ⟨rfl, rfl⟩ := trodVars_none hV
  obtain ⟨A0, n0, c0, zs0, rfl, hn0, rd0, ok0⟩ := open_bytes Try.underlying22 Try.underlying5 (by kernel_rfl) (hval 0 22 v0 rfl rfl) h0
  obtain ⟨A1, n1, c1, zs1, rfl, hn1, rd1, ok1⟩ := open_bytes Try.underlying22 Try.underlying5 (by kernel_rfl) (hval 1 22 v1 rfl rfl) h1
  clear hA0
  refine (walkPr A0 n0 c0 zs0 A1 n1 c1 zs1 W hn0 rd0 ok0 hn1 rd1 ok1).mono fun e W' ⟨he, hb⟩ => ?_
  subst he
  exact ⟨_, rfl, law_post laidOut hW' rfl 4 Try.underlying4 (by kernel_rfl) (by rw [Try.params3]; intro t ht; simp at ht; first | (subst ht; exact ⟨by kernel_rfl, of_decide_eq_true (by kernel_rfl)⟩) | (rcases ht with rfl | rfl <;> exact ⟨by kernel_rfl, of_decide_eq_true (by kernel_rfl)⟩) | (rcases ht with rfl | rfl | rfl <;> exact ⟨by kernel_rfl, of_decide_eq_true (by kernel_rfl)⟩) | (rcases ht with rfl | rfl | rfl | rfl <;> exact ⟨by kernel_rfl, of_decide_eq_true (by kernel_rfl)⟩)) rfl hb⟩

set_option maxRecDepth 100000 in
theorem fnPrints_lifted (os : Os) (started : os.Started) (H : Type) (enc : TypeId × Value → H) :
    ReturnsInHanded {} Try.checked os 3 .any (Rows.fnPrintsSpec.pre6 enc Try.prog Try.f3 Rows.fnPrintsRow.domain false) (Rows.fnPrintsSpec.post enc Try.prog Try.f3 false true false false) := by
  refine returnsInHanded_of_change (C := Try.checked) own started (by kernel_rfl) Try.func3
    (ChangeSpec.witness6 (enc := enc) (C := Try.checked) false ⟨#[], #[.slice none 0 0, .slice none 0 0], []⟩ 8 (by kernel_rfl) (by kernel_rfl) (by kernel_rfl) (by kernel_rfl)) ?_
  intro W base args ds gs before hval0 hW hcnd _
  exact fnPrints_contract H enc W base args ds gs before hval0 hW

theorem fnPrints_holds : Rows.FnPrintsSaid :=
  OpenClaim.holds_of_wide 3 Try.f3 rfl rfl rfl rfl rfl rfl rfl ⟨rfl, rfl, rfl, rfl, rfl⟩ rfl rfl rfl rfl rfl (by as_aux_lemma => kernel_rfl) Try.func3
    (joined_mk (by as_aux_lemma => kernel_rfl) laidOut mapsRowed' (by as_aux_lemma => kernel_rfl) (by as_aux_lemma => kernel_rfl) (by as_aux_lemma => kernel_rfl) (by as_aux_lemma => kernel_rfl) (by as_aux_lemma => kernel_rfl) (by as_aux_lemma => kernel_rfl) plainKeys' rfl heard' mayEnter' lifts' make' (by as_aux_lemma => kernel_rfl))
    (of_decide_eq_true (by kernel_rfl)) (by unfold Func.isWrapper; first | (rw [if_pos (by decide +kernel)]; kernel_rfl) | (rw [if_neg (by decide +kernel)]; exact ⟨rfl, rfl⟩))
    (fun os started H enc _ => fnPrints_lifted os started H enc)

end Go.Proofs.Ytgdbpkpaacbhhaa
