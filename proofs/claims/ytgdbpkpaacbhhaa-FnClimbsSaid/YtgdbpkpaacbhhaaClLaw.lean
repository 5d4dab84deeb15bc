/-
  The statement FnClimbs: for all bytes, heights behind some letters are those of the part, the least and the greatest are reached and never passed, and a height is below a bound for the first time where this is told. No condition.
-/
import Derived.Test.YtgdbpkpaacbhhaaP7

namespace Go.Proofs.Ytgdbpkpaacbhhaa
open Go.ChangeShapes Go.WideShapes Go.ChangeAt Go.RowKit

/-- the last and the least height of a word -/
def cloT0 (zs : List Int) (u : List Nat) : Int × Int := (ht zs u, lo zs u)
set_option maxHeartbeats 16000000 in
set_option maxRecDepth 100000 in
theorem walkCl (A : Option Addr) (n c : Nat) (zs0 : List Int) (D : Option Addr) (m d : Nat) (ys : List Int) (w : World)
    (hn : n ≤ maxLen) (hx : Rd w w.heap.size A n 1 (fun z => [.int .u8 z]) zs0) (ox : ∀ z ∈ zs0, 0 ≤ z ∧ z < 256) (hm : m ≤ maxLen) (hy : Rd w w.heap.size D m 1 (fun z => [.int .u8 z]) ys) (oy : ∀ z ∈ ys, 0 ≤ z ∧ z < 256) :
    Calls Try.prog 5 #[.slice A n c, .slice D m d] w (Ret (.bool true) w) := by
  by_cases h1 : 4096 < n
  · have h1' := Lib.hid (decide_eq_true h1)
    go_enter Try.func5, Try.ntmps5
    go_wp2_with fail
    refine (f6big_any A n c w hn true h1'.out).mono ?_
    rintro e w1 ⟨rfl, hb1⟩
    go_wp2_with fail
    go_ret
    exact ⟨rfl, hb1⟩
  by_cases h2 : 4096 < m
  · have h1' := Lib.hid (decide_eq_false h1)
    have h2' := Lib.hid (decide_eq_true h2)
    go_enter Try.func5, Try.ntmps5
    go_wp2_with fail
    refine (f6big_any A n c w hn false h1'.out).mono ?_
    rintro e w1 ⟨rfl, hb1⟩
    go_wp2_with fail
    refine (f6big_any D m d w1 hm true h2'.out).mono ?_
    rintro e w2 ⟨rfl, hb2⟩
    go_wp2_with fail
    go_ret
    exact ⟨rfl, hb1.trans (hb2.mono hb1.size)⟩
  have h1' := Lib.hid (decide_eq_false h1)
  have h2' := Lib.hid (decide_eq_false h2)
  have hbs := Lib.hid (hx.bytes ox)
  have hds := Lib.hid (hy.bytes oy)
  clear hx hy ox oy
  have hn4 : n ≤ 4096 := by omega
  have hm4 : m ≤ 4096 := by omega
  go_enter Try.func5, Try.ntmps5
  go_wp2_with fail
  refine (f6big_any A n c w hn false h1'.out).mono ?_
  rintro e w1 ⟨rfl, hb1⟩
  go_wp2_with fail
  refine (f6big_any D m d w1 hm false h2'.out).mono ?_
  rintro e w2 ⟨rfl, hb2⟩
  have b2 := Lib.hid (hb1.trans (hb2.mono hb1.size))
  clear hb1 hb2 h1 h2
  go_wp2_with fail
  refine (p6Huge_any A n c _ w2 (by omega) (hbs.out.next b2.out)).mono ?_
  rintro e w3 ⟨A3, c3, rs, rfl, gi, hu, hb3⟩
  have b3 := Lib.hid (b2.out.trans (hb3.mono b2.out.size))
  have R3 := Lib.hid (Rd.of_own (fun x _ => fac_len x) rfl gi.own)
  have cap3 := own_cap gi.own
  have hgo := Lib.hid gi.ok
  have hwf := Lib.hid gi.wf
  have Z3 := Lib.hid (wf_sz gi.wf)
  have hn3 : rs.length ≤ 400 := by obtain ⟨_, _, h, _⟩ := big_lens gi.ok; exact h
  clear gi hb3 b2
  go_wp2_with fail
  refine namedC fun w4 H4 => ?_
  have c4 := Lib.hid (show Below w3.heap.size w3 w4 by rw [H4.out]; (repeat first | exact Below.refl _ _ | assumption | refine Below.drew ?_ | refine Below.alloc ?_ (by first | exact Nat.le_refl _ | (simp; done) | omega | (simp; omega)) _ | refine Below.setCell ?_ (by first | exact Nat.le_refl _ | (simp; done) | omega | (simp; omega)) _))
  have BG4 := Lib.hid (show Blk w4 w3.heap.size 26 #[.slice A3 rs.length c3] by rw [H4.out]; exact Blk.new _ _ _)
  clear H4
  refine (p6Weights_any D m d _ w4 hm4 (hds.out.next (b3.out.trans (c4.out.mono b3.out.size)))).mono ?_
  rintro e w5 ⟨Aw, cw, zs, rfl, hzl, hz3, ownw, hb5⟩
  have c45 := Lib.hid (c4.out.trans (hb5.mono c4.out.size))
  have b5 := Lib.hid (b3.out.trans (c45.out.mono b3.out.size))
  have BG6 := Lib.hid (BG4.out.next hb5)
  have HZ := Lib.hid hz3
  have WR := Lib.hid (fun W (h : Below w5.heap.size w5 W) => Rd.of_own (enc := intE) (fun _ _ => rfl) hzl (own_next ownw h))
  have RR := Lib.hid (fun W (h : Below w5.heap.size w5 W) => R3.out.next (c45.out.trans (h.mono c45.out.size)))
  have bw := Lib.hid (fun W (h : Below w5.heap.size w5 W) => b5.out.trans (h.mono b5.out.size))
  have PK := Lib.hid (fun W (h : Below w5.heap.size w5 W) (z k : Int) => p6Pick_any D m d _ z k W hm4 (hds.out.next (bw.out W h)))
  have hw0 := ws_ok hzl hz3 hgo.out
  have CO := Lib.hid (fun W (h : Below w5.heap.size w5 W) => implClimbO_any A3 rs.length c3 rs Aw 4 cw zs W (by omega) (RR.out W h) Z3.out (by omega) (WR.out W h))
  have CS := Lib.hid (fun W (h : Below w5.heap.size w5 W) => specClimbO_any A3 rs.length c3 rs Aw 4 cw zs W (by omega) (RR.out W h) Z3.out (by omega) (WR.out W h))
  have FL := Lib.hid (fun W (h : Below w5.heap.size w5 W) => f6length_any A3 rs.length c3 rs W (RR.out W h) hgo.out)
  have CA := Lib.hid (fun W (h : Below w5.heap.size w5 W) (i : Nat) (hi : i ≤ (wdN rs).length) => show Calls Try.prog 27 #[.agg #[.slice A3 rs.length c3], .slice Aw 4 cw, .int .i64 (i : Int)] W (Ret (.tuple #[.int .i64 (ht zs ((wdN rs).take i)), .int .i64 0]) W) from by
    have h := implClimbA_any A3 rs.length c3 rs Aw 4 cw zs (i : Int) W (by omega) (RR.out W h) Z3.out (by omega) (WR.out W h) (by omega)
    rw [claV_word hgo.out hw0 (by omega) (by omega), Int.toNat_natCast] at h
    exact h)
  have CT := Lib.hid (fun W (h : Below w5.heap.size w5 W) (i : Nat) (hi : i ≤ (wdN rs).length) => show Calls Try.prog 28 #[.agg #[.slice A3 rs.length c3], .slice Aw 4 cw, .int .i64 (i : Int)] W (Ret (.tuple #[.int .i64 (ht zs ((wdN rs).take i)), .int .i64 0]) W) from by
    have h := specClimbA_any A3 rs.length c3 rs Aw 4 cw zs (i : Int) W (by omega) (RR.out W h) Z3.out (by omega) (WR.out W h) (by omega)
    rw [claV_word hgo.out hw0 (by omega) (by omega), Int.toNat_natCast] at h
    exact h)
  have BW := Lib.hid (fun W (h : Below w5.heap.size w5 W) (z : Int) (hz : -9223372036854775808 ≤ z ∧ z ≤ 9223372036854775807) => implBelow_any A3 rs.length c3 rs Aw 4 cw zs z W (by omega) (RR.out W h) Z3.out (by omega) (WR.out W h) hz)
  have BV := Lib.hid (fun (z : Int) (h : lo zs (wdN rs) < z) => belV_word hgo.out hw0 h)
  have hbn := belV_none (ws := zs) hgo.out hw0
  have PR := Lib.hid (fun W (h : Below w5.heap.size w5 W) (j : Nat) (hj : j ≤ (wdN rs).length) => partG_any A3 rs.length c3 rs 0 (j : Int) W (RR.out W h) cap3 hgo.out (by omega) (by omega) (by omega))
  have PTW := Lib.hid (fun (j : Nat) (hj : j ≤ (wdN rs).length) => show WF (ptL rs 0 (j : Int)) ∧ wdN (ptL rs 0 (j : Int)) = (wdN rs).take j ∧ (ptL rs 0 (j : Int)).length ≤ 1200 from by
    have h := pt_word hgo.out (i := 0) (j := (j : Int)) (by omega) (by omega) (by omega)
    rw [Int.toNat_natCast] at h
    exact h)
  have FW := Lib.hid (fun W (h : Below w5.heap.size w5 W) (j : Nat) (z : Int) (j0 : 0 < j) (hj : j ≤ (wdN rs).length) (hmin : ∀ i, i < j → z ≤ ht zs ((wdN rs).take i)) (hzb : z ≤ 1000000000000000000) => f6low_any A3 rs.length c3 rs Aw cw zs j z W (RR.out W h) cap3 hgo.out (WR.out W h) hzl hz3 j0 hj hmin hzb)
  have CX := Lib.hid (fun (T : List Fac) (A' : Option Addr) (c' : Nat) W (h : Below w5.heap.size w5 W) (hT : T.length ≤ 1048576) (hr : Rd W W.heap.size A' T.length 3 Fac.cells T) (hwf : WF T) (hg : (gOk T).isSome = true) =>
    show ∃ vh2, Calls Try.prog 25 #[.agg #[.slice A' T.length c'], .slice Aw 4 cw] W (Ret (.tuple #[.agg #[.int .i64 (cloT0 zs (wdN T)).1, .int .i64 (cloT0 zs (wdN T)).2, .int .i64 vh2], .int .i64 0]) W) from by
      have h := implClimbO_any A' T.length c' T Aw 4 cw zs W hT hr (wf_sz hwf) (by omega) (WR.out W h)
      rw [cloV_word hg (ws_ok hzl hz3 hg)] at h
      exact ⟨_, h⟩)
  rw [cloV_word hgo.out hw0] at CO CS
  have lb := lo_b hz3 (wdN rs)
  have tb := ht_b hz3 (wdN rs)
  have hh0 := (climL_ok zs (wdN rs)).h0
  have c6 := Lib.hid (Below.refl w5.heap.size w5)
  clear hb5 c4 BG4 ownw hz3 hbs hds hgo hwf Z3 R3 RR WR c45 b5 b3 hzl hw0
  generalize hue : wdN rs = u at *
  generalize hN : rs.length = N3 at *
  generalize hvt : ht zs u = vt at *
  generalize hvl : lo zs u = vl at *
  generalize hvh : (climL zs u).h = vh at *
  generalize hw6 : w5 = w6 at *
  have g0 := BG6.out.cell 0
  have gl := BG6.out.lt
  go_wp2_with fail
  refine (CO.out w6 c6.out).mono ?_
  rintro e w7 ⟨rfl, hb⟩
  have c7 := Lib.hid (c6.out.trans (hb.mono c6.out.size))
  have BG7 := Lib.hid (BG6.out.next hb)
  clear g0 gl
  clear hb c6 BG6
  have g0 := BG7.out.cell 0
  have gl := BG7.out.lt
  go_wp2_with fail
  refine namedC fun w8 H => ?_
  have c8 := Lib.hid (show Below w6.heap.size w6 w8 by rw [H.out]; exact c7.out.alloc c7.out.size _)
  have BG8 := Lib.hid (show Blk w8 w3.heap.size 26 #[.slice A3 N3 c3] by rw [H.out]; exact BG7.out.alloc _)
  have BC8 := Lib.hid (show Blk w8 w7.heap.size 51 #[.int .i64 vt, .int .i64 vl, .int .i64 vh] by rw [H.out]; exact Blk.new _ _ _)
  clear g0 gl
  clear H c7 BG7
  refine (CS.out w8 c8.out).mono ?_
  rintro e w9 ⟨rfl, hb⟩
  have c9 := Lib.hid (c8.out.trans (hb.mono c8.out.size))
  have BG9 := Lib.hid (BG8.out.next hb)
  have BC9 := Lib.hid (BC8.out.next hb)
  clear hb c8 BG8 BC8
  have g0 := BG9.out.cell 0
  have gl := BG9.out.lt
  obtain ⟨p0, p1, p2⟩ := BC9.out.three
  have pl := BC9.out.lt
  go_wp2_with fail
  refine namedC fun w10 H => ?_
  have c10 := Lib.hid (show Below w6.heap.size w6 w10 by rw [H.out]; exact c9.out.alloc c9.out.size _)
  have BG10 := Lib.hid (show Blk w10 w3.heap.size 26 #[.slice A3 N3 c3] by rw [H.out]; exact BG9.out.alloc _)
  have BC10 := Lib.hid (show Blk w10 w7.heap.size 51 #[.int .i64 vt, .int .i64 vl, .int .i64 vh] by rw [H.out]; exact BC9.out.alloc _)
  have BE10 := Lib.hid (show Blk w10 w9.heap.size 51 #[.int .i64 vt, .int .i64 vl, .int .i64 vh] by rw [H.out]; exact Blk.new _ _ _)
  clear g0 gl p0 p1 p2 pl
  clear H c9 BG9 BC9
  refine (FL.out w10 c10.out).mono ?_
  rintro e w11 ⟨rfl, hb⟩
  have c11 := Lib.hid (c10.out.trans (hb.mono c10.out.size))
  have BG11 := Lib.hid (BG10.out.next hb)
  have BC11 := Lib.hid (BC10.out.next hb)
  have BE11 := Lib.hid (BE10.out.next hb)
  clear hb c10 BG10 BC10 BE10
  have g0 := BG11.out.cell 0
  have gl := BG11.out.lt
  obtain ⟨p0, p1, p2⟩ := BC11.out.three
  have pl := BC11.out.lt
  obtain ⟨r0, r1, r2⟩ := BE11.out.three
  have rl := BE11.out.lt
  have un : IntKind.i64.wrap ((u.length : Int) + 1) = (u.length : Int) + 1 := IntWalk.i64_in _ (by omega)
  go_wp2_with fail
  refine (PK.out w11 c11.out ((u.length : Int) + 1) ((u.length : Int) + 1) (by omega) (by omega)).mono ?_
  rintro e w12 ⟨iz, rfl, iz0, iz1, hb⟩
  have c12 := Lib.hid (c11.out.trans (hb.mono c11.out.size))
  have BG12 := Lib.hid (BG11.out.next hb)
  have BC12 := Lib.hid (BC11.out.next hb)
  have BE12 := Lib.hid (BE11.out.next hb)
  clear g0 gl p0 p1 p2 pl r0 r1 r2 rl
  clear hb c11 BG11 BC11 BE11
  clear un
  obtain ⟨i, rfl⟩ := Int.eq_ofNat_of_zero_le iz0
  have hiu : i ≤ u.length := by omega
  have CAi := Lib.hid (fun W h => CA.out W h i hiu)
  have CSi := Lib.hid (fun W h => CT.out W h i hiu)
  have CAn := Lib.hid (fun W h => CA.out W h u.length (Nat.le_refl _))
  have mlo := lo_le zs u i
  have mhi := hi_ge zs u i
  have mb := ht_b HZ.out (u.take i)
  have htn : ht zs (u.take u.length) = vt := by rw [List.take_length]; exact hvt
  rw [htn] at CAn
  rw [hvl] at mlo
  rw [hvh] at mhi
  have mb2 : -(3 * (u.length : Int)) ≤ ht zs (u.take i) ∧ ht zs (u.take i) ≤ 3 * (u.length : Int) := by rw [List.length_take] at mb; omega
  clear mb htn iz0 iz1
  generalize hmd : ht zs (u.take i) = md at *
  have g0 := BG12.out.cell 0
  have gl := BG12.out.lt
  obtain ⟨p0, p1, p2⟩ := BC12.out.three
  have pl := BC12.out.lt
  obtain ⟨r0, r1, r2⟩ := BE12.out.three
  have rl := BE12.out.lt
  go_wp2_with fail
  refine (CAi.out w12 c12.out).mono ?_
  rintro e w13 ⟨rfl, hb⟩
  have c13 := Lib.hid (c12.out.trans (hb.mono c12.out.size))
  have BG13 := Lib.hid (BG12.out.next hb)
  have BC13 := Lib.hid (BC12.out.next hb)
  have BE13 := Lib.hid (BE12.out.next hb)
  clear g0 gl p0 p1 p2 pl r0 r1 r2 rl
  clear hb c12 BG12 BC12 BE12
  have g0 := BG13.out.cell 0
  have gl := BG13.out.lt
  obtain ⟨p0, p1, p2⟩ := BC13.out.three
  have pl := BC13.out.lt
  obtain ⟨r0, r1, r2⟩ := BE13.out.three
  have rl := BE13.out.lt
  go_wp2_with fail
  refine (CSi.out w13 c13.out).mono ?_
  rintro e w14 ⟨rfl, hb⟩
  have c14 := Lib.hid (c13.out.trans (hb.mono c13.out.size))
  have BG14 := Lib.hid (BG13.out.next hb)
  have BC14 := Lib.hid (BC13.out.next hb)
  have BE14 := Lib.hid (BE13.out.next hb)
  clear g0 gl p0 p1 p2 pl r0 r1 r2 rl
  clear hb c13 BG13 BC13 BE13
  have g0 := BG14.out.cell 0
  have gl := BG14.out.lt
  obtain ⟨p0, p1, p2⟩ := BC14.out.three
  have pl := BC14.out.lt
  obtain ⟨r0, r1, r2⟩ := BE14.out.three
  have rl := BE14.out.lt
  go_wp2_with fail
  refine (CAn.out w14 c14.out).mono ?_
  rintro e w15 ⟨rfl, hb⟩
  have c15 := Lib.hid (c14.out.trans (hb.mono c14.out.size))
  have BG15 := Lib.hid (BG14.out.next hb)
  have BC15 := Lib.hid (BC14.out.next hb)
  have BE15 := Lib.hid (BE14.out.next hb)
  clear g0 gl p0 p1 p2 pl r0 r1 r2 rl
  clear hb c14 BG14 BC14 BE14
  obtain ⟨j1, hj1, hj1n, hj1l, hj1m⟩ := BV.out (vl + 1) (by omega)
  have hlow : ht zs (u.take j1) = vl := by have h := lo_le zs u j1; rw [hvl] at h; omega
  have B1 := Lib.hid (fun W h => BW.out W h (vl + 1) (by omega))
  rw [hj1] at B1
  have B2 := Lib.hid (fun W h => BW.out W h vl (by omega))
  rw [hbn] at B2
  have CA1 := Lib.hid (fun W h => CA.out W h j1 hj1n)
  rw [hlow] at CA1
  unfold tup2 at B1 B2
  have d1 : ¬ md < vl := by omega
  have d2 : ¬ vh < md := by omega
  have d3 : ¬ 0 < vl := by omega
  have d4 : ¬ vh < 0 := by omega
  have d5 : ¬ (u.length : Int) < (j1 : Int) := by omega
  have d6 : ¬ (j1 : Int) < 0 := by omega
  clear hj1 hlow hj1l hj1m
  have un : IntKind.i64.wrap (vl + 1) = vl + 1 := IntWalk.i64_in _ (by omega)
  have g0 := BG15.out.cell 0
  have gl := BG15.out.lt
  obtain ⟨p0, p1, p2⟩ := BC15.out.three
  have pl := BC15.out.lt
  obtain ⟨r0, r1, r2⟩ := BE15.out.three
  have rl := BE15.out.lt
  go_wp2_with fail
  refine (B1.out w15 c15.out).mono ?_
  rintro e w16 ⟨rfl, hb⟩
  have c16 := Lib.hid (c15.out.trans (hb.mono c15.out.size))
  have BG16 := Lib.hid (BG15.out.next hb)
  have BC16 := Lib.hid (BC15.out.next hb)
  have BE16 := Lib.hid (BE15.out.next hb)
  clear g0 gl p0 p1 p2 pl r0 r1 r2 rl
  clear hb c15 BG15 BC15 BE15
  have g0 := BG16.out.cell 0
  have gl := BG16.out.lt
  obtain ⟨p0, p1, p2⟩ := BC16.out.three
  have pl := BC16.out.lt
  obtain ⟨r0, r1, r2⟩ := BE16.out.three
  have rl := BE16.out.lt
  go_wp2_with fail
  refine (B2.out w16 c16.out).mono ?_
  rintro e w17 ⟨rfl, hb⟩
  have c17 := Lib.hid (c16.out.trans (hb.mono c16.out.size))
  have BG17 := Lib.hid (BG16.out.next hb)
  have BC17 := Lib.hid (BC16.out.next hb)
  have BE17 := Lib.hid (BE16.out.next hb)
  clear g0 gl p0 p1 p2 pl r0 r1 r2 rl
  clear hb c16 BG16 BC16 BE16
  clear un
  have g0 := BG17.out.cell 0
  have gl := BG17.out.lt
  obtain ⟨p0, p1, p2⟩ := BC17.out.three
  have pl := BC17.out.lt
  obtain ⟨r0, r1, r2⟩ := BE17.out.three
  have rl := BE17.out.lt
  go_wp2_with fail
  refine (CA1.out w17 c17.out).mono ?_
  rintro e w18 ⟨rfl, hb⟩
  have c18 := Lib.hid (c17.out.trans (hb.mono c17.out.size))
  have BG18 := Lib.hid (BG17.out.next hb)
  have BC18 := Lib.hid (BC17.out.next hb)
  have BE18 := Lib.hid (BE17.out.next hb)
  clear g0 gl p0 p1 p2 pl r0 r1 r2 rl
  clear hb c17 BG17 BC17 BE17
  obtain ⟨j, hj, hjn, hjl, hjm⟩ := BV.out (md + 1) (by omega)
  have hji : j ≤ i := by
    rcases Nat.lt_or_ge i j with h5 | h5
    · have := hjm i h5; rw [hmd] at this; omega
    · exact h5
  have B3 := Lib.hid (fun W h => BW.out W h (md + 1) (by omega))
  rw [hj] at B3
  unfold tup2 at B3
  have CAj := Lib.hid (fun W h => CA.out W h j hjn)
  have PA := Lib.hid (fun W h => PR.out W h j hjn)
  have F6 := Lib.hid (fun W h (j0 : 0 < j) => FW.out W h j (md + 1) j0 hjn hjm (by omega))
  have hlj : lo zs (u.take j) = ht zs (u.take j) := by
    have h1 := lo_le zs (u.take j) j
    rw [List.take_take, Nat.min_self] at h1
    have h2 := lo_ge zs u (z := ht zs (u.take j)) j hjn (fun q hq => by
      by_cases h : q = j
      · rw [h]; exact Int.le_refl _
      · have := hjm q (by omega); omega)
    omega
  have hji2 : ¬ (i : Int) < (j : Int) := by omega
  have j0s : (j : Int) = 0 ∨ 0 < j := by omega
  generalize hat : ht zs (u.take j) = at_ at *
  have e1 : ¬ md < at_ := by omega
  clear hj hjm hjl hji
  obtain ⟨ptw, ptu, ptl⟩ := PTW.out j hjn
  have HPW := Lib.hid ptw
  have hcl : cloT0 zs (wdN (ptL rs 0 (j : Int))) = (at_, at_) := by rw [ptu]; exact Prod.ext hat hlj
  clear ptw ptu hlj hat
  generalize ptL rs 0 (j : Int) = T at *
  unfold RetGC at PA
  have un : IntKind.i64.wrap (md + 1) = md + 1 := IntWalk.i64_in _ (by omega)
  have g0 := BG18.out.cell 0
  have gl := BG18.out.lt
  obtain ⟨p0, p1, p2⟩ := BC18.out.three
  have pl := BC18.out.lt
  obtain ⟨r0, r1, r2⟩ := BE18.out.three
  have rl := BE18.out.lt
  go_wp2_with fail
  refine (B3.out w18 c18.out).mono ?_
  rintro e w19 ⟨rfl, hb⟩
  have c19 := Lib.hid (c18.out.trans (hb.mono c18.out.size))
  have BG19 := Lib.hid (BG18.out.next hb)
  have BC19 := Lib.hid (BC18.out.next hb)
  have BE19 := Lib.hid (BE18.out.next hb)
  clear g0 gl p0 p1 p2 pl r0 r1 r2 rl
  clear hb c18 BG18 BC18 BE18
  clear un
  have g0 := BG19.out.cell 0
  have gl := BG19.out.lt
  obtain ⟨p0, p1, p2⟩ := BC19.out.three
  have pl := BC19.out.lt
  obtain ⟨r0, r1, r2⟩ := BE19.out.three
  have rl := BE19.out.lt
  go_wp2_with fail
  refine (CAj.out w19 c19.out).mono ?_
  rintro e w20 ⟨rfl, hb⟩
  have c20 := Lib.hid (c19.out.trans (hb.mono c19.out.size))
  have BG20 := Lib.hid (BG19.out.next hb)
  have BC20 := Lib.hid (BC19.out.next hb)
  have BE20 := Lib.hid (BE19.out.next hb)
  clear g0 gl p0 p1 p2 pl r0 r1 r2 rl
  clear hb c19 BG19 BC19 BE19
  have g0 := BG20.out.cell 0
  have gl := BG20.out.lt
  obtain ⟨p0, p1, p2⟩ := BC20.out.three
  have pl := BC20.out.lt
  obtain ⟨r0, r1, r2⟩ := BE20.out.three
  have rl := BE20.out.lt
  go_wp2_with fail
  rcases hok : (gOk T).isSome with _ | _
  · have hF : limF T = [] := by unfold limF; rw [hok]; rfl
    have hC : limC T = 3 := by unfold limC; rw [hok]; rfl
    rw [hF, hC] at PA
    refine (PA.out w20 c20.out).mono ?_
    rintro e w21 ⟨A9, c9, rfl, _, hb⟩
    have cz := Lib.hid (c20.out.trans (hb.mono c20.out.size))
    clear hok hF hC
    go_wp2_with fail
    go_ret
    exact ⟨rfl, bw.out _ (cz.out.alloc cz.out.size _)⟩
  · have hF : limF T = T := by unfold limF; rw [hok]; rfl
    have hC : limC T = 0 := by unfold limC; rw [hok]; rfl
    rw [hF, hC] at PA
    have CP := Lib.hid (fun A c W h hr => CX.out T A c W h (by omega) hr HPW.out hok)
    clear hok hF hC
    refine (PA.out w20 c20.out).mono ?_
    rintro e w21 ⟨A9, c9, rfl, own9, hb⟩
    have c21 := Lib.hid (c20.out.trans (hb.mono c20.out.size))
    have BG21 := Lib.hid (BG20.out.next hb)
    have BC21 := Lib.hid (BC20.out.next hb)
    have BE21 := Lib.hid (BE20.out.next hb)
    clear g0 gl p0 p1 p2 pl r0 r1 r2 rl
    have O9 := Lib.hid own9
    clear hb own9 c20 BG20 BC20 BE20
    have g0 := BG21.out.cell 0
    have gl := BG21.out.lt
    obtain ⟨p0, p1, p2⟩ := BC21.out.three
    have pl := BC21.out.lt
    obtain ⟨r0, r1, r2⟩ := BE21.out.three
    have rl := BE21.out.lt
    go_wp2_with fail
    refine namedC fun w22 H => ?_
    have c22 := Lib.hid (show Below w6.heap.size w6 w22 by rw [H.out]; exact c21.out.alloc c21.out.size _)
    have BG22 := Lib.hid (show Blk w22 w3.heap.size 26 #[.slice A3 N3 c3] by rw [H.out]; exact BG21.out.alloc _)
    have R9 := Lib.hid (Rd.of_own (fun x _ => fac_len x) rfl (show w22.ownsRow _ 82 3 (.slice A9 T.length c9) T.length (T.flatMap Fac.cells) by rw [H.out]; exact O9.out.alloc _))
    clear g0 gl p0 p1 p2 pl r0 r1 r2 rl
    clear H O9 c21 BG21 BC21 BE21
    have CQ := CP.out A9 c9 w22 c22.out R9.out
    obtain ⟨vh2, hvh2⟩ := CQ
    have CQH := Lib.hid hvh2
    clear hvh2
    have q1 : (cloT0 zs (wdN T)).1 = at_ := by rw [hcl]
    have q2 : (cloT0 zs (wdN T)).2 = at_ := by rw [hcl]
    rw [q1, q2] at CQH
    clear q1 q2 hcl R9
    refine CQH.out.mono ?_
    rintro e w23 ⟨rfl, hb⟩
    have c23 := Lib.hid (c22.out.trans (hb.mono c22.out.size))
    have BG23 := Lib.hid (BG22.out.next hb)
    clear hb c22 BG22 CQH
    have g0 := BG23.out.cell 0
    have gl := BG23.out.lt
    rcases j0s with j0 | j0
    · have j0b : ((j : Int) == 0) = true := by simp [j0]
      go_wp2_with fail
      go_ret
      exact ⟨rfl, bw.out _ (c23.out.alloc c23.out.size _)⟩
    · have j0b : ((j : Int) == 0) = false := by simp; omega
      go_wp2_with fail
      refine (F6.out _ (c23.out.alloc c23.out.size _) j0).mono ?_
      rintro e w24 ⟨r, rfl, hr, hb⟩
      have cz := Lib.hid ((c23.out.alloc c23.out.size _).trans (hb.mono (by have := c23.out.size; simp; omega)))
      have hr2 : md < r := by omega
      go_wp2_with fail
      go_ret
      exact ⟨rfl, bw.out _ cz.out⟩
set_option maxRecDepth 100000 in
theorem fnClimbs_contract (H : Type) (enc : TypeId × Value → H) (W : World) (base : Nat) (args : Array Value) (ds gs : List (DataW H)) (before : List MemPlace)
    (hval : ∀ (j : Nat) t v, Try.f5.params[j]? = some t → args[j]? = some v → Value.okWide Try.prog W .any base t v)
    (hW : DataW.Whole enc Try.prog Try.f5.params.toList Rows.fnClimbsSpec.vars false W args.toList ds gs before) :
    Calls Try.prog 5 args W fun e W' => ∃ v, e = .returned v ∧ Rows.fnClimbsSpec.post enc Try.prog Try.f5 false true false false W args v W' := by
  have hW' := hW
  obtain ⟨p, q, hA0, hV, rfl, hfz, hnd⟩ := hW
  have hA : DataW.TrodAll enc Try.prog W 0 (fun _ => true) true Try.f5.params.toList args.toList ds p := hA0
  rw [Try.params5] at hA hval
  obtain ⟨v0, vs0, d0, ds0, p0, q0, hargs, rfl, rfl, h0, r0⟩ := trodAll_cons hA
  obtain ⟨v1, vs1, d1, ds1, p1, q1, rfl, rfl, rfl, h1, r1⟩ := trodAll_cons r0
  obtain ⟨rfl, rfl, rfl⟩ := trodAll_nil r1
  obtain rfl : args = #[v0, v1] := by cases args; simp_all
  obtain ⟨rfl, rfl⟩ := trodVars_none hV
  obtain ⟨A0, n0, c0, zs0, rfl, hn0, rd0, ok0⟩ := open_bytes Try.underlying22 Try.underlying5 (by kernel_rfl) (hval 0 22 v0 rfl rfl) h0
  obtain ⟨A1, n1, c1, zs1, rfl, hn1, rd1, ok1⟩ := open_bytes Try.underlying22 Try.underlying5 (by kernel_rfl) (hval 1 22 v1 rfl rfl) h1
  clear hA0
  refine (walkCl A0 n0 c0 zs0 A1 n1 c1 zs1 W hn0 rd0 ok0 hn1 rd1 ok1).mono fun e W' ⟨he, hb⟩ => ?_
  subst he
  exact ⟨_, rfl, law_post laidOut hW' rfl 4 Try.underlying4 (by kernel_rfl) (by rw [Try.params5]; intro t ht; simp at ht; first | (subst ht; exact ⟨by kernel_rfl, of_decide_eq_true (by kernel_rfl)⟩) | (rcases ht with rfl | rfl <;> exact ⟨by kernel_rfl, of_decide_eq_true (by kernel_rfl)⟩) | (rcases ht with rfl | rfl | rfl <;> exact ⟨by kernel_rfl, of_decide_eq_true (by kernel_rfl)⟩) | (rcases ht with rfl | rfl | rfl | rfl <;> exact ⟨by kernel_rfl, of_decide_eq_true (by kernel_rfl)⟩)) rfl hb⟩

set_option maxRecDepth 100000 in
theorem fnClimbs_lifted (os : Os) (started : os.Started) (H : Type) (enc : TypeId × Value → H) :
    ReturnsInHanded {} Try.checked os 5 .any (Rows.fnClimbsSpec.pre6 enc Try.prog Try.f5 Rows.fnClimbsRow.domain false) (Rows.fnClimbsSpec.post enc Try.prog Try.f5 false true false false) := by
  refine returnsInHanded_of_change (C := Try.checked) own started (by kernel_rfl) Try.func5
    (ChangeSpec.witness6 (enc := enc) (C := Try.checked) false ⟨#[], #[.slice none 0 0, .slice none 0 0], []⟩ 8 (by kernel_rfl) (by kernel_rfl) (by kernel_rfl) (by kernel_rfl)) ?_
  intro W base args ds gs before hval0 hW hcnd _
  exact fnClimbs_contract H enc W base args ds gs before hval0 hW

theorem fnClimbs_holds : Rows.FnClimbsSaid :=
  OpenClaim.holds_of_wide 5 Try.f5 rfl rfl rfl rfl rfl rfl rfl ⟨rfl, rfl, rfl, rfl, rfl⟩ rfl rfl rfl rfl rfl (by as_aux_lemma => kernel_rfl) Try.func5
    (joined_mk (by as_aux_lemma => kernel_rfl) laidOut mapsRowed' (by as_aux_lemma => kernel_rfl) (by as_aux_lemma => kernel_rfl) (by as_aux_lemma => kernel_rfl) (by as_aux_lemma => kernel_rfl) (by as_aux_lemma => kernel_rfl) (by as_aux_lemma => kernel_rfl) plainKeys' rfl heard' mayEnter' lifts' make' (by as_aux_lemma => kernel_rfl))
    (of_decide_eq_true (by kernel_rfl)) (by unfold Func.isWrapper; first | (rw [if_pos (by decide +kernel)]; kernel_rfl) | (rw [if_neg (by decide +kernel)]; exact ⟨rfl, rfl⟩))
    (fun os started H enc _ => fnClimbs_lifted os started H enc)

end Go.Proofs.Ytgdbpkpaacbhhaa
