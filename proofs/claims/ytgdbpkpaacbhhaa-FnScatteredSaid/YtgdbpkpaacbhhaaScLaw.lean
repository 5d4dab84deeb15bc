/-
  The statement FnScattered: for all bytes, scattered words are counted as in the unpacked word, their parts as words of their own, turned words as often in the turned word, and in a join as often as in all ways to divide them. No condition.
-/
import Derived.Test.YtgdbpkpaacbhhaaP7

namespace Go.Proofs.Ytgdbpkpaacbhhaa
open Go.ChangeShapes Go.WideShapes Go.ChangeAt Go.RowKit

theorem turn_okS {rs : List Fac} (h : (gOk rs).isSome = true) : (gOk (turnL rs)).isSome = true := by
  obtain ⟨ls, hls, h1, h2⟩ := big_lens h
  have hwf := wf_of hls
  refine ok_of (turn_wf hwf) (by rw [turn_len]; exact h1) (fun k hk => ?_)
  rw [turn_len] at hk
  rw [turn_wds hwf k hk, List.length_reverse]
  have a := lens_word hls hk
  have b := (lens_bound hls hk).2
  omega
theorem scCode_ok {rs : List Fac} {P : List Nat} {m : Int} (hg : (gOk rs).isSome = true) (hP : ∀ x ∈ P, x < 4) (hl : P.length ≤ 8) (h1 : 1 ≤ m) (h2 : m ≤ 1000000000) : scCode rs (tx P) m = 0 := by
  have hok : okW (tx P) = true := by rw [okW_all (by rw [tx_size]; omega)]; exact tx_let hP
  have hmod : modC rs (tx P) m = 0 := by
    unfold modC
    rw [if_neg (by rw [hg]; decide), if_neg (by rw [hok]; decide), if_neg (by unfold inB; simp; omega)]
  unfold scCode
  rw [hmod, if_neg (by decide), if_neg (by rw [tx_size]; omega)]
theorem scatV_word {rs : List Fac} {P : List Nat} {m : Int} (hg : (gOk rs).isSome = true) (hP : ∀ x ∈ P, x < 4) (hl : P.length ≤ 8) (h1 : 1 ≤ m) (h2 : m ≤ 1000000000) : scatV rs (tx P) m = tup2 (((sq P (wdN rs) : Nat) : Int) % m) 0 := by
  obtain ⟨ls, hls, _, _⟩ := big_lens hg
  unfold scatV
  rw [if_pos (scCode_ok hg hP hl h1 h2), tx_size, scTop_word (wf_of hls) hP 0 P.length (by omega) (Nat.le_refl _), if_neg (by omega)]
  unfold seg
  rw [List.drop_zero, Nat.sub_zero, List.take_length]
theorem tx_seg (P : List Nat) (i j : Nat) : (tx P).extract i j = tx (seg P i j) := by
  have e : ((tx P).extract i j).data = (tx (seg P i j)).data := by
    apply Array.ext'
    rw [ByteArray.data_extract, Array.toList_extract, tx_toList, tx_toList]
    show ((txB P).drop i).take (j - i) = txB ((P.drop i).take (j - i))
    unfold txB
    rw [List.map_take, List.map_drop]
  exact ByteArray.ext e
set_option maxHeartbeats 16000000 in
set_option maxRecDepth 100000 in
theorem walkSc (A : Option Addr) (n c : Nat) (zs : List Int) (D : Option Addr) (m d : Nat) (ys : List Int) (w : World)
    (hn : n ≤ maxLen) (hx : Rd w w.heap.size A n 1 (fun z => [.int .u8 z]) zs) (ox : ∀ z ∈ zs, 0 ≤ z ∧ z < 256) (hm : m ≤ maxLen) (hy : Rd w w.heap.size D m 1 (fun z => [.int .u8 z]) ys) (oy : ∀ z ∈ ys, 0 ≤ z ∧ z < 256) :
    Calls Try.prog 4 #[.slice A n c, .slice D m d] w (Ret (.bool true) w) := by
  by_cases h1 : 4096 < n
  · have h1' := Lib.hid (decide_eq_true h1)
    go_enter Try.func4, Try.ntmps4
    go_wp2_with fail
    refine (f6big_any A n c w hn true h1'.out).mono ?_
    rintro e w1 ⟨rfl, hb1⟩
    go_wp2_with fail
    go_ret
    exact ⟨rfl, hb1⟩
  by_cases h2 : 4096 < m
  · have h1' := Lib.hid (decide_eq_false h1)
    have h2' := Lib.hid (decide_eq_true h2)
    go_enter Try.func4, Try.ntmps4
    go_wp2_with fail
    refine (f6big_any A n c w hn false h1'.out).mono ?_
    rintro e w1 ⟨rfl, hb1⟩
    go_wp2_with fail
    refine (f6big_any D m d w1 hm true h2'.out).mono ?_
    rintro e w2 ⟨rfl, hb2⟩
    go_wp2_with fail
    go_ret
    exact ⟨rfl, hb1.trans (hb2.mono hb1.size)⟩
  have h1' := Lib.hid (decide_eq_false h1)
  have h2' := Lib.hid (decide_eq_false h2)
  have hbs := Lib.hid (hx.bytes ox)
  have hds := Lib.hid (hy.bytes oy)
  clear hx hy ox oy
  have hn4 : n ≤ 4096 := by omega
  have hm4 : m ≤ 4096 := by omega
  go_enter Try.func4, Try.ntmps4
  go_wp2_with fail
  refine (f6big_any A n c w hn false h1'.out).mono ?_
  rintro e w1 ⟨rfl, hb1⟩
  go_wp2_with fail
  refine (f6big_any D m d w1 hm false h2'.out).mono ?_
  rintro e w2 ⟨rfl, hb2⟩
  have b2 := Lib.hid (hb1.trans (hb2.mono hb1.size))
  clear hb1 hb2 h1 h2
  go_wp2_with fail
  refine (p6Grammar_any A n c _ w2 (by omega) (hbs.out.next b2.out)).mono ?_
  rintro e w3 ⟨A3, c3, rs, rfl, ok3, own3, hb3⟩
  have b3 := Lib.hid (b2.out.trans (hb3.mono b2.out.size))
  have R3 := Lib.hid (Rd.of_own (fun x _ => fac_len x) rfl own3)
  have hgo := Lib.hid ok3.gok
  have hwf := Lib.hid ok3.wf
  have hfew := ok3.few
  have hl8 := ok3.len
  have hp3 := ok3.pos
  have Z3 := Lib.hid (wf_sz ok3.wf)
  clear ok3 own3 hb3 b2
  go_wp2_with fail
  refine namedC fun w4 H4 => ?_
  have c4 := Lib.hid (show Below w3.heap.size w3 w4 by rw [H4.out]; (repeat first | exact Below.refl _ _ | assumption | refine Below.drew ?_ | refine Below.alloc ?_ (by first | exact Nat.le_refl _ | (simp; done) | omega | (simp; omega)) _ | refine Below.setCell ?_ (by first | exact Nat.le_refl _ | (simp; done) | omega | (simp; omega)) _))
  have BG4 := Lib.hid (show Blk w4 w3.heap.size 26 #[.slice A3 rs.length c3] by rw [H4.out]; exact Blk.new _ _ _)
  clear H4
  refine (p6Scattered_any D m d _ A3 rs.length c3 rs w4 hm4 (hds.out.next (b3.out.trans (c4.out.mono b3.out.size))) (R3.out.next c4.out) hgo.out (by omega)).mono ?_
  rintro e w5 ⟨P, rfl, hP5, hP4, hb5⟩
  have HP4 := Lib.hid hP4
  have c45 := Lib.hid (c4.out.trans (hb5.mono c4.out.size))
  have b5 := Lib.hid (b3.out.trans (c45.out.mono b3.out.size))
  have BG6 := Lib.hid (BG4.out.next hb5)
  have RR := Lib.hid (fun W (h : Below w5.heap.size w5 W) => R3.out.next (c45.out.trans (h.mono c45.out.size)))
  have bw := Lib.hid (fun W (h : Below w5.heap.size w5 W) => b5.out.trans (h.mono b5.out.size))
  have PK := Lib.hid (fun W (h : Below w5.heap.size w5 W) (z k : Int) => p6Pick_any D m d _ z k W hm4 (hds.out.next (bw.out W h)))
  have HG := Lib.hid (fun W (h : Below w5.heap.size w5 W) => p6Huge_any D m d _ W hm4 (hds.out.next (bw.out W h)))
  obtain ⟨ls3, hls3⟩ := Option.isSome_iff_exists.1 hgo.out
  have UW := Lib.hid (fun W (h : Below w5.heap.size w5 W) => unpackWord_any A3 rs.length c3 rs ls3 W (RR.out W h) Z3.out hls3 (by omega))
  have hps : (tx P).size ≤ maxLen := by rw [tx_size]; unfold maxLen; omega
  have TN := Lib.hid (fun W (h : Below w5.heap.size w5 W) => show Calls Try.prog 22 #[.agg #[.slice A3 rs.length c3]] W (fun e w' => ∃ A c, e = .returned (.tuple #[.agg #[.slice A (turnL rs).length c], .int .i64 0]) ∧ w'.ownsRow W.heap.size 82 3 (.slice A (turnL rs).length c) (turnL rs).length ((turnL rs).flatMap Fac.cells) ∧ Below W.heap.size W w') from
    turnG_any A3 rs.length c3 rs W hp3 (by omega) (RR.out W h) hwf.out hgo.out)
  have OC := Lib.hid (fun (hh : List Fac) (A' : Option Addr) (c' : Nat) W (M : Int) (h1 : 1 ≤ M) (h2 : M ≤ 1000000000) (Q : List Nat) (hQ : ∀ x ∈ Q, x < 4) (hq : Q.length ≤ 8) (hn : hh.length ≤ 1048576) (hr : Rd W W.heap.size A' hh.length 3 Fac.cells hh) (hwf : WF hh) (hg : (gOk hh).isSome = true) =>
    show Calls Try.prog 17 #[.agg #[.slice A' hh.length c'], .string (tx Q), .int .i64 M] W (Ret (.tuple #[.int .i64 (((sq Q (wdN hh) : Nat) : Int) % M), .int .i64 0]) W) from by
      have h := implScat_any A' hh.length c' hh (tx Q) M W hn hr (wf_sz hwf) (by rw [tx_size]; unfold maxLen; omega) (by omega)
      rw [scatV_word hg hQ hq h1 h2] at h
      exact h)
  have OS := Lib.hid (fun (hh : List Fac) (A' : Option Addr) (c' : Nat) W (M : Int) (h1 : 1 ≤ M) (h2 : M ≤ 1000000000) (hn : hh.length ≤ 1048576) (hr : Rd W W.heap.size A' hh.length 3 Fac.cells hh) (hwf : WF hh) (hg : (gOk hh).isSome = true) =>
    show Calls Try.prog 19 #[.agg #[.slice A' hh.length c'], .string (tx P), .int .i64 M] W (fun e w' => ∃ A c gs, e = .returned (.tuple #[.slice A (P.length + 1) c, .int .i64 0]) ∧ TabJ w' W.heap.size A (P.length + 1) c (P.length + 1) gs (tabL (P.length + 1) (scTop hh (tx P) M)) ∧ Below W.heap.size W w') from by
      have h := specScatW_any A' hh.length c' hh (tx P) M W hn hr (wf_sz hwf) hps (by omega)
      have e0 := scCode_ok (m := M) hg hP4 (by omega) h1 h2
      unfold RetTabC scLen scW scwT at h
      rw [e0, if_pos rfl, tx_size] at h
      exact h)
  have SC := Lib.hid (fun W (h : Below w5.heap.size w5 W) (M : Int) (h1 : 1 ≤ M) (h2 : M ≤ 1000000000) => OC.out rs A3 c3 W M h1 h2 P hP4 (by omega) (by omega) (RR.out W h) hwf.out hgo.out)
  have SS := Lib.hid (fun W (h : Below w5.heap.size w5 W) (M : Int) (h1 : 1 ≤ M) (h2 : M ≤ 1000000000) => OS.out rs A3 c3 W M h1 h2 (by omega) (RR.out W h) hwf.out hgo.out)
  have SI := Lib.hid (fun W (h : Below w5.heap.size w5 W) (M : Int) (h1 : 1 ≤ M) (h2 : M ≤ 1000000000) =>
    show Calls Try.prog 18 #[.agg #[.slice A3 rs.length c3], .string (tx P), .int .i64 M] W (fun e w' => ∃ A c gs, e = .returned (.tuple #[.slice A (P.length + 1) c, .int .i64 0]) ∧ TabJ w' W.heap.size A (P.length + 1) c (P.length + 1) gs (tabL (P.length + 1) (scTop rs (tx P) M)) ∧ Below W.heap.size W w') from by
      have h := implScatW_any A3 rs.length c3 rs (tx P) M W (by omega) (RR.out W h) Z3.out hps (by omega)
      have e0 := scCode_ok (m := M) hgo.out hP4 (by omega) h1 h2
      unfold RetTabC scLen scW scwT at h
      rw [e0, if_pos rfl, tx_size] at h
      exact h)
  have TS := Lib.hid (fun (A' : Option Addr) (c' : Nat) W (M : Int) (h1 : 1 ≤ M) (h2 : M ≤ 1000000000) (hr : Rd W W.heap.size A' (turnL rs).length 3 Fac.cells (turnL rs)) => show Calls Try.prog 17 #[.agg #[.slice A' (turnL rs).length c'], .string (tx P.reverse), .int .i64 M] W (Ret (.tuple #[.int .i64 (((sq P (wdN rs) : Nat) : Int) % M), .int .i64 0]) W) from by
    have h := OC.out (turnL rs) A' c' W M h1 h2 P.reverse (fun x hx => hP4 x (List.mem_reverse.1 hx)) (by rw [List.length_reverse]; omega) (by rw [turn_len]; omega) hr (turn_wf hwf.out) (turn_okS hgo.out)
    rw [turn_word hwf.out, sq_turn] at h
    exact h)
  have TWD := Lib.hid (fun W => turnWord_any P W hP4 (by omega))
  have HU4 := Lib.hid (wdN_let hwf.out)
  have hu8 : (wdN rs).length ≤ 100 := by omega
  have FS := Lib.hid (fun (Q : List Nat) W (hQ : ∀ x ∈ Q, x < 4) (hq : Q.length ≤ 100) (M : Int) (h1 : 1 ≤ M) (h2 : M ≤ 1000000000) => f6scattered_any Q (wdN rs) M W hQ HU4.out hq hu8 h1 h2)
  have cnt0 := Lib.hid (fun (M : Int) (Y : Tb) (h : TbW P M (wdN rs) Y) => True.intro)
  have segL := Lib.hid (fun i j => show (seg P i j).length ≤ 5 ∧ ∀ x ∈ seg P i j, x < 4 from ⟨by unfold seg; rw [List.length_take, List.length_drop]; omega, fun x hx => hP4 x (List.mem_of_mem_drop (List.mem_of_mem_take hx))⟩)
  have hseg := Lib.hid (fun (i j : Nat) (_ : i ≤ j) (_ : j ≤ P.length) => tx_seg P i j)
  have hpz := tx_size P
  have c6 := Lib.hid (Below.refl w5.heap.size w5)
  clear hb5 c4 BG4 hbs hds R3 c45 b5 b3 hls3 hP4
  generalize hu : wdN rs = u at *
  generalize hL : P.length = L at *
  generalize hN1 : L + 1 = N1 at *
  generalize hN : rs.length = N3 at *
  generalize hw6 : w5 = w6 at *
  have g_BG := BG6.out.cell 0
  have l_BG := BG6.out.lt
  go_wp2_with fail
  refine (PK.out w6 c6.out 1000 1000 (by omega) (by omega)).mono ?_
  rintro e w7 ⟨v0, rfl, v00, v01, hb⟩
  have c7 := Lib.hid (c6.out.trans (hb.mono c6.out.size))
  have BG7 := Lib.hid (BG6.out.next hb)
  clear hb c6 BG6
  clear g_BG l_BG
  have uv : IntKind.i64.wrap (2 + v0) = 2 + v0 := IntWalk.i64_in _ (by omega)
  obtain ⟨M, hM⟩ : ∃ M, 2 + v0 = M := ⟨_, rfl⟩
  have M0 : 2 ≤ M := by omega
  have M1 : M ≤ 1001 := by omega
  have SC1 := Lib.hid (fun W h => SC.out W h M (by omega) (by omega))
  have SI1 := Lib.hid (fun W h => SI.out W h M (by omega) (by omega))
  have SS1 := Lib.hid (fun W h => SS.out W h M (by omega) (by omega))
  have hY0 := scTop_word (m := M) hwf.out HP4.out
  rw [hu] at hY0
  have hY := Lib.hid hY0
  clear hY0
  generalize scTop rs (tx P) M = Y at *
  have g_BG := BG7.out.cell 0
  have l_BG := BG7.out.lt
  go_wp2_with fail
  refine (UW.out w7 c7.out).mono ?_
  rintro e w8 ⟨rfl, hb⟩
  have c8 := Lib.hid (c7.out.trans (hb.mono c7.out.size))
  have BG8 := Lib.hid (BG7.out.next hb)
  clear hb c7 BG7
  clear g_BG l_BG
  clear uv hM v00 v01
  have g_BG := BG8.out.cell 0
  have l_BG := BG8.out.lt
  go_wp2_with fail
  refine (SC1.out w8 c8.out).mono ?_
  rintro e w9 ⟨rfl, hb⟩
  have c9 := Lib.hid (c8.out.trans (hb.mono c8.out.size))
  have BG9 := Lib.hid (BG8.out.next hb)
  clear hb c8 BG8
  clear g_BG l_BG
  have g_BG := BG9.out.cell 0
  have l_BG := BG9.out.lt
  go_wp2_with fail
  refine (SI1.out w9 c9.out).mono ?_
  rintro e w10 ⟨A12, c12, gs, rfl, tab, hb⟩
  have c10 := Lib.hid (c9.out.trans (hb.mono c9.out.size))
  have BG10 := Lib.hid (BG9.out.next hb)
  have TA10 := Lib.hid tab
  clear tab
  clear hb c9 BG9
  clear g_BG l_BG
  have g_BG := BG10.out.cell 0
  have l_BG := BG10.out.lt
  go_wp2_with fail
  refine (SS1.out w10 c10.out).mono ?_
  rintro e w11 ⟨A14, c14, hs, rfl, tab, hb⟩
  have c11 := Lib.hid (c10.out.trans (hb.mono c10.out.size))
  have BG11 := Lib.hid (BG10.out.next hb)
  have TA11 := Lib.hid (TA10.out.next hb)
  have TB11 := Lib.hid tab
  clear tab
  clear hb c10 BG10 TA10
  clear g_BG l_BG
  have FR := Lib.hid (fun W (h : Below w11.heap.size w11 W) => f6rows_any _ _ A12 A14 N1 c12 c14 N1 gs hs (tabL N1 Y) W (by omega) (by omega) (TA11.out.next h) (TB11.out.next h))
  go_wp2_with fail
  refine (FR.out w11 (Below.refl _ _)).mono ?_
  rintro e w12 ⟨rfl, hb⟩
  have c12 := Lib.hid (c11.out.trans (hb.mono c11.out.size))
  have BG12 := Lib.hid (BG11.out.next hb)
  have TA12 := Lib.hid (TA11.out.next hb)
  have TB12 := Lib.hid (TB11.out.next hb)
  clear hb FR c11 BG11 TA11 TB11
  clear TA12
  have g_BG := BG12.out.cell 0
  have l_BG := BG12.out.lt
  have hcnt := cnt0.out M Y hY.out
  go_wp2_with fail
  refine (FS.out P w12 HP4.out (by omega) M (by omega) (by omega)).mono ?_
  rintro e w13 ⟨rfl, hb⟩
  have c13 := Lib.hid (c12.out.trans (hb.mono c12.out.size))
  have BG13 := Lib.hid (BG12.out.next hb)
  have TB13 := Lib.hid (TB12.out.next hb)
  clear hb c12 BG12 TB12
  clear g_BG l_BG
  have hub := Lib.hid (fun i j => FS.out (seg P i j))
  go_wp2_with fail
  go_loopw [16] (fun i_ w' => ∃ i : Nat, i_ = .int .i64 i ∧ i ≤ L + 1 ∧ Hid (Below w13.heap.size w13 w')) (fun i_ _ => L + 1 - (intOf i_).toNat)
  case atStart => exact ⟨0, rfl, by omega, Lib.hid (Below.refl _ _)⟩
  case round =>
    obtain ⟨i, rfl, hi, hw1⟩ := hrel
    by_cases hlt : i ≤ L
    · have i0 : (0 : Int) ≤ (i : Int) := by omega
      have i1 : (i : Int) ≤ (L : Int) := by omega
      go_wp2_with fail
      go_loopw [17] (fun j_ w' => ∃ j : Nat, j_ = .int .i64 j ∧ i ≤ j ∧ j ≤ L + 1 ∧ Hid (Below w13.heap.size w13 w')) (fun j_ _ => L + 1 - (intOf j_).toNat)
      case atStart => exact ⟨i, rfl, by omega, by omega, hw1⟩
      case round =>
        obtain ⟨j, rfl, hij, hj, hw2⟩ := hrel
        by_cases hjt : j ≤ L
        · have j0 : (0 : Int) ≤ (j : Int) := by omega
          have j1 : (j : Int) ≤ (L : Int) := by omega
          have ij1 : (i : Int) ≤ (j : Int) := by omega
          have TW := (TB13.out.next hw2.out).next (Below.refl _ _).drew
          obtain ⟨pp, gg, hA, hpl, hgs, hgl, s1, s2⟩ := TW.num (Nat.le_refl _) (i := i) (j := j) (by omega) (by omega)
          subst hA
          have HS := Lib.hid (fun (W : World) (h : Below wr.heap.size wr W) => show W.cell? ⟨pp, i, none⟩ = some (.slice (some ⟨gg, 0, none⟩) N1 N1) ∧ W.cell? ⟨gg, j, none⟩ = some (.int .i64 (Y i j)) from by
            have hd : ∀ {p : Addr}, p.block < wr.heap.size → wr.drew.cell? p = wr.cell? p := fun hp => (Below.refl wr.heap.size wr).drew.cell hp
            refine ⟨(h.cell (p := ⟨pp, i, none⟩) (by simpa using hpl)).trans ((hd (p := ⟨pp, i, none⟩) (by simpa using hpl)).symm.trans s1), (h.cell (p := ⟨gg, j, none⟩) (by simpa using hgl)).trans ((hd (p := ⟨gg, j, none⟩) (by simpa using hgl)).symm.trans s2)⟩)
          have hex := Lib.hid (hseg.out i j hij (by omega))
          have ik : (i : Int) < (N1 : Int) := by omega
          have jk : (j : Int) < (N1 : Int) := by omega
          have hyv := hY.out i j (by omega) (by omega)
          rw [if_neg (by omega)] at hyv
          rw [hyv] at HS
          have CF := Lib.hid (fun W => FS.out (seg P i j) W (segL.out i j).2 (by have := (segL.out i j).1; omega) M (by omega) (by omega))
          have c13r := Lib.hid (hw2.out)
          clear hgs hyv s1 s2 TW
          go_wp2_with fail
          refine wp_region_N (fun W => W.cell? ⟨pp, i, none⟩ = some (.slice (some ⟨gg, 0, none⟩) N1 N1) ∧ W.cell? ⟨gg, j, none⟩ = some (.int .i64 (((sq (seg P i j) u : Nat) : Int) % M))) [] (by kernel_rfl) ?_
          have hS0 := HS.out wr.drew (Below.refl _ _).drew
          refine wpAnyN_take (i := 0) (v := ?_) rfl (by kernel_rfl) (fun _ _ _ h => h) (by rfl) (fun W hW => ?_) hS0 ?_
          rotate_left
          · obtain ⟨z0, z1⟩ := hW
            go_simp
            try with_reducible rfl
          try simp only [List.getElem_toArray, List.getElem_cons_zero, List.getElem_cons_succ, Act.put, List.setIfInBounds_toArray, List.set_cons_zero, List.set_cons_succ]
          refine wpAnyN_take (i := 1) (v := ?_) rfl (by kernel_rfl) (fun _ _ _ h => h) (by rfl) (fun W hW => ?_) hS0 ?_
          rotate_left
          · obtain ⟨z0, z1⟩ := hW
            go_simp
            try with_reducible rfl
          try simp only [List.getElem_toArray, List.getElem_cons_zero, List.getElem_cons_succ, Act.put, List.setIfInBounds_toArray, List.set_cons_zero, List.set_cons_succ]
          refine wpAnyN_take (i := 2) (v := ?_) rfl (by kernel_rfl) (fun _ _ _ h => h) (by rfl) (fun W hW => ?_) hS0 ?_
          rotate_left
          · obtain ⟨z0, z1⟩ := hW
            go_simp
            try with_reducible rfl
          try simp only [List.getElem_toArray, List.getElem_cons_zero, List.getElem_cons_succ, Act.put, List.setIfInBounds_toArray, List.set_cons_zero, List.set_cons_succ]
          refine wpAnyN_take (i := 3) (v := ?_) rfl (by kernel_rfl) (fun _ _ _ h => h) (by rfl) (fun W hW => ?_) hS0 ?_
          rotate_left
          · obtain ⟨z0, z1⟩ := hW
            go_simp
            try with_reducible rfl
          try simp only [List.getElem_toArray, List.getElem_cons_zero, List.getElem_cons_succ, Act.put, List.setIfInBounds_toArray, List.set_cons_zero, List.set_cons_succ]
          refine wpAnyN_take (i := 4) (v := ?_) rfl (by kernel_rfl) (fun _ _ _ h => h) (by rfl) (fun W hW => ?_) hS0 ?_
          rotate_left
          · obtain ⟨z0, z1⟩ := hW
            go_simp
            try with_reducible rfl
          try simp only [List.getElem_toArray, List.getElem_cons_zero, List.getElem_cons_succ, Act.put, List.setIfInBounds_toArray, List.set_cons_zero, List.set_cons_succ]
          refine wpAnyN_take (i := 5) (v := ?_) rfl (by kernel_rfl) (fun _ _ _ h => h) (by rfl) (fun W hW => ?_) hS0 ?_
          rotate_left
          · obtain ⟨z0, z1⟩ := hW
            go_simp
            try with_reducible rfl
          try simp only [List.getElem_toArray, List.getElem_cons_zero, List.getElem_cons_succ, Act.put, List.setIfInBounds_toArray, List.set_cons_zero, List.set_cons_succ]
          refine wpAnyN_take (i := 6) (v := ?_) rfl (by kernel_rfl) (fun _ _ _ h => h) (by rfl) (fun W hW => ?_) hS0 ?_
          rotate_left
          · obtain ⟨z0, z1⟩ := hW
            go_simp
            try with_reducible rfl
          try simp only [List.getElem_toArray, List.getElem_cons_zero, List.getElem_cons_succ, Act.put, List.setIfInBounds_toArray, List.set_cons_zero, List.set_cons_succ]
          refine wpAnyN_take (i := 7) (v := ?_) rfl (by kernel_rfl) (fun _ _ _ h => h) (by rfl) (fun W hW => ?_) hS0 ?_
          rotate_left
          · obtain ⟨z0, z1⟩ := hW
            go_simp
            try with_reducible rfl
          try simp only [List.getElem_toArray, List.getElem_cons_zero, List.getElem_cons_succ, Act.put, List.setIfInBounds_toArray, List.set_cons_zero, List.set_cons_succ]
          refine wpAnyN_take (i := 8) (v := ?_) rfl (by kernel_rfl) (fun _ _ _ h => h) (by rfl) (fun W hW => ?_) hS0 ?_
          rotate_left
          · obtain ⟨z0, z1⟩ := hW
            go_simp
            try with_reducible rfl
          try simp only [List.getElem_toArray, List.getElem_cons_zero, List.getElem_cons_succ, Act.put, List.setIfInBounds_toArray, List.set_cons_zero, List.set_cons_succ]
          refine wpAnyN_take (i := 9) (v := ?_) rfl (by kernel_rfl) (fun _ _ _ h => h) (by rfl) (fun W hW => ?_) hS0 ?_
          rotate_left
          · obtain ⟨z0, z1⟩ := hW
            go_simp
            try with_reducible rfl
          try simp only [List.getElem_toArray, List.getElem_cons_zero, List.getElem_cons_succ, Act.put, List.setIfInBounds_toArray, List.set_cons_zero, List.set_cons_succ]
          refine wpAnyN_take (i := 10) (v := ?_) rfl (by kernel_rfl) (fun _ _ _ h => h) (by rfl) (fun W hW => ?_) hS0 ?_
          rotate_left
          · obtain ⟨z0, z1⟩ := hW
            go_simp
            try with_reducible rfl
          try simp only [List.getElem_toArray, List.getElem_cons_zero, List.getElem_cons_succ, Act.put, List.setIfInBounds_toArray, List.set_cons_zero, List.set_cons_succ]
          refine wpAnyN_take (i := 11) (v := ?_) rfl (by kernel_rfl) (fun _ _ _ h => h) (by rfl) (fun W hW => ?_) hS0 ?_
          rotate_left
          · obtain ⟨z0, z1⟩ := hW
            go_simp
            try with_reducible rfl
          try simp only [List.getElem_toArray, List.getElem_cons_zero, List.getElem_cons_succ, Act.put, List.setIfInBounds_toArray, List.set_cons_zero, List.set_cons_succ]
          refine wpAnyN_take (i := 12) (v := ?_) rfl (by kernel_rfl) (fun _ _ _ h => h) (by rfl) (fun W hW => ?_) hS0 ?_
          rotate_left
          · obtain ⟨z0, z1⟩ := hW
            go_simp
            try with_reducible rfl
          try simp only [List.getElem_toArray, List.getElem_cons_zero, List.getElem_cons_succ, Act.put, List.setIfInBounds_toArray, List.set_cons_zero, List.set_cons_succ]
          refine wpAnyN_next (i := 13) rfl (by kernel_rfl) (fun K hK => ?_)
          go_simp
          rw [hex.out]
          go_wp2_with (go_at_call 21; refine (CF.out _).mono ?_; rintro e wz ⟨rfl, hbz⟩)
          have bz : Below wr.heap.size wr wz := (Below.refl _ _).drew.trans hbz
          have hS1 := HS.out wz bz
          refine hK.out _ _ (fun _ => hS1) ?_
          clear hK K hS0
          try simp only [List.getElem_toArray, List.getElem_cons_zero, List.getElem_cons_succ, Act.put, List.setIfInBounds_toArray, List.set_cons_zero, List.set_cons_succ]
          refine wpAnyN_next (i := 14) rfl (by kernel_rfl) (fun K hK => ?_)
          go_simp
          refine hK.out _ _ (fun _ => hS1) ?_
          clear hK K
          refine wpAnyN_done (by kernel_rfl) ?_ _
          go_wp2_with fail
          go_roundw
          case rel => exact ⟨j + 1, by go_num, by omega, by omega, Lib.hid (hw2.out.trans (bz.mono hw2.out.size))⟩
          case measure => simp [intOf]; omega
        · obtain rfl : j = L + 1 := by omega
          have j1 : ¬ ((L : Int) + 1 ≤ (L : Int)) := by omega
          go_wp2_with fail
          go_roundw
          case rel => exact ⟨i + 1, by go_num, by omega, hw2⟩
          case measure => simp [intOf]; omega
    · obtain rfl : i = L + 1 := by omega
      have i1 : ¬ ((L : Int) + 1 ≤ (L : Int)) := by omega
      have c14 := Lib.hid (c13.out.trans (hw1.out.mono c13.out.size))
      have BG14 := Lib.hid (BG13.out.next hw1.out)
      have TB14 := Lib.hid (TB13.out.next hw1.out)
      generalize hwr : wr = w14 at *
      clear c13 BG13 TB13 hw1
      have g_BG := BG14.out.cell 0
      have l_BG := BG14.out.lt
      go_wp2_with fail
      refine (TN.out w14 c14.out).mono ?_
      rintro e w15 ⟨A20, c20, rfl, ownt, hb⟩
      have c15 := Lib.hid (c14.out.trans (hb.mono c14.out.size))
      have BG15 := Lib.hid (BG14.out.next hb)
      have TB15 := Lib.hid (TB14.out.next hb)
      have OT15 := Lib.hid ownt
      clear ownt
      clear hb c14 BG14 TB14
      clear g_BG l_BG
      have g_BG := BG15.out.cell 0
      have l_BG := BG15.out.lt
      go_wp2_with fail
      refine namedC fun w16 H => ?_
      have hal := Lib.hid (show Below w15.heap.size w15 w16 by rw [H.out]; exact (Below.refl _ _).alloc (Nat.le_refl _) _)
      have c16 := Lib.hid (c15.out.trans (hal.out.mono c15.out.size))
      have BG16 := Lib.hid (BG15.out.next hal.out)
      have TB16 := Lib.hid (TB15.out.next hal.out)
      have OT16 := Lib.hid (own_next OT15.out hal.out)
      have BT16 := Lib.hid (show Blk w16 w15.heap.size 26 #[.slice A20 (turnL rs).length c20] by rw [H.out]; exact Blk.new _ _ _)
      clear g_BG l_BG
      clear H hal c15 BG15 TB15
      have ST := Lib.hid (fun W (h : Below w16.heap.size w16 W) => TS.out A20 c20 W M (by omega) (by omega) (Rd.of_own (fun x _ => fac_len x) rfl (own_next OT16.out h)))
      clear OT16 OT15
      refine (TWD.out w16).mono ?_
      rintro e w17 ⟨rfl, hb⟩
      have hTW := Lib.hid hb
      have c17 := Lib.hid (c16.out.trans (hb.mono c16.out.size))
      have BG17 := Lib.hid (BG16.out.next hb)
      have BT17 := Lib.hid (BT16.out.next hb)
      have TB17 := Lib.hid (TB16.out.next hb)
      clear hb c16 BG16 BT16 TB16
      have g_BG := BG17.out.cell 0
      have l_BG := BG17.out.lt
      have g_BT := BT17.out.cell 0
      have l_BT := BT17.out.lt
      go_wp2_with fail
      refine (ST.out w17 hTW.out).mono ?_
      rintro e w18 ⟨rfl, hb⟩
      have c18 := Lib.hid (c17.out.trans (hb.mono c17.out.size))
      have BG18 := Lib.hid (BG17.out.next hb)
      have BT18 := Lib.hid (BT17.out.next hb)
      have TB18 := Lib.hid (TB17.out.next hb)
      clear hb ST hTW c17 BG17 BT17 TB17
      clear g_BG l_BG g_BT l_BT
      clear BT18
      have g_BG := BG18.out.cell 0
      have l_BG := BG18.out.lt
      go_wp2_with fail
      refine (HG.out w18 c18.out).mono ?_
      rintro e w19 ⟨A30, c30, hh, rfl, gi, hv, hb⟩
      have c19 := Lib.hid (c18.out.trans (hb.mono c18.out.size))
      have BG19 := Lib.hid (BG18.out.next hb)
      have TB19 := Lib.hid (TB18.out.next hb)
      have GI := Lib.hid gi
      clear gi
      clear hb c18 BG18 TB18
      clear g_BG l_BG
      have hp5 := GI.out.pos
      have hn5 : hh.length ≤ 400 := by obtain ⟨_, _, h, _⟩ := big_lens GI.out.ok; exact h
      have R5 := Lib.hid (fun W (h : Below w19.heap.size w19 W) => (GI.out.next h))
      have JG := Lib.hid (fun W (h : Below w19.heap.size w19 W) (h6 : Below w6.heap.size w6 W) => joinG_any A3 N3 c3 rs A30 hh.length c30 hh W hp3 hp5 (RR.out W h6) (Rd.of_own (fun x _ => fac_len x) rfl (R5.out W h).own) hwf.out GI.out.wf hgo.out GI.out.ok)
      have SH := Lib.hid (fun W (h : Below w19.heap.size w19 W) => OS.out hh A30 c30 W M (by omega) (by omega) (by omega) (Rd.of_own (fun x _ => fac_len x) rfl (R5.out W h).own) GI.out.wf GI.out.ok)
      have hZ := Lib.hid (scTop_word (m := M) GI.out.wf HP4.out)
      have JW := Lib.hid (And.intro (join_wf hwf.out GI.out.wf) (And.intro (join_word hwf.out GI.out.wf) (join_len (gs := rs) (hs := hh) (by omega) (by omega))))
      clear R5 GI
      have OSS := OS
      generalize scTop hh (tx P) M = Z at *
      generalize joinL rs hh = J at *
      generalize wdN hh = v at *
      have cH0 := Lib.hid (Below.refl w19.heap.size w19)
      have g_BG := BG19.out.cell 0
      have l_BG := BG19.out.lt
      go_wp2_with fail
      refine namedC fun w20 H => ?_
      have hal := Lib.hid (show Below w19.heap.size w19 w20 by rw [H.out]; exact (Below.refl _ _).alloc (Nat.le_refl _) _)
      have c20 := Lib.hid (c19.out.trans (hal.out.mono c19.out.size))
      have BG20 := Lib.hid (BG19.out.next hal.out)
      have TB20 := Lib.hid (TB19.out.next hal.out)
      have cH := Lib.hid (cH0.out.trans (hal.out.mono (Nat.le_refl _)))
      have BH20 := Lib.hid (show Blk w20 w19.heap.size 26 #[.slice A30 hh.length c30] by rw [H.out]; exact Blk.new _ _ _)
      clear g_BG l_BG
      clear H hal c19 BG19 TB19
      rcases hok : (gOk J).isSome with _ | _
      · have hF : limF J = [] := by unfold limF; rw [hok]; rfl
        have hC : limC J = 3 := by unfold limC; rw [hok]; rfl
        unfold RetGC at JG
        rw [hF, hC] at JG
        refine (JG.out w20 cH.out c20.out).mono ?_
        rintro e w21 ⟨A25, c25, rfl, own25, hb⟩
        have c21 := Lib.hid (c20.out.trans (hb.mono c20.out.size))
        have cH2 := Lib.hid (cH.out.trans (hb.mono cH.out.size))
        have BG21 := Lib.hid (BG20.out.next hb)
        have BH21 := Lib.hid (BH20.out.next hb)
        have TB21 := Lib.hid (TB20.out.next hb)
        have O25 := Lib.hid own25
        clear own25 hb c20 cH hF hC JG BG20 BH20 TB20
        have g_BH := BH21.out.cell 0
        have l_BH := BH21.out.lt
        go_wp2_with fail
        refine namedC fun w22 H => ?_
        have hal := Lib.hid (show Below w21.heap.size w21 w22 by rw [H.out]; exact (Below.refl _ _).alloc (Nat.le_refl _) _)
        have c22 := Lib.hid (c21.out.trans (hal.out.mono c21.out.size))
        have cH3 := Lib.hid (cH2.out.trans (hal.out.mono cH2.out.size))
        have TB22 := Lib.hid (TB21.out.next hal.out)
        clear H hal c21 cH2 O25 BG21 BH21 TB21
        clear g_BH l_BH
        refine (SH.out w22 cH3.out).mono ?_
        rintro e w23 ⟨A27, c27, gt, rfl, tab, hb⟩
        have c23 := Lib.hid (c22.out.trans (hb.mono c22.out.size))
        have TB23 := Lib.hid (TB22.out.next hb)
        have TC := Lib.hid tab
        clear hb tab c22 TB22 cH3 SH
        go_wp2_with fail
        go_ret
        exact ⟨rfl, bw.out _ c23.out⟩
      · have hF : limF J = J := by unfold limF; rw [hok]; rfl
        have hC : limC J = 0 := by unfold limC; rw [hok]; rfl
        unfold RetGC at JG
        rw [hF, hC] at JG
        refine (JG.out w20 cH.out c20.out).mono ?_
        rintro e w21 ⟨A25, c25, rfl, own25, hb⟩
        have c21 := Lib.hid (c20.out.trans (hb.mono c20.out.size))
        have cH2 := Lib.hid (cH.out.trans (hb.mono cH.out.size))
        have BG21 := Lib.hid (BG20.out.next hb)
        have BH21 := Lib.hid (BH20.out.next hb)
        have TB21 := Lib.hid (TB20.out.next hb)
        have O25 := Lib.hid own25
        clear own25 hb c20 cH hF hC JG BG20 BH20 TB20
        have g_BH := BH21.out.cell 0
        have l_BH := BH21.out.lt
        go_wp2_with fail
        refine namedC fun w22 H => ?_
        have hal := Lib.hid (show Below w21.heap.size w21 w22 by rw [H.out]; exact (Below.refl _ _).alloc (Nat.le_refl _) _)
        have c22 := Lib.hid (c21.out.trans (hal.out.mono c21.out.size))
        have cH3 := Lib.hid (cH2.out.trans (hal.out.mono cH2.out.size))
        have TB22 := Lib.hid (TB21.out.next hal.out)
        have BJ22 := Lib.hid (show Blk w22 w21.heap.size 26 #[.slice A25 J.length c25] by rw [H.out]; exact Blk.new _ _ _)
        have O26 := Lib.hid (own_next O25.out hal.out)
        clear H hal c21 cH2 O25 BG21 BH21 TB21
        clear g_BH l_BH
        refine (SH.out w22 cH3.out).mono ?_
        rintro e w23 ⟨A27, c27, gt, rfl, tab, hb⟩
        have c23 := Lib.hid (c22.out.trans (hb.mono c22.out.size))
        have TB23 := Lib.hid (TB22.out.next hb)
        have TC := Lib.hid tab
        have BJ23 := Lib.hid (BJ22.out.next hb)
        have O27 := Lib.hid (own_next O26.out hb)
        clear O26 BJ22
        clear hb tab c22 TB22 cH3 SH
        have OJ := Lib.hid (fun W (h : Below w23.heap.size w23 W) => OC.out J A25 c25 W M (by omega) (by omega) P HP4.out (by omega) (by have := JW.out.2.2; omega) (Rd.of_own (fun x _ => fac_len x) rfl (own_next O27.out h)) JW.out.1 hok)
        rw [JW.out.2.1, hu] at OJ
        have hall := Lib.hid (show ((sq P (u ++ v) : Nat) : Int) % M = ((sN (fun k => sq (P.take k) u * sq (P.drop k) v) (L + 1) : Nat) : Int) % M by rw [sq_app, hL])
        rw [hall.out] at OJ
        clear hok hall O27 JW
        go_wp2_with fail
        go_loopw [29, 30] (fun s_ k_ w' => ∃ q : Nat, k_ = .int .i64 q ∧ s_ = .int .i64 (((sN (fun k => sq (P.take k) u * sq (P.drop k) v) q : Nat) : Int) % M) ∧ q ≤ L + 1 ∧ Hid (Below w23.heap.size w23 w')) (fun _ k_ _ => L + 1 - (intOf k_).toNat)
        case atStart => exact ⟨0, rfl, by show _ = Value.int .i64 (((0 : Nat) : Int) % M); simp, by omega, Lib.hid (Below.refl _ _)⟩
        case round =>
          obtain ⟨q, rfl, rfl, hq, hw1⟩ := hrel
          by_cases hlt : q ≤ L
          · have q0 : (0 : Int) ≤ (q : Int) := by omega
            have q1 : (q : Int) ≤ (L : Int) := by omega
            have TW := (TB23.out.next hw1.out).next (Below.refl _ _).drew
            have TV := (TC.out.next hw1.out).next (Below.refl _ _).drew
            obtain ⟨pp, gg, hA, hpl, hgs, hgl, s1, s2⟩ := TW.num (Nat.le_refl _) (i := 0) (j := q) (by omega) (by omega)
            obtain ⟨pv, gv, hA2, hpl2, hgs2, hgl2, s3, s4⟩ := TV.num (Nat.le_refl _) (i := q) (j := L) (by omega) (by omega)
            subst hA
            subst hA2
            have hy1 := hY.out 0 q (by omega) (by omega)
            have hy2 := hZ.out q L (by omega) (by omega)
            rw [if_neg (by omega), show seg P 0 q = P.take q by unfold seg; rw [List.drop_zero, Nat.sub_zero]] at hy1
            rw [if_neg (by omega), show seg P q L = P.drop q by unfold seg; rw [List.take_of_length_le (by rw [List.length_drop]; omega)]] at hy2
            rw [hy1] at s2
            rw [hy2] at s4
            have hst := Lib.hid (show ((sN (fun k => sq (P.take k) u * sq (P.drop k) v) (q + 1) : Nat) : Int) % M = (((sN (fun k => sq (P.take k) u * sq (P.drop k) v) q : Nat) : Int) % M + ((sq (P.take q) u : Nat) : Int) % M * (((sq (P.drop q) v : Nat) : Int) % M)) % M by
              show ((sN (fun k => sq (P.take k) u * sq (P.drop k) v) q + sq (P.take q) u * sq (P.drop q) v : Nat) : Int) % M = _
              rw [Int.natCast_add, Int.natCast_mul]
              exact (md_add (Int.emod_emod _ _) (md_mul (Int.emod_emod _ _) (Int.emod_emod _ _))).symm)
            have r0 := Int.emod_nonneg ((sN (fun k => sq (P.take k) u * sq (P.drop k) v) q : Nat) : Int) (show M ≠ 0 by omega)
            have r1 := Int.emod_lt_of_pos ((sN (fun k => sq (P.take k) u * sq (P.drop k) v) q : Nat) : Int) (show 0 < M by omega)
            have x0 := Int.emod_nonneg ((sq (P.take q) u : Nat) : Int) (show M ≠ 0 by omega)
            have x1 := Int.emod_lt_of_pos ((sq (P.take q) u : Nat) : Int) (show 0 < M by omega)
            have y0 := Int.emod_nonneg ((sq (P.drop q) v : Nat) : Int) (show M ≠ 0 by omega)
            have y1 := Int.emod_lt_of_pos ((sq (P.drop q) v : Nat) : Int) (show 0 < M by omega)
            generalize hsn : ((sN (fun k => sq (P.take k) u * sq (P.drop k) v) (q + 1) : Nat) : Int) % M = sn at *
            generalize ((sN (fun k => sq (P.take k) u * sq (P.drop k) v) q : Nat) : Int) % M = so at *
            generalize ((sq (P.take q) u : Nat) : Int) % M = va at *
            generalize ((sq (P.drop q) v : Nat) : Int) % M = vb at *
            have z0 := mul_b x0 (show va ≤ 1000000000 by omega) y0 (show vb ≤ 1000000000 by omega)
            have z2 : va * vb ≤ 1002001 := Int.le_trans (Int.mul_le_mul (show va ≤ 1001 by omega) (show vb ≤ 1001 by omega) y0 (by decide)) (by decide)
            obtain ⟨z00, z01⟩ := z0
            have um1 : IntKind.i64.wrap (va * vb) = va * vb := IntWalk.i64_in _ (by omega)
            have um2 : IntKind.i64.wrap (so + va * vb) = so + va * vb := IntWalk.i64_in _ (by omega)
            have up1 : wrap64 (va * vb) = va * vb := IntWalk.wrap64_in _ (by omega)
            have up2 : wrap64 (so + va * vb) = so + va * vb := IntWalk.wrap64_in _ (by omega)
            have mne : ¬ (M = 0) := by omega
            have n0 : (0 : Int) < (N1 : Int) := by omega
            have qn : (q : Int) < (N1 : Int) := by omega
            have ln : (L : Int) < (N1 : Int) := by omega
            have l0 : (0 : Int) ≤ (L : Int) := by omega
            clear TW TV hgs hgs2 hy1 hy2
            go_wp2_with fail
            go_region
            all_goals
              go_wp2_with fail
              go_roundw
              case rel => exact ⟨q + 1, by go_num, by rw [hsn, hst.out], by omega, Lib.hid (hw1.out.trans ((Below.refl _ _).drew.mono hw1.out.size))⟩
              case measure => simp [intOf]; omega
          · obtain rfl : q = L + 1 := by omega
            have q1 : ¬ ((L : Int) + 1 ≤ (L : Int)) := by omega
            have cz := Lib.hid (c23.out.trans (hw1.out.mono c23.out.size))
            have BJz := Lib.hid (BJ23.out.next hw1.out)
            have g0 := BJz.out.cell 0
            have gl := BJz.out.lt
            generalize ((sN (fun k => sq (P.take k) u * sq (P.drop k) v) (L + 1) : Nat) : Int) % M = so at *
            go_wp2_with fail
            refine (OJ.out _ hw1.out).mono ?_
            rintro e wy ⟨rfl, hb⟩
            have cy := Lib.hid (cz.out.trans (hb.mono cz.out.size))
            go_wp2_with fail
            go_ret
            exact ⟨rfl, bw.out _ cy.out⟩
set_option maxRecDepth 100000 in
theorem fnScattered_contract (H : Type) (enc : TypeId × Value → H) (W : World) (base : Nat) (args : Array Value) (ds gs : List (DataW H)) (before : List MemPlace)
    (hval : ∀ (j : Nat) t v, Try.f4.params[j]? = some t → args[j]? = some v → Value.okWide Try.prog W .any base t v)
    (hW : DataW.Whole enc Try.prog Try.f4.params.toList Rows.fnScatteredSpec.vars false W args.toList ds gs before) :
    Calls Try.prog 4 args W fun e W' => ∃ v, e = .returned v ∧ Rows.fnScatteredSpec.post enc Try.prog Try.f4 false true false false W args v W' := by
  have hW' := hW
  obtain ⟨p, q, hA0, hV, rfl, hfz, hnd⟩ := hW
  have hA : DataW.TrodAll enc Try.prog W 0 (fun _ => true) true Try.f4.params.toList args.toList ds p := hA0
  rw [Try.params4] at hA hval
  obtain ⟨v0, vs0, d0, ds0, p0, q0, hargs, rfl, rfl, h0, r0⟩ := trodAll_cons hA
  obtain ⟨v1, vs1, d1, ds1, p1, q1, rfl, rfl, rfl, h1, r1⟩ := trodAll_cons r0
  obtain ⟨rfl, rfl, rfl⟩ := trodAll_nil r1
  obtain rfl : args = #[v0, v1] := by cases args; simp_all
  obtain ⟨rfl, rfl⟩ := trodVars_none hV
  obtain ⟨A0, n0, c0, zs0, rfl, hn0, rd0, ok0⟩ := open_bytes Try.underlying22 Try.underlying5 (by kernel_rfl) (hval 0 22 v0 rfl rfl) h0
  obtain ⟨A1, n1, c1, zs1, rfl, hn1, rd1, ok1⟩ := open_bytes Try.underlying22 Try.underlying5 (by kernel_rfl) (hval 1 22 v1 rfl rfl) h1
  clear hA0
  refine (walkSc A0 n0 c0 zs0 A1 n1 c1 zs1 W hn0 rd0 ok0 hn1 rd1 ok1).mono fun e W' ⟨he, hb⟩ => ?_
  subst he
  exact ⟨_, rfl, law_post laidOut hW' rfl 4 Try.underlying4 (by kernel_rfl) (by rw [Try.params4]; intro t ht; simp at ht; first | (subst ht; exact ⟨by kernel_rfl, of_decide_eq_true (by kernel_rfl)⟩) | (rcases ht with rfl | rfl <;> exact ⟨by kernel_rfl, of_decide_eq_true (by kernel_rfl)⟩) | (rcases ht with rfl | rfl | rfl <;> exact ⟨by kernel_rfl, of_decide_eq_true (by kernel_rfl)⟩) | (rcases ht with rfl | rfl | rfl | rfl <;> exact ⟨by kernel_rfl, of_decide_eq_true (by kernel_rfl)⟩)) rfl hb⟩

set_option maxRecDepth 100000 in
theorem fnScattered_lifted (os : Os) (started : os.Started) (H : Type) (enc : TypeId × Value → H) :
    ReturnsInHanded {} Try.checked os 4 .any (Rows.fnScatteredSpec.pre6 enc Try.prog Try.f4 Rows.fnScatteredRow.domain false) (Rows.fnScatteredSpec.post enc Try.prog Try.f4 false true false false) := by
  refine returnsInHanded_of_change (C := Try.checked) own started (by kernel_rfl) Try.func4
    (ChangeSpec.witness6 (enc := enc) (C := Try.checked) false ⟨#[], #[.slice none 0 0, .slice none 0 0], []⟩ 8 (by kernel_rfl) (by kernel_rfl) (by kernel_rfl) (by kernel_rfl)) ?_
  intro W base args ds gs before hval0 hW hcnd _
  exact fnScattered_contract H enc W base args ds gs before hval0 hW

theorem fnScattered_holds : Rows.FnScatteredSaid :=
  OpenClaim.holds_of_wide 4 Try.f4 rfl rfl rfl rfl rfl rfl rfl ⟨rfl, rfl, rfl, rfl, rfl⟩ rfl rfl rfl rfl rfl (by as_aux_lemma => kernel_rfl) Try.func4
    (joined_mk (by as_aux_lemma => kernel_rfl) laidOut mapsRowed' (by as_aux_lemma => kernel_rfl) (by as_aux_lemma => kernel_rfl) (by as_aux_lemma => kernel_rfl) (by as_aux_lemma => kernel_rfl) (by as_aux_lemma => kernel_rfl) (by as_aux_lemma => kernel_rfl) plainKeys' rfl heard' mayEnter' lifts' make' (by as_aux_lemma => kernel_rfl))
    (of_decide_eq_true (by kernel_rfl)) (by unfold Func.isWrapper; first | (rw [if_pos (by decide +kernel)]; kernel_rfl) | (rw [if_neg (by decide +kernel)]; exact ⟨rfl, rfl⟩))
    (fun os started H enc _ => fnScattered_lifted os started H enc)

end Go.Proofs.Ytgdbpkpaacbhhaa
