/-
  The statement FnSparePower: for all bytes, a pattern is scattered in the word that is drawn as often, one behind the other, as is told, and not once more; in a long word never more often than its first letter. No condition.
-/
import Derived.Test.YtecnkmndmnefdaaP6

namespace Go.Proofs.Ytecnkmndmnefdaa
open Go.ChangeShapes Go.WideShapes Go.ChangeAt Go.RowKit

theorem spareV_word {rs : List Fac} {P : List Nat} (hg : (gOk rs).isSome = true) (hP : PatOk P) : spareV rs (tx P) = tup2 ((mtc P 0 (wdN rs) / P.length : Nat) : Int) 0 := by
  obtain ⟨ls, hls, _, _⟩ := big_lens hg
  have h0 := hP.pos
  have h1 := hP.few
  rw [spareV4 hg (okW_tx hP.lt (by omega)) (by rw [tx_size]; omega), spTop_word (wf_of hls) hP.lt h0, tx_size, Int.natCast_ediv]
theorem pat_one {l : Nat} (h : l < 4) : PatOk [l] := ⟨by simp, by simp, fun x hx => by simp at hx; omega⟩
theorem tx_one (l : Nat) : tx [l] = ⟨#[UInt8.ofNat (97 + l)]⟩ := rfl
theorem letT_tx1 {l : Nat} (h : l < 4) : letT (tx [l]) = true ∧ letN (tx [l]) = l := by
  match l, h with
  | 0, _ => exact ⟨rfl, rfl⟩
  | 1, _ => exact ⟨rfl, rfl⟩
  | 2, _ => exact ⟨rfl, rfl⟩
  | 3, _ => exact ⟨rfl, rfl⟩
theorem rankV_all {rs : List Fac} (hg : (gOk rs).isSome = true) {l : Nat} (h : l < 4) : rankV rs (tx [l]) ((wdN rs).length : Int) = tup2 (((wdN rs).count l : Nat) : Int) 0 := by
  obtain ⟨ls, hls, _, _⟩ := big_lens hg
  have hlast := last_word hls
  rw [rankV4 hls hg (letT_tx1 h).1 (by unfold inB; rw [hlast]; simp), (letT_tx1 h).2, rkT_word hls h, Int.toNat_natCast, List.take_length]; rfl
theorem tx_first {P : List Nat} (h : 0 < P.length) : (tx P).extract 0 1 = tx [P.getD 0 0] := by
  have e : ((tx P).extract 0 1).data = (tx [P.getD 0 0]).data := by
    apply Array.ext'
    rw [ByteArray.data_extract, Array.toList_extract, tx_toList]
    show ((txB P).drop 0).take (1 - 0) = [UInt8.ofNat (97 + P.getD 0 0)]
    obtain ⟨x, r, rfl⟩ := List.exists_cons_of_ne_nil (List.length_pos_iff.1 h)
    rfl
  exact ByteArray.ext e
set_option maxHeartbeats 16000000 in
set_option maxRecDepth 100000 in
theorem walkSp (A : Option Addr) (n c : Nat) (zs : List Int) (D : Option Addr) (m d : Nat) (ys : List Int) (w : World)
    (hn : n ≤ maxLen) (hx : Rd w w.heap.size A n 1 (fun z => [.int .u8 z]) zs) (ox : ∀ z ∈ zs, 0 ≤ z ∧ z < 256) (hm : m ≤ maxLen) (hy : Rd w w.heap.size D m 1 (fun z => [.int .u8 z]) ys) (oy : ∀ z ∈ ys, 0 ≤ z ∧ z < 256) :
    Calls Try.prog 5 #[.slice A n c, .slice D m d] w (Ret (.bool true) w) := by
  by_cases h1 : 4096 < n
  · have h1' := Lib.hid (decide_eq_true h1)
    go_enter Try.func5, Try.ntmps5
    go_wp2_with fail
    refine (f6big_any A n c w hn true h1'.out).mono ?_
    rintro e w1 ⟨rfl, hb1⟩
    go_wp2_with fail
    go_ret
    exact ⟨rfl, hb1⟩
  by_cases h2 : 4096 < m
  · have h1' := Lib.hid (decide_eq_false h1)
    have h2' := Lib.hid (decide_eq_true h2)
    go_enter Try.func5, Try.ntmps5
    go_wp2_with fail
    refine (f6big_any A n c w hn false h1'.out).mono ?_
    rintro e w1 ⟨rfl, hb1⟩
    go_wp2_with fail
    refine (f6big_any D m d w1 hm true h2'.out).mono ?_
    rintro e w2 ⟨rfl, hb2⟩
    go_wp2_with fail
    go_ret
    exact ⟨rfl, hb1.trans (hb2.mono hb1.size)⟩
  have h1' := Lib.hid (decide_eq_false h1)
  have h2' := Lib.hid (decide_eq_false h2)
  have hbs := Lib.hid (hx.bytes ox)
  have hds := Lib.hid (hy.bytes oy)
  clear hx hy ox oy
  go_enter Try.func5, Try.ntmps5
  go_wp2_with fail
  refine (f6big_any A n c w hn false h1'.out).mono ?_
  rintro e w1 ⟨rfl, hb1⟩
  go_wp2_with fail
  refine (f6big_any D m d w1 hm false h2'.out).mono ?_
  rintro e w2 ⟨rfl, hb2⟩
  have b2 := Lib.hid (hb1.trans (hb2.mono hb1.size))
  clear hb1 hb2
  go_wp2_with fail
  refine (p6Grammar_any A n c _ w2 (by omega) (hbs.out.next b2.out)).mono ?_
  rintro e w3 ⟨A3, c3, rs, rfl, ok3, own3, hb3⟩
  have b3 := Lib.hid (b2.out.trans (hb3.mono b2.out.size))
  have R3 := Lib.hid (Rd.of_own (fun x _ => fac_len x) rfl own3)
  have hgo := ok3.gok
  have hwf := ok3.wf
  have hfew := ok3.few
  have hl8 := ok3.len
  have Z3 := Lib.hid (wf_sz ok3.wf)
  have hup : 0 < (wdN rs).length := by rw [wdN_pos ok3.pos]; exact List.length_pos_iff.2 (wds_pos ok3.wf (by have := ok3.pos; omega))
  clear ok3 own3 hb3 b2
  have SV := Lib.hid (fun (P : List Nat) (hP : PatOk P) => spareV_word hgo hP)
  have IM := Lib.hid (fun W (hb : Below w3.heap.size w3 W) (P : List Nat) (hP : PatOk P) => implSpare_any A3 rs.length c3 rs (tx P) W (by omega) (R3.out.next hb) Z3.out (by rw [tx_size]; have := hP.few; unfold maxLen; omega))
  have SM := Lib.hid (fun W (hb : Below w3.heap.size w3 W) (P : List Nat) (hP : PatOk P) => specSpare_any A3 rs.length c3 rs (tx P) W (by omega) (R3.out.next hb) Z3.out (by rw [tx_size]; have := hP.few; unfold maxLen; omega))
  have EM := Lib.hid (fun W (hb : Below w3.heap.size w3 W) (P : List Nat) (hP : PatOk P) (k : Nat) (hk : k * P.length ≤ 2000) => implEmbF_any A3 rs.length c3 rs (tx (rep P k)) W (by omega) (R3.out.next hb) Z3.out (by rw [tx_size, rep_len]; unfold maxLen; omega))
  have EC := Lib.hid (fun (P : List Nat) (hP : PatOk P) (k : Nat) (hk : k * P.length ≤ 2000) => embFC_rep hgo hP.lt hP.pos hk)
  have PT := Lib.hid (fun W (hb : Below w3.heap.size w3 W) => p6Pattern_any D m d _ A3 rs.length c3 rs W (by omega) (hds.out.next (b3.out.trans (hb.mono b3.out.size))) (R3.out.next hb) hgo hup (by omega))
  have HGE := Lib.hid (fun W (hb : Below w3.heap.size w3 W) => p6Huge_any A n c _ W (by omega) (hbs.out.next (b3.out.trans (hb.mono b3.out.size))))
  clear hgo hwf Z3 R3 hbs hds h1 h2
  generalize wdN rs = u at *
  generalize rs.length = N3 at *
  go_wp2_with fail
  refine namedC fun w4 H4 => ?_
  have c4 := Lib.hid (show Below w3.heap.size w3 w4 by rw [H4.out]; (repeat first | exact Below.refl _ _ | assumption | refine Below.drew ?_ | refine Below.alloc ?_ (by first | exact Nat.le_refl _ | (simp; done) | omega | (simp; omega)) _ | refine Below.setCell ?_ (by first | exact Nat.le_refl _ | (simp; done) | omega | (simp; omega)) _))
  have BG4 := Lib.hid (show Blk w4 w3.heap.size 26 #[.slice A3 N3 c3] by rw [H4.out]; exact Blk.new _ _ _)
  clear H4
  refine (PT.out w4 c4.out).mono ?_
  rintro e w5 ⟨P, rfl, hP, hb5⟩
  have c5 := Lib.hid (c4.out.trans (hb5.mono c4.out.size))
  have BG5 := Lib.hid (BG4.out.next hb5)
  have HP := Lib.hid hP
  clear c4 BG4 hb5 PT
  have IM1 := Lib.hid (fun W hb => IM.out W hb P HP.out)
  have SM1 := Lib.hid (fun W hb => SM.out W hb P HP.out)
  rw [SV.out P HP.out] at IM1 SM1
  have hml := mtc_le P u 0
  obtain ⟨k, hk⟩ : ∃ k, mtc P 0 u / P.length = k := ⟨_, rfl⟩
  rw [hk] at IM1 SM1
  have hkm : k * P.length ≤ mtc P 0 u := by rw [← hk]; exact Nat.div_mul_le_self _ _
  have hkn : mtc P 0 u < (k + 1) * P.length := by rw [← hk]; have := Nat.lt_div_mul_add hP.pos (a := mtc P 0 u); rw [Nat.succ_mul]; exact this
  have hk8 : (k + 1) * P.length ≤ 2000 := by rw [Nat.succ_mul]; have := hP.few; omega
  have E1 := Lib.hid (fun W hb => EM.out W hb P HP.out k (by omega))
  have E2 := Lib.hid (fun W hb => EM.out W hb P HP.out (k + 1) hk8)
  unfold RetNewC at E1 E2
  rw [EC.out P HP.out k (by omega), if_pos hkm] at E1
  rw [EC.out P HP.out (k + 1) hk8, if_neg (by omega)] at E2
  have PW := Lib.hid (fun W => powerWord_any P k W HP.out.lt (by omega) HP.out.pos (by have := HP.out.few; omega))
  have hcat := Lib.hid (show tx (rep P k) ++ tx P = tx (rep P (k + 1)) from (tx_app (rep P k) P).symm)
  have hfirst := Lib.hid (tx_first HP.out.pos)
  have p04 : P.getD 0 0 < 4 := by
    rw [List.getD_eq_getElem?_getD, List.getElem?_eq_getElem HP.out.pos]; exact HP.out.lt _ (List.getElem_mem _)
  have hxs := tx_size P
  have hx0 : 0 < (tx P).size := by have := hP.pos; omega
  have hx4 : (tx P).size ≤ 4 := by have := hP.few; omega
  have HUV := Lib.hid (fun (hs : List Fac) (hg : (gOk hs).isSome = true) => spareV_word hg HP.out)
  have HU1 := Lib.hid (fun (hs : List Fac) (hg : (gOk hs).isSome = true) => spareV_word hg (pat_one p04))
  have HRK := Lib.hid (fun (hs : List Fac) (hg : (gOk hs).isSome = true) => rankV_all hg p04)
  have HLE := Lib.hid (fun (U : List Nat) => show mtc P 0 U / P.length ≤ U.count (P.getD 0 0) from by
    have h := mtc_first P U 0 HP.out.pos
    rw [if_pos rfl, Nat.add_zero] at h
    exact Nat.div_le_of_le_mul h)
  unfold tup2 at IM1 SM1
  have hx1s : (tx (rep P k)).size ≤ 2000 := by rw [tx_size, rep_len]; omega
  have hP4 := hP.few
  have hP1i : (1 : Int) ≤ (P.length : Int) := by have := hP.pos; omega
  clear hkm hkn hml SV IM SM EM EC hP
  generalize rep P (k + 1) = Q2 at *
  generalize rep P k = Q1 at *
  generalize P.getD 0 0 = p0 at *
  generalize hxP : tx P = x at *
  generalize tx Q1 = x1 at *
  generalize tx Q2 = x2 at *
  have g0 := BG5.out.cell 0
  have gl := BG5.out.lt
  go_wp2_with fail
  refine (IM1.out w5 c5.out).mono ?_
  rintro e w6 ⟨rfl, hb6⟩
  have c6 := Lib.hid (c5.out.trans (hb6.mono c5.out.size))
  have BG6 := Lib.hid (BG5.out.next hb6)
  clear c5 BG5 hb6 g0 gl
  have g0 := BG6.out.cell 0
  have gl := BG6.out.lt
  go_wp2_with fail
  refine (SM1.out w6 c6.out).mono ?_
  rintro e w7 ⟨rfl, hb7⟩
  have c7 := Lib.hid (c6.out.trans (hb7.mono c6.out.size))
  have BG7 := Lib.hid (BG6.out.next hb7)
  clear c6 BG6 hb7 g0 gl
  go_wp2_with fail
  refine (PW.out w7).mono ?_
  rintro e w8 ⟨rfl, hb8⟩
  have c8 := Lib.hid (c7.out.trans (hb8.mono c7.out.size))
  have BG8 := Lib.hid (BG7.out.next hb8)
  clear c7 BG7 hb8
  have g0 := BG8.out.cell 0
  have gl := BG8.out.lt
  go_wp2_with fail
  refine (E1.out w8 c8.out).mono ?_
  rintro e w9 ⟨A9', c9', rfl, _, hb9⟩
  have c9 := Lib.hid (c8.out.trans (hb9.mono c8.out.size))
  have BG9 := Lib.hid (BG8.out.next hb9)
  clear c8 BG8 hb9 g0 gl
  have g0 := BG9.out.cell 0
  have gl := BG9.out.lt
  go_wp2_with fail
  rw [hcat.out]
  refine (E2.out w9 c9.out).mono ?_
  rintro e w10 ⟨A10, c10', rfl, _, hb10⟩
  have c10 := Lib.hid (c9.out.trans (hb10.mono c9.out.size))
  clear c9 BG9 hb10 g0 gl
  go_wp2_with fail
  refine (HGE.out w10 c10.out).mono ?_
  rintro e w11 ⟨A9, c9, hs, rfl, gi, hu, hb11⟩
  have b11 := Lib.hid (b3.out.trans ((c10.out.trans (hb11.mono c10.out.size)).mono b3.out.size))
  have R9 := Lib.hid (Rd.of_own (fun x _ => fac_len x) rfl gi.own)
  have Z9 := Lib.hid (wf_sz gi.wf)
  have G9 := Lib.hid gi.ok
  have hn9 : hs.length ≤ 400 := by obtain ⟨_, _, h, _⟩ := big_lens gi.ok; exact h
  have SPI := Lib.hid (fun W (hb : Below w11.heap.size w11 W) => implSpare_any A9 hs.length c9 hs x W (by omega) (R9.out.next hb) Z9.out (by unfold maxLen; omega))
  have SPS := Lib.hid (fun W (hb : Below w11.heap.size w11 W) => specSpare_any A9 hs.length c9 hs x W (by omega) (R9.out.next hb) Z9.out (by unfold maxLen; omega))
  have SP1 := Lib.hid (fun W (hb : Below w11.heap.size w11 W) => implSpare_any A9 hs.length c9 hs (tx [p0]) W (by omega) (R9.out.next hb) Z9.out (by rw [tx_size]; show 1 ≤ maxLen; unfold maxLen; omega))
  have RK := Lib.hid (fun W (hb : Below w11.heap.size w11 W) => implRank_any A9 hs.length c9 hs (tx [p0]) ((wdN hs).length : Int) W (by omega) (R9.out.next hb) Z9.out (by rw [tx_size]; show 1 ≤ maxLen; unfold maxLen; omega) (by omega))
  have FL := Lib.hid (fun W (hb : Below w11.heap.size w11 W) => f6length_any A9 hs.length c9 hs W (R9.out.next hb) G9.out)
  rw [HUV.out hs G9.out] at SPI SPS
  rw [HU1.out hs G9.out] at SP1
  rw [HRK.out hs G9.out] at RK
  rw [show ([p0] : List Nat).length = 1 from rfl, Nat.div_one, mtc_one] at SP1
  have hle := HLE.out (wdN hs)
  generalize (wdN hs).count p0 = ct at *
  generalize mtc P 0 (wdN hs) / P.length = kk at *
  generalize (wdN hs).length = ln at *
  generalize hs.length = N9 at *
  generalize tx [p0] = y at *
  have HE := hfirst
  unfold tup2 at SPI SPS SP1 RK
  have hle' : (kk : Int) ≤ (ct : Int) := by omega
  clear gi R9 Z9 G9 HUV HU1 HRK HLE hb11 c10 IM1 SM1 E1 E2 PW hcat HGE hfirst
  go_wp2_with fail
  refine namedC fun w12' H12 => ?_
  have c12' := Lib.hid (show Below w11.heap.size w11 w12' by rw [H12.out]; (repeat first | exact Below.refl _ _ | assumption | refine Below.drew ?_ | refine Below.alloc ?_ (by first | exact Nat.le_refl _ | (simp; done) | omega | (simp; omega)) _ | refine Below.setCell ?_ (by first | exact Nat.le_refl _ | (simp; done) | omega | (simp; omega)) _))
  have BL2 := Lib.hid (show Blk w12' w11.heap.size 26 #[.slice A9 N9 c9] by rw [H12.out]; exact Blk.new _ _ _)
  clear H12
  refine (SPI.out w12' c12'.out).mono ?_
  rintro e w12 ⟨rfl, hb12⟩
  have c12 := Lib.hid (c12'.out.trans (hb12.mono c12'.out.size))
  have BL3 := Lib.hid (BL2.out.next hb12)
  clear c12' BL2 hb12
  have g0 := BL3.out.cell 0
  have gl := BL3.out.lt
  go_wp2_with fail
  refine (SPS.out w12 c12.out).mono ?_
  rintro e w13 ⟨rfl, hb13⟩
  have c13 := Lib.hid (c12.out.trans (hb13.mono c12.out.size))
  have BL4 := Lib.hid (BL3.out.next hb13)
  clear c12 BL3 hb13 g0 gl
  go_upto_region 15 with fail
  refine wp_region_N (fun W => W.cell? ⟨w11.heap.size, 0, none⟩ = some (.slice A9 N9 c9)) [] (by kernel_rfl) ?_
  have hS0 : w13.drew.cell? ⟨w11.heap.size, 0, none⟩ = some (.slice A9 N9 c9) := BL4.out.drew.cell 0
  refine wpAnyN_take (i := 0) (v := ?_) rfl (by kernel_rfl) (fun _ _ _ h => h) (by rfl) (fun W hW => ?_) hS0 ?_
  rotate_left
  · have z0 := hW
    go_simp
    try with_reducible rfl
  try simp only [List.getElem_toArray, List.getElem_cons_zero, List.getElem_cons_succ, Act.put, List.setIfInBounds_toArray, List.set_cons_zero, List.set_cons_succ]
  refine wpAnyN_take (i := 1) (v := ?_) rfl (by kernel_rfl) (fun _ _ _ h => h) (by rfl) (fun W hW => ?_) hS0 ?_
  rotate_left
  · have z0 := hW
    go_simp
    try with_reducible rfl
  try simp only [List.getElem_toArray, List.getElem_cons_zero, List.getElem_cons_succ, Act.put, List.setIfInBounds_toArray, List.set_cons_zero, List.set_cons_succ]
  refine wpAnyN_take (i := 2) (v := ?_) rfl (by kernel_rfl) (fun _ _ _ h => h) (by rfl) (fun W hW => ?_) hS0 ?_
  rotate_left
  · have z0 := hW
    go_simp
    try with_reducible rfl
  try simp only [List.getElem_toArray, List.getElem_cons_zero, List.getElem_cons_succ, Act.put, List.setIfInBounds_toArray, List.set_cons_zero, List.set_cons_succ]
  refine wpAnyN_next (i := 3) rfl (by kernel_rfl) (fun K hK => ?_)
  go_simp
  rw [HE.out]
  go_wp2_with (go_at_call 25; refine (SP1.out _ (c13.out.trans ((Below.refl _ _).drew.mono c13.out.size))).mono ?_; rintro e w14 ⟨rfl, hb14⟩)
  have c14 := Lib.hid ((c13.out.trans ((Below.refl _ _).drew.mono c13.out.size)).trans (hb14.mono (by have := c13.out.size; simpa using this)))
  have BL5 := Lib.hid (BL4.out.drew.next hb14)
  refine hK.out _ _ (fun _ => BL5.out.cell 0) ?_
  clear hK K hS0 hb14 c13 BL4
  try simp only [List.getElem_toArray, List.getElem_cons_zero, List.getElem_cons_succ, Act.put, List.setIfInBounds_toArray, List.set_cons_zero, List.set_cons_succ]
  have hS0 := BL5.out.cell 0
  refine wpAnyN_take (i := 4) (v := ?_) rfl (by kernel_rfl) (fun _ _ _ h => h) (by rfl) (fun W hW => ?_) hS0 ?_
  rotate_left
  · have z0 := hW
    go_simp
    try with_reducible rfl
  try simp only [List.getElem_toArray, List.getElem_cons_zero, List.getElem_cons_succ, Act.put, List.setIfInBounds_toArray, List.set_cons_zero, List.set_cons_succ]
  refine wpAnyN_take (i := 5) (v := ?_) rfl (by kernel_rfl) (fun _ _ _ h => h) (by rfl) (fun W hW => ?_) hS0 ?_
  rotate_left
  · have z0 := hW
    go_simp
    try with_reducible rfl
  try simp only [List.getElem_toArray, List.getElem_cons_zero, List.getElem_cons_succ, Act.put, List.setIfInBounds_toArray, List.set_cons_zero, List.set_cons_succ]
  refine wpAnyN_take (i := 6) (v := ?_) rfl (by kernel_rfl) (fun _ _ _ h => h) (by rfl) (fun W hW => ?_) hS0 ?_
  rotate_left
  · have z0 := hW
    go_simp
    try with_reducible rfl
  try simp only [List.getElem_toArray, List.getElem_cons_zero, List.getElem_cons_succ, Act.put, List.setIfInBounds_toArray, List.set_cons_zero, List.set_cons_succ]
  refine wpAnyN_next (i := 7) rfl (by kernel_rfl) (fun K hK => ?_)
  go_simp
  refine hK.out _ _ (fun _ => hS0) ?_
  clear hK K
  try simp only [List.getElem_toArray, List.getElem_cons_zero, List.getElem_cons_succ, Act.put, List.setIfInBounds_toArray, List.set_cons_zero, List.set_cons_succ]
  refine wpAnyN_next (i := 8) rfl (by kernel_rfl) (fun K hK => ?_)
  go_simp
  refine hK.out _ _ (fun _ => hS0) ?_
  clear hK K hS0
  try simp only [List.getElem_toArray, List.getElem_cons_zero, List.getElem_cons_succ, Act.put, List.setIfInBounds_toArray, List.set_cons_zero, List.set_cons_succ]
  refine wpAnyN_done (by kernel_rfl) ?_ _
  go_upto_region 16 with fail
  refine wp_region_N (fun W => W.cell? ⟨w11.heap.size, 0, none⟩ = some (.slice A9 N9 c9)) [] (by kernel_rfl) ?_
  have hS0 : w14.drew.cell? ⟨w11.heap.size, 0, none⟩ = some (.slice A9 N9 c9) := BL5.out.drew.cell 0
  refine wpAnyN_take (i := 0) (v := ?_) rfl (by kernel_rfl) (fun _ _ _ h => h) (by rfl) (fun W hW => ?_) hS0 ?_
  rotate_left
  · have z0 := hW
    go_simp
    try with_reducible rfl
  try simp only [List.getElem_toArray, List.getElem_cons_zero, List.getElem_cons_succ, Act.put, List.setIfInBounds_toArray, List.set_cons_zero, List.set_cons_succ]
  refine wpAnyN_take (i := 1) (v := ?_) rfl (by kernel_rfl) (fun _ _ _ h => h) (by rfl) (fun W hW => ?_) hS0 ?_
  rotate_left
  · have z0 := hW
    go_simp
    try with_reducible rfl
  try simp only [List.getElem_toArray, List.getElem_cons_zero, List.getElem_cons_succ, Act.put, List.setIfInBounds_toArray, List.set_cons_zero, List.set_cons_succ]
  refine wpAnyN_take (i := 2) (v := ?_) rfl (by kernel_rfl) (fun _ _ _ h => h) (by rfl) (fun W hW => ?_) hS0 ?_
  rotate_left
  · have z0 := hW
    go_simp
    try with_reducible rfl
  try simp only [List.getElem_toArray, List.getElem_cons_zero, List.getElem_cons_succ, Act.put, List.setIfInBounds_toArray, List.set_cons_zero, List.set_cons_succ]
  refine wpAnyN_take (i := 3) (v := ?_) rfl (by kernel_rfl) (fun _ _ _ h => h) (by rfl) (fun W hW => ?_) hS0 ?_
  rotate_left
  · have z0 := hW
    go_simp
    try with_reducible rfl
  try simp only [List.getElem_toArray, List.getElem_cons_zero, List.getElem_cons_succ, Act.put, List.setIfInBounds_toArray, List.set_cons_zero, List.set_cons_succ]
  refine wpAnyN_next (i := 4) rfl (by kernel_rfl) (fun K hK => ?_)
  go_simp
  rw [HE.out]
  go_wp2_with (go_at_call 21; refine (FL.out _ (c14.out.trans ((Below.refl _ _).drew.mono c14.out.size))).mono ?_; rintro e w15 ⟨rfl, hb15⟩)
  have c15 := Lib.hid ((c14.out.trans ((Below.refl _ _).drew.mono c14.out.size)).trans (hb15.mono (by have := c14.out.size; simpa using this)))
  have BL6 := Lib.hid (BL5.out.drew.next hb15)
  refine hK.out _ _ (fun _ => BL6.out.cell 0) ?_
  clear hK K hS0 hb15 c14 BL5
  try simp only [List.getElem_toArray, List.getElem_cons_zero, List.getElem_cons_succ, Act.put, List.setIfInBounds_toArray, List.set_cons_zero, List.set_cons_succ]
  refine wpAnyN_next (i := 5) rfl (by kernel_rfl) (fun K hK => ?_)
  go_simp
  go_wp2_with (go_at_call 10; refine (RK.out _ c15.out).mono ?_; rintro e w16 ⟨rfl, hb16⟩)
  have c16 := Lib.hid (c15.out.trans (hb16.mono c15.out.size))
  have BL7 := Lib.hid (BL6.out.next hb16)
  refine hK.out _ _ (fun _ => BL7.out.cell 0) ?_
  clear hK K hb16 c15 BL6
  try simp only [List.getElem_toArray, List.getElem_cons_zero, List.getElem_cons_succ, Act.put, List.setIfInBounds_toArray, List.set_cons_zero, List.set_cons_succ]
  have hS0 := BL7.out.cell 0
  refine wpAnyN_take (i := 6) (v := ?_) rfl (by kernel_rfl) (fun _ _ _ h => h) (by rfl) (fun W hW => ?_) hS0 ?_
  rotate_left
  · have z0 := hW
    go_simp
    try with_reducible rfl
  try simp only [List.getElem_toArray, List.getElem_cons_zero, List.getElem_cons_succ, Act.put, List.setIfInBounds_toArray, List.set_cons_zero, List.set_cons_succ]
  refine wpAnyN_take (i := 7) (v := ?_) rfl (by kernel_rfl) (fun _ _ _ h => h) (by rfl) (fun W hW => ?_) hS0 ?_
  rotate_left
  · have z0 := hW
    go_simp
    try with_reducible rfl
  try simp only [List.getElem_toArray, List.getElem_cons_zero, List.getElem_cons_succ, Act.put, List.setIfInBounds_toArray, List.set_cons_zero, List.set_cons_succ]
  refine wpAnyN_take (i := 8) (v := ?_) rfl (by kernel_rfl) (fun _ _ _ h => h) (by rfl) (fun W hW => ?_) hS0 ?_
  rotate_left
  · have z0 := hW
    go_simp
    try with_reducible rfl
  try simp only [List.getElem_toArray, List.getElem_cons_zero, List.getElem_cons_succ, Act.put, List.setIfInBounds_toArray, List.set_cons_zero, List.set_cons_succ]
  refine wpAnyN_next (i := 9) rfl (by kernel_rfl) (fun K hK => ?_)
  go_simp
  refine hK.out _ _ (fun _ => hS0) ?_
  clear hK K
  try simp only [List.getElem_toArray, List.getElem_cons_zero, List.getElem_cons_succ, Act.put, List.setIfInBounds_toArray, List.set_cons_zero, List.set_cons_succ]
  refine wpAnyN_next (i := 10) rfl (by kernel_rfl) (fun K hK => ?_)
  go_simp
  refine hK.out _ _ (fun _ => hS0) ?_
  clear hK K hS0
  try simp only [List.getElem_toArray, List.getElem_cons_zero, List.getElem_cons_succ, Act.put, List.setIfInBounds_toArray, List.set_cons_zero, List.set_cons_succ]
  refine wpAnyN_done (by kernel_rfl) ?_ _
  have hle2 := decide_eq_true hle'
  go_wp2_with fail
  go_ret
  exact ⟨rfl, b11.out.trans (c16.out.mono b11.out.size)⟩
set_option maxRecDepth 100000 in
theorem fnSparePower_contract (H : Type) (enc : TypeId × Value → H) (W : World) (base : Nat) (args : Array Value) (ds gs : List (DataW H)) (before : List MemPlace)
    (hval : ∀ (j : Nat) t v, Try.f5.params[j]? = some t → args[j]? = some v → Value.okWide Try.prog W .any base t v)
    (hW : DataW.Whole enc Try.prog Try.f5.params.toList Rows.fnSparePowerSpec.vars false W args.toList ds gs before) :
    Calls Try.prog 5 args W fun e W' => ∃ v, e = .returned v ∧ Rows.fnSparePowerSpec.post enc Try.prog Try.f5 false true false false W args v W' := by
  have hW' := hW
  obtain ⟨p, q, hA0, hV, rfl, hfz, hnd⟩ := hW
  have hA : DataW.TrodAll enc Try.prog W 0 (fun _ => true) true Try.f5.params.toList args.toList ds p := hA0
  rw [Try.params5] at hA hval
  obtain ⟨v0, vs0, d0, ds0, p0, q0, hargs, rfl, rfl, h0, r0⟩ := trodAll_cons hA
  obtain ⟨v1, vs1, d1, ds1, p1, q1, rfl, rfl, rfl, h1, r1⟩ := trodAll_cons r0
  obtain ⟨rfl, rfl, rfl⟩ := trodAll_nil r1
  obtain rfl : args = #[v0, v1] := by cases args; simp_all
  obtain ⟨rfl, rfl⟩ := trodVars_none hV
  obtain ⟨A0, n0, c0, zs0, rfl, hn0, rd0, ok0⟩ := open_bytes Try.underlying22 Try.underlying5 (by kernel_rfl) (hval 0 22 v0 rfl rfl) h0
  obtain ⟨A1, n1, c1, zs1, rfl, hn1, rd1, ok1⟩ := open_bytes Try.underlying22 Try.underlying5 (by kernel_rfl) (hval 1 22 v1 rfl rfl) h1
  clear hA0
  refine (walkSp A0 n0 c0 zs0 A1 n1 c1 zs1 W hn0 rd0 ok0 hn1 rd1 ok1).mono fun e W' ⟨he, hb⟩ => ?_
  subst he
  exact ⟨_, rfl, law_post laidOut hW' rfl 4 Try.underlying4 (by kernel_rfl) (by rw [Try.params5]; intro t ht; simp at ht; first | (subst ht; exact ⟨by kernel_rfl, of_decide_eq_true (by kernel_rfl)⟩) | (rcases ht with rfl | rfl <;> exact ⟨by kernel_rfl, of_decide_eq_true (by kernel_rfl)⟩) | (rcases ht with rfl | rfl | rfl <;> exact ⟨by kernel_rfl, of_decide_eq_true (by kernel_rfl)⟩) | (rcases ht with rfl | rfl | rfl | rfl <;> exact ⟨by kernel_rfl, of_decide_eq_true (by kernel_rfl)⟩)) rfl hb⟩

set_option maxRecDepth 100000 in
theorem fnSparePower_lifted (os : Os) (started : os.Started) (H : Type) (enc : TypeId × Value → H) :
    ReturnsInHanded {} Try.checked os 5 .any (Rows.fnSparePowerSpec.pre6 enc Try.prog Try.f5 Rows.fnSparePowerRow.domain false) (Rows.fnSparePowerSpec.post enc Try.prog Try.f5 false true false false) := by
  refine returnsInHanded_of_change (C := Try.checked) own started (by kernel_rfl) Try.func5
    (ChangeSpec.witness6 (enc := enc) (C := Try.checked) false ⟨#[], #[.slice none 0 0, .slice none 0 0], []⟩ 8 (by kernel_rfl) (by kernel_rfl) (by kernel_rfl) (by kernel_rfl)) ?_
  intro W base args ds gs before hval0 hW hcnd _
  exact fnSparePower_contract H enc W base args ds gs before hval0 hW

theorem fnSparePower_holds : Rows.FnSparePowerSaid :=
  OpenClaim.holds_of_wide 5 Try.f5 rfl rfl rfl rfl rfl rfl rfl ⟨rfl, rfl, rfl, rfl, rfl⟩ rfl rfl rfl rfl rfl (by as_aux_lemma => kernel_rfl) Try.func5
    (joined_mk (by as_aux_lemma => kernel_rfl) laidOut mapsRowed' (by as_aux_lemma => kernel_rfl) (by as_aux_lemma => kernel_rfl) (by as_aux_lemma => kernel_rfl) (by as_aux_lemma => kernel_rfl) (by as_aux_lemma => kernel_rfl) (by as_aux_lemma => kernel_rfl) plainKeys' rfl heard' mayEnter' lifts' make' (by as_aux_lemma => kernel_rfl))
    (of_decide_eq_true (by kernel_rfl)) (by unfold Func.isWrapper; first | (rw [if_pos (by decide +kernel)]; kernel_rfl) | (rw [if_neg (by decide +kernel)]; exact ⟨rfl, rfl⟩))
    (fun os started H enc _ => fnSparePower_lifted os started H enc)

end Go.Proofs.Ytecnkmndmnefdaa
