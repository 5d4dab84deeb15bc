/-
  The statement FnCoded: for all bytes, the grammar of a code has the code of the unpacked word, and its length is told without it. No condition.
-/
import Derived.Test.YtmdmgndhapdmgaaGreatP9

namespace Go.Proofs.YtmdmgndhapdmgaaGreat
open Go.ChangeShapes Go.WideShapes Go.ChangeAt Go.RowKit

set_option maxHeartbeats 16000000 in
set_option maxRecDepth 100000 in
theorem walkCo (A : Option Addr) (n c : Nat) (zs0 : List Int) (D : Option Addr) (m d : Nat) (ys : List Int) (w : World)
    (hn : n ≤ maxLen) (hx : Rd w w.heap.size A n 1 (fun z => [.int .u8 z]) zs0) (ox : ∀ z ∈ zs0, 0 ≤ z ∧ z < 256) (hm : m ≤ maxLen) (hy : Rd w w.heap.size D m 1 (fun z => [.int .u8 z]) ys) (oy : ∀ z ∈ ys, 0 ≤ z ∧ z < 256) :
    Calls Tryz.prog 3 #[.slice A n c, .slice D m d] w (Ret (.bool true) w) := by
  by_cases h1 : 4096 < n
  · have h1' := Lib.hid (decide_eq_true h1)
    go_enter Tryz.func3, Tryz.ntmps3
    go_wp2_with fail
    refine (f6big_any A n c w hn true h1'.out).mono ?_
    rintro e w1 ⟨rfl, hb1⟩
    go_wp2_with fail
    go_ret
    exact ⟨rfl, hb1⟩
  by_cases h2 : 4096 < m
  · have h1' := Lib.hid (decide_eq_false h1)
    have h2' := Lib.hid (decide_eq_true h2)
    go_enter Tryz.func3, Tryz.ntmps3
    go_wp2_with fail
    refine (f6big_any A n c w hn false h1'.out).mono ?_
    rintro e w1 ⟨rfl, hb1⟩
    go_wp2_with fail
    refine (f6big_any D m d w1 hm true h2'.out).mono ?_
    rintro e w2 ⟨rfl, hb2⟩
    go_wp2_with fail
    go_ret
    exact ⟨rfl, hb1.trans (hb2.mono hb1.size)⟩
  have h1' := Lib.hid (decide_eq_false h1)
  have h2' := Lib.hid (decide_eq_false h2)
  have hbs := Lib.hid (hx.bytes ox)
  have hds := Lib.hid (hy.bytes oy)
  clear hx hy ox oy
  have hn4 : n ≤ 4096 := by omega
  have hm4 : m ≤ 4096 := by omega
  go_enter Tryz.func3, Tryz.ntmps3
  go_wp2_with fail
  refine (f6big_any A n c w hn false h1'.out).mono ?_
  rintro e w1 ⟨rfl, hb1⟩
  go_wp2_with fail
  refine (f6big_any D m d w1 hm false h2'.out).mono ?_
  rintro e w2 ⟨rfl, hb2⟩
  have b2 := Lib.hid (hb1.trans (hb2.mono hb1.size))
  clear hb1 hb2 h1 h2
  go_wp2_with fail
  refine (p6Coder_any D m d _ w2 (by omega) (hds.out.next b2.out)).mono ?_
  rintro e w3 ⟨Sz, qz, N, n3, cn, nh, nx, Q, no, co, oh, ot, rfl, s1, s2, q1, q2, hnx, hot, tN, tO, hb3⟩
  have b3 := Lib.hid (b2.out.trans (hb3.mono b2.out.size))
  obtain ⟨S, rfl⟩ := Int.eq_ofNat_of_zero_le (show 0 ≤ Sz by omega)
  obtain ⟨q, rfl⟩ := Int.eq_ofNat_of_zero_le q1
  rw [Int.toNat_natCast] at hnx hot
  obtain rfl : n3 = S := by rw [← tN.lx]; exact hnx.len
  obtain rfl : no = n3 := by rw [← tO.lx]; exact hot.len
  obtain ⟨S, hS⟩ : ∃ S, no = S := ⟨_, rfl⟩
  subst hS
  have hS1 : 1 ≤ no := by omega
  have hS2 : no ≤ 24 := by omega
  have hq : q < no := by omega
  have RN3 := Lib.hid (tN.rd (fun _ => rfl))
  have RO3 := Lib.hid (tO.rd (fun _ => rfl))
  have Hnx := Lib.hid hnx
  have Hot := Lib.hid hot
  clear tN tO hb3 b2 hnx hot s1 s2 q1 q2
  go_wp2_with fail
  refine namedC fun w4 H4 => ?_
  have c4 := Lib.hid (show Below w3.heap.size w3 w4 by rw [H4.out]; (repeat first | exact Below.refl _ _ | assumption | refine Below.drew ?_ | refine Below.alloc ?_ (by first | exact Nat.le_refl _ | (simp; done) | omega | (simp; omega)) _ | refine Below.setCell ?_ (by first | exact Nat.le_refl _ | (simp; done) | omega | (simp; omega)) _))
  have BM4 := Lib.hid (show Blk w4 w3.heap.size 27 #[.int .i64 (no : Int), .int .i64 (q : Int), .slice N no cn, .slice Q no co] by rw [H4.out]; exact Blk.new _ _ _)
  clear H4
  refine (p6Grammar_any A n c _ w4 (by omega) (hbs.out.next (b3.out.trans (c4.out.mono b3.out.size)))).mono ?_
  rintro e w5 ⟨A5, c5, rs, rfl, dg, own5, hb5⟩
  have c45 := Lib.hid (c4.out.trans (hb5.mono c4.out.size))
  have BM5 := Lib.hid (BM4.out.next hb5)
  have O5 := Lib.hid own5
  obtain ⟨ls, hls⟩ := Option.isSome_iff_exists.1 dg.gok
  have Dg := Lib.hid dg
  have Hls := Lib.hid hls
  have hgl := (gOk_lens hls).1
  have hrl : rs.length ≤ 1048576 := by have := dg.few; omega
  have Hgl := Lib.hid hgl
  have Hsz := Lib.hid (wf_szU dg.wf)
  have hwl : (wdN rs).length ≤ 8 := by have := dg.len; omega
  have hul := wdN_let dg.wf
  have hcl := coW_len Hnx.out Hot.out (wdN rs) q hq hul
  have hcw := Lib.hid (cwR_word hS1 hS2 hq Hnx.out Hot.out hul (by omega))
  have hcn := Lib.hid (codN_code Hnx.out Hot.out hgl hq)
  have hcd := Lib.hid (cd_of hS1 hS2 hq Hnx.out Hot.out)
  have hxz : ∀ r ∈ nx, r.length ≤ 1048576 := fun r hr => by rw [(Hnx.out.row r hr).1]; omega
  have hoz : ∀ r ∈ ot, r.length ≤ 1048576 ∧ ∀ t ∈ r, t.size ≤ maxLen := fun r hr => ⟨by rw [(Hot.out.row r hr).1]; omega, fun t ht => by have := ((Hot.out.row r hr).2 t ht).2; unfold maxLen; omega⟩
  have Hxz := Lib.hid hxz
  have Hoz := Lib.hid hoz
  clear hb5 c4 BM4 own5 hxz hoz dg hls hgl hul
  go_wp2_with fail
  refine namedC fun w6 H6 => ?_
  have c56 := Lib.hid (show Below w5.heap.size w5 w6 by rw [H6.out]; (repeat first | exact Below.refl _ _ | assumption | refine Below.drew ?_ | refine Below.alloc ?_ (by first | exact Nat.le_refl _ | (simp; done) | omega | (simp; omega)) _ | refine Below.setCell ?_ (by first | exact Nat.le_refl _ | (simp; done) | omega | (simp; omega)) _))
  have BM6 := Lib.hid (show Blk w6 w3.heap.size 27 #[.int .i64 (no : Int), .int .i64 (q : Int), .slice N no cn, .slice Q no co] by rw [H6.out]; exact BM5.out.alloc _)
  have BG6 := Lib.hid (show Blk w6 w5.heap.size 31 #[.slice A5 rs.length c5] by rw [H6.out]; exact Blk.new _ _ _)
  have HF3 := Lib.hid (fun W (h : Below w6.heap.size w6 W) => c45.out.trans ((c56.out.trans (h.mono c56.out.size)).mono c45.out.size))
  have rN := Lib.hid (fun W h => RN3.out.next (HF3.out W h))
  have rO := Lib.hid (fun W h => RO3.out.next (HF3.out W h))
  have rG := Lib.hid (fun W (h : Below w6.heap.size w6 W) => Rd.of_own (fun x _ => fac_len x) rfl (own_next O5.out (c56.out.trans (h.mono c56.out.size))))
  have bs6 := Lib.hid (fun W (h : Below w6.heap.size w6 W) => hbs.out.next (b3.out.trans ((HF3.out W h).mono b3.out.size)))
  have bw := Lib.hid (fun W (h : Below w6.heap.size w6 W) => b3.out.trans ((HF3.out W h).mono b3.out.size))
  have c6 := Lib.hid (Below.refl w6.heap.size w6)
  clear H6 BM5 O5 c45 c56 RN3 RO3
  have UW := Lib.hid (fun W h => unpackWord_any A5 rs.length c5 rs ls W (rG.out W h) Hsz.out Hls.out (by omega))
  have CI := Lib.hid (fun W h => codeWI_any (no : Int) (q : Int) N Q no cn no co nh oh nx ot (tx (wdN rs)) W (by omega) (by omega) (rN.out W h) (rO.out W h) Hxz.out Hoz.out (by rw [tx_size]; unfold maxLen; omega))
  have CS := Lib.hid (fun W h => codeWS_any (no : Int) (q : Int) N Q no cn no co nh oh nx ot (tx (wdN rs)) W (by omega) (by omega) (rN.out W h) (rO.out W h) (fun r hr => (Hoz.out r hr).2) (by rw [tx_size]; unfold maxLen; omega))
  rw [hcw.out] at CI CS
  have GI := Lib.hid (fun (E : Option Addr) (ec : Nat) (xs : List Fac) W h (hl : xs.length ≤ 1048576) (hr : Rd W W.heap.size E xs.length 3 Fac.cells xs) (hz : ∀ f ∈ xs, f.l.size ≤ maxLen) => codeGI_any (no : Int) (q : Int) N Q no cn no co nh oh nx ot E xs.length ec xs W (by omega) (by omega) hl (rN.out W h) (rO.out W h) Hxz.out Hoz.out hr hz)
  have GS := Lib.hid (fun (E : Option Addr) (ec : Nat) (xs : List Fac) W h (hl : xs.length ≤ 1048576) (hr : Rd W W.heap.size E xs.length 3 Fac.cells xs) (hz : ∀ f ∈ xs, f.l.size ≤ maxLen) => codeGS_any (no : Int) (q : Int) N Q no cn no co nh oh nx ot E xs.length ec xs W (by omega) (by omega) hl (rN.out W h) (rO.out W h) (fun r hr => (Hoz.out r hr).2) hr hz)
  have CL := Lib.hid (fun (E : Option Addr) (ec : Nat) (xs : List Fac) (ls : List Int) W h (hl : xs.length ≤ 1048576) (hr : Rd W W.heap.size E xs.length 3 Fac.cells xs) (hz : ∀ f ∈ xs, f.l.size ≤ maxLen) (hg : gOk xs = some ls) => codedLen_any no q N Q cn co nh oh nx ot E xs.length ec xs ls W hS1 hS2 hq hl (rN.out W h) (rO.out W h) Hnx.out Hot.out hcd.out hr hg hz)
  have VC := Lib.hid (fun W h => validCoder_any (no : Int) (q : Int) N Q no cn no co nh oh nx ot W (by omega) (by omega) (rN.out W h) (rO.out W h) Hxz.out Hoz.out true hcd.out)
  have SG := Lib.hid (fun (E F : Option Addr) (ec fc : Nat) (xs : List Fac) W (hl : xs.length ≤ 1048576) (h1 : Rd W W.heap.size E xs.length 3 Fac.cells xs) (h2 : Rd W W.heap.size F xs.length 3 Fac.cells xs) => specSameG_any E F xs.length ec fc xs W (by unfold maxLen; omega) h1 h2)
  obtain ⟨eR, eC, eN⟩ := cgR_code hS1 hS2 hq Hnx.out Hot.out (rs := rs) (by rw [Hls.out]; rfl)
  have EW := Lib.hid (fun h => cg_word hS2 Hnx.out Hot.out Hgl.out hq h)
  have hTl := cgR_len (no : Int) (q : Int) nx ot rs
  have GI1 := Lib.hid (fun W h => GI.out A5 c5 rs W h hrl (rG.out W h) Hsz.out)
  have GS1 := Lib.hid (fun W h => GS.out A5 c5 rs W h hrl (rG.out W h) Hsz.out)
  have CL1 := Lib.hid (fun W h => CL.out A5 c5 rs ls W h hrl (rG.out W h) Hsz.out Hls.out)
  rw [eR] at hTl GI1 GS1
  have ecl : clnV (codN nx ot q rs) = (((coW nx ot q (wdN rs)).length : Int), 0) := by rw [hcn.out]; unfold clnV; rw [if_neg (by omega)]
  rw [ecl] at CL1
  have hsz2 : ((tx (coW nx ot q (wdN rs))).size : Int) = ((coW nx ot q (wdN rs)).length : Int) := by rw [tx_size]
  have hvl : (coW nx ot q (wdN rs)).length ≤ 2000 := by omega
  clear eR ecl eN hcw hcn
  generalize (cgL nx ot no q rs).1 = T at *
  generalize (cgL nx ot no q rs).2 = C at *
  generalize coW nx ot q (wdN rs) = v at *
  generalize tx (wdN rs) = u at *
  generalize htv : tx v = tv at *
  generalize ((v.length : Nat) : Int) = vl at *
  unfold RetGC at GI1 GS1
  obtain ⟨m0, m1, m2, m3⟩ := BM6.out.four
  have ml := BM6.out.lt
  have fBG := BG6.out.cell 0
  have lBG := BG6.out.lt
  go_wp2_with fail
  refine (UW.out w6 c6.out).mono ?_
  rintro e w7 ⟨rfl, hb⟩
  have c7 := Lib.hid (c6.out.trans (hb.mono c6.out.size))
  have BM7 := Lib.hid (BM6.out.next hb)
  have BG7 := Lib.hid (BG6.out.next hb)
  clear c6 BM6 BG6
  clear hb m0 m1 m2 m3 ml fBG lBG
  obtain ⟨m0, m1, m2, m3⟩ := BM7.out.four
  have ml := BM7.out.lt
  have fBG := BG7.out.cell 0
  have lBG := BG7.out.lt
  go_wp2_with fail
  refine (CI.out w7 c7.out).mono ?_
  rintro e w8 ⟨rfl, hb⟩
  have c8 := Lib.hid (c7.out.trans (hb.mono c7.out.size))
  have BM8 := Lib.hid (BM7.out.next hb)
  have BG8 := Lib.hid (BG7.out.next hb)
  clear c7 BM7 BG7
  clear hb m0 m1 m2 m3 ml fBG lBG
  obtain ⟨m0, m1, m2, m3⟩ := BM8.out.four
  have ml := BM8.out.lt
  have fBG := BG8.out.cell 0
  have lBG := BG8.out.lt
  go_wp2_with fail
  refine (CS.out w8 c8.out).mono ?_
  rintro e w9 ⟨rfl, hb⟩
  have c9 := Lib.hid (c8.out.trans (hb.mono c8.out.size))
  have BM9 := Lib.hid (BM8.out.next hb)
  have BG9 := Lib.hid (BG8.out.next hb)
  clear c8 BM8 BG8
  clear hb m0 m1 m2 m3 ml fBG lBG
  obtain ⟨m0, m1, m2, m3⟩ := BM9.out.four
  have ml := BM9.out.lt
  have fBG := BG9.out.cell 0
  have lBG := BG9.out.lt
  go_wp2_with fail
  refine (GI1.out w9 c9.out).mono ?_
  rintro e w10 ⟨A7, c7, rfl, own7, hb⟩
  have c10 := Lib.hid (c9.out.trans (hb.mono c9.out.size))
  have BM10 := Lib.hid (BM9.out.next hb)
  have BG10 := Lib.hid (BG9.out.next hb)
  clear c9 BM9 BG9
  have OI10 := Lib.hid own7
  clear hb m0 m1 m2 m3 ml fBG lBG
  obtain ⟨m0, m1, m2, m3⟩ := BM10.out.four
  have ml := BM10.out.lt
  have fBG := BG10.out.cell 0
  have lBG := BG10.out.lt
  go_wp2_with fail
  refine namedC fun w11 H => ?_
  have hb : Below w10.heap.size w10 w11 := by rw [H.out]; (repeat first | exact Below.refl _ _ | assumption | refine Below.drew ?_ | refine Below.alloc ?_ (by first | exact Nat.le_refl _ | (simp; done) | omega | (simp; omega)) _ | refine Below.setCell ?_ (by first | exact Nat.le_refl _ | (simp; done) | omega | (simp; omega)) _)
  have BIN := Lib.hid (show Blk w11 w10.heap.size 31 #[.slice A7 T.length c7] by rw [H.out]; exact Blk.new _ _ _)
  clear H
  have c11 := Lib.hid (c10.out.trans (hb.mono c10.out.size))
  have BM11 := Lib.hid (BM10.out.next hb)
  have BG11 := Lib.hid (BG10.out.next hb)
  have OI11 := Lib.hid (own_next OI10.out hb)
  clear c10 BM10 BG10 OI10
  have BI11 := BIN
  clear hb BIN m0 m1 m2 m3 ml fBG lBG
  refine (GS1.out w11 c11.out).mono ?_
  rintro e w12 ⟨A8, c8, rfl, own8, hb⟩
  have c12 := Lib.hid (c11.out.trans (hb.mono c11.out.size))
  have BM12 := Lib.hid (BM11.out.next hb)
  have BG12 := Lib.hid (BG11.out.next hb)
  have BI12 := Lib.hid (BI11.out.next hb)
  have OI12 := Lib.hid (own_next OI11.out hb)
  clear c11 BM11 BG11 BI11 OI11
  have OS12 := Lib.hid own8
  clear hb
  obtain ⟨m0, m1, m2, m3⟩ := BM12.out.four
  have ml := BM12.out.lt
  have fBG := BG12.out.cell 0
  have lBG := BG12.out.lt
  have fBI := BI12.out.cell 0
  have lBI := BI12.out.lt
  go_wp2_with fail
  refine namedC fun w13 H => ?_
  have hb : Below w12.heap.size w12 w13 := by rw [H.out]; (repeat first | exact Below.refl _ _ | assumption | refine Below.drew ?_ | refine Below.alloc ?_ (by first | exact Nat.le_refl _ | (simp; done) | omega | (simp; omega)) _ | refine Below.setCell ?_ (by first | exact Nat.le_refl _ | (simp; done) | omega | (simp; omega)) _)
  have BSN := Lib.hid (show Blk w13 w12.heap.size 31 #[.slice A8 T.length c8] by rw [H.out]; exact Blk.new _ _ _)
  clear H
  have c13 := Lib.hid (c12.out.trans (hb.mono c12.out.size))
  have BM13 := Lib.hid (BM12.out.next hb)
  have BG13 := Lib.hid (BG12.out.next hb)
  have BI13 := Lib.hid (BI12.out.next hb)
  have OI13 := Lib.hid (own_next OI12.out hb)
  have OS13 := Lib.hid (own_next OS12.out hb)
  clear c12 BM12 BG12 BI12 OI12 OS12
  have BS13 := BSN
  clear hb BSN m0 m1 m2 m3 ml fBG lBG fBI lBI
  refine (CL1.out w13 c13.out).mono ?_
  rintro e w14 ⟨rfl, hb⟩
  have c14 := Lib.hid (c13.out.trans (hb.mono c13.out.size))
  have BM14 := Lib.hid (BM13.out.next hb)
  have BG14 := Lib.hid (BG13.out.next hb)
  have BI14 := Lib.hid (BI13.out.next hb)
  have BS14 := Lib.hid (BS13.out.next hb)
  have OI14 := Lib.hid (own_next OI13.out hb)
  have OS14 := Lib.hid (own_next OS13.out hb)
  clear c13 BM13 BG13 BI13 BS13 OI13 OS13
  clear hb
  obtain ⟨m0, m1, m2, m3⟩ := BM14.out.four
  have ml := BM14.out.lt
  have fBG := BG14.out.cell 0
  have lBG := BG14.out.lt
  have fBI := BI14.out.cell 0
  have lBI := BI14.out.lt
  have fBS := BS14.out.cell 0
  have lBS := BS14.out.lt
  go_wp2_with fail
  refine (SG.out A7 A8 c7 c8 T w14 hTl (Rd.of_own (fun x _ => fac_len x) rfl OI14.out) (Rd.of_own (fun x _ => fac_len x) rfl OS14.out)).mono ?_
  rintro e w15 ⟨rfl, hb⟩
  have c15 := Lib.hid (c14.out.trans (hb.mono c14.out.size))
  have BM15 := Lib.hid (BM14.out.next hb)
  have BG15 := Lib.hid (BG14.out.next hb)
  have BI15 := Lib.hid (BI14.out.next hb)
  have BS15 := Lib.hid (BS14.out.next hb)
  have OI15 := Lib.hid (own_next OI14.out hb)
  have OS15 := Lib.hid (own_next OS14.out hb)
  clear c14 BM14 BG14 BI14 BS14 OI14 OS14
  clear hb m0 m1 m2 m3 ml fBG lBG fBI lBI fBS lBS
  obtain ⟨m0, m1, m2, m3⟩ := BM15.out.four
  have ml := BM15.out.lt
  have fBG := BG15.out.cell 0
  have lBG := BG15.out.lt
  have fBI := BI15.out.cell 0
  have lBI := BI15.out.lt
  have fBS := BS15.out.cell 0
  have lBS := BS15.out.lt
  go_wp2_with fail
  refine (VC.out w15 c15.out).mono ?_
  rintro e w16 ⟨rfl, hb⟩
  have c16 := Lib.hid (c15.out.trans (hb.mono c15.out.size))
  have BM16 := Lib.hid (BM15.out.next hb)
  have BG16 := Lib.hid (BG15.out.next hb)
  have BI16 := Lib.hid (BI15.out.next hb)
  have BS16 := Lib.hid (BS15.out.next hb)
  have OI16 := Lib.hid (own_next OI15.out hb)
  have OS16 := Lib.hid (own_next OS15.out hb)
  clear c15 BM15 BG15 BI15 BS15 OI15 OS15
  clear hb m0 m1 m2 m3 ml fBG lBG fBI lBI fBS lBS
  rcases eC with hC | hC
  · have hC0 : C = 0 := hC
    subst hC0
    obtain ⟨hgT, hwT⟩ := EW.out hC
    obtain ⟨lT, hlT⟩ := Option.isSome_iff_exists.1 hgT
    have UI := Lib.hid (fun (E : Option Addr) (ec : Nat) W (h : Rd W W.heap.size E T.length 3 Fac.cells T) => unpackWI_any E T.length ec T lT W h hlT (by rw [hwT]; exact hvl))
    rw [hwT, htv] at UI
    clear hgT hlT hwT EW hC GI1 GS1 CL1 UW CI CS VC
    obtain ⟨m0, m1, m2, m3⟩ := BM16.out.four
    have ml := BM16.out.lt
    have fBG := BG16.out.cell 0
    have lBG := BG16.out.lt
    have fBI := BI16.out.cell 0
    have lBI := BI16.out.lt
    have fBS := BS16.out.cell 0
    have lBS := BS16.out.lt
    go_wp2_with fail
    refine (UI.out A8 c8 w16 (Rd.of_own (fun x _ => fac_len x) rfl OS16.out)).mono ?_
    rintro e w17 ⟨rfl, hb⟩
    have c17 := Lib.hid (c16.out.trans (hb.mono c16.out.size))
    have BM17 := Lib.hid (BM16.out.next hb)
    have BG17 := Lib.hid (BG16.out.next hb)
    have BI17 := Lib.hid (BI16.out.next hb)
    have BS17 := Lib.hid (BS16.out.next hb)
    have OI17 := Lib.hid (own_next OI16.out hb)
    have OS17 := Lib.hid (own_next OS16.out hb)
    clear c16 BM16 BG16 BI16 BS16 OI16 OS16
    clear hb m0 m1 m2 m3 ml fBG lBG fBI lBI fBS lBS
    obtain ⟨m0, m1, m2, m3⟩ := BM17.out.four
    have ml := BM17.out.lt
    have fBG := BG17.out.cell 0
    have lBG := BG17.out.lt
    have fBI := BI17.out.cell 0
    have lBI := BI17.out.lt
    have fBS := BS17.out.cell 0
    have lBS := BS17.out.lt
    go_wp2_with fail
    refine (p6Huge_any A n c _ w17 (by omega) (bs6.out _ c17.out)).mono ?_
    rintro e w18 ⟨AH, ch, hs, rfl, gi, hu, hb⟩
    have c18 := Lib.hid (c17.out.trans (hb.mono c17.out.size))
    have BM18 := Lib.hid (BM17.out.next hb)
    have BG18 := Lib.hid (BG17.out.next hb)
    have BI18 := Lib.hid (BI17.out.next hb)
    have BS18 := Lib.hid (BS17.out.next hb)
    have OI18 := Lib.hid (own_next OI17.out hb)
    have OS18 := Lib.hid (own_next OS17.out hb)
    clear c17 BM17 BG17 BI17 BS17 OI17 OS17
    clear hb m0 m1 m2 m3 ml fBG lBG fBI lBI fBS lBS
    have OH18 := Lib.hid gi.own
    have hgo := gi.ok
    have Zh := Lib.hid (wf_szU gi.wf)
    obtain ⟨lh, hlh⟩ := Option.isSome_iff_exists.1 hgo
    have hhl : hs.length ≤ 1048576 := by have := (gOk_lens hlh).2.1; omega
    have Hlh := Lib.hid hlh
    obtain ⟨fR, fC, fN⟩ := cgR_code hS1 hS2 hq Hnx.out Hot.out hgo
    have FW := Lib.hid (fun (h : (cgL nx ot no q hs).2 = 0) => show (gOk (cgL nx ot no q hs).1).isSome = true ∧ (((wdN (cgL nx ot no q hs).1).length : Nat) : Int) = codN nx ot q hs from by
      obtain ⟨a1, a2⟩ := cg_word hS2 Hnx.out Hot.out (gOk_lens hlh).1 hq h
      exact ⟨a1, by rw [a2, codN_code Hnx.out Hot.out (gOk_lens hlh).1 hq]⟩)
    have hTl2 := cgR_len (no : Int) (q : Int) nx ot hs
    have GI2 := Lib.hid (fun (E : Option Addr) (ec : Nat) W h (hr : Rd W W.heap.size E hs.length 3 Fac.cells hs) => GI.out E ec hs W h hhl hr Zh.out)
    have GS2 := Lib.hid (fun (E : Option Addr) (ec : Nat) W h (hr : Rd W W.heap.size E hs.length 3 Fac.cells hs) => GS.out E ec hs W h hhl hr Zh.out)
    have CL2 := Lib.hid (fun (E : Option Addr) (ec : Nat) W h (hr : Rd W W.heap.size E hs.length 3 Fac.cells hs) => CL.out E ec hs lh W h hhl hr Zh.out Hlh.out)
    rw [fR] at hTl2 GI2 GS2
    clear gi hgo hlh fR
    generalize (cgL nx ot no q hs).1 = TH at *
    generalize (cgL nx ot no q hs).2 = CH at *
    generalize codN nx ot q hs = z at *
    unfold RetGC at GI2 GS2
    obtain ⟨m0, m1, m2, m3⟩ := BM18.out.four
    have ml := BM18.out.lt
    have fBG := BG18.out.cell 0
    have lBG := BG18.out.lt
    have fBI := BI18.out.cell 0
    have lBI := BI18.out.lt
    have fBS := BS18.out.cell 0
    have lBS := BS18.out.lt
    go_wp2_with fail
    refine namedC fun w19 H => ?_
    have hb : Below w18.heap.size w18 w19 := by rw [H.out]; (repeat first | exact Below.refl _ _ | assumption | refine Below.drew ?_ | refine Below.alloc ?_ (by first | exact Nat.le_refl _ | (simp; done) | omega | (simp; omega)) _ | refine Below.setCell ?_ (by first | exact Nat.le_refl _ | (simp; done) | omega | (simp; omega)) _)
    have BHN := Lib.hid (show Blk w19 w18.heap.size 31 #[.slice AH hs.length ch] by rw [H.out]; exact Blk.new _ _ _)
    clear H
    have c19 := Lib.hid (c18.out.trans (hb.mono c18.out.size))
    have BM19 := Lib.hid (BM18.out.next hb)
    have BG19 := Lib.hid (BG18.out.next hb)
    have BI19 := Lib.hid (BI18.out.next hb)
    have BS19 := Lib.hid (BS18.out.next hb)
    have OI19 := Lib.hid (own_next OI18.out hb)
    have OS19 := Lib.hid (own_next OS18.out hb)
    have OH19 := Lib.hid (own_next OH18.out hb)
    clear c18 BM18 BG18 BI18 BS18 OI18 OS18 OH18
    have BH19 := BHN
    clear hb BHN m0 m1 m2 m3 ml fBG lBG fBI lBI fBS lBS
    refine (CL2.out AH ch w19 c19.out (Rd.of_own (fun x _ => fac_len x) rfl OH19.out)).mono ?_
    rintro e w20 ⟨rfl, hb⟩
    have c20 := Lib.hid (c19.out.trans (hb.mono c19.out.size))
    have BM20 := Lib.hid (BM19.out.next hb)
    have BG20 := Lib.hid (BG19.out.next hb)
    have BI20 := Lib.hid (BI19.out.next hb)
    have BS20 := Lib.hid (BS19.out.next hb)
    have BH20 := Lib.hid (BH19.out.next hb)
    have OI20 := Lib.hid (own_next OI19.out hb)
    have OS20 := Lib.hid (own_next OS19.out hb)
    have OH20 := Lib.hid (own_next OH19.out hb)
    clear c19 BM19 BG19 BI19 BS19 BH19 OI19 OS19 OH19
    clear hb
    obtain ⟨m0, m1, m2, m3⟩ := BM20.out.four
    have ml := BM20.out.lt
    have fBG := BG20.out.cell 0
    have lBG := BG20.out.lt
    have fBI := BI20.out.cell 0
    have lBI := BI20.out.lt
    have fBS := BS20.out.cell 0
    have lBS := BS20.out.lt
    have fBH := BH20.out.cell 0
    have lBH := BH20.out.lt
    go_wp2_with fail
    refine (GI2.out AH ch w20 c20.out (Rd.of_own (fun x _ => fac_len x) rfl OH20.out)).mono ?_
    rintro e w21 ⟨A9, c9, rfl, own9, hb⟩
    have c21 := Lib.hid (c20.out.trans (hb.mono c20.out.size))
    have BM21 := Lib.hid (BM20.out.next hb)
    have BG21 := Lib.hid (BG20.out.next hb)
    have BI21 := Lib.hid (BI20.out.next hb)
    have BS21 := Lib.hid (BS20.out.next hb)
    have BH21 := Lib.hid (BH20.out.next hb)
    have OI21 := Lib.hid (own_next OI20.out hb)
    have OS21 := Lib.hid (own_next OS20.out hb)
    have OH21 := Lib.hid (own_next OH20.out hb)
    clear c20 BM20 BG20 BI20 BS20 BH20 OI20 OS20 OH20
    have OJ21 := Lib.hid own9
    clear hb m0 m1 m2 m3 ml fBG lBG fBI lBI fBS lBS fBH lBH
    obtain ⟨m0, m1, m2, m3⟩ := BM21.out.four
    have ml := BM21.out.lt
    have fBG := BG21.out.cell 0
    have lBG := BG21.out.lt
    have fBI := BI21.out.cell 0
    have lBI := BI21.out.lt
    have fBS := BS21.out.cell 0
    have lBS := BS21.out.lt
    have fBH := BH21.out.cell 0
    have lBH := BH21.out.lt
    go_wp2_with fail
    refine namedC fun w22 H => ?_
    have hb : Below w21.heap.size w21 w22 := by rw [H.out]; (repeat first | exact Below.refl _ _ | assumption | refine Below.drew ?_ | refine Below.alloc ?_ (by first | exact Nat.le_refl _ | (simp; done) | omega | (simp; omega)) _ | refine Below.setCell ?_ (by first | exact Nat.le_refl _ | (simp; done) | omega | (simp; omega)) _)
    have BJN := Lib.hid (show Blk w22 w21.heap.size 31 #[.slice A9 TH.length c9] by rw [H.out]; exact Blk.new _ _ _)
    clear H
    have c22 := Lib.hid (c21.out.trans (hb.mono c21.out.size))
    have BM22 := Lib.hid (BM21.out.next hb)
    have BG22 := Lib.hid (BG21.out.next hb)
    have BI22 := Lib.hid (BI21.out.next hb)
    have BS22 := Lib.hid (BS21.out.next hb)
    have BH22 := Lib.hid (BH21.out.next hb)
    have OI22 := Lib.hid (own_next OI21.out hb)
    have OS22 := Lib.hid (own_next OS21.out hb)
    have OH22 := Lib.hid (own_next OH21.out hb)
    have OJ22 := Lib.hid (own_next OJ21.out hb)
    clear c21 BM21 BG21 BI21 BS21 BH21 OI21 OS21 OH21 OJ21
    have BJ22 := BJN
    clear hb BJN m0 m1 m2 m3 ml fBG lBG fBI lBI fBS lBS fBH lBH
    refine (GS2.out AH ch w22 c22.out (Rd.of_own (fun x _ => fac_len x) rfl OH22.out)).mono ?_
    rintro e w23 ⟨A10, c10, rfl, own10, hb⟩
    have c23 := Lib.hid (c22.out.trans (hb.mono c22.out.size))
    have BM23 := Lib.hid (BM22.out.next hb)
    have BG23 := Lib.hid (BG22.out.next hb)
    have BI23 := Lib.hid (BI22.out.next hb)
    have BS23 := Lib.hid (BS22.out.next hb)
    have BH23 := Lib.hid (BH22.out.next hb)
    have BJ23 := Lib.hid (BJ22.out.next hb)
    have OI23 := Lib.hid (own_next OI22.out hb)
    have OS23 := Lib.hid (own_next OS22.out hb)
    have OH23 := Lib.hid (own_next OH22.out hb)
    have OJ23 := Lib.hid (own_next OJ22.out hb)
    clear c22 BM22 BG22 BI22 BS22 BH22 BJ22 OI22 OS22 OH22 OJ22
    have OK23 := Lib.hid own10
    clear hb
    obtain ⟨m0, m1, m2, m3⟩ := BM23.out.four
    have ml := BM23.out.lt
    have fBG := BG23.out.cell 0
    have lBG := BG23.out.lt
    have fBI := BI23.out.cell 0
    have lBI := BI23.out.lt
    have fBS := BS23.out.cell 0
    have lBS := BS23.out.lt
    have fBH := BH23.out.cell 0
    have lBH := BH23.out.lt
    have fBJ := BJ23.out.cell 0
    have lBJ := BJ23.out.lt
    go_wp2_with fail
    refine namedC fun w24 H => ?_
    have hb : Below w23.heap.size w23 w24 := by rw [H.out]; (repeat first | exact Below.refl _ _ | assumption | refine Below.drew ?_ | refine Below.alloc ?_ (by first | exact Nat.le_refl _ | (simp; done) | omega | (simp; omega)) _ | refine Below.setCell ?_ (by first | exact Nat.le_refl _ | (simp; done) | omega | (simp; omega)) _)
    have BKN := Lib.hid (show Blk w24 w23.heap.size 31 #[.slice A10 TH.length c10] by rw [H.out]; exact Blk.new _ _ _)
    clear H
    have c24 := Lib.hid (c23.out.trans (hb.mono c23.out.size))
    have BM24 := Lib.hid (BM23.out.next hb)
    have BG24 := Lib.hid (BG23.out.next hb)
    have BI24 := Lib.hid (BI23.out.next hb)
    have BS24 := Lib.hid (BS23.out.next hb)
    have BH24 := Lib.hid (BH23.out.next hb)
    have BJ24 := Lib.hid (BJ23.out.next hb)
    have OI24 := Lib.hid (own_next OI23.out hb)
    have OS24 := Lib.hid (own_next OS23.out hb)
    have OH24 := Lib.hid (own_next OH23.out hb)
    have OJ24 := Lib.hid (own_next OJ23.out hb)
    have OK24 := Lib.hid (own_next OK23.out hb)
    clear c23 BM23 BG23 BI23 BS23 BH23 BJ23 OI23 OS23 OH23 OJ23 OK23
    have BK24 := BKN
    clear hb BKN m0 m1 m2 m3 ml fBG lBG fBI lBI fBS lBS fBH lBH fBJ lBJ
    refine (SG.out A9 A10 c9 c10 TH w24 hTl2 (Rd.of_own (fun x _ => fac_len x) rfl OJ24.out) (Rd.of_own (fun x _ => fac_len x) rfl OK24.out)).mono ?_
    rintro e w25 ⟨rfl, hb⟩
    have c25 := Lib.hid (c24.out.trans (hb.mono c24.out.size))
    have BM25 := Lib.hid (BM24.out.next hb)
    have BG25 := Lib.hid (BG24.out.next hb)
    have BI25 := Lib.hid (BI24.out.next hb)
    have BS25 := Lib.hid (BS24.out.next hb)
    have BH25 := Lib.hid (BH24.out.next hb)
    have BJ25 := Lib.hid (BJ24.out.next hb)
    have BK25 := Lib.hid (BK24.out.next hb)
    have OI25 := Lib.hid (own_next OI24.out hb)
    have OS25 := Lib.hid (own_next OS24.out hb)
    have OH25 := Lib.hid (own_next OH24.out hb)
    have OJ25 := Lib.hid (own_next OJ24.out hb)
    have OK25 := Lib.hid (own_next OK24.out hb)
    clear c24 BM24 BG24 BI24 BS24 BH24 BJ24 BK24 OI24 OS24 OH24 OJ24 OK24
    clear hb
    rcases fC with hC | hC
    · have hC0 : CH = 0 := hC
      subst hC0
      have hz := fN hC
      have ez : clnV z = (z, 0) := by unfold clnV; rw [if_neg (by omega)]
      obtain ⟨hgT, hwT⟩ := FW.out hC
      obtain ⟨lT2, hlT2⟩ := Option.isSome_iff_exists.1 hgT
      have LE := Lib.hid (fun (E : Option Addr) (ec : Nat) W (h : Rd W W.heap.size E TH.length 3 Fac.cells TH) => implLength_any E TH.length ec TH lT2 W h hlT2)
      rw [hwT] at LE
      have e1 : (clnV z).1 = z := by rw [ez]
      have e2 : (clnV z).2 = 0 := by rw [ez]
      clear ez hgT hlT2 hwT FW hC
      obtain ⟨m0, m1, m2, m3⟩ := BM25.out.four
      have ml := BM25.out.lt
      have fBG := BG25.out.cell 0
      have lBG := BG25.out.lt
      have fBI := BI25.out.cell 0
      have lBI := BI25.out.lt
      have fBS := BS25.out.cell 0
      have lBS := BS25.out.lt
      have fBH := BH25.out.cell 0
      have lBH := BH25.out.lt
      have fBJ := BJ25.out.cell 0
      have lBJ := BJ25.out.lt
      have fBK := BK25.out.cell 0
      have lBK := BK25.out.lt
      go_wp2_with fail
      refine (LE.out A10 c10 w25 (Rd.of_own (fun x _ => fac_len x) rfl OK25.out)).mono ?_
      rintro e w26 ⟨rfl, hb⟩
      have c26 := Lib.hid (c25.out.trans (hb.mono c25.out.size))
      have BM26 := Lib.hid (BM25.out.next hb)
      have BG26 := Lib.hid (BG25.out.next hb)
      have BI26 := Lib.hid (BI25.out.next hb)
      have BS26 := Lib.hid (BS25.out.next hb)
      have BH26 := Lib.hid (BH25.out.next hb)
      have BJ26 := Lib.hid (BJ25.out.next hb)
      have BK26 := Lib.hid (BK25.out.next hb)
      have OI26 := Lib.hid (own_next OI25.out hb)
      have OS26 := Lib.hid (own_next OS25.out hb)
      have OH26 := Lib.hid (own_next OH25.out hb)
      have OJ26 := Lib.hid (own_next OJ25.out hb)
      have OK26 := Lib.hid (own_next OK25.out hb)
      clear c25 BM25 BG25 BI25 BS25 BH25 BJ25 BK25 OI25 OS25 OH25 OJ25 OK25
      clear hb m0 m1 m2 m3 ml fBG lBG fBI lBI fBS lBS fBH lBH fBJ lBJ fBK lBK
      go_wp2_with fail
      go_ret
      exact ⟨rfl, bw.out _ c26.out⟩
    · have hC0 : CH = 3 := hC
      subst hC0
      go_wp2_with fail
      go_ret
      exact ⟨rfl, bw.out _ c25.out⟩
  · have hC0 : C = 3 := hC
    subst hC0
    go_wp2_with fail
    go_ret
    exact ⟨rfl, bw.out _ c16.out⟩
set_option maxRecDepth 100000 in
theorem fnCoded_contract (H : Type) (enc : TypeId × Value → H) (W : World) (base : Nat) (args : Array Value) (ds gs : List (DataW H)) (before : List MemPlace)
    (hval : ∀ (j : Nat) t v, Tryz.f3.params[j]? = some t → args[j]? = some v → Value.okWide Tryz.prog W .any base t v)
    (hW : DataW.Whole enc Tryz.prog Tryz.f3.params.toList Rows.fnCodedSpec.vars false W args.toList ds gs before) :
    Calls Tryz.prog 3 args W fun e W' => ∃ v, e = .returned v ∧ Rows.fnCodedSpec.post enc Tryz.prog Tryz.f3 false true false false W args v W' := by
  have hW' := hW
  obtain ⟨p, q, hA0, hV, rfl, hfz, hnd⟩ := hW
  have hA : DataW.TrodAll enc Tryz.prog W 0 (fun _ => true) true Tryz.f3.params.toList args.toList ds p := hA0
  rw [Tryz.params3] at hA hval
  obtain ⟨v0, vs0, d0, ds0, p0, q0, hargs, rfl, rfl, h0, r0⟩ := trodAll_cons hA
  obtain ⟨v1, vs1, d1, ds1, p1, q1, rfl, rfl, rfl, h1, r1⟩ := trodAll_cons r0
  obtain ⟨rfl, rfl, rfl⟩ := trodAll_nil r1
  obtain rfl : args = #[v0, v1] := by cases args; simp_all
  obtain ⟨rfl, rfl⟩ := trodVars_none hV
  obtain ⟨A0, n0, c0, zs0, rfl, hn0, rd0, ok0⟩ := open_bytes Tryz.underlying22 Tryz.underlying5 (by kernel_rfl) (hval 0 22 v0 rfl rfl) h0
  obtain ⟨A1, n1, c1, zs1, rfl, hn1, rd1, ok1⟩ := open_bytes Tryz.underlying22 Tryz.underlying5 (by kernel_rfl) (hval 1 22 v1 rfl rfl) h1
  clear hA0
  refine (walkCo A0 n0 c0 zs0 A1 n1 c1 zs1 W hn0 rd0 ok0 hn1 rd1 ok1).mono fun e W' ⟨he, hb⟩ => ?_
  subst he
  exact ⟨_, rfl, law_post laidOut hW' rfl 4 Tryz.underlying4 (by kernel_rfl) (by rw [Tryz.params3]; intro t ht; simp at ht; first | (subst ht; exact ⟨by kernel_rfl, of_decide_eq_true (by kernel_rfl)⟩) | (rcases ht with rfl | rfl <;> exact ⟨by kernel_rfl, of_decide_eq_true (by kernel_rfl)⟩) | (rcases ht with rfl | rfl | rfl <;> exact ⟨by kernel_rfl, of_decide_eq_true (by kernel_rfl)⟩) | (rcases ht with rfl | rfl | rfl | rfl <;> exact ⟨by kernel_rfl, of_decide_eq_true (by kernel_rfl)⟩)) rfl hb⟩

set_option maxRecDepth 100000 in
theorem fnCoded_lifted (os : Os) (started : os.Started) (H : Type) (enc : TypeId × Value → H) :
    ReturnsInHanded {} Tryz.checked os 3 .any (Rows.fnCodedSpec.pre6 enc Tryz.prog Tryz.f3 Rows.fnCodedRow.domain false) (Rows.fnCodedSpec.post enc Tryz.prog Tryz.f3 false true false false) := by
  refine returnsInHanded_of_change (C := Tryz.checked) own started (by kernel_rfl) Tryz.func3
    (ChangeSpec.witness6 (enc := enc) (C := Tryz.checked) false ⟨#[], #[.slice none 0 0, .slice none 0 0], []⟩ 8 (by kernel_rfl) (by kernel_rfl) (by kernel_rfl) (by kernel_rfl)) ?_
  intro W base args ds gs before hval0 hW hcnd _
  exact fnCoded_contract H enc W base args ds gs before hval0 hW

theorem fnCoded_holds : Rows.FnCodedSaid :=
  OpenClaim.holds_of_wide 3 Tryz.f3 rfl rfl rfl rfl rfl rfl rfl ⟨rfl, rfl, rfl, rfl, rfl⟩ rfl rfl rfl rfl rfl (by as_aux_lemma => kernel_rfl) Tryz.func3
    (joined_mk (by as_aux_lemma => kernel_rfl) laidOut mapsRowed' (by as_aux_lemma => kernel_rfl) (by as_aux_lemma => kernel_rfl) (by as_aux_lemma => kernel_rfl) (by as_aux_lemma => kernel_rfl) (by as_aux_lemma => kernel_rfl) (by as_aux_lemma => kernel_rfl) plainKeys' rfl heard' mayEnter' lifts' make' (by as_aux_lemma => kernel_rfl))
    (of_decide_eq_true (by kernel_rfl)) (by unfold Func.isWrapper; first | (rw [if_pos (by decide +kernel)]; kernel_rfl) | (rw [if_neg (by decide +kernel)]; exact ⟨rfl, rfl⟩))
    (fun os started H enc _ => fnCoded_lifted os started H enc)

end Go.Proofs.YtmdmgndhapdmgaaGreat
