/-
  The statement FnExactCodeGrammar: for all arguments the program's CodeGrammar answers as the reference's, in memory of its own each time, and its arguments stay as they are. No condition.
-/
import Derived.Test.YtmdmgndhapdmgaaP6
import Derived.Deep.RegionHeld3

namespace Go.Proofs.Ytmdmgndhapdmgaa
open Go.ChangeShapes Go.WideShapes Go.ChangeAt Go.RowKit

/-- what is made later lies apart from what is marked -/
theorem own_later {w1 w w' : World} {b1 e1 s1 n1 e2 s2 n2 : Nat} {v1 v2 : Value} {xs1 xs2 : List Value} (h0 : w1.ownsRow b1 e1 s1 v1 n1 xs1) (h2 : w.ownsRow w1.heap.size e2 s2 v2 n2 xs2) (hg : w.grownBy w' v1.ownBlock) : w'.ownsRow w1.heap.size e2 s2 v2 n2 xs2 := by
  refine h2.kept hg ?_
  cases hv : v2.ownBlock with
  | none => exact .inl rfl
  | some q => exact .inr fun e => by have h3 := (h0.lt q e.symm).2; have h4 := own_ge h2 q hv; omega
theorem sumL_nil {α : Type} {zs : List (List α)} (h : zs.length = 0) : sumL zs = 0 := by
  obtain rfl := List.eq_nil_of_length_eq_zero h; rfl
set_option maxHeartbeats 4000000 in
set_option maxRecDepth 100000 in
theorem walkCg (S q : Int) (N : Option Addr) (m cn : Nat) (nh : List RowH) (nx : List (List Int)) (O : Option Addr) (mo co : Nat) (oh : List RowH) (ot : List (List ByteArray)) (A : Option Addr) (n c : Nat) (xs : List Fac) (w : World) (_ : I64 S) (_ : I64 q) (hm : m ≤ maxLen) (hmo : mo ≤ maxLen)
    (hN : RdT w w.heap.size N m intE nh nx) (hO : RdT w w.heap.size O mo strEM oh ot) (hxz : ∀ r ∈ nx, r.length ≤ maxLen) (hoz : ∀ r ∈ ot, r.length ≤ maxLen ∧ ∀ t ∈ r, t.size ≤ maxLen) (hn : n ≤ maxLen) (hx : Rd w w.heap.size A n 3 Fac.cells xs) (ox : ∀ f ∈ xs, Fac.ok f) :
    Calls Try.prog 3 #[.agg #[.int .i64 S, .int .i64 q, .slice N m cn, .slice O mo co], .agg #[.slice A n c]] w (Ret (.bool true) w) := by
  have lx := Lib.hid hx.len
  have ln := Lib.hid hN.len
  have lo := Lib.hid hO.len
  have HX0 := Lib.hid hx
  have HN0 := Lib.hid hN
  have HO0 := Lib.hid hO
  have hsz : ∀ f ∈ xs, f.l.size ≤ maxLen := fun f hf => (ox f hf).1
  have Hsz := Lib.hid hsz
  have SC := Lib.hid (fun W (h : Below w.heap.size w W) => szCoder_any S q N O m cn mo co nh oh nx ot 1048576 W (by omega) (by omega) hm hmo (HN0.out.next h) (HO0.out.next h) hxz hoz)
  have start : ∀ w0, Hid (w0 = ((w.alloc (.cells #[.int .i64 S, .int .i64 q, .slice N m cn, .slice O mo co] 25)).alloc (.cells #[.slice A n c] 28))) → Below w.heap.size w w0 ∧ Blk w0 w.heap.size 25 #[.int .i64 S, .int .i64 q, .slice N m cn, .slice O mo co] ∧ Blk w0 (w.heap.size + 1) 28 #[.slice A n c] := fun w0 H0 => by
    rw [H0.out]
    refine ⟨by (repeat first | exact Below.refl _ _ | assumption | refine Below.drew ?_ | refine Below.alloc ?_ (by first | exact Nat.le_refl _ | (simp; done) | omega | (simp; omega)) _ | refine Below.setCell ?_ (by first | exact Nat.le_refl _ | (simp; done) | omega | (simp; omega)) _), (Blk.new _ _ _).alloc _, ?_⟩
    simpa using Blk.new (w.alloc (.cells #[.int .i64 S, .int .i64 q, .slice N m cn, .slice O mo co] 25)) 28 #[.slice A n c]
  have Start := Lib.hid start
  clear start hsz hN hO hx
  go_enter Try.func3, Try.ntmps3
  go_upto_region 2 with fail
  refine named fun w0 H0 => ?_
  obtain ⟨hb0, BC0, BG0⟩ := Start.out w0 H0
  clear H0
  have BC := Lib.hid BC0
  have BG := Lib.hid BG0
  clear BC0 BG0 Start
  obtain ⟨k0, k1, k2, k3⟩ := BC.out.four
  have kl := BC.out.lt
  have SC0 := Lib.hid (SC.out w0 hb0)
  by_cases hz1 : szCdr 1048576 nx ot < 0
  · generalize szCdr 1048576 nx ot = z1 at *
    go_wp2_with fail
    refine SC0.out.mono ?_
    rintro e w1 ⟨rfl, hb1⟩
    go_wp2_with fail
    go_ret
    exact ⟨rfl, hb0.trans (hb1.mono hb0.size)⟩
  obtain ⟨l1, l2, l3, l4, l5, l6⟩ := szCdr_le (nx := nx) (ot := ot) (by omega)
  have hm' : m ≤ 1048576 := by have := ln.out; omega
  have hmo' : mo ≤ 1048576 := by have := lo.out; omega
  have L4 := Lib.hid l4
  have L5 := Lib.hid (fun r (hr : r ∈ ot) => (l5 r hr).1)
  have L6 := Lib.hid (show 1 + sumL nx + sumL ot ≤ 1048576 by
    by_cases h : nx.length + ot.length = 0
    · have h1 := sumL_nil (zs := nx) (by omega)
      have h2 := sumL_nil (zs := ot) (by omega)
      omega
    · omega)
  have LN := Lib.hid l2
  have LO := Lib.hid l3
  clear l4 l5 l6 SC
  have hz1' : 0 ≤ szCdr 1048576 nx ot := by omega
  generalize szCdr 1048576 nx ot = z1 at *
  go_wp2_with fail
  refine SC0.out.mono ?_
  rintro e w1 ⟨rfl, hb1⟩
  have bb1 := hb0.trans (hb1.mono hb0.size)
  have BC1 := Lib.hid (BC.out.next hb1)
  have BG1 := Lib.hid (BG.out.next hb1)
  clear BC BG k0 k1 k2 k3 kl SC0
  have g0 := BG1.out.cell 0
  have gl := BG1.out.lt
  have hg := Lib.hid (szGrammar_any A n c xs z1 w1 (by omega) (by omega) hn (HX0.out.next bb1) Hsz.out)
  by_cases hz : szFacAll z1 xs < 0
  · have hg' := hg.out
    rw [if_pos hz] at hg'
    have Hg := Lib.hid hg'; clear hg' hg hz
    go_wp2_with fail
    refine Hg.out.mono ?_
    rintro e w2 ⟨rfl, hb2⟩
    go_wp2_with fail
    go_ret
    exact ⟨rfl, bb1.trans (hb2.mono bb1.size)⟩
  have hg' := hg.out
  rw [if_neg hz] at hg'
  have Hg := Lib.hid hg'; clear hg' hg
  have le1 := szFacAll_le z1 xs (by omega)
  have len1 := szFacAll_len z1 xs (by omega)
  have hn' : n ≤ 1048576 := by have := lx.out; omega
  have hz0 : 0 ≤ szFacAll z1 xs := by omega
  clear hz
  generalize szFacAll z1 xs = z at *
  have hln : (cgR S q nx ot xs).1.length ≤ 1048576 := cgR_len S q nx ot xs
  have SP := Lib.hid (fun (N2 O2 : Option Addr) (c2 d2 : Nat) (h2 g2 : List RowH) (A2 : Option Addr) (e2 : Nat) (W : World) (r1 : RdT W W.heap.size N2 nx.length intE h2 nx) (r2 : RdT W W.heap.size O2 ot.length strEM g2 ot) (r3 : Rd W W.heap.size A2 xs.length 3 Fac.cells xs) =>
    codeGS_any S q N2 O2 nx.length c2 ot.length d2 h2 g2 nx ot A2 xs.length e2 xs W LN.out LO.out (by rw [lx.out]; exact hn') r1 r2 (fun r hr => (hoz r hr).2) r3 Hsz.out)
  have IM := Lib.hid (fun (N2 O2 : Option Addr) (c2 d2 : Nat) (h2 g2 : List RowH) (A2 : Option Addr) (e2 : Nat) (W : World) (r1 : RdT W W.heap.size N2 nx.length intE h2 nx) (r2 : RdT W W.heap.size O2 ot.length strEM g2 ot) (r3 : Rd W W.heap.size A2 xs.length 3 Fac.cells xs) =>
    codeGI_any S q N2 O2 nx.length c2 ot.length d2 h2 g2 nx ot A2 xs.length e2 xs W LN.out LO.out (by rw [lx.out]; exact hn') r1 r2 L4.out (fun r hr => ⟨L5.out r hr, (hoz r hr).2⟩) r3 Hsz.out)
  have TC := Lib.hid (fun W (r1 : RdT W W.heap.size N m intE nh nx) (r2 : RdT W W.heap.size O mo strEM oh ot) => toCoder_any S q N O m cn mo co nh oh nx ot W hm' hmo' r1 r2 L4.out L5.out)
  generalize (cgR S q nx ot xs).1 = T at *
  generalize (cgR S q nx ot xs).2 = C at *
  clear hxz hoz ox hm hmo
  go_wp2_with fail
  refine Hg.out.mono ?_
  rintro e w2 ⟨rfl, hb2⟩
  have bb2 := bb1.trans (hb2.mono bb1.size)
  have BC_2 := Lib.hid (BC1.out.next hb2)
  have BG_2 := Lib.hid (BG1.out.next hb2)
  clear BC1 BG1 g0 gl Hg hb1 hb2 bb1 hb0
  go_upto_region 8 with fail
  obtain ⟨qBC0, qBC1, qBC2, qBC3⟩ := BC_2.out.four
  have lBC := BC_2.out.lt
  have qBG := BG_2.out.cell 0
  have lBG := BG_2.out.lt
  have RXn := Lib.hid (show Rd w2 w2.heap.size A n 3 Fac.cells xs from ((HX0.out.below bb2).more bb2.size))
  have RNn := Lib.hid (show RdT w2 w2.heap.size N m intE nh nx from ((HN0.out.below bb2).more bb2.size))
  have ROn := Lib.hid (show RdT w2 w2.heap.size O mo strEM oh ot from ((HO0.out.below bb2).more bb2.size))
  go_cut [6, 7] (fun u6 u7 wx => NewG w2 wx T C u6 u7)
  case first =>
    go_region_law
      (first
        | (go_simp
           go_wp2_with (go_at_call 7; refine (TC.out _ (RNn.out.next (by (repeat first | exact Below.refl _ _ | assumption | refine Below.drew ?_ | refine Below.alloc ?_ (by first | exact Nat.le_refl _ | (simp; done) | omega | (simp; omega)) _ | refine Below.setCell ?_ (by first | exact Nat.le_refl _ | (simp; done) | omega | (simp; omega)) _))) (ROn.out.next (by (repeat first | exact Below.refl _ _ | assumption | refine Below.drew ?_ | refine Below.alloc ?_ (by first | exact Nat.le_refl _ | (simp; done) | omega | (simp; omega)) _ | refine Below.setCell ?_ (by first | exact Nat.le_refl _ | (simp; done) | omega | (simp; omega)) _)))).mono ?_; rintro e wA ⟨A2, c2, h2, O2, d2, g2, rfl, tA, tO, hbA⟩)
           have bA : Below w2.heap.size w2 wA := Below.trans (by (repeat first | exact Below.refl _ _ | assumption | refine Below.drew ?_ | refine Below.alloc ?_ (by first | exact Nat.le_refl _ | (simp; done) | omega | (simp; omega)) _ | refine Below.setCell ?_ (by first | exact Nat.le_refl _ | (simp; done) | omega | (simp; omega)) _)) (hbA.mono (by first | exact Nat.le_refl _ | simp))
           have sA := bA.size
           have gA := (BG_2.out.next bA).cell 0
           have gAl := (BG_2.out.next bA).lt
           have rA := Lib.hid (tA.rd (fun _ => rfl))
           have rO := Lib.hid (tO.rd (fun _ => rfl))
           clear tA tO)
        | (go_simp
           go_wp2_with (go_at_call 8; refine (toGrammar_any A n c xs _ hn' (RXn.out.next (Below.trans bA (by (repeat first | exact Below.refl _ _ | assumption | refine Below.drew ?_ | refine Below.alloc ?_ (by first | exact Nat.le_refl _ | (simp; done) | omega | (simp; omega)) _ | refine Below.setCell ?_ (by first | exact Nat.le_refl _ | (simp; done) | omega | (simp; omega)) _))))).mono ?_; rintro e wB ⟨A3, c3, rfl, ownB, hbB⟩)
           have bAB : Below wA.heap.size wA wB := Below.trans (by (repeat first | exact Below.refl _ _ | assumption | refine Below.drew ?_ | refine Below.alloc ?_ (by first | exact Nat.le_refl _ | (simp; done) | omega | (simp; omega)) _ | refine Below.setCell ?_ (by first | exact Nat.le_refl _ | (simp; done) | omega | (simp; omega)) _)) (hbB.mono (by first | exact Nat.le_refl _ | simp))
           have bB := bA.trans (bAB.mono bA.size)
           have sB := bB.size
           have rA3 := Lib.hid (rA.out.next bAB)
           have rO3 := Lib.hid (rO.out.next bAB)
           have rB := Lib.hid (Rd.of_own (fun x _ => fac_len x) rfl ownB)
           clear ownB)
        | (go_simp
           go_wp2_with (go_at_call 6; refine (SP.out A2 O2 c2 d2 h2 g2 A3 c3 _ (rA3.out.next (by (repeat first | exact Below.refl _ _ | assumption | refine Below.drew ?_ | refine Below.alloc ?_ (by first | exact Nat.le_refl _ | (simp; done) | omega | (simp; omega)) _ | refine Below.setCell ?_ (by first | exact Nat.le_refl _ | (simp; done) | omega | (simp; omega)) _))) (rO3.out.next (by (repeat first | exact Below.refl _ _ | assumption | refine Below.drew ?_ | refine Below.alloc ?_ (by first | exact Nat.le_refl _ | (simp; done) | omega | (simp; omega)) _ | refine Below.setCell ?_ (by first | exact Nat.le_refl _ | (simp; done) | omega | (simp; omega)) _))) (rB.out.next (by (repeat first | exact Below.refl _ _ | assumption | refine Below.drew ?_ | refine Below.alloc ?_ (by first | exact Nat.le_refl _ | (simp; done) | omega | (simp; omega)) _ | refine Below.setCell ?_ (by first | exact Nat.le_refl _ | (simp; done) | omega | (simp; omega)) _)))).mono ?_; rintro e wC ⟨A4, c4, rfl, ownC, hbC⟩)
           have bBC : Below wB.heap.size wB wC := Below.trans (by (repeat first | exact Below.refl _ _ | assumption | refine Below.drew ?_ | refine Below.alloc ?_ (by first | exact Nat.le_refl _ | (simp; done) | omega | (simp; omega)) _ | refine Below.setCell ?_ (by first | exact Nat.le_refl _ | (simp; done) | omega | (simp; omega)) _)) (hbC.mono (by first | exact Nat.le_refl _ | simp))
           have bC := bB.trans (bBC.mono bB.size)
           have ownC' := ownC.mono (base' := w2.heap.size) (by first | exact sB | (simp; omega))
           clear ownC
           try (have zc := (Blk.new wB 33 #[.slice none 0 0]).next hbC; have zcc := zc.cell 0; have zcf := zc.frozen; have zcl := zc.lt)
           try (have zc := ((Blk.new wA 33 #[.slice none 0 0]).next hbB).next hbC; have zcc := zc.cell 0; have zcf := zc.frozen; have zcl := zc.lt)
           try (have zc := (((Blk.new w2 33 #[.slice none 0 0]).next (Below.refl _ _).drew).next hbA |>.next hbB).next hbC; have zcc := zc.cell 0; have zcf := zc.frozen; have zcl := zc.lt)))
    all_goals
      go_wp2_with fail
      go_meet
      first
        | exact newG_alloc bC ownC' (Nat.le_refl _)
        | exact newG_set bC ownC' (Nat.le_refl _) ((Blk.new wB _ _).next hbC) rfl (by omega)
        | exact newG_set bC ownC' (Nat.le_refl _) (((Blk.new wA _ _).next hbB).next hbC) rfl (by omega)
        | exact newG_set bC ownC' (Nat.le_refl _) (((((Blk.new w2 _ _).next (Below.refl _ _).drew).next hbA).next hbB).next hbC) rfl (by omega)
        | exact newG_set bC ownC' (Nat.le_refl _) ((((Blk.new _ _ _).next hbA).next hbB).next hbC) rfl (Nat.le_refl _)
  case rest =>
    obtain ⟨gS, A3, c3, rfl, rfl, hbS, ownS, blkS, hgS⟩ := hcut
    clear RXn RNn ROn qBC0 qBC1 qBC2 qBC3 lBC qBG lBG
    have bb3 := bb2.trans (hbS.mono bb2.size)
    have BC_3 := Lib.hid (BC_2.out.next hbS)
    clear BC_2
    have BG_3 := Lib.hid (BG_2.out.next hbS)
    clear BG_2
    have OS := Lib.hid ownS
    have BS := Lib.hid blkS
    clear ownS blkS
    obtain ⟨qBC0, qBC1, qBC2, qBC3⟩ := BC_3.out.four
    have lBC := BC_3.out.lt
    go_wp2_with fail
    refine (TC.out wc ((HN0.out.below bb3).more bb3.size) ((HO0.out.below bb3).more bb3.size)).mono ?_
    rintro e w4 ⟨A4, c4, h4, O4, d4, g4, rfl, tA4, tO4, hb4⟩
    have bb4 := bb3.trans (hb4.mono bb3.size)
    have BC_4 := Lib.hid (BC_3.out.next hb4)
    clear BC_3
    have BG_4 := Lib.hid (BG_3.out.next hb4)
    clear BG_3
    have OS_4 := Lib.hid (own_next OS.out hb4)
    have BS_4 := Lib.hid (BS.out.next hb4)
    clear BS
    clear qBC0 qBC1 qBC2 qBC3 lBC
    have TA := Lib.hid tA4
    have TO := Lib.hid tO4
    clear tA4 tO4
    go_upto_region 10 with fail
    refine named fun w4' HN => ?_
    have hbw4' : Below w4.heap.size w4 w4' := by rw [HN.out]; (repeat first | exact Below.refl _ _ | assumption | refine Below.drew ?_ | refine Below.alloc ?_ (by first | exact Nat.le_refl _ | (simp; done) | omega | (simp; omega)) _ | refine Below.setCell ?_ (by first | exact Nat.le_refl _ | (simp; done) | omega | (simp; omega)) _)
    have BXc := Lib.hid (show Blk w4' w4.heap.size 36 #[.int .i64 S, .int .i64 q, .slice A4 nx.length c4, .slice O4 ot.length d4] by rw [HN.out]; exact Blk.new _ _ _)
    clear HN
    have bb5 := bb4.trans (hbw4'.mono bb4.size)
    have BC_5 := Lib.hid (BC_4.out.next hbw4')
    clear BC_4
    have BG_5 := Lib.hid (BG_4.out.next hbw4')
    clear BG_4
    have OS_5 := Lib.hid (own_next OS_4.out hbw4')
    clear OS_4
    have BS_5 := Lib.hid (BS_4.out.next hbw4')
    clear BS_4
    have TA_5 := Lib.hid (TA.out.next hbw4')
    clear TA
    have TO_5 := Lib.hid (TO.out.next hbw4')
    clear TO
    have qBG := BG_5.out.cell 0
    have lBG := BG_5.out.lt
    go_wp2_with fail
    refine (toGrammar_any A n c xs w4' hn' ((HX0.out.below bb5).more bb5.size)).mono ?_
    rintro e w5 ⟨A5, c5, rfl, own5, hb5⟩
    have bb6 := bb5.trans (hb5.mono bb5.size)
    have BC_6 := Lib.hid (BC_5.out.next hb5)
    clear BC_5
    have BG_6 := Lib.hid (BG_5.out.next hb5)
    clear BG_5
    have OS_6 := Lib.hid (own_next OS_5.out hb5)
    have BS_6 := Lib.hid (BS_5.out.next hb5)
    clear BS_5
    have TA_6 := Lib.hid (TA_5.out.next hb5)
    clear TA_5
    have TO_6 := Lib.hid (TO_5.out.next hb5)
    clear TO_5
    have BXc_6 := Lib.hid (BXc.out.next hb5)
    clear BXc
    clear qBG lBG
    have OX := Lib.hid own5
    clear own5
    go_upto_region 11 with fail
    refine named fun w5' HN => ?_
    have hbw5' : Below w5.heap.size w5 w5' := by rw [HN.out]; (repeat first | exact Below.refl _ _ | assumption | refine Below.drew ?_ | refine Below.alloc ?_ (by first | exact Nat.le_refl _ | (simp; done) | omega | (simp; omega)) _ | refine Below.setCell ?_ (by first | exact Nat.le_refl _ | (simp; done) | omega | (simp; omega)) _)
    have BX := Lib.hid (show Blk w5' w5.heap.size 33 #[.slice A5 xs.length c5] by rw [HN.out]; exact Blk.new _ _ _)
    clear HN
    have bb7 := bb6.trans (hbw5'.mono bb6.size)
    have BC_7 := Lib.hid (BC_6.out.next hbw5')
    clear BC_6
    have BG_7 := Lib.hid (BG_6.out.next hbw5')
    clear BG_6
    have OS_7 := Lib.hid (own_next OS_6.out hbw5')
    clear OS_6
    have BS_7 := Lib.hid (BS_6.out.next hbw5')
    clear BS_6
    have TA_7 := Lib.hid (TA_6.out.next hbw5')
    clear TA_6
    have TO_7 := Lib.hid (TO_6.out.next hbw5')
    clear TO_6
    have BXc_7 := Lib.hid (BXc_6.out.next hbw5')
    clear BXc_6
    have OX_7 := Lib.hid (own_next OX.out hbw5')
    obtain ⟨qBXc0, qBXc1, qBXc2, qBXc3⟩ := BXc_7.out.four
    have lBXc := BXc_7.out.lt
    have qBX := BX.out.cell 0
    have lBX := BX.out.lt
    go_wp2_with fail
    refine (IM.out A4 O4 c4 d4 h4 g4 A5 c5 w5' (TA_7.out.rd (fun _ => rfl)) (TO_7.out.rd (fun _ => rfl)) (Rd.of_own (fun x _ => fac_len x) rfl OX_7.out)).mono ?_
    clear qBXc0 qBXc1 qBXc2 qBXc3 lBXc qBX lBX
    rintro e w6 ⟨A6, c6, rfl, own6, hb6⟩
    have bb8 := bb7.trans (hb6.mono bb7.size)
    have BC_8 := Lib.hid (BC_7.out.next hb6)
    clear BC_7
    have BG_8 := Lib.hid (BG_7.out.next hb6)
    clear BG_7
    have OS_8 := Lib.hid (own_next OS_7.out hb6)
    have BS_8 := Lib.hid (BS_7.out.next hb6)
    clear BS_7
    have TA_8 := Lib.hid (TA_7.out.next hb6)
    clear TA_7
    have TO_8 := Lib.hid (TO_7.out.next hb6)
    clear TO_7
    have BXc_8 := Lib.hid (BXc_7.out.next hb6)
    clear BXc_7
    have OX_8 := Lib.hid (own_next OX_7.out hb6)
    have BX_8 := Lib.hid (BX.out.next hb6)
    clear BX
    have OG := Lib.hid own6
    clear own6
    have qBS := BS_8.out.cell 0
    have lBS := BS_8.out.lt
    go_wp2_with fail
    refine namedC fun w6' HN => ?_
    have hbw6' : Below w6.heap.size w6 w6' := by rw [HN.out]; (repeat first | exact Below.refl _ _ | assumption | refine Below.drew ?_ | refine Below.alloc ?_ (by first | exact Nat.le_refl _ | (simp; done) | omega | (simp; omega)) _ | refine Below.setCell ?_ (by first | exact Nat.le_refl _ | (simp; done) | omega | (simp; omega)) _)
    have BH := Lib.hid (show Blk w6' w6.heap.size 33 #[.slice A6 T.length c6] by rw [HN.out]; exact Blk.new _ _ _)
    clear HN
    have bb9 := bb8.trans (hbw6'.mono bb8.size)
    have BC_9 := Lib.hid (BC_8.out.next hbw6')
    clear BC_8
    have BG_9 := Lib.hid (BG_8.out.next hbw6')
    clear BG_8
    have OS_9 := Lib.hid (own_next OS_8.out hbw6')
    clear OS_8
    have BS_9 := Lib.hid (BS_8.out.next hbw6')
    clear BS_8
    have TA_9 := Lib.hid (TA_8.out.next hbw6')
    clear TA_8
    have TO_9 := Lib.hid (TO_8.out.next hbw6')
    clear TO_8
    have BXc_9 := Lib.hid (BXc_8.out.next hbw6')
    clear BXc_8
    have OX_9 := Lib.hid (own_next OX_8.out hbw6')
    clear OX_8
    have BX_9 := Lib.hid (BX_8.out.next hbw6')
    clear BX_8
    have OG_9 := Lib.hid (own_next OG.out hbw6')
    clear qBS lBS
    refine (eqGrammar_any A6 A3 _ c6 _ c3 T T w6' (by unfold maxLen; omega) (by unfold maxLen; omega) (Rd.of_own (fun x _ => fac_len x) rfl OG_9.out) (Rd.of_own (fun x _ => fac_len x) rfl OS_9.out) true (by simp)).mono ?_
    rintro e w7 ⟨rfl, hbw7⟩
    have bb10 := bb9.trans (hbw7.mono bb9.size)
    have BC_10 := Lib.hid (BC_9.out.next hbw7)
    clear BC_9
    have BG_10 := Lib.hid (BG_9.out.next hbw7)
    clear BG_9
    have OS_10 := Lib.hid (own_next OS_9.out hbw7)
    clear OS_9
    have BS_10 := Lib.hid (BS_9.out.next hbw7)
    clear BS_9
    have TA_10 := Lib.hid (TA_9.out.next hbw7)
    clear TA_9
    have TO_10 := Lib.hid (TO_9.out.next hbw7)
    clear TO_9
    have BXc_10 := Lib.hid (BXc_9.out.next hbw7)
    clear BXc_9
    have OX_10 := Lib.hid (own_next OX_9.out hbw7)
    clear OX_9
    have BX_10 := Lib.hid (BX_9.out.next hbw7)
    clear BX_9
    have OG_10 := Lib.hid (own_next OG_9.out hbw7)
    clear OG_9
    have BH_10 := Lib.hid (BH.out.next hbw7)
    clear BH
    obtain ⟨qBXc0, qBXc1, qBXc2, qBXc3⟩ := BXc_10.out.four
    have lBXc := BXc_10.out.lt
    obtain ⟨qBC0, qBC1, qBC2, qBC3⟩ := BC_10.out.four
    have lBC := BC_10.out.lt
    go_upto_region 14 with fail
    have hbw := Lib.hid (fun (w' : World) (h : Below w7.heap.size w7 w') => show (w'.cell? ⟨w4.heap.size, 0, none⟩ = some (.int .i64 S) ∧ w'.cell? ⟨w4.heap.size, 1, none⟩ = some (.int .i64 q) ∧ w'.cell? ⟨w4.heap.size, 2, none⟩ = some (.slice A4 nx.length c4) ∧ w'.cell? ⟨w4.heap.size, 3, none⟩ = some (.slice O4 ot.length d4)) ∧ (w'.cell? ⟨w.heap.size, 0, none⟩ = some (.int .i64 S) ∧ w'.cell? ⟨w.heap.size, 1, none⟩ = some (.int .i64 q) ∧ w'.cell? ⟨w.heap.size, 2, none⟩ = some (.slice N m cn) ∧ w'.cell? ⟨w.heap.size, 3, none⟩ = some (.slice O mo co)) from ⟨(BXc_10.out.next h).four, (BC_10.out.next h).four⟩)
    have HNd := Lib.hid ((show RdT w7 w7.heap.size N m intE nh nx from ((HN0.out.below bb10).more bb10.size)).next (Below.refl _ _).drew)
    have HOd := Lib.hid ((show RdT w7 w7.heap.size O mo strEM oh ot from ((HO0.out.below bb10).more bb10.size)).next (Below.refl _ _).drew)
    go_region_held3 (fun w' => (w'.cell? ⟨w4.heap.size, 0, none⟩ = some (.int .i64 S) ∧ w'.cell? ⟨w4.heap.size, 1, none⟩ = some (.int .i64 q) ∧ w'.cell? ⟨w4.heap.size, 2, none⟩ = some (.slice A4 nx.length c4) ∧ w'.cell? ⟨w4.heap.size, 3, none⟩ = some (.slice O4 ot.length d4)) ∧ (w'.cell? ⟨w.heap.size, 0, none⟩ = some (.int .i64 S) ∧ w'.cell? ⟨w.heap.size, 1, none⟩ = some (.int .i64 q) ∧ w'.cell? ⟨w.heap.size, 2, none⟩ = some (.slice N m cn) ∧ w'.cell? ⟨w.heap.size, 3, none⟩ = some (.slice O mo co)))
      (first | exact hbw.out _ b79 | exact hbw.out _ b78 | go_keep)
      (first
        | (go_at_call 7
           refine (TC.out _ HNd.out HOd.out).mono ?_
           rintro e w8 ⟨A8, c8, h8, O8, d8, g8, rfl, tA8, tO8, hb8⟩
           have b78 : Below w7.heap.size w7 w8 := (Below.refl _ _).drew.trans hb8)
        | (go_at_call 11
           refine (eqCoder_any S q A4 A8 O4 O8 nx.length c4 c8 ot.length d4 d8 h4 h8 g4 g8 nx ot w8 LN.out LO.out ((TA_10.out.next b78).rd (fun _ => rfl)) (tA8.rd (fun _ => rfl)) ((TO_10.out.next b78).rd (fun _ => rfl)) (tO8.rd (fun _ => rfl)) L4.out L5.out).mono ?_
           rintro e w9 ⟨rfl, hb9⟩
           have b79 : Below w7.heap.size w7 w9 := b78.trans (hb9.mono b78.size)))
    have B79 := Lib.hid b79
    clear tA8 tO8
    clear qBXc0 qBXc1 qBXc2 qBXc3 lBXc qBC0 qBC1 qBC2 qBC3 lBC
    have bb11 := bb10.trans (B79.out.mono bb10.size)
    have BC_11 := Lib.hid (BC_10.out.next B79.out)
    clear BC_10
    have BG_11 := Lib.hid (BG_10.out.next B79.out)
    clear BG_10
    have OS_11 := Lib.hid (own_next OS_10.out B79.out)
    clear OS_10
    have BS_11 := Lib.hid (BS_10.out.next B79.out)
    clear BS_10
    have TA_11 := Lib.hid (TA_10.out.next B79.out)
    clear TA_10
    have TO_11 := Lib.hid (TO_10.out.next B79.out)
    clear TO_10
    have BXc_11 := Lib.hid (BXc_10.out.next B79.out)
    clear BXc_10
    have OX_11 := Lib.hid (own_next OX_10.out B79.out)
    clear OX_10
    have BX_11 := Lib.hid (BX_10.out.next B79.out)
    clear BX_10
    have OG_11 := Lib.hid (own_next OG_10.out B79.out)
    clear OG_10
    have BH_11 := Lib.hid (BH_10.out.next B79.out)
    clear BH_10
    have qBX := BX_11.out.cell 0
    have lBX := BX_11.out.lt
    have qBG := BG_11.out.cell 0
    have lBG := BG_11.out.lt
    go_upto_region 16 with fail
    have hbw2 := Lib.hid (fun (w' : World) (h : Below w9.heap.size w9 w') => show w'.cell? ⟨w5.heap.size, 0, none⟩ = some (.slice A5 xs.length c5) ∧ w'.cell? ⟨w.heap.size + 1, 0, none⟩ = some (.slice A n c) from ⟨(BX_11.out.next h).cell 0, (BG_11.out.next h).cell 0⟩)
    have HXd := Lib.hid (show Rd w9.drew w9.drew.heap.size A n 3 Fac.cells xs from ((HX0.out.below bb11).more bb11.size))
    go_region_held3 (fun w' => w'.cell? ⟨w5.heap.size, 0, none⟩ = some (.slice A5 xs.length c5) ∧ w'.cell? ⟨w.heap.size + 1, 0, none⟩ = some (.slice A n c))
      (first | exact hbw2.out _ b9b | exact hbw2.out _ b9a | go_keep)
      (first
        | (go_at_call 8
           refine (toGrammar_any A n c xs _ hn' HXd.out).mono ?_
           rintro e wa ⟨A10, c10, rfl, own10, hba⟩
           have b9a : Below w9.heap.size w9 wa := (Below.refl _ _).drew.trans hba)
        | (go_at_call 10
           refine (eqGrammar_any A5 A10 _ _ _ _ xs xs wa (by have := lx.out; unfold maxLen; omega) (by have := lx.out; unfold maxLen; omega) (Rd.of_own (fun x _ => fac_len x) rfl (own_next OX_11.out b9a)) (Rd.of_own (fun x _ => fac_len x) rfl own10) true (by simp)).mono ?_
           rintro e wb ⟨rfl, hbb⟩
           have b9b : Below w9.heap.size w9 wb := b9a.trans (hbb.mono b9a.size)))
    have B9b := Lib.hid b9b
    clear own10
    clear qBX lBX qBG lBG
    have bb12 := bb11.trans (B9b.out.mono bb11.size)
    have BC_12 := Lib.hid (BC_11.out.next B9b.out)
    clear BC_11
    have BG_12 := Lib.hid (BG_11.out.next B9b.out)
    clear BG_11
    have OS_12 := Lib.hid (own_next OS_11.out B9b.out)
    clear OS_11
    have BS_12 := Lib.hid (BS_11.out.next B9b.out)
    clear BS_11
    have TA_12 := Lib.hid (TA_11.out.next B9b.out)
    clear TA_11
    have TO_12 := Lib.hid (TO_11.out.next B9b.out)
    clear TO_11
    have BXc_12 := Lib.hid (BXc_11.out.next B9b.out)
    clear BXc_11
    have OX_12 := Lib.hid (own_next OX_11.out B9b.out)
    clear OX_11
    have BX_12 := Lib.hid (BX_11.out.next B9b.out)
    clear BX_11
    have OG_12 := Lib.hid (own_next OG_11.out B9b.out)
    clear OG_11
    have BH_12 := Lib.hid (BH_11.out.next B9b.out)
    clear BH_11
    obtain ⟨qBXc0, qBXc1, qBXc2, qBXc3⟩ := BXc_12.out.four
    have lBXc := BXc_12.out.lt
    go_wp2_with fail
    refine (markCoderF_any wc.heap.size S q A4 O4 nx.length c4 ot.length d4 h4 g4 nx ot 1 wb (by have h1 := hb4.size; have h2 := hbw4'.size; have h3 := hb5.size; have h4 := hbw5'.size; have h5 := hb6.size; have h6 := hbw6'.size; have h7 := hbw7.size; have h8 := B79.out.size; have h9 := B9b.out.size; omega) LN.out LO.out L6.out TA_12.out TO_12.out).mono ?_
    rintro e wm ⟨rfl, hbm, HOwn, HBlk⟩
    clear qBXc0 qBXc1 qBXc2 qBXc3 lBXc
    have bb13 := bb12.trans (hbm.mono bb3.size)
    have BC_c := Lib.hid (HBlk _ _ _ (by decide) (by decide) BC_12.out)
    have BG_c := Lib.hid (HBlk _ _ _ (by decide) (by decide) BG_12.out)
    have BS_c := Lib.hid (HBlk _ _ _ (by decide) (by decide) BS_12.out)
    have BH_c := Lib.hid (HBlk _ _ _ (by decide) (by decide) BH_12.out)
    have BX_c := Lib.hid (HBlk _ _ _ (by decide) (by decide) BX_12.out)
    have OS_c := Lib.hid (HOwn _ _ _ _ _ _ (by decide) (by decide) OS_12.out)
    have OG_c := Lib.hid (HOwn _ _ _ _ _ _ (by decide) (by decide) OG_12.out)
    have OX_c := Lib.hid (HOwn _ _ _ _ _ _ (by decide) (by decide) OX_12.out)
    clear HOwn HBlk
    have hkk := L6.out
    generalize 1 + sumL nx + sumL ot = KK at *
    have qBX := BX_c.out.cell 0
    have lBX := BX_c.out.lt
    go_wp2_with fail
    refine (markGrammar_any A5 _ c5 w4'.heap.size _ KK wm (by have := lx.out; omega) (by omega) OX_c.out).mono ?_
    rintro e w8 ⟨rfl, hg8⟩
    have bb14 := bb13.grown hg8 bb13.size (fun k hk => by have := (OX_c.out.lt k hk).1; have := bb5.size; omega)
    have BC_m := Lib.hid (BC_c.out.grown hg8 (own_blk_ne OX_c.out BC_c.out (by decide)))
    have BG_m := Lib.hid (BG_c.out.grown hg8 (own_blk_ne OX_c.out BG_c.out (by decide)))
    have BS_m := Lib.hid (BS_c.out.grown hg8 (own_blk_ne OX_c.out BS_c.out (by decide)))
    have BH_m := Lib.hid (BH_c.out.grown hg8 (own_blk_ne OX_c.out BH_c.out (by decide)))
    have OS_m := Lib.hid (own_apart OS_5.out OS_c.out OX_c.out hg8)
    have OG_m := Lib.hid (own_later OX_7.out OG_c.out hg8)
    clear qBX lBX hg8
    have hk8 : ¬ ((KK + 3 * xs.length : Nat) : Int) < 0 := by omega
    generalize ((KK + 3 * xs.length : Nat) : Int) = k8 at *
    have qBS := BS_m.out.cell 0
    have lBS := BS_m.out.lt
    have qBH := BH_m.out.cell 0
    have lBH := BH_m.out.lt
    go_wp2_with fail
    refine (eqGrammar_any A6 A3 _ c6 _ c3 T T w8 (by unfold maxLen; omega) (by unfold maxLen; omega) (Rd.of_own (fun x _ => fac_len x) rfl OG_m.out) (Rd.of_own (fun x _ => fac_len x) rfl OS_m.out) true (by simp)).mono ?_
    rintro e w10 ⟨rfl, hbw10⟩
    have bb15 := bb14.trans (hbw10.mono bb14.size)
    have BC_15 := Lib.hid (BC_m.out.next hbw10)
    clear BC_m
    have BG_15 := Lib.hid (BG_m.out.next hbw10)
    clear BG_m
    have BS_15 := Lib.hid (BS_m.out.next hbw10)
    clear BS_m
    have BH_15 := Lib.hid (BH_m.out.next hbw10)
    clear BH_m
    have OS_15 := Lib.hid (own_next OS_m.out hbw10)
    clear OS_m
    have OG_15 := Lib.hid (own_next OG_m.out hbw10)
    clear OG_m
    clear qBS lBS qBH lBH
    have qBH := BH_15.out.cell 0
    have lBH := BH_15.out.lt
    go_wp2_with fail
    refine (markGrammarC_any A6 _ c6 w5'.heap.size T 1 w10 (by omega) (by omega) rfl OG_15.out).mono ?_
    rintro e w11 ⟨rfl, own11, hg11⟩
    have bb16 := bb15.grown hg11 bb15.size (fun k hk => by have := (OG_15.out.lt k hk).1; have := bb7.size; omega)
    have BC_n := Lib.hid (BC_15.out.grown hg11 (own_blk_ne OG_15.out BC_15.out (by decide)))
    have BG_n := Lib.hid (BG_15.out.grown hg11 (own_blk_ne OG_15.out BG_15.out (by decide)))
    have BS_n := Lib.hid (BS_15.out.grown hg11 (own_blk_ne OG_15.out BS_15.out (by decide)))
    have BH_n := Lib.hid (BH_15.out.grown hg11 (own_blk_ne OG_15.out BH_15.out (by decide)))
    have OS_n := Lib.hid (own_apart OS_7.out OS_15.out OG_15.out hg11)
    have RG := Lib.hid (Rd.of_own (fun x _ => fac_len x) (marksR_len _ _) own11)
    clear own11 hg11
    clear qBH lBH
    have qBH := BH_n.out.cell 0
    have lBH := BH_n.out.lt
    go_wp2_with fail
    refine (heldGrammar_any A6 _ c6 1 w11 (by omega) (by omega) RG.out).mono ?_
    rintro e w12 ⟨rfl, hbw12⟩
    have bb17 := bb16.trans (hbw12.mono bb16.size)
    have BC_17 := Lib.hid (BC_n.out.next hbw12)
    clear BC_n
    have BG_17 := Lib.hid (BG_n.out.next hbw12)
    clear BG_n
    have BS_17 := Lib.hid (BS_n.out.next hbw12)
    clear BS_n
    have BH_17 := Lib.hid (BH_n.out.next hbw12)
    clear BH_n
    have OS_17 := Lib.hid (own_next OS_n.out hbw12)
    clear OS_n
    have RG_17 := Lib.hid (RG.out.next hbw12)
    clear RG
    clear qBH lBH
    go_upto_region 31 with fail
    obtain ⟨qBC0, qBC1, qBC2, qBC3⟩ := BC_17.out.four
    have lBC := BC_17.out.lt
    have qBG := BG_17.out.cell 0
    have lBG := BG_17.out.lt
    have RXn := Lib.hid (show Rd w12 w12.heap.size A n 3 Fac.cells xs from ((HX0.out.below bb17).more bb17.size))
    have RNn := Lib.hid (show RdT w12 w12.heap.size N m intE nh nx from ((HN0.out.below bb17).more bb17.size))
    have ROn := Lib.hid (show RdT w12 w12.heap.size O mo strEM oh ot from ((HO0.out.below bb17).more bb17.size))
    go_cut [15, 16] (fun u6 u7 wx => NewG w12 wx T C u6 u7)
    case first =>
      go_region_law
        (first
          | (go_simp
             go_wp2_with (go_at_call 7; refine (TC.out _ (RNn.out.next (by (repeat first | exact Below.refl _ _ | assumption | refine Below.drew ?_ | refine Below.alloc ?_ (by first | exact Nat.le_refl _ | (simp; done) | omega | (simp; omega)) _ | refine Below.setCell ?_ (by first | exact Nat.le_refl _ | (simp; done) | omega | (simp; omega)) _))) (ROn.out.next (by (repeat first | exact Below.refl _ _ | assumption | refine Below.drew ?_ | refine Below.alloc ?_ (by first | exact Nat.le_refl _ | (simp; done) | omega | (simp; omega)) _ | refine Below.setCell ?_ (by first | exact Nat.le_refl _ | (simp; done) | omega | (simp; omega)) _)))).mono ?_; rintro e wA ⟨A2, c2, h2, O2, d2, g2, rfl, tA, tO, hbA⟩)
             have bA : Below w12.heap.size w12 wA := Below.trans (by (repeat first | exact Below.refl _ _ | assumption | refine Below.drew ?_ | refine Below.alloc ?_ (by first | exact Nat.le_refl _ | (simp; done) | omega | (simp; omega)) _ | refine Below.setCell ?_ (by first | exact Nat.le_refl _ | (simp; done) | omega | (simp; omega)) _)) (hbA.mono (by first | exact Nat.le_refl _ | simp))
             have sA := bA.size
             have gA := (BG_17.out.next bA).cell 0
             have gAl := (BG_17.out.next bA).lt
             have rA := Lib.hid (tA.rd (fun _ => rfl))
             have rO := Lib.hid (tO.rd (fun _ => rfl))
             clear tA tO)
          | (go_simp
             go_wp2_with (go_at_call 8; refine (toGrammar_any A n c xs _ hn' (RXn.out.next (Below.trans bA (by (repeat first | exact Below.refl _ _ | assumption | refine Below.drew ?_ | refine Below.alloc ?_ (by first | exact Nat.le_refl _ | (simp; done) | omega | (simp; omega)) _ | refine Below.setCell ?_ (by first | exact Nat.le_refl _ | (simp; done) | omega | (simp; omega)) _))))).mono ?_; rintro e wB ⟨A3, c3, rfl, ownB, hbB⟩)
             have bAB : Below wA.heap.size wA wB := Below.trans (by (repeat first | exact Below.refl _ _ | assumption | refine Below.drew ?_ | refine Below.alloc ?_ (by first | exact Nat.le_refl _ | (simp; done) | omega | (simp; omega)) _ | refine Below.setCell ?_ (by first | exact Nat.le_refl _ | (simp; done) | omega | (simp; omega)) _)) (hbB.mono (by first | exact Nat.le_refl _ | simp))
             have bB := bA.trans (bAB.mono bA.size)
             have sB := bB.size
             have rA3 := Lib.hid (rA.out.next bAB)
             have rO3 := Lib.hid (rO.out.next bAB)
             have rB := Lib.hid (Rd.of_own (fun x _ => fac_len x) rfl ownB)
             clear ownB)
          | (go_simp
             go_wp2_with (go_at_call 9; refine (IM.out A2 O2 c2 d2 h2 g2 A3 c3 _ (rA3.out.next (by (repeat first | exact Below.refl _ _ | assumption | refine Below.drew ?_ | refine Below.alloc ?_ (by first | exact Nat.le_refl _ | (simp; done) | omega | (simp; omega)) _ | refine Below.setCell ?_ (by first | exact Nat.le_refl _ | (simp; done) | omega | (simp; omega)) _))) (rO3.out.next (by (repeat first | exact Below.refl _ _ | assumption | refine Below.drew ?_ | refine Below.alloc ?_ (by first | exact Nat.le_refl _ | (simp; done) | omega | (simp; omega)) _ | refine Below.setCell ?_ (by first | exact Nat.le_refl _ | (simp; done) | omega | (simp; omega)) _))) (rB.out.next (by (repeat first | exact Below.refl _ _ | assumption | refine Below.drew ?_ | refine Below.alloc ?_ (by first | exact Nat.le_refl _ | (simp; done) | omega | (simp; omega)) _ | refine Below.setCell ?_ (by first | exact Nat.le_refl _ | (simp; done) | omega | (simp; omega)) _)))).mono ?_; rintro e wC ⟨A4, c4, rfl, ownC, hbC⟩)
             have bBC : Below wB.heap.size wB wC := Below.trans (by (repeat first | exact Below.refl _ _ | assumption | refine Below.drew ?_ | refine Below.alloc ?_ (by first | exact Nat.le_refl _ | (simp; done) | omega | (simp; omega)) _ | refine Below.setCell ?_ (by first | exact Nat.le_refl _ | (simp; done) | omega | (simp; omega)) _)) (hbC.mono (by first | exact Nat.le_refl _ | simp))
             have bC := bB.trans (bBC.mono bB.size)
             have ownC' := ownC.mono (base' := w12.heap.size) (by first | exact sB | (simp; omega))
             clear ownC
             try (have zc := (Blk.new wB 33 #[.slice none 0 0]).next hbC; have zcc := zc.cell 0; have zcf := zc.frozen; have zcl := zc.lt)
             try (have zc := ((Blk.new wA 33 #[.slice none 0 0]).next hbB).next hbC; have zcc := zc.cell 0; have zcf := zc.frozen; have zcl := zc.lt)
             try (have zc := (((Blk.new w12 33 #[.slice none 0 0]).next (Below.refl _ _).drew).next hbA |>.next hbB).next hbC; have zcc := zc.cell 0; have zcf := zc.frozen; have zcl := zc.lt)))
      all_goals
        go_wp2_with fail
        go_meet
        first
          | exact newG_alloc bC ownC' (Nat.le_refl _)
          | exact newG_set bC ownC' (Nat.le_refl _) ((Blk.new wB _ _).next hbC) rfl (by omega)
          | exact newG_set bC ownC' (Nat.le_refl _) (((Blk.new wA _ _).next hbB).next hbC) rfl (by omega)
          | exact newG_set bC ownC' (Nat.le_refl _) (((((Blk.new w12 _ _).next (Below.refl _ _).drew).next hbA).next hbB).next hbC) rfl (by omega)
          | exact newG_set bC ownC' (Nat.le_refl _) ((((Blk.new _ _ _).next hbA).next hbB).next hbC) rfl (Nat.le_refl _)
    case rest =>
      obtain ⟨gH, A13, c13, rfl, rfl, hbH, ownH, blkH, hgH⟩ := hcut
      clear RXn RNn ROn qBC0 qBC1 qBC2 qBC3 lBC qBG lBG
      have bb18 := bb17.trans (hbH.mono bb17.size)
      have BC_18 := Lib.hid (BC_17.out.next hbH)
      clear BC_17
      have BG_18 := Lib.hid (BG_17.out.next hbH)
      clear BG_17
      have BS_18 := Lib.hid (BS_17.out.next hbH)
      clear BS_17
      have BH_18 := Lib.hid (BH_17.out.next hbH)
      clear BH_17
      have OS_18 := Lib.hid (own_next OS_17.out hbH)
      clear OS_17
      have RG_18 := Lib.hid (RG_17.out.next hbH)
      clear RG_17
      have OH := Lib.hid ownH
      have BI := Lib.hid blkH
      clear ownH blkH
      have qBS := BS_18.out.cell 0
      have lBS := BS_18.out.lt
      have qBI := BI.out.cell 0
      have lBI := BI.out.lt
      go_wp2_with fail
      refine (eqGrammar_any A13 A3 _ c13 _ c3 T T wc (by unfold maxLen; omega) (by unfold maxLen; omega) (Rd.of_own (fun x _ => fac_len x) rfl OH.out) (Rd.of_own (fun x _ => fac_len x) rfl OS_18.out) true (by simp)).mono ?_
      rintro e w14 ⟨rfl, hbw14⟩
      have bb19 := bb18.trans (hbw14.mono bb18.size)
      have BC_19 := Lib.hid (BC_18.out.next hbw14)
      clear BC_18
      have BG_19 := Lib.hid (BG_18.out.next hbw14)
      clear BG_18
      have BS_19 := Lib.hid (BS_18.out.next hbw14)
      clear BS_18
      have BH_19 := Lib.hid (BH_18.out.next hbw14)
      clear BH_18
      have OS_19 := Lib.hid (own_next OS_18.out hbw14)
      clear OS_18
      have RG_19 := Lib.hid (RG_18.out.next hbw14)
      clear RG_18
      have OH_19 := Lib.hid (own_next OH.out hbw14)
      clear OH
      have BI_19 := Lib.hid (BI.out.next hbw14)
      clear BI
      clear qBS lBS qBI lBI
      have qBH := BH_19.out.cell 0
      have lBH := BH_19.out.lt
      go_wp2_with fail
      refine (heldGrammar_any A6 _ c6 1 w14 (by omega) (by omega) RG_19.out).mono ?_
      rintro e w15 ⟨rfl, hbw15⟩
      have bb20 := bb19.trans (hbw15.mono bb19.size)
      have BC_20 := Lib.hid (BC_19.out.next hbw15)
      clear BC_19
      have BG_20 := Lib.hid (BG_19.out.next hbw15)
      clear BG_19
      have BS_20 := Lib.hid (BS_19.out.next hbw15)
      clear BS_19
      have BH_20 := Lib.hid (BH_19.out.next hbw15)
      clear BH_19
      have OS_20 := Lib.hid (own_next OS_19.out hbw15)
      clear OS_19
      have RG_20 := Lib.hid (RG_19.out.next hbw15)
      clear RG_19
      have OH_20 := Lib.hid (own_next OH_19.out hbw15)
      clear OH_19
      have BI_20 := Lib.hid (BI_19.out.next hbw15)
      clear BI_19
      clear qBH lBH
      go_wp2_with fail
      go_ret
      exact ⟨rfl, bb20⟩

set_option maxRecDepth 100000 in
theorem fnExactCodeGrammar_contract (H : Type) (enc : TypeId × Value → H) (W : World) (base : Nat) (args : Array Value) (ds gs : List (DataW H)) (before : List MemPlace)
    (hval : ∀ (j : Nat) t v, Try.f3.params[j]? = some t → args[j]? = some v → Value.okWide Try.prog W .any base t v)
    (hW : DataW.Whole enc Try.prog Try.f3.params.toList Rows.fnExactCodeGrammarSpec.vars false W args.toList ds gs before) :
    Calls Try.prog 3 args W fun e W' => ∃ v, e = .returned v ∧ Rows.fnExactCodeGrammarSpec.post enc Try.prog Try.f3 false true false false W args v W' := by
  have hW' := hW
  obtain ⟨p, q, hA0, hV, rfl, hfz, hnd⟩ := hW
  have hA : DataW.TrodAll enc Try.prog W 0 (fun _ => true) true Try.f3.params.toList args.toList ds p := hA0
  rw [Try.params3] at hA hval
  obtain ⟨v0, vs0, d0, ds0, p0, q0, hargs, rfl, rfl, h0, r0⟩ := trodAll_cons hA
  obtain ⟨v1, vs1, d1, ds1, p1, q1, rfl, rfl, rfl, h1, r1⟩ := trodAll_cons r0
  obtain ⟨rfl, rfl, rfl⟩ := trodAll_nil r1
  obtain rfl : args = #[v0, v1] := by cases args; simp_all
  obtain ⟨rfl, rfl⟩ := trodVars_none hV
  obtain ⟨S0, q0, N0, n0, cn0, nh0, nx0, O0, m0, co0, oh0, ot0, rfl, wS0, wq0, hn0, hm0, rn0, ro0, zn0, zo0⟩ := open_coder Try.underlying25 (by kernel_rfl) (by kernel_rfl) Try.underlying2 Try.underlying2 Try.underlying22 Try.underlying23 (by kernel_rfl) (by kernel_rfl) Try.underlying60 Try.underlying63 (by kernel_rfl) (by kernel_rfl) Try.underlying2 Try.underlying9 (hval 0 25 v0 rfl rfl) h0
  obtain ⟨A1, n1, c1, xs1, rfl, hn1, rd1, ok1⟩ := open_grammar Try.underlying28 (by kernel_rfl) (by kernel_rfl) Try.underlying26 Try.underlying87 (by kernel_rfl) (by kernel_rfl) Try.underlying9 Try.underlying2 Try.underlying2 (hval 1 28 v1 rfl rfl) h1
  clear hA0
  refine (walkCg S0 q0 N0 n0 cn0 nh0 nx0 O0 m0 co0 oh0 ot0 A1 n1 c1 xs1 W wS0 wq0 hn0 hm0 rn0 ro0 zn0 zo0 hn1 rd1 ok1).mono fun e W' ⟨he, hb⟩ => ?_
  subst he
  exact ⟨_, rfl, law_post laidOut hW' rfl 4 Try.underlying4 (by kernel_rfl) (by rw [Try.params3]; intro t ht; simp at ht; first | (subst ht; exact ⟨by kernel_rfl, of_decide_eq_true (by kernel_rfl)⟩) | (rcases ht with rfl | rfl <;> exact ⟨by kernel_rfl, of_decide_eq_true (by kernel_rfl)⟩) | (rcases ht with rfl | rfl | rfl <;> exact ⟨by kernel_rfl, of_decide_eq_true (by kernel_rfl)⟩) | (rcases ht with rfl | rfl | rfl | rfl <;> exact ⟨by kernel_rfl, of_decide_eq_true (by kernel_rfl)⟩)) rfl hb⟩

set_option maxRecDepth 100000 in
theorem fnExactCodeGrammar_lifted (os : Os) (started : os.Started) (H : Type) (enc : TypeId × Value → H) :
    ReturnsInHanded {} Try.checked os 3 .any (Rows.fnExactCodeGrammarSpec.pre6 enc Try.prog Try.f3 Rows.fnExactCodeGrammarRow.domain false) (Rows.fnExactCodeGrammarSpec.post enc Try.prog Try.f3 false true false false) := by
  refine returnsInHanded_of_change (C := Try.checked) own started (by kernel_rfl) Try.func3
    (ChangeSpec.witness6 (enc := enc) (C := Try.checked) false ⟨#[], #[.agg #[.int .i64 0, .int .i64 0, .slice none 0 0, .slice none 0 0], .agg #[.slice none 0 0]], []⟩ 8 (by kernel_rfl) (by kernel_rfl) (by kernel_rfl) (by kernel_rfl)) ?_
  intro W base args ds gs before hval0 hW hcnd _
  exact fnExactCodeGrammar_contract H enc W base args ds gs before hval0 hW

theorem fnExactCodeGrammar_holds : Rows.FnExactCodeGrammarSaid :=
  OpenClaim.holds_of_wide 3 Try.f3 rfl rfl rfl rfl rfl rfl rfl ⟨rfl, rfl, rfl, rfl, rfl⟩ rfl rfl rfl rfl rfl (by as_aux_lemma => kernel_rfl) Try.func3
    (joined_mk (by as_aux_lemma => kernel_rfl) laidOut mapsRowed' (by as_aux_lemma => kernel_rfl) (by as_aux_lemma => kernel_rfl) (by as_aux_lemma => kernel_rfl) (by as_aux_lemma => kernel_rfl) (by as_aux_lemma => kernel_rfl) (by as_aux_lemma => kernel_rfl) plainKeys' rfl heard' mayEnter' lifts' make' (by as_aux_lemma => kernel_rfl))
    (of_decide_eq_true (by kernel_rfl)) (by unfold Func.isWrapper; first | (rw [if_pos (by decide +kernel)]; kernel_rfl) | (rw [if_neg (by decide +kernel)]; exact ⟨rfl, rfl⟩))
    (fun os started H enc _ => fnExactCodeGrammar_lifted os started H enc)

end Go.Proofs.Ytmdmgndhapdmgaa
