/-
  Texts of this claim, merged: CgS CgI Wd TrimV WdM WdN.
-/
import Derived.Test.YtmdmgndhapdmgaaGreatP4


/-
  The grammar of a code, in the reference.
-/
namespace Go.Proofs.YtmdmgndhapdmgaaGreat
open Go.RowKit
theorem Rd.takeG {α : Type} {w : World} {B n sz : Nat} {A : Option Addr} {enc : α → List Value} {xs : List α} (h : Rd w B A n sz enc xs) {k : Nat} (hk : k ≤ n) : Rd w B A k sz enc (xs.take k) := by
  refine ⟨by rw [List.length_take, h.1]; omega, fun hp => ?_⟩
  obtain ⟨b, o, hA, hb, hc⟩ := h.2 (by omega)
  refine ⟨b, o, hA, hb, fun i x hx j v hv => hc i x ?_ j v hv⟩
  rw [List.getElem?_take] at hx
  split at hx
  · exact hx
  · cases hx

set_option maxHeartbeats 8000000 in
set_option maxRecDepth 100000 in
theorem codeGS_any (S q : Int) (N O : Option Addr) (m cn mo_ co : Nat) (nh oh : List RowH) (nx : List (List Int)) (ot : List (List ByteArray)) (G : Option Addr) (n c : Nat) (rs : List Fac) (w : World) (hm : m ≤ 1048576) (hmo : mo_ ≤ 1048576) (hn : n ≤ 1048576)
    (hx : RdT w w.heap.size N m intE nh nx) (ho : RdT w w.heap.size O mo_ strEM oh ot) (hoz : ∀ r ∈ ot, ∀ t ∈ r, t.size ≤ maxLen) (hr : Rd w w.heap.size G n 3 Fac.cells rs) (hok : ∀ f ∈ rs, f.l.size ≤ maxLen) :
    Calls Tryz.prog 11 #[.agg #[.int .i64 S, .int .i64 q, .slice N m cn, .slice O mo_ co], .agg #[.slice G n c]] w (RetGC w (cgR S q nx ot rs).1 (cgR S q nx ot rs).2) := by
  have HN := Lib.hid hx; have HO := Lib.hid ho; have HZ := Lib.hid hoz; have HR := Lib.hid hr; have HK := Lib.hid hok
  have hl := Lib.hid hr.len
  clear hx ho hoz hr hok
  have start : ∀ w3, Hid (w3 = ((w.alloc (.cells #[.int .i64 S, .int .i64 q, .slice N m cn, .slice O mo_ co] 27)).alloc (.cells #[.slice G n c] 31)).alloc (.cells #[.slice none 0 0] 31)) →
      Below w.heap.size w w3 ∧ Blk w3 w.heap.size 27 #[.int .i64 S, .int .i64 q, .slice N m cn, .slice O mo_ co] ∧ Blk w3 (w.heap.size + 1) 31 #[.slice G n c] ∧ Blk w3 (w.heap.size + 2) 31 #[.slice none 0 0] := fun w3 H3 => by
    rw [H3.out]
    refine ⟨by (repeat first | exact Below.refl _ _ | assumption | refine Below.drew ?_ | refine Below.alloc ?_ (by first | exact Nat.le_refl _ | (simp; done) | omega | (simp; omega)) _ | refine Below.setCell ?_ (by first | exact Nat.le_refl _ | (simp; done) | omega | (simp; omega)) _), ((Blk.new _ _ _).alloc _).alloc _, ?_, ?_⟩
    · have h := (Blk.new (w.alloc (.cells #[.int .i64 S, .int .i64 q, .slice N m cn, .slice O mo_ co] 27)) 31 #[.slice G n c]).alloc (.cells #[.slice none 0 0] 31)
      simpa using h
    · simpa using Blk.new ((w.alloc (.cells #[.int .i64 S, .int .i64 q, .slice N m cn, .slice O mo_ co] 27)).alloc (.cells #[.slice G n c] 31)) 31 #[.slice none 0 0]
  have Start := Lib.hid start; clear start
  have shut : ∀ w4, Below w.heap.size w w4 → Blk w4 (w.heap.size + 2) 31 #[.slice none 0 0] →
      (w4.cell? ⟨w.heap.size + 2, 0, none⟩ = some (.slice none 0 0)) ∧ (∀ i, w4.frozen? ⟨w.heap.size + 2, i, none⟩ = false) ∧ w.heap.size + 2 < w4.heap.size ∧
      (w4.setCell ⟨w.heap.size + 2, 0, none⟩ (.slice none 0 0)).cell? ⟨w.heap.size + 2, 0, none⟩ = some (.slice none 0 0) ∧ Below w.heap.size w (w4.setCell ⟨w.heap.size + 2, 0, none⟩ (.slice none 0 0)) := fun w4 hb B4 => by
    refine ⟨B4.cell 0, B4.frozen, B4.lt, ?_, hb.setCell (by simp) _⟩
    rw [(B4.set_ 0 (.slice none 0 0)).cell 0]; rfl
  have Shut_ := Lib.hid shut; clear shut
  rcases hc : cdB S q nx ot with _ | _
  · have eR := Lib.hid (show cgR S q nx ot rs = ([], 1) by unfold cgR; rw [if_neg (by rw [hc]; simp)])
    have Hc := Lib.hid hc
    clear hc
    go_enter Tryz.func11, Tryz.ntmps11
    go_wp2_with fail
    refine namedC fun w3 H3 => ?_
    obtain ⟨hb3, BK, BG, BC⟩ := Start.out w3 H3
    clear H3
    refine (l04Coder_any w.heap.size S q N O m cn mo_ co nh oh nx ot w3 BK hm hmo (HN.out.next hb3) (HO.out.next hb3) HZ.out false Hc.out).mono ?_
    rintro e1 w4 ⟨rfl, hb4⟩
    obtain ⟨d4, f4, l4, x5, b5⟩ := Shut_.out w4 (hb3.trans (hb4.mono hb3.size)) (BC.next hb4)
    clear BG BC BK
    go_wp2_with fail
    exact bodyPost_ret (v := .tuple #[.agg #[.slice none 0 0], .int .i64 1]) (by simp [results, Tryz.results11, go_sem, x5]) rfl ⟨none, 0, by rw [eR.out]; rfl, by rw [eR.out]; exact World.ownsRow_nil _ _ _ _, b5⟩
  rcases hg : (gOk rs).isSome with _ | _
  · have eR := Lib.hid (show cgR S q nx ot rs = ([], 1) by unfold cgR; rw [if_neg (by rw [hg]; simp)])
    have Hc := Lib.hid hc
    have Hg := Lib.hid hg
    clear hc hg
    go_enter Tryz.func11, Tryz.ntmps11
    go_wp2_with fail
    refine namedC fun w3 H3 => ?_
    obtain ⟨hb3, BK, BG, BC⟩ := Start.out w3 H3
    clear H3
    refine (l04Coder_any w.heap.size S q N O m cn mo_ co nh oh nx ot w3 BK hm hmo (HN.out.next hb3) (HO.out.next hb3) HZ.out true Hc.out).mono ?_
    rintro e1 w4 ⟨rfl, hb4⟩
    have b4 := hb3.trans (hb4.mono hb3.size)
    have BG4 := Lib.hid (BG.next hb4)
    have BC4 := Lib.hid (BC.next hb4)
    clear BG BC BK
    go_wp2_with fail
    refine (l02Ok_any (w.heap.size + 1) G n c rs w4 BG4.out.lt (BG4.out.cell 0) (by omega) (HR.out.next b4) HK.out false Hg.out).mono ?_
    rintro e1 w5 ⟨rfl, hb5⟩
    obtain ⟨d4, f4, l4, x5, b5⟩ := Shut_.out w5 (b4.trans (hb5.mono b4.size)) (BC4.out.next hb5)
    go_wp2_with fail
    exact bodyPost_ret (v := .tuple #[.agg #[.slice none 0 0], .int .i64 1]) (by simp [results, Tryz.results11, go_sem, x5]) rfl ⟨none, 0, by rw [eR.out]; rfl, by rw [eR.out]; exact World.ownsRow_nil _ _ _ _, b5⟩
  obtain ⟨ls, hls⟩ := Option.isSome_iff_exists.1 hg
  have hgl := (gOk_lens hls).1
  have hn4 : n ≤ 400 := by have := (gOk_lens hls).2.1; have := hl.out; omega
  have Hwf := Lib.hid (wf_of hgl)
  have Hgl := Lib.hid hgl
  have Hg := Lib.hid hg
  have Hc := Lib.hid hc
  obtain ⟨knx, kot, kS1, kS2, kq1, kq2⟩ := cd_ok hc
  obtain ⟨SN, rfl⟩ := Int.eq_ofNat_of_zero_le (show 0 ≤ S by omega)
  obtain ⟨qN, rfl⟩ := Int.eq_ofNat_of_zero_le kq1
  rw [Int.toNat_natCast] at knx kot
  have kl1 : m = SN := by rw [← knx.len]; exact HN.out.len.symm
  have kl2 : SN = mo_ := by rw [← kot.len]; exact HO.out.len
  subst kl1
  subst kl2
  have eR := Lib.hid (show cgR (m : Int) (qN : Int) nx ot rs = cgL nx ot m qN rs by unfold cgR; rw [if_pos ⟨hc, hg⟩]; rfl)
  have hS1 : 1 ≤ m := by omega
  have hS2 : m ≤ 24 := by omega
  have hq : qN < m := by omega
  have Knx := Lib.hid knx
  have Kot := Lib.hid kot
  clear hc hg hls hgl knx kot kS1 kS2 kq1 kq2
  rcases Nat.eq_zero_or_pos n with hn0 | hn0
  · have eL := Lib.hid (show cgL nx ot m qN rs = ([], 0) by unfold cgL; rw [if_pos (by rw [hl.out]; exact hn0)])
    have e0 : ((n : Int) == 0) = true := by simp [hn0]
    clear hn0
    go_enter Tryz.func11, Tryz.ntmps11
    go_wp2_with fail
    refine namedC fun w3 H3 => ?_
    obtain ⟨hb3, BK, BG, BC⟩ := Start.out w3 H3
    clear H3
    refine (l04Coder_any w.heap.size m qN N O m cn m co nh oh nx ot w3 BK hm hmo (HN.out.next hb3) (HO.out.next hb3) HZ.out true Hc.out).mono ?_
    rintro e1 w4 ⟨rfl, hb4⟩
    have b4 := hb3.trans (hb4.mono hb3.size)
    have BG4 := Lib.hid (BG.next hb4)
    have BC4 := Lib.hid (BC.next hb4)
    clear BG BC BK
    go_wp2_with fail
    refine (l02Ok_any (w.heap.size + 1) G n c rs w4 BG4.out.lt (BG4.out.cell 0) (by omega) (HR.out.next b4) HK.out true Hg.out).mono ?_
    rintro e1 w5 ⟨rfl, hb5⟩
    obtain ⟨d4, f4, l4, x5, b5⟩ := Shut_.out w5 (b4.trans (hb5.mono b4.size)) (BC4.out.next hb5)
    have g5 := (BG4.out.next hb5).cell 0
    have g5l := (BG4.out.next hb5).lt
    go_wp2_with fail
    exact bodyPost_ret (v := .tuple #[.agg #[.slice none 0 0], .int .i64 0]) (by simp [results, Tryz.results11, go_sem, x5]) rfl ⟨none, 0, by rw [eR.out, eL.out]; rfl, by rw [eR.out, eL.out]; exact World.ownsRow_nil _ _ _ _, b5⟩
  have e0 : ((n : Int) == 0) = false := by simp; omega
  have hn0' : rs.length ≠ 0 := by rw [hl.out]; omega
  have hci := codN_in Knx.out Kot.out Hgl.out hq
  by_cases hcl : 1000000000000000 < codN nx ot qN rs
  · have eL := Lib.hid (show cgL nx ot m qN rs = ([], 3) by unfold cgL; rw [if_neg hn0', if_pos (.inr hcl)])
    have hcp : clp (codN nx ot qN rs) = 1000000000000001 := by unfold clp; omega
    have LG := Lib.hid (fun W (hb : Below w.heap.size w W) (hB : Blk W w.heap.size 27 #[.int .i64 (m : Int), .int .i64 (qN : Int), .slice N m cn, .slice O m co]) (hB2 : Blk W (w.heap.size + 1) 31 #[.slice G n c]) =>
      l04Long_any m qN w.heap.size (w.heap.size + 1) N O cn co nh oh nx ot G n c rs ls W hS1 hS2 hq hn hB hB2.lt (hB2.cell 0) (HN.out.next hb) (HO.out.next hb) Knx.out Kot.out (HR.out.next hb) Hgl.out)
    rw [hcp] at LG
    clear hcl hcp hci hn0'
    go_enter Tryz.func11, Tryz.ntmps11
    go_wp2_with fail
    refine namedC fun w3 H3 => ?_
    obtain ⟨hb3, BK, BG, BC⟩ := Start.out w3 H3
    clear H3
    refine (l04Coder_any w.heap.size m qN N O m cn m co nh oh nx ot w3 BK hm hmo (HN.out.next hb3) (HO.out.next hb3) HZ.out true Hc.out).mono ?_
    rintro e1 w4 ⟨rfl, hb4⟩
    have b4 := hb3.trans (hb4.mono hb3.size)
    have BG4 := Lib.hid (BG.next hb4)
    have BC4 := Lib.hid (BC.next hb4)
    have BK4 := Lib.hid (BK.next hb4)
    clear BG BC BK
    go_wp2_with fail
    refine (l02Ok_any (w.heap.size + 1) G n c rs w4 BG4.out.lt (BG4.out.cell 0) (by omega) (HR.out.next b4) HK.out true Hg.out).mono ?_
    rintro e1 w5 ⟨rfl, hb5⟩
    have b5 := b4.trans (hb5.mono b4.size)
    have g5 := (BG4.out.next hb5).cell 0
    have g5l := (BG4.out.next hb5).lt
    go_wp2_with fail
    refine (LG.out w5 b5 (BK4.out.next hb5) (BG4.out.next hb5)).mono ?_
    rintro e1 w6 ⟨rfl, hb6⟩
    obtain ⟨d4, f4, l4, x5, b6⟩ := Shut_.out w6 (b5.trans (hb6.mono b5.size)) ((BC4.out.next hb5).next hb6)
    go_wp2_with fail
    exact bodyPost_ret (v := .tuple #[.agg #[.slice none 0 0], .int .i64 3]) (by simp [results, Tryz.results11, go_sem, x5]) rfl ⟨none, 0, by rw [eR.out, eL.out]; rfl, by rw [eR.out, eL.out]; exact World.ownsRow_nil _ _ _ _, b6⟩
  have hcp : clp (codN nx ot qN rs) ≤ 1000000000000000 := by unfold clp; omega
  have LG := Lib.hid (fun W (hb : Below w.heap.size w W) (hB : Blk W w.heap.size 27 #[.int .i64 (m : Int), .int .i64 (qN : Int), .slice N m cn, .slice O m co]) (hB2 : Blk W (w.heap.size + 1) 31 #[.slice G n c]) =>
    l04Long_any m qN w.heap.size (w.heap.size + 1) N O cn co nh oh nx ot G n c rs ls W hS1 hS2 hq hn hB hB2.lt (hB2.cell 0) (HN.out.next hb) (HO.out.next hb) Knx.out Kot.out (HR.out.next hb) Hgl.out)
  generalize clp (codN nx ot qN rs) = cl at *
  have hcl' : ¬ (1000000000000000 < cl) := by omega
  obtain ⟨MP, hMP⟩ : ∃ MP, maps nx rs = MP := ⟨_, rfl⟩
  have hMl : MP.length = n := by rw [← hMP, ← hl.out]; exact full_len [] (mF nx) mG
  obtain ⟨MT, hMT⟩ : ∃ MT, metT MP rs m qN = MT := ⟨_, rfl⟩
  have HMok := Lib.hid (show ∀ k, k < n → StL m (MP.getD k []) from fun k hk => by rw [← hMP]; exact maps_ok Knx.out Hwf.out k (by rw [hl.out]; exact hk))
  have HSh := Lib.hid (show Sh rs.length m MT by rw [← hMT]; exact metT_sh Hwf.out hn0' qN)
  obtain ⟨MD, hMD⟩ : ∃ MD, mdA nx ot m qN rs = MD := ⟨_, rfl⟩
  have HMD := Lib.hid (show mdM ot MP MT (rs.drop 0) 0 [] [] = MD by rw [← hMD, ← hMT, ← hMP]; rfl)
  have HMDok := Lib.hid (show MdI m n MD.1 MD.2 by rw [← hMD, ← hl.out]; exact mdA_ok hS2 Knx.out Kot.out Hwf.out hn0')
  have eL := Lib.hid (show cgL nx ot m qN rs = if 400 < MD.1.length then ([], 3) else (trimL (MD.1.take ((MD.2.getD (n - 1) []).getD qN 0 + 1).toNat), 0) by
    unfold cgL
    rw [if_neg hn0']
    unfold rootM
    rw [hMD, hl.out]
    by_cases h4 : 400 < MD.1.length
    · rw [if_pos (.inl h4), if_pos h4]
    · rw [if_neg (by rintro (h | h); exact h4 h; exact hcl h), if_neg h4])
  have SM := Lib.hid (fun W (hb : Below w.heap.size w W) (hB2 : Blk W (w.heap.size + 1) 31 #[.slice G n c]) => show Calls Tryz.prog 41 #[.slice N m cn, .pointer (some ⟨w.heap.size + 1, 0, none⟩)] W (RetTab W MP) from by
    have h := l04Maps_any m N cn nh nx (w.heap.size + 1) G n c rs W hS1 hS2 hn (HN.out.next hb) Knx.out hB2.lt (hB2.cell 0) (HR.out.next hb) Hwf.out
    rw [hMP] at h; exact h)
  have SMt := Lib.hid (fun W (hb : Below w.heap.size w W) (hB2 : Blk W (w.heap.size + 1) 31 #[.slice G n c]) (M : Option Addr) (cm : Nat) (mh : List RowH) (hm : RdT W W.heap.size M n intE mh MP) => show Calls Tryz.prog 42 #[.pointer (some ⟨w.heap.size + 1, 0, none⟩), .slice M n cm, .int .i64 (qN : Int)] W (RetTabB W MT) from by
    have h := l04Met_any m qN (w.heap.size + 1) M cm mh MP G n c rs W hq hS2 (by omega) hn hB2.lt (hB2.cell 0) (HR.out.next hb) Hwf.out hm HMok.out
    rw [hMT] at h; exact h)
  clear hcl hcp hci hMP hMT hMD hn0'
  go_enter Tryz.func11, Tryz.ntmps11
  go_wp2_with fail
  refine namedC fun w3 H3 => ?_
  obtain ⟨hb3, BK, BG, BC⟩ := Start.out w3 H3
  clear H3
  refine (l04Coder_any w.heap.size m qN N O m cn m co nh oh nx ot w3 BK hm hmo (HN.out.next hb3) (HO.out.next hb3) HZ.out true Hc.out).mono ?_
  rintro e1 w4 ⟨rfl, hb4⟩
  have b4 := hb3.trans (hb4.mono hb3.size)
  have BG4 := Lib.hid (BG.next hb4)
  have BC4 := Lib.hid (BC.next hb4)
  have BK4 := Lib.hid (BK.next hb4)
  clear BG BC BK
  go_wp2_with fail
  refine (l02Ok_any (w.heap.size + 1) G n c rs w4 BG4.out.lt (BG4.out.cell 0) (by omega) (HR.out.next b4) HK.out true Hg.out).mono ?_
  rintro e1 w5 ⟨rfl, hb5⟩
  have b5 := b4.trans (hb5.mono b4.size)
  have BG5 := Lib.hid (BG4.out.next hb5)
  have BC5 := Lib.hid (BC4.out.next hb5)
  have BK5 := Lib.hid (BK4.out.next hb5)
  have g5 := BG5.out.cell 0
  have g5l := BG5.out.lt
  clear BG4 BC4 BK4 hb4 hb3
  go_wp2_with fail
  refine (LG.out w5 b5 BK5.out BG5.out).mono ?_
  rintro e1 w6 ⟨rfl, hb6⟩
  have b6 := b5.trans (hb6.mono b5.size)
  have BG6 := Lib.hid (BG5.out.next hb6)
  have BC6 := Lib.hid (BC5.out.next hb6)
  have BK6 := Lib.hid (BK5.out.next hb6)
  obtain ⟨k60, k61, k62, k63⟩ := BK6.out.four
  have k6l := BK6.out.lt
  clear BG5 BC5 BK5 hb5 g5 g5l LG
  go_wp2_with fail
  refine (SM.out w6 b6 BG6.out).mono ?_
  rintro e1 w7 ⟨M, cm, mh, rfl, tM, hb7⟩
  rw [hMl] at tM
  rw [hMl]
  have b7 := b6.trans (hb7.mono b6.size)
  have BG7 := Lib.hid (BG6.out.next hb7)
  have BC7 := Lib.hid (BC6.out.next hb7)
  have BK7 := Lib.hid (BK6.out.next hb7)
  have RM7 := Lib.hid (tM.rd (fun _ => rfl))
  obtain ⟨k70, k71, k72, k73⟩ := BK7.out.four
  have k7l := BK7.out.lt
  clear BG6 BC6 BK6 hb6 hb7 tM k60 k61 k62 k63 k6l SM
  go_wp2_with fail
  refine (SMt.out w7 b7 BG7.out M cm mh RM7.out).mono ?_
  rintro e1 w8 ⟨MB_, cb_, bh, rfl, tB, hb8⟩
  have hMTl : MT.length = n := by rw [HSh.out.len, hl.out]
  rw [hMTl] at tB
  rw [hMTl]
  have b8 := Lib.hid (b7.trans (hb8.mono b7.size))
  have BG8 := Lib.hid (BG7.out.next hb8)
  have BC8 := Lib.hid (BC7.out.next hb8)
  have BK8 := Lib.hid (BK7.out.next hb8)
  have RM8 := Lib.hid (RM7.out.next hb8)
  have RB8 := Lib.hid (tB.rd (fun _ => rfl))
  have RR8 := Lib.hid (HR.out.next b8.out)
  have RO8 := Lib.hid (HO.out.next b8.out)
  obtain ⟨C, hC⟩ : ∃ C, w.heap.size = C := ⟨_, rfl⟩
  clear BG7 BC7 BK7 hb8 tB RM7 k70 k71 k72 k73 k7l SMt b7 b6 b5 b4 HN HO HR
  go_upto_region 10 with fail
  refine named fun w9 H9 => ?_
  have O9 := Lib.hid (show CmO w8 w9 w8.heap.size none 0 0 [] none 0 0 [] [] from ⟨World.ownsRow_nil _ _ _ _, by rw [H9.out]; exact Blk.new _ _ _, TabR.nil _ _, by rw [H9.out]; exact (Below.refl _ _).alloc (Nat.le_refl _) _, Nat.le_refl _, rfl⟩)
  obtain ⟨MB, hMB⟩ : ∃ MB, w8.heap.size = MB := ⟨_, rfl⟩
  have hCW := Lib.hid (show C < MB ∧ C + 1 < MB ∧ C + 2 < MB from by
    have h1 := BK8.out.lt; have h2 := BG8.out.lt; have h3 := BC8.out.lt
    rw [hC] at h1 h2 h3; omega)
  rw [hC] at BK8 BG8 BC8
  rw [hMB] at O9 ⊢
  have HMB := Lib.hid hMB
  have HC := Lib.hid hC
  clear H9 hMB hC
  have HF := Lib.hid (fun W (h : Below w8.heap.size w8 W) => show (W.cell? ⟨C, 1, none⟩ = some (.int .i64 (qN : Int)) ∧ W.cell? ⟨C, 2, none⟩ = some (.slice N m cn) ∧ W.cell? ⟨C, 3, none⟩ = some (.slice O m co)) ∧ W.cell? ⟨C + 1, 0, none⟩ = some (.slice G n c) ∧ C < W.heap.size ∧ C + 1 < W.heap.size from
    ⟨⟨(BK8.out.next h).cell 1, (BK8.out.next h).cell 2, (BK8.out.next h).cell 3⟩, (BG8.out.next h).cell 0, (BK8.out.next h).lt, (BG8.out.next h).lt⟩)
  go_wp2_with fail
  go_loopw [9] (fun i_ w' => ∃ (i : Nat) (out : List Fac) (A : Option Addr) (nn cc : Nat) (B : Option Addr) (d : Nat) (hs : List RowH) (st : List (List Int)), i_ = .int .i64 i ∧ i ≤ n ∧ nn ≤ 400 ∧ Hid (CmO w8 w' MB A nn cc out B i d hs st) ∧ Hid (MdI m i out st) ∧ Hid (mdM ot MP MT (rs.drop i) i out st = MD)) (fun i_ _ => n - (intOf i_).toNat)
  case atStart => exact ⟨0, [], none, 0, 0, none, 0, [], [], rfl, by omega, by omega, O9, Lib.hid (mdI_nil m), HMD⟩
  case round =>
    obtain ⟨i, out, A, nn, cc, B, d, hs, st, rfl, hi, hnn, OW, HI, HE⟩ := hrel
    clear O9 HMD
    obtain ⟨⟨f1, f2, f3⟩, f4, fl1, fl2⟩ := HF.out wr OW.out.e
    by_cases hlt : i < n
    · obtain ⟨b, o, x, rfl, hB, gx, c0, c1, c2⟩ := (RR8.out.next OW.out.e).fac hlt
      have HGx := Lib.hid gx
      have HWk := Lib.hid (Hwf.out i x gx)
      obtain ⟨v, gv, lv⟩ := HSh.out.at_ (i := i) (by rw [hl.out]; exact hlt)
      have HGv := Lib.hid gv
      have HRW := Lib.hid (show mdM ot MP MT (rs.drop (i + 1)) (i + 1) (rwM ot MP st x (v.drop 0) 0 out []).1 (st ++ [(rwM ot MP st x (v.drop 0) 0 out []).2]) = MD by
        rw [← HE.out, drop_cons gx, mdM]
        have e : MT.getD i [] = v := by rw [List.getD_eq_getElem?_getD, gv]; rfl
        rw [e]; rfl)
      have i0 : (0 : Int) ≤ (i : Int) := by omega
      have i1 : (i : Int) < (n : Int) := by omega
      clear HE gx gv
      go_upto_region 15 with fail
      refine named fun w2 H2 => ?_
      have bw2 : Below wr.heap.size wr w2 := by rw [H2.out]; (repeat first | exact Below.refl _ _ | assumption | refine Below.drew ?_ | refine Below.alloc ?_ (by first | exact Nat.le_refl _ | (simp; done) | omega | (simp; omega)) _ | refine Below.setCell ?_ (by first | exact Nat.le_refl _ | (simp; done) | omega | (simp; omega)) _)
      have W2 := Lib.hid (show CmW w8 w2 MB A nn cc out B i d hs st wr.heap.size x (some ⟨wr.heap.size + 1, 0, none⟩) 0 0 [] from
        ⟨OW.out.next bw2, by rw [H2.out]; exact (Blk.new wr 72 #[.string x.l, .int .i64 x.a, .int .i64 x.b]).alloc _, by
          rw [H2.out]
          have h := World.ownsRow_made (base := w8.heap.size) (e := 2) (size := 1) (wr.alloc (.cells #[.string x.l, .int .i64 x.a, .int .i64 x.b] 72)) #[] 0 (by have := OW.out.e.size; simp; omega) (by unfold maxLen; omega) rfl
          simpa using h, fun j p g hp hv e => by
            have e' : wr.heap.size + 1 = g := by injection e
            have := (OW.out.t.ge j p g hp hv).2; omega, fun g hg => by have := (OW.out.q.lt g hg).2; omega, by have := OW.out.m.lt; omega⟩)
      obtain ⟨X, hX⟩ : ∃ X, wr.heap.size = X := ⟨_, rfl⟩
      rw [hX] at W2 ⊢
      have HI2 := Lib.hid HI.out.start
      clear H2 bw2 OW c0 c1 c2 f1 f2 f3 f4 fl1 fl2 hB hX
      go_wp2_with fail
      go_loopw [11, 12] (fun l_ s_ w' => ∃ (s : Nat) (out : List Fac) (A : Option Addr) (nn cc : Nat) (R : Option Addr) (cr : Nat) (acc : List Int), s_ = .int .i64 s ∧ l_ = .slice R s cr ∧ s ≤ m ∧ nn ≤ 96240 ∧ Hid (CmW w8 w' MB A nn cc out B i d hs st X x R s cr acc) ∧ Hid (RwI m i st s out acc) ∧
        Hid (mdM ot MP MT (rs.drop (i + 1)) (i + 1) (rwM ot MP st x (v.drop s) s out acc).1 (st ++ [(rwM ot MP st x (v.drop s) s out acc).2]) = MD)) (fun _ s_ _ => m - (intOf s_).toNat)
      case atStart => exact ⟨0, out, A, nn, cc, _, 0, [], rfl, rfl, by omega, by omega, W2, HI2, HRW⟩
      case round =>
        clear W2 HI2 HRW HI
        obtain ⟨s, out, A, nn, cc, R, cr, acc, rfl, rfl, hsm, hnn2, HP, HI, HE⟩ := hrel
        obtain ⟨⟨f1, f2, f3⟩, f4, fl1, fl2⟩ := HF.out wr HP.out.o.e
        by_cases hlt2 : s < m
        · obtain ⟨bz, hbz⟩ : ∃ bz, v[s]? = some bz := ⟨_, List.getElem?_eq_getElem (by omega)⟩
          obtain ⟨vp, vo, vg, vgo, vc, rfl, hvpl, ev, hvgl, evg⟩ := (RB8.out.next HP.out.o.e).cell2 .bool (fun _ => rfl) HGv.out hbz
          rw [lv] at ev
          have hln := HP.out.o.ln
          have hle := HI.out.le
          have Hle := Lib.hid (show nn ≤ 240 * i + 10 * s by omega)
          have Hok := Lib.hid (stM_ok (b := bz) Kot.out (fun j hj => HMok.out j (by omega)) HI.out hlt2 HWk.out)
          have HE2 := Lib.hid (show mdM ot MP MT (rs.drop (i + 1)) (i + 1) (rwM ot MP st x (v.drop (s + 1)) (s + 1) (stM ot MP st x s bz out).1 (acc ++ [(stM ot MP st x s bz out).2])).1 (st ++ [(rwM ot MP st x (v.drop (s + 1)) (s + 1) (stM ot MP st x s bz out).1 (acc ++ [(stM ot MP st x s bz out).2])).2]) = MD by
            rw [← HE.out, drop_cons hbz]; rfl)
          have HI2 := Lib.hid (HI.out.step Hok.out)
          have s0 : (0 : Int) ≤ (s : Int) := by omega
          have s1 : (s : Int) < (m : Int) := by omega
          obtain ⟨y0, y1, y2⟩ := HP.out.x.three
          have yl := HP.out.x.lt
          clear HE hln hle
          rcases bz with _ | _
          · have ep : stM ot MP st x s false out = (out, -1) := rfl
            rw [ep] at HI2 HE2 Hok
            clear ep
            have P7 := Lib.hid (HP.out.alloc (.cells #[.int .i64 (-1)] 2))
            go_wp2_with
              (at_builtin
               refine wpList_pushG rfl _ _ _ rfl w8.heap.size 2 1 8 elem_int intE R s cr acc rfl P7.out.l wr.heap.size ((-1) : Int) _ _ _ rfl (heap_alloc_new _ _) rfl rfl (by simp [intE, Value.oneCell']) (by omega) (by omega) (by unfold maxLen; omega) P7.out.o.e.size ?_
               intro A9 c9 w9 own9 hg9 at9
               have P9 := Lib.hid (P7.out.push own9 hg9 at9)
               clear own9 hg9 at9)
            go_roundw
            case rel => exact ⟨s + 1, out, A, nn, cc, A9, c9, _, by go_num, rfl, by omega, by omega, P9, HI2, HE2⟩
            case measure => simp [intOf]; omega
          · rcases HWk.out with ⟨h0, ha0, ha1, hb0, hb1⟩ | ⟨lc, hcc, hxl, hxa, hxb⟩
            · have e0 := size0 h0
              obtain ⟨xa, hxa⟩ := Int.eq_ofNat_of_zero_le ha0
              obtain ⟨xb, hxb⟩ := Int.eq_ofNat_of_zero_le hb0
              obtain ⟨va, gva, pva⟩ := HI.out.at_ (i := xa) (by omega)
              obtain ⟨vb, gvb, pvb⟩ := HI.out.at_ (i := xb) (by omega)
              obtain ⟨zx, gzx, zx0, zx1⟩ := pva.at_ hlt2
              obtain ⟨mm, gmm⟩ : ∃ mm, MP[xa]? = some mm := ⟨_, List.getElem?_eq_getElem (by omega)⟩
              have hms : StL m mm := by have h := HMok.out xa (by omega); rw [List.getD_eq_getElem?_getD, gmm] at h; exact h
              obtain ⟨t, gt, ht⟩ := hms.at_ hlt2
              obtain ⟨zy, gzy, zy0, zy1⟩ := pvb.at_ ht
              have ep := stM_pair (ot := ot) (M := MP) (st := st) (out := out) h0 hxa hxb gmm gt gva gzx gvb gzy
              rw [ep] at HI2 HE2 Hok
              obtain ⟨tb, ga, ca, rfl, htbl, _, ea, hgal, ega, _⟩ := HP.out.o.t.cell2 (.int .i64) (fun _ => rfl) gva gzx
              obtain ⟨tb', gb, cb, htb', _, _, eb, hgbl, egb, _⟩ := HP.out.o.t.cell2 (.int .i64) (fun _ => rfl) gvb gzy
              obtain rfl : tb = tb' := by injection htb' with htb'; injection htb'
              rw [pva.1] at ea
              rw [pvb.1] at eb
              obtain ⟨mp, mo, mg, mgo, mc, rfl, hmpl, em, hmgl, emg⟩ := (RM8.out.next HP.out.o.e).cell2 (.int .i64) (fun _ => rfl) gmm gt
              rw [hms.1] at em
              rw [hxa] at y1
              rw [hxb] at y2
              have ym := HP.out.o.m.cell 1
              have yml := HP.out.o.m.lt
              have HS := Lib.hid (fun W (h : Below wr.heap.size wr W) => show W.cell? ⟨MB, 1, none⟩ = some (.slice (some ⟨tb, 0, none⟩) i d) ∧ W.cell? ⟨X, 1, none⟩ = some (.int .i64 (xa : Int)) ∧ W.cell? ⟨X, 2, none⟩ = some (.int .i64 (xb : Int)) ∧ W.cell? ⟨tb, xa, none⟩ = some (.slice (some ⟨ga, 0, none⟩) m ca) ∧ W.cell? ⟨tb, xb, none⟩ = some (.slice (some ⟨gb, 0, none⟩) m cb) ∧ W.cell? ⟨ga, s, none⟩ = some (.int .i64 zx) ∧ W.cell? ⟨mp, mo + xa, none⟩ = some (.slice (some ⟨mg, mgo, none⟩) m mc) ∧ W.cell? ⟨mg, mgo + s, none⟩ = some (.int .i64 (t : Int)) ∧ W.cell? ⟨gb, t, none⟩ = some (.int .i64 zy) from
                ⟨(h.cell (p := ⟨MB, 1, none⟩) yml).trans ym, (h.cell (p := ⟨X, 1, none⟩) yl).trans y1, (h.cell (p := ⟨X, 2, none⟩) yl).trans y2, (h.cell (p := ⟨tb, xa, none⟩) htbl).trans ea, (h.cell (p := ⟨tb, xb, none⟩) htbl).trans eb, (h.cell (p := ⟨ga, s, none⟩) hgal).trans ega, (h.cell (p := ⟨mp, mo + xa, none⟩) hmpl).trans em, (h.cell (p := ⟨mg, mgo + s, none⟩) hmgl).trans emg, (h.cell (p := ⟨gb, t, none⟩) hgbl).trans egb⟩)
              have PC := Lib.hid (fun W (h : Below wr.heap.size wr W) => pairM_any w8.heap.size MB A nn cc (.slice (some ⟨tb, 0, none⟩) i d) out zx zy W (by omega) HP.out.o.ln (HP.out.next h).o.e.size (HP.out.next h).o.m (HP.out.next h).o.q)
              have k0 : (0 : Int) ≤ (xa : Int) := by omega
              have k1 : (xa : Int) < (n : Int) := by omega
              have k2 : (0 : Int) ≤ (xb : Int) := by omega
              have k3 : (xa : Int) < (i : Int) := by omega
              have k4 : (xb : Int) < (i : Int) := by omega
              have k5 : (0 : Int) ≤ (t : Int) := by omega
              have k6 : (t : Int) < (m : Int) := by omega
              generalize prM out zx zy = PR at *
              clear hxa hxb gva gvb gzx gzy gmm gt hms pva pvb htb' ep ha0 ha1 hb0 hb1 ea eb ega egb em emg
              go_upto_region 22 with fail
              clear f1 f2 f3 f4 fl1 fl2 y0 y1 y2 yl ev evg ym yml e0
              refine wp_region_N (fun W => W.cell? ⟨MB, 1, none⟩ = some (.slice (some ⟨tb, 0, none⟩) i d) ∧ W.cell? ⟨X, 1, none⟩ = some (.int .i64 (xa : Int)) ∧ W.cell? ⟨X, 2, none⟩ = some (.int .i64 (xb : Int)) ∧ W.cell? ⟨tb, xa, none⟩ = some (.slice (some ⟨ga, 0, none⟩) m ca) ∧ W.cell? ⟨tb, xb, none⟩ = some (.slice (some ⟨gb, 0, none⟩) m cb) ∧ W.cell? ⟨ga, s, none⟩ = some (.int .i64 zx) ∧ W.cell? ⟨mp, mo + xa, none⟩ = some (.slice (some ⟨mg, mgo, none⟩) m mc) ∧ W.cell? ⟨mg, mgo + s, none⟩ = some (.int .i64 (t : Int)) ∧ W.cell? ⟨gb, t, none⟩ = some (.int .i64 zy)) [30, 31] (by kernel_rfl) ?_
              have c0 : Below wr.heap.size wr wr.drew := (Below.refl _ _).drew
              have hS0 := HS.out _ c0
              have P0 := Lib.hid (HP.out.next c0)
              generalize wr.drew = wd at *
              refine wpAnyN_take (i := 0) (v := ?_) rfl (by kernel_rfl) (fun _ _ _ h => h) (by rfl) (fun W hW => ?_) hS0 ?_
              rotate_left
              · obtain ⟨z0, z1, z2, z3, z4, z5, z6, z7, z8⟩ := hW
                go_simp
                try with_reducible rfl
              try simp only [List.getElem_toArray, List.getElem_cons_zero, List.getElem_cons_succ, Act.put, List.setIfInBounds_toArray, List.set_cons_zero, List.set_cons_succ]
              refine wpAnyN_take (i := 1) (v := ?_) rfl (by kernel_rfl) (fun _ _ _ h => h) (by rfl) (fun W hW => ?_) hS0 ?_
              rotate_left
              · obtain ⟨z0, z1, z2, z3, z4, z5, z6, z7, z8⟩ := hW
                go_simp
                try with_reducible rfl
              try simp only [List.getElem_toArray, List.getElem_cons_zero, List.getElem_cons_succ, Act.put, List.setIfInBounds_toArray, List.set_cons_zero, List.set_cons_succ]
              refine wpAnyN_take (i := 2) (v := ?_) rfl (by kernel_rfl) (fun _ _ _ h => h) (by rfl) (fun W hW => ?_) hS0 ?_
              rotate_left
              · obtain ⟨z0, z1, z2, z3, z4, z5, z6, z7, z8⟩ := hW
                go_simp
                try with_reducible rfl
              try simp only [List.getElem_toArray, List.getElem_cons_zero, List.getElem_cons_succ, Act.put, List.setIfInBounds_toArray, List.set_cons_zero, List.set_cons_succ]
              refine wpAnyN_take (i := 3) (v := ?_) rfl (by kernel_rfl) (fun _ _ _ h => h) (by rfl) (fun W hW => ?_) hS0 ?_
              rotate_left
              · obtain ⟨z0, z1, z2, z3, z4, z5, z6, z7, z8⟩ := hW
                go_simp
                try with_reducible rfl
              try simp only [List.getElem_toArray, List.getElem_cons_zero, List.getElem_cons_succ, Act.put, List.setIfInBounds_toArray, List.set_cons_zero, List.set_cons_succ]
              refine wpAnyN_take (i := 4) (v := ?_) rfl (by kernel_rfl) (fun _ _ _ h => h) (by rfl) (fun W hW => ?_) hS0 ?_
              rotate_left
              · obtain ⟨z0, z1, z2, z3, z4, z5, z6, z7, z8⟩ := hW
                go_simp
                try with_reducible rfl
              try simp only [List.getElem_toArray, List.getElem_cons_zero, List.getElem_cons_succ, Act.put, List.setIfInBounds_toArray, List.set_cons_zero, List.set_cons_succ]
              refine wpAnyN_take (i := 5) (v := ?_) rfl (by kernel_rfl) (fun _ _ _ h => h) (by rfl) (fun W hW => ?_) hS0 ?_
              rotate_left
              · obtain ⟨z0, z1, z2, z3, z4, z5, z6, z7, z8⟩ := hW
                go_simp
                try with_reducible rfl
              try simp only [List.getElem_toArray, List.getElem_cons_zero, List.getElem_cons_succ, Act.put, List.setIfInBounds_toArray, List.set_cons_zero, List.set_cons_succ]
              refine wpAnyN_take (i := 6) (v := ?_) rfl (by kernel_rfl) (fun _ _ _ h => h) (by rfl) (fun W hW => ?_) hS0 ?_
              rotate_left
              · obtain ⟨z0, z1, z2, z3, z4, z5, z6, z7, z8⟩ := hW
                go_simp
                try with_reducible rfl
              try simp only [List.getElem_toArray, List.getElem_cons_zero, List.getElem_cons_succ, Act.put, List.setIfInBounds_toArray, List.set_cons_zero, List.set_cons_succ]
              refine wpAnyN_take (i := 7) (v := ?_) rfl (by kernel_rfl) (fun _ _ _ h => h) (by rfl) (fun W hW => ?_) hS0 ?_
              rotate_left
              · obtain ⟨z0, z1, z2, z3, z4, z5, z6, z7, z8⟩ := hW
                go_simp
                try with_reducible rfl
              try simp only [List.getElem_toArray, List.getElem_cons_zero, List.getElem_cons_succ, Act.put, List.setIfInBounds_toArray, List.set_cons_zero, List.set_cons_succ]
              refine wpAnyN_take (i := 8) (v := ?_) rfl (by kernel_rfl) (fun _ _ _ h => h) (by rfl) (fun W hW => ?_) hS0 ?_
              rotate_left
              · obtain ⟨z0, z1, z2, z3, z4, z5, z6, z7, z8⟩ := hW
                go_simp
                try with_reducible rfl
              try simp only [List.getElem_toArray, List.getElem_cons_zero, List.getElem_cons_succ, Act.put, List.setIfInBounds_toArray, List.set_cons_zero, List.set_cons_succ]
              refine wpAnyN_take (i := 9) (v := ?_) rfl (by kernel_rfl) (fun _ _ _ h => h) (by rfl) (fun W hW => ?_) hS0 ?_
              rotate_left
              · obtain ⟨z0, z1, z2, z3, z4, z5, z6, z7, z8⟩ := hW
                go_simp
                try with_reducible rfl
              try simp only [List.getElem_toArray, List.getElem_cons_zero, List.getElem_cons_succ, Act.put, List.setIfInBounds_toArray, List.set_cons_zero, List.set_cons_succ]
              refine wpAnyN_take (i := 10) (v := ?_) rfl (by kernel_rfl) (fun _ _ _ h => h) (by rfl) (fun W hW => ?_) hS0 ?_
              rotate_left
              · obtain ⟨z0, z1, z2, z3, z4, z5, z6, z7, z8⟩ := hW
                go_simp
                try with_reducible rfl
              try simp only [List.getElem_toArray, List.getElem_cons_zero, List.getElem_cons_succ, Act.put, List.setIfInBounds_toArray, List.set_cons_zero, List.set_cons_succ]
              refine wpAnyN_take (i := 11) (v := ?_) rfl (by kernel_rfl) (fun _ _ _ h => h) (by rfl) (fun W hW => ?_) hS0 ?_
              rotate_left
              · obtain ⟨z0, z1, z2, z3, z4, z5, z6, z7, z8⟩ := hW
                go_simp
                try with_reducible rfl
              try simp only [List.getElem_toArray, List.getElem_cons_zero, List.getElem_cons_succ, Act.put, List.setIfInBounds_toArray, List.set_cons_zero, List.set_cons_succ]
              refine wpAnyN_take (i := 12) (v := ?_) rfl (by kernel_rfl) (fun _ _ _ h => h) (by rfl) (fun W hW => ?_) hS0 ?_
              rotate_left
              · obtain ⟨z0, z1, z2, z3, z4, z5, z6, z7, z8⟩ := hW
                go_simp
                try with_reducible rfl
              try simp only [List.getElem_toArray, List.getElem_cons_zero, List.getElem_cons_succ, Act.put, List.setIfInBounds_toArray, List.set_cons_zero, List.set_cons_succ]
              refine wpAnyN_take (i := 13) (v := ?_) rfl (by kernel_rfl) (fun _ _ _ h => h) (by rfl) (fun W hW => ?_) hS0 ?_
              rotate_left
              · obtain ⟨z0, z1, z2, z3, z4, z5, z6, z7, z8⟩ := hW
                go_simp
                try with_reducible rfl
              try simp only [List.getElem_toArray, List.getElem_cons_zero, List.getElem_cons_succ, Act.put, List.setIfInBounds_toArray, List.set_cons_zero, List.set_cons_succ]
              refine wpAnyN_take (i := 14) (v := ?_) rfl (by kernel_rfl) (fun _ _ _ h => h) (by rfl) (fun W hW => ?_) hS0 ?_
              rotate_left
              · obtain ⟨z0, z1, z2, z3, z4, z5, z6, z7, z8⟩ := hW
                go_simp
                try with_reducible rfl
              try simp only [List.getElem_toArray, List.getElem_cons_zero, List.getElem_cons_succ, Act.put, List.setIfInBounds_toArray, List.set_cons_zero, List.set_cons_succ]
              refine wpAnyN_take (i := 15) (v := ?_) rfl (by kernel_rfl) (fun _ _ _ h => h) (by rfl) (fun W hW => ?_) hS0 ?_
              rotate_left
              · obtain ⟨z0, z1, z2, z3, z4, z5, z6, z7, z8⟩ := hW
                go_simp
                try with_reducible rfl
              try simp only [List.getElem_toArray, List.getElem_cons_zero, List.getElem_cons_succ, Act.put, List.setIfInBounds_toArray, List.set_cons_zero, List.set_cons_succ]
              refine wpAnyN_take (i := 16) (v := ?_) rfl (by kernel_rfl) (fun _ _ _ h => h) (by rfl) (fun W hW => ?_) hS0 ?_
              rotate_left
              · obtain ⟨z0, z1, z2, z3, z4, z5, z6, z7, z8⟩ := hW
                go_simp
                try with_reducible rfl
              try simp only [List.getElem_toArray, List.getElem_cons_zero, List.getElem_cons_succ, Act.put, List.setIfInBounds_toArray, List.set_cons_zero, List.set_cons_succ]
              refine wpAnyN_take (i := 17) (v := ?_) rfl (by kernel_rfl) (fun _ _ _ h => h) (by rfl) (fun W hW => ?_) hS0 ?_
              rotate_left
              · obtain ⟨z0, z1, z2, z3, z4, z5, z6, z7, z8⟩ := hW
                go_simp
                try with_reducible rfl
              try simp only [List.getElem_toArray, List.getElem_cons_zero, List.getElem_cons_succ, Act.put, List.setIfInBounds_toArray, List.set_cons_zero, List.set_cons_succ]
              refine wpAnyN_take (i := 18) (v := ?_) rfl (by kernel_rfl) (fun _ _ _ h => h) (by rfl) (fun W hW => ?_) hS0 ?_
              rotate_left
              · obtain ⟨z0, z1, z2, z3, z4, z5, z6, z7, z8⟩ := hW
                go_simp
                try with_reducible rfl
              try simp only [List.getElem_toArray, List.getElem_cons_zero, List.getElem_cons_succ, Act.put, List.setIfInBounds_toArray, List.set_cons_zero, List.set_cons_succ]
              refine wpAnyN_take (i := 19) (v := ?_) rfl (by kernel_rfl) (fun _ _ _ h => h) (by rfl) (fun W hW => ?_) hS0 ?_
              rotate_left
              · obtain ⟨z0, z1, z2, z3, z4, z5, z6, z7, z8⟩ := hW
                go_simp
                try with_reducible rfl
              try simp only [List.getElem_toArray, List.getElem_cons_zero, List.getElem_cons_succ, Act.put, List.setIfInBounds_toArray, List.set_cons_zero, List.set_cons_succ]
              refine wpAnyN_take (i := 20) (v := ?_) rfl (by kernel_rfl) (fun _ _ _ h => h) (by rfl) (fun W hW => ?_) hS0 ?_
              rotate_left
              · obtain ⟨z0, z1, z2, z3, z4, z5, z6, z7, z8⟩ := hW
                go_simp
                try with_reducible rfl
              try simp only [List.getElem_toArray, List.getElem_cons_zero, List.getElem_cons_succ, Act.put, List.setIfInBounds_toArray, List.set_cons_zero, List.set_cons_succ]
              refine wpAnyN_take (i := 21) (v := ?_) rfl (by kernel_rfl) (fun _ _ _ h => h) (by rfl) (fun W hW => ?_) hS0 ?_
              rotate_left
              · obtain ⟨z0, z1, z2, z3, z4, z5, z6, z7, z8⟩ := hW
                go_simp
                try with_reducible rfl
              try simp only [List.getElem_toArray, List.getElem_cons_zero, List.getElem_cons_succ, Act.put, List.setIfInBounds_toArray, List.set_cons_zero, List.set_cons_succ]
              refine wpAnyN_take (i := 22) (v := ?_) rfl (by kernel_rfl) (fun _ _ _ h => h) (by rfl) (fun W hW => ?_) hS0 ?_
              rotate_left
              · obtain ⟨z0, z1, z2, z3, z4, z5, z6, z7, z8⟩ := hW
                go_simp
                try with_reducible rfl
              try simp only [List.getElem_toArray, List.getElem_cons_zero, List.getElem_cons_succ, Act.put, List.setIfInBounds_toArray, List.set_cons_zero, List.set_cons_succ]
              refine wpAnyN_take (i := 23) (v := ?_) rfl (by kernel_rfl) (fun _ _ _ h => h) (by rfl) (fun W hW => ?_) hS0 ?_
              rotate_left
              · obtain ⟨z0, z1, z2, z3, z4, z5, z6, z7, z8⟩ := hW
                go_simp
                try with_reducible rfl
              try simp only [List.getElem_toArray, List.getElem_cons_zero, List.getElem_cons_succ, Act.put, List.setIfInBounds_toArray, List.set_cons_zero, List.set_cons_succ]
              refine wpAnyN_take (i := 24) (v := ?_) rfl (by kernel_rfl) (fun _ _ _ h => h) (by rfl) (fun W hW => ?_) hS0 ?_
              rotate_left
              · obtain ⟨z0, z1, z2, z3, z4, z5, z6, z7, z8⟩ := hW
                go_simp
                try with_reducible rfl
              try simp only [List.getElem_toArray, List.getElem_cons_zero, List.getElem_cons_succ, Act.put, List.setIfInBounds_toArray, List.set_cons_zero, List.set_cons_succ]
              refine wpAnyN_take (i := 25) (v := ?_) rfl (by kernel_rfl) (fun _ _ _ h => h) (by rfl) (fun W hW => ?_) hS0 ?_
              rotate_left
              · obtain ⟨z0, z1, z2, z3, z4, z5, z6, z7, z8⟩ := hW
                go_simp
                try with_reducible rfl
              try simp only [List.getElem_toArray, List.getElem_cons_zero, List.getElem_cons_succ, Act.put, List.setIfInBounds_toArray, List.set_cons_zero, List.set_cons_succ]
              refine wpAnyN_take (i := 26) (v := ?_) rfl (by kernel_rfl) (fun _ _ _ h => h) (by rfl) (fun W hW => ?_) hS0 ?_
              rotate_left
              · obtain ⟨z0, z1, z2, z3, z4, z5, z6, z7, z8⟩ := hW
                go_simp
                try with_reducible rfl
              try simp only [List.getElem_toArray, List.getElem_cons_zero, List.getElem_cons_succ, Act.put, List.setIfInBounds_toArray, List.set_cons_zero, List.set_cons_succ]
              refine wpAnyN_take (i := 27) (v := ?_) rfl (by kernel_rfl) (fun _ _ _ h => h) (by rfl) (fun W hW => ?_) hS0 ?_
              rotate_left
              · obtain ⟨z0, z1, z2, z3, z4, z5, z6, z7, z8⟩ := hW
                go_simp
                try with_reducible rfl
              try simp only [List.getElem_toArray, List.getElem_cons_zero, List.getElem_cons_succ, Act.put, List.setIfInBounds_toArray, List.set_cons_zero, List.set_cons_succ]
              refine wpAnyN_take (i := 28) (v := ?_) rfl (by kernel_rfl) (fun _ _ _ h => h) (by rfl) (fun W hW => ?_) hS0 ?_
              rotate_left
              · obtain ⟨z0, z1, z2, z3, z4, z5, z6, z7, z8⟩ := hW
                go_simp
                try with_reducible rfl
              try simp only [List.getElem_toArray, List.getElem_cons_zero, List.getElem_cons_succ, Act.put, List.setIfInBounds_toArray, List.set_cons_zero, List.set_cons_succ]
              refine wpAnyN_take (i := 29) (v := ?_) rfl (by kernel_rfl) (fun _ _ _ h => h) (by rfl) (fun W hW => ?_) hS0 ?_
              rotate_left
              · obtain ⟨z0, z1, z2, z3, z4, z5, z6, z7, z8⟩ := hW
                go_simp
                try with_reducible rfl
              try simp only [List.getElem_toArray, List.getElem_cons_zero, List.getElem_cons_succ, Act.put, List.setIfInBounds_toArray, List.set_cons_zero, List.set_cons_succ]
              clear hS0
              refine wpAnyN_next (i := 30) rfl (by kernel_rfl) (fun Kc hK => ?_)
              go_simp
              go_wp2_with (go_at_call 44; refine (PC.out wd c0).mono ?_; rintro e w6 ⟨A', c', rfl, hB6, hq6, hF6⟩)
              have P6 := Lib.hid (P0.out.made hB6 hq6 hF6)
              clear hB6 hq6 hF6
              refine hK.out _ _ (fun h => absurd h (by decide)) ?_
              clear hK Kc
              try simp only [List.getElem_toArray, List.getElem_cons_zero, List.getElem_cons_succ, Act.put, List.setIfInBounds_toArray, List.set_cons_zero, List.set_cons_succ]
              refine wpAnyN_next (i := 31) rfl (by kernel_rfl) (fun Kc hK => ?_)
              go_simp
              refine hK.out _ _ (fun h => absurd h (by decide)) ?_
              clear hK Kc
              try simp only [List.getElem_toArray, List.getElem_cons_zero, List.getElem_cons_succ, Act.put, List.setIfInBounds_toArray, List.set_cons_zero, List.set_cons_succ]
              refine wpAnyN_done (by kernel_rfl) ?_ _
              have P7 := Lib.hid (P6.out.alloc (.cells #[.int .i64 PR.2] 2))
              go_wp2_with
                (at_builtin
                 refine wpList_pushG rfl _ _ _ rfl w8.heap.size 2 1 8 elem_int intE R s cr acc rfl P7.out.l w6.heap.size (PR.2 : Int) _ _ _ rfl (heap_alloc_new _ _) rfl rfl (by simp [intE, Value.oneCell']) (by omega) (by omega) (by unfold maxLen; omega) P7.out.o.e.size ?_
                 intro A9 c9 w9 own9 hg9 at9
                 have P9 := Lib.hid (P7.out.push own9 hg9 at9)
                 clear own9 hg9 at9)
              go_roundw
              case rel => exact ⟨s + 1, PR.1, A', PR.1.length, c', A9, c9, _, by go_num, rfl, by omega, by have h := HI2.out.le; have h2 : PR.1.length ≤ 240 * i + 10 * (s + 1) := h; omega, P9, HI2, HE2⟩
              case measure => simp [intOf]; omega
            · have HL2 := Lib.hid hxl
              have e1 := size1 (s := x.l) (by rw [hxl]; show (1 : Nat) ≠ 0; omega)
              have e2 := size1' (s := x.l) (by rw [hxl]; show (1 : Nat) ≠ 0; omega)
              have hcn := letB_num hcc
              obtain ⟨l, hlc⟩ : ∃ l, lc.toNat - 97 = l := ⟨_, rfl⟩
              have hl4 : l < 4 := by omega
              have hln : letN x.l = l := by rw [hxl, letN_one, hlc]
              obtain ⟨r, tx_, gr_, hr4, grl, hto, ht6⟩ := Kot.out.at_ hlt2 hl4
              have ep := stM_word (ot := ot) (M := MP) (st := st) (out := out) (r := x) (by rw [hxl]; show (1 : Nat) ≠ 0; omega) hln gr_ grl
              rw [ep] at HI2 HE2 Hok
              obtain ⟨ob, oo, go_, goo, c4, rfl, hnB, en, hgB, eg⟩ := (RO8.out.next HP.out.o.e).cell2 (.string) (fun _ => rfl) gr_ grl
              rw [hr4] at en
              have SC := Lib.hid (fun W (h : Below wr.heap.size wr W) => standM_any w8.heap.size MB A nn cc (.slice B i d) out tx_ W (by omega) HP.out.o.ln hto ht6 (HP.out.next h).o.e.size (HP.out.next h).o.m (HP.out.next h).o.q)
              have k4 : (0 : Int) ≤ (l : Int) := by omega
              have k5 : (l : Int) < 4 := by omega
              generalize wdM out tx_ = PR at *
              clear hxl hxa hxb hln ep gr_ grl hr4
              go_upto_region 20 with fail
              rw [HL2.out] at y0
              have HS := Lib.hid (fun W (h : Below wr.heap.size wr W) => show W.cell? ⟨C, 3, none⟩ = some (.slice (some ⟨ob, oo, none⟩) m co) ∧ W.cell? ⟨ob, oo + s, none⟩ = some (.slice (some ⟨go_, goo, none⟩) 4 c4) ∧ W.cell? ⟨X, 0, none⟩ = some (.string ⟨#[lc]⟩) ∧ W.cell? ⟨go_, goo + l, none⟩ = some (.string tx_) from
                ⟨(h.cell (p := ⟨C, 3, none⟩) fl1).trans f3, (h.cell (p := ⟨ob, oo + s, none⟩) hnB).trans en, (h.cell (p := ⟨X, 0, none⟩) yl).trans y0, (h.cell (p := ⟨go_, goo + l, none⟩) hgB).trans eg⟩)
              have u0 : (0 : Nat) < (⟨#[lc]⟩ : ByteArray).size := Nat.one_pos
              have LT := Lib.hid (fun W => show Calls Tryz.prog 30 #[.int .u8 ((((⟨#[lc]⟩ : ByteArray)[0]'u0).toNat : Nat) : Int)] W (Ret (.int .i64 (l : Int)) W) from by
                have h := l04Letter_any lc hcc W
                rw [show (lc.toNat : Int) - 97 = (l : Int) by omega] at h
                exact h)
              clear f1 f2 f3 f4 fl1 fl2 y0 y1 y2 yl ev evg en eg hlc hcc
              refine wp_region_N (fun W => W.cell? ⟨C, 3, none⟩ = some (.slice (some ⟨ob, oo, none⟩) m co) ∧ W.cell? ⟨ob, oo + s, none⟩ = some (.slice (some ⟨go_, goo, none⟩) 4 c4) ∧ W.cell? ⟨X, 0, none⟩ = some (.string ⟨#[lc]⟩) ∧ W.cell? ⟨go_, goo + l, none⟩ = some (.string tx_)) [12, 13] (by kernel_rfl) ?_
              have c0 : Below wr.heap.size wr wr.drew := (Below.refl _ _).drew
              have hS0 := HS.out _ c0
              have P0 := Lib.hid (HP.out.next c0)
              generalize wr.drew = wd at *
              refine wpAnyN_take (i := 0) (v := ?_) rfl (by kernel_rfl) (fun _ _ _ h => h) (by rfl) (fun W hW => ?_) hS0 ?_
              rotate_left
              · obtain ⟨z0, z1, z2, z3⟩ := hW
                go_simp
                try with_reducible rfl
              try simp only [List.getElem_toArray, List.getElem_cons_zero, List.getElem_cons_succ, Act.put, List.setIfInBounds_toArray, List.set_cons_zero, List.set_cons_succ]
              refine wpAnyN_take (i := 1) (v := ?_) rfl (by kernel_rfl) (fun _ _ _ h => h) (by rfl) (fun W hW => ?_) hS0 ?_
              rotate_left
              · obtain ⟨z0, z1, z2, z3⟩ := hW
                go_simp
                try with_reducible rfl
              try simp only [List.getElem_toArray, List.getElem_cons_zero, List.getElem_cons_succ, Act.put, List.setIfInBounds_toArray, List.set_cons_zero, List.set_cons_succ]
              refine wpAnyN_take (i := 2) (v := ?_) rfl (by kernel_rfl) (fun _ _ _ h => h) (by rfl) (fun W hW => ?_) hS0 ?_
              rotate_left
              · obtain ⟨z0, z1, z2, z3⟩ := hW
                go_simp
                try with_reducible rfl
              try simp only [List.getElem_toArray, List.getElem_cons_zero, List.getElem_cons_succ, Act.put, List.setIfInBounds_toArray, List.set_cons_zero, List.set_cons_succ]
              refine wpAnyN_take (i := 3) (v := ?_) rfl (by kernel_rfl) (fun _ _ _ h => h) (by rfl) (fun W hW => ?_) hS0 ?_
              rotate_left
              · obtain ⟨z0, z1, z2, z3⟩ := hW
                go_simp
                try with_reducible rfl
              try simp only [List.getElem_toArray, List.getElem_cons_zero, List.getElem_cons_succ, Act.put, List.setIfInBounds_toArray, List.set_cons_zero, List.set_cons_succ]
              refine wpAnyN_take (i := 4) (v := ?_) rfl (by kernel_rfl) (fun _ _ _ h => h) (by rfl) (fun W hW => ?_) hS0 ?_
              rotate_left
              · obtain ⟨z0, z1, z2, z3⟩ := hW
                go_simp
                try with_reducible rfl
              try simp only [List.getElem_toArray, List.getElem_cons_zero, List.getElem_cons_succ, Act.put, List.setIfInBounds_toArray, List.set_cons_zero, List.set_cons_succ]
              refine wpAnyN_take (i := 5) (v := ?_) rfl (by kernel_rfl) (fun _ _ _ h => h) (by rfl) (fun W hW => ?_) hS0 ?_
              rotate_left
              · obtain ⟨z0, z1, z2, z3⟩ := hW
                go_simp
                try with_reducible rfl
              try simp only [List.getElem_toArray, List.getElem_cons_zero, List.getElem_cons_succ, Act.put, List.setIfInBounds_toArray, List.set_cons_zero, List.set_cons_succ]
              refine wpAnyN_take (i := 6) (v := ?_) rfl (by kernel_rfl) (fun _ _ _ h => h) (by rfl) (fun W hW => ?_) hS0 ?_
              rotate_left
              · obtain ⟨z0, z1, z2, z3⟩ := hW
                go_simp
                try with_reducible rfl
              try simp only [List.getElem_toArray, List.getElem_cons_zero, List.getElem_cons_succ, Act.put, List.setIfInBounds_toArray, List.set_cons_zero, List.set_cons_succ]
              refine wpAnyN_take (i := 7) (v := ?_) rfl (by kernel_rfl) (fun _ _ _ h => h) (by rfl) (fun W hW => ?_) hS0 ?_
              rotate_left
              · obtain ⟨z0, z1, z2, z3⟩ := hW
                go_simp
                try with_reducible rfl
              try simp only [List.getElem_toArray, List.getElem_cons_zero, List.getElem_cons_succ, Act.put, List.setIfInBounds_toArray, List.set_cons_zero, List.set_cons_succ]
              refine wpAnyN_next (i := 8) rfl (by kernel_rfl) (fun Kc hK => ?_)
              go_simp
              refine hK.out _ _ (fun _ => hS0) ?_
              clear hK Kc
              try simp only [List.getElem_toArray, List.getElem_cons_zero, List.getElem_cons_succ, Act.put, List.setIfInBounds_toArray, List.set_cons_zero, List.set_cons_succ]
              refine wpAnyN_next (i := 9) rfl (by kernel_rfl) (fun Kc hK => ?_)
              go_simp
              go_wp2_with (go_at_call 30; refine (LT.out wd).mono ?_; rintro e w5 ⟨rfl, hb5⟩)
              have c5 : Below wr.heap.size wr w5 := c0.trans (hb5.mono c0.size)
              have hS5 := HS.out _ c5
              have P5 := Lib.hid (HP.out.next c5)
              refine hK.out _ _ (fun _ => hS5) ?_
              clear hK Kc
              try simp only [List.getElem_toArray, List.getElem_cons_zero, List.getElem_cons_succ, Act.put, List.setIfInBounds_toArray, List.set_cons_zero, List.set_cons_succ]
              clear hS0
              refine wpAnyN_take (i := 10) (v := ?_) rfl (by kernel_rfl) (fun _ _ _ h => h) (by rfl) (fun W hW => ?_) hS5 ?_
              rotate_left
              · obtain ⟨z0, z1, z2, z3⟩ := hW
                go_simp
                try with_reducible rfl
              try simp only [List.getElem_toArray, List.getElem_cons_zero, List.getElem_cons_succ, Act.put, List.setIfInBounds_toArray, List.set_cons_zero, List.set_cons_succ]
              refine wpAnyN_take (i := 11) (v := ?_) rfl (by kernel_rfl) (fun _ _ _ h => h) (by rfl) (fun W hW => ?_) hS5 ?_
              rotate_left
              · obtain ⟨z0, z1, z2, z3⟩ := hW
                go_simp
                try with_reducible rfl
              try simp only [List.getElem_toArray, List.getElem_cons_zero, List.getElem_cons_succ, Act.put, List.setIfInBounds_toArray, List.set_cons_zero, List.set_cons_succ]
              clear hS5
              refine wpAnyN_next (i := 12) rfl (by kernel_rfl) (fun Kc hK => ?_)
              go_simp
              go_wp2_with (go_at_call 43; refine (SC.out w5 c5).mono ?_; rintro e w6 ⟨A', c', rfl, hB6, hq6, hF6⟩)
              have P6 := Lib.hid (P5.out.made hB6 hq6 hF6)
              clear hB6 hq6 hF6
              refine hK.out _ _ (fun h => absurd h (by decide)) ?_
              clear hK Kc
              try simp only [List.getElem_toArray, List.getElem_cons_zero, List.getElem_cons_succ, Act.put, List.setIfInBounds_toArray, List.set_cons_zero, List.set_cons_succ]
              refine wpAnyN_next (i := 13) rfl (by kernel_rfl) (fun Kc hK => ?_)
              go_simp
              refine hK.out _ _ (fun h => absurd h (by decide)) ?_
              clear hK Kc
              try simp only [List.getElem_toArray, List.getElem_cons_zero, List.getElem_cons_succ, Act.put, List.setIfInBounds_toArray, List.set_cons_zero, List.set_cons_succ]
              refine wpAnyN_done (by kernel_rfl) ?_ _
              obtain ⟨y0, _, _⟩ := P6.out.x.three
              have yl := P6.out.x.lt
              obtain ⟨vp2, vo2, vg2, vgo2, vc2, hA2, hvpl2, ev2, hvgl2, evg2⟩ := (RB8.out.next P6.out.o.e).cell2 .bool (fun _ => rfl) HGv.out hbz
              obtain ⟨rfl, rfl⟩ : vp = vp2 ∧ vo = vo2 := by injection hA2 with h; injection h with h1 h2; exact ⟨h1, h2⟩
              rw [lv] at ev2
              have P7 := Lib.hid (P6.out.alloc (.cells #[.int .i64 PR.2] 2))
              go_wp2_with
                (at_builtin
                 refine wpList_pushG rfl _ _ _ rfl w8.heap.size 2 1 8 elem_int intE R s cr acc rfl P7.out.l w6.heap.size (PR.2 : Int) _ _ _ rfl (heap_alloc_new _ _) rfl rfl (by simp [intE, Value.oneCell']) (by omega) (by omega) (by unfold maxLen; omega) P7.out.o.e.size ?_
                 intro A9 c9 w9 own9 hg9 at9
                 have P9 := Lib.hid (P7.out.push own9 hg9 at9)
                 clear own9 hg9 at9)
              go_roundw
              case rel => exact ⟨s + 1, PR.1, A', PR.1.length, c', A9, c9, _, by go_num, rfl, by omega, by have h := HI2.out.le; have h2 : PR.1.length ≤ 240 * i + 10 * (s + 1) := h; omega, P9, HI2, HE2⟩
              case measure => simp [intOf]; omega
        · obtain rfl : s = m := by omega
          have s1 : ¬ (s : Int) < (s : Int) := by omega
          have hrw : rwM ot MP st x (v.drop s) s out acc = (out, acc) := by rw [List.drop_of_length_le (by omega)]; rfl
          rw [hrw] at HE
          have HI2 := Lib.hid (HI.out.fin hS2)
          have hml := Lib.hid HP.out.o.ln
          have ym1 := HP.out.o.m.cell 1
          have ym0 := HP.out.o.m.cell 0
          have yml := HP.out.o.m.lt
          have ymf := HP.out.o.m.frozen 1
          have P4 := Lib.hid (HP.out.alloc (.cells #[.slice R s cr] 61))
          have hil : i ≤ n := hi
          clear hrw
          go_upto_region 25 with
            (at_builtin
             refine wpList_pushG rfl _ _ _ rfl w8.heap.size 61 1 24 elemT encR B i d hs rfl P4.out.o.t.o wr.heap.size (⟨R, s, cr⟩ : RowH) #[.slice R s cr] 61 (0, 0) rfl (heap_alloc_new _ _) rfl rfl (by simp [encR, Value.oneCell']) (by omega) (by omega) (by unfold maxLen; omega) P4.out.o.e.size ?_
             intro A9 c9 w9 own9 hg9 _
             have O5 := Lib.hid (P4.out.place HI.out.acc.1 own9 hg9)
             have M5 := P4.out.o.m.grown hg9 (own_blk_ne P4.out.o.t.o P4.out.o.m (by decide))
             have m50 := M5.cell 0
             have m51 := M5.cell 1
             have m5l := M5.lt
             have m5f := M5.frozen 1
             have n50 := O5.out.m.cell 0
             have n5l := O5.out.m.lt
             clear own9 hg9 M5)
          refine named fun w3 H3 => ?_
          have O6 := Lib.hid (show CmO w8 w3 MB A nn cc out A9 (i + 1) c9 (hs ++ [⟨R, s, cr⟩]) (st ++ [acc]) by rw [H3.out]; exact O5.out)
          clear H3 O5 P4 HP m50 m51 m5l m5f n50 n5l ym0 ym1 yml ymf
          have n50 := O6.out.m.cell 0
          have n5l := O6.out.m.lt
          by_cases h4 : 400 < nn
          · have h4' : (400 : Int) < (nn : Int) := by omega
            have hbig := (mdM_ok hS2 Kot.out (fun j hj => HMok.out j (by rw [← hl.out]; exact hj)) Hwf.out HSh.out (n - (i + 1)) (i + 1) out (st ++ [acc]) (by rw [hl.out]; omega) HI2.out).2
            rw [HE.out] at hbig
            have eF := Lib.hid (show cgR (s : Int) (qN : Int) nx ot rs = ([], 3) by rw [eR.out, eL.out, if_pos (by have := hml.out; omega)])
            obtain ⟨d4, f4', l4, x5, b5⟩ := Shut_.out w3 (b8.out.trans (O6.out.e.mono b8.out.size)) (by rw [HC.out]; exact BC8.out.next O6.out.e)
            have b5' := Lib.hid b5
            rw [HC.out] at d4 f4' l4 x5
            clear b5 hbig
            go_wp2_with fail
            exact bodyPost_ret (v := .tuple #[.agg #[.slice none 0 0], .int .i64 3]) (by simp [results, Tryz.results11, go_sem, x5]) rfl ⟨none, 0, by rw [eF.out]; rfl, by rw [eF.out]; exact World.ownsRow_nil _ _ _ _, by have h := b5'.out; rw [HC.out] at h ⊢; exact h⟩
          · have h4' : ¬ (400 : Int) < (nn : Int) := by omega
            go_wp2_with fail
            go_roundw
            case rel => exact ⟨i + 1, out, A, nn, cc, A9, c9, _, _, by go_num, by omega, by omega, O6, HI2, HE⟩
            case measure => simp [intOf]; omega
    · obtain rfl : i = n := by omega
      have i1 : ¬ (i : Int) < (i : Int) := by omega
      have hmd : (out, st) = MD := by rw [← HE.out, List.drop_of_length_le (by rw [hl.out]; exact Nat.le_refl _)]; rfl
      obtain ⟨j, hj⟩ : ∃ j, i = j + 1 := ⟨i - 1, by omega⟩
      obtain ⟨va, gva, pva⟩ := HI.out.at_ (i := j) (by omega)
      obtain ⟨z, gz, z0, z1⟩ := pva.at_ hq
      have hol := OW.out.ln
      have eF := Lib.hid (show cgR (m : Int) (qN : Int) nx ot rs = (trimL (out.take (z + 1).toNat), 0) by
        rw [eR.out, eL.out, ← hmd, if_neg (by show ¬ 400 < out.length; omega)]
        show (trimL (out.take ((st.getD (i - 1) []).getD qN 0 + 1).toNat), (0 : Int)) = _
        have e1 : st.getD (i - 1) [] = va := by rw [hj, Nat.add_sub_cancel, List.getD_eq_getElem?_getD, gva]; rfl
        have e2 : va.getD qN 0 = z := by rw [List.getD_eq_getElem?_getD, gz]; rfl
        rw [e1, e2])
      have hwft := Lib.hid (wf_take HI.out.wf (z.toNat + 1))
      obtain ⟨tb, ga, ca, rfl, htbl, _, ea, hgal, ega, _⟩ := OW.out.t.cell2 (.int .i64) (fun _ => rfl) gva gz
      rw [pva.1] at ea
      have ym := OW.out.m.cell 1
      have yml := OW.out.m.lt
      obtain ⟨n, hnn'⟩ : ∃ n : Nat, n = i := ⟨_, rfl⟩
      have u1 : IntKind.i64.wrap ((i : Int) - 1) = (j : Int) := by rw [IntWalk.i64_in _ (by omega)]; omega
      have j0 : (0 : Int) ≤ (j : Int) := by omega
      have j1 : (j : Int) < (i : Int) := by omega
      have q0 : (0 : Int) ≤ (qN : Int) := by omega
      have q1 : (qN : Int) < (m : Int) := by omega
      have HP := OW
      have HS := Lib.hid (fun W (h : Below wr.heap.size wr W) => show W.cell? ⟨MB, 1, none⟩ = some (.slice (some ⟨tb, 0, none⟩) i d) ∧ W.cell? ⟨C + 1, 0, none⟩ = some (.slice G i c) ∧ W.cell? ⟨tb, j, none⟩ = some (.slice (some ⟨ga, 0, none⟩) m ca) ∧ W.cell? ⟨C, 1, none⟩ = some (.int .i64 (qN : Int)) ∧ W.cell? ⟨ga, qN, none⟩ = some (.int .i64 z) from
        ⟨(h.cell (p := ⟨MB, 1, none⟩) yml).trans ym, (h.cell (p := ⟨C + 1, 0, none⟩) fl2).trans f4, (h.cell (p := ⟨tb, j, none⟩) htbl).trans ea, (h.cell (p := ⟨C, 1, none⟩) fl1).trans f1, (h.cell (p := ⟨ga, qN, none⟩) hgal).trans ega⟩)
      clear hj hmd gva gz pva HE HI n hnn'
      go_upto_region 27 with fail
      clear ym ea ega f1 f2 f3
      refine wp_region_N (fun W => W.cell? ⟨MB, 1, none⟩ = some (.slice (some ⟨tb, 0, none⟩) i d) ∧ W.cell? ⟨C + 1, 0, none⟩ = some (.slice G i c) ∧ W.cell? ⟨tb, j, none⟩ = some (.slice (some ⟨ga, 0, none⟩) m ca) ∧ W.cell? ⟨C, 1, none⟩ = some (.int .i64 (qN : Int)) ∧ W.cell? ⟨ga, qN, none⟩ = some (.int .i64 z)) [14] (by kernel_rfl) ?_
      have c0 : Below wr.heap.size wr wr.drew := (Below.refl _ _).drew
      have hS0 := HS.out _ c0
      have P0 := Lib.hid (HP.out.next c0)
      generalize wr.drew = wd at *
      refine wpAnyN_take (i := 0) (v := ?_) rfl (by kernel_rfl) (fun _ _ _ h => h) (by rfl) (fun W hW => ?_) hS0 ?_
      rotate_left
      · obtain ⟨z0, z1, z2, z3, z4⟩ := hW
        go_simp
        try with_reducible rfl
      try simp only [List.getElem_toArray, List.getElem_cons_zero, List.getElem_cons_succ, Act.put, List.setIfInBounds_toArray, List.set_cons_zero, List.set_cons_succ]
      refine wpAnyN_take (i := 1) (v := ?_) rfl (by kernel_rfl) (fun _ _ _ h => h) (by rfl) (fun W hW => ?_) hS0 ?_
      rotate_left
      · obtain ⟨z0, z1, z2, z3, z4⟩ := hW
        go_simp
        try with_reducible rfl
      try simp only [List.getElem_toArray, List.getElem_cons_zero, List.getElem_cons_succ, Act.put, List.setIfInBounds_toArray, List.set_cons_zero, List.set_cons_succ]
      refine wpAnyN_take (i := 2) (v := ?_) rfl (by kernel_rfl) (fun _ _ _ h => h) (by rfl) (fun W hW => ?_) hS0 ?_
      rotate_left
      · obtain ⟨z0, z1, z2, z3, z4⟩ := hW
        go_simp
        try with_reducible rfl
      try simp only [List.getElem_toArray, List.getElem_cons_zero, List.getElem_cons_succ, Act.put, List.setIfInBounds_toArray, List.set_cons_zero, List.set_cons_succ]
      refine wpAnyN_take (i := 3) (v := ?_) rfl (by kernel_rfl) (fun _ _ _ h => h) (by rfl) (fun W hW => ?_) hS0 ?_
      rotate_left
      · obtain ⟨z0, z1, z2, z3, z4⟩ := hW
        go_simp
        try with_reducible rfl
      try simp only [List.getElem_toArray, List.getElem_cons_zero, List.getElem_cons_succ, Act.put, List.setIfInBounds_toArray, List.set_cons_zero, List.set_cons_succ]
      refine wpAnyN_take (i := 4) (v := ?_) rfl (by kernel_rfl) (fun _ _ _ h => h) (by rfl) (fun W hW => ?_) hS0 ?_
      rotate_left
      · obtain ⟨z0, z1, z2, z3, z4⟩ := hW
        go_simp
        try with_reducible rfl
      try simp only [List.getElem_toArray, List.getElem_cons_zero, List.getElem_cons_succ, Act.put, List.setIfInBounds_toArray, List.set_cons_zero, List.set_cons_succ]
      refine wpAnyN_take (i := 5) (v := ?_) rfl (by kernel_rfl) (fun _ _ _ h => h) (by rfl) (fun W hW => ?_) hS0 ?_
      rotate_left
      · obtain ⟨z0, z1, z2, z3, z4⟩ := hW
        go_simp
        try with_reducible rfl
      try simp only [List.getElem_toArray, List.getElem_cons_zero, List.getElem_cons_succ, Act.put, List.setIfInBounds_toArray, List.set_cons_zero, List.set_cons_succ]
      refine wpAnyN_take (i := 10) (v := ?_) rfl (by kernel_rfl) (fun _ _ _ h => h) (by rfl) (fun W hW => ?_) hS0 ?_
      rotate_left
      · obtain ⟨z0, z1, z2, z3, z4⟩ := hW
        go_simp
        try with_reducible rfl
      try simp only [List.getElem_toArray, List.getElem_cons_zero, List.getElem_cons_succ, Act.put, List.setIfInBounds_toArray, List.set_cons_zero, List.set_cons_succ]
      refine wpAnyN_take (i := 11) (v := ?_) rfl (by kernel_rfl) (fun _ _ _ h => h) (by rfl) (fun W hW => ?_) hS0 ?_
      rotate_left
      · obtain ⟨z0, z1, z2, z3, z4⟩ := hW
        go_simp
        try with_reducible rfl
      try simp only [List.getElem_toArray, List.getElem_cons_zero, List.getElem_cons_succ, Act.put, List.setIfInBounds_toArray, List.set_cons_zero, List.set_cons_succ]
      refine wpAnyN_next (i := 6) rfl (by kernel_rfl) (fun Kc hK => ?_)
      obtain ⟨z0, z1, z2, z3, z4⟩ := hS0
      go_simp
      have hS0 := HS.out _ c0
      refine hK.out _ _ (fun _ => hS0) ?_
      clear hK Kc
      try simp only [List.getElem_toArray, List.getElem_cons_zero, List.getElem_cons_succ, Act.put, List.setIfInBounds_toArray, List.set_cons_zero, List.set_cons_succ]
      refine wpAnyN_next (i := 7) rfl (by kernel_rfl) (fun Kc hK => ?_)
      obtain ⟨z0, z1, z2, z3, z4⟩ := hS0
      go_simp
      have hS0 := HS.out _ c0
      refine hK.out _ _ (fun _ => hS0) ?_
      clear hK Kc
      try simp only [List.getElem_toArray, List.getElem_cons_zero, List.getElem_cons_succ, Act.put, List.setIfInBounds_toArray, List.set_cons_zero, List.set_cons_succ]
      refine wpAnyN_next (i := 8) rfl (by kernel_rfl) (fun Kc hK => ?_)
      obtain ⟨z0, z1, z2, z3, z4⟩ := hS0
      go_simp
      have hS0 := HS.out _ c0
      refine hK.out _ _ (fun _ => hS0) ?_
      clear hK Kc
      try simp only [List.getElem_toArray, List.getElem_cons_zero, List.getElem_cons_succ, Act.put, List.setIfInBounds_toArray, List.set_cons_zero, List.set_cons_succ]
      refine wpAnyN_next (i := 9) rfl (by kernel_rfl) (fun Kc hK => ?_)
      obtain ⟨z0, z1, z2, z3, z4⟩ := hS0
      go_simp
      have hS0 := HS.out _ c0
      refine hK.out _ _ (fun _ => hS0) ?_
      clear hK Kc
      try simp only [List.getElem_toArray, List.getElem_cons_zero, List.getElem_cons_succ, Act.put, List.setIfInBounds_toArray, List.set_cons_zero, List.set_cons_succ]
      refine wpAnyN_next (i := 12) rfl (by kernel_rfl) (fun Kc hK => ?_)
      obtain ⟨z0, z1, z2, z3, z4⟩ := hS0
      go_simp
      have hS0 := HS.out _ c0
      refine hK.out _ _ (fun _ => hS0) ?_
      clear hK Kc
      try simp only [List.getElem_toArray, List.getElem_cons_zero, List.getElem_cons_succ, Act.put, List.setIfInBounds_toArray, List.set_cons_zero, List.set_cons_succ]
      refine wpAnyN_next (i := 13) rfl (by kernel_rfl) (fun Kc hK => ?_)
      obtain ⟨z0, z1, z2, z3, z4⟩ := hS0
      go_simp
      have hS0 := HS.out _ c0
      refine hK.out _ _ (fun _ => hS0) ?_
      clear hK Kc
      try simp only [List.getElem_toArray, List.getElem_cons_zero, List.getElem_cons_succ, Act.put, List.setIfInBounds_toArray, List.set_cons_zero, List.set_cons_succ]
      refine wpAnyN_next (i := 14) rfl (by kernel_rfl) (fun Kc hK => ?_)
      go_simp
      refine hK.out _ _ (fun h => absurd h (by decide)) ?_
      clear hK Kc
      try simp only [List.getElem_toArray, List.getElem_cons_zero, List.getElem_cons_succ, Act.put, List.setIfInBounds_toArray, List.set_cons_zero, List.set_cons_succ]
      refine wpAnyN_done (by kernel_rfl) ?_ _
      by_cases hz : z < 0
      · have hz1 : z = -1 := by omega
        have eF2 := Lib.hid (show cgR (m : Int) (qN : Int) nx ot rs = ([], 0) by rw [eF.out, hz1]; rfl)
        obtain ⟨d4, f4', l4, x5, b5⟩ := Shut_.out wd (b8.out.trans (P0.out.e.mono b8.out.size)) (by rw [HC.out]; exact BC8.out.next P0.out.e)
        have b5' := Lib.hid b5
        rw [HC.out] at d4 f4' l4 x5
        clear b5 hz1
        go_wp2_with fail
        exact bodyPost_ret (v := .tuple #[.agg #[.slice none 0 0], .int .i64 0]) (by simp [results, Tryz.results11, go_sem, x5]) rfl ⟨none, 0, by rw [eF2.out]; rfl, by rw [eF2.out]; exact World.ownsRow_nil _ _ _ _, by have h := b5'.out; rw [HC.out] at h ⊢; exact h⟩
      · have hz0 : ¬ z < 0 := hz
        obtain ⟨zn, rfl⟩ := Int.eq_ofNat_of_zero_le (show 0 ≤ z by omega)
        have uz : IntKind.i64.wrap ((zn : Int) + 1) = ((zn + 1 : Nat) : Int) := by rw [IntWalk.i64_in _ (by omega)]; omega
        have jz0 : (0 : Int) ≤ ((zn + 1 : Nat) : Int) := by omega
        have hc1 : nn ≤ cc := by
          rcases P0.out.q.2 with ⟨hnil, hzz⟩ | ⟨g2, cap2, cur2, hv2, _, _, h3, _⟩
          · omega
          · injection hv2 with _ _ h4; omega
        have jz1 : ((zn + 1 : Nat) : Int) ≤ (cc : Int) := by omega
        have RO := Lib.hid (Rd.of_own (fun x _ => fac_len x) P0.out.ln P0.out.q)
        have RT := Lib.hid (Rd.takeG RO.out (k := zn + 1) (by omega))
        rw [Int.toNat_natCast] at hwft
        have eT := Lib.hid (show cgR (m : Int) (qN : Int) nx ot rs = (trimL (out.take (zn + 1)), 0) by rw [eF.out]; rfl)
        have TC := Lib.hid (fun W (h : Below wd.heap.size wd W) (hB : Blk W wd.heap.size 31 #[.slice A (zn + 1) cc]) => l02Trim_any wd.heap.size A (zn + 1) cc (out.take (zn + 1)) W hB.lt (hB.cell 0) (by omega) (RT.out.next h) hwft.out)
        unfold RetG at TC
        generalize trimL (out.take (zn + 1)) = T at *
        obtain ⟨L, hL⟩ : ∃ L, T.length = L := ⟨_, rfl⟩
        rw [hL] at TC
        have HL := Lib.hid hL
        clear hL hwft RO RT eF
        have y0 := P0.out.m.cell 0
        have yl := P0.out.m.lt
        have BC9 := Lib.hid (BC8.out.next P0.out.e)
        have b9 := Lib.hid (b8.out.trans (P0.out.e.mono b8.out.size))
        go_wp2_with
          (go_at_call 45
           refine (TC.out _ (by (repeat first | exact Below.refl _ _ | assumption | refine Below.drew ?_ | refine Below.alloc ?_ (by first | exact Nat.le_refl _ | (simp; done) | omega | (simp; omega)) _ | refine Below.setCell ?_ (by first | exact Nat.le_refl _ | (simp; done) | omega | (simp; omega)) _)) (Blk.new _ _ _)).mono ?_
           rintro e w6 ⟨A5, c5, rfl, own5, hb6⟩
           have hb6' : Below wd.heap.size wd w6 := Below.trans (by (repeat first | exact Below.refl _ _ | assumption | refine Below.drew ?_ | refine Below.alloc ?_ (by first | exact Nat.le_refl _ | (simp; done) | omega | (simp; omega)) _ | refine Below.setCell ?_ (by first | exact Nat.le_refl _ | (simp; done) | omega | (simp; omega)) _)) (hb6.mono (by simp))
           have o7 := (BC9.out.next hb6').cell 0
           have B7 := BC9.out.next hb6'
           have f7 := B7.frozen
           have l7 := B7.lt
           have O6 := Lib.hid (show w6.ownsRow w.heap.size 72 3 (.slice A5 L c5) L (T.flatMap Fac.cells) from own5.mono (by have h1 := b9.out.size; simp; omega))
           have B5 := B7.set_ 0 (.slice A5 L c5)
           have x5 : (w6.setCell ⟨C + 2, 0, none⟩ (.slice A5 L c5)).cell? ⟨C + 2, 0, none⟩ = some (.slice A5 L c5) := by rw [B5.cell 0]; rfl
           have b5' := Lib.hid ((b9.out.trans (hb6'.mono b9.out.size)).setCell (p := ⟨C + 2, 0, none⟩) (by rw [HC.out]; simp) (.slice A5 L c5))
           have O8 := Lib.hid (own_kept' (i := 0) O6.out B7 (by decide) (.slice A5 L c5))
           clear B5 B7 own5 hb6)
        exact bodyPost_ret (v := .tuple #[.agg #[.slice A5 L c5], .int .i64 0]) (by simp [results, Tryz.results11, go_sem, x5]) rfl ⟨A5, c5, by rw [eT.out]; simp [HL.out], by rw [eT.out]; simpa [HL.out] using O8.out, b5'.out⟩
end Go.Proofs.YtmdmgndhapdmgaaGreat


/-
  The grammar of a code, in the program.
-/
namespace Go.Proofs.YtmdmgndhapdmgaaGreat
open Go.RowKit

set_option maxHeartbeats 8000000 in
set_option maxRecDepth 100000 in
theorem codeGI_any (S q : Int) (N O : Option Addr) (m cn mo_ co : Nat) (nh oh : List RowH) (nx : List (List Int)) (ot : List (List ByteArray)) (G : Option Addr) (n c : Nat) (rs : List Fac) (w : World) (hm : m ≤ 1048576) (hmo : mo_ ≤ 1048576) (hn : n ≤ 1048576)
    (hx : RdT w w.heap.size N m intE nh nx) (ho : RdT w w.heap.size O mo_ strEM oh ot) (hxz : ∀ r ∈ nx, r.length ≤ 1048576) (hoz : ∀ r ∈ ot, r.length ≤ 1048576 ∧ ∀ t ∈ r, t.size ≤ maxLen) (hr : Rd w w.heap.size G n 3 Fac.cells rs) (hok : ∀ f ∈ rs, f.l.size ≤ maxLen) :
    Calls Tryz.prog 10 #[.agg #[.int .i64 S, .int .i64 q, .slice N m cn, .slice O mo_ co], .agg #[.slice G n c]] w (RetGC w (cgR S q nx ot rs).1 (cgR S q nx ot rs).2) := by
  have HN := Lib.hid hx; have HO := Lib.hid ho; have HXZ := Lib.hid hxz; have HZ := Lib.hid hoz; have HR := Lib.hid hr; have HK := Lib.hid hok
  have hl := Lib.hid hr.len
  clear hx ho hoz hxz hr hok
  have start : ∀ w3, Hid (w3 = ((w.alloc (.cells #[.int .i64 S, .int .i64 q, .slice N m cn, .slice O mo_ co] 27)).alloc (.cells #[.slice G n c] 31)).alloc (.cells #[.slice none 0 0] 31)) →
      Below w.heap.size w w3 ∧ Blk w3 w.heap.size 27 #[.int .i64 S, .int .i64 q, .slice N m cn, .slice O mo_ co] ∧ Blk w3 (w.heap.size + 1) 31 #[.slice G n c] ∧ Blk w3 (w.heap.size + 2) 31 #[.slice none 0 0] := fun w3 H3 => by
    rw [H3.out]
    refine ⟨by (repeat first | exact Below.refl _ _ | assumption | refine Below.drew ?_ | refine Below.alloc ?_ (by first | exact Nat.le_refl _ | (simp; done) | omega | (simp; omega)) _ | refine Below.setCell ?_ (by first | exact Nat.le_refl _ | (simp; done) | omega | (simp; omega)) _), ((Blk.new _ _ _).alloc _).alloc _, ?_, ?_⟩
    · have h := (Blk.new (w.alloc (.cells #[.int .i64 S, .int .i64 q, .slice N m cn, .slice O mo_ co] 27)) 31 #[.slice G n c]).alloc (.cells #[.slice none 0 0] 31)
      simpa using h
    · simpa using Blk.new ((w.alloc (.cells #[.int .i64 S, .int .i64 q, .slice N m cn, .slice O mo_ co] 27)).alloc (.cells #[.slice G n c] 31)) 31 #[.slice none 0 0]
  have Start := Lib.hid start; clear start
  have shut : ∀ w4, Below w.heap.size w w4 → Blk w4 (w.heap.size + 2) 31 #[.slice none 0 0] →
      (w4.cell? ⟨w.heap.size + 2, 0, none⟩ = some (.slice none 0 0)) ∧ (∀ i, w4.frozen? ⟨w.heap.size + 2, i, none⟩ = false) ∧ w.heap.size + 2 < w4.heap.size ∧
      (w4.setCell ⟨w.heap.size + 2, 0, none⟩ (.slice none 0 0)).cell? ⟨w.heap.size + 2, 0, none⟩ = some (.slice none 0 0) ∧ Below w.heap.size w (w4.setCell ⟨w.heap.size + 2, 0, none⟩ (.slice none 0 0)) := fun w4 hb B4 => by
    refine ⟨B4.cell 0, B4.frozen, B4.lt, ?_, hb.setCell (by simp) _⟩
    rw [(B4.set_ 0 (.slice none 0 0)).cell 0]; rfl
  have Shut_ := Lib.hid shut; clear shut
  have four : ∀ w4, Blk w4 w.heap.size 27 #[.int .i64 S, .int .i64 q, .slice N m cn, .slice O mo_ co] → Blk w4 (w.heap.size + 1) 31 #[.slice G n c] →
      (w4.cell? ⟨w.heap.size, 0, none⟩ = some (.int .i64 S) ∧ w4.cell? ⟨w.heap.size, 1, none⟩ = some (.int .i64 q) ∧ w4.cell? ⟨w.heap.size, 2, none⟩ = some (.slice N m cn) ∧ w4.cell? ⟨w.heap.size, 3, none⟩ = some (.slice O mo_ co)) ∧ w.heap.size < w4.heap.size ∧ w4.cell? ⟨w.heap.size + 1, 0, none⟩ = some (.slice G n c) ∧ w.heap.size + 1 < w4.heap.size := fun w4 h1 h2 => ⟨h1.four, h1.lt, h2.cell 0, h2.lt⟩
  have Four := Lib.hid four; clear four
  rcases hc : cdB S q nx ot with _ | _
  · have eR := Lib.hid (show cgR S q nx ot rs = ([], 1) by unfold cgR; rw [if_neg (by rw [hc]; simp)])
    have Hc := Lib.hid hc
    clear hc
    go_enter Tryz.func10, Tryz.ntmps10
    go_upto_region 1 with fail
    refine named fun w3 H3 => ?_
    obtain ⟨hb3, BK, BG, BC⟩ := Start.out w3 H3
    clear H3
    obtain ⟨⟨k0, k1, k2, k3⟩, kl, g0, gl⟩ := Four.out w3 BK BG
    have VC := Lib.hid (validCoder_any S q N O m cn mo_ co nh oh nx ot w3 hm hmo (HN.out.next hb3) (HO.out.next hb3) HXZ.out HZ.out false Hc.out)
    go_wp2_with fail
    refine VC.out.mono ?_
    rintro e1 w4 ⟨rfl, hb4⟩
    obtain ⟨d4, f4, l4, x5, b5⟩ := Shut_.out w4 (hb3.trans (hb4.mono hb3.size)) (BC.next hb4)
    clear BG BC BK k0 k1 k2 k3 kl g0 gl VC
    go_wp2_with fail
    exact bodyPost_ret (v := .tuple #[.agg #[.slice none 0 0], .int .i64 1]) (by simp [results, Tryz.results10, go_sem, x5]) rfl ⟨none, 0, by rw [eR.out]; rfl, by rw [eR.out]; exact World.ownsRow_nil _ _ _ _, b5⟩
  rcases hg : (gOk rs).isSome with _ | _
  · have eR := Lib.hid (show cgR S q nx ot rs = ([], 1) by unfold cgR; rw [if_neg (by rw [hg]; simp)])
    have Hc := Lib.hid hc
    have Hg := Lib.hid hg
    clear hc hg
    go_enter Tryz.func10, Tryz.ntmps10
    go_upto_region 1 with fail
    refine named fun w3 H3 => ?_
    obtain ⟨hb3, BK, BG, BC⟩ := Start.out w3 H3
    clear H3
    obtain ⟨⟨k0, k1, k2, k3⟩, kl, g0, gl⟩ := Four.out w3 BK BG
    have VC := Lib.hid (validCoder_any S q N O m cn mo_ co nh oh nx ot w3 hm hmo (HN.out.next hb3) (HO.out.next hb3) HXZ.out HZ.out true Hc.out)
    go_wp2_with fail
    refine VC.out.mono ?_
    rintro e1 w4 ⟨rfl, hb4⟩
    have b4 := hb3.trans (hb4.mono hb3.size)
    have BK4 := Lib.hid (BK.next hb4)
    have BG4 := Lib.hid (BG.next hb4)
    have BC4 := Lib.hid (BC.next hb4)
    clear BG BC BK k0 k1 k2 k3 kl g0 gl VC
    obtain ⟨⟨k0, k1, k2, k3⟩, kl, g0, gl⟩ := Four.out w4 BK4.out BG4.out
    go_wp2_with fail
    refine (validG_any G n c rs w4 (by omega) (HR.out.next b4) HK.out false Hg.out).mono ?_
    rintro e1 w5 ⟨rfl, hb5⟩
    have b5 := b4.trans (hb5.mono b4.size)
    have BK5 := Lib.hid (BK4.out.next hb5)
    have BG5 := Lib.hid (BG4.out.next hb5)
    have BC5 := Lib.hid (BC4.out.next hb5)
    clear BG4 BC4 BK4 k0 k1 k2 k3 kl g0 gl hb4 hb3
    obtain ⟨d4, f4, l4, x5, b5'⟩ := Shut_.out w5 b5 BC5.out
    go_wp2_with fail
    exact bodyPost_ret (v := .tuple #[.agg #[.slice none 0 0], .int .i64 1]) (by simp [results, Tryz.results10, go_sem, x5]) rfl ⟨none, 0, by rw [eR.out]; rfl, by rw [eR.out]; exact World.ownsRow_nil _ _ _ _, b5'⟩
  obtain ⟨ls, hls⟩ := Option.isSome_iff_exists.1 hg
  have hgl := (gOk_lens hls).1
  have hn4 : n ≤ 400 := by have := (gOk_lens hls).2.1; have := hl.out; omega
  have Hwf := Lib.hid (wf_of hgl)
  have Hgl := Lib.hid hgl
  have Hg := Lib.hid hg
  have Hc := Lib.hid hc
  obtain ⟨knx, kot, kS1, kS2, kq1, kq2⟩ := cd_ok hc
  obtain ⟨SN, rfl⟩ := Int.eq_ofNat_of_zero_le (show 0 ≤ S by omega)
  obtain ⟨qN, rfl⟩ := Int.eq_ofNat_of_zero_le kq1
  rw [Int.toNat_natCast] at knx kot
  have kl1 : m = SN := by rw [← knx.len]; exact HN.out.len.symm
  have kl2 : SN = mo_ := by rw [← kot.len]; exact HO.out.len
  subst kl1
  subst kl2
  have eR := Lib.hid (show cgR (m : Int) (qN : Int) nx ot rs = cgL nx ot m qN rs by unfold cgR; rw [if_pos ⟨hc, hg⟩]; rfl)
  have hS1 : 1 ≤ m := by omega
  have hS2 : m ≤ 24 := by omega
  have hq : qN < m := by omega
  have Knx := Lib.hid knx
  have Kot := Lib.hid kot
  clear hc hg hls knx kot kS1 kS2 kq1 kq2
  rcases Nat.eq_zero_or_pos n with hn0 | hn0
  · have eL := Lib.hid (show cgL nx ot m qN rs = ([], 0) by unfold cgL; rw [if_pos (by rw [hl.out]; exact hn0)])
    have e0 : ((n : Int) == 0) = true := by simp [hn0]
    clear hn0
    go_enter Tryz.func10, Tryz.ntmps10
    go_upto_region 1 with fail
    refine named fun w3 H3 => ?_
    obtain ⟨hb3, BK, BG, BC⟩ := Start.out w3 H3
    clear H3
    obtain ⟨⟨k0, k1, k2, k3⟩, kl, g0, gl⟩ := Four.out w3 BK BG
    have VC := Lib.hid (validCoder_any m qN N O m cn m co nh oh nx ot w3 hm hmo (HN.out.next hb3) (HO.out.next hb3) HXZ.out HZ.out true Hc.out)
    go_wp2_with fail
    refine VC.out.mono ?_
    rintro e1 w4 ⟨rfl, hb4⟩
    have b4 := hb3.trans (hb4.mono hb3.size)
    have BK4 := Lib.hid (BK.next hb4)
    have BG4 := Lib.hid (BG.next hb4)
    have BC4 := Lib.hid (BC.next hb4)
    clear BG BC BK k0 k1 k2 k3 kl g0 gl VC
    obtain ⟨⟨k0, k1, k2, k3⟩, kl, g0, gl⟩ := Four.out w4 BK4.out BG4.out
    go_wp2_with fail
    refine (validG_any G n c rs w4 (by omega) (HR.out.next b4) HK.out true Hg.out).mono ?_
    rintro e1 w5 ⟨rfl, hb5⟩
    have b5 := b4.trans (hb5.mono b4.size)
    have BK5 := Lib.hid (BK4.out.next hb5)
    have BG5 := Lib.hid (BG4.out.next hb5)
    have BC5 := Lib.hid (BC4.out.next hb5)
    clear BG4 BC4 BK4 k0 k1 k2 k3 kl g0 gl hb4 hb3
    have g5 := BG5.out.cell 0
    have g5l := BG5.out.lt
    obtain ⟨d4, f4, l4, x5, b5'⟩ := Shut_.out w5 b5 BC5.out
    go_wp2_with fail
    exact bodyPost_ret (v := .tuple #[.agg #[.slice none 0 0], .int .i64 0]) (by simp [results, Tryz.results10, go_sem, x5]) rfl ⟨none, 0, by rw [eR.out, eL.out]; rfl, by rw [eR.out, eL.out]; exact World.ownsRow_nil _ _ _ _, b5'⟩
  have e0 : ((n : Int) == 0) = false := by simp; omega
  have hn0' : rs.length ≠ 0 := by rw [hl.out]; omega
  obtain ⟨MP, hMP⟩ : ∃ MP, maps nx rs = MP := ⟨_, rfl⟩
  have hMl : MP.length = n := by rw [← hMP, ← hl.out]; exact full_len [] (mF nx) mG
  obtain ⟨MT, hMT⟩ : ∃ MT, metT MP rs m qN = MT := ⟨_, rfl⟩
  have HMok := Lib.hid (show ∀ k, k < n → StL m (MP.getD k []) from fun k hk => by rw [← hMP]; exact maps_ok Knx.out Hwf.out k (by rw [hl.out]; exact hk))
  have HSh := Lib.hid (show Sh rs.length m MT by rw [← hMT]; exact metT_sh Hwf.out hn0' qN)
  have HMT := Lib.hid (show metD MP rs n (put (met00 n m) (n - 1) qN) = MT by rw [← hMT, ← hl.out]; rfl)
  obtain ⟨MD, hMD⟩ : ∃ MD, mdA nx ot m qN rs = MD := ⟨_, rfl⟩
  have HMD := Lib.hid (show mdM ot MP MT (rs.drop 0) 0 [] [] = MD by rw [← hMD, ← hMT, ← hMP]; rfl)
  have HMDok := Lib.hid (show MdI m n MD.1 MD.2 by rw [← hMD, ← hl.out]; exact mdA_ok hS2 Knx.out Kot.out Hwf.out hn0')
  have eL := Lib.hid (show cgL nx ot m qN rs = if 400 < MD.1.length ∨ 1000000000000000 < codN nx ot qN rs then ([], 3) else (trimL (MD.1.take ((MD.2.getD (n - 1) []).getD qN 0 + 1).toNat), 0) by
    unfold cgL
    rw [if_neg hn0']
    unfold rootM
    rw [hMD, hl.out])
  have SM := Lib.hid (fun W (hb : Below w.heap.size w W) => show Calls Tryz.prog 32 #[.slice N m cn, .agg #[.slice G n c]] W (RetTab W MP) from by
    have h := stateMaps_any m N cn nh nx G n c rs W hS1 hS2 hn (HN.out.next hb) Knx.out (HR.out.next hb) Hwf.out
    rw [hMP] at h; exact h)
  have hci := codN_in Knx.out Kot.out Hgl.out hq
  have CLn := Lib.hid (fun W (hb : Below w.heap.size w W) => codedLength_any m qN N O cn co nh oh nx ot G n c rs ls W hS1 hS2 hq hn (HN.out.next hb) (HO.out.next hb) Knx.out Kot.out (HR.out.next hb) Hgl.out)
  obtain ⟨CN, hCN⟩ : ∃ CN, codN nx ot qN rs = CN := ⟨_, rfl⟩
  rw [hCN] at eL CLn hci
  clear hMP hMT hMD hn0' hCN hgl
  go_enter Tryz.func10, Tryz.ntmps10
  go_upto_region 1 with fail
  refine named fun w3 H3 => ?_
  obtain ⟨hb3, BK, BG, BC⟩ := Start.out w3 H3
  clear H3
  obtain ⟨⟨k0, k1, k2, k3⟩, kl, g0, gl⟩ := Four.out w3 BK BG
  have VC := Lib.hid (validCoder_any m qN N O m cn m co nh oh nx ot w3 hm hmo (HN.out.next hb3) (HO.out.next hb3) HXZ.out HZ.out true Hc.out)
  go_wp2_with fail
  refine VC.out.mono ?_
  rintro e1 w4 ⟨rfl, hb4⟩
  have b4 := hb3.trans (hb4.mono hb3.size)
  have BK4 := Lib.hid (BK.next hb4)
  have BG4 := Lib.hid (BG.next hb4)
  have BC4 := Lib.hid (BC.next hb4)
  clear BG BC BK k0 k1 k2 k3 kl g0 gl VC
  obtain ⟨⟨k0, k1, k2, k3⟩, kl, g0, gl⟩ := Four.out w4 BK4.out BG4.out
  go_wp2_with fail
  refine (validG_any G n c rs w4 (by omega) (HR.out.next b4) HK.out true Hg.out).mono ?_
  rintro e1 w5 ⟨rfl, hb5⟩
  have b5 := b4.trans (hb5.mono b4.size)
  have BK5 := Lib.hid (BK4.out.next hb5)
  have BG5 := Lib.hid (BG4.out.next hb5)
  have BC5 := Lib.hid (BC4.out.next hb5)
  clear BG4 BC4 BK4 k0 k1 k2 k3 kl g0 gl hb4 hb3
  have g5 := BG5.out.cell 0
  have g5l := BG5.out.lt
  obtain ⟨⟨k0, k1, k2, k3⟩, kl, g0, gl⟩ := Four.out w5 BK5.out BG5.out
  go_upto_region 6 with fail
  have mkBB := fun W => makeBB n W hn
  go_cut [7, 8] (fun m_ t_ wx => ∃ (M : Option Addr) (cm : Nat) (mh : List RowH) (p : Nat), m_ = .slice M n cm ∧ t_ = .slice (some ⟨p, 0, none⟩) n n ∧ Hid (MiX w5 wx p n n (nilH n) (List.replicate n []) M n cm mh MP))
  case first =>
    as_aux_lemma =>
      go_region_law
        (go_simp
         go_wp2_with (go_at_call 32; refine (SM.out _ (Below.trans b5 (by (repeat first | exact Below.refl _ _ | assumption | refine Below.drew ?_ | refine Below.alloc ?_ (by first | exact Nat.le_refl _ | (simp; done) | omega | (simp; omega)) _ | refine Below.setCell ?_ (by first | exact Nat.le_refl _ | (simp; done) | omega | (simp; omega)) _)))).mono ?_; rintro e w6 ⟨M, cm, mh, rfl, tM, hb6⟩; rw [hMl] at tM; rw [hMl]))
      all_goals
        go_wp2_with fail
        go_meet
        first
          | exact ⟨M, cm, mh, _, rfl, rfl, Lib.hid (mix_a tM hb6 hn)⟩
          | exact ⟨M, cm, mh, _, rfl, rfl, Lib.hid (mix_b tM hb6 hn)⟩
  case rest =>
    obtain ⟨M, cm, mh, p, rfl, rfl, P6⟩ := hcut
    have HF := Lib.hid (fun W (h : Below w5.heap.size w5 W) => Four.out W (BK5.out.next h) (BG5.out.next h))
    have RR5 := Lib.hid (HR.out.next b5)
    have mkB := fun W => makeB m W (by omega)
    have T1 := Lib.hid (show MiX w5 wc p n n (nilH n) (List.replicate 0 (List.replicate m false) ++ List.replicate (n - 0) []) M n cm mh MP from P6.out)
    clear mkBB P6 k0 k1 k2 k3 kl g0 gl g5 g5l hb5
    go_wp2_with fail
    go_loopw [48] (fun i_ w' => ∃ (k : Nat) (hs : List RowH), i_ = .int .i64 k ∧ k ≤ n ∧ Hid (MiX w5 w' p n n hs (List.replicate k (List.replicate m false) ++ List.replicate (n - k) []) M n cm mh MP)) (fun i_ _ => n - (intOf i_).toNat)
    case atStart => exact ⟨0, _, rfl, by omega, T1⟩
    case round =>
      obtain ⟨k, hs, rfl, hk, HP⟩ := hrel
      clear T1
      obtain ⟨⟨f0, f1, f2, f3⟩, fl, fg, fgl⟩ := HF.out wr HP.out.e
      by_cases hlt : k < n
      · as_aux_lemma =>
          have i0 : (0 : Int) ≤ (k : Int) := by omega
          have i1 : (k : Int) < (n : Int) := by omega
          have hbw := Lib.hid HP.out.e.size
          have P4 := Lib.hid (HP.out.alloc (.cells (boolA (List.replicate m false)) 4))
          obtain ⟨pz, ⟨rA, rn, rc⟩, vv, hpz, hpl, hrow, gvv, er, hrl, _⟩ := P4.out.t.at_ (i := k) hlt
          obtain rfl : p = pz := by injection hpz with hpz; injection hpz
          have er : (wr.alloc (.cells (boolA (List.replicate m false)) 4)).cell? ⟨p, k, none⟩ = some (.slice rA rn rc) := er
          have fz := P4.out.t.o.frozenAt k
          have Q4 := Lib.hid (show (wr.alloc (.cells (boolA (List.replicate m false)) 4)).ownsRow w5.heap.size 4 1 (.slice (some ⟨wr.heap.size, 0, none⟩) m m) m ((List.replicate m false).flatMap boolE) from
            own_of_blk (α := Bool) (enc := boolE) (xs := List.replicate m false) (base := w5.heap.size) (n := m) (sz := 1) (Blk.new wr 4 (boolA (List.replicate m false))) hbw.out (by simp [boolA]) (by simp) (by unfold maxLen; omega) (fun _ _ => rfl) (fun k x hx j hj => by
              have hk : k < m := by have := (List.getElem?_eq_some_iff.1 hx).1; simpa using this
              obtain rfl : j = 0 := by omega
              rw [Nat.mul_one, Nat.add_zero, boolA_at _ (by simpa using hk), List.getD_eq_getElem?_getD, hx]; rfl))
          have P5 := Lib.hid (P4.out.putH hlt (q := ⟨some ⟨wr.heap.size, 0, none⟩, m, m⟩) Q4.out (by simp) (fun i q g hp hv e => by injection e with e; have := (HP.out.t.ge i q g hp hv).2; have e' : wr.heap.size = g := e; omega))
          clear HP P4 Q4 hrow gvv hrl hpz
          go_wp2_with fail
          go_roundw
          case rel => exact ⟨k + 1, _, by go_num, by omega, Lib.hid (by rw [← rep_put k n hlt]; exact P5.out)⟩
          case measure => simp [intOf]; omega
      · obtain rfl : n = k := by omega
        have i1 : ¬ (n : Int) < (n : Int) := by omega
        obtain ⟨j, hj⟩ : ∃ j, n = j + 1 := ⟨n - 1, by omega⟩
        have u1 : IntKind.i64.wrap ((n : Int) - 1) = (j : Int) := by rw [IntWalk.i64_in _ (by omega)]; omega
        have P2 := Lib.hid (show MiX w5 wr p n n hs (met00 n m) M n cm mh MP by have h := HP.out; rw [Nat.sub_self] at h; simpa [met00] using h)
        have HS2 := Lib.hid (met00_sh n m)
        have HMT2 := Lib.hid (show metD MP rs n (put (met00 n m) j qN) = MT by have h := HMT.out; rw [hj, Nat.add_sub_cancel] at h; rw [hj]; exact h)
        clear HP HMT mkB
        have HP := P2
        clear P2
        generalize met00 n m = T0 at *
        obtain ⟨v0, gv0, lv0⟩ := HS2.out.at_ (i := j) (by omega)
        obtain ⟨z, hz⟩ : ∃ z, v0[qN]? = some z := ⟨_, List.getElem?_eq_getElem (by omega)⟩
        obtain ⟨p', g, cq, hpp, hpl, hq', eq', hgl, eg, _⟩ := HP.out.t.cell2 .bool (fun _ => rfl) gv0 hz
        obtain rfl : p = p' := by injection hpp with hpp; injection hpp
        rw [lv0] at eq' hq'
        have HS3 := Lib.hid (HS2.out.put (i := j) (s := qN) (by omega))
        have FZ := Lib.hid (fun W (h : Below wr.heap.size wr W) => (HP.out.next h).t.frz hq' gv0 qN)
        have P3 := Lib.hid (fun W (h : Below wr.heap.size wr W) => show MiX w5 (W.setCell ⟨g, qN, none⟩ (.bool true)) p n n hs (put T0 j qN) M n cm mh MP by rw [put_eq gv0]; exact (HP.out.next h).set hq' gv0 qN)
        have HS := Lib.hid (fun W (h : Below wr.heap.size wr W) => show W.cell? ⟨p, j, none⟩ = some (.slice (some ⟨g, 0, none⟩) m cq) ∧ W.cell? ⟨w.heap.size, 1, none⟩ = some (.int .i64 (qN : Int)) ∧ W.cell? ⟨g, qN, none⟩ = some (.bool z) from
          ⟨(h.cell (p := ⟨p, j, none⟩) hpl).trans eq', (h.cell (p := ⟨w.heap.size, 1, none⟩) fl).trans f1, (h.cell (p := ⟨g, qN, none⟩) hgl).trans eg⟩)
        have q0 : (0 : Int) ≤ (qN : Int) := by omega
        have q1 : (qN : Int) < (m : Int) := by omega
        have j0 : (0 : Int) ≤ (j : Int) := by omega
        have j1 : (j : Int) < (n : Int) := by omega
        generalize put T0 j qN = T1 at *
        have HJ := Lib.hid hj
        clear gv0 hz hq' hpp hj HS2
        go_upto_region 12 with fail
        clear eq' eg f0 f1 f2 f3
        refine wp_region_N (fun W => W.cell? ⟨p, j, none⟩ = some (.slice (some ⟨g, 0, none⟩) m cq) ∧ W.cell? ⟨w.heap.size, 1, none⟩ = some (.int .i64 (qN : Int)) ∧ W.cell? ⟨g, qN, none⟩ = some (.bool z)) [8] (by kernel_rfl) ?_
        have c0 : Below wr.heap.size wr wr.drew := (Below.refl _ _).drew
        have hS0 := HS.out _ c0
        have P0 := Lib.hid (HP.out.next c0)
        generalize wr.drew = wd at *
        refine wpAnyN_take (i := 0) (v := ?_) rfl (by kernel_rfl) (fun _ _ _ h => h) (by rfl) (fun W hW => ?_) hS0 ?_
        rotate_left
        · obtain ⟨z0, z1, z2⟩ := hW
          go_simp
          try with_reducible rfl
        try simp only [List.getElem_toArray, List.getElem_cons_zero, List.getElem_cons_succ, Act.put, List.setIfInBounds_toArray, List.set_cons_zero, List.set_cons_succ]
        refine wpAnyN_take (i := 1) (v := ?_) rfl (by kernel_rfl) (fun _ _ _ h => h) (by rfl) (fun W hW => ?_) hS0 ?_
        rotate_left
        · obtain ⟨z0, z1, z2⟩ := hW
          go_simp
          try with_reducible rfl
        try simp only [List.getElem_toArray, List.getElem_cons_zero, List.getElem_cons_succ, Act.put, List.setIfInBounds_toArray, List.set_cons_zero, List.set_cons_succ]
        refine wpAnyN_take (i := 5) (v := ?_) rfl (by kernel_rfl) (fun _ _ _ h => h) (by rfl) (fun W hW => ?_) hS0 ?_
        rotate_left
        · obtain ⟨z0, z1, z2⟩ := hW
          go_simp
          try with_reducible rfl
        try simp only [List.getElem_toArray, List.getElem_cons_zero, List.getElem_cons_succ, Act.put, List.setIfInBounds_toArray, List.set_cons_zero, List.set_cons_succ]
        refine wpAnyN_take (i := 6) (v := ?_) rfl (by kernel_rfl) (fun _ _ _ h => h) (by rfl) (fun W hW => ?_) hS0 ?_
        rotate_left
        · obtain ⟨z0, z1, z2⟩ := hW
          go_simp
          try with_reducible rfl
        try simp only [List.getElem_toArray, List.getElem_cons_zero, List.getElem_cons_succ, Act.put, List.setIfInBounds_toArray, List.set_cons_zero, List.set_cons_succ]
        refine wpAnyN_next (i := 2) rfl (by kernel_rfl) (fun Kc hK => ?_)
        obtain ⟨z0, z1, z2⟩ := hS0
        go_simp
        have hS0 := HS.out _ c0
        refine hK.out _ _ (fun _ => hS0) ?_
        clear hK Kc
        try simp only [List.getElem_toArray, List.getElem_cons_zero, List.getElem_cons_succ, Act.put, List.setIfInBounds_toArray, List.set_cons_zero, List.set_cons_succ]
        refine wpAnyN_next (i := 3) rfl (by kernel_rfl) (fun Kc hK => ?_)
        obtain ⟨z0, z1, z2⟩ := hS0
        go_simp
        have hS0 := HS.out _ c0
        refine hK.out _ _ (fun _ => hS0) ?_
        clear hK Kc
        try simp only [List.getElem_toArray, List.getElem_cons_zero, List.getElem_cons_succ, Act.put, List.setIfInBounds_toArray, List.set_cons_zero, List.set_cons_succ]
        refine wpAnyN_next (i := 4) rfl (by kernel_rfl) (fun Kc hK => ?_)
        obtain ⟨z0, z1, z2⟩ := hS0
        go_simp
        have hS0 := HS.out _ c0
        refine hK.out _ _ (fun _ => hS0) ?_
        clear hK Kc
        try simp only [List.getElem_toArray, List.getElem_cons_zero, List.getElem_cons_succ, Act.put, List.setIfInBounds_toArray, List.set_cons_zero, List.set_cons_succ]
        refine wpAnyN_next (i := 7) rfl (by kernel_rfl) (fun Kc hK => ?_)
        obtain ⟨z0, z1, z2⟩ := hS0
        go_simp
        have hS0 := HS.out _ c0
        refine hK.out _ _ (fun _ => hS0) ?_
        clear hK Kc
        try simp only [List.getElem_toArray, List.getElem_cons_zero, List.getElem_cons_succ, Act.put, List.setIfInBounds_toArray, List.set_cons_zero, List.set_cons_succ]
        obtain ⟨_, _, zz⟩ := hS0
        have fz := FZ.out _ c0
        refine wpAnyN_next (i := 8) rfl (by kernel_rfl) (fun Kc hK => ?_)
        go_simp
        go_wp2_with fail
        refine hK.out _ _ (fun h => absurd h (by decide)) ?_
        clear hK Kc
        try simp only [List.getElem_toArray, List.getElem_cons_zero, List.getElem_cons_succ, Act.put, List.setIfInBounds_toArray, List.set_cons_zero, List.set_cons_succ]
        refine wpAnyN_done (by kernel_rfl) ?_ _
        go_wp2_with fail
        refine named fun w3 H3 => ?_
        have P4 := Lib.hid (show MiX w5 w3 p n n hs T1 M n cm mh MP by rw [H3.out]; exact P3.out wd c0)
        clear H3 P3 FZ HS HP P0 u1 q0 q1 i1
        go_loopw [10] (fun i_ w' => ∃ (i : Nat) (T : List (List Bool)), i_ = .int .i64 ((i : Int) - 1) ∧ i ≤ n ∧ Hid (MiX w5 w' p n n hs T M n cm mh MP) ∧ Hid (Sh n m T) ∧ Hid (metD MP rs i T = MT)) (fun i_ _ => (intOf i_ + 1).toNat)
        case atStart => exact ⟨n, _, by rw [show (j : Int) = (n : Int) - 1 by have := HJ.out; omega], by omega, P4, HS3, HMT2⟩
        case round =>
          obtain ⟨i, T, rfl, hi, HP, HS, HE⟩ := hrel
          clear P4 HS3 HMT2
          obtain ⟨⟨f0, f1, f2, f3⟩, fl, fg, fgl⟩ := HF.out wr HP.out.e
          rcases Nat.eq_zero_or_pos i with hi0 | hi0
          · subst hi0
            have j0 : ¬ (0 : Int) ≤ ((0 : Nat) : Int) - 1 := by omega
            obtain rfl : MT = T := HE.out.symm
            clear HE
            have TM8 := Lib.hid HP.out.m
            have TB8 := Lib.hid HP.out.t
            have h58 := Lib.hid HP.out.e.size
            have b8 := Lib.hid (b5.trans (HP.out.e.mono b5.size))
            have BK8 := Lib.hid (BK5.out.next HP.out.e)
            have BG8 := Lib.hid (BG5.out.next HP.out.e)
            have BC8 := Lib.hid (BC5.out.next HP.out.e)
            have RR8 := Lib.hid (HR.out.next b8.out)
            have RO8 := Lib.hid (HO.out.next b8.out)
            obtain ⟨w8, hw8⟩ : ∃ wz : World, wz = wr := ⟨_, rfl⟩
            subst hw8
            have HF8 := Lib.hid (fun W (h : Below w8.heap.size w8 W) => Four.out W (BK8.out.next h) (BG8.out.next h))
            clear HP HF RR5 BK5 BG5 BC5 HJ b5 SM HN HO HXZ HZ HK HS
            go_upto_region 24 with fail
            clear f0 f1 f2 f3 fl fg fgl j0
            have mkII := fun W => makeII n W hn
            go_cut [14, 15] (fun g_ s_ wx => ∃ (MB ps : Nat), g_ = .pointer (some ⟨MB, 0, none⟩) ∧ s_ = .slice (some ⟨ps, 0, none⟩) n n ∧ Hid (CiO w8 wx MB ps (.slice none 0 0) none 0 0 [] n n (nilH n) (List.replicate n [])))
            case first =>
              as_aux_lemma =>
                go_region_law (fail)
                all_goals
                  go_wp2_with fail
                  go_meet
                  first
                    | exact ⟨_, _, rfl, rfl, Lib.hid (cio_a hn)⟩
                    | exact ⟨_, _, rfl, rfl, Lib.hid (cio_b hn)⟩
            case rest =>
              obtain ⟨MB, ps, rfl, rfl, P0⟩ := hcut
              clear mkII
              obtain ⟨⟨f0, f1, f2, f3⟩, fl, fg, fgl⟩ := HF8.out wc P0.out.e
              have O9 := Lib.hid (show CiO w8 wc MB ps (.slice none 0 0) none 0 0 [] n n (nilH n) ([] ++ List.replicate (n - 0) []) from P0.out)
              clear P0
              go_wp2_with fail
              go_loopw [120] (fun i_ w' => ∃ (i : Nat) (out : List Fac) (A : Option Addr) (nn cc : Nat) (hs2 : List RowH) (st : List (List Int)), i_ = .int .i64 i ∧ i ≤ n ∧ Hid (CiO w8 w' MB ps (.slice A nn cc) A nn cc out n n hs2 (st ++ List.replicate (n - i) [])) ∧ Hid (MdI m i out st) ∧ Hid (mdM ot MP MT (rs.drop i) i out st = MD)) (fun i_ _ => n - (intOf i_).toNat)
              case atStart => exact ⟨0, [], none, 0, 0, _, [], rfl, by omega, O9, Lib.hid (mdI_nil m), HMD⟩
              case round =>
                obtain ⟨i, out, A, nn, cc, hs2, st, rfl, hi, OW, HI, HE⟩ := hrel
                clear O9 HMD f0 f1 f2 f3 fl fg fgl
                obtain ⟨⟨f0, f1, f2, f3⟩, fl, fg, fgl⟩ := HF8.out wr OW.out.e
                by_cases hlt : i < n
                · obtain ⟨b, o, x, rfl, hB, gx, c0, c1, c2⟩ := (RR8.out.next OW.out.e).fac hlt
                  have HGx := Lib.hid gx
                  have HWk := Lib.hid (Hwf.out i x gx)
                  obtain ⟨v, gv, lv⟩ := HSh.out.at_ (i := i) (by rw [hl.out]; exact hlt)
                  have HGv := Lib.hid gv
                  have hln := HI.out.len
                  have HRW := Lib.hid (show mdM ot MP MT (rs.drop (i + 1)) (i + 1) (rwM ot MP st x (v.drop 0) 0 out []).1 (st ++ [(rwM ot MP st x (v.drop 0) 0 out []).2]) = MD by
                    rw [← HE.out, drop_cons gx, mdM]
                    have e : MT.getD i [] = v := by rw [List.getD_eq_getElem?_getD, gv]; rfl
                    rw [e]; rfl)
                  have i0 : (0 : Int) ≤ (i : Int) := by omega
                  have i1 : (i : Int) < (n : Int) := by omega
                  clear HE gx
                  go_upto_region 28 with fail
                  refine named fun w2 H2 => ?_
                  have W2 := Lib.hid (show CiW w8 w2 MB ps (.slice A nn cc) A nn cc out n n hs2 (st ++ List.replicate (n - i) []) wr.heap.size x by
                    rw [H2.out]
                    exact ⟨OW.out.alloc _, Blk.new wr 72 #[.string x.l, .int .i64 x.a, .int .i64 x.b], fun g hg => by have := (OW.out.q.lt g hg).2; omega⟩)
                  obtain ⟨X, hX⟩ : ∃ X, wr.heap.size = X := ⟨_, rfl⟩
                  rw [hX] at W2 ⊢
                  have HI2 := Lib.hid HI.out.start
                  clear H2 OW c0 c1 c2 f0 f1 f2 f3 fl fg fgl hB hX HI
                  obtain ⟨wr, hwr⟩ : ∃ wz : World, wz = w2 := ⟨_, rfl⟩
                  subst hwr
                  obtain ⟨⟨f0, f1, f2, f3⟩, fl, fg, fgl⟩ := HF8.out wr W2.out.o.e
                  have HP := W2
                  clear W2
                  go_upto_region 29 with
                    (go_at_call 34
                     refine (repeatI_any wr.heap.size (-1) m _ hS1 hS2 ((Blk.new wr 2 #[.int .i64 (-1)]).cell 0)).mono ?_
                     rintro e w5' ⟨R, cr, rfl, own5, hb5⟩
                     rw [List.length_replicate] at own5
                     rw [List.length_replicate]
                     have b5' : Below wr.heap.size wr w5' := ((Below.refl _ _).alloc (Nat.le_refl _) _).trans (hb5.mono (by simp))
                     have P5 := Lib.hid (HP.out.next b5')
                     have own5' := own5.mono (base' := wr.heap.size) (by simp)
                     have hfar := HP.out.o.t.fresh (q := ⟨R, m, cr⟩) own5' (Nat.le_refl _)
                     obtain ⟨pz, ⟨rA, rn, rc⟩, vv, hpz, hpl, hrow, gvv, er, hrl, _⟩ := P5.out.o.t.at_ (i := i) hlt
                     obtain rfl : ps = pz := by injection hpz with hpz; injection hpz
                     have er : w5'.cell? ⟨ps, i, none⟩ = some (.slice rA rn rc) := er
                     have fz := P5.out.o.t.o.frozenAt i
                     have P7 := Lib.hid (show CiW w8 (w5'.setCell ⟨ps, i, none⟩ (.slice R m cr)) MB ps (.slice A nn cc) A nn cc out n n (hs2.set i ⟨R, m, cr⟩) (st ++ (([] : List Int) ++ List.replicate (m - 0) (-1)) :: List.replicate (n - (i + 1)) []) X x by
                       have h := P5.out.row hlt (q := ⟨R, m, cr⟩) (y := List.replicate m (-1)) (own5'.mono HP.out.o.e.size) (by simp) hfar
                       rw [tab_nil n hlt, tab_set hln] at h
                       exact h)
                     clear own5 own5' hfar hpz hrow gvv hrl hb5)
                  refine named fun w2 H2 => ?_
                  have W2 := Lib.hid (show CiW w8 w2 MB ps (.slice A nn cc) A nn cc out n n (hs2.set i ⟨R, m, cr⟩) (st ++ (([] : List Int) ++ List.replicate (m - 0) (-1)) :: List.replicate (n - (i + 1)) []) X x by rw [H2.out]; exact P7.out)
                  clear H2 P7 P5 HP er fz f0 f1 f2 f3 fl fg fgl
                  generalize hs2.set i ⟨R, m, cr⟩ = hs3 at *
                  obtain ⟨z0, hz0⟩ : ∃ z, v[0]? = some z := ⟨_, List.getElem?_eq_getElem (by omega)⟩
                  obtain ⟨p', g, cq, hpp, hpl, hqr, er, hgl, _, _⟩ := (TB8.out.next W2.out.o.e).cell2 .bool (fun _ => rfl) gv hz0
                  obtain rfl : p = p' := by injection hpp with hpp; injection hpp
                  rw [lv] at er hqr
                  have HQ := Lib.hid hqr
                  clear hqr hz0 hpp hgl gv
                  go_wp2_with fail
                  go_loopw [137] (fun s_ w' => ∃ (s : Nat) (out : List Fac) (A : Option Addr) (nn cc : Nat) (acc : List Int), s_ = .int .i64 s ∧ s ≤ m ∧ Hid (CiW w8 w' MB ps (.slice A nn cc) A nn cc out n n hs3 (st ++ (acc ++ List.replicate (m - s) (-1)) :: List.replicate (n - (i + 1)) []) X x) ∧ Hid (RwI m i st s out acc) ∧
                    Hid (mdM ot MP MT (rs.drop (i + 1)) (i + 1) (rwM ot MP st x (v.drop s) s out acc).1 (st ++ [(rwM ot MP st x (v.drop s) s out acc).2]) = MD)) (fun s_ _ => m - (intOf s_).toNat)
                  case atStart => exact ⟨0, out, A, nn, cc, [], rfl, by omega, W2, HI2, HRW⟩
                  case round =>
                    clear W2 HI2 HRW er hpl
                    obtain ⟨s, out, A, nn, cc, acc, rfl, hsm, HP, HI, HE⟩ := hrel
                    by_cases hlt2 : s < m
                    · obtain ⟨bz, hbz⟩ : ∃ bz, v[s]? = some bz := ⟨_, List.getElem?_eq_getElem (by omega)⟩
                      obtain ⟨p', g', cq', hpp, _, hq', eq', hgl, eg, _⟩ := (TB8.out.next HP.out.o.e).cell2 .bool (fun _ => rfl) HGv.out hbz
                      obtain ⟨rfl, rfl⟩ : g = g' ∧ cq = cq' := by
                        have h := HQ.out.symm.trans hq'
                        injection h with h; injection h with h1 h2 h3; injection h1 with h1; injection h1 with h1
                        exact ⟨h1, h3⟩
                      obtain ⟨PR, hPR⟩ : ∃ PR, stM ot MP st x s bz out = PR := ⟨_, rfl⟩
                      have Hok := Lib.hid (show StOk out PR by rw [← hPR]; exact stM_ok (b := bz) Kot.out (fun j hj => HMok.out j (by omega)) HI.out hlt2 HWk.out)
                      have HE2 := Lib.hid (show mdM ot MP MT (rs.drop (i + 1)) (i + 1) (rwM ot MP st x (v.drop (s + 1)) (s + 1) PR.1 (acc ++ [PR.2])).1 (st ++ [(rwM ot MP st x (v.drop (s + 1)) (s + 1) PR.1 (acc ++ [PR.2])).2]) = MD by
                        rw [← HE.out, drop_cons hbz, ← hPR]; rfl)
                      have HI2 := Lib.hid (HI.out.step Hok.out)
                      have HPR := Lib.hid hPR
                      have s0 : (0 : Int) ≤ (s : Int) := by omega
                      have s1 : (s : Int) < (m : Int) := by omega
                      obtain ⟨y0, y1, y2⟩ := HP.out.x.three
                      have yl := HP.out.x.lt
                      clear HE hPR hpp hq' eq' hbz
                      rcases bz with _ | _
                      · have ep : PR = (out, -1) := HPR.out.symm
                        subst ep
                        go_wp2_with fail
                        go_roundw
                        case rel => exact ⟨s + 1, out, A, nn, cc, acc ++ [-1], by go_num, by omega, Lib.hid (by rw [← row_keep hlt2]; exact HP.out), HI2, HE2⟩
                        case measure => simp [intOf]; omega
                      · obtain ⟨bp, hbp⟩ : ∃ bp, isP x = bp := ⟨_, rfl⟩
                        have IP := Lib.hid (fun W => isPair_any x bp W hbp)
                        obtain ⟨TT, hTT⟩ : ∃ TT, st ++ (acc ++ List.replicate (m - s) (-1)) :: List.replicate (n - (i + 1)) [] = TT := ⟨_, rfl⟩
                        have HTT := Lib.hid hTT
                        rw [hTT] at HP
                        have HBP := Lib.hid hbp
                        clear hTT hbp
                        go_upto_if 146 with (go_at_call 33; refine (IP.out _).mono ?_; rintro e w4 ⟨rfl, hb4⟩)
                        have HP4 := Lib.hid (HP.out.next hb4)
                        clear HP hb4 y0 y1 y2 yl eg hgl IP
                        obtain ⟨wr, rfl⟩ : ∃ wz : World, wz = w4 := ⟨_, rfl⟩
                        have HP := HP4
                        clear HP4
                        go_cut [20] (fun o_ wx => ∃ (A' : Option Addr) (n' c' : Nat), o_ = .int .i64 PR.2 ∧ Hid (CiW w8 wx MB ps (.slice A' n' c') A' n' c' PR.1 n n hs3 TT X x))
                        case first =>
                          clear HE2 HI2 Hok
                          obtain ⟨y0, y1, y2⟩ := HP.out.x.three
                          have yl := HP.out.x.lt
                          have hup := upc wr.heap.size wr
                          obtain ⟨⟨f0, f1, f2, f3⟩, fl, fg, fgl⟩ := HF8.out wr HP.out.o.e
                          have hln2 := HP.out.o.ln
                          have hle := HI.out.le
                          have Hle := Lib.hid (show nn ≤ 96240 by omega)
                          clear hle
                          rcases HWk.out with ⟨h0, ha0, ha1, hb0, hb1⟩ | ⟨lc, hcc, hxl, hxa, hxb⟩
                          · as_aux_lemma =>
                              obtain rfl : bp = true := by rw [← HBP.out]; unfold isP; simp [h0]
                              obtain ⟨xa, hxa⟩ := Int.eq_ofNat_of_zero_le ha0
                              obtain ⟨xb, hxb⟩ := Int.eq_ofNat_of_zero_le hb0
                              obtain ⟨va, gva, pva⟩ := HI.out.at_ (i := xa) (by omega)
                              obtain ⟨vb, gvb, pvb⟩ := HI.out.at_ (i := xb) (by omega)
                              obtain ⟨zx, gzx, zx0, zx1⟩ := pva.at_ hlt2
                              obtain ⟨mm, gmm⟩ : ∃ mm, MP[xa]? = some mm := ⟨_, List.getElem?_eq_getElem (by omega)⟩
                              have hms : StL m mm := by have h := HMok.out xa (by omega); rw [List.getD_eq_getElem?_getD, gmm] at h; exact h
                              obtain ⟨t, gt, ht⟩ := hms.at_ hlt2
                              obtain ⟨zy, gzy, zy0, zy1⟩ := pvb.at_ ht
                              have ep := stM_pair (ot := ot) (M := MP) (st := st) (out := out) h0 hxa hxb gmm gt gva gzx gvb gzy
                              have EP := Lib.hid (HPR.out.symm.trans ep)
                              obtain ⟨tb, ga, ca, htb, htbl, _, ea, hgal, ega, _⟩ := HP.out.o.t.cell2 (.int .i64) (fun _ => rfl) (show TT[xa]? = some va by rw [← HTT.out]; exact tab_lt gva) gzx
                              obtain rfl : ps = tb := by injection htb with htb; injection htb
                              obtain ⟨tb', gb, cb, htb', _, _, eb, hgbl, egb, _⟩ := HP.out.o.t.cell2 (.int .i64) (fun _ => rfl) (show TT[xb]? = some vb by rw [← HTT.out]; exact tab_lt gvb) gzy
                              obtain rfl : ps = tb' := by injection htb' with htb'; injection htb'
                              rw [pva.1] at ea
                              rw [pvb.1] at eb
                              obtain ⟨mp, mg, mc, rfl, hmpl, _, em, hmgl, emg, _⟩ := (TM8.out.next HP.out.o.e).cell2 (.int .i64) (fun _ => rfl) gmm gt
                              rw [hms.1] at em
                              rw [hxa] at y1
                              rw [hxb] at y2
                              have k0 : (0 : Int) ≤ (xa : Int) := by omega
                              have k1 : (xa : Int) < (n : Int) := by omega
                              have k2 : (0 : Int) ≤ (xb : Int) := by omega
                              have k3 : (xb : Int) < (n : Int) := by omega
                              have k5 : (0 : Int) ≤ (t : Int) := by omega
                              have k6 : (t : Int) < (m : Int) := by omega
                              have hle := Hle.out
                              clear hxa hxb gva gvb gzx gzy gmm gt hms pva pvb htb htb' ep ha0 ha1 hb0 hb1 HPR h0
                              go_upto_region 39 with fail
                              refine wp_region_up wr.heap.size (by kernel_rfl) (by kernel_rfl) ?_
                              repeat (go_big_quiet_step (fail))
                              refine wpQuiet_nil ?_
                              intro w5 hw5
                              have hb5 := up_of hw5
                              have HP5 := Lib.hid (HP.out.next hb5)
                              clear hw5 hb5 HP y0 y1 y2 yl hup f0 f1 f2 f3 fl fg fgl ea eb ega egb em emg hmpl hmgl hgal hgbl htbl k0 k1 k2 k3 k5 k6
                              by_cases hl0 : zx < 0
                              · have E : PR = (out, zy) := by rw [EP.out]; unfold prM; rw [if_pos hl0]
                                subst E
                                have h1 : ¬ (0 : Int) ≤ zx := by omega
                                have hmx : max zx zy = zy := by omega
                                clear EP hl0
                                go_wp2_with fail
                                go_meet
                                exact ⟨A, nn, cc, rfl, HP5⟩
                              · have h1 : (0 : Int) ≤ zx := by omega
                                by_cases hr0 : zy < 0
                                · have E : PR = (out, zx) := by rw [EP.out]; unfold prM; rw [if_neg hl0, if_pos hr0]
                                  subst E
                                  have h2 : ¬ (0 : Int) ≤ zy := by omega
                                  have hmx : max zx zy = zx := by omega
                                  clear EP hl0 hr0
                                  go_wp2_with fail
                                  go_meet
                                  exact ⟨A, nn, cc, rfl, HP5⟩
                                · have h2 : (0 : Int) ≤ zy := by omega
                                  have E := Lib.hid (show PR = (out ++ [⟨⟨#[]⟩, zx, zy⟩], (nn : Int)) by rw [EP.out]; unfold prM; rw [if_neg hl0, if_neg hr0, hln2])
                                  have PC := Lib.hid (fun W => pair64_any zx zy W (by omega) (by omega))
                                  obtain ⟨y, hy⟩ : ∃ y : Fac, (⟨⟨#[]⟩, zx, zy⟩ : Fac) = y := ⟨_, rfl⟩
                                  rw [hy] at PC E
                                  have E' := E.out
                                  subst E'
                                  clear EP hl0 hr0 hy E
                                  go_upto_region 42 with fail
                                  have M2 := HP5
                                  have M3 := Lib.hid (M2.out.next (Below.refl _ _).drew)
                                  have d0 := M2.out.o.m.cell 0
                                  have l0 := M2.out.o.m.lt
                                  have zk : (nn + 1) * 32 ≤ 140737488355328 := by omega
                                  have zkm : nn + 1 ≤ maxLen := by unfold maxLen; omega
                                  go_region_law
                                    (first
                                      | (refine step_pushG (by rfl) _ _ _ (by rfl) w8.heap.size 72 3 32 elem_rule Fac.cells A nn cc out (by rfl) M5.out.o.q _ y #[.string y.l, .int .i64 y.a, .int .i64 y.b] 72 (0, 0) (by rfl) (heap_alloc_new _ _) rfl rfl (one_fac _) (by omega) zk zkm M5.out.o.e.size ?_
                                         intro A8 c8 w9 own8 hg8 at8
                                         have M8 := Lib.hid (M5.out.app own8 hg8 (by rw [List.length_append, M5.out.o.ln]; rfl) at8)
                                         have d8 := M8.out.o.m.cell 0
                                         have f8 := M8.out.o.m.frozen
                                         have l8 := M8.out.o.m.lt)
                                      | (go_simp
                                         go_wp2_with (go_at_call 37; refine (PC.out _).mono ?_; rintro e w4' ⟨rfl, hb4'⟩)
                                         have M4 := Lib.hid (M3.out.next hb4')
                                         have M5 := Lib.hid (M4.out.alloc (.cells #[.string y.l, .int .i64 y.a, .int .i64 y.b] 72))
                                         have d4 := M4.out.o.m.cell 0
                                         have l4 := M4.out.o.m.lt))
                                  all_goals
                                    have M9 := Lib.hid (M8.out.put (.slice A8 (nn + 1) c8))
                                    have g9 := M9.out.o.m.cell 0
                                    have l9 := M9.out.o.m.lt
                                    have u1 : IntKind.i64.wrap (((nn + 1 : Nat) : Int) - 1) = (nn : Int) := by rw [IntWalk.i64_in _ (by omega)]; omega
                                    clear d8 f8 l8
                                    go_wp2_with fail
                                    go_meet
                                    exact ⟨A8, nn + 1, c8, rfl, M9⟩
                          · as_aux_lemma =>
                              obtain rfl : bp = false := by rw [← HBP.out]; unfold isP; rw [hxl]; rfl
                              have HL2 := Lib.hid hxl
                              have hcn := letB_num hcc
                              obtain ⟨l, hlc⟩ : ∃ l, lc.toNat - 97 = l := ⟨_, rfl⟩
                              have hl4 : l < 4 := by omega
                              have hlnn : letN x.l = l := by rw [hxl, letN_one, hlc]
                              obtain ⟨r, tx_, gr_, hr4, grl, hto, ht6⟩ := Kot.out.at_ hlt2 hl4
                              have ep := stM_word (ot := ot) (M := MP) (st := st) (out := out) (r := x) (by rw [hxl]; show (1 : Nat) ≠ 0; omega) hlnn gr_ grl
                              have EP := Lib.hid (HPR.out.symm.trans ep)
                              obtain ⟨ob, oo, go_, goo, c4, rfl, hnB, en, hgB, eg⟩ := (RO8.out.next HP.out.o.e).cell2 (.string) (fun _ => rfl) gr_ grl
                              rw [hr4] at en
                              rw [hxl] at y0
                              have u0 : (0 : Nat) < (⟨#[lc]⟩ : ByteArray).size := Nat.one_pos
                              have u1 : IntKind.u8.wrap ((((⟨#[lc]⟩ : ByteArray)[0]'u0).toNat : Int) - 97) = (l : Int) := by
                                show IntKind.u8.wrap ((lc.toNat : Int) - 97) = (l : Int)
                                rw [IntKind.wrap_u8]; omega
                              have k4 : (0 : Int) ≤ (l : Int) := by omega
                              have k5 : (l : Int) < 4 := by omega
                              have Hto := Lib.hid hto
                              clear hlc hcc hxa hxb hxl hlnn ep gr_ grl hr4 HL2 HPR
                              go_upto_region 35 with fail
                              refine wp_region_up wr.heap.size (by kernel_rfl) (by kernel_rfl) ?_
                              repeat (go_big_quiet_step (fail))
                              refine wpQuiet_nil ?_
                              intro w5 hw5
                              have hb5 := up_of hw5
                              have HP5 := Lib.hid (HP.out.next hb5)
                              clear hw5 hb5 HP y0 y1 y2 yl hup f0 f1 f2 f3 fl fg fgl en eg hnB hgB u1 k4 k5 hcn
                              by_cases hx0 : tx_.size = 0
                              · have e0 := size0 hx0
                                have E : PR = (out, -1) := by rw [EP.out]; unfold wdM; rw [if_pos hx0]
                                subst E
                                clear EP hx0
                                go_wp2_with fail
                                go_meet
                                exact ⟨A, nn, cc, rfl, HP5⟩
                              · have e0 := size1 hx0
                                have e1 := size1' hx0
                                obtain ⟨hlx, hsx⟩ := okW_let Hto.out
                                have HTw := Lib.hid (wf_plain hlx)
                                have hTp := plainL_pos (w := tx_.data.toList) (fun e => hx0 (by rw [← byte_len, e]; rfl)) hlx
                                have hTl := plainL_len tx_.data.toList
                                rw [byte_len] at hTl
                                have PC := Lib.hid (fun W => plain_any tx_ W Hto.out)
                                have E := Lib.hid (show PR = (out ++ raiseL (nn : Int) (plainL tx_.data.toList), ((nn + (plainL tx_.data.toList).length : Nat) : Int) - 1) by rw [EP.out]; unfold wdM; rw [if_neg hx0, hln2])
                                obtain ⟨T, hT⟩ : ∃ T, plainL tx_.data.toList = T := ⟨_, rfl⟩
                                obtain ⟨L, hL⟩ : ∃ L, T.length = L := ⟨_, rfl⟩
                                unfold RetG at PC
                                rw [hT] at E HTw hTp hTl PC
                                rw [hL] at E hTp hTl PC
                                have HL := Lib.hid hL
                                have hle := Hle.out
                                have E' := E.out
                                subst E'
                                have hfi := fun (v : Value) (W : World) => show (Instr.field 31 (.agg #[v]) 0).run Tryz.prog W = .ok v W by unfold Instr.field; kernel_rfl
                                have Hfi := Lib.hid hfi
                                clear hT hL hfi EP E hx0 hlx
                                go_upto_region 37 with fail
                                have M2 := HP5
                                have M3 := Lib.hid (M2.out.next (Below.refl _ _).drew)
                                have d0 := M2.out.o.m.cell 0
                                have l0 := M2.out.o.m.lt
                                have zk : (nn + L) * 32 ≤ 140737488355328 := by omega
                                have zkm : nn + L ≤ maxLen := by unfold maxLen; omega
                                have n0 : (0 : Int) ≤ (nn : Int) := by omega
                                clear e0 e1
                                go_region_law
                                  (first
                                    | (refine step_appG (by rfl) _ _ _ (by rfl) w8.heap.size 72 3 32 elem_rule Fac.cells A nn cc out (by rfl) M5.out.o.q ⟨g5, 0, none⟩ L c5 (raiseL nn T) (by rfl) (by rw [raiseL_len, HL.out]) hTp HN5.out (fun y _ => fac_len y) (fun y _ => one_fac y) (by omega) zk zkm M5.out.o.e.size ?_
                                       intro A8 c8 w9 own8 hg8 at8
                                       have M8 := Lib.hid (M5.out.app own8 hg8 (by rw [List.length_append, raiseL_len, HL.out, M5.out.o.ln]) at8)
                                       have d8 := M8.out.o.m.cell 0
                                       have f8 := M8.out.o.m.frozen
                                       have l8 := M8.out.o.m.lt)
                                    | (go_simp
                                       go_wp2_with (go_at_call 35; refine (raisedL_any A4 L c4 T _ _ (by omega) R4.out HTw.out (by omega) (by omega)).mono ?_; rintro e w5' ⟨A5, c5, rfl, own5, hb5'⟩)
                                       have M5 := Lib.hid (M4.out.next hb5')
                                       obtain ⟨g5, cp5, hv5, _, _⟩ := own5.form hTp
                                       obtain rfl : A5 = some ⟨g5, 0, none⟩ := by injection hv5
                                       have HN5 := Lib.hid (own5.cells (g := g5) rfl)
                                       have d5 := M5.out.o.m.cell 0
                                       have l5 := M5.out.o.m.lt
                                       clear hv5 own5)
                                    | (go_simp
                                       go_wp2_with (go_at_call 36; refine (PC.out _).mono ?_; rintro e w4' ⟨A4, c4, rfl, own4, hb4'⟩)
                                       have M4 := Lib.hid (M3.out.next hb4')
                                       have R4 := Lib.hid (Rd.of_own (fun y _ => fac_len y) HL.out own4)
                                       have hfi := Hfi.out (.slice A4 L c4)
                                       have d4 := M4.out.o.m.cell 0
                                       have l4 := M4.out.o.m.lt
                                       clear own4))
                                all_goals
                                  have M9 := Lib.hid (M8.out.put (.slice A8 (nn + L) c8))
                                  have g9 := M9.out.o.m.cell 0
                                  have l9 := M9.out.o.m.lt
                                  have u1 : IntKind.i64.wrap (((nn + L : Nat) : Int) - 1) = ((nn + L : Nat) : Int) - 1 := IntWalk.i64_in _ (by omega)
                                  clear d8 f8 l8
                                  go_wp2_with fail
                                  go_meet
                                  exact ⟨A8, nn + L, c8, rfl, M9⟩
                        case rest =>
                          as_aux_lemma =>
                            obtain ⟨A', n', c', rfl, HP'⟩ := hcut
                            clear HP
                            obtain ⟨wr, rfl⟩ : ∃ wz : World, wz = wc := ⟨_, rfl⟩
                            have HP := HP'
                            clear HP'
                            have hrow := Lib.hid (show TT[i]? = some (acc ++ List.replicate (m - s) (-1)) by rw [← HTT.out]; exact tab_at HI.out.len)
                            have hcel : (acc ++ List.replicate (m - s) (-1))[s]? = some (-1) := by
                              have ha := HI.out.acc.1
                              rw [List.getElem?_append_right (by omega), ha, Nat.sub_self, List.getElem?_replicate, if_pos (by omega)]
                            obtain ⟨p2, gR, cR, hp2, hpl, hqR, eR2, hgR, egR, _⟩ := HP.out.o.t.cell2 (.int .i64) (fun _ => rfl) hrow.out hcel
                            obtain rfl : ps = p2 := by injection hp2 with hp2; injection hp2
                            have hrl : (acc ++ List.replicate (m - s) (-1)).length = m := by
                              have ha := HI.out.acc.1
                              rw [List.length_append, List.length_replicate]; omega
                            rw [hrl] at eR2 hqR
                            have fz := HP.out.o.t.frz hqR hrow.out s
                            have P7 := Lib.hid (show CiW w8 (wr.setCell ⟨gR, s, none⟩ (.int .i64 PR.2)) MB ps (.slice A' n' c') A' n' c' PR.1 n n hs3 (st ++ ((acc ++ [PR.2]) ++ List.replicate (m - (s + 1)) (-1)) :: List.replicate (n - (i + 1)) []) X x by
                              have h := HP.out.set hqR hrow.out s PR.2
                              rw [row_set HI.out.acc.1 hlt2, ← HTT.out, tab_set HI.out.len] at h
                              exact h)
                            clear hp2 hqR hrl hcel
                            go_wp2_with fail
                            go_roundw
                            case rel => exact ⟨s + 1, PR.1, A', n', c', acc ++ [PR.2], by go_num, by omega, P7, HI2, HE2⟩
                            case measure => simp [intOf]; omega
                    · obtain rfl : s = m := by omega
                      as_aux_lemma =>
                        have s1 : ¬ (s : Int) < (s : Int) := by omega
                        have hrw : rwM ot MP st x (v.drop s) s out acc = (out, acc) := by rw [List.drop_of_length_le (by omega)]; rfl
                        rw [hrw] at HE
                        have HI2 := Lib.hid (HI.out.fin hS2)
                        have P4 := Lib.hid (show CiO w8 wr MB ps (.slice A nn cc) A nn cc out n n hs3 ((st ++ [acc]) ++ List.replicate (n - (i + 1)) []) by
                          have h := HP.out.o
                          rw [Nat.sub_self, List.replicate_zero, List.append_nil] at h
                          rw [List.append_assoc]; exact h)
                        clear hrw HI HP
                        go_wp2_with fail
                        go_roundw
                        case rel =>
                          (repeat apply Exists.intro)
                          exact ⟨⟨i + 1, out, A, nn, cc, hs3, st ++ [acc], by go_num, by omega, P4, HI2, HE⟩, rfl⟩
                        case measure => simp [intOf]; omega
                · as_aux_lemma =>
                    obtain rfl : i = n := by omega
                    have i1 : ¬ (i : Int) < (i : Int) := by omega
                    have hmd : (out, st) = MD := by rw [← HE.out, List.drop_of_length_le (by rw [hl.out]; exact Nat.le_refl _)]; rfl
                    have P0 := Lib.hid (show CiO w8 wr MB ps (.slice A nn cc) A nn cc out i i hs2 st by
                      have h := OW.out
                      rw [Nat.sub_self, List.replicate_zero, List.append_nil] at h
                      exact h)
                    have hol := OW.out.ln
                    have y0 := P0.out.m.cell 0
                    have yl := P0.out.m.lt
                    have b9 := Lib.hid (b8.out.trans (P0.out.e.mono b8.out.size))
                    have BC9 := Lib.hid (BC8.out.next P0.out.e)
                    clear OW HE hi hlt
                    by_cases h4 : 400 < nn
                    · have h4' : (400 : Int) < (nn : Int) := by omega
                      have eF := Lib.hid (show cgR (m : Int) (qN : Int) nx ot rs = ([], 3) by rw [eR.out, eL.out, ← hmd, if_pos (.inl (by show 400 < out.length; omega))])
                      obtain ⟨d4, f4', l4, x5, b5'⟩ := Shut_.out wr b9.out BC9.out
                      clear hmd
                      go_wp2_with fail
                      exact bodyPost_ret (v := .tuple #[.agg #[.slice none 0 0], .int .i64 3]) (by simp [results, Tryz.results10, go_sem, x5]) rfl ⟨none, 0, by rw [eF.out]; rfl, by rw [eF.out]; exact World.ownsRow_nil _ _ _ _, b5'⟩
                    · have h4' : ¬ (400 : Int) < (nn : Int) := by omega
                      have CL := Lib.hid (CLn.out wr b9.out)
                      by_cases hcn : 1000000000000000 < CN
                      · have eF := Lib.hid (show cgR (m : Int) (qN : Int) nx ot rs = ([], 3) by rw [eR.out, eL.out, if_pos (.inr hcn)])
                        clear hmd
                        go_wp2_with (go_at_call 38; refine CL.out.mono ?_; rintro e w6 ⟨rfl, hb6⟩; obtain ⟨d4, f4', l4, x5, b5'⟩ := Shut_.out w6 (b9.out.trans (hb6.mono b9.out.size)) (BC9.out.next hb6))
                        exact bodyPost_ret (v := .tuple #[.agg #[.slice none 0 0], .int .i64 3]) (by simp [results, Tryz.results10, go_sem, x5]) rfl ⟨none, 0, by rw [eF.out]; rfl, by rw [eF.out]; exact World.ownsRow_nil _ _ _ _, b5'⟩
                      · as_aux_lemma =>
                          obtain ⟨j, hj⟩ : ∃ j, i = j + 1 := ⟨i - 1, by omega⟩
                          obtain ⟨va, gva, pva⟩ := HI.out.at_ (i := j) (by omega)
                          obtain ⟨z, gz, z0, z1⟩ := pva.at_ hq
                          have eF := Lib.hid (show cgR (m : Int) (qN : Int) nx ot rs = (trimL (out.take (z + 1).toNat), 0) by
                            rw [eR.out, eL.out, ← hmd, if_neg (by rintro (h | h); exact h4 (by rw [← hol]; exact h); exact hcn h)]
                            show (trimL (out.take ((st.getD (i - 1) []).getD qN 0 + 1).toNat), (0 : Int)) = _
                            have e1 : st.getD (i - 1) [] = va := by rw [hj, Nat.add_sub_cancel, List.getD_eq_getElem?_getD, gva]; rfl
                            have e2 : va.getD qN 0 = z := by rw [List.getD_eq_getElem?_getD, gz]; rfl
                            rw [e1, e2])
                          have hwft := Lib.hid (wf_take HI.out.wf (z + 1).toNat)
                          have u1 : IntKind.i64.wrap ((i : Int) - 1) = (j : Int) := by rw [IntWalk.i64_in _ (by omega)]; omega
                          have j0 : (0 : Int) ≤ (j : Int) := by omega
                          have j1 : (j : Int) < (i : Int) := by omega
                          have q0 : (0 : Int) ≤ (qN : Int) := by omega
                          have q1 : (qN : Int) < (m : Int) := by omega
                          have hc1 : nn ≤ cc := by
                            rcases P0.out.q.2 with ⟨hnil, hzz⟩ | ⟨g2, cap2, cur2, hv2, _, _, h3, _⟩
                            · omega
                            · injection hv2 with _ _ h4; omega
                          obtain ⟨zn, hzn⟩ : ∃ zn : Nat, z + 1 = (zn : Int) := ⟨(z + 1).toNat, by omega⟩
                          have uz : IntKind.i64.wrap (z + 1) = (zn : Int) := by rw [IntWalk.i64_in _ (by omega)]; omega
                          have jz0 : (0 : Int) ≤ (zn : Int) := by omega
                          have jz1 : (zn : Int) ≤ (cc : Int) := by omega
                          have hznn : zn ≤ nn := by omega
                          rw [hzn, Int.toNat_natCast] at eF hwft
                          have Hgva := Lib.hid gva
                          have Hgz := Lib.hid gz
                          have HJ := Lib.hid hj
                          have hnn4 : nn ≤ 400 := by omega
                          clear hmd gva gz hj hzn
                          go_upto_region 49 with (go_at_call 38; refine CL.out.mono ?_; rintro e w6 ⟨rfl, hb6⟩)
                          have P6 := Lib.hid (P0.out.next hb6)
                          have b6 := Lib.hid (b9.out.trans (hb6.mono b9.out.size))
                          have BC6 := Lib.hid (BC9.out.next hb6)
                          clear P0 b9 BC9 hb6 f0 f1 f2 f3 fl fg fgl y0 yl CL h4' hcn
                          obtain ⟨⟨_, f1, _, _⟩, fl, _, _⟩ := HF8.out w6 P6.out.e
                          obtain ⟨tb, ga, ca, htb, htbl, _, ea, hgal, ega, _⟩ := P6.out.t.cell2 (.int .i64) (fun _ => rfl) Hgva.out Hgz.out
                          obtain rfl : ps = tb := by injection htb with htb; injection htb
                          rw [pva.1] at ea
                          have hup := upc w6.heap.size w6
                          clear htb
                          refine wp_region_up w6.heap.size (by kernel_rfl) (by kernel_rfl) ?_
                          repeat (go_big_quiet_step (fail))
                          refine wpQuiet_nil ?_
                          intro w7 hw7
                          have hb7 := up_of hw7
                          have P7 := Lib.hid (P6.out.next hb7)
                          have b7 := Lib.hid (b6.out.trans (hb7.mono b6.out.size))
                          have BC7 := Lib.hid (BC6.out.next hb7)
                          clear hw7 hb7 P6 b6 BC6 f1 fl ea ega hup htbl hgal
                          have y0 := P7.out.m.cell 0
                          have yl := P7.out.m.lt
                          have RO := Lib.hid (Rd.of_own (fun x _ => fac_len x) P7.out.ln P7.out.q)
                          have RT := Lib.hid (Rd.takeG RO.out (k := zn) hznn)
                          have TC := Lib.hid (fun W (h : Below w7.heap.size w7 W) => trimmed_any A zn cc (out.take zn) W (by omega) (RT.out.next h) hwft.out)
                          unfold RetG at TC
                          generalize trimL (out.take zn) = T at *
                          obtain ⟨L, hL⟩ : ∃ L, T.length = L := ⟨_, rfl⟩
                          rw [hL] at TC
                          have HL := Lib.hid hL
                          clear hL hwft RO RT
                          go_wp2_with
                            (go_at_call 39
                             refine (TC.out _ (by (repeat first | exact Below.refl _ _ | assumption | refine Below.drew ?_ | refine Below.alloc ?_ (by first | exact Nat.le_refl _ | (simp; done) | omega | (simp; omega)) _ | refine Below.setCell ?_ (by first | exact Nat.le_refl _ | (simp; done) | omega | (simp; omega)) _))).mono ?_
                             rintro e w8' ⟨A5, c5, rfl, own5, hb6⟩
                             have hb6' : Below w7.heap.size w7 w8' := hb6
                             have o7 := (BC7.out.next hb6').cell 0
                             have B7 := BC7.out.next hb6'
                             have f7 := B7.frozen
                             have l7 := B7.lt
                             have O6 := Lib.hid (show w8'.ownsRow w.heap.size 72 3 (.slice A5 L c5) L (T.flatMap Fac.cells) from own5.mono b7.out.size)
                             have B5 := B7.set_ 0 (.slice A5 L c5)
                             have x5 : (w8'.setCell ⟨w.heap.size + 2, 0, none⟩ (.slice A5 L c5)).cell? ⟨w.heap.size + 2, 0, none⟩ = some (.slice A5 L c5) := by rw [B5.cell 0]; rfl
                             have b5' := Lib.hid ((b7.out.trans (hb6'.mono b7.out.size)).setCell (p := ⟨w.heap.size + 2, 0, none⟩) (by simp) (.slice A5 L c5))
                             have O8 := Lib.hid (own_kept' (i := 0) O6.out B7 (by decide) (.slice A5 L c5))
                             clear B5 B7 own5 hb6)
                          exact bodyPost_ret (v := .tuple #[.agg #[.slice A5 L c5], .int .i64 0]) (by simp [results, Tryz.results10, go_sem, x5]) rfl ⟨A5, c5, by rw [eF.out]; simp [HL.out], by rw [eF.out]; simpa [HL.out] using O8.out, b5'.out⟩
          · obtain ⟨r, rfl⟩ : ∃ r, i = r + 1 := ⟨i - 1, by omega⟩
            have j0 : (0 : Int) ≤ (((r + 1 : Nat) : Nat) : Int) - 1 := by omega
            have j1 : (((r + 1 : Nat) : Nat) : Int) - 1 = (r : Int) := by omega
            rw [j1] at j0 ⊢
            clear j1
            have i1 : (r : Int) < (n : Int) := by omega
            obtain ⟨x, gx⟩ : ∃ x, rs[r]? = some x := ⟨_, List.getElem?_eq_getElem (by rw [hl.out]; omega)⟩
            have HGx := Lib.hid gx
            have HWk := Lib.hid (Hwf.out r x gx)
            have HE2 := Lib.hid (show metD MP rs r (metR MP x r T) = MT by
              have h := HE.out
              have hxe : rs.getD r ⟨⟨#[]⟩, 0, 0⟩ = x := by rw [List.getD_eq_getElem?_getD, gx]; rfl
              rw [metD, hxe] at h; exact h)
            obtain ⟨b, o, x', rfl, hB, gx', c0, c1, c2⟩ := (RR5.out.next HP.out.e).fac (k := r) (by omega)
            obtain rfl : x = x' := Option.some.inj (HGx.out.symm.trans gx')
            have P3 := Lib.hid (show MiY w5 (wr.alloc (.cells #[.string x.l, .int .i64 x.a, .int .i64 x.b] 72)) p n n hs T M n cm mh MP wr.heap.size x from ⟨HP.out.alloc _, Blk.new wr 72 #[.string x.l, .int .i64 x.a, .int .i64 x.b]⟩)
            clear HE gx gx'
            go_upto_region 17 with fail
            refine named fun w3 H3 => ?_
            have P4 := Lib.hid (show MiY w5 w3 p n n hs T M n cm mh MP wr.heap.size x by rw [H3.out]; exact P3.out)
            obtain ⟨X, hX⟩ : ∃ X, wr.heap.size = X := ⟨_, rfl⟩
            rw [hX] at P4 ⊢
            clear H3 P3 HP c0 c1 c2 f0 f1 f2 f3 fl fg fgl hB hX
            obtain ⟨v, gv, lv⟩ := HS.out.at_ (i := r) (by omega)
            have HGv := Lib.hid gv
            have hvD : T.getD r [] = v := by rw [List.getD_eq_getElem?_getD, gv]; rfl
            obtain ⟨z0, hz0⟩ : ∃ z, v[0]? = some z := ⟨_, List.getElem?_eq_getElem (by omega)⟩
            obtain ⟨p', g, cq, hpp, hpl, hqr, er, hgl, _, _⟩ := P4.out.o.t.cell2 .bool (fun _ => rfl) gv hz0
            obtain rfl : p = p' := by injection hpp with hpp; injection hpp
            rw [lv] at er hqr
            have HQ := Lib.hid hqr
            clear hqr hz0 hpp hgl
            rcases HWk.out with ⟨h0, ha0, ha1, hb0, hb1⟩ | ⟨cc, hcc, hxl, hxa, hxb⟩
            · as_aux_lemma =>
                have IPt := Lib.hid (fun W => isPair_any x true W (by unfold isP; simp [h0]))
                obtain ⟨xa, hxa⟩ := Int.eq_ofNat_of_zero_le ha0
                obtain ⟨xb, hxb⟩ := Int.eq_ofNat_of_zero_le hb0
                have hxak : xa < r := by omega
                have hxbk : xb < r := by omega
                have HXa := Lib.hid hxa
                have HXb := Lib.hid hxb
                have HE3 := Lib.hid (show metD MP rs r (metI MP xa xb (v.drop 0) 0 T) = MT by
                  have h := HE2.out
                  unfold metR at h
                  rw [if_pos h0, hvD, hxa, hxb, Int.toNat_natCast, Int.toNat_natCast] at h
                  exact h)
                clear gv hvD hxa hxb ha0 ha1 hb0 hb1 HE2 h0
                go_wp2_with fail
                go_loopw [82] (fun s_ w' => ∃ (s : Nat) (T' : List (List Bool)), s_ = .int .i64 s ∧ s ≤ m ∧ Hid (MiY w5 w' p n n hs T' M n cm mh MP X x) ∧ Hid (Sh n m T') ∧ Hid (T'[r]? = some v) ∧ Hid (metD MP rs r (metI MP xa xb (v.drop s) s T') = MT)) (fun s_ _ => m - (intOf s_).toNat)
                case atStart => exact ⟨0, T, rfl, by omega, P4, HS, HGv, HE3⟩
                case round =>
                  obtain ⟨s, T', rfl, hs', HP, HS', HV, HE4⟩ := hrel
                  clear P4 HS HGv HE3 er hpl
                  by_cases hlt2 : s < m
                  · obtain ⟨bz, hbz⟩ : ∃ bz, v[s]? = some bz := ⟨_, List.getElem?_eq_getElem (by omega)⟩
                    obtain ⟨p', g', cq', hpp, _, hq', eq', hgl, eg, _⟩ := HP.out.o.t.cell2 .bool (fun _ => rfl) HV.out hbz
                    obtain ⟨rfl, rfl⟩ : g = g' ∧ cq = cq' := by
                      have h := HQ.out.symm.trans hq'
                      injection h with h; injection h with h1 h2 h3; injection h1 with h1; injection h1 with h1
                      exact ⟨h1, h3⟩
                    have s0 : (0 : Int) ≤ (s : Int) := by omega
                    have s1 : (s : Int) < (m : Int) := by omega
                    obtain ⟨y0, y1, y2⟩ := HP.out.x.three
                    have yl := HP.out.x.lt
                    have HE5 := Lib.hid (show metD MP rs r (metI MP xa xb (v.drop (s + 1)) (s + 1) (if bz = true then metP MP xa xb s T' else T')) = MT by
                      rw [← HE4.out, drop_cons hbz]; rfl)
                    clear HE4 hpp hq' eq' hbz
                    rcases bz with _ | _
                    · go_wp2_with fail
                      go_roundw
                      case rel => exact ⟨s + 1, T', by go_num, by omega, HP, HS', HV, Lib.hid (by have h := HE5.out; simpa using h)⟩
                      case measure => simp [intOf]; omega
                    · go_upto_region 21 with (go_at_call 33; refine (IPt.out _).mono ?_; rintro e w4 ⟨rfl, hb4⟩)
                      have HP4 := Lib.hid (HP.out.next hb4)
                      clear HP hb4 y0 y1 y2 yl eg hgl
                      have HP := HP4
                      clear HP4
                      obtain ⟨wr, rfl⟩ : ∃ wz : World, wz = w4 := ⟨_, rfl⟩
                      obtain ⟨y0, y1, y2⟩ := HP.out.x.three
                      have yl := HP.out.x.lt
                      obtain ⟨va, gva, lva⟩ := HS'.out.at_ (i := xa) (by omega)
                      obtain ⟨za, hza⟩ : ∃ z, va[s]? = some z := ⟨_, List.getElem?_eq_getElem (by omega)⟩
                      obtain ⟨p2, ga, ca, hpp2, _, hqa, ea, hgal, ega, _⟩ := HP.out.o.t.cell2 .bool (fun _ => rfl) gva hza
                      obtain rfl : p = p2 := by injection hpp2 with hpp2; injection hpp2
                      rw [lva] at ea hqa
                      obtain ⟨mm, gm⟩ : ∃ mm, MP[xa]? = some mm := ⟨_, List.getElem?_eq_getElem (by omega)⟩
                      have hms : StL m mm := by have h := HMok.out xa (by omega); rw [List.getD_eq_getElem?_getD, gm] at h; exact h
                      obtain ⟨t, gt, ht⟩ := hms.at_ hlt2
                      have P5 := Lib.hid (HP.out.set hqa gva s)
                      have HS5 := Lib.hid (show Sh n m (T'.set xa (va.set s true)) from HS'.out.set xa (by rw [List.length_set]; exact lva))
                      have HV5 := Lib.hid (show (T'.set xa (va.set s true))[r]? = some v by rw [List.getElem?_set_ne (by omega)]; exact HV.out)
                      obtain ⟨vb, gvb, lvb⟩ := HS5.out.at_ (i := xb) (by omega)
                      have HE6 := Lib.hid (show metD MP rs r (metI MP xa xb (v.drop (s + 1)) (s + 1) ((T'.set xa (va.set s true)).set xb (vb.set t true))) = MT by
                        have h := HE5.out
                        rw [if_pos (by trivial), metP_eq gva gm gt gvb] at h; exact h)
                      have k0 : (0 : Int) ≤ (xa : Int) := by omega
                      have k1 : (xa : Int) < (n : Int) := by omega
                      have k2 : (0 : Int) ≤ (xb : Int) := by omega
                      have k3 : (xb : Int) < (n : Int) := by omega
                      have k4 : (0 : Int) ≤ (t : Int) := by omega
                      have k5 : (t : Int) < (m : Int) := by omega
                      have HGm := Lib.hid gm
                      have HGt := Lib.hid gt
                      have HGb := Lib.hid gvb
                      rw [HXa.out] at y1
                      rw [HXb.out] at y2
                      have fz := HP.out.o.t.frz hqa gva s
                      clear HE5 HS' HV hpp2 hza gm gt hms gva gvb
                      go_upto_region 22 with fail
                      refine named fun w3 H3 => ?_
                      have HP := Lib.hid (show MiY w5 w3 p n n hs (T'.set xa (va.set s true)) M n cm mh MP X x by rw [H3.out]; exact P5.out)
                      clear H3 P5 y0 y1 y2 yl ea ega hgal
                      obtain ⟨wr, rfl⟩ : ∃ wz : World, wz = w3 := ⟨_, rfl⟩
                      generalize T'.set xa (va.set s true) = T1 at *
                      obtain ⟨vt, gvt⟩ : ∃ z, vb[t]? = some z := ⟨_, List.getElem?_eq_getElem (by omega)⟩
                      obtain ⟨p3, gb, cb, hpp3, hpl, hqb, eb, hgbl, egb, _⟩ := HP.out.o.t.cell2 .bool (fun _ => rfl) HGb.out gvt
                      obtain rfl : p = p3 := by injection hpp3 with hpp3; injection hpp3
                      rw [lvb] at eb hqb
                      obtain ⟨mp, mg, mc, rfl, hmpl, _, em, hmgl, emg, _⟩ := HP.out.o.m.cell2 (.int .i64) (fun _ => rfl) HGm.out HGt.out
                      have hml : mm.length = m := by have h := HMok.out xa (by omega); rw [List.getD_eq_getElem?_getD, HGm.out] at h; exact h.1
                      rw [hml] at em
                      obtain ⟨_, y1, y2⟩ := HP.out.x.three
                      have yl := HP.out.x.lt
                      rw [HXa.out] at y1
                      rw [HXb.out] at y2
                      have HS := Lib.hid (fun W (h : Below wr.heap.size wr W) => show W.cell? ⟨X, 2, none⟩ = some (.int .i64 (xb : Int)) ∧ W.cell? ⟨X, 1, none⟩ = some (.int .i64 (xa : Int)) ∧ W.cell? ⟨p, xb, none⟩ = some (.slice (some ⟨gb, 0, none⟩) m cb) ∧ W.cell? ⟨mp, xa, none⟩ = some (.slice (some ⟨mg, 0, none⟩) m mc) ∧ W.cell? ⟨mg, s, none⟩ = some (.int .i64 (t : Int)) ∧ W.cell? ⟨gb, t, none⟩ = some (.bool vt) from
                        ⟨(h.cell (p := ⟨X, 2, none⟩) yl).trans y2, (h.cell (p := ⟨X, 1, none⟩) yl).trans y1, (h.cell (p := ⟨p, xb, none⟩) hpl).trans eb, (h.cell (p := ⟨mp, xa, none⟩) hmpl).trans em, (h.cell (p := ⟨mg, s, none⟩) hmgl).trans emg, (h.cell (p := ⟨gb, t, none⟩) hgbl).trans egb⟩)
                      have FZ := Lib.hid (fun W (h : Below wr.heap.size wr W) => (HP.out.next h).o.t.frz hqb HGb.out t)
                      have P7 := Lib.hid (fun W (h : Below wr.heap.size wr W) => (HP.out.next h).set hqb HGb.out t)
                      have HS7 := Lib.hid (show Sh n m (T1.set xb (vb.set t true)) from HS5.out.set xb (by rw [List.length_set]; exact lvb))
                      have HV7 := Lib.hid (show (T1.set xb (vb.set t true))[r]? = some v by rw [List.getElem?_set_ne (by omega)]; exact HV5.out)
                      clear hpp3 gvt eb em emg egb y1 y2
                      refine wp_region_N (fun W => W.cell? ⟨X, 2, none⟩ = some (.int .i64 (xb : Int)) ∧ W.cell? ⟨X, 1, none⟩ = some (.int .i64 (xa : Int)) ∧ W.cell? ⟨p, xb, none⟩ = some (.slice (some ⟨gb, 0, none⟩) m cb) ∧ W.cell? ⟨mp, xa, none⟩ = some (.slice (some ⟨mg, 0, none⟩) m mc) ∧ W.cell? ⟨mg, s, none⟩ = some (.int .i64 (t : Int)) ∧ W.cell? ⟨gb, t, none⟩ = some (.bool vt)) [14] (by kernel_rfl) ?_
                      have c0 : Below wr.heap.size wr wr.drew := (Below.refl _ _).drew
                      have hS0 := HS.out _ c0
                      have P0 := Lib.hid (HP.out.next c0)
                      generalize wr.drew = wd at *
                      refine wpAnyN_take (i := 0) (v := ?_) rfl (by kernel_rfl) (fun _ _ _ h => h) (by rfl) (fun W hW => ?_) hS0 ?_
                      rotate_left
                      · obtain ⟨z0, z1, z2, z3, z4, z5⟩ := hW
                        go_simp
                        try with_reducible rfl
                      try simp only [List.getElem_toArray, List.getElem_cons_zero, List.getElem_cons_succ, Act.put, List.setIfInBounds_toArray, List.set_cons_zero, List.set_cons_succ]
                      refine wpAnyN_take (i := 1) (v := ?_) rfl (by kernel_rfl) (fun _ _ _ h => h) (by rfl) (fun W hW => ?_) hS0 ?_
                      rotate_left
                      · obtain ⟨z0, z1, z2, z3, z4, z5⟩ := hW
                        go_simp
                        try with_reducible rfl
                      try simp only [List.getElem_toArray, List.getElem_cons_zero, List.getElem_cons_succ, Act.put, List.setIfInBounds_toArray, List.set_cons_zero, List.set_cons_succ]
                      refine wpAnyN_take (i := 2) (v := ?_) rfl (by kernel_rfl) (fun _ _ _ h => h) (by rfl) (fun W hW => ?_) hS0 ?_
                      rotate_left
                      · obtain ⟨z0, z1, z2, z3, z4, z5⟩ := hW
                        go_simp
                        try with_reducible rfl
                      try simp only [List.getElem_toArray, List.getElem_cons_zero, List.getElem_cons_succ, Act.put, List.setIfInBounds_toArray, List.set_cons_zero, List.set_cons_succ]
                      refine wpAnyN_take (i := 3) (v := ?_) rfl (by kernel_rfl) (fun _ _ _ h => h) (by rfl) (fun W hW => ?_) hS0 ?_
                      rotate_left
                      · obtain ⟨z0, z1, z2, z3, z4, z5⟩ := hW
                        go_simp
                        try with_reducible rfl
                      try simp only [List.getElem_toArray, List.getElem_cons_zero, List.getElem_cons_succ, Act.put, List.setIfInBounds_toArray, List.set_cons_zero, List.set_cons_succ]
                      refine wpAnyN_take (i := 4) (v := ?_) rfl (by kernel_rfl) (fun _ _ _ h => h) (by rfl) (fun W hW => ?_) hS0 ?_
                      rotate_left
                      · obtain ⟨z0, z1, z2, z3, z4, z5⟩ := hW
                        go_simp
                        try with_reducible rfl
                      try simp only [List.getElem_toArray, List.getElem_cons_zero, List.getElem_cons_succ, Act.put, List.setIfInBounds_toArray, List.set_cons_zero, List.set_cons_succ]
                      refine wpAnyN_take (i := 5) (v := ?_) rfl (by kernel_rfl) (fun _ _ _ h => h) (by rfl) (fun W hW => ?_) hS0 ?_
                      rotate_left
                      · obtain ⟨z0, z1, z2, z3, z4, z5⟩ := hW
                        go_simp
                        try with_reducible rfl
                      try simp only [List.getElem_toArray, List.getElem_cons_zero, List.getElem_cons_succ, Act.put, List.setIfInBounds_toArray, List.set_cons_zero, List.set_cons_succ]
                      refine wpAnyN_take (i := 6) (v := ?_) rfl (by kernel_rfl) (fun _ _ _ h => h) (by rfl) (fun W hW => ?_) hS0 ?_
                      rotate_left
                      · obtain ⟨z0, z1, z2, z3, z4, z5⟩ := hW
                        go_simp
                        try with_reducible rfl
                      try simp only [List.getElem_toArray, List.getElem_cons_zero, List.getElem_cons_succ, Act.put, List.setIfInBounds_toArray, List.set_cons_zero, List.set_cons_succ]
                      refine wpAnyN_take (i := 7) (v := ?_) rfl (by kernel_rfl) (fun _ _ _ h => h) (by rfl) (fun W hW => ?_) hS0 ?_
                      rotate_left
                      · obtain ⟨z0, z1, z2, z3, z4, z5⟩ := hW
                        go_simp
                        try with_reducible rfl
                      try simp only [List.getElem_toArray, List.getElem_cons_zero, List.getElem_cons_succ, Act.put, List.setIfInBounds_toArray, List.set_cons_zero, List.set_cons_succ]
                      refine wpAnyN_take (i := 8) (v := ?_) rfl (by kernel_rfl) (fun _ _ _ h => h) (by rfl) (fun W hW => ?_) hS0 ?_
                      rotate_left
                      · obtain ⟨z0, z1, z2, z3, z4, z5⟩ := hW
                        go_simp
                        try with_reducible rfl
                      try simp only [List.getElem_toArray, List.getElem_cons_zero, List.getElem_cons_succ, Act.put, List.setIfInBounds_toArray, List.set_cons_zero, List.set_cons_succ]
                      refine wpAnyN_take (i := 9) (v := ?_) rfl (by kernel_rfl) (fun _ _ _ h => h) (by rfl) (fun W hW => ?_) hS0 ?_
                      rotate_left
                      · obtain ⟨z0, z1, z2, z3, z4, z5⟩ := hW
                        go_simp
                        try with_reducible rfl
                      try simp only [List.getElem_toArray, List.getElem_cons_zero, List.getElem_cons_succ, Act.put, List.setIfInBounds_toArray, List.set_cons_zero, List.set_cons_succ]
                      refine wpAnyN_take (i := 10) (v := ?_) rfl (by kernel_rfl) (fun _ _ _ h => h) (by rfl) (fun W hW => ?_) hS0 ?_
                      rotate_left
                      · obtain ⟨z0, z1, z2, z3, z4, z5⟩ := hW
                        go_simp
                        try with_reducible rfl
                      try simp only [List.getElem_toArray, List.getElem_cons_zero, List.getElem_cons_succ, Act.put, List.setIfInBounds_toArray, List.set_cons_zero, List.set_cons_succ]
                      refine wpAnyN_take (i := 11) (v := ?_) rfl (by kernel_rfl) (fun _ _ _ h => h) (by rfl) (fun W hW => ?_) hS0 ?_
                      rotate_left
                      · obtain ⟨z0, z1, z2, z3, z4, z5⟩ := hW
                        go_simp
                        try with_reducible rfl
                      try simp only [List.getElem_toArray, List.getElem_cons_zero, List.getElem_cons_succ, Act.put, List.setIfInBounds_toArray, List.set_cons_zero, List.set_cons_succ]
                      refine wpAnyN_take (i := 12) (v := ?_) rfl (by kernel_rfl) (fun _ _ _ h => h) (by rfl) (fun W hW => ?_) hS0 ?_
                      rotate_left
                      · obtain ⟨z0, z1, z2, z3, z4, z5⟩ := hW
                        go_simp
                        try with_reducible rfl
                      try simp only [List.getElem_toArray, List.getElem_cons_zero, List.getElem_cons_succ, Act.put, List.setIfInBounds_toArray, List.set_cons_zero, List.set_cons_succ]
                      refine wpAnyN_take (i := 13) (v := ?_) rfl (by kernel_rfl) (fun _ _ _ h => h) (by rfl) (fun W hW => ?_) hS0 ?_
                      rotate_left
                      · obtain ⟨z0, z1, z2, z3, z4, z5⟩ := hW
                        go_simp
                        try with_reducible rfl
                      try simp only [List.getElem_toArray, List.getElem_cons_zero, List.getElem_cons_succ, Act.put, List.setIfInBounds_toArray, List.set_cons_zero, List.set_cons_succ]
                      obtain ⟨_, _, _, _, _, zz⟩ := hS0
                      have fz := FZ.out _ c0
                      refine wpAnyN_next (i := 14) rfl (by kernel_rfl) (fun Kc hK => ?_)
                      go_simp
                      go_wp2_with fail
                      refine hK.out _ _ (fun h => absurd h (by decide)) ?_
                      clear hK Kc
                      try simp only [List.getElem_toArray, List.getElem_cons_zero, List.getElem_cons_succ, Act.put, List.setIfInBounds_toArray, List.set_cons_zero, List.set_cons_succ]
                      refine wpAnyN_done (by kernel_rfl) ?_ _
                      go_wp2_with fail
                      go_roundw
                      case rel => exact ⟨s + 1, _, by go_num, by omega, Lib.hid (P7.out wd c0), HS7, HV7, HE6⟩
                      case measure => simp [intOf]; omega
                  · obtain rfl : s = m := by omega
                    have s1 : ¬ (s : Int) < (s : Int) := by omega
                    have HE5 := Lib.hid (show metD MP rs r T' = MT by
                      rw [← HE4.out, List.drop_of_length_le (by omega)]; rfl)
                    go_wp2_with fail
                    go_roundw
                    case rel => exact ⟨r, T', by go_num, by omega, Lib.hid HP.out.o, HS', HE5⟩
                    case measure => simp [intOf]
            · as_aux_lemma =>
                have IPf := Lib.hid (fun W => isPair_any x false W (by unfold isP; rw [hxl]; rfl))
                have HE5 := Lib.hid (show metD MP rs r T = MT by
                  rw [← HE2.out]
                  unfold metR
                  rw [if_neg (by rw [hxl]; show ¬ (1 : Nat) = 0; omega)])
                clear hxl hxa hxb hvD gv HE2
                go_wp2_with fail
                go_loopw [82] (fun s_ w' => ∃ (s : Nat), s_ = .int .i64 s ∧ s ≤ m ∧ Hid (MiY w5 w' p n n hs T M n cm mh MP X x)) (fun s_ _ => m - (intOf s_).toNat)
                case atStart => exact ⟨0, rfl, by omega, P4⟩
                case round =>
                  obtain ⟨s, rfl, hs', HP⟩ := hrel
                  clear P4 er hpl
                  by_cases hlt2 : s < m
                  · obtain ⟨bz, hbz⟩ : ∃ bz, v[s]? = some bz := ⟨_, List.getElem?_eq_getElem (by omega)⟩
                    obtain ⟨p', g', cq', hpp, _, hq', eq', hgl, eg, _⟩ := HP.out.o.t.cell2 .bool (fun _ => rfl) HGv.out hbz
                    obtain ⟨rfl, rfl⟩ : g = g' ∧ cq = cq' := by
                      have h := HQ.out.symm.trans hq'
                      injection h with h; injection h with h1 h2 h3; injection h1 with h1; injection h1 with h1
                      exact ⟨h1, h3⟩
                    have s0 : (0 : Int) ≤ (s : Int) := by omega
                    have s1 : (s : Int) < (m : Int) := by omega
                    obtain ⟨y0, y1, y2⟩ := HP.out.x.three
                    have yl := HP.out.x.lt
                    clear hpp hq' eq' hbz
                    rcases bz with _ | _
                    · go_wp2_with fail
                      go_roundw
                      case rel => exact ⟨s + 1, by go_num, by omega, HP⟩
                      case measure => simp [intOf]; omega
                    · go_wp2_with (go_at_call 33; refine (IPf.out _).mono ?_; rintro e w4 ⟨rfl, hb4⟩)
                      go_roundw
                      case rel => exact ⟨s + 1, by go_num, by omega, Lib.hid (HP.out.next hb4)⟩
                      case measure => simp [intOf]; omega
                  · obtain rfl : s = m := by omega
                    have s1 : ¬ (s : Int) < (s : Int) := by omega
                    go_wp2_with fail
                    go_roundw
                    case rel => exact ⟨r, T, by go_num, by omega, Lib.hid HP.out.o, HS, HE5⟩
                    case measure => simp [intOf]
end Go.Proofs.YtmdmgndhapdmgaaGreat


/-
  The word of a rule, and what a fold over rules says of it.
-/
namespace Go.Proofs.YtmdmgndhapdmgaaGreat

def wdF (k : Nat) : List Nat := [k]
def wdG (a b : List Nat) (_ : Fac) : List Nat := a ++ b
/-- the words of all rules, as numbers of letters -/
def wds (rs : List Fac) : List (List Nat) := full [] wdF wdG rs
/-- the word of a grammar -/
def wdN (rs : List Fac) : List Nat := if rs = [] then [] else (wds rs).getD (rs.length - 1) []
theorem wds_pos {rs : List Fac} (hwf : WF rs) {k : Nat} (hk : k < rs.length) : (wds rs).getD k [] ≠ [] := by
  refine full_ind (rs := rs) [] wdF wdG hwf (fun _ u => u ≠ []) (fun k r _ _ => by simp [wdF]) (fun k r a b _ _ _ _ _ _ h1 _ => ?_) k hk
  intro e
  simp only [wdG, List.append_eq_nil_iff] at e
  exact h1 e.1
theorem wds_let {rs : List Fac} (hwf : WF rs) {k : Nat} (hk : k < rs.length) : ∀ x ∈ (wds rs).getD k [], x < 4 := by
  refine full_ind (rs := rs) [] wdF wdG hwf (fun _ u => ∀ x ∈ u, x < 4) (fun k r _ h => by
    intro x hx
    simp only [wdF, List.mem_singleton] at hx
    subst hx
    exact letN_lt h) (fun k r a b _ _ _ _ _ _ h1 h2 => ?_) k hk
  intro x hx
  rcases List.mem_append.1 hx with h | h
  · exact h1 x h
  · exact h2 x h
section
variable {α : Type} {d : α} {F : Nat → α} {G : α → α → Fac → α}
/-- a fold that is a function of the word -/
theorem full_hom {rs : List Fac} (hwf : WF rs) (h : List Nat → α) (hF : ∀ k, k < 4 → F k = h [k]) (hG : ∀ u v r, u ≠ [] → v ≠ [] → (∀ x ∈ u, x < 4) → (∀ x ∈ v, x < 4) → G (h u) (h v) r = h (u ++ v)) :
    ∀ k, k < rs.length → (full d F G rs).getD k d = h ((wds rs).getD k []) := by
  intro k
  induction k using Nat.strongRecOn with
  | ind k ih =>
    intro hk
    have hr : rs[k]? = some rs[k] := List.getElem?_eq_getElem hk
    rcases hwf k _ hr with ⟨h0, ha0, ha1, hb0, hb1⟩ | ⟨c, hc, hl, _, _⟩
    · have e1 := full_pair (d := d) (F := F) (G := G) hwf hr h0
      have e2 := full_pair (d := []) (F := wdF) (G := wdG) hwf hr h0
      have ia := ih rs[k].a.toNat (by omega) (by omega)
      have ib := ih rs[k].b.toNat (by omega) (by omega)
      rw [e1, ia, ib]
      unfold wds at *
      rw [e2]
      exact hG _ _ _ (wds_pos hwf (by omega)) (wds_pos hwf (by omega)) (wds_let hwf (by omega)) (wds_let hwf (by omega))
    · have hz : rs[k].l.size ≠ 0 := by rw [hl]; show (1 : Nat) ≠ 0; omega
      have e1 := full_let (d := d) (F := F) (G := G) hr hz
      have e2 := full_let (d := []) (F := wdF) (G := wdG) hr hz
      have h4 : letN rs[k].l < 4 := by
        rw [hl, letN_one]
        have := letB_num hc
        omega
      rw [e1, hF _ h4]
      unfold wds
      rw [e2]; rfl
end
theorem lens_word {rs : List Fac} {ls : List Int} (h : gLens rs [] = some ls) {k : Nat} (hk : k < rs.length) : ls.getD k 0 = ((wds rs).getD k []).length := by
  have e := gLens_fold rs [] ls h
  have := full_hom (d := (0 : Int)) (F := lenF) (G := lenG) (wf_of h) (fun u => (u.length : Int)) (fun k _ => rfl) (fun u v r _ _ _ _ => by simp [lenG]) k hk
  rw [e]; exact this
theorem last_word {rs : List Fac} {ls : List Int} (h : gLens rs [] = some ls) : lastI ls = ((wdN rs).length : Int) := by
  have hl := gLens_len rs [] ls h
  simp only [List.length_nil, Nat.zero_add] at hl
  unfold wdN
  split
  · rename_i h0; subst h0
    obtain rfl : ls = [] := List.eq_nil_of_length_eq_zero hl
    rfl
  · rename_i h0
    have : 0 < rs.length := List.length_pos_iff.2 h0
    unfold lastI
    rw [hl]
    exact lens_word h (by omega)
/-- a word as a text -/
def txB (u : List Nat) : List UInt8 := u.map fun k => UInt8.ofNat (97 + k)
def tx (u : List Nat) : ByteArray := ⟨(txB u).toArray⟩
theorem tx_size (u : List Nat) : (tx u).size = u.length := by simp [tx, txB, ByteArray.size]
theorem tx_toList (u : List Nat) : (tx u).data.toList = txB u := rfl
theorem tx_let {u : List Nat} (h : ∀ x ∈ u, x < 4) : (tx u).data.toList.all letB = true := by
  rw [tx_toList, txB, List.all_map, List.all_eq_true]
  intro x hx
  have := h x hx
  simp only [Function.comp, letB]
  have e : (UInt8.ofNat (97 + x)).toNat = 97 + x := by rw [UInt8.toNat_ofNat']; omega
  simp [e]; omega
theorem wdN_let {rs : List Fac} (hwf : WF rs) : ∀ x ∈ wdN rs, x < 4 := by
  unfold wdN
  split
  · simp
  · rename_i h0
    have : 0 < rs.length := List.length_pos_iff.2 h0
    exact wds_let hwf (by omega)
end Go.Proofs.YtmdmgndhapdmgaaGreat


/-
  A grammar trimmed: it is valid where the grammar was, and its word is the grammar's.
-/
namespace Go.Proofs.YtmdmgndhapdmgaaGreat

section
variable {α : Type} (d : α) (F : Nat → α) (G : α → α → Fac → α)
theorem full_snoc (xs : List Fac) (y : Fac) : full d F G (xs ++ [y]) = full d F G xs ++ [fStep d F G (full d F G xs) y] := foldG_snoc d F G xs y []
theorem full_old (xs : List Fac) (y : Fac) {p : Nat} (h : p < xs.length) : (full d F G (xs ++ [y])).getD p d = (full d F G xs).getD p d := by
  rw [full_snoc, List.getD_eq_getElem?_getD, List.getElem?_append_left (by rw [full_len]; exact h), ← List.getD_eq_getElem?_getD]
theorem full_new (xs : List Fac) (y : Fac) : (full d F G (xs ++ [y])).getD xs.length d = fStep d F G (full d F G xs) y := by
  rw [full_snoc, List.getD_eq_getElem?_getD, List.getElem?_append_right (by rw [full_len]; exact Nat.le_refl _), full_len, Nat.sub_self]; rfl
/-- equal rules have equal values -/
theorem full_same {rs : List Fac} (hwf : WF rs) {i j : Nat} {y : Fac} (hi : rs[i]? = some y) (hj : rs[j]? = some y) : (full d F G rs).getD i d = (full d F G rs).getD j d := by
  by_cases h0 : y.l.size = 0
  · rw [full_pair d F G hwf hi h0, full_pair d F G hwf hj h0]
  · rw [full_let d F G hi h0, full_let d F G hj h0]
end

/-- what the first round leaves -/
structure TkI (rs kept : List Fac) (same : List Int) (k : Nat) : Prop where
  lk : kept.length = k
  ls : same.length = k
  r : ∀ (i : Nat) (r : Fac), i < k → rs[i]? = some r → kept[i]? = some (trR same r)
  s : ∀ i, i < k → ∃ s : Nat, same.getD i 0 = (s : Int) ∧ s ≤ i ∧ kept[s]? = kept[i]?
theorem trR_more {same : List Int} (x : Int) {r : Fac} {i : Nat} (hr : (r.l.size = 0 ∧ 0 ≤ r.a ∧ r.a < (i : Int) ∧ 0 ≤ r.b ∧ r.b < (i : Int)) ∨ (∃ c, letB c = true ∧ r.l = ⟨#[c]⟩ ∧ r.a = 0 ∧ r.b = 0)) (hi : i ≤ same.length) : trR (same ++ [x]) r = trR same r := by
  unfold trR
  rcases hr with ⟨h0, a0, a1, b0, b1⟩ | ⟨c, _, hl, _⟩
  · rw [if_pos h0, if_pos h0, getD_snoc, if_pos (by omega), getD_snoc, if_pos (by omega)]
  · rw [if_neg (by rw [hl]; show ¬ (1 : Nat) = 0; omega), if_neg (by rw [hl]; show ¬ (1 : Nat) = 0; omega)]
theorem TkI.step {rs kept : List Fac} {same : List Int} {k : Nat} (h : TkI rs kept same k) (hwf : WF rs) {r : Fac} (hr : rs[k]? = some r) : TkI rs (kept ++ [trR same r]) (same ++ [((kept.idxOf (trR same r) : Nat) : Int)]) (k + 1) := by
  have hlk := h.lk
  have hls := h.ls
  refine ⟨by simp [hlk], by simp [hls], fun i x hi hx => ?_, fun i hi => ?_⟩
  · by_cases e : i < k
    · rw [List.getElem?_append_left (by omega), h.r i x e hx, trR_more _ (hwf i x hx) (by omega)]
    · obtain rfl : i = k := by omega
      obtain rfl : r = x := by rw [hr] at hx; exact Option.some.inj hx
      rw [List.getElem?_append_right (by omega), hlk, Nat.sub_self, trR_more _ (hwf i r hr) (by omega)]; rfl
  · by_cases e : i < k
    · obtain ⟨s, h1, h2, h3⟩ := h.s i e
      refine ⟨s, ?_, h2, ?_⟩
      · rw [getD_snoc, if_pos (by omega)]; exact h1
      · rw [List.getElem?_append_left (by omega), List.getElem?_append_left (by omega)]; exact h3
    · obtain rfl : i = k := by omega
      have hle := List.idxOf_le_length (a := trR same r) (l := kept)
      refine ⟨kept.idxOf (trR same r), ?_, by omega, ?_⟩
      · rw [getD_snoc, if_neg (by omega), if_pos (by omega)]
      · by_cases e2 : kept.idxOf (trR same r) < kept.length
        · rw [List.getElem?_append_left e2, List.getElem?_append_right (by omega), hlk, Nat.sub_self, List.getElem?_eq_getElem e2, List.getElem_idxOf]; rfl
        · rw [show kept.idxOf (trR same r) = i by omega]
theorem trK_tk {rs : List Fac} (hwf : WF rs) : ∀ (n k : Nat) (kept : List Fac) (same : List Int), TkI rs kept same k → k + n = rs.length → TkI rs (trK (rs.drop k) kept same).1 (trK (rs.drop k) kept same).2 rs.length
  | 0, k, kept, same, h, hk => by
    rw [List.drop_of_length_le (by omega)]
    have : k = rs.length := by omega
    rw [← this]; exact h
  | n + 1, k, kept, same, h, hk => by
    have hr : rs[k]? = some (rs[k]'(by omega)) := List.getElem?_eq_getElem _
    rw [drop_cons hr]
    exact trK_tk hwf n (k + 1) _ _ (h.step hwf hr) (by omega)
theorem tk_all {rs : List Fac} (hwf : WF rs) : TkI rs (trK rs [] []).1 (trK rs [] []).2 rs.length ∧ WF (trK rs [] []).1 := by
  refine ⟨trK_tk hwf rs.length 0 [] [] ⟨rfl, rfl, fun i r h => absurd h (by omega), fun i h => absurd h (by omega)⟩ (by omega), ?_⟩
  exact (trK_I hwf 0 [] [] TrI.nil rfl (by omega)).1.k
section
variable {α : Type} (d : α) (F : Nat → α) (G : α → α → Fac → α) (hG : ∀ a b r r', G a b r = G a b r')
include hG
/-- the rules told by the first equal ones have the same values -/
theorem kept_val {rs kept : List Fac} {same : List Int} (hwf : WF rs) (h : TkI rs kept same rs.length) (hwk : WF kept) : ∀ i, i < rs.length → (full d F G kept).getD i d = (full d F G rs).getD i d := by
  intro i
  induction i using Nat.strongRecOn with
  | ind i ih =>
    intro hi
    have hr : rs[i]? = some (rs[i]'hi) := List.getElem?_eq_getElem _
    have hk := h.r i _ hi hr
    have val : ∀ j, j < i → (full d F G kept).getD (same.getD j 0).toNat d = (full d F G rs).getD j d := fun j hj => by
      obtain ⟨s, h1, h2, h3⟩ := h.s j (by omega)
      rw [h1, Int.toNat_natCast, ← ih j hj (by omega)]
      have hj' : kept[j]? = some (kept[j]'(by rw [h.lk]; omega)) := List.getElem?_eq_getElem _
      exact full_same d F G hwk (h3.trans hj') hj'
    rcases hwf i _ hr with ⟨h0, a0, a1, b0, b1⟩ | ⟨c, hc, hl, _⟩
    · unfold trR at hk
      rw [if_pos h0] at hk
      rw [full_pair d F G hwk hk rfl, full_pair d F G hwf hr h0]
      show G ((full d F G kept).getD (same.getD _ 0).toNat d) ((full d F G kept).getD (same.getD _ 0).toNat d) _ = _
      rw [val _ (by omega), val _ (by omega)]
      exact hG _ _ _ _
    · have h0 : (rs[i]'hi).l.size ≠ 0 := by rw [hl]; show (1 : Nat) ≠ 0; omega
      unfold trR at hk
      rw [if_neg h0] at hk
      rw [full_let d F G hk h0, full_let d F G hr h0]
end

/-- which rules are used -/
theorem useStep_len (kept : List Fac) (i : Nat) (u : List Bool) : (useStep kept i u).length = u.length := by unfold useStep; split <;> simp
theorem set_getD {u : List Bool} {i j : Nat} (hi : i < u.length) : (u.set i true).getD j false = if i = j then true else u.getD j false := by
  rw [List.getD_eq_getElem?_getD, List.getElem?_set]
  split
  · rename_i h; subst h; simp [hi]
  · rw [← List.getD_eq_getElem?_getD]
theorem useT_I {kept : List Fac} (hwk : WF kept) : ∀ (k : Nat) (u : List Bool), k ≤ kept.length → u.length = kept.length →
    (useT kept k u).length = kept.length ∧ (∀ j, k ≤ j → (useT kept k u).getD j false = u.getD j false) ∧ (∀ j, u.getD j false = true → (useT kept k u).getD j false = true) ∧
    (∀ (i : Nat) (r : Fac), i < k → kept[i]? = some r → r.l.size = 0 → (useT kept k u).getD i false = true → (useT kept k u).getD r.a.toNat false = true ∧ (useT kept k u).getD r.b.toNat false = true) ∧
    (∀ s, (∀ j, s < j → u.getD j false = false) → ∀ j, s < j → (useT kept k u).getD j false = false)
  | 0, u, _, hl => ⟨hl, fun _ _ => rfl, fun _ h => h, fun i r h => absurd h (by omega), fun s h => h⟩
  | k + 1, u, hk, hl => by
    have hr : kept[k]? = some (kept[k]'(by omega)) := List.getElem?_eq_getElem _
    have hd : kept.getD k default = kept[k]'(by omega) := by rw [List.getD_eq_getElem?_getD, hr]; rfl
    obtain ⟨i1, i2, i3, i4, i5⟩ := useT_I hwk k (useStep kept k u) (by omega) (by rw [useStep_len, hl])
    have hst : ∀ j, (useStep kept k u).getD j false = if (u.getD k false = true ∧ (kept[k]'(by omega)).l.size = 0) ∧ (j = (kept[k]'(by omega)).a.toNat ∨ j = (kept[k]'(by omega)).b.toNat) then true else u.getD j false := by
      intro j
      unfold useStep
      rw [hd]
      by_cases hc : u.getD k false = true ∧ (kept[k]'(by omega)).l.size = 0
      · rw [if_pos hc]
        rcases hwk k _ hr with ⟨_, a0, a1, b0, b1⟩ | ⟨c, _, hl', _⟩
        · rw [set_getD (by simp; omega), set_getD (by omega)]
          by_cases h1 : j = (kept[k]'(by omega)).b.toNat
          · rw [if_pos h1.symm, if_pos ⟨hc, .inr h1⟩]
          · rw [if_neg (fun e => h1 e.symm)]
            by_cases h2 : j = (kept[k]'(by omega)).a.toNat
            · rw [if_pos h2.symm, if_pos ⟨hc, .inl h2⟩]
            · rw [if_neg (fun e => h2 e.symm), if_neg (fun e => by rcases e.2 with e | e; exact h2 e; exact h1 e)]
        · have := hc.2; rw [hl'] at this; exact absurd this (show ¬ (1 : Nat) = 0 by omega)
      · rw [if_neg hc, if_neg (fun e => hc e.1)]
    have hab : (u.getD k false = true ∧ (kept[k]'(by omega)).l.size = 0) → (kept[k]'(by omega)).a.toNat < k ∧ (kept[k]'(by omega)).b.toNat < k := fun hc => by
      rcases hwk k _ hr with ⟨_, a0, a1, b0, b1⟩ | ⟨c, _, hl', _⟩
      · omega
      · have := hc.2; rw [hl'] at this; exact absurd this (show ¬ (1 : Nat) = 0 by omega)
    have keep : ∀ j, k ≤ j → (useStep kept k u).getD j false = u.getD j false := fun j hj => by
      rw [hst j, if_neg]
      rintro ⟨hc, h | h⟩
      · have := (hab hc).1; omega
      · have := (hab hc).2; omega
    refine ⟨i1, fun j hj => (i2 j (by omega)).trans (keep j (by omega)), fun j hj => i3 j (by rw [hst j]; split; rfl; exact hj), fun i r hi hir h0 hu => ?_, fun s hs j hj => ?_⟩
    · by_cases e : i < k
      · exact i4 i r e hir h0 hu
      · obtain rfl : i = k := by omega
        have hxr : kept[i]'(by omega) = r := by rw [hr] at hir; exact Option.some.inj hir
        rw [← hxr] at h0 ⊢
        have h1 : u.getD i false = true := by
          have := hu
          show _
          rw [show useT kept (i + 1) u = useT kept i (useStep kept i u) from rfl, i2 i (Nat.le_refl _), keep i (Nat.le_refl _)] at this
          exact this
        exact ⟨i3 _ (by rw [hst _, if_pos ⟨⟨h1, h0⟩, .inl rfl⟩]), i3 _ (by rw [hst _, if_pos ⟨⟨h1, h0⟩, .inr rfl⟩])⟩
    · refine i5 s (fun j' hj' => ?_) j hj
      rw [hst j']
      split
      · rename_i hc
        exfalso
        have h1 := hab hc.1
        have h2 : ¬ s < k := fun h => by have := hs k h; rw [hc.1.1] at this; cases this
        rcases hc.2 with h | h <;> omega
      · exact hs j' hj'

section
variable {α : Type} (d : α) (F : Nat → α) (G : α → α → Fac → α) (hG : ∀ a b r r', G a b r = G a b r')
/-- the rules that are left, under way -/
structure OutI (kept : List Fac) (used : List Bool) (i : Nat) (out : List Fac) (at_ : List Int) : Prop where
  wf : WF out
  la : at_.length = kept.length
  v : ∀ j, j < i → used.getD j false = true → ∃ p : Nat, at_.getD j 0 = (p : Int) ∧ p < out.length ∧ (full d F G out).getD p d = (full d F G kept).getD j d
  p : ∀ p, p < out.length → ∃ j, j < kept.length ∧ (full d F G out).getD p d = (full d F G kept).getD j d
  z : ∀ s, s < i → used.getD s false = true → (∀ j, s < j → used.getD j false = false) → 0 < out.length ∧ at_.getD s 0 = (out.length : Int) - 1
include hG
theorem outT_I {kept : List Fac} {used : List Bool} (hwk : WF kept) (hu : ∀ (i : Nat) (r : Fac), kept[i]? = some r → r.l.size = 0 → used.getD i false = true → used.getD r.a.toNat false = true ∧ used.getD r.b.toNat false = true) :
    ∀ (n i : Nat) (out : List Fac) (at_ : List Int), i + n = kept.length → OutI d F G kept used i out at_ → ∃ at2, OutI d F G kept used kept.length (outT used i (kept.drop i) out at_) at2
  | 0, i, out, at_, hi, h => by
    rw [List.drop_of_length_le (by omega)]
    have : i = kept.length := by omega
    subst this
    exact ⟨at_, h⟩
  | n + 1, i, out, at_, hi, h => by
    have hr : kept[i]? = some (kept[i]'(by omega)) := List.getElem?_eq_getElem _
    rw [drop_cons hr, outT]
    by_cases hui : used.getD i false = true
    · rw [if_pos hui]
      refine outT_I hwk hu n (i + 1) _ _ (by omega) ?_
      have hval : WF (out ++ [trR at_ (kept[i]'(by omega))]) ∧ fStep d F G (full d F G out) (trR at_ (kept[i]'(by omega))) = (full d F G kept).getD i d := by
        rcases hwk i _ hr with ⟨h0, a0, a1, b0, b1⟩ | ⟨c, hc, hl, ha, hb⟩
        · obtain ⟨ua, ub⟩ := hu i _ hr h0 hui
          obtain ⟨p, p1, p2, p3⟩ := h.v _ (by omega) ua
          obtain ⟨q, q1, q2, q3⟩ := h.v _ (by omega) ub
          have e : trR at_ (kept[i]'(by omega)) = ⟨⟨#[]⟩, (p : Int), (q : Int)⟩ := by unfold trR; rw [if_pos h0, p1, q1]
          rw [e]
          refine ⟨wf_snoc h.wf ⟨by omega, by omega⟩ ⟨by omega, by omega⟩, ?_⟩
          rw [full_pair d F G hwk hr h0, ← p3, ← q3]
          show (if (0 : Nat) = 0 then G ((full d F G out).getD (p : Int).toNat d) ((full d F G out).getD (q : Int).toNat d) _ else _) = _
          rw [if_pos rfl, Int.toNat_natCast, Int.toNat_natCast]
          exact hG _ _ _ _
        · have h0 : (kept[i]'(by omega)).l.size ≠ 0 := by rw [hl]; show (1 : Nat) ≠ 0; omega
          have e : trR at_ (kept[i]'(by omega)) = kept[i]'(by omega) := by unfold trR; rw [if_neg h0]
          rw [e, full_let d F G hr h0]
          refine ⟨fun k r hk => ?_, by unfold fStep; rw [if_neg h0]⟩
          by_cases hlt : k < out.length
          · rw [List.getElem?_append_left hlt] at hk; exact h.wf k r hk
          · rw [List.getElem?_append_right (by omega)] at hk
            have : r = kept[i]'(by omega) := by
              have h2 := (List.getElem?_eq_some_iff.1 hk).1
              simp only [List.length_cons, List.length_nil] at h2
              rw [show k - out.length = 0 by omega] at hk
              exact (Option.some.inj hk).symm
            subst this
            exact .inr ⟨c, hc, hl, ha, hb⟩
      refine ⟨hval.1, by simp [h.la], fun j hj hj2 => ?_, fun p hp => ?_, fun s hs hs2 hs3 => ?_⟩
      · by_cases e : j = i
        · subst e
          refine ⟨out.length, ?_, by simp, ?_⟩
          · rw [List.getD_eq_getElem?_getD, List.getElem?_set_self (by rw [h.la]; omega)]; rfl
          · rw [full_new, hval.2]
        · obtain ⟨p, p1, p2, p3⟩ := h.v j (by omega) hj2
          refine ⟨p, ?_, by simp; omega, ?_⟩
          · rw [List.getD_eq_getElem?_getD, List.getElem?_set_ne (fun e' => e e'.symm), ← List.getD_eq_getElem?_getD]; exact p1
          · rw [full_old d F G _ _ p2]; exact p3
      · simp only [List.length_append, List.length_singleton] at hp
        by_cases e : p < out.length
        · obtain ⟨j, j1, j2⟩ := h.p p e
          exact ⟨j, j1, by rw [full_old d F G _ _ e]; exact j2⟩
        · obtain rfl : p = out.length := by omega
          exact ⟨i, by omega, by rw [full_new, hval.2]⟩
      · by_cases e : s = i
        · subst e
          refine ⟨by simp, ?_⟩
          rw [List.getD_eq_getElem?_getD, List.getElem?_set_self (by rw [h.la]; omega)]
          simp
        · exfalso
          have := hs3 i (by omega)
          rw [hui] at this; cases this
    · rw [if_neg hui]
      refine outT_I hwk hu n (i + 1) _ _ (by omega) ⟨h.wf, h.la, fun j hj hj2 => ?_, h.p, fun s hs hs2 hs3 => ?_⟩
      · by_cases e : j = i
        · subst e; exact absurd hj2 hui
        · exact h.v j (by omega) hj2
      · by_cases e : s = i
        · subst e; exact absurd hs2 hui
        · exact h.z s (by omega) hs2 hs3
/-- the last value, and where each value comes from -/
theorem trim_val {rs : List Fac} (hwf : WF rs) (h0 : 0 < rs.length) : WF (trimL rs) ∧ 0 < (trimL rs).length ∧ (full d F G (trimL rs)).getD ((trimL rs).length - 1) d = (full d F G rs).getD (rs.length - 1) d ∧
    ∀ p, p < (trimL rs).length → ∃ j, j < rs.length ∧ (full d F G (trimL rs)).getD p d = (full d F G rs).getD j d := by
  obtain ⟨hT, hwk⟩ := tk_all hwf
  have hkv := kept_val d F G hG hwf hT hwk
  have htr : trimL rs = outT (useT (trK rs [] []).1 rs.length (use0 rs.length (trK rs [] []).2)) 0 (trK rs [] []).1 [] (List.replicate rs.length 0) := by unfold trimL; rw [if_neg (by omega)]
  rw [htr]
  generalize (trK rs [] []).1 = kept at *
  generalize (trK rs [] []).2 = same at *
  obtain ⟨s, h1, h2, h3⟩ := hT.s (rs.length - 1) (by omega)
  have hlk := hT.lk
  have hu0 : ∀ j, (use0 rs.length same).getD j false = decide (j = s) := fun j => by
    unfold use0
    rw [h1, Int.toNat_natCast, set_getD (by simp; omega)]
    by_cases e : s = j
    · rw [if_pos e]; simp [e]
    · rw [if_neg e, List.getD_eq_getElem?_getD, List.getElem?_replicate]
      have : decide (j = s) = false := by simp; exact fun h => e h.symm
      rw [this]; split <;> rfl
  obtain ⟨u1, u2, u3, u4, u5⟩ := useT_I hwk rs.length (use0 rs.length same) (by omega) (by unfold use0; simp [hlk])
  have hus : (useT kept rs.length (use0 rs.length same)).getD s false = true := u3 s (by rw [hu0]; simp)
  have hul : ∀ j, s < j → (useT kept rs.length (use0 rs.length same)).getD j false = false := u5 s (fun j hj => by rw [hu0]; simp; omega)
  obtain ⟨at2, hO⟩ := outT_I d F G hG hwk (fun i r hi h0 hu => u4 i r (by have := (List.getElem?_eq_some_iff.1 hi).1; omega) hi h0 hu) kept.length 0 [] (List.replicate rs.length 0) (by omega)
    ⟨wf_nil, by simp [hlk], fun j hj => absurd hj (by omega), fun p hp => absurd hp (by simp), fun s hs => absurd hs (by omega)⟩
  rw [List.drop_zero] at hO
  obtain ⟨z1, z2⟩ := hO.z s (by omega) hus hul
  obtain ⟨p, p1, p2, p3⟩ := hO.v s (by omega) hus
  refine ⟨hO.wf, z1, ?_, fun p hp => ?_⟩
  · have : p = (outT (useT kept rs.length (use0 rs.length same)) 0 kept [] (List.replicate rs.length 0)).length - 1 := by omega
    rw [← this, p3, hkv s (by omega), ← hkv (rs.length - 1) (by omega), ← hkv s (by omega)]
    have hj' : kept[rs.length - 1]? = some (kept[rs.length - 1]'(by omega)) := List.getElem?_eq_getElem _
    exact full_same d F G hwk (h3.trans hj') hj'
  · obtain ⟨j, j1, j2⟩ := hO.p p hp
    exact ⟨j, by omega, by rw [j2]; exact hkv j (by omega)⟩
end

/-- a grammar whose lengths are not too great is valid -/
theorem gLens_of {rs : List Fac} (hwf : WF rs) (hb : ∀ k, k < rs.length → (full 0 lenF lenG rs).getD k 0 ≤ 1000000000000000) : ∀ (n k : Nat), k + n = rs.length → (gLens (rs.drop k) (outs 0 lenF lenG rs k)).isSome = true
  | 0, k, hk => by rw [List.drop_of_length_le (by omega)]; rfl
  | n + 1, k, hk => by
    have hr : rs[k]? = some (rs[k]'(by omega)) := List.getElem?_eq_getElem _
    rw [drop_cons hr]
    have hol : (outs 0 lenF lenG rs k).length = k := outs_len 0 lenF lenG rs k (by omega)
    have hst : gStep (outs 0 lenF lenG rs k) (rs[k]'(by omega)) = some (fStep 0 lenF lenG (outs 0 lenF lenG rs k) (rs[k]'(by omega))) := by
      have hv := hb k (by omega)
      rw [full_at 0 lenF lenG hr] at hv
      unfold gStep
      unfold fStep at hv ⊢
      rcases hwf k _ hr with ⟨h0, a0, a1, b0, b1⟩ | ⟨c, hc, hl, ha, hb'⟩
      · rw [if_pos h0] at hv ⊢
        rw [if_pos h0, if_pos ⟨a0, by omega, b0, by omega, hv⟩]; rfl
      · have h0 : (rs[k]'(by omega)).l.size ≠ 0 := by rw [hl]; show (1 : Nat) ≠ 0; omega
        rw [if_neg h0, if_neg h0, if_pos ⟨by rw [hl]; exact hc, ha, hb'⟩]; rfl
    unfold gLens
    rw [hst]
    show (gLens (rs.drop (k + 1)) (outs 0 lenF lenG rs k ++ [fStep 0 lenF lenG (outs 0 lenF lenG rs k) (rs[k]'(by omega))])).isSome = true
    rw [← outs_step 0 lenF lenG hr]
    exact gLens_of hwf hb n (k + 1) (by omega)
/-- a trimmed grammar is valid, if it has not too many rules -/
theorem trim_ok {rs : List Fac} (hwf : WF rs) (hb : ∀ k, k < rs.length → (full 0 lenF lenG rs).getD k 0 ≤ 1000000000000000) (hn : (trimL rs).length ≤ 400) : (gOk (trimL rs)).isSome = true := by
  unfold gOk
  rw [if_neg (by omega)]
  by_cases h0 : rs.length = 0
  · have : trimL rs = [] := by unfold trimL; rw [if_pos h0]
    rw [this]; rfl
  · obtain ⟨h1, h2, _, h4⟩ := trim_val 0 lenF lenG (fun _ _ _ _ => rfl) hwf (by omega)
    have := gLens_of h1 (fun k hk => by obtain ⟨j, j1, j2⟩ := h4 k hk; rw [j2]; exact hb j j1) (trimL rs).length 0 (by omega)
    simpa [outs, foldG] using this
end Go.Proofs.YtmdmgndhapdmgaaGreat


/-
  The word of a grammar whose letters are replaced.
-/
namespace Go.Proofs.YtmdmgndhapdmgaaGreat

theorem full_pre {α : Type} (d : α) (F : Nat → α) (G : α → α → Fac → α) : ∀ (ys xs : List Fac) {p : Nat}, p < xs.length → (full d F G (xs ++ ys)).getD p d = (full d F G xs).getD p d
  | [], xs, p, _ => by rw [List.append_nil]
  | y :: ys, xs, p, h => by
    rw [show xs ++ y :: ys = (xs ++ [y]) ++ ys by simp, full_pre d F G ys (xs ++ [y]) (by simp; omega), full_old d F G xs y h]
theorem wds_pre (xs ys : List Fac) {p : Nat} (h : p < xs.length) : (wds (xs ++ ys)).getD p [] = (wds xs).getD p [] := full_pre [] wdF wdG ys xs h
theorem wds_take {rs : List Fac} {n p : Nat} (h : p < n) (hn : n ≤ rs.length) : (wds (rs.take n)).getD p [] = (wds rs).getD p [] := by
  have := wds_pre (rs.take n) (rs.drop n) (p := p) (by rw [List.length_take]; omega)
  rw [List.take_append_drop] at this
  exact this.symm
theorem wds_pair {rs : List Fac} (hwf : WF rs) {k : Nat} {r : Fac} (h : rs[k]? = some r) (h0 : r.l.size = 0) : (wds rs).getD k [] = (wds rs).getD r.a.toNat [] ++ (wds rs).getD r.b.toNat [] := full_pair [] wdF wdG hwf h h0
theorem wds_one {rs : List Fac} {k : Nat} {r : Fac} (h : rs[k]? = some r) {c : UInt8} (hl : r.l = ⟨#[c]⟩) : (wds rs).getD k [] = [c.toNat - 97] := by
  have := full_let [] wdF wdG h (by rw [hl]; show (1 : Nat) ≠ 0; omega)
  rw [hl] at this
  exact this
theorem wds_snoc {rs : List Fac} {a b : Int} (ha : 0 ≤ a ∧ a < rs.length) (hb : 0 ≤ b ∧ b < rs.length) (hwf : WF rs) : (wds (rs ++ [⟨⟨#[]⟩, a, b⟩])).getD rs.length [] = (wds rs).getD a.toNat [] ++ (wds rs).getD b.toNat [] := by
  have hr : (rs ++ [(⟨⟨#[]⟩, a, b⟩ : Fac)])[rs.length]? = some ⟨⟨#[]⟩, a, b⟩ := by simp
  rw [wds_pair (wf_snoc hwf ha hb) hr rfl, wds_pre _ _ (show a.toNat < rs.length by have := ha.1; have := ha.2; omega), wds_pre _ _ (show b.toNat < rs.length by have := hb.1; have := hb.2; omega)]
/-- rules that are raised -/
theorem wds_raise {xs ys : List Fac} (hx : WF xs) (hy : WF ys) : ∀ j, j < ys.length → (wds (xs ++ raiseL xs.length ys)).getD (xs.length + j) [] = (wds ys).getD j [] := by
  intro j
  induction j using Nat.strongRecOn with
  | ind j ih =>
    intro hj
    have hr : ys[j]? = some ys[j] := List.getElem?_eq_getElem hj
    have hz : (xs ++ raiseL xs.length ys)[xs.length + j]? = some (rsF xs.length ys[j]) := by
      rw [List.getElem?_append_right (by omega), Nat.add_sub_cancel_left]
      unfold raiseL
      rw [List.getElem?_map, hr]; rfl
    rcases hy j _ hr with ⟨h0, a0, a1, b0, b1⟩ | ⟨c, hc, hl, _, _⟩
    · have e : rsF xs.length ys[j] = ⟨ys[j].l, ys[j].a + xs.length, ys[j].b + xs.length⟩ := by unfold rsF; rw [if_pos h0]
      rw [e] at hz
      rw [wds_pair (wf_raise hx hy) hz h0, wds_pair hy hr h0]
      simp only
      rw [show (ys[j].a + (xs.length : Int)).toNat = xs.length + ys[j].a.toNat by omega, show (ys[j].b + (xs.length : Int)).toNat = xs.length + ys[j].b.toNat by omega, ih _ (by omega) (by omega), ih _ (by omega) (by omega)]
    · have e : rsF xs.length ys[j] = ys[j] := by unfold rsF; rw [if_neg (by rw [hl]; show ¬ (1 : Nat) = 0; omega)]
      rw [e] at hz
      rw [wds_one hz hl, wds_one hr hl]
def numC (c : UInt8) : Nat := c.toNat - 97
def nums (s : ByteArray) : List Nat := s.data.toList.map numC
theorem wds_pairs (w : List UInt8) : ∀ (cs : List UInt8) (b : Int) (xs : List Fac) (u : List Nat), WF xs → (∀ c ∈ cs, 0 ≤ atP w c ∧ atP w c < xs.length ∧ (wds xs).getD (atP w c).toNat [] = [numC c]) → 0 ≤ b → b < xs.length → (wds xs).getD b.toNat [] = u →
    (wds (xs ++ pairsP w cs b xs.length)).getD (if cs = [] then b.toNat else xs.length + cs.length - 1) [] = u ++ cs.map numC
  | [], b, xs, u, _, _, _, _, hu => by
    rw [show pairsP w [] b xs.length = [] from rfl, List.append_nil, if_pos rfl, hu]; simp
  | c :: cs, b, xs, u, hw, hc, b0, b1, hu => by
    have hcc := hc c (by simp)
    have hw2 := wf_snoc hw (a := b) (b := atP w c) ⟨b0, b1⟩ ⟨hcc.1, hcc.2.1⟩
    have hv := wds_snoc (rs := xs) (a := b) (b := atP w c) ⟨b0, b1⟩ ⟨hcc.1, hcc.2.1⟩ hw
    rw [hu, hcc.2.2] at hv
    have ih := wds_pairs w cs (xs.length : Int) (xs ++ [⟨⟨#[]⟩, b, atP w c⟩]) (u ++ [numC c]) hw2 (fun c' hc' => by
      have := hc c' (by simp [hc'])
      exact ⟨this.1, by simp; omega, by rw [wds_pre _ _ (by omega)]; exact this.2.2⟩) (by omega) (by simp; omega) (by rw [Int.toNat_natCast]; exact hv)
    simp only [List.length_append, List.length_singleton, List.append_assoc, List.singleton_append] at ih
    rw [if_neg (by simp)]
    show (wds (xs ++ ⟨⟨#[]⟩, b, atP w c⟩ :: pairsP w cs xs.length (xs.length + 1))).getD _ [] = _
    by_cases h : cs = []
    · subst h
      simp only [pairsP, if_true, Int.toNat_natCast, List.map_nil, List.append_nil, List.length_singleton, List.map_cons] at ih ⊢
      simpa using ih
    · rw [if_neg h] at ih
      rw [show xs.length + (c :: cs).length - 1 = xs.length + 1 + cs.length - 1 by simp only [List.length_cons]; omega, ih]
      simp
theorem plain_word {w : List UInt8} (hl : w.all letB = true) (h0 : w ≠ []) : (wds (plainL w)).getD ((plainL w).length - 1) [] = w.map numC := by
  unfold plainL
  split
  · exact absurd rfl h0
  · rename_i c cs
    have hm : ∀ c' ∈ c :: cs, letB c' = true := by simpa using hl
    have hlen : (lettersP (c :: cs)).length = (ksP (c :: cs)).length := by simp [lettersP]
    rw [← hlen]
    have hat : ∀ c' ∈ c :: cs, 0 ≤ atP (c :: cs) c' ∧ atP (c :: cs) c' < (lettersP (c :: cs)).length ∧ (wds (lettersP (c :: cs))).getD (atP (c :: cs) c').toNat [] = [numC c'] := fun c' hc' => by
      have h1 := atP_lt hc' (hm c' hc')
      refine ⟨h1.1, by rw [hlen]; exact h1.2, ?_⟩
      refine wds_one (r := ruleC c') (c := c') ?_ rfl
      unfold lettersP atP
      rw [Int.toNat_natCast, List.getElem?_map]
      have hi := mem_ks hc' (hm c' hc')
      rw [List.getElem?_eq_getElem (List.idxOf_lt_length_of_mem hi), List.getElem_idxOf]; rfl
    have := wds_pairs (c :: cs) cs (atP (c :: cs) c) (lettersP (c :: cs)) [numC c] (wf_letters _ fun _ h => ks_letB h) (fun c' hc' => hat c' (by simp [hc'])) (hat c (by simp)).1 (hat c (by simp)).2.1 (hat c (by simp)).2.2
    rw [List.length_append, pairsP_len]
    by_cases h : cs = []
    · subst h
      simp only [if_true, List.map_nil, List.append_nil, List.length_nil, Nat.add_zero, List.map_cons] at this ⊢
      have e : (lettersP [c]).length - 1 = (atP [c] c).toNat := by
        have h1 := hat c (by simp)
        have h2 : (lettersP [c]).length ≤ 1 := by
          rw [hlen]
          unfold ksP
          have : ∀ l : List UInt8, l.Nodup → (l.filter fun x => decide (x ∈ [c])).length ≤ 1 := fun l hl => by
            have : (l.filter fun x => decide (x ∈ [c])) = l.filter (fun x => x == c) := by
              apply List.filter_congr
              intro x _
              rw [Bool.eq_iff_iff]; simp
            rw [this, ← List.countP_eq_length_filter]
            have := List.nodup_iff_count.1 hl c
            exact this
          exact this _ (by decide)
        omega
      rw [e]; exact this
    · rw [if_neg h] at this
      rw [this]; simp
/-- the word with its letters replaced -/
def mapW (ws : List ByteArray) (u : List Nat) : List Nat := u.flatMap fun k => nums (ws.getD k ⟨#[]⟩)
theorem mapW_app (ws : List ByteArray) (u v : List Nat) : mapW ws (u ++ v) = mapW ws u ++ mapW ws v := by simp [mapW]
/-- what the letters' rules hold -/
structure MlW (rs : List Fac) (ws : List ByteArray) (s : List Fac × List Int) (k : Nat) : Prop where
  hi : ∀ i, k ≤ i → i < 4 → s.2.getD i 0 = -1
  lo : ∀ i, i < k → (s.2.getD i 0 < 0 → nums (ws.getD i ⟨#[]⟩) = [] ∨ usedL rs (lb i) = false) ∧ (0 ≤ s.2.getD i 0 → (wds s.1).getD (s.2.getD i 0).toNat [] = nums (ws.getD i ⟨#[]⟩) ∧ nums (ws.getD i ⟨#[]⟩) ≠ [])
theorem nums_nil {s : ByteArray} : nums s = [] ↔ s.size = 0 := by
  unfold nums
  rw [List.map_eq_nil_iff, ← byte_len, List.length_eq_zero_iff]
theorem MlW.step {rs : List Fac} {ws : List ByteArray} {s : List Fac × List Int} {k : Nat} (h : MlW rs ws s k) (hI : MlI s k) (hk : k < 4) {w : ByteArray} (hw : okW w = true) (he : ws.getD k ⟨#[]⟩ = w) : MlW rs ws (mlStep rs k w s) (k + 1) := by
  unfold mlStep
  split
  · rename_i hc
    obtain ⟨hl, hsz⟩ := okW_let hw
    have hne : w.data.toList ≠ [] := fun e => hc.1 (by rw [← byte_len, e]; rfl)
    have h2 := plainL_pos hne hl
    have hset : ∀ (v : Int) (i : Nat), (s.2.set k v).getD i 0 = if i = k then v else s.2.getD i 0 := fun v i => by
      rw [List.getD_eq_getElem?_getD, List.getElem?_set]
      by_cases e : k = i
      · subst e; rw [if_pos rfl, if_pos (by rw [hI.st]; exact hk), if_pos rfl]; rfl
      · rw [if_neg e, if_neg (fun q => e q.symm), ← List.getD_eq_getElem?_getD]
    refine ⟨fun i h1 h4 => ?_, fun i hi => ?_⟩
    · simp only
      rw [hset, if_neg (by omega)]; exact h.hi i (by omega) h4
    · simp only
      rw [hset]
      by_cases e : i = k
      · subst e
        rw [if_pos rfl, he]
        refine ⟨fun q => by omega, fun _ => ⟨?_, fun q => hc.1 (nums_nil.1 q)⟩⟩
        have e1 : ((((s.1.length + (plainL w.data.toList).length : Nat) : Int) - 1).toNat) = s.1.length + ((plainL w.data.toList).length - 1) := by omega
        rw [e1, wds_raise hI.wf (wf_plain hl) _ (by omega), plain_word hl hne]; rfl
      · rw [if_neg e]
        have := h.lo i (by omega)
        refine ⟨this.1, fun q => ?_⟩
        have hb := hI.b i (by omega)
        rw [wds_pre _ _ (by omega)]
        exact this.2 q
  · rename_i hc
    refine ⟨fun i h1 h4 => h.hi i (by omega) h4, fun i hi => ?_⟩
    by_cases e : i = k
    · subst e
      rw [he]
      have h1 := h.hi i (Nat.le_refl _) hk
      refine ⟨fun _ => ?_, fun q => by omega⟩
      by_cases h0 : w.size = 0
      · exact .inl (nums_nil.2 h0)
      · right
        cases hu : usedL rs (lb i) with
        | false => rfl
        | true => exact absurd ⟨h0, hu⟩ hc
    · exact h.lo i (by omega)
theorem MlW.nil (rs : List Fac) (ws : List ByteArray) : MlW rs ws ([], [-1, -1, -1, -1]) 0 := ⟨fun i _ hi => by
  rcases i with _ | _ | _ | _ | i
  · decide
  · decide
  · decide
  · decide
  · omega, fun i hi => by omega⟩
/-- what the rules that stand for others hold -/
def MrW (rs : List Fac) (ws : List ByteArray) (s : List Fac × List Int) (k : Nat) : Prop :=
  ∀ i, i < k → (s.2.getD i 0 < 0 → mapW ws ((wds rs).getD i []) = []) ∧ (0 ≤ s.2.getD i 0 → (wds s.1).getD (s.2.getD i 0).toNat [] = mapW ws ((wds rs).getD i []))
theorem MrW.step {rs : List Fac} {ws : List ByteArray} {st : List Int} {s0 s : List Fac × List Int} {n k : Nat} (hwf : WF rs) (h : MrW rs ws s k) (hI : MrI s n k) (hst : s0.2 = st) (hw : MlW rs ws s0 4) (hb : ∀ i, i < 4 → -1 ≤ st.getD i 0 ∧ st.getD i 0 < s0.1.length)
    (hpre : ∃ e, s.1 = s0.1 ++ e) {r : Fac} (hr : rs[k]? = some r) : MrW rs ws (mrStep st r s) (k + 1) ∧ ∃ e, (mrStep st r s).1 = s0.1 ++ e := by
  obtain ⟨e, he⟩ := hpre
  have old : ∀ (out : List Fac) (x : Int), (∃ q, out = s.1 ++ q) → ((x < 0 → mapW ws ((wds rs).getD k []) = []) ∧ (0 ≤ x → (wds out).getD x.toNat [] = mapW ws ((wds rs).getD k []))) → MrW rs ws (out, s.2 ++ [x]) (k + 1) := by
    intro out x ⟨q, hq⟩ hx i hi
    simp only
    rw [getD_snoc, hI.st]
    by_cases hik : i < k
    · rw [if_pos hik]
      have := h i hik
      refine ⟨this.1, fun q0 => ?_⟩
      have hbb := hI.b i hik
      rw [hq, wds_pre _ _ (by omega)]
      exact this.2 q0
    · obtain rfl : i = k := by omega
      rw [if_neg hik, if_pos rfl]
      exact hx
  unfold mrStep
  rcases hwf k r hr with ⟨h0, a0, a1, b0, b1⟩ | ⟨c, hc, hl, _, _⟩
  · rw [if_pos h0]
    have hwk := wds_pair hwf hr h0
    have hA := hI.b r.a.toNat (by omega)
    have hB := hI.b r.b.toNat (by omega)
    have wA := h r.a.toNat (by omega)
    have wB := h r.b.toNat (by omega)
    split
    · rename_i hn
      refine ⟨old _ _ ⟨[], by simp⟩ ?_, e, he⟩
      rw [hwk, mapW_app, wA.1 hn, List.nil_append]
      exact wB
    · split
      · rename_i hn1 hn
        refine ⟨old _ _ ⟨[], by simp⟩ ?_, e, he⟩
        rw [hwk, mapW_app, wB.1 hn, List.append_nil]
        exact wA
      · rename_i h1 h2
        refine ⟨old _ _ ⟨_, rfl⟩ ⟨fun q => by omega, fun _ => ?_⟩, e ++ [⟨⟨#[]⟩, s.2.getD r.a.toNat 0, s.2.getD r.b.toNat 0⟩], by rw [he, List.append_assoc]⟩
        rw [Int.toNat_natCast, wds_snoc ⟨by omega, hA.2⟩ ⟨by omega, hB.2⟩ hI.wf, wA.2 (by omega), wB.2 (by omega), hwk, mapW_app]
  · rw [if_neg (by rw [hl]; show ¬ (1 : Nat) = 0; omega)]
    refine ⟨old _ _ ⟨[], by simp⟩ ?_, e, he⟩
    have hq : letN r.l < 4 := by rw [hl]; exact letN_lt (s := ⟨#[c]⟩) hc
    have hwk : (wds rs).getD k [] = [letN r.l] := by rw [wds_one hr hl, hl]; rfl
    have hu : usedL rs (lb (letN r.l)) = true := by
      unfold usedL
      rw [List.any_eq_true]
      refine ⟨r, List.mem_of_getElem? hr, ?_⟩
      rw [decide_eq_true_eq, hl]
      congr 1
      have hn := letB_num hc
      have : lb (letN ⟨#[c]⟩) = c := by
        rw [← UInt8.toNat_inj, letN_one]
        unfold lb
        rw [UInt8.toNat_ofNat']; omega
      rw [this]
    have hlo := hw.lo (letN r.l) hq
    rw [hst] at hlo
    rw [hwk]
    have hmw : mapW ws [letN r.l] = nums (ws.getD (letN r.l) ⟨#[]⟩) := by simp [mapW]
    rw [hmw]
    refine ⟨fun q => ?_, fun q => ?_⟩
    · rcases hlo.1 q with q1 | q1
      · exact q1
      · rw [hu] at q1; cases q1
    · have := hb (letN r.l) hq
      rw [he, wds_pre _ _ (by omega)]
      exact (hlo.2 q).1
end Go.Proofs.YtmdmgndhapdmgaaGreat


/-
  The word of a grammar whose letters are replaced: the law; grammars of few rules are valid.
-/
namespace Go.Proofs.YtmdmgndhapdmgaaGreat

theorem trimL_most (rs : List Fac) : (trimL rs).length ≤ rs.length := by
  unfold trimL
  split
  · simp
  · have h1 := outT_len (useT (trK rs [] []).1 rs.length (use0 rs.length (trK rs [] []).2)) (trK rs [] []).1 0 [] (List.replicate rs.length 0)
    have h2 := trK_len rs [] []
    simp only [List.length_nil, Nat.zero_add] at h1 h2
    omega
/-- a rule's word is at most twice as long as the longest before it -/
theorem wds_pow {rs : List Fac} (hwf : WF rs) : ∀ k, k < rs.length → ((wds rs).getD k []).length ≤ 2 ^ k := by
  intro k
  induction k using Nat.strongRecOn with
  | ind k ih =>
    intro hk
    have hr : rs[k]? = some rs[k] := List.getElem?_eq_getElem hk
    rcases hwf k _ hr with ⟨h0, a0, a1, b0, b1⟩ | ⟨c, _, hl, _, _⟩
    · rw [wds_pair hwf hr h0, List.length_append]
      have e1 := ih rs[k].a.toNat (by omega) (by omega)
      have e2 := ih rs[k].b.toNat (by omega) (by omega)
      obtain ⟨m, rfl⟩ : ∃ m, k = m + 1 := ⟨k - 1, by omega⟩
      have p1 : 2 ^ rs[m + 1].a.toNat ≤ 2 ^ m := Nat.pow_le_pow_right (by omega) (by omega)
      have p2 : 2 ^ rs[m + 1].b.toNat ≤ 2 ^ m := Nat.pow_le_pow_right (by omega) (by omega)
      rw [Nat.pow_succ]; omega
    · rw [wds_one hr hl]
      exact Nat.one_le_two_pow
theorem wds_lens {rs : List Fac} (hwf : WF rs) {k : Nat} (hk : k < rs.length) : (full 0 lenF lenG rs).getD k 0 = (((wds rs).getD k []).length : Int) :=
  full_hom (d := (0 : Int)) (F := lenF) (G := lenG) hwf (fun u => (u.length : Int)) (fun k _ => rfl) (fun u v r _ _ _ _ => by simp [lenG]) k hk
theorem ok_of {rs : List Fac} (hwf : WF rs) (hn : rs.length ≤ 400) (hb : ∀ k, k < rs.length → ((wds rs).getD k []).length ≤ 1000000000000000) : (gOk rs).isSome = true := by
  unfold gOk
  rw [if_neg (by omega)]
  exact gLens_of hwf (fun k hk => by rw [wds_lens hwf hk]; have := hb k hk; omega) rs.length 0 (by omega)
theorem small_ok {rs : List Fac} (hwf : WF rs) (hn : rs.length ≤ 49) : (gOk rs).isSome = true :=
  ok_of hwf (by omega) fun k hk => by
    have h1 := wds_pow hwf k hk
    have h2 : 2 ^ k ≤ 2 ^ 48 := Nat.pow_le_pow_right (by omega) (by omega)
    have h3 : (2 : Nat) ^ 48 ≤ 1000000000000000 := by decide
    omega
theorem trim_word {rs : List Fac} (hwf : WF rs) (h0 : 0 < rs.length) : WF (trimL rs) ∧ 0 < (trimL rs).length ∧ (trimL rs).length ≤ rs.length ∧ wdN (trimL rs) = wdN rs := by
  obtain ⟨h1, h2, h3, _⟩ := trim_val [] wdF wdG (fun _ _ _ _ => rfl) hwf h0
  have h4 : (trimL rs).length ≤ rs.length := trimL_most rs
  refine ⟨h1, h2, h4, ?_⟩
  unfold wdN
  rw [if_neg (by intro e; rw [e] at h2; simp at h2), if_neg (by intro e; rw [e] at h0; simp at h0)]
  exact h3
end Go.Proofs.YtmdmgndhapdmgaaGreat
