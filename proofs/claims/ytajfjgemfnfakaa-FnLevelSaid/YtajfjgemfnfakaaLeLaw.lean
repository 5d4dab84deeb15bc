/-
  The statement FnLevel: for all bytes, the level grammar of a word is level, has the word, and is as deep as its length allows at most. No condition.
-/
import Derived.Test.YtajfjgemfnfakaaP8

namespace Go.Proofs.Ytajfjgemfnfakaa
open Go.ChangeShapes Go.WideShapes Go.ChangeAt Go.RowKit

theorem levC_or {rs : List Fac} (h : (gOk rs).isSome = true) : levC rs = 0 ∨ levC rs = 3 := by
  unfold levC lvE
  rw [if_pos h]
  split <;> simp
theorem plnF_ok (s : ByteArray) : (gOk (plnF s)).isSome = true := by
  unfold plnF limF
  split
  · split
    · assumption
    · rfl
  · rfl
set_option maxHeartbeats 16000000 in
set_option maxRecDepth 100000 in
theorem walkLe (A : Option Addr) (n c : Nat) (zs : List Int) (D : Option Addr) (m d : Nat) (ys : List Int) (w : World)
    (hn : n ≤ maxLen) (hx : Rd w w.heap.size A n 1 (fun z => [.int .u8 z]) zs) (ox : ∀ z ∈ zs, 0 ≤ z ∧ z < 256) (hm : m ≤ maxLen) (hy : Rd w w.heap.size D m 1 (fun z => [.int .u8 z]) ys) (oy : ∀ z ∈ ys, 0 ≤ z ∧ z < 256) :
    Calls Try.prog 3 #[.slice A n c, .slice D m d] w (Ret (.bool true) w) := by
  by_cases h1 : 4096 < n
  · have h1' := Lib.hid (decide_eq_true h1)
    go_enter Try.func3, Try.ntmps3
    go_wp2_with fail
    refine (f6big_any A n c w hn true h1'.out).mono ?_
    rintro e w1 ⟨rfl, hb1⟩
    go_wp2_with fail
    go_ret
    exact ⟨rfl, hb1⟩
  by_cases h2 : 4096 < m
  · have h1' := Lib.hid (decide_eq_false h1)
    have h2' := Lib.hid (decide_eq_true h2)
    go_enter Try.func3, Try.ntmps3
    go_wp2_with fail
    refine (f6big_any A n c w hn false h1'.out).mono ?_
    rintro e w1 ⟨rfl, hb1⟩
    go_wp2_with fail
    refine (f6big_any D m d w1 hm true h2'.out).mono ?_
    rintro e w2 ⟨rfl, hb2⟩
    go_wp2_with fail
    go_ret
    exact ⟨rfl, hb1.trans (hb2.mono hb1.size)⟩
  have h1' := Lib.hid (decide_eq_false h1)
  have h2' := Lib.hid (decide_eq_false h2)
  have hbs := Lib.hid (hx.bytes ox)
  have hds := Lib.hid (hy.bytes oy)
  clear hx hy ox oy
  have hn4 : n ≤ 4096 := by omega
  have hm4 : m ≤ 4096 := by omega
  go_enter Try.func3, Try.ntmps3
  go_wp2_with fail
  refine (f6big_any A n c w hn false h1'.out).mono ?_
  rintro e w1 ⟨rfl, hb1⟩
  go_wp2_with fail
  refine (f6big_any D m d w1 hm false h2'.out).mono ?_
  rintro e w2 ⟨rfl, hb2⟩
  have b2 := Lib.hid (hb1.trans (hb2.mono hb1.size))
  clear hb1 hb2 h1 h2
  go_wp2_with fail
  refine (p6Huge_any A n c _ w2 (by omega) (hbs.out.next b2.out)).mono ?_
  rintro e w3 ⟨A3, c3, rs, rfl, gi, hu, hb3⟩
  have b3 := Lib.hid (b2.out.trans (hb3.mono b2.out.size))
  have R3 := Lib.hid (Rd.of_own (fun x _ => fac_len x) rfl gi.own)
  have hgo := Lib.hid gi.ok
  have hpos := gi.pos
  have Z3 := Lib.hid (wf_sz gi.wf)
  have hn3 : rs.length ≤ 400 := by obtain ⟨_, _, h, _⟩ := big_lens gi.ok; exact h
  clear gi hb3 b2
  go_wp2_with fail
  refine namedC fun w4 H4 => ?_
  have c4 := Lib.hid (show Below w3.heap.size w3 w4 by rw [H4.out]; (repeat first | exact Below.refl _ _ | assumption | refine Below.drew ?_ | refine Below.alloc ?_ (by first | exact Nat.le_refl _ | (simp; done) | omega | (simp; omega)) _ | refine Below.setCell ?_ (by first | exact Nat.le_refl _ | (simp; done) | omega | (simp; omega)) _))
  have BG4 := Lib.hid (show Blk w4 w3.heap.size 26 #[.slice A3 rs.length c3] by rw [H4.out]; exact Blk.new _ _ _)
  clear H4
  have b4 := Lib.hid (b3.out.trans (c4.out.mono b3.out.size))
  refine (p6Pick_any D m d _ 2 2 w4 hm4 (hds.out.next b4.out) (by omega) (by omega)).mono ?_
  rintro e w5 ⟨v, rfl, v0, v1, hb5⟩
  have b5 := Lib.hid (b4.out.trans (hb5.mono b4.out.size))
  have c45 := Lib.hid (c4.out.trans (hb5.mono c4.out.size))
  have BG5 := Lib.hid (BG4.out.next hb5)
  by_cases hv : v = 1
  · subst hv
    go_wp2_with fail
    refine (p6Word_any A n c _ 40 w5 (by omega) (hbs.out.next b5.out) (by omega) (by omega)).mono ?_
    rintro e w6 ⟨s, rfl, hs, _, hb6⟩
    have BG6 := Lib.hid (BG5.out.next hb6)
    have b6 := Lib.hid (b5.out.trans (hb6.mono b5.out.size))
    clear hb6 BG5 b5 c45 BG4 c4 b4 hb5 R3 Z3 hpos hn3 hgo hu
    go_wp2_with fail
    refine (specPlain_any s w6 (by omega)).mono ?_
    rintro e w7 ⟨A6, c6, rfl, own7, hb7⟩
    have BG7 := Lib.hid (BG6.out.next hb7)
    have b7 := Lib.hid (b6.out.trans (hb7.mono b6.out.size))
    have hgo := Lib.hid (plnF_ok s)
    generalize plnF s = rs6 at *
    generalize hk6 : plnC s = k6 at *
    have g0 := BG7.out.cell 0
    have gf := BG7.out.frozen 0
    have gl := BG7.out.lt
    have own7' := Lib.hid own7
    clear own7 hb7 BG6 b6 hk6
    go_wp2_with fail
    generalize hw8 : (w7.setCell ⟨w3.heap.size, 0, none⟩ (.slice A6 rs6.length c6)) = w8 at *
    have B8 := Lib.hid (show Blk w8 w3.heap.size 26 #[.slice A6 rs6.length c6] by rw [← hw8]; exact BG7.out.set_ 0 _)
    have b8 := Lib.hid (show Below w.heap.size w w8 by rw [← hw8]; exact b7.out.setCell b3.out.size _)
    have R8 := Lib.hid (show Rd w8 w8.heap.size A6 rs6.length 3 Fac.cells rs6 from Rd.of_own (fun x _ => fac_len x) rfl (by rw [← hw8]; exact own_kept' own7'.out BG7.out (by decide) _))
    clear g0 gf gl own7' BG7 b7 hw8 b3
    obtain ⟨ls, hls⟩ := Option.isSome_iff_exists.1 hgo.out
    have h400 : rs6.length ≤ 400 := (gOk_lens hls).2.1
    have hsz : ∀ f ∈ rs6, f.l.size ≤ maxLen := wf_sz (wf_of (gOk_lens hls).1)
    have hM := Lib.hid (show levC rs6 = 0 → LevOk rs6 (levF rs6) from levF_ok hls)
    have hML := levF_len rs6
    have hC := Lib.hid (levC_or hgo.out)
    have CI := Lib.hid (implLev_any A6 rs6.length c6 rs6 w8 (by omega) R8.out hsz)
    have CS := Lib.hid (fun W (h : Below w8.heap.size w8 W) => specLev_any A6 rs6.length c6 rs6 W (by omega) (R8.out.next h) hsz)
    generalize levF rs6 = M at *
    generalize levC rs6 = C at *
    refine CI.out.mono ?_
    rintro e wa ⟨Ah, ch, rfl, ownh, hba⟩
    have ba := Lib.hid hba
    have Rh := Lib.hid (show Rd wa wa.heap.size Ah M.length 3 Fac.cells M from Rd.of_own (fun x _ => fac_len x) rfl ownh)
    have Ba := Lib.hid (B8.out.next hba)
    clear hba ownh
    have g0 := Ba.out.cell 0
    have gl := Ba.out.lt
    go_wp2_with fail
    refine namedC fun wb Hb => ?_
    have cb := Lib.hid (show Below wa.heap.size wa wb by rw [Hb.out]; (repeat first | exact Below.refl _ _ | assumption | refine Below.drew ?_ | refine Below.alloc ?_ (by first | exact Nat.le_refl _ | (simp; done) | omega | (simp; omega)) _ | refine Below.setCell ?_ (by first | exact Nat.le_refl _ | (simp; done) | omega | (simp; omega)) _))
    have Bh := Lib.hid (show Blk wb wa.heap.size 26 #[.slice Ah M.length ch] by rw [Hb.out]; exact Blk.new _ _ _)
    clear Hb g0 gl
    have bb := Lib.hid (ba.out.trans (cb.out.mono ba.out.size))
    have Bb := Lib.hid (Ba.out.next cb.out)
    have Rhb := Lib.hid (Rh.out.next cb.out)
    clear Ba Rh cb ba
    refine (CS.out wb bb.out).mono ?_
    rintro e wc ⟨Am, cm, rfl, ownm, hbc⟩
    have bc := Lib.hid (bb.out.trans (hbc.mono bb.out.size))
    have Rm := Lib.hid (show Rd wc wc.heap.size Am M.length 3 Fac.cells M from Rd.of_own (fun x _ => fac_len x) rfl ownm)
    have Bc := Lib.hid (Bb.out.next hbc)
    have Bhc := Lib.hid (Bh.out.next hbc)
    have Rhc := Lib.hid (Rhb.out.next hbc)
    clear hbc ownm Bb Bh Rhb bb CI CS
    have g0 := Bc.out.cell 0
    have gl := Bc.out.lt
    have q0 := Bhc.out.cell 0
    have ql := Bhc.out.lt
    go_wp2_with fail
    refine namedC fun wd Hd => ?_
    have cd_ := Lib.hid (show Below wc.heap.size wc wd by rw [Hd.out]; (repeat first | exact Below.refl _ _ | assumption | refine Below.drew ?_ | refine Below.alloc ?_ (by first | exact Nat.le_refl _ | (simp; done) | omega | (simp; omega)) _ | refine Below.setCell ?_ (by first | exact Nat.le_refl _ | (simp; done) | omega | (simp; omega)) _))
    have Bm := Lib.hid (show Blk wd wc.heap.size 26 #[.slice Am M.length cm] by rw [Hd.out]; exact Blk.new _ _ _)
    clear Hd g0 gl q0 ql
    have bd := Lib.hid (bc.out.trans (cd_.out.mono bc.out.size))
    have Bd := Lib.hid (Bc.out.next cd_.out)
    have Rmd := Lib.hid (Rm.out.next cd_.out)
    have Rhd := Lib.hid (Rhc.out.next cd_.out)
    clear Bc Rm Bhc Rhc cd_ bc
    have Bmd := Bm
    clear Bm
    refine (specSameG_any Ah Am M.length ch cm M wd (by unfold maxLen; omega) Rhd.out Rmd.out).mono ?_
    rintro e we ⟨rfl, hb⟩
    have be := Lib.hid (bd.out.trans (hb.mono bd.out.size))
    have Be := Lib.hid (Bd.out.next hb)
    have Bme := Lib.hid (Bmd.out.next hb)
    have Rme := Lib.hid (Rmd.out.next hb)
    clear hb bd Bd Bmd Rmd
    clear Rhd
    have RR := Lib.hid (fun W (h : Below w8.heap.size w8 W) => R8.out.next h)
    rcases hC.out with hc | hc
    rotate_left
    · subst hc
      have g0 := Be.out.cell 0
      have gl := Be.out.lt
      have m0 := Bme.out.cell 0
      have ml := Bme.out.lt
      go_wp2_with fail
      clear g0 gl m0 ml
      go_ret
      exact ⟨rfl, b8.out.trans (be.out.mono b8.out.size)⟩
    subst hc
    have HM := Lib.hid (hM.out rfl)
    obtain ⟨ls2, hls2⟩ := Option.isSome_iff_exists.1 HM.out.ok
    have hszM : ∀ f ∈ M, f.l.size ≤ maxLen := wf_sz HM.out.wf
    have CL := Lib.hid (fun W (h : Rd W W.heap.size Am M.length 3 Fac.cells M) => show Calls Try.prog 12 #[.agg #[.slice Am M.length cm]] W (Ret (.tuple #[.bool true, .int .i64 0]) W) from by
      have h := implIsLevel_any Am M.length cm M W (by omega) h hszM
      unfold lvTuple at h
      rw [if_pos HM.out.ok, HM.out.lev] at h
      exact h)
    have CQ := Lib.hid (fun W (h : Below w8.heap.size w8 W) (h2 : Rd W W.heap.size Am M.length 3 Fac.cells M) => show Calls Try.prog 13 #[.agg #[.slice A6 rs6.length c6], .agg #[.slice Am M.length cm]] W (Ret (.tuple #[.bool true, .int .i64 0]) W) from by
      have h := equalWords_any A6 rs6.length c6 rs6 ls Am M.length cm M ls2 W h400 (by omega) (RR.out W h) h2 hls hls2
      rw [HM.out.eq hls hls2] at h
      exact h)
    have CD := Lib.hid (fun W (h : Rd W W.heap.size Am M.length 3 Fac.cells M) => depthOf_any Am M.length cm M ls2 W (by omega) h hls2)
    have CN := Lib.hid (fun W (h : Rd W W.heap.size Am M.length 3 Fac.cells M) => f6length_any Am M.length cm M W h HM.out.ok)
    have CG := Lib.hid (fun W (h : Below w8.heap.size w8 W) => f6length_any A6 rs6.length c6 rs6 W (RR.out W h) hgo.out)
    rw [← HM.out.word] at CG
    have HF := Lib.hid (HM.out.fib hls2)
    have hN : ((wdN M).length : Int) ≤ 1000000000000000 := by have h1 := last_word (gOk_lens hls2).1; have h2 := (lastI_in hls2).2; omega
    generalize depT M = dp at *
    generalize hNN : (wdN M).length = N at *
    clear hNN
    have g0 := Be.out.cell 0
    have gl := Be.out.lt
    have m0 := Bme.out.cell 0
    have ml := Bme.out.lt
    go_wp2_with fail
    clear g0 gl m0 ml
    refine (CL.out we Rme.out).mono ?_
    rintro e wf ⟨rfl, hb⟩
    have bf := Lib.hid (be.out.trans (hb.mono be.out.size))
    have Bf := Lib.hid (Be.out.next hb)
    have Bmf := Lib.hid (Bme.out.next hb)
    have Rmf := Lib.hid (Rme.out.next hb)
    clear hb be Be Bme Rme
    have g0 := Bf.out.cell 0
    have gl := Bf.out.lt
    have m0 := Bmf.out.cell 0
    have ml := Bmf.out.lt
    go_wp2_with fail
    clear g0 gl m0 ml
    refine (CQ.out wf bf.out Rmf.out).mono ?_
    rintro e wg ⟨rfl, hb⟩
    have bg := Lib.hid (bf.out.trans (hb.mono bf.out.size))
    have Bg := Lib.hid (Bf.out.next hb)
    have Bmg := Lib.hid (Bmf.out.next hb)
    have Rmg := Lib.hid (Rmf.out.next hb)
    clear hb bf Bf Bmf Rmf
    have g0 := Bg.out.cell 0
    have gl := Bg.out.lt
    have m0 := Bmg.out.cell 0
    have ml := Bmg.out.lt
    go_wp2_with fail
    clear g0 gl m0 ml
    refine (CD.out wg Rmg.out).mono ?_
    rintro e wh ⟨rfl, hb⟩
    have bh := Lib.hid (bg.out.trans (hb.mono bg.out.size))
    have Bh := Lib.hid (Bg.out.next hb)
    have Bmh := Lib.hid (Bmg.out.next hb)
    have Rmh := Lib.hid (Rmg.out.next hb)
    clear hb bg Bg Bmg Rmg
    have g0 := Bh.out.cell 0
    have gl := Bh.out.lt
    have m0 := Bmh.out.cell 0
    have ml := Bmh.out.lt
    go_wp2_with fail
    clear g0 gl m0 ml
    refine (CN.out wh Rmh.out).mono ?_
    rintro e wi ⟨rfl, hb⟩
    have bi := Lib.hid (bh.out.trans (hb.mono bh.out.size))
    have Bi := Lib.hid (Bh.out.next hb)
    have Bmi := Lib.hid (Bmh.out.next hb)
    have Rmi := Lib.hid (Rmh.out.next hb)
    clear hb bh Bh Bmh Rmh
    have g0 := Bi.out.cell 0
    have gl := Bi.out.lt
    have m0 := Bmi.out.cell 0
    have ml := Bmi.out.lt
    go_wp2_with fail
    clear g0 gl m0 ml
    refine (CG.out wi bi.out).mono ?_
    rintro e wj ⟨rfl, hb⟩
    have bj := Lib.hid (bi.out.trans (hb.mono bi.out.size))
    have Bj := Lib.hid (Bi.out.next hb)
    have Bmj := Lib.hid (Bmi.out.next hb)
    have Rmj := Lib.hid (Rmi.out.next hb)
    clear hb bi Bi Bmi Rmi
    go_wp2_with fail
    have HW0 := Lib.hid (b8.out.trans (bj.out.mono b8.out.size))
    clear bj Bj Bmj Rmj CL CQ CD CN CG RR HM hM R8 B8 b8
    go_loopw [17, 18, 19] (fun a_ b_ d_ w' => ∃ k : Nat, d_ = .int .i64 ((k : Int) + 1) ∧ a_ = .int .i64 (fbA k) ∧ b_ = .int .i64 (fbA (k + 1)) ∧ (k = 0 ∨ (k : Int) + 1 ≤ dp) ∧ Hid (Below wj.heap.size wj w')) (fun _ _ d_ _ => (dp - intOf d_).toNat)
    case atStart => exact ⟨0, rfl, rfl, rfl, .inl rfl, Lib.hid (Below.refl _ _)⟩
    case round =>
      obtain ⟨k, rfl, rfl, rfl, hk, hb⟩ := hrel
      have f1 := fbA_pos k
      by_cases hlt : (k : Int) + 1 < dp
      · rcases HF.out with ⟨h, _⟩ | ⟨_, h4, h5⟩
        · omega
        have f2 := fbA_mono (show k + 1 ≤ (dp - 1).toNat by omega)
        have f3 : fbA (k + 1 + 1) = fbA (k + 1) + fbA k := rfl
        have u1 : IntKind.i64.wrap (fbA k + fbA (k + 1)) = fbA k + fbA (k + 1) := IntWalk.i64_in _ (by omega)
        have u2 : IntKind.i64.wrap ((k : Int) + 1 + 1) = (k : Int) + 1 + 1 := IntWalk.i64_in _ (by omega)
        generalize hfa : fbA k = fa at *
        generalize hfb : fbA (k + 1) = fb at *
        go_wp2_with fail
        go_roundw
        case rel => exact ⟨k + 1, by go_num, by rw [hfb], by rw [f3]; go_num, .inr (by omega), hb⟩
        case measure => simp [intOf]; omega
      · have hD := Lib.hid (HW0.out.trans (hb.out.mono HW0.out.size))
        rcases HF.out with ⟨h, h0⟩ | ⟨h3, h4, h5⟩
        · subst h
          subst h0
          clear f1
          go_wp2_with fail
          go_ret
          exact ⟨rfl, hD.out⟩
        · have hdk : dp = (k : Int) + 1 := by omega
          rw [show (dp - 1).toNat = k by omega] at h5
          have e1 : (dp == 0) = false := by rw [Bool.beq_eq_decide_eq]; exact decide_eq_false (by omega)
          have e2 : (0 : Int) < dp := by omega
          have e3 : ¬ (dp = 0) := by omega
          clear HF f1 hk
          generalize fbA k = fa at *
          go_wp2_with fail
          go_ret
          exact ⟨rfl, hD.out⟩
  · have hv' : (v == 1) = false := by simp [hv]
    have g0 := BG5.out.cell 0
    have gf := BG5.out.frozen 0
    have gl := BG5.out.lt
    go_wp2_with fail
    have B8 := BG5
    have b8 := b5
    have R8 := Lib.hid (R3.out.next c45.out)
    clear g0 gf gl c45 b3 c4 BG4 b4 hb5 R3 Z3 hpos hn3 hu BG5 b5
    obtain ⟨ls, hls⟩ := Option.isSome_iff_exists.1 hgo.out
    have h400 : rs.length ≤ 400 := (gOk_lens hls).2.1
    have hsz : ∀ f ∈ rs, f.l.size ≤ maxLen := wf_sz (wf_of (gOk_lens hls).1)
    have hM := Lib.hid (show levC rs = 0 → LevOk rs (levF rs) from levF_ok hls)
    have hML := levF_len rs
    have hC := Lib.hid (levC_or hgo.out)
    have CI := Lib.hid (implLev_any A3 rs.length c3 rs w5 (by omega) R8.out hsz)
    have CS := Lib.hid (fun W (h : Below w5.heap.size w5 W) => specLev_any A3 rs.length c3 rs W (by omega) (R8.out.next h) hsz)
    generalize levF rs = M at *
    generalize levC rs = C at *
    refine CI.out.mono ?_
    rintro e wa ⟨Ah, ch, rfl, ownh, hba⟩
    have ba := Lib.hid hba
    have Rh := Lib.hid (show Rd wa wa.heap.size Ah M.length 3 Fac.cells M from Rd.of_own (fun x _ => fac_len x) rfl ownh)
    have Ba := Lib.hid (B8.out.next hba)
    clear hba ownh
    have g0 := Ba.out.cell 0
    have gl := Ba.out.lt
    go_wp2_with fail
    refine namedC fun wb Hb => ?_
    have cb := Lib.hid (show Below wa.heap.size wa wb by rw [Hb.out]; (repeat first | exact Below.refl _ _ | assumption | refine Below.drew ?_ | refine Below.alloc ?_ (by first | exact Nat.le_refl _ | (simp; done) | omega | (simp; omega)) _ | refine Below.setCell ?_ (by first | exact Nat.le_refl _ | (simp; done) | omega | (simp; omega)) _))
    have Bh := Lib.hid (show Blk wb wa.heap.size 26 #[.slice Ah M.length ch] by rw [Hb.out]; exact Blk.new _ _ _)
    clear Hb g0 gl
    have bb := Lib.hid (ba.out.trans (cb.out.mono ba.out.size))
    have Bb := Lib.hid (Ba.out.next cb.out)
    have Rhb := Lib.hid (Rh.out.next cb.out)
    clear Ba Rh cb ba
    refine (CS.out wb bb.out).mono ?_
    rintro e wc ⟨Am, cm, rfl, ownm, hbc⟩
    have bc := Lib.hid (bb.out.trans (hbc.mono bb.out.size))
    have Rm := Lib.hid (show Rd wc wc.heap.size Am M.length 3 Fac.cells M from Rd.of_own (fun x _ => fac_len x) rfl ownm)
    have Bc := Lib.hid (Bb.out.next hbc)
    have Bhc := Lib.hid (Bh.out.next hbc)
    have Rhc := Lib.hid (Rhb.out.next hbc)
    clear hbc ownm Bb Bh Rhb bb CI CS
    have g0 := Bc.out.cell 0
    have gl := Bc.out.lt
    have q0 := Bhc.out.cell 0
    have ql := Bhc.out.lt
    go_wp2_with fail
    refine namedC fun wd Hd => ?_
    have cd_ := Lib.hid (show Below wc.heap.size wc wd by rw [Hd.out]; (repeat first | exact Below.refl _ _ | assumption | refine Below.drew ?_ | refine Below.alloc ?_ (by first | exact Nat.le_refl _ | (simp; done) | omega | (simp; omega)) _ | refine Below.setCell ?_ (by first | exact Nat.le_refl _ | (simp; done) | omega | (simp; omega)) _))
    have Bm := Lib.hid (show Blk wd wc.heap.size 26 #[.slice Am M.length cm] by rw [Hd.out]; exact Blk.new _ _ _)
    clear Hd g0 gl q0 ql
    have bd := Lib.hid (bc.out.trans (cd_.out.mono bc.out.size))
    have Bd := Lib.hid (Bc.out.next cd_.out)
    have Rmd := Lib.hid (Rm.out.next cd_.out)
    have Rhd := Lib.hid (Rhc.out.next cd_.out)
    clear Bc Rm Bhc Rhc cd_ bc
    have Bmd := Bm
    clear Bm
    refine (specSameG_any Ah Am M.length ch cm M wd (by unfold maxLen; omega) Rhd.out Rmd.out).mono ?_
    rintro e we ⟨rfl, hb⟩
    have be := Lib.hid (bd.out.trans (hb.mono bd.out.size))
    have Be := Lib.hid (Bd.out.next hb)
    have Bme := Lib.hid (Bmd.out.next hb)
    have Rme := Lib.hid (Rmd.out.next hb)
    clear hb bd Bd Bmd Rmd
    clear Rhd
    have RR := Lib.hid (fun W (h : Below w5.heap.size w5 W) => R8.out.next h)
    rcases hC.out with hc | hc
    rotate_left
    · subst hc
      have g0 := Be.out.cell 0
      have gl := Be.out.lt
      have m0 := Bme.out.cell 0
      have ml := Bme.out.lt
      go_wp2_with fail
      clear g0 gl m0 ml
      go_ret
      exact ⟨rfl, b8.out.trans (be.out.mono b8.out.size)⟩
    subst hc
    have HM := Lib.hid (hM.out rfl)
    obtain ⟨ls2, hls2⟩ := Option.isSome_iff_exists.1 HM.out.ok
    have hszM : ∀ f ∈ M, f.l.size ≤ maxLen := wf_sz HM.out.wf
    have CL := Lib.hid (fun W (h : Rd W W.heap.size Am M.length 3 Fac.cells M) => show Calls Try.prog 12 #[.agg #[.slice Am M.length cm]] W (Ret (.tuple #[.bool true, .int .i64 0]) W) from by
      have h := implIsLevel_any Am M.length cm M W (by omega) h hszM
      unfold lvTuple at h
      rw [if_pos HM.out.ok, HM.out.lev] at h
      exact h)
    have CQ := Lib.hid (fun W (h : Below w5.heap.size w5 W) (h2 : Rd W W.heap.size Am M.length 3 Fac.cells M) => show Calls Try.prog 13 #[.agg #[.slice A3 rs.length c3], .agg #[.slice Am M.length cm]] W (Ret (.tuple #[.bool true, .int .i64 0]) W) from by
      have h := equalWords_any A3 rs.length c3 rs ls Am M.length cm M ls2 W h400 (by omega) (RR.out W h) h2 hls hls2
      rw [HM.out.eq hls hls2] at h
      exact h)
    have CD := Lib.hid (fun W (h : Rd W W.heap.size Am M.length 3 Fac.cells M) => depthOf_any Am M.length cm M ls2 W (by omega) h hls2)
    have CN := Lib.hid (fun W (h : Rd W W.heap.size Am M.length 3 Fac.cells M) => f6length_any Am M.length cm M W h HM.out.ok)
    have CG := Lib.hid (fun W (h : Below w5.heap.size w5 W) => f6length_any A3 rs.length c3 rs W (RR.out W h) hgo.out)
    rw [← HM.out.word] at CG
    have HF := Lib.hid (HM.out.fib hls2)
    have hN : ((wdN M).length : Int) ≤ 1000000000000000 := by have h1 := last_word (gOk_lens hls2).1; have h2 := (lastI_in hls2).2; omega
    generalize depT M = dp at *
    generalize hNN : (wdN M).length = N at *
    clear hNN
    have g0 := Be.out.cell 0
    have gl := Be.out.lt
    have m0 := Bme.out.cell 0
    have ml := Bme.out.lt
    go_wp2_with fail
    clear g0 gl m0 ml
    refine (CL.out we Rme.out).mono ?_
    rintro e wf ⟨rfl, hb⟩
    have bf := Lib.hid (be.out.trans (hb.mono be.out.size))
    have Bf := Lib.hid (Be.out.next hb)
    have Bmf := Lib.hid (Bme.out.next hb)
    have Rmf := Lib.hid (Rme.out.next hb)
    clear hb be Be Bme Rme
    have g0 := Bf.out.cell 0
    have gl := Bf.out.lt
    have m0 := Bmf.out.cell 0
    have ml := Bmf.out.lt
    go_wp2_with fail
    clear g0 gl m0 ml
    refine (CQ.out wf bf.out Rmf.out).mono ?_
    rintro e wg ⟨rfl, hb⟩
    have bg := Lib.hid (bf.out.trans (hb.mono bf.out.size))
    have Bg := Lib.hid (Bf.out.next hb)
    have Bmg := Lib.hid (Bmf.out.next hb)
    have Rmg := Lib.hid (Rmf.out.next hb)
    clear hb bf Bf Bmf Rmf
    have g0 := Bg.out.cell 0
    have gl := Bg.out.lt
    have m0 := Bmg.out.cell 0
    have ml := Bmg.out.lt
    go_wp2_with fail
    clear g0 gl m0 ml
    refine (CD.out wg Rmg.out).mono ?_
    rintro e wh ⟨rfl, hb⟩
    have bh := Lib.hid (bg.out.trans (hb.mono bg.out.size))
    have Bh := Lib.hid (Bg.out.next hb)
    have Bmh := Lib.hid (Bmg.out.next hb)
    have Rmh := Lib.hid (Rmg.out.next hb)
    clear hb bg Bg Bmg Rmg
    have g0 := Bh.out.cell 0
    have gl := Bh.out.lt
    have m0 := Bmh.out.cell 0
    have ml := Bmh.out.lt
    go_wp2_with fail
    clear g0 gl m0 ml
    refine (CN.out wh Rmh.out).mono ?_
    rintro e wi ⟨rfl, hb⟩
    have bi := Lib.hid (bh.out.trans (hb.mono bh.out.size))
    have Bi := Lib.hid (Bh.out.next hb)
    have Bmi := Lib.hid (Bmh.out.next hb)
    have Rmi := Lib.hid (Rmh.out.next hb)
    clear hb bh Bh Bmh Rmh
    have g0 := Bi.out.cell 0
    have gl := Bi.out.lt
    have m0 := Bmi.out.cell 0
    have ml := Bmi.out.lt
    go_wp2_with fail
    clear g0 gl m0 ml
    refine (CG.out wi bi.out).mono ?_
    rintro e wj ⟨rfl, hb⟩
    have bj := Lib.hid (bi.out.trans (hb.mono bi.out.size))
    have Bj := Lib.hid (Bi.out.next hb)
    have Bmj := Lib.hid (Bmi.out.next hb)
    have Rmj := Lib.hid (Rmi.out.next hb)
    clear hb bi Bi Bmi Rmi
    go_wp2_with fail
    have HW0 := Lib.hid (b8.out.trans (bj.out.mono b8.out.size))
    clear bj Bj Bmj Rmj CL CQ CD CN CG RR HM hM R8 B8 b8
    go_loopw [17, 18, 19] (fun a_ b_ d_ w' => ∃ k : Nat, d_ = .int .i64 ((k : Int) + 1) ∧ a_ = .int .i64 (fbA k) ∧ b_ = .int .i64 (fbA (k + 1)) ∧ (k = 0 ∨ (k : Int) + 1 ≤ dp) ∧ Hid (Below wj.heap.size wj w')) (fun _ _ d_ _ => (dp - intOf d_).toNat)
    case atStart => exact ⟨0, rfl, rfl, rfl, .inl rfl, Lib.hid (Below.refl _ _)⟩
    case round =>
      obtain ⟨k, rfl, rfl, rfl, hk, hb⟩ := hrel
      have f1 := fbA_pos k
      by_cases hlt : (k : Int) + 1 < dp
      · rcases HF.out with ⟨h, _⟩ | ⟨_, h4, h5⟩
        · omega
        have f2 := fbA_mono (show k + 1 ≤ (dp - 1).toNat by omega)
        have f3 : fbA (k + 1 + 1) = fbA (k + 1) + fbA k := rfl
        have u1 : IntKind.i64.wrap (fbA k + fbA (k + 1)) = fbA k + fbA (k + 1) := IntWalk.i64_in _ (by omega)
        have u2 : IntKind.i64.wrap ((k : Int) + 1 + 1) = (k : Int) + 1 + 1 := IntWalk.i64_in _ (by omega)
        generalize hfa : fbA k = fa at *
        generalize hfb : fbA (k + 1) = fb at *
        go_wp2_with fail
        go_roundw
        case rel => exact ⟨k + 1, by go_num, by rw [hfb], by rw [f3]; go_num, .inr (by omega), hb⟩
        case measure => simp [intOf]; omega
      · have hD := Lib.hid (HW0.out.trans (hb.out.mono HW0.out.size))
        rcases HF.out with ⟨h, h0⟩ | ⟨h3, h4, h5⟩
        · subst h
          subst h0
          clear f1
          go_wp2_with fail
          go_ret
          exact ⟨rfl, hD.out⟩
        · have hdk : dp = (k : Int) + 1 := by omega
          rw [show (dp - 1).toNat = k by omega] at h5
          have e1 : (dp == 0) = false := by rw [Bool.beq_eq_decide_eq]; exact decide_eq_false (by omega)
          have e2 : (0 : Int) < dp := by omega
          have e3 : ¬ (dp = 0) := by omega
          clear HF f1 hk
          generalize fbA k = fa at *
          go_wp2_with fail
          go_ret
          exact ⟨rfl, hD.out⟩
set_option maxRecDepth 100000 in
theorem fnLevel_contract (H : Type) (enc : TypeId × Value → H) (W : World) (base : Nat) (args : Array Value) (ds gs : List (DataW H)) (before : List MemPlace)
    (hval : ∀ (j : Nat) t v, Try.f3.params[j]? = some t → args[j]? = some v → Value.okWide Try.prog W .any base t v)
    (hW : DataW.Whole enc Try.prog Try.f3.params.toList Rows.fnLevelSpec.vars false W args.toList ds gs before) :
    Calls Try.prog 3 args W fun e W' => ∃ v, e = .returned v ∧ Rows.fnLevelSpec.post enc Try.prog Try.f3 false true false false W args v W' := by
  have hW' := hW
  obtain ⟨p, q, hA0, hV, rfl, hfz, hnd⟩ := hW
  have hA : DataW.TrodAll enc Try.prog W 0 (fun _ => true) true Try.f3.params.toList args.toList ds p := hA0
  rw [Try.params3] at hA hval
  obtain ⟨v0, vs0, d0, ds0, p0, q0, hargs, rfl, rfl, h0, r0⟩ := trodAll_cons hA
  obtain ⟨v1, vs1, d1, ds1, p1, q1, rfl, rfl, rfl, h1, r1⟩ := trodAll_cons r0
  obtain ⟨rfl, rfl, rfl⟩ := trodAll_nil r1
  obtain rfl : args = #[v0, v1] := by cases args; simp_all
  obtain ⟨rfl, rfl⟩ := trodVars_none hV
  obtain ⟨A0, n0, c0, zs0, rfl, hn0, rd0, ok0⟩ := open_bytes Try.underlying22 Try.underlying5 (by kernel_rfl) (hval 0 22 v0 rfl rfl) h0
  obtain ⟨A1, n1, c1, zs1, rfl, hn1, rd1, ok1⟩ := open_bytes Try.underlying22 Try.underlying5 (by kernel_rfl) (hval 1 22 v1 rfl rfl) h1
  clear hA0
  refine (walkLe A0 n0 c0 zs0 A1 n1 c1 zs1 W hn0 rd0 ok0 hn1 rd1 ok1).mono fun e W' ⟨he, hb⟩ => ?_
  subst he
  exact ⟨_, rfl, law_post laidOut hW' rfl 4 Try.underlying4 (by kernel_rfl) (by rw [Try.params3]; intro t ht; simp at ht; first | (subst ht; exact ⟨by kernel_rfl, of_decide_eq_true (by kernel_rfl)⟩) | (rcases ht with rfl | rfl <;> exact ⟨by kernel_rfl, of_decide_eq_true (by kernel_rfl)⟩) | (rcases ht with rfl | rfl | rfl <;> exact ⟨by kernel_rfl, of_decide_eq_true (by kernel_rfl)⟩) | (rcases ht with rfl | rfl | rfl | rfl <;> exact ⟨by kernel_rfl, of_decide_eq_true (by kernel_rfl)⟩)) rfl hb⟩

set_option maxRecDepth 100000 in
theorem fnLevel_lifted (os : Os) (started : os.Started) (H : Type) (enc : TypeId × Value → H) :
    ReturnsInHanded {} Try.checked os 3 .any (Rows.fnLevelSpec.pre6 enc Try.prog Try.f3 Rows.fnLevelRow.domain false) (Rows.fnLevelSpec.post enc Try.prog Try.f3 false true false false) := by
  refine returnsInHanded_of_change (C := Try.checked) own started (by kernel_rfl) Try.func3
    (ChangeSpec.witness6 (enc := enc) (C := Try.checked) false ⟨#[], #[.slice none 0 0, .slice none 0 0], []⟩ 8 (by kernel_rfl) (by kernel_rfl) (by kernel_rfl) (by kernel_rfl)) ?_
  intro W base args ds gs before hval0 hW hcnd _
  exact fnLevel_contract H enc W base args ds gs before hval0 hW

theorem fnLevel_holds : Rows.FnLevelSaid :=
  OpenClaim.holds_of_wide 3 Try.f3 rfl rfl rfl rfl rfl rfl rfl ⟨rfl, rfl, rfl, rfl, rfl⟩ rfl rfl rfl rfl rfl (by as_aux_lemma => kernel_rfl) Try.func3
    (joined_mk (by as_aux_lemma => kernel_rfl) laidOut mapsRowed' (by as_aux_lemma => kernel_rfl) (by as_aux_lemma => kernel_rfl) (by as_aux_lemma => kernel_rfl) (by as_aux_lemma => kernel_rfl) (by as_aux_lemma => kernel_rfl) (by as_aux_lemma => kernel_rfl) plainKeys' rfl heard' mayEnter' lifts' make' (by as_aux_lemma => kernel_rfl))
    (of_decide_eq_true (by kernel_rfl)) (by unfold Func.isWrapper; first | (rw [if_pos (by decide +kernel)]; kernel_rfl) | (rw [if_neg (by decide +kernel)]; exact ⟨rfl, rfl⟩))
    (fun os started H enc _ => fnLevel_lifted os started H enc)

end Go.Proofs.Ytajfjgemfnfakaa
