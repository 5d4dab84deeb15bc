/-
  The statement FnGrammarText: for all bytes, the grammar that is drawn from them is read from its text, its letters and parts are those of its word, and the plain grammar of the word has it. Taking that the library's variables hold what the program's text lays into them (the card ties them).
-/
import Derived.Test.YtnhkoinjjbfofaaDoorP5
import Derived.Test.YtnhkoinjjbfofaaDoorCards
import Derived.Test.YtnhkoinjjbfofaaDoorTie
import Derived.HandedShaped
import Derived.LaidMore
import Derived.LaidLaws
import Derived.Lay
import Derived.Stop.Joined
import Derived.Stop.LaidErr
import Derived.SevenTiedAt

namespace Go.Proofs.YtnhkoinjjbfofaaDoor
open Go.ChangeShapes Go.WideShapes Go.ChangeAt Go.RowKit

theorem specVW_any (s : ByteArray) (w : World) (b : Bool) (hs : s.size ≤ maxLen) (hb : okW s = b) : Calls Tryd.prog 11 #[.string s] w (Ret (.bool b) w) := by
  have H := Lib.hid (fun W => specOk_any s b W hs hb)
  go_enter Tryd.func11, Tryd.ntmps11
  go_wp2_with fail
  refine (H.out _).mono ?_
  rintro e w1 ⟨rfl, hb1⟩
  go_wp2_with fail
  go_ret
  exact ⟨rfl, hb1⟩
set_option maxHeartbeats 16000000 in
set_option maxRecDepth 100000 in
theorem walkGt (mx : Int) (es er : Value) (A : Option Addr) (n c : Nat) (zs : List Int) (D : Option Addr) (m d : Nat) (ys : List Int) (w : World) (hE : EnvR mx es er w)
    (hn : n ≤ maxLen) (hx : Rd w w.heap.size A n 1 (fun z => [.int .u8 z]) zs) (ox : ∀ z ∈ zs, 0 ≤ z ∧ z < 256) (hm : m ≤ maxLen) (hy : Rd w w.heap.size D m 1 (fun z => [.int .u8 z]) ys) (oy : ∀ z ∈ ys, 0 ≤ z ∧ z < 256) :
    Calls Tryd.prog 3 #[.slice A n c, .slice D m d] w (Ret (.bool true) w) := by
  rcases hlong : (decide (3000 < n) || decide (3000 < m)) with _ | _
  case true =>
    have H := Lib.hid hlong
    clear hlong
    go_enter Tryd.func3, Tryd.ntmps3
    go_wp2_with fail
    refine (a2Long_any A n c D m d w hn hm true H.out).mono ?_
    rintro e w1 ⟨rfl, hb1⟩
    go_wp2_with fail
    go_ret
    exact ⟨rfl, hb1⟩
  have H := Lib.hid hlong
  have hn3 : n ≤ 3000 ∧ m ≤ 3000 := by simp only [Bool.or_eq_false_iff, decide_eq_false_iff_not] at hlong; omega
  have hbs := Lib.hid (hx.bytes ox)
  have hcs := Lib.hid (hy.bytes oy)
  have HE := Lib.hid (fun (W : World) (hb : Below w.heap.size w W) => hE.next hb)
  clear hx hy ox oy hlong hE
  generalize ys.map (fun z => UInt8.ofNat z.toNat) = bs at *
  go_enter Tryd.func3, Tryd.ntmps3
  go_wp2_with fail
  refine (a2Long_any A n c D m d w hn hm false H.out).mono ?_
  rintro e w1 ⟨rfl, hb1⟩
  have b1 := Lib.hid hb1
  clear hb1 hn hm H
  go_wp2_with fail
  refine (a2Grammar_any A n c _ 80 w1 (by omega) (hbs.out.next b1.out) (by omega) (by omega)).mono ?_
  rintro e w4 ⟨A3, c3, rs, rfl, ok, own3, hb3⟩
  have hwf := ok.wf
  have hup : 0 < (wdN rs).length := by rw [wdN_pos ok.pos]; exact List.length_pos_iff.2 (wds_pos ok.wf (by have := ok.pos; omega))
  have hlen8 := ok.len
  have hpos := ok.pos
  have hr14 := ok.few
  have HL4 := Lib.hid (wdN_let ok.wf)
  obtain ⟨ls, hls⟩ := Option.isSome_iff_exists.1 ok.gok
  have b4 := Lib.hid (b1.out.trans (hb3.mono b1.out.size))
  have R3 := Lib.hid (Rd.of_own (fun x _ => fac_len x) rfl own3)
  have bw := Lib.hid (fun W (h : Below w4.heap.size w4 W) => b4.out.trans (h.mono b4.out.size))
  have ne0 : rs ≠ [] := fun e => by rw [e] at hpos; exact absurd hpos (by simp)
  have hT0 := gtx_pos hls ne0
  have hTs := gtx_small hls
  have hrt := rdG_text hls
  have hrc := rdG_cut hls ne0
  have hu0 : wdN rs ≠ [] := fun e => by rw [e] at hup; exact absurd hup (by simp)
  obtain ⟨hp1, hp2, hp3⟩ := plnF_tx (wdN_let ok.wf) hu0 (by omega)
  obtain ⟨lp, hlp⟩ := Option.isSome_iff_exists.1 hp2
  have hpl := (gOk_lens hlp).2.1
  have GT := Lib.hid (fun W (hb : Below w4.heap.size w4 W) => gText_any A3 rs.length c3 rs ls W (R3.out.next hb) hls (HE.out W (bw.out W hb)).ht)
  have RG := Lib.hid (fun (t : ByteArray) W (hb : Below w4.heap.size w4 W) => readG_any t W (HE.out W (bw.out W hb)))
  have UW := Lib.hid (fun W (hb : Below w4.heap.size w4 W) => unpackWI_any A3 rs.length c3 rs ls W (R3.out.next hb) hls (by omega))
  have LN := Lib.hid (fun W (hb : Below w4.heap.size w4 W) => implLength_any A3 rs.length c3 rs ls W (R3.out.next hb) hls)
  have LA := Lib.hid (fun W (hb : Below w4.heap.size w4 W) i hi => letterAt_any A3 rs.length c3 rs ls i W (R3.out.next hb) hls hi)
  have UP := Lib.hid (fun W (hb : Below w4.heap.size w4 W) i j hi hj => unpackPart_any A3 rs.length c3 rs ls i j W (R3.out.next hb) hls hi hj (by omega))
  have SG := Lib.hid (fun W (hb : Below w4.heap.size w4 W) (B : Option Addr) (q : Nat) (h : Rd W W.heap.size B rs.length 3 Fac.cells rs) => specSameG_any A3 B rs.length c3 q rs W (by unfold maxLen; omega) (R3.out.next hb) h)
  have AT := Lib.hid (fun (k q : Nat) (hk : k ≤ 5) (h1 : 1 ≤ q) (h2 : q ≤ 1000) W (hb : Below w4.heap.size w4 W) => a2At_any D m d bs k q W (by omega) (hcs.out.next (bw.out W hb)) (by omega) h1 (by omega))
  have PG := Lib.hid (fun W => implPlain_any (tx (wdN rs)) W (by rw [tx_size]; omega))
  rw [hp1] at PG
  have PW := Lib.hid (fun W (B : Option Addr) (q : Nat) (h : Rd W W.heap.size B (plnF (tx (wdN rs))).length 3 Fac.cells (plnF (tx (wdN rs)))) => unpackWI_any B _ q _ lp W h hlp (by rw [hp3]; omega))
  rw [hp3] at PW
  have hok : okW (tx (wdN rs)) = true := by
    unfold plnC at hp1
    rcases h : okW (tx (wdN rs)) with _ | _
    · rw [h] at hp1; exact absurd hp1 (by simp)
    · rfl
  have VW := Lib.hid (fun W => specVW_any (tx (wdN rs)) W true (by rw [tx_size]; unfold maxLen; omega) hok)
  have HX := Lib.hid (fun i j => tx_extract (wdN rs) i j)
  have hxs := tx_size (wdN rs)
  generalize hn3e : rs.length = n3 at *
  have HN3 := Lib.hid hn3e
  have RGT := Lib.hid (fun W (hb : Below w4.heap.size w4 W) => RG.out (textT rs ⟨#[]⟩) W hb)
  rw [hrt] at RGT
  have RGC := Lib.hid (fun W (hb : Below w4.heap.size w4 W) => RG.out ((textT rs ⟨#[]⟩).extract 0 ((textT rs ⟨#[]⟩).size - 1)) W hb)
  rw [hrc] at RGC
  generalize textT rs ⟨#[]⟩ = T at *
  generalize plnF (tx (wdN rs)) = P at *
  generalize wdN rs = u at *
  generalize tx u = s at *
  have AT0 := Lib.hid (fun W (hb : Below w4.heap.size w4 W) => show Calls Tryd.prog 12 #[.slice D m d, .int .i64 0, .int .i64 (u.length : Int)] W (Ret (.int .i64 ((atV bs 0 u.length : Nat) : Int)) W) from AT.out 0 u.length (by omega) (by omega) (by omega) W hb)
  have hiu := atV_lt bs 0 hup
  generalize atV bs 0 u.length = i at *
  have AT1 := Lib.hid (fun W (hb : Below w4.heap.size w4 W) => show Calls Tryd.prog 12 #[.slice D m d, .int .i64 1, .int .i64 ((u.length : Int) - (i : Int) + 1)] W (Ret (.int .i64 ((atV bs 1 (u.length - i + 1) : Nat) : Int)) W) from by
    have h := AT.out 1 (u.length - i + 1) (by omega) (by omega) (by omega) W hb
    rw [show ((u.length - i + 1 : Nat) : Int) = (u.length : Int) - (i : Int) + 1 by omega] at h
    exact h)
  have hqu := atV_lt bs 1 (show 0 < u.length - i + 1 by omega)
  generalize atV bs 1 (u.length - i + 1) = q at *
  have LA1 := Lib.hid (fun W (hb : Below w4.heap.size w4 W) => LA.out W hb i hiu)
  have UP1 := Lib.hid (fun W (hb : Below w4.heap.size w4 W) => UP.out W hb i (i + q) (by omega) (by omega))
  rw [← HX.out] at LA1 UP1
  rw [Int.natCast_add] at UP1
  have c4 := Lib.hid (Below.refl w4.heap.size w4)
  clear hn3e AT LA UP HX RG hrt hrc hp1 hp2 hp3 hlp hls hwf ok own3 hb3 hbs HE b1 hu0 hok
  go_wp2_with fail
  refine namedC fun w5 H => ?_
  have c5 := Lib.hid (show Below w4.heap.size w4 w5 by rw [H.out]; exact c4.out.alloc c4.out.size _)
  have BG5 := Lib.hid (show Blk w5 w4.heap.size 26 #[.slice A3 n3 c3] by rw [H.out]; exact Blk.new _ _ _)
  clear H c4 
  refine (GT.out w5 c5.out).mono ?_
  rintro e w6 ⟨rfl, hb⟩
  have c6 := Lib.hid (c5.out.trans (hb.mono c5.out.size))
  have BG6 := Lib.hid (BG5.out.next hb)
  clear hb c5 BG5
  have gBG := BG6.out.cell 0
  have lBG := BG6.out.lt
  go_wp2_with fail
  clear gBG lBG
  refine (RGT.out w6 c6.out).mono ?_
  rintro e w7 ⟨Ah, ch, rfl, ownh, hb⟩
  have c7 := Lib.hid (c6.out.trans (hb.mono c6.out.size))
  have BG7 := Lib.hid (BG6.out.next hb)
  rw [HN3.out] at ownh ⊢
  have Oh := Lib.hid ownh
  clear ownh
  clear hb c6 BG6
  have gBG := BG7.out.cell 0
  have lBG := BG7.out.lt
  go_wp2_with fail
  refine namedC fun w8 H => ?_
  have c8 := Lib.hid (show Below w4.heap.size w4 w8 by rw [H.out]; exact c7.out.alloc c7.out.size _)
  have BG8 := Lib.hid (show Blk w8 w4.heap.size 26 #[.slice A3 n3 c3] by rw [H.out]; exact BG7.out.alloc _)
  have BH8 := Lib.hid (show Blk w8 w7.heap.size 26 #[.slice Ah n3 ch] by rw [H.out]; exact Blk.new _ _ _)
  have Oh2 := Lib.hid (show w8.ownsRow _ 48 3 (.slice Ah n3 ch) n3 (rs.flatMap Fac.cells) by rw [H.out]; exact Oh.out.alloc _)
  clear gBG lBG
  clear H c7 BG7
  clear Oh
  have Oh := Oh2
  clear Oh2
  refine (UW.out w8 c8.out).mono ?_
  rintro e w9 ⟨rfl, hb⟩
  have c9 := Lib.hid (c8.out.trans (hb.mono c8.out.size))
  have BG9 := Lib.hid (BG8.out.next hb)
  have BH9 := Lib.hid (BH8.out.next hb)
  have Oh2 := Lib.hid (own_next Oh.out hb)
  clear Oh
  have Oh := Oh2
  clear Oh2
  clear hb c8 BG8 BH8
  have gBG := BG9.out.cell 0
  have lBG := BG9.out.lt
  have gBH := BH9.out.cell 0
  have lBH := BH9.out.lt
  go_wp2_with fail
  clear gBG lBG gBH lBH
  refine (LN.out w9 c9.out).mono ?_
  rintro e w10 ⟨rfl, hb⟩
  have c10 := Lib.hid (c9.out.trans (hb.mono c9.out.size))
  have BG10 := Lib.hid (BG9.out.next hb)
  have BH10 := Lib.hid (BH9.out.next hb)
  have Oh2 := Lib.hid (own_next Oh.out hb)
  clear Oh
  have Oh := Oh2
  clear Oh2
  clear hb c9 BG9 BH9
  have gBG := BG10.out.cell 0
  have lBG := BG10.out.lt
  have gBH := BH10.out.cell 0
  have lBH := BH10.out.lt
  go_wp2_with fail
  clear gBG lBG gBH lBH
  refine (SG.out w10 c10.out Ah ch (Rd.of_own (fun x _ => fac_len x) HN3.out Oh.out)).mono ?_
  rintro e w11 ⟨rfl, hb⟩
  have c11 := Lib.hid (c10.out.trans (hb.mono c10.out.size))
  have BG11 := Lib.hid (BG10.out.next hb)
  have BH11 := Lib.hid (BH10.out.next hb)
  clear Oh
  clear hb c10 BG10 BH10
  have gBG := BG11.out.cell 0
  have lBG := BG11.out.lt
  have q1 : ¬ (u.length : Int) < 1 := by omega
  have q2 : ¬ (T.size : Int) < 1 := by omega
  go_wp2_with fail
  clear gBG lBG
  clear q1 q2
  refine (VW.out w11).mono ?_
  rintro e w12 ⟨rfl, hb⟩
  have c12 := Lib.hid (c11.out.trans (hb.mono c11.out.size))
  have BG12 := Lib.hid (BG11.out.next hb)
  clear hb c11 BG11
  have gBG := BG12.out.cell 0
  have lBG := BG12.out.lt
  go_wp2_with fail
  clear gBG lBG
  refine (AT0.out w12 c12.out).mono ?_
  rintro e w13 ⟨rfl, hb⟩
  have c13 := Lib.hid (c12.out.trans (hb.mono c12.out.size))
  have BG13 := Lib.hid (BG12.out.next hb)
  clear hb c12 BG12
  have gBG := BG13.out.cell 0
  have lBG := BG13.out.lt
  have un1 : IntKind.i64.wrap ((u.length : Int) - (i : Int)) = (u.length : Int) - (i : Int) := IntWalk.i64_in _ (by omega)
  have un2 : IntKind.i64.wrap ((u.length : Int) - (i : Int) + 1) = (u.length : Int) - (i : Int) + 1 := IntWalk.i64_in _ (by omega)
  go_wp2_with fail
  clear gBG lBG
  clear un1 un2
  refine (AT1.out w13 c13.out).mono ?_
  rintro e w14 ⟨rfl, hb⟩
  have c14 := Lib.hid (c13.out.trans (hb.mono c13.out.size))
  have BG14 := Lib.hid (BG13.out.next hb)
  clear hb c13 BG13
  have gBG := BG14.out.cell 0
  have lBG := BG14.out.lt
  have un3 : IntKind.i64.wrap ((i : Int) + (q : Int)) = (i : Int) + (q : Int) := IntWalk.i64_in _ (by omega)
  go_wp2_with fail
  clear gBG lBG
  clear un3
  refine (LA1.out w14 c14.out).mono ?_
  rintro e w15 ⟨rfl, hb⟩
  have c15 := Lib.hid (c14.out.trans (hb.mono c14.out.size))
  have BG15 := Lib.hid (BG14.out.next hb)
  clear hb c14 BG14
  have gBG := BG15.out.cell 0
  have lBG := BG15.out.lt
  go_wp2_with fail
  clear gBG lBG
  refine (UP1.out w15 c15.out).mono ?_
  rintro e w16 ⟨rfl, hb⟩
  have c16 := Lib.hid (c15.out.trans (hb.mono c15.out.size))
  have BG16 := Lib.hid (BG15.out.next hb)
  clear hb c15 BG15
  have gBG := BG16.out.cell 0
  have lBG := BG16.out.lt
  go_wp2_with fail
  clear gBG lBG
  refine (PG.out w16).mono ?_
  rintro e w17 ⟨Ap, cp, rfl, ownp, hb⟩
  have c17 := Lib.hid (c16.out.trans (hb.mono c16.out.size))
  have BG17 := Lib.hid (BG16.out.next hb)
  have Oh := Lib.hid ownp
  clear ownp
  clear hb c16 BG16
  have gBG := BG17.out.cell 0
  have lBG := BG17.out.lt
  go_wp2_with fail
  refine namedC fun w18 H => ?_
  have c18 := Lib.hid (show Below w4.heap.size w4 w18 by rw [H.out]; exact c17.out.alloc c17.out.size _)
  have BG18 := Lib.hid (show Blk w18 w4.heap.size 26 #[.slice A3 n3 c3] by rw [H.out]; exact BG17.out.alloc _)
  have BP18 := Lib.hid (show Blk w18 w17.heap.size 26 #[.slice Ap P.length cp] by rw [H.out]; exact Blk.new _ _ _)
  have Oh2 := Lib.hid (show w18.ownsRow _ 48 3 (.slice Ap P.length cp) P.length (P.flatMap Fac.cells) by rw [H.out]; exact Oh.out.alloc _)
  clear gBG lBG
  clear H c17 BG17
  clear Oh
  have Oh := Oh2
  clear Oh2
  refine (PW.out w18 Ap cp (Rd.of_own (fun x _ => fac_len x) rfl Oh.out)).mono ?_
  rintro e w19 ⟨rfl, hb⟩
  have c19 := Lib.hid (c18.out.trans (hb.mono c18.out.size))
  have BG19 := Lib.hid (BG18.out.next hb)
  have BP19 := Lib.hid (BP18.out.next hb)
  clear Oh
  clear hb c18 BG18 BP18
  have gBG := BG19.out.cell 0
  have lBG := BG19.out.lt
  have gBP := BP19.out.cell 0
  have lBP := BP19.out.lt
  have un4 : IntKind.i64.wrap ((T.size : Int) - 1) = (T.size : Int) - 1 := IntWalk.i64_in _ (by omega)
  have q3 : ((T.size : Int) - 1).toNat = T.size - 1 := by omega
  have q4 : (0 : Int) ≤ (T.size : Int) - 1 := by omega
  have q5 : (T.size : Int) - 1 ≤ (T.size : Int) := by omega
  go_wp2_with fail
  clear gBG lBG gBP lBP
  clear un4
  refine (RGC.out w19 c19.out).mono ?_
  rintro e w20 ⟨Ac, cc, rfl, ownc, hb⟩
  have c20 := Lib.hid (c19.out.trans (hb.mono c19.out.size))
  have BG20 := Lib.hid (BG19.out.next hb)
  have BP20 := Lib.hid (BP19.out.next hb)
  clear hb c19 BG19 BP19
  have gBG := BG20.out.cell 0
  have lBG := BG20.out.lt
  have gBP := BP20.out.cell 0
  have lBP := BP20.out.lt
  have un5 : IntKind.i64.wrap ((i : Int) + 1) = (i : Int) + 1 := IntWalk.i64_in _ (by omega)
  have r1 : ((i : Int) + 1).toNat = i + 1 := by omega
  have r2 : ((i : Int) + (q : Int)).toNat = i + q := by omega
  have r3 : (i : Int) + 1 ≤ (u.length : Int) := by omega
  have r4 : (i : Int) + (q : Int) ≤ (u.length : Int) := by omega
  have r5 : (i : Int) ≤ (i : Int) + (q : Int) := by omega
  go_wp2_with fail
  go_ret
  exact ⟨rfl, bw.out _ (c20.out.alloc c20.out.size _)⟩
def laid3 : List (String × DataW Unit) := Rows.fnGrammarTextRow.laid
/-- a variable of an interface type, listed with what it holds -/
theorem laid_iface {P : Program} {n nm : String} {d : DataW Unit} {r : List (String × DataW Unit)} {W : World} {g : Nat} {ti : TypeId} {ms : Array (String × TypeId)}
    (h : laidMet P ((n, .iface nm d) :: r) W) (hg : P.globalNamed n = some g) (ht : (P.globals[g]?).map (·.type) = some ti) (hi : P.underlying ti = some (.interface ms)) :
    ∃ u v, W.cell? ⟨g, 0, none⟩ = some (.iface u v) := by
  obtain ⟨ps, ⟨g0, t0, cs0, f0, p0, q0, hg0, ht0, hv0, hd0, _, e0⟩, _, _⟩ := h
  obtain rfl := Option.some.inj (hg.symm.trans hg0)
  obtain rfl := Option.some.inj (ht.symm.trans ht0)
  obtain ⟨_, u, v, hcs, _⟩ := iface_of_trod hi hd0
  refine ⟨u, v, ?_⟩
  rw [World.var?_cell hg hv0 0]
  obtain ⟨l⟩ := cs0
  subst hcs; rfl
theorem env_of {W : World} {m : Int} (h : laidMetH Tryd.prog laid3 W) (hm : W.cell? ⟨0, 0, none⟩ = some (.int .i64 m)) : ∃ es er, EnvR m es er W := by
  rw [MakeChecks.laidMetH_plain _ _ _ (by kernel_rfl)] at h
  have h2 := laidMet.tail (laidMet.tail h)
  have hT : TabD W := Lib.tabIs_of_head (t := 121) (e := 75) (n := 20) tab_glob (by kernel_rfl) Tryd.underlying121 Tryd.underlying75 (by kernel_rfl) (by kernel_rfl) h2
  have h3 := laidMet.tail (laidMet.tail h2)
  obtain ⟨u1, v1, e1⟩ := laid_iface h3 (g := 2) (ti := 51) (by kernel_rfl) (by kernel_rfl) Tryd.underlying51
  obtain ⟨u2, v2, e2⟩ := laid_iface (laidMet.tail h3) (g := 1) (ti := 51) (by kernel_rfl) (by kernel_rfl) Tryd.underlying51
  exact ⟨_, _, ⟨hm, e2, e1, ⟨_, _, rfl⟩, ⟨_, _, rfl⟩, hT⟩⟩
/-- the kit's wrap with a condition, the world's shape kept -/
theorem returns_and_shaped {H : Type} {enc : TypeId × Value → H} {a : Assume} {C : Checked} {os : Os} {f : FuncId} {fn : Func} {s : ChangeSpec} {conds : List PathCond} {apart fresh handsOn again : Bool} {X : World → Array Value → Prop}
    (hX : ∀ (w w' : World) (args : Array Value), w.heap = w'.heap → X w args → X w' args)
    (own : ownKnob C.prog.godebug = none) (started : os.Started) (noInit : C.prog.inits.idxOf? f = none) (hfn : C.prog.funcs[f]? = some fn)
    (witness : ∃ (w : World) (tape : Tape) (i : Input), w.os = os ∧ (w.forCall tape i).Shaped C.prog ∧ i.vars = [] ∧ Input.okWide C.prog (w.forCall tape i) .any w.heap.size f i ∧
      ((s.pre enc C.prog fn conds apart (w.forCall tape i).memory i.args ∧ X (w.forCall tape i).memory i.args) ∧ sizedMet enc C.prog fn (OpenSpec.ofChange s) apart (w.forCall tape i).memory i.args) ∧ a.holds C.prog (lone (Frame.enter C.prog f i.args .normal) [] (w.forCall tape i)))
    (contract : ∀ (W : World) (base : Nat) (args : Array Value) (ds gs : List (DataW H)) (before : List MemPlace),
      (∀ (j : Nat) t v, fn.params[j]? = some t → args[j]? = some v → Value.okWide C.prog W .any base t v) →
      DataW.Whole enc C.prog fn.params.toList s.vars apart W args.toList ds gs before →
      conds.all (PathCond.test C.prog ⟨fn.params.toList, ds, s.plain.varTypes C.prog, gs⟩) = true →
      (DataW.weightsEach C.prog (fn.params.toList ++ s.plain.varTypes C.prog) (ds ++ gs)).all (· ≤ reachBytes) = true → X W args →
      a.holds C.prog (lone (Frame.enter C.prog f args .normal) [] W) → W.ShapedOpen C.prog →
      Calls C.prog f args W fun e W' => ∃ v, e = .returned v ∧ s.post enc C.prog fn apart fresh handsOn again W args v W') :
    ReturnsInHanded a C os f .any (fun w args => (s.pre enc C.prog fn conds apart w args ∧ X w args) ∧ sizedMet enc C.prog fn (OpenSpec.ofChange s) apart w args) (s.post enc C.prog fn apart fresh handsOn again) := by
  refine returnsInHanded_of_calls own started noInit witness ?_
  intro w tape i _ hsh _ hok hpre hholds
  obtain ⟨_, _, _, fn', hfn', _, _, _, _, hval⟩ := hok
  have e : fn' = fn := Option.some.inj (hfn'.symm.trans hfn)
  subst e
  obtain ⟨⟨⟨ds, gs, before, hw, hc⟩, hx⟩, hz⟩ := hpre
  have hw' := DataW.Whole.of_heap (w' := w.forCall tape i) (by rfl) hw
  refine (contract (w.forCall tape i) w.heap.size i.args ds gs before hval hw' hc (hz.weights hw) (hX _ _ _ (by rfl) hx) hholds hsh).mono fun e W' ⟨v, he, hp⟩ => ?_
  subst he
  exact ChangeSpec.post_blind hp
set_option maxRecDepth 100000 in
theorem fnGrammarText_contract (H : Type) (enc : TypeId × Value → H) (W : World) (base : Nat) (args : Array Value) (ds gs : List (DataW H)) (before : List MemPlace)
    (hval : ∀ (j : Nat) t v, Tryd.f3.params[j]? = some t → args[j]? = some v → Value.okWide Tryd.prog W .any base t v)
    (hW : DataW.Whole enc Tryd.prog Tryd.f3.params.toList Rows.fnGrammarTextSpec.vars false W args.toList ds gs before) (hL : laidMetH Tryd.prog laid3 W) (hsh : W.ShapedOpen Tryd.prog) :
    Calls Tryd.prog 3 args W fun e W' => ∃ v, e = .returned v ∧ Rows.fnGrammarTextSpec.post enc Tryd.prog Tryd.f3 false true false false W args v W' := by
  have hW' := hW
  obtain ⟨p, q, hA0, hV, rfl, hfz, hnd⟩ := hW
  have hA : DataW.TrodAll enc Tryd.prog W 0 (fun _ => true) true Tryd.f3.params.toList args.toList ds p := hA0
  rw [Tryd.params3] at hA hval
  obtain ⟨v0, vs0, d0, ds0, p0, q0, hargs, rfl, rfl, h0, r0⟩ := trodAll_cons hA
  obtain ⟨v1, vs1, d1, ds1, p1, q1, rfl, rfl, rfl, h1, r1⟩ := trodAll_cons r0
  obtain ⟨rfl, rfl, rfl⟩ := trodAll_nil r1
  obtain rfl : args = #[v0, v1] := by cases args; simp_all
  obtain ⟨rfl, rfl⟩ := trodVars_none hV
  obtain ⟨A0, n0, c0, zs0, rfl, hn0, rd0, ok0⟩ := open_bytes Tryd.underlying22 Tryd.underlying5 (by kernel_rfl) (hval 0 22 v0 rfl rfl) h0
  obtain ⟨A1, n1, c1, zs1, rfl, hn1, rd1, ok1⟩ := open_bytes Tryd.underlying22 Tryd.underlying5 (by kernel_rfl) (hval 1 22 v1 rfl rfl) h1
  clear hA0
  obtain ⟨m, hm⟩ := Tryd.laysM146.s1_3 W hsh
  obtain ⟨es, er, hE⟩ := env_of hL hm
  refine (walkGt m es er A0 n0 c0 zs0 A1 n1 c1 zs1 W hE hn0 rd0 ok0 hn1 rd1 ok1).mono fun e W' ⟨he, hb⟩ => ?_
  subst he
  exact ⟨_, rfl, law_post laidOut hW' rfl 4 Tryd.underlying4 (by kernel_rfl) (by rw [Tryd.params3]; intro t ht; simp at ht; first | (subst ht; exact ⟨by kernel_rfl, of_decide_eq_true (by kernel_rfl)⟩) | (rcases ht with rfl | rfl <;> exact ⟨by kernel_rfl, of_decide_eq_true (by kernel_rfl)⟩) | (rcases ht with rfl | rfl | rfl <;> exact ⟨by kernel_rfl, of_decide_eq_true (by kernel_rfl)⟩) | (rcases ht with rfl | rfl | rfl | rfl <;> exact ⟨by kernel_rfl, of_decide_eq_true (by kernel_rfl)⟩)) rfl hb⟩

set_option maxRecDepth 100000 in
theorem fnGrammarText_lifted (os : Os) (started : os.Started) (H : Type) (enc : TypeId × Value → H) :
    ReturnsInHanded {} Tryd.checked os 3 .any (fun w args => (Rows.fnGrammarTextSpec.pre enc Tryd.prog Tryd.f3 [] false w args ∧ laidMetH Tryd.prog laid3 w) ∧ sizedMet enc Tryd.prog Tryd.f3 (OpenSpec.ofChange Rows.fnGrammarTextSpec) false w args)
      (Rows.fnGrammarTextSpec.post enc Tryd.prog Tryd.f3 false true false false) := by
  refine returns_and_shaped (C := Tryd.checked) (X := fun w _ => laidMetH Tryd.prog laid3 w) (fun _ _ _ hh h => h.of_heap hh) own started (by kernel_rfl) Tryd.func3
    (ChangeSpec.witness_shaped (enc := enc) (C := Tryd.checked) (os := os) (X := fun w _ => laidMetH Tryd.prog laid3 w) false (World.laidAll Tryd.prog os laid3) #[.slice none 0 0, .slice none 0 0] 8 (World.laidAll_os _ _ _) (World.shaped_of_ZipB (by kernel_rfl) (by kernel_rfl)) (by kernel_rfl) (by kernel_rfl) (by kernel_rfl) (by rw [MakeChecks.laidMetH_plain _ _ _ (by kernel_rfl)]; exact laidMet_laidAll _ (by kernel_rfl) (by kernel_rfl))) ?_
  intro W base args ds gs before hval0 hW _ _ hL _ hsh
  exact fnGrammarText_contract H enc W base args ds gs before hval0 hW hL hsh

theorem fnGrammarText_holds : Rows.FnGrammarTextSaid :=
  OpenClaim.holds_of_wide 3 Tryd.f3 rfl rfl rfl rfl rfl rfl rfl ⟨rfl, rfl, rfl, rfl, rfl⟩ rfl rfl rfl rfl rfl (by as_aux_lemma => kernel_rfl) Tryd.func3
    (joined_mk (by as_aux_lemma => kernel_rfl) laidOut mapsRowed' (by as_aux_lemma => kernel_rfl) (by as_aux_lemma => kernel_rfl) (by as_aux_lemma => kernel_rfl) (by as_aux_lemma => kernel_rfl) (by as_aux_lemma => kernel_rfl) (by as_aux_lemma => kernel_rfl) plainKeys' rfl heard' mayEnter' lifts' make' (by as_aux_lemma => kernel_rfl))
    (of_decide_eq_true (by kernel_rfl)) (by unfold Func.isWrapper; first | (rw [if_pos (by decide +kernel)]; kernel_rfl) | (rw [if_neg (by decide +kernel)]; exact ⟨rfl, rfl⟩))
    (fun os started H enc _ => fnGrammarText_lifted os started H enc)

theorem fnGrammarTextCard_holds : Rows.FnGrammarTextCardSaid :=
  Claim7.holds_tied_plain_at .later [] [.data, .data, .data, .data, .sentinel, .sentinel, .pinned] true Rows.fnGrammarTextCard.stood.harness true
    fnGrammarText_holds (fun _ h => by cases h) (by kernel_rfl) (fun _ h => by cases h) fnGrammarText_row_tie rfl ⟨rfl, rfl⟩ (by kernel_rfl) rfl
    (fun f fn hf hfn => by
      obtain rfl : f = 3 := Option.some.inj ((show Tryd.prog.funcNamed Rows.fnGrammarTextRow.func = some 3 by kernel_rfl).symm.trans hf) |>.symm
      obtain rfl : fn = Tryd.f3 := (Option.some.inj (Tryd.func3.symm.trans hfn)).symm
      exact ⟨by kernel_rfl, fun j t ht => by
        rw [Tryd.params3] at ht
        have hm : t ∈ [22, 22] := by simpa using Array.mem_of_getElem? ht
        have hall : ([22, 22].all fun u => !Tryd.prog.wantsStandIn u) = true := by kernel_rfl
        exact (show Tryd.prog.wantsStandIn t = false by simpa using List.all_eq_true.1 hall t hm)⟩)
    (by kernel_rfl)
end Go.Proofs.YtnhkoinjjbfofaaDoor
