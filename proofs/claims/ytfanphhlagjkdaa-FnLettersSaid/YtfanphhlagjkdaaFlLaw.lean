/-
  The statement FnLetters: for all bytes, the letters, the pairs of letters and the runs of the grammar that is drawn from them are counted as in its unpacked word. No condition.
-/
import Derived.Test.YtfanphhlagjkdaaP5

namespace Go.Proofs.Ytfanphhlagjkdaa
open Go.ChangeShapes Go.WideShapes Go.ChangeAt Go.RowKit

theorem rd_intA {w : World} {g : Nat} {t : TypeId} {xs : List Int} (h : Blk w g t (intA xs)) : Rd w w.heap.size (some ⟨g, 0, none⟩) xs.length 1 intE xs := by
  refine ⟨rfl, fun _ => ⟨g, 0, rfl, h.lt, fun k x hx j v hv => ?_⟩⟩
  obtain ⟨hk, rfl⟩ := List.getElem?_eq_some_iff.1 hx
  obtain ⟨hj, rfl⟩ := List.getElem?_eq_some_iff.1 hv
  have hj0 : j = 0 := by simp [intE] at hj; exact hj
  subst hj0
  have h1 := h.cell k
  rw [intA_at xs hk, List.getD_eq_getElem?_getD, List.getElem?_eq_getElem hk] at h1
  simpa [intE] using h1
set_option maxHeartbeats 8000000 in
set_option maxRecDepth 100000 in
theorem walkLetters (A : Option Addr) (n c : Nat) (zs : List Int) (D : Option Addr) (m d : Nat) (ys : List Int) (w : World)
    (hn : n ≤ maxLen) (hx : Rd w w.heap.size A n 1 (fun z => [.int .u8 z]) zs) (ox : ∀ z ∈ zs, 0 ≤ z ∧ z < 256) (hm : m ≤ maxLen) (_hy : Rd w w.heap.size D m 1 (fun z => [.int .u8 z]) ys) (_oy : ∀ z ∈ ys, 0 ≤ z ∧ z < 256) :
    Calls Try.prog 4 #[.slice A n c, .slice D m d] w (Ret (.bool true) w) := by
  by_cases h1 : 4096 < n
  · have h1' := Lib.hid (decide_eq_true h1)
    go_enter Try.func4, Try.ntmps4
    go_wp2_with fail
    refine (f6big_any A n c w hn true h1'.out).mono ?_
    rintro e w1 ⟨rfl, hb1⟩
    go_wp2_with fail
    go_ret
    exact ⟨rfl, hb1⟩
  by_cases h2 : 4096 < m
  · have h1' := Lib.hid (decide_eq_false h1)
    have h2' := Lib.hid (decide_eq_true h2)
    go_enter Try.func4, Try.ntmps4
    go_wp2_with fail
    refine (f6big_any A n c w hn false h1'.out).mono ?_
    rintro e w1 ⟨rfl, hb1⟩
    go_wp2_with fail
    refine (f6big_any D m d w1 hm true h2'.out).mono ?_
    rintro e w2 ⟨rfl, hb2⟩
    go_wp2_with fail
    go_ret
    exact ⟨rfl, hb1.trans (hb2.mono hb1.size)⟩
  have h1' := Lib.hid (decide_eq_false h1)
  have h2' := Lib.hid (decide_eq_false h2)
  have hbs := Lib.hid (hx.bytes ox)
  clear hx
  go_enter Try.func4, Try.ntmps4
  go_wp2_with fail
  refine (f6big_any A n c w hn false h1'.out).mono ?_
  rintro e w1 ⟨rfl, hb1⟩
  go_wp2_with fail
  refine (f6big_any D m d w1 hm false h2'.out).mono ?_
  rintro e w2 ⟨rfl, hb2⟩
  have b2 := hb1.trans (hb2.mono hb1.size)
  go_wp2_with fail
  refine (p6Grammar_any A n c _ w2 (by omega) (hbs.out.next b2)).mono ?_
  rintro e w3 ⟨A3, c3, rs, rfl, ok, own3, hb3⟩
  have Hgok := Lib.hid ok.gok
  have Hwf := Lib.hid ok.wf
  have Hsz := Lib.hid (wf_sz ok.wf)
  have hfew := ok.few
  have hlen8 := ok.len
  have HL4 := Lib.hid (wdN_let ok.wf)
  obtain ⟨ls, hls⟩ := Option.isSome_iff_exists.1 Hgok.out
  have b3 := Lib.hid (b2.trans (hb3.mono b2.size))
  have R3 := Lib.hid (Rd.of_own (fun x _ => fac_len x) rfl own3)
  have UW := Lib.hid (fun W (hb : Below w3.heap.size w3 W) => unpackWord_any A3 rs.length c3 rs ls W (R3.out.next hb) Hsz.out hls (by omega))
  have PC := Lib.hid (fun W (hb : Below w3.heap.size w3 W) => implPairC_any A3 rs.length c3 rs W (by omega) (R3.out.next hb) Hsz.out)
  have RC := Lib.hid (fun W (hb : Below w3.heap.size w3 W) => implRuns_any A3 rs.length c3 rs W (by omega) (R3.out.next hb) Hsz.out)
  have LC := Lib.hid (fun W (hb : Below w3.heap.size w3 W) => implLr_any A3 rs.length c3 rs W (by omega) (R3.out.next hb) Hsz.out)
  have hpl : (pairL rs).length = 4 := by rw [(pairL2 Hgok.out).1, List.length_map]; exact pcT_len _ _
  rw [runsV2 Hgok.out, runsN_word Hwf.out] at RC
  unfold tup2 at RC
  rw [(pairL2 Hgok.out).2, hpl] at PC
  have hlc : lrL rs = lrTop rs ∧ lrC rs = 0 := by unfold lrL lrC; rw [Hgok.out]; exact ⟨rfl, rfl⟩
  rw [hlc.1, hlc.2, ← dueL_all Hwf.out] at LC
  have Hrow := Lib.hid (fun (k i : Nat) (hk : k < 4) (hi : (wdN rs).length ≤ i + 1) => rowL_all Hwf.out Hgok.out hk hi)
  have RO := Lib.hid (fun W => runsOf_any (wdN rs) W HL4.out (by omega))
  have Hrl := Lib.hid (runsL_let (wdN rs) HL4.out)
  generalize pairL rs = pl at *
  generalize hrs : rs.length = n3 at *
  have Hrs := Lib.hid hrs
  clear hrs hls ok own3 hb3 hb1 hb2 hbs R3 Hsz h1 h2 ox hn hm hpl hlc
  generalize wdN rs = u at *
  have Hs := Lib.hid (tx_at u HL4.out)
  have hsz := tx_size u
  generalize tx u = s at *
  have HU := Lib.hid hsz
  have hs8 : s.size ≤ 8 := by omega
  have hrl8 : (runsL u).length ≤ 8 := by have := runsL_le u; omega
  generalize hR : (runsL u).length = R at *
  have HR := Lib.hid hR
  have BG0 := Lib.hid (Blk.new w3 26 #[.slice A3 n3 c3])
  have g0 := BG0.out.cell 0
  have gl0 := BG0.out.lt
  clear hsz hR
  go_wp2_with fail
  refine namedC fun w4 H4 => ?_
  have hb4 : Below w3.heap.size w3 w4 := by rw [H4.out]; (repeat first | exact Below.refl _ _ | assumption | refine Below.drew ?_ | refine Below.alloc ?_ (by first | exact Nat.le_refl _ | (simp; done) | omega | (simp; omega)) _ | refine Below.setCell ?_ (by first | exact Nat.le_refl _ | (simp; done) | omega | (simp; omega)) _)
  have BG4 := Lib.hid (show Blk w4 w3.heap.size 26 #[.slice A3 n3 c3] by rw [H4.out]; exact Blk.new _ _ _)
  clear H4 BG0 g0 gl0
  refine (UW.out w4 hb4).mono ?_
  rintro e w5 ⟨rfl, hb5⟩
  have b5 := Lib.hid (hb4.trans (hb5.mono hb4.size))
  have BG5 := Lib.hid (BG4.out.next hb5)
  have g5 := BG5.out.cell 0
  have gl5 := BG5.out.lt
  clear hb4 hb5 BG4 UW
  go_wp2_with fail
  refine (PC.out w5 b5.out).mono ?_
  rintro e w6 ⟨A6, c6, gs6, rfl, tab6, hb6⟩
  have b6 := Lib.hid (b5.out.trans (hb6.mono b5.out.size))
  have BG6 := Lib.hid (BG5.out.next hb6)
  have T6 := Lib.hid tab6
  have g6 := BG6.out.cell 0
  have gl6 := BG6.out.lt
  clear hb6 tab6 g5 gl5 BG5 PC
  go_wp2_with fail
  refine (RC.out w6 b6.out).mono ?_
  rintro e w7 ⟨rfl, hb7⟩
  have b7 := Lib.hid (b6.out.trans (hb7.mono b6.out.size))
  have BG7 := Lib.hid (BG6.out.next hb7)
  have T7 := Lib.hid (T6.out.next hb7)
  have g7 := BG7.out.cell 0
  have gl7 := BG7.out.lt
  clear hb7 T6 g6 gl6 BG6 RC
  go_wp2_with fail
  refine (LC.out w7 b7.out).mono ?_
  rintro e w8 ⟨A8, c8, rfl, own8, hb8⟩
  have b8 := Lib.hid (b7.out.trans (hb8.mono b7.out.size))
  have T8 := Lib.hid (T7.out.next hb8)
  have O8 := Lib.hid own8
  clear hb8 own8 T7 g7 gl7 BG7 LC
  go_wp2_with fail
  refine (RO.out w8).mono ?_
  rintro e w9 ⟨A9, c9, rfl, own9, hb9⟩
  have b9 := Lib.hid (b8.out.trans (hb9.mono b8.out.size))
  have T9 := Lib.hid (T8.out.next hb9)
  have O9 := Lib.hid (own_next O8.out hb9)
  rw [HR.out] at own9
  have RR := Lib.hid own9
  have HZ9 := Lib.hid hb9.size
  clear hb9 own9 T8 O8 RO
  have mkN := fun W => show (Instr.makeSlice 43 (.int .i64 4) (.int .i64 4)).run Try.prog W = .ok (.slice (some ⟨W.heap.size, 0, none⟩) 4 4) (W.alloc (.cells (intA (List.replicate 4 0)) 2)) from makeN 4 W (by omega)
  have MKN := Lib.hid mkN
  have hdl : (dueL u R).length = 4 := rfl
  rw [HR.out]
  rw [hdl] at *
  clear hdl
  have hz9 : w8.heap.size ≤ w9.heap.size := HZ9.out
  go_wp2_with fail
  have BD0 := Lib.hid (show Blk (w9.alloc (.cells (intA (List.replicate 4 0)) 2)) w9.heap.size 2 (intA (dueL u 0)) from Blk.new _ _ _)
  have BB0 := Lib.hid (show Below w9.heap.size w9 (w9.alloc (.cells (intA (List.replicate 4 0)) 2)) by (repeat first | exact Below.refl _ _ | assumption | refine Below.drew ?_ | refine Below.alloc ?_ (by first | exact Nat.le_refl _ | (simp; done) | omega | (simp; omega)) _ | refine Below.setCell ?_ (by first | exact Nat.le_refl _ | (simp; done) | omega | (simp; omega)) _))
  clear mkN
  go_loopw [17] (fun i_ w' => ∃ i : Nat, i_ = .int .i64 i ∧ i ≤ R ∧ Hid (Below w9.heap.size w9 w') ∧ Hid (Blk w' w9.heap.size 2 (intA (dueL u i)))) (fun i_ _ => R - (intOf i_).toNat)
  case atStart => exact ⟨0, rfl, by omega, BB0, BD0⟩
  case round =>
    obtain ⟨i, rfl, hi, hbb, hbd⟩ := hrel
    clear BB0 BD0
    by_cases hlt : i < R
    · have hrun : (runsL u)[i]? = some ((runsL u).getD i default) := by
        rw [List.getD_eq_getElem?_getD, List.getElem?_eq_getElem (by rw [HR.out]; exact hlt)]; rfl
      have hl4 := Hrl.out _ (List.mem_of_getElem? hrun)
      have RR2 := own_next RR.out hbb.out
      obtain ⟨gr, cpr, hvr, _, _⟩ := RR2.form (by omega)
      obtain rfl : A9 = some ⟨gr, 0, none⟩ := by injection hvr
      have hgr := (RR2.lt gr rfl).2
      have k0 := own_at (sz := 2) (enc := encR) (fun r _ => lenR r) RR2 HR.out default i hlt 0 (by omega)
      have k1 := own_at (sz := 2) (enc := encR) (fun r _ => lenR r) RR2 HR.out default i hlt 1 (by omega)
      have hst := dueL_step u (i := i) (l := ((runsL u).getD i default).1) (c := ((runsL u).getD i default).2) hrun hl4
      generalize (runsL u).getD i default = rn at *
      obtain ⟨l, cv⟩ := rn
      have c0 : wr.cell? ⟨gr, i * 2, none⟩ = some (.string (tx [l])) := k0
      have c1 : wr.cell? ⟨gr, i * 2 + 1, none⟩ = some (.int .i64 cv) := k1
      have hl4 : l < 4 := hl4
      obtain ⟨s1, hs1e⟩ : ∃ s1, tx [l] = s1 := ⟨_, rfl⟩
      have hs1z : s1.size = 1 := by rw [← hs1e, tx_size]; rfl
      have s10 : 0 < s1.size := by omega
      have hs1v : s1[0].toNat = 97 + l := by
        subst hs1e
        exact (tx_at [l] (fun x hx => by simp at hx; subst hx; exact hl4) 0 s10).1
      rw [hs1e] at c0
      have hdv := (hbd.out).cell l
      rw [intA_at _ (show l < (dueL u i).length from hl4), show (dueL u i).getD l 0 = mx l ((runsL u).take i) from four_at _ hl4] at hdv
      generalize mx l ((runsL u).take i) = mv at *
      have HST := Lib.hid hst
      have hdf := (hbd.out).frozen l
      have hdl := (hbd.out).lt
      have i0 : (0 : Int) ≤ (i : Int) := by omega
      have i1 : (i : Int) < (R : Int) := by omega
      clear hrun k0 k1 hst hs1e hvr RR2
      have hdc : wr.drew.cell? ⟨w9.heap.size, l, none⟩ = some (.int .i64 mv) := hdv
      have BX := Lib.hid (show Blk (wr.drew.setCell ⟨w9.heap.size, l, none⟩ (.int .i64 cv)) w9.heap.size 2 (intA ((dueL u i).set l cv)) by rw [← intA_set]; exact hbd.out.drew.set_ l _)
      have BY := Lib.hid (show Below w9.heap.size w9 (wr.drew.setCell ⟨w9.heap.size, l, none⟩ (.int .i64 cv)) from (hbb.out.trans ((Below.refl _ _).drew.mono hbb.out.size)).setCell (Nat.le_refl _) _)
      have BW := Lib.hid (hbb.out.trans ((Below.refl wr.heap.size wr).drew.mono hbb.out.size))
      by_cases hgt : mv < cv
      · have hS := Lib.hid (HST.out.1 hgt)
        rcases (show l = 0 ∨ l = 1 ∨ l = 2 ∨ l = 3 by omega) with rfl | rfl | rfl | rfl
        all_goals
          go_wp2_with fail
          go_region
          all_goals
            go_wp2_with fail
            go_roundw
            case rel => exact ⟨i + 1, by go_num, by omega, BY, Lib.hid (by rw [← hS.out]; exact BX.out)⟩
            case measure => simp [intOf]; omega
      · have hS := Lib.hid (HST.out.2 hgt)
        rcases (show l = 0 ∨ l = 1 ∨ l = 2 ∨ l = 3 by omega) with rfl | rfl | rfl | rfl
        all_goals
          go_wp2_with fail
          go_region
          all_goals
            go_wp2_with fail
            go_roundw
            case rel => exact ⟨i + 1, by go_num, by omega, BW, Lib.hid (by rw [← hS.out]; exact hbd.out.drew)⟩
            case measure => simp [intOf]; omega
    · obtain rfl : i = R := by omega
      have OL := Lib.hid (show w9.ownsRow w7.heap.size 2 1 (.slice A8 4 c8) 4 ((dueL u i).flatMap intE) from O9.out)
      have CF := Lib.hid (f6ints_any A8 (some ⟨w9.heap.size, 0, none⟩) 4 c8 4 (dueL u i) wr (by omega) (Rd.of_own (fun _ _ => rfl) rfl (own_next OL.out hbb.out)) (rd_intA hbd.out))
      clear O9 hbd
      go_wp2_with fail
      refine CF.out.mono ?_
      rintro e wa ⟨rfl, hba⟩
      have BA := Lib.hid (hbb.out.trans (hba.mono hbb.out.size))
      clear hba hbb CF OL
      go_wp2_with fail
      go_loopw [19] (fun k_ w' => ∃ k : Nat, k_ = .int .i64 k ∧ k ≤ 4 ∧ Hid (Below w9.heap.size w9 w')) (fun k_ _ => 4 - (intOf k_).toNat)
      case atStart => exact ⟨0, rfl, by omega, BA⟩
      case round =>
        obtain ⟨k, rfl, hk, hbk⟩ := hrel
        clear BA
        by_cases hk4 : k < 4
        · have k1 : (k : Int) < 4 := by omega
          have k0 : (0 : Int) ≤ (k : Int) := by omega
          obtain ⟨wo, rfl⟩ : ∃ wo : World, wo = wr := ⟨_, rfl⟩
          have mkN := MKN.out
          have BR0 := Lib.hid (show Blk (wo.alloc (.cells (intA (List.replicate 4 0)) 2)) wo.heap.size 2 (intA (rowL u k 0)) by rw [rowL_0]; exact Blk.new _ _ _)
          have BO0 := Lib.hid (show Below w9.heap.size w9 (wo.alloc (.cells (intA (List.replicate 4 0)) 2)) from hbk.out.alloc hbk.out.size _)
          have hlo := hbk.out.size
          go_wp2_with fail
          clear mkN
          go_loopw [21] (fun i_ w' => ∃ i : Nat, i_ = .int .i64 i ∧ i ≤ s.size ∧ Hid (Below w9.heap.size w9 w') ∧ Hid (Blk w' wo.heap.size 2 (intA (rowL u k i)))) (fun i_ _ => s.size - (intOf i_).toNat)
          case atStart => exact ⟨0, rfl, by omega, BO0, BR0⟩
          case round =>
            obtain ⟨i, rfl, hi, hbo, hbr⟩ := hrel
            clear BO0 BR0
            have um : IntKind.i64.wrap ((i : Int) + 1) = ((i + 1 : Nat) : Int) := by rw [IntWalk.i64_in _ (by omega)]; omega
            by_cases hlt : i + 1 < s.size
            · obtain ⟨hb1, hx4⟩ := Hs.out i (by omega)
              obtain ⟨hb2, hy4⟩ := Hs.out (i + 1) hlt
              have hil : i < s.size := by omega
              have hst := Lib.hid (rowL_step u (k := k) (i := i) (l := u.getD (i + 1) 0) (by rw [← HU.out]; exact hlt) hy4 rfl)
              have hrc := hbr.out.cell (u.getD (i + 1) 0)
              rw [intA_at _ (show u.getD (i + 1) 0 < (rowL u k i).length from hy4)] at hrc
              have hvb : 0 ≤ (rowL u k i).getD (u.getD (i + 1) 0) 0 ∧ (rowL u k i).getD (u.getD (i + 1) 0) 0 ≤ 1000 := by
                rw [show (rowL u k i).getD (u.getD (i + 1) 0) 0 = adj k (u.getD (i + 1) 0) (u.take (i + 1)) from four_at _ hy4]
                have h := adj_le k (u.getD (i + 1) 0) (u.take (i + 1))
                rw [List.length_take] at h
                omega
              generalize u.getD i 0 = x at *
              generalize u.getD (i + 1) 0 = y at *
              generalize hv : (rowL u k i).getD y 0 = v at *
              have hrf := hbr.out.frozen y
              have hrl := hbr.out.lt
              have uv : IntKind.i64.wrap (v + 1) = v + 1 := IntWalk.i64_in _ (by omega)
              have uk : IntKind.u8.wrap (97 + (k : Int)) = 97 + (k : Int) := by rw [IntKind.wrap_u8]; omega
              have i0 : (0 : Int) ≤ (i : Int) := by omega
              have i2 : (i : Int) + 1 < (s.size : Int) := by omega
              have i3 : (i : Int) < (s.size : Int) := by omega
              have BX := Lib.hid (show Blk (wr.setCell ⟨wo.heap.size, y, none⟩ (.int .i64 (v + 1))) wo.heap.size 2 (intA ((rowL u k i).set y (v + 1))) by rw [← intA_set]; exact hbr.out.set_ y _)
              have BY := Lib.hid (show Below w9.heap.size w9 (wr.setCell ⟨wo.heap.size, y, none⟩ (.int .i64 (v + 1))) from hbo.out.setCell hlo _)
              clear hv
              by_cases hxk : x = k
              · have hS := Lib.hid (hst.out.1 hxk)
                subst hxk
                rcases (show y = 0 ∨ y = 1 ∨ y = 2 ∨ y = 3 by omega) with rfl | rfl | rfl | rfl
                all_goals
                  go_wp2_with fail
                  go_roundw
                  case rel => exact ⟨i + 1, by go_num, by omega, BY, Lib.hid (by rw [← hS.out]; exact BX.out)⟩
                  case measure => simp [intOf]; omega
              · have hS := Lib.hid (hst.out.2 hxk)
                have hne : ¬ ((97 : Int) + (x : Int) = 97 + (k : Int)) := by omega
                go_wp2_with fail
                go_roundw
                case rel => exact ⟨i + 1, by go_num, by omega, hbo, Lib.hid (by rw [← hS.out]; exact hbr.out)⟩
                case measure => simp [intOf]; omega
            · have hrw := Hrow.out k i hk4 (by rw [← HU.out]; omega)
              have T2 := Lib.hid (T9.out.next hbo.out)
              obtain ⟨p, g, hA6, hp, hgs, hcp, hown⟩ := T2.out.at_ hk4
              subst hA6
              have BR2 := hbr.out
              rw [hrw] at BR2
              have hml : (pl.getD k []).length = 4 := T9.out.m k hk4
              have CF := Lib.hid (f6ints_any (some ⟨g, 0, none⟩) (some ⟨wo.heap.size, 0, none⟩) 4 4 4 (pl.getD k []) wr (by omega) (Rd.of_own (fun _ _ => rfl) hml hown) (by have h := rd_intA BR2; rw [hml] at h; exact h))
              have i2 : ¬ ((i : Int) + 1 < (s.size : Int)) := by omega
              clear hgs hown BR2 hrw hml
              go_wp2_with fail
              refine CF.out.mono ?_
              rintro e wb ⟨rfl, hbb⟩
              have BB := Lib.hid (hbo.out.trans (hbb.mono hbo.out.size))
              clear hbb hbo hbr CF hcp
              go_wp2_with fail
              go_roundw
              case rel => exact ⟨k + 1, by go_num, by omega, BB⟩
              case measure => simp [intOf]; omega
        · go_wp2_with fail
          go_ret
          exact ⟨rfl, b3.out.trans ((b9.out.trans (hbk.out.mono b9.out.size)).mono b3.out.size)⟩
set_option maxRecDepth 100000 in
theorem fnLetters_contract (H : Type) (enc : TypeId × Value → H) (W : World) (base : Nat) (args : Array Value) (ds gs : List (DataW H)) (before : List MemPlace)
    (hval : ∀ (j : Nat) t v, Try.f4.params[j]? = some t → args[j]? = some v → Value.okWide Try.prog W .any base t v)
    (hW : DataW.Whole enc Try.prog Try.f4.params.toList Rows.fnLettersSpec.vars false W args.toList ds gs before) :
    Calls Try.prog 4 args W fun e W' => ∃ v, e = .returned v ∧ Rows.fnLettersSpec.post enc Try.prog Try.f4 false true false false W args v W' := by
  have hW' := hW
  obtain ⟨p, q, hA0, hV, rfl, hfz, hnd⟩ := hW
  have hA : DataW.TrodAll enc Try.prog W 0 (fun _ => true) true Try.f4.params.toList args.toList ds p := hA0
  rw [Try.params4] at hA hval
  obtain ⟨v0, vs0, d0, ds0, p0, q0, hargs, rfl, rfl, h0, r0⟩ := trodAll_cons hA
  obtain ⟨v1, vs1, d1, ds1, p1, q1, rfl, rfl, rfl, h1, r1⟩ := trodAll_cons r0
  obtain ⟨rfl, rfl, rfl⟩ := trodAll_nil r1
  obtain rfl : args = #[v0, v1] := by cases args; simp_all
  obtain ⟨rfl, rfl⟩ := trodVars_none hV
  obtain ⟨A0, n0, c0, zs0, rfl, hn0, rd0, ok0⟩ := open_bytes Try.underlying22 Try.underlying5 (by kernel_rfl) (hval 0 22 v0 rfl rfl) h0
  obtain ⟨A1, n1, c1, zs1, rfl, hn1, rd1, ok1⟩ := open_bytes Try.underlying22 Try.underlying5 (by kernel_rfl) (hval 1 22 v1 rfl rfl) h1
  clear hA0
  refine (walkLetters A0 n0 c0 zs0 A1 n1 c1 zs1 W hn0 rd0 ok0 hn1 rd1 ok1).mono fun e W' ⟨he, hb⟩ => ?_
  subst he
  exact ⟨_, rfl, law_post laidOut hW' rfl 4 Try.underlying4 (by kernel_rfl) (by rw [Try.params4]; intro t ht; simp at ht; first | (subst ht; exact ⟨by kernel_rfl, of_decide_eq_true (by kernel_rfl)⟩) | (rcases ht with rfl | rfl <;> exact ⟨by kernel_rfl, of_decide_eq_true (by kernel_rfl)⟩) | (rcases ht with rfl | rfl | rfl <;> exact ⟨by kernel_rfl, of_decide_eq_true (by kernel_rfl)⟩) | (rcases ht with rfl | rfl | rfl | rfl <;> exact ⟨by kernel_rfl, of_decide_eq_true (by kernel_rfl)⟩)) rfl hb⟩

set_option maxRecDepth 100000 in
theorem fnLetters_lifted (os : Os) (started : os.Started) (H : Type) (enc : TypeId × Value → H) :
    ReturnsInHanded {} Try.checked os 4 .any (Rows.fnLettersSpec.pre6 enc Try.prog Try.f4 Rows.fnLettersRow.domain false) (Rows.fnLettersSpec.post enc Try.prog Try.f4 false true false false) := by
  refine returnsInHanded_of_change (C := Try.checked) own started (by kernel_rfl) Try.func4
    (ChangeSpec.witness6 (enc := enc) (C := Try.checked) false ⟨#[], #[.slice none 0 0, .slice none 0 0], []⟩ 8 (by kernel_rfl) (by kernel_rfl) (by kernel_rfl) (by kernel_rfl)) ?_
  intro W base args ds gs before hval0 hW hcnd _
  exact fnLetters_contract H enc W base args ds gs before hval0 hW

theorem fnLetters_holds : Rows.FnLettersSaid :=
  OpenClaim.holds_of_wide 4 Try.f4 rfl rfl rfl rfl rfl rfl rfl ⟨rfl, rfl, rfl, rfl, rfl⟩ rfl rfl rfl rfl rfl (by as_aux_lemma => kernel_rfl) Try.func4
    (joined_mk (by as_aux_lemma => kernel_rfl) laidOut mapsRowed' (by as_aux_lemma => kernel_rfl) (by as_aux_lemma => kernel_rfl) (by as_aux_lemma => kernel_rfl) (by as_aux_lemma => kernel_rfl) (by as_aux_lemma => kernel_rfl) (by as_aux_lemma => kernel_rfl) plainKeys' rfl heard' mayEnter' lifts' make' (by as_aux_lemma => kernel_rfl))
    (of_decide_eq_true (by kernel_rfl)) (by unfold Func.isWrapper; first | (rw [if_pos (by decide +kernel)]; kernel_rfl) | (rw [if_neg (by decide +kernel)]; exact ⟨rfl, rfl⟩))
    (fun os started H enc _ => fnLetters_lifted os started H enc)

end Go.Proofs.Ytfanphhlagjkdaa
