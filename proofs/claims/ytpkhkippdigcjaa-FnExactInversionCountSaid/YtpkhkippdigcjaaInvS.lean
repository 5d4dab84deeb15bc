/-
  InversionCount in the reference.
-/
import Derived.Test.YtpkhkippdigcjaaInv
namespace Go.Proofs.Ytpkhkippdigcjaa
open Go.RowKit

theorem modC_inv (rs : List Fac) (m : Int) : (modC rs .empty m ≠ 0 ∧ invV rs m = tup2 0 (modC rs .empty m)) ∨ (modC rs .empty m = 0 ∧ (gOk rs).isSome = true ∧ 1 ≤ m ∧ m ≤ 1000000000 ∧ invV rs m = tup2 (topI plF (invG (cnts rs) m) rs) 0) := by
  have hw : okW .empty = true := by decide
  rcases h1 : (gOk rs).isSome with _ | _
  · have e : modC rs .empty m = 1 := by unfold modC; rw [if_pos h1]
    exact Or.inl ⟨by rw [e]; decide, by rw [e, invV1 h1]⟩
  rcases h3 : inB m 1 1000000000 with _ | _
  · have e : modC rs .empty m = 2 := by unfold modC; rw [if_neg (by rw [h1]; decide), if_neg (by rw [hw]; decide), if_pos h3]
    exact Or.inl ⟨by rw [e]; decide, by rw [e, invV3 h1 h3]⟩
  · have e : modC rs .empty m = 0 := by unfold modC; rw [if_neg (by rw [h1]; decide), if_neg (by rw [hw]; decide), if_neg (by rw [h3]; decide)]
    have hm : 1 ≤ m ∧ m ≤ 1000000000 := by simpa [inB] using h3
    exact Or.inr ⟨e, rfl, hm.1, hm.2, invV4 h1 h3⟩
set_option maxHeartbeats 4000000 in
set_option maxRecDepth 100000 in
theorem specInv_any (A : Option Addr) (n c : Nat) (rs : List Fac) (m : Int) (w : World) (hn : n ≤ 1048576) (hr : Rd w w.heap.size A n 3 Fac.cells rs) (hok : ∀ f ∈ rs, f.l.size ≤ maxLen) (hm : -9223372036854775808 ≤ m ∧ m ≤ 9223372036854775807) :
    Calls Try.prog 20 #[.agg #[.slice A n c], .int .i64 m] w (Ret (invV rs m) w) := by
  have hb0 : Below w.heap.size w (w.alloc (.cells #[.slice A n c] 30)) := by (repeat first | exact Below.refl _ _ | assumption | refine Below.drew ?_ | refine Below.alloc ?_ (by first | exact Nat.le_refl _ | (simp; done) | omega | (simp; omega)) _ | refine Below.setCell ?_ (by first | exact Nat.le_refl _ | (simp; done) | omega | (simp; omega)) _)
  have hB0 := Lib.hid (Blk.new w 30 #[.slice A n c])
  have hl := Lib.hid hr.len
  have HR := Lib.hid hr; clear hr
  have HO := Lib.hid hok; clear hok
  obtain ⟨m0, m1⟩ := hm
  have HC := Lib.hid (modC_inv rs m)
  have hem := Lib.hid (show (ByteArray.empty).size ≤ maxLen by decide)
  go_enter Try.func20, Try.ntmps20
  go_wp2_with fail
  refine (l05Mod_any w.heap.size A n c rs .empty m _ hB0.out.lt (hB0.out.cell 0) hn (HR.out.next hb0) HO.out hem.out).mono ?_
  rintro e1 w1 ⟨rfl, hb1⟩
  have b1 := hb0.trans (hb1.mono hb0.size)
  have B1 := Lib.hid (hB0.out.next hb1)
  rcases HC.out with ⟨h1, h2⟩ | ⟨h1, h2, n1, n2, h5⟩
  · have e0 : (modC rs .empty m != 0) = true := by simpa using h1
    have e := Lib.hid h2
    generalize modC rs .empty m = k at *
    clear h1 h2 HC
    go_wp2_with fail
    go_ret2
    exact ⟨by rw [e.out]; rfl, b1⟩
  have e := Lib.hid h5
  obtain ⟨ls, hls⟩ := Option.isSome_iff_exists.1 h2
  have HL := Lib.hid (gOk_lens hls).1
  have HW := Lib.hid (wf_of HL.out)
  rw [h1]
  clear h1 h2 h5 HC hls
  have cg1 := B1.out.cell 0
  have lg1 := B1.out.lt
  go_wp2_with fail
  refine (l05Counts_any w.heap.size A n c rs ls w1 lg1 cg1 hn (HR.out.next b1) HL.out).mono ?_
  rintro e1 w6 ⟨A5, c5, gs, rfl, own5, rows5, hb5⟩
  have hcl := Lib.hid ((full_len Q4.nil cntF cntG (rs := rs)).trans hl.out)
  rw [hcl.out] at own5 ⊢
  have T6 := Lib.hid (Tab.of hcl.out own5 rows5)
  have b6 := b1.trans (hb5.mono b1.size)
  have B6 := Lib.hid (B1.out.next hb5)
  have R6 := Lib.hid (HR.out.next b6)
  clear cg1 lg1 own5 rows5
  have cg6 := B6.out.cell 0
  have lg6 := B6.out.lt
  go_wp2_with fail
  go_loopw [8, 9] (fun o_ i_ w' => ∃ (k : Nat) (A' : Option Addr) (c' : Nat), i_ = .int .i64 k ∧ o_ = .slice A' k c' ∧ k ≤ n ∧
      Hid (w'.ownsRow w6.heap.size 2 1 (.slice A' k c') k ((outs 0 plF (invG (cnts rs) m) rs k).flatMap intE)) ∧ Below w6.heap.size w6 w') (fun _ i_ _ => n - (intOf i_).toNat)
  case atStart =>
    exact ⟨0, _, 0, rfl, rfl, by omega, Lib.hid (by simpa [outs, foldG] using World.ownsRow_made (base := w6.heap.size) (e := 2) (size := 1) w6 #[] 0 (Nat.le_refl _) (by unfold maxLen; omega) rfl), by (repeat first | exact Below.refl _ _ | assumption | refine Below.drew ?_ | refine Below.alloc ?_ (by first | exact Nat.le_refl _ | (simp; done) | omega | (simp; omega)) _ | refine Below.setCell ?_ (by first | exact Nat.le_refl _ | (simp; done) | omega | (simp; omega)) _)⟩
  case round =>
    obtain ⟨k, A', c', rfl, rfl, hk, hown, hb⟩ := hrel
    rename World => wo
    have cg := (B6.out.next hb).cell 0
    have lg := (B6.out.next hb).lt
    by_cases hlt : k < n
    · obtain ⟨b, o, x, rfl, hB, gx, c0, c1, c2⟩ := (R6.out.next hb).fac hlt
      have Hst := Lib.hid (outs_step 0 plF (invG (cnts rs) m) gx)
      have Hol := Lib.hid (outs_len 0 plF (invG (cnts rs) m) rs k (by rw [hl.out]; exact hk))
      rcases HW.out k x gx with ⟨h0, ha0, ha1, hb0', hb1'⟩ | ⟨cc, hcc, hxl, hxa, hxb⟩
      · have e0 := size0 h0
        have hkr : k ≤ rs.length := by rw [hl.out]; exact hk
        have hln := hl.out
        have q1 := inv_bound HL.out n1 n2 (k := x.a.toNat) (by omega)
        have q2 := inv_bound HL.out n1 n2 (k := x.b.toNat) (by omega)
        rw [← outs_full 0 plF (invG (cnts rs) m) (k := k) (i := x.a.toNat) (by omega) hkr] at q1
        rw [← outs_full 0 plF (invG (cnts rs) m) (k := k) (i := x.b.toNat) (by omega) hkr] at q2
        have q4 := Lib.hid (fun j => cnt_at HL.out (k := x.a.toNat) (by omega) j)
        have q5 := Lib.hid (fun j => cnt_at HL.out (k := x.b.toNat) (by omega) j)
        have hfs := Lib.hid (show fStep 0 plF (invG (cnts rs) m) (outs 0 plF (invG (cnts rs) m) rs k) x = ((outs 0 plF (invG (cnts rs) m) rs k).getD x.a.toNat 0 + (outs 0 plF (invG (cnts rs) m) rs k).getD x.b.toNat 0 + invS ((cnts rs).getD x.a.toNat Q4.nil) ((cnts rs).getD x.b.toNat Q4.nil) m 4) % m by
          unfold fStep; rw [if_pos h0]; rfl)
        obtain ⟨g, rfl, hg0, hg1, e1⟩ := own_int hown.out Hol.out x.a ha0 (by omega)
        obtain ⟨g', hgg, _, _, e2⟩ := own_int hown.out Hol.out x.b hb0' (by omega)
        obtain rfl : g = g' := by injection hgg with hgg; injection hgg
        obtain ⟨p3, o3, ga, rfl, hB3, hga, e3, e4⟩ := (T6.out.next hb).2 x.a.toNat (by omega)
        obtain ⟨p4, o4, gbq, hA4, hB4, hgb, e5, e6⟩ := (T6.out.next hb).2 x.b.toNat (by omega)
        obtain ⟨rfl, rfl⟩ : p3 = p4 ∧ o3 = o4 := by injection hA4 with hA4; injection hA4 with h1 h2; exact ⟨h1, h2⟩
        have E4 := Lib.hid e4; have E6 := Lib.hid e6
        clear e4 e6 hgg gx h0 hA4
        generalize (outs 0 plF (invG (cnts rs) m) rs k).getD x.a.toNat 0 = y1 at *
        generalize (outs 0 plF (invG (cnts rs) m) rs k).getD x.b.toNat 0 = y2 at *
        generalize (cnts rs).getD x.a.toNat Q4.nil = qa at *
        generalize (cnts rs).getD x.b.toNat Q4.nil = qb at *
        go_wp2_with fail
        refine named fun w1 H1 => ?_
        have BX : Blk w1 wo.heap.size 57 #[.string x.l, .int .i64 x.a, .int .i64 x.b] := by rw [H1.out]; exact Blk.new _ _ _
        have hb1 : Below wo.heap.size wo w1 := by rw [H1.out]; (repeat first | exact Below.refl _ _ | assumption | refine Below.drew ?_ | refine Below.alloc ?_ (by first | exact Nat.le_refl _ | (simp; done) | omega | (simp; omega)) _ | refine Below.setCell ?_ (by first | exact Nat.le_refl _ | (simp; done) | omega | (simp; omega)) _)
        obtain ⟨d0, d1, d2⟩ := BX.three
        have hz1 := BX.lt
        have f1 := (hb1.cell (p := ⟨g, x.a.toNat, none⟩) hg1).trans e1
        have f2 := (hb1.cell (p := ⟨g, x.b.toNat, none⟩) hg1).trans e2
        have s1 : g < w1.heap.size := by omega
        have BX1 := Lib.hid BX
        have cb1 := hb.trans (hb1.mono hb.size)
        clear BX H1
        have hup := upc w1.heap.size w1
        have t3 := emod_b (a := y1 + y2) (m := m) (by omega)
        obtain ⟨t30, t31⟩ := t3
        have w1' : IntKind.i64.wrap (y1 + y2) = y1 + y2 := IntWalk.i64_in _ (by omega)
        have w2' : IntKind.i64.wrap ((y1 + y2) % m) = (y1 + y2) % m := IntWalk.i64_in _ (by clear w1'; omega)
        have hm0 : ¬ m = 0 := by omega
        have hq6 : 0 ≤ y1 := by omega
        have hq7 : 0 ≤ y2 := by omega
        have ht : (y1 + y2).tmod m = (y1 + y2) % m := Int.tmod_eq_emod_of_nonneg (by omega)
        refine wp_region_up w1.heap.size (by kernel_rfl) (by kernel_rfl) ?_
        repeat (go_big_quiet_step (fail))
        refine wpQuiet_nil ?_
        intro w2 hup_w2
        have hb2 := up_of hup_w2
        have hb12 := hb1.trans (hb2.mono hb1.size)
        have BX2 := Lib.hid (BX1.out.next hb2)
        clear w1' w2' ht d0 d1 d2 f1 f2 e1 e2 hup hup_w2
        go_wp2_with fail
        go_loopw [11, 12] (fun n_ k_ w' => ∃ (i : Nat), k_ = .int .i64 i ∧ n_ = .int .i64 ((y1 + y2 + invS qa qb m i) % m) ∧ i ≤ 4 ∧ Below w2.heap.size w2 w') (fun _ k_ _ => 4 - (intOf k_).toNat)
        case atStart => exact ⟨0, rfl, by simp [invS], by omega, Below.refl _ _⟩
        case round =>
          obtain ⟨i, rfl, rfl, hi, hb3⟩ := hrel
          rename World => wm
          by_cases hi4 : i < 4
          · go_wp2_with fail
            go_loopw [11, 13] (fun n_ l_ w' => ∃ (l : Nat), l_ = .int .i64 l ∧ n_ = .int .i64 ((y1 + y2 + invS qa qb m i + invT qa qb m i l) % m) ∧ l ≤ i ∧ Below wm.heap.size wm w') (fun _ l_ _ => i - (intOf l_).toNat)
            case atStart => exact ⟨0, rfl, by simp [invT], by omega, Below.refl _ _⟩
            case round =>
              obtain ⟨l, rfl, rfl, hli, hb4⟩ := hrel
              by_cases hl' : l < i
              · have eT := Lib.hid (show (y1 + y2 + invS qa qb m i + invT qa qb m i (l + 1)) % m = ((y1 + y2 + invS qa qb m i + invT qa qb m i l) % m + qa.at_ i % m * (qb.at_ l % m)) % m by
                  rw [inv_mod, invT, if_pos hl', ← Int.add_assoc]; rfl)
                obtain ⟨u0, u1⟩ := q4.out i
                obtain ⟨v0, v1⟩ := q5.out l
                have ha4 := E4.out i hi4
                have hb5 := E6.out l (by omega)
                have hbr : Below wo.heap.size wo wr := hb12.trans ((hb3.trans (hb4.mono hb3.size)).mono hb12.size)
                have g1 := (hbr.cell (p := ⟨ga, i, none⟩) hga).trans ha4
                have g2 := (hbr.cell (p := ⟨gbq, l, none⟩) hgb).trans hb5
                have g3 := (hbr.cell (p := ⟨p3, o3 + x.a.toNat, none⟩) hB3).trans e3
                have g4 := (hbr.cell (p := ⟨p3, o3 + x.b.toNat, none⟩) hB3).trans e5
                have BXr := BX2.out.next (hb3.trans (hb4.mono hb3.size))
                obtain ⟨d0, d1, d2⟩ := BXr.three
                have lx := BXr.lt
                have sz := hbr.size
                have s2 : ga < wr.heap.size := by omega
                have s3 : gbq < wr.heap.size := by omega
                have s4 : p3 < wr.heap.size := by omega
                clear BXr ha4 hb5
                generalize qa.at_ i = u at *
                generalize qb.at_ l = v at *
                have hacc := emod_b (a := y1 + y2 + invS qa qb m i + invT qa qb m i l) (m := m) (by omega)
                generalize (y1 + y2 + invS qa qb m i + invT qa qb m i l) % m = acc at *
                obtain ⟨ac0, ac1⟩ := hacc
                have p1 := emod_b (a := u) (m := m) (by omega)
                have p2 := emod_b (a := v) (m := m) (by omega)
                have p3 := mul_b p1.1 (by omega) p2.1 (by omega)
                have p4 := emod_b (a := acc + u % m * (v % m)) (m := m) (by omega)
                obtain ⟨p30, p31⟩ := p3
                obtain ⟨p40, p41⟩ := p4
                have w2' : IntKind.i64.wrap (u % m) = u % m := IntWalk.i64_in _ (by omega)
                have w3' : IntKind.i64.wrap (v % m) = v % m := IntWalk.i64_in _ (by omega)
                have w4' : IntKind.i64.wrap (u % m * (v % m)) = u % m * (v % m) := IntWalk.i64_in _ (by clear w2' w3'; omega)
                have w5' : IntKind.i64.wrap (acc + u % m * (v % m)) = acc + u % m * (v % m) := IntWalk.i64_in _ (by clear w2' w3' w4'; omega)
                have w6' : IntKind.i64.wrap ((acc + u % m * (v % m)) % m) = (acc + u % m * (v % m)) % m := IntWalk.i64_in _ (by clear w2' w3' w4' w5'; omega)
                have ht : (acc + u % m * (v % m)).tmod m = (acc + u % m * (v % m)) % m := Int.tmod_eq_emod_of_nonneg (by omega)
                have j0 : (0 : Int) ≤ (i : Int) := by omega
                have j1 : (i : Int) < 4 := by omega
                have j2 : (0 : Int) ≤ (l : Int) := by omega
                have j3 : (l : Int) < 4 := by omega
                have j4 : x.a < (n : Int) := by omega
                have j5 : x.b < (n : Int) := by omega
                go_wp2_with fail
                have hup := upc wr.heap.size wr
                refine wp_region_up wr.heap.size (by kernel_rfl) (by kernel_rfl) ?_
                repeat (go_big_quiet_step (fail))
                refine wpQuiet_nil ?_
                intro w6 hup_w6
                have hb6 := up_of hup_w6
                clear w2' w3' w4' w5' w6' ht
                go_wp2_with fail
                go_roundw
                case rel => exact ⟨l + 1, by go_num, by rw [eT.out], by omega, hb4.trans (hb6.mono hb4.size)⟩
                case measure => simp [intOf]; omega
              · obtain rfl : l = i := by omega
                have eS := Lib.hid (show invS qa qb m (l + 1) = invS qa qb m l + invT qa qb m l l by rw [invS, invT_four qa qb m (by omega)])
                go_wp2_with fail
                go_roundw
                case rel => exact ⟨l + 1, by go_num, by rw [eS.out]; simp only [Int.add_assoc], by omega, hb3.trans (hb4.mono hb3.size)⟩
                case measure => simp [intOf]; omega
          · obtain rfl : i = 4 := by omega
            have hbr : Below wo.heap.size wo wm := hb12.trans (hb3.mono hb12.size)
            have hown2 := Lib.hid (own_next hown.out hbr)
            have cb2 := hb.trans (hbr.mono hb.size)
            rw [hfs.out] at Hst
            generalize (y1 + y2 + invS qa qb m 4) % m = res at *
            go_wp2_with
              (at_builtin
               refine wpList_push (w0 := w6) rfl _ _ _ rfl w6.heap.size 2 1 8 elemI intE _ k c' (outs 0 plF (invG (cnts rs) m) rs k) rfl (hown2.out.alloc _) wm.heap.size res #[.int .i64 res] 2 (0, 0) rfl (heap_alloc_new _ _) rfl rfl (by simp [intE, Value.oneCell']) (by omega) (by omega) (by unfold maxLen; omega) rfl (cb2.alloc cb2.size _) ?_
               intro A9 c9 w9 own9 hg9 hat9 hb9
               have O9 := Lib.hid own9; clear own9)
            go_roundw
            case rel =>
              refine ⟨k + 1, A9, c9, by go_num, rfl, by omega, Lib.hid ?_, hb9⟩
              rw [Hst.out]; exact O9.out
            case measure => simp [intOf]; omega
      · have h0 : x.l.size ≠ 0 := by rw [hxl]; show (1 : Nat) ≠ 0; omega
        have e1 := size1 h0
        have e2 := size1' h0
        have hfs := Lib.hid (show fStep 0 plF (invG (cnts rs) m) (outs 0 plF (invG (cnts rs) m) rs k) x = 0 by unfold fStep; rw [if_neg h0]; rfl)
        rw [hfs.out] at Hst
        clear gx hxl hxa hxb h0
        go_wp2_with
          (at_builtin
           refine wpList_push (w0 := w6) rfl _ _ _ rfl w6.heap.size 2 1 8 elemI intE _ k c' (outs 0 plF (invG (cnts rs) m) rs k) rfl ((hown.out.alloc _).alloc _) (wo.heap.size + 1) 0 #[.int .i64 0] 2 (0, 0) rfl (by simpa using heap_alloc_new (wo.alloc _) _) rfl rfl (by simp [intE, Value.oneCell']) (by omega) (by omega) (by unfold maxLen; omega) rfl ((hb.alloc hb.size _).alloc (by have := hb.size; simp; omega) _) ?_
           intro A9 c9 w9 own9 hg9 hat9 hb9
           have O9 := Lib.hid own9; clear own9)
        go_roundw
        case rel =>
          refine ⟨k + 1, A9, c9, by go_num, rfl, by omega, Lib.hid ?_, hb9⟩
          rw [Hst.out]; exact O9.out
        case measure => simp [intOf]; omega
    · obtain rfl : k = n := by omega
      have e1 := Lib.hid (show outs 0 plF (invG (cnts rs) m) rs k = full 0 plF (invG (cnts rs) m) rs from outs_all _ _ _ rs k (by rw [hl.out]; omega))
      have e2 := Lib.hid (outs_len 0 plF (invG (cnts rs) m) rs k (by rw [hl.out]; omega))
      have hln := hl.out
      by_cases h0 : k = 0
      · have e3 := Lib.hid (show topI plF (invG (cnts rs) m) rs = 0 by unfold topI; rw [if_pos (by omega)])
        have hk0 : ((k : Int) == 0) = true := by simp [h0]
        clear hlt hk
        go_wp2_with fail
        go_ret2
        exact ⟨by rw [e.out, e3.out]; rfl, b6.trans (hb.mono b6.size)⟩
      · have e3 := Lib.hid (show topI plF (invG (cnts rs) m) rs = (outs 0 plF (invG (cnts rs) m) rs k).getD (k - 1) 0 by unfold topI; rw [if_neg (by omega), e1.out, hln])
        have hk0 : ((k : Int) == 0) = false := by simp [h0]
        obtain ⟨g, rfl, hg0, hg1, v1⟩ := own_int hown.out e2.out ((k : Int) - 1) (by omega) (by omega)
        rw [show ((k : Int) - 1).toNat = k - 1 by omega] at v1
        have hj : ((k : Int) - 1).toNat = k - 1 := by omega
        have u0 : IntKind.i64.wrap ((k : Int) - 1) = (k : Int) - 1 := IntWalk.i64_in _ (by omega)
        have j0 : (0 : Int) ≤ (k : Int) - 1 := by omega
        rw [← e3.out] at v1
        generalize topI plF (invG (cnts rs) m) rs = y at *
        clear hlt hk
        go_wp2_with fail
        go_ret2
        exact ⟨by rw [e.out]; rfl, b6.trans (hb.mono b6.size)⟩
end Go.Proofs.Ytpkhkippdigcjaa
