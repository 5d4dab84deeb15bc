/-
  How often a word is scattered, one behind the other: in the reference.
-/
import Derived.Test.YtlokofafojepdaaSpare
namespace Go.Proofs.Ytlokofafojepdaa
open Go.RowKit

theorem take_snoc' {α : Type} {xs : List α} {k : Nat} {x : α} (h : xs[k]? = some x) : xs.take (k + 1) = xs.take k ++ [x] := by
  obtain ⟨hk, he⟩ := List.getElem?_eq_some_iff.1 h
  rw [List.take_succ_eq_append_getElem hk, he]
theorem getD_some {xs : List Int} {k : Nat} (h : k < xs.length) : xs[k]? = some (xs.getD k 0) := by
  rw [List.getD_eq_getElem?_getD, List.getElem?_eq_getElem h]; rfl
theorem ext_one {s : ByteArray} {q : Nat} (h : q < s.size) : (s.extract q (q + 1)).toList = [s[q]] := by
  rw [ByteArray.toList_eq, ByteArray.data_extract, Array.toList_extract, List.extract_eq_take_drop]
  rw [show q + 1 - q = 1 by omega]
  have := drop_cons (at_byte s q h)
  rw [this]; rfl
set_option maxHeartbeats 4000000 in
set_option maxRecDepth 100000 in
theorem specSpare_any (A : Option Addr) (n c : Nat) (rs : List Fac) (s : ByteArray) (w : World) (hn : n ≤ 1048576) (hr : Rd w w.heap.size A n 3 Fac.cells rs) (hok : ∀ f ∈ rs, f.l.size ≤ maxLen) (hs : s.size ≤ maxLen) :
    Calls Try.prog 30 #[.agg #[.slice A n c], .string s] w (Ret (spareV rs s) w) := by
  have hb0 : Below w.heap.size w (w.alloc (.cells #[.slice A n c] 31)) := by (repeat first | exact Below.refl _ _ | assumption | refine Below.drew ?_ | refine Below.alloc ?_ (by first | exact Nat.le_refl _ | (simp; done) | omega | (simp; omega)) _ | refine Below.setCell ?_ (by first | exact Nat.le_refl _ | (simp; done) | omega | (simp; omega)) _)
  have hB0 := Lib.hid (Blk.new w 31 #[.slice A n c])
  have hl := Lib.hid hr.len
  have HR := Lib.hid hr; clear hr
  have HO := Lib.hid hok; clear hok
  rcases hg : (gOk rs).isSome with _ | _
  · have e := Lib.hid (spareV1 (p := s) hg)
    have Hg := Lib.hid hg; clear hg
    go_enter Try.func30, Try.ntmps30
    go_wp2_with fail
    refine (l02Ok_any w.heap.size A n c rs _ hB0.out.lt (hB0.out.cell 0) (by omega) (HR.out.next hb0) HO.out false Hg.out).mono ?_
    rintro e1 w1 ⟨rfl, hb1⟩
    go_wp2_with fail
    go_ret2
    exact ⟨by rw [e.out]; rfl, hb0.trans (hb1.mono hb0.size)⟩
  have HG := Lib.hid hg
  obtain ⟨ls, hls⟩ := Option.isSome_iff_exists.1 hg
  have HL := Lib.hid (gOk_lens hls).1
  have hn4 : n ≤ 400 := by have := (gOk_lens hls).2.1; have := hl.out; omega
  clear hg hls
  rcases hp : okW s with _ | _
  · have e := Lib.hid (spareV2 HG.out hp)
    have Hp := Lib.hid hp; clear hp
    go_enter Try.func30, Try.ntmps30
    go_wp2_with fail
    refine (l02Ok_any w.heap.size A n c rs _ hB0.out.lt (hB0.out.cell 0) (by omega) (HR.out.next hb0) HO.out true HG.out).mono ?_
    rintro e1 w1 ⟨rfl, hb1⟩
    have b1 := hb0.trans (hb1.mono hb0.size)
    go_wp2_with fail
    refine (specOk_any s false w1 hs Hp.out).mono ?_
    rintro e2 w2 ⟨rfl, hb2⟩
    go_wp2_with fail
    go_ret2
    exact ⟨by rw [e.out]; rfl, b1.trans (hb2.mono b1.size)⟩
  have Hp := Lib.hid hp
  have hps := (okW_b hp).1
  clear hp
  by_cases h0 : s.size = 0
  · have e := Lib.hid (spareV3 HG.out Hp.out h0)
    have e0 : ((s.size : Int) == 0) = true := by simpa using h0
    clear h0
    go_enter Try.func30, Try.ntmps30
    go_wp2_with fail
    refine (l02Ok_any w.heap.size A n c rs _ hB0.out.lt (hB0.out.cell 0) (by omega) (HR.out.next hb0) HO.out true HG.out).mono ?_
    rintro e1 w1 ⟨rfl, hb1⟩
    have b1 := hb0.trans (hb1.mono hb0.size)
    go_wp2_with fail
    refine (specOk_any s true w1 hs Hp.out).mono ?_
    rintro e2 w2 ⟨rfl, hb2⟩
    go_wp2_with fail
    go_ret2
    exact ⟨by rw [e.out]; rfl, b1.trans (hb2.mono b1.size)⟩
  have e := Lib.hid (spareV4 HG.out Hp.out h0)
  have e0 : ((s.size : Int) == 0) = false := by simpa using h0
  have h1 : 0 < s.size := by omega
  have H0' := Lib.hid h0; clear h0
  by_cases hn0 : n = 0
  · have e9 : ((n : Int) == 0) = true := by simpa using hn0
    have eT := Lib.hid (show spTop rs s = 0 by unfold spTop; rw [if_pos (by rw [hl.out]; exact hn0)])
    clear hn0
    go_enter Try.func30, Try.ntmps30
    go_wp2_with fail
    refine (l02Ok_any w.heap.size A n c rs _ hB0.out.lt (hB0.out.cell 0) (by omega) (HR.out.next hb0) HO.out true HG.out).mono ?_
    rintro e1 w1 ⟨rfl, hb1⟩
    have b1 := hb0.trans (hb1.mono hb0.size)
    go_wp2_with fail
    refine (specOk_any s true w1 hs Hp.out).mono ?_
    rintro e2 w2 ⟨rfl, hb2⟩
    have B2 := Lib.hid ((hB0.out.next hb1).next hb2)
    have cg := B2.out.cell 0
    have lg := B2.out.lt
    go_wp2_with fail
    go_ret2
    exact ⟨by rw [e.out, eT.out, Int.zero_ediv]; rfl, b1.trans (hb2.mono b1.size)⟩
  have e9 : ((n : Int) == 0) = false := by simpa using hn0
  have hn1 : 0 < n := by omega
  clear hn0
  go_enter Try.func30, Try.ntmps30
  go_wp2_with fail
  refine (l02Ok_any w.heap.size A n c rs _ hB0.out.lt (hB0.out.cell 0) (by omega) (HR.out.next hb0) HO.out true HG.out).mono ?_
  rintro e1 w1 ⟨rfl, hb1⟩
  have b1 := hb0.trans (hb1.mono hb0.size)
  go_wp2_with fail
  refine (specOk_any s true w1 hs Hp.out).mono ?_
  rintro e2 w2 ⟨rfl, hb2⟩
  have b2 := b1.trans (hb2.mono b1.size)
  have B2 := Lib.hid ((hB0.out.next hb1).next hb2)
  have cg := B2.out.cell 0
  have lg := B2.out.lt
  go_wp2_with fail
  clear cg lg
  go_loopw [7, 8] (fun o_ i_ w' => ∃ (k : Nat) (A' : Option Addr) (c' : Nat) (vs : List Value), i_ = .int .i64 k ∧ o_ = .slice A' k c' ∧ k ≤ n ∧
      Hid (w'.ownsRow w2.heap.size 25 1 (.slice A' k c') k (vs.flatMap encV)) ∧ Hid (Reps [] RepI w' vs (outs [] (spF s) (spG s.size) rs k)) ∧ Below w2.heap.size w2 w') (fun _ i_ _ => n - (intOf i_).toNat)
  case atStart =>
    exact ⟨0, _, 0, [], rfl, rfl, by omega, Lib.hid (by simpa using World.ownsRow_made (base := w2.heap.size) (e := 25) (size := 1) w2 #[] 0 (by simp) (by unfold maxLen; omega) rfl), Lib.hid ⟨by simp [outs, foldG], by simp⟩, by (repeat first | exact Below.refl _ _ | assumption | refine Below.drew ?_ | refine Below.alloc ?_ (by first | exact Nat.le_refl _ | (simp; done) | omega | (simp; omega)) _ | refine Below.setCell ?_ (by first | exact Nat.le_refl _ | (simp; done) | omega | (simp; omega)) _)⟩
  case round =>
    obtain ⟨k, A', c', vs, rfl, rfl, hk, hown, hrep, hb⟩ := hrel
    rename World => wo
    have cg := (B2.out.next hb).cell 0
    have lg := (B2.out.next hb).lt
    have bw := b2.trans (hb.mono b2.size)
    by_cases hlt : k < n
    · obtain ⟨b, o, x, rfl, hB, gx, c0, c1, c2⟩ := (HR.out.next bw).fac hlt
      have Hst := Lib.hid (outs_step [] (spF s) (spG s.size) gx)
      have Hol := Lib.hid (outs_len [] (spF s) (spG s.size) rs k (by rw [hl.out]; exact hk))
      have Gx := Lib.hid gx; clear gx
      go_wp2_with fail
      refine named fun w3 H3 => ?_
      have hb3 : Below wo.heap.size wo w3 := by rw [H3.out]; (repeat first | exact Below.refl _ _ | assumption | refine Below.drew ?_ | refine Below.alloc ?_ (by first | exact Nat.le_refl _ | (simp; done) | omega | (simp; omega)) _ | refine Below.setCell ?_ (by first | exact Nat.le_refl _ | (simp; done) | omega | (simp; omega)) _)
      have BX := Lib.hid (show Blk w3 wo.heap.size 85 #[.string x.l, .int .i64 x.a, .int .i64 x.b] by rw [H3.out]; exact (Blk.new wo _ _).alloc _)
      have hs3 := Lib.hid (show w3.heap.size = wo.heap.size + 2 by rw [H3.out]; simp)
      have own3 := Lib.hid (show w3.ownsRow (wo.heap.size + 1) 2 1 (.slice (some ⟨wo.heap.size + 1, 0, none⟩) 0 0) 0 [] by
        rw [H3.out]; simpa using World.ownsRow_made (base := wo.heap.size + 1) (e := 2) (size := 1) (wo.alloc (.cells #[.string x.l, .int .i64 x.a, .int .i64 x.b] 85)) #[] 0 (by simp) (by unfold maxLen; omega) rfl)
      clear H3
      generalize hrw : fStep [] (spF s) (spG s.size) (outs [] (spF s) (spG s.size) rs k) x = row at *
      have Hrw := Lib.hid hrw; clear hrw
      have hrl : Hid (row.length = s.size) := by
        refine Lib.hid ?_
        rw [← Hrw.out]
        unfold fStep
        split
        · exact rng_len _ _
        · exact rng_len _ _
      clear cg lg c0 c1 c2
      have e8 : ((0 : Nat) : Int) = 0 := rfl
      go_loopw [10, 11] (fun l_ q_ w' => ∃ (q : Nat) (A2 : Option Addr) (c2 : Nat), q_ = .int .i64 q ∧ l_ = .slice A2 q c2 ∧ q ≤ s.size ∧ Below (wo.heap.size + 1) w3 w' ∧
          Hid (w'.ownsRow (wo.heap.size + 1) 2 1 (.slice A2 q c2) q ((row.take q).flatMap intE))) (fun _ q_ _ => s.size - (intOf q_).toNat)
      case atStart => exact ⟨0, _, 0, rfl, rfl, by omega, Below.refl _ _, Lib.hid (by simpa using own3.out)⟩
      case round =>
        obtain ⟨q, A2, c2, rfl, rfl, hq, hbi, hli⟩ := hrel
        have hB3 := Lib.hid (hb3.trans (hbi.mono (by omega)))
        have BXr := Lib.hid (BX.out.below hbi (by omega))
        obtain ⟨d0, d1, d2⟩ := BXr.out.three
        have lx := BXr.out.lt
        have hownr := Lib.hid (own_next hown.out hB3.out)
        have hrepr := Lib.hid (hrep.out.next (repI_ok (E := 25) (by decide)) hB3.out)
        have hzr := hbi.size
        by_cases hql : q < s.size
        · have hrow := Lib.hid (take_snoc' (getD_some (xs := row) (k := q) (by rw [hrl.out]; exact hql)))
          rcases wf_of HL.out k x Gx.out with ⟨h0, ha0, ha1, hb0', hb1'⟩ | ⟨cc, hcc, hxl, hxa, hxb⟩
          · have f0 := size0 h0
            have hkr : k ≤ rs.length := by rw [hl.out]; exact hk
            obtain ⟨g, cap, hv, hg0, hg1⟩ := hownr.out.form (by omega)
            obtain rfl : A' = some ⟨g, 0, none⟩ := by injection hv
            clear hv
            have hvl := Lib.hid (hrepr.out.1.trans Hol.out)
            have va := own_at (enc := encV) (sz := 1) (fun _ _ => rfl) hownr.out hvl.out undef x.a.toNat (by omega) 0 Nat.zero_lt_one
            have vb := own_at (enc := encV) (sz := 1) (fun _ _ => rfl) hownr.out hvl.out undef x.b.toNat (by omega) 0 Nat.zero_lt_one
            have ra := hrepr.out.at_ undef (show x.a.toNat < vs.length by rw [hvl.out]; omega)
            have rb := hrepr.out.at_ undef (show x.b.toNat < vs.length by rw [hvl.out]; omega)
            have sa := sp_b15 HL.out h1 (k := x.a.toNat) (by omega)
            have sb := sp_b15 HL.out h1 (k := x.b.toNat) (by omega)
            rw [← outs_full [] (spF s) (spG s.size) (k := k) (i := x.a.toNat) (by omega) hkr] at sa
            rw [← outs_full [] (spF s) (spG s.size) (k := k) (i := x.b.toNat) (by omega) hkr] at sb
            have eR := Lib.hid (show row.getD q 0 = spJ s.size ((outs [] (spF s) (spG s.size) rs k).getD x.a.toNat []) ((outs [] (spF s) (spG s.size) rs k).getD x.b.toNat []) q by
              rw [← Hrw.out]; unfold fStep; rw [if_pos h0]; exact rng_at _ hql)
            generalize (outs [] (spF s) (spG s.size) rs k).getD x.a.toNat [] = ya at *
            generalize (outs [] (spF s) (spG s.size) rs k).getD x.b.toNat [] = yb at *
            obtain ⟨ga, ca, csa, ea, hBa, hca⟩ := ra
            obtain ⟨gb, cb, csb, eb, hBb, hcb⟩ := rb
            have va' : wr.cell? ⟨g, x.a.toNat, none⟩ = some (.slice (some ⟨ga, 0, none⟩) s.size ca) := by rw [← sa.1, ← ea]; simpa [encV] using va
            have vb' : wr.cell? ⟨g, x.b.toNat, none⟩ = some (.slice (some ⟨gb, 0, none⟩) s.size cb) := by rw [← sb.1, ← eb]; simpa [encV] using vb
            have la := hBa.lt
            have lb := hBb.lt
            have hgo : g < wo.heap.size + 1 := by have := (hown.out.lt g rfl).2; omega
            have hgbo : gb < wo.heap.size + 1 := by
              have hrb := hrep.out.at_ undef (show x.b.toNat < vs.length by rw [hvl.out]; omega)
              obtain ⟨gq, cq, csq, eq, hBq, _⟩ := hrb
              rw [eq] at eb
              injection eb with eb1 _ _
              injection eb1 with eb1
              injection eb1 with eb1
              have := hBq.lt
              omega
            have ca0 := (hBa.cell q).trans (hca q (by rw [sa.1]; exact hql))
            have q1 := sa.2 q hql
            have q2 := sp_mod h1 (i := q) (a := ya.getD q 0)
            rw [show spJ s.size ya yb q = ya.getD q 0 + yb.getD (((q : Int) + ya.getD q 0) % (s.size : Int)).toNat 0 from rfl] at eR
            generalize ya.getD q 0 = m at *
            have ht : ((q : Int) + m).tmod (s.size : Int) = ((q : Int) + m) % (s.size : Int) := Int.tmod_eq_emod_of_nonneg (by omega)
            obtain ⟨q20, q21⟩ := q2
            obtain ⟨q10, q11⟩ := q1
            have u1 : IntKind.i64.wrap ((q : Int) + m) = (q : Int) + m := IntWalk.i64_in _ (by omega)
            generalize hj : ((q : Int) + m) % (s.size : Int) = j at *
            have cb0 := (hBb.cell j.toNat).trans (hcb j.toNat (by rw [sb.1]; omega))
            obtain ⟨q30, q31⟩ := sb.2 j.toNat (by omega)
            generalize yb.getD j.toNat 0 = z at *
            have u2 : IntKind.i64.wrap (m + z) = m + z := IntWalk.i64_in _ (by omega)
            have i1 : x.a < (k : Int) := ha1
            have i2 : x.b < (k : Int) := hb1'
            have hzn : ¬ s.size = 0 := H0'.out
            clear va vb ea eb hca hcb hBa hBb sa sb hj
            go_wp2_with fail
            go_region_held3 (fun w' => w'.cell? ⟨wo.heap.size, 2, none⟩ = some (.int .i64 x.b) ∧ w'.cell? ⟨g, x.b.toNat, none⟩ = some (.slice (some ⟨gb, 0, none⟩) s.size cb) ∧ w'.cell? ⟨gb, j.toNat, none⟩ = some (.int .i64 z))
              (first | exact ⟨t0, t1, t2⟩ | exact ⟨d2, vb', cb0⟩ | go_keep)
              (first
                | (refine step_push (by rfl) _ _ _ (by rfl) (wo.heap.size + 1) 2 1 8 elem_int intE A2 q c2 (row.take q) (by rfl) (hli.out.drew.alloc _) wr.heap.size (m + z) #[.int .i64 (m + z)] 2 (0, 0) (by rfl) (heap_alloc_new _ _) rfl rfl (by simp [intE, Value.oneCell']) (by omega) (by omega) (by unfold maxLen; omega) (by simp; omega) ?_
                   intro A5 c5 w5 own5 hg5 old5
                   have hb5 : Below (wo.heap.size + 1) w3 w5 := (hbi.drew.alloc (by simp; omega) _).grown hg5 (by simp; omega) (own_ge hli.out)
                   have hbw5 : Below (wo.heap.size + 1) wr w5 := ((Below.refl (wo.heap.size + 1) wr).drew.alloc (by simp; omega) _).grown hg5 (by simp; omega) (own_ge hli.out)
                   have t0 : w5.cell? ⟨wo.heap.size, 2, none⟩ = some (.int .i64 x.b) := (hbw5.cell (p := ⟨wo.heap.size, 2, none⟩) (by simp)).trans d2
                   have t1 : w5.cell? ⟨g, x.b.toNat, none⟩ = some (.slice (some ⟨gb, 0, none⟩) s.size cb) := (hbw5.cell (p := ⟨g, x.b.toNat, none⟩) hgo).trans vb'
                   have t2 : w5.cell? ⟨gb, j.toNat, none⟩ = some (.int .i64 z) := (hbw5.cell (p := ⟨gb, j.toNat, none⟩) hgbo).trans cb0)
                | fail)
            all_goals
              go_wp2_with fail
              go_roundw
              case rel =>
                refine ⟨q + 1, A5, c5, by go_num, rfl, by omega, hb5, Lib.hid ?_⟩
                rw [hrow.out, eR.out]
                exact own5
              case measure => simp [intOf]; omega
          · obtain ⟨xl, xa, xb⟩ := x
            simp only at hxl hxa hxb d0 d1 d2 Hrw
            subst hxl hxa hxb
            have f0 := size1 (s := ⟨#[cc]⟩) (show (1 : Nat) ≠ 0 by omega)
            have f1 := size1' (s := ⟨#[cc]⟩) (show (1 : Nat) ≠ 0 by omega)
            have hup := upc wr.heap.size wr
            have hx1 := Lib.hid (ext_one hql)
            have eR := Lib.hid (show row.getD q 0 = if s[q] = cc then 1 else 0 by
              rw [← Hrw.out]
              show (spF s (letN ⟨#[cc]⟩)).getD q 0 = _
              rw [letN_one]
              unfold spF
              rw [rng_at _ hql]
              unfold spI
              rw [List.getD_eq_getElem?_getD, at_byte s q hql]
              have l1 := letB_num hcc
              have l2 := letB_num ((okW_b Hp.out).2 q hql)
              by_cases hcq : s[q] = cc
              · rw [if_pos hcq, if_pos (by rw [← hcq]; rfl)]
              · rw [if_neg hcq, if_neg]
                intro h
                apply hcq
                have h' : s[q].toNat - 97 = cc.toNat - 97 := h
                exact UInt8.toNat_inj.1 (by omega))
            by_cases hcq : s[q] = cc
            · have f2 : ((s.extract q (q + 1)).toList == [cc]) = true := by rw [hx1.out, hcq]; simp
              rw [if_pos hcq] at eR
              clear hcq
              go_wp2_with fail
              refine wp_region_up wr.heap.size (by kernel_rfl) (by kernel_rfl) ?_
              repeat (go_big_quiet_step (fail))
              refine wpQuiet_nil ?_
              intro w4 hup_w4
              have hb4 := up_of hup_w4
              have hli4 := Lib.hid (own_next hli.out hb4)
              have hbi4 := Lib.hid (hbi.trans (hb4.mono (by omega)))
              have hz4 : wo.heap.size < w4.heap.size := by have := hb4.size; omega
              go_wp2_with
                (at_builtin
                 refine wpList_pushG rfl _ _ _ rfl (wo.heap.size + 1) 2 1 8 elem_int intE _ q c2 (row.take q) rfl (hli4.out.alloc _) w4.heap.size 1 #[.int .i64 1] 2 (0, 0) rfl (heap_alloc_new _ _) rfl rfl (by simp [intE, Value.oneCell']) (by omega) (by omega) (by unfold maxLen; omega) (by simp; omega) ?_
                 intro A9 c9 w9 own9 hg9 hat9
                 have O9 := Lib.hid own9
                 have hb9 := Lib.hid ((hbi4.out.alloc (by omega) _).grown hg9 (by simp; omega) (own_ge hli4.out))
                 clear own9 hg9 hat9)
              go_roundw
              case rel =>
                refine ⟨q + 1, A9, c9, by go_num, rfl, by omega, hb9.out, Lib.hid ?_⟩
                rw [hrow.out, eR.out]
                exact O9.out
              case measure => simp [intOf]; omega
            · have f2 : ((s.extract q (q + 1)).toList == [cc]) = false := by rw [hx1.out]; simpa using hcq
              rw [if_neg hcq] at eR
              clear hcq
              go_wp2_with fail
              refine wp_region_up wr.heap.size (by kernel_rfl) (by kernel_rfl) ?_
              repeat (go_big_quiet_step (fail))
              refine wpQuiet_nil ?_
              intro w4 hup_w4
              have hb4 := up_of hup_w4
              have hli4 := Lib.hid (own_next hli.out hb4)
              have hbi4 := Lib.hid (hbi.trans (hb4.mono (by omega)))
              have hz4 : wo.heap.size < w4.heap.size := by have := hb4.size; omega
              go_wp2_with
                (at_builtin
                 refine wpList_pushG rfl _ _ _ rfl (wo.heap.size + 1) 2 1 8 elem_int intE _ q c2 (row.take q) rfl (hli4.out.alloc _) w4.heap.size 0 #[.int .i64 0] 2 (0, 0) rfl (heap_alloc_new _ _) rfl rfl (by simp [intE, Value.oneCell']) (by omega) (by omega) (by unfold maxLen; omega) (by simp; omega) ?_
                 intro A9 c9 w9 own9 hg9 hat9
                 have O9 := Lib.hid own9
                 have hb9 := Lib.hid ((hbi4.out.alloc (by omega) _).grown hg9 (by simp; omega) (own_ge hli4.out))
                 clear own9 hg9 hat9)
              go_roundw
              case rel =>
                refine ⟨q + 1, A9, c9, by go_num, rfl, by omega, hb9.out, Lib.hid ?_⟩
                rw [hrow.out, eR.out]
                exact O9.out
              case measure => simp [intOf]; omega
        · obtain rfl : q = s.size := by omega
          have hrt := Lib.hid (show row.take s.size = row from List.take_of_length_le (by rw [hrl.out]; omega))
          have hbo := Lib.hid (hb.trans (hB3.out.mono hb.size))
          have hrp := Lib.hid (show RepI wr (.slice A2 s.size c2) row from by
            have h := hli.out
            rw [hrt.out] at h
            have := RepI.of_own (w := wr) (base := wo.heap.size + 1) (A := A2) (c := c2) (y := row) (by rw [hrl.out]; exact h1) (by rw [hrl.out]; exact h)
            rw [hrl.out] at this
            exact this)
          have hzo := hbo.out.size
          clear BXr d0 d1 d2
          go_wp2_with
            (at_builtin
             refine wpList_pushG rfl _ _ _ rfl w2.heap.size 25 1 24 elemV encV _ k c' vs rfl (hownr.out.alloc _) wr.heap.size (.slice A2 s.size c2) #[.slice A2 s.size c2] 25 (0, 0) rfl (heap_alloc_new _ _) rfl rfl (by simp [encV, Value.oneCell']) (by omega) (by omega) (by unfold maxLen; omega) (by simp; omega) ?_
             intro A9 c9 w9 own9 hg9 hat9
             have O9 := Lib.hid own9
             have G9 := Lib.hid hg9
             have hb9 := Lib.hid ((hbo.out.alloc (by omega) _).grown hg9 (by simp; omega) (own_ge hownr.out))
             clear own9 hg9 hat9)
          go_roundw
          case rel =>
            refine ⟨k + 1, A9, c9, vs ++ [.slice A2 s.size c2], by go_num, rfl, by omega, O9, Lib.hid ?_, hb9.out⟩
            rw [Hst.out]
            exact hrepr.out.push (repI_ok (E := 25) (by decide)) hownr.out hrp.out _ G9.out
          case measure => simp [intOf]; omega
    · have hkn : k = n := by omega
      have Hall := Lib.hid (show outs [] (spF s) (spG s.size) rs k = spAll s rs from outs_all [] (spF s) (spG s.size) rs k (by rw [hl.out]; omega))
      have hrep' := Lib.hid (show Reps [] RepI wo vs (spAll s rs) by rw [← Hall.out]; exact hrep.out)
      have hvl := Lib.hid (hrep'.out.1.trans ((full_len [] (spF s) (spG s.size) (rs := rs)).trans (hl.out.trans hkn.symm)))
      have sL := sp_b15 HL.out h1 (k := rs.length - 1) (by have := hl.out; omega)
      have hT := Lib.hid (show spTop rs s = ((spAll s rs).getD (rs.length - 1) []).getD 0 0 by unfold spTop; rw [if_neg (by have := hl.out; omega)])
      have eB := spTop_b HL.out h1
      obtain ⟨g, cap, hv, hg0, hg1⟩ := hown.out.form (by omega)
      obtain rfl : A' = some ⟨g, 0, none⟩ := by injection hv
      clear hv
      have va := own_at (enc := encV) (sz := 1) (fun _ _ => rfl) hown.out hvl.out undef (k - 1) (by omega) 0 Nat.zero_lt_one
      have ra := hrep'.out.at_ undef (show k - 1 < vs.length by rw [hvl.out]; omega)
      rw [show k - 1 = rs.length - 1 by have := hl.out; omega] at ra
      obtain ⟨ga, ca, csa, ea, hBa, hca⟩ := ra
      have va' : wo.cell? ⟨g, k - 1, none⟩ = some (.slice (some ⟨ga, 0, none⟩) s.size ca) := by
        rw [← sL.1, ← ea, show rs.length - 1 = k - 1 by have := hl.out; omega]; simpa [encV] using va
      have ca0 := (hBa.cell 0).trans (hca 0 (by rw [sL.1]; exact h1))
      rw [← hT.out] at ca0
      have la := hBa.lt
      obtain ⟨eB0, eB1⟩ := eB
      have ht : (spTop rs s).tdiv (s.size : Int) = spTop rs s / (s.size : Int) := Int.tdiv_eq_ediv_of_nonneg eB0
      have hsn : ¬ s.size = 0 := H0'.out
      have hq := Int.ediv_nonneg eB0 (show (0 : Int) ≤ (s.size : Int) by omega)
      have hq1 := Int.ediv_le_self (b := (s.size : Int)) eB0
      generalize spTop rs s = T at *
      have u1 : IntKind.i64.wrap (T / (s.size : Int)) = T / (s.size : Int) := IntWalk.i64_in _ (by omega)
      have hk1 : 0 < k := by omega
      clear va ea hca hBa sL hkn hg0 cap
      go_wp2_with fail
      go_ret2
      exact ⟨by rw [e.out]; rfl, bw⟩
end Go.Proofs.Ytlokofafojepdaa
