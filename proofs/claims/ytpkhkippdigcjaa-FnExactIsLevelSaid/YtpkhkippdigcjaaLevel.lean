/-
  Is a grammar level: in the program and in the reference.
-/
import Derived.Test.YtpkhkippdigcjaaDepth
namespace Go.Proofs.Ytpkhkippdigcjaa
open Go.RowKit

def lvRule (ds : List Int) (r : Fac) : Bool := if r.l.size = 0 then inB (ds.getD r.a.toNat 0 - ds.getD r.b.toNat 0) (-1) 1 else true
def lvAll (rs : List Fac) : Bool := rs.all (lvRule (depths rs))
def lvTuple (rs : List Fac) : Value := if (gOk rs).isSome = true then .tuple #[.bool (lvAll rs), .int .i64 0] else .tuple #[.bool false, .int .i64 1]
theorem depths_len (rs : List Fac) : (depths rs).length = rs.length := by unfold depths; rw [foldG_len]; simp
theorem depths_getD {rs : List Fac} (hwf : WF rs) {i : Nat} (hi : i < rs.length) : 1 ≤ (depths rs).getD i 0 ∧ (depths rs).getD i 0 ≤ rs.length := by
  have := dep_bound hwf (Nat.le_refl _) hi
  rwa [outs_all 0 depF depG rs rs.length (Nat.le_refl _)] at this
theorem all_drop {α : Type} {p : α → Bool} {xs : List α} {k : Nat} {x : α} (h : xs[k]? = some x) : (xs.drop k).all p = (p x && (xs.drop (k + 1)).all p) := by rw [drop_cons h]; rfl

set_option maxHeartbeats 2000000 in
set_option maxRecDepth 100000 in
theorem specIsLevel_any (A : Option Addr) (n c : Nat) (rs : List Fac) (w : World) (hn : n ≤ 1048576) (hr : Rd w w.heap.size A n 3 Fac.cells rs) (hok : ∀ f ∈ rs, f.l.size ≤ maxLen) :
    Calls Try.prog 12 #[.agg #[.slice A n c]] w (Ret (lvTuple rs) w) := by
  have hl := Lib.hid hr.len
  have hb0 : Below w.heap.size w (w.alloc (.cells #[.slice A n c] 30)) := by (repeat first | exact Below.refl _ _ | assumption | refine Below.drew ?_ | refine Below.alloc ?_ (by first | exact Nat.le_refl _ | (simp; done) | omega | (simp; omega)) _ | refine Below.setCell ?_ (by first | exact Nat.le_refl _ | (simp; done) | omega | (simp; omega)) _)
  have hB0 := Blk.new w 30 #[.slice A n c]
  have hr0 := hr.next hb0
  rcases hg : (gOk rs).isSome with _ | _
  · have Hg := Lib.hid hg; clear hg
    have e := Lib.hid (show lvTuple rs = .tuple #[.bool false, .int .i64 1] by unfold lvTuple; rw [Hg.out]; rfl)
    have hc := Lib.hid (l02Ok_any w.heap.size A n c rs _ (hB0.lt) (hB0.cell 0) (by omega) hr0 hok false Hg.out)
    clear hB0
    go_enter Try.func12, Try.ntmps12
    go_wp2_with fail
    refine hc.out.mono ?_
    rintro e1 w1 ⟨rfl, hb1⟩
    go_wp2_with fail
    go_ret2
    exact ⟨by rw [e.out]; rfl, hb0.trans (hb1.mono hb0.size)⟩
  · have Hg := Lib.hid hg; clear hg
    obtain ⟨ls, hls⟩ := Option.isSome_iff_exists.1 Hg.out
    have HW := Lib.hid (wf_of (gOk_lens hls).1)
    have e := Lib.hid (show lvTuple rs = .tuple #[.bool (lvAll rs), .int .i64 0] by unfold lvTuple; rw [Hg.out]; rfl)
    have hc := Lib.hid (l02Ok_any w.heap.size A n c rs _ (hB0.lt) (hB0.cell 0) (by omega) hr0 hok true Hg.out)
    have HB0 := Lib.hid hB0
    clear hls hB0
    go_enter Try.func12, Try.ntmps12
    go_wp2_with fail
    refine hc.out.mono ?_
    rintro e1 w1 ⟨rfl, hb1⟩
    have b1 := hb0.trans (hb1.mono hb0.size)
    have cg1 := (HB0.out.next hb1).cell 0
    have lg1 := (HB0.out.next hb1).lt
    go_wp2_with fail
    refine (l06Depths_any A n c rs w1 hn (hr.next b1) HW.out).mono ?_
    rintro e2 w2 ⟨A2, c2, rfl, own2, hb2⟩
    have b2 := b1.trans (hb2.mono b1.size)
    have B2 := Lib.hid ((HB0.out.next hb1).next hb2)
    have dl := Lib.hid (depths_len rs)
    rw [dl.out] at own2
    rw [dl.out]
    have O2 := Lib.hid own2; clear own2 cg1 lg1
    go_wp2_with fail
    go_loopw [5] (fun i_ w' => ∃ k : Nat, i_ = .int .i64 k ∧ k ≤ n ∧ Below w2.heap.size w2 w' ∧ Hid ((rs.drop k).all (lvRule (depths rs)) = lvAll rs)) (fun i_ _ => n - (intOf i_).toNat)
    case atStart => exact ⟨0, rfl, by omega, Below.refl _ _, Lib.hid rfl⟩
    case round =>
      obtain ⟨k, rfl, hk, hb, H⟩ := hrel
      have cg := (B2.out.next hb).cell 0
      have lg := (B2.out.next hb).lt
      by_cases hlt : k < n
      · obtain ⟨b, o, x, rfl, hB, gx, c0, c1, c2'⟩ := ((hr.next b2).next hb).fac hlt
        have H' := Lib.hid (show (lvRule (depths rs) x && (rs.drop (k + 1)).all (lvRule (depths rs))) = lvAll rs by rw [← H.out, all_drop gx])
        clear H
        by_cases h0 : x.l.size = 0
        · have e0 := size0 h0
          rcases HW.out k x gx with ⟨_, ha0, ha1, hb0', hb1'⟩ | ⟨cc, hcc, hxl, _⟩
          · have hkl : k < rs.length := by rw [hl.out]; exact hlt
            have hbd1 := depths_getD HW.out (i := x.a.toNat) (by omega)
            have hbd2 := depths_getD HW.out (i := x.b.toNat) (by omega)
            have hln := hl.out
            have own3 := Lib.hid (own_next O2.out hb)
            obtain ⟨g, rfl, hg0, hg1, e1⟩ := own_int own3.out dl.out x.a ha0 (by omega)
            obtain ⟨g', hgg, _, _, e2⟩ := own_int own3.out dl.out x.b hb0' (by omega)
            obtain rfl : g = g' := by injection hgg with hgg; injection hgg
            clear hgg
            have hlv := Lib.hid (show lvRule (depths rs) x = inB ((depths rs).getD x.a.toNat 0 - (depths rs).getD x.b.toNat 0) (-1) 1 by unfold lvRule; rw [if_pos h0])
            generalize (depths rs).getD x.a.toNat 0 = y1 at *
            generalize (depths rs).getD x.b.toNat 0 = y2 at *
            have i1 : x.a < (rs.length : Int) := by omega
            have i2 : x.b < (rs.length : Int) := by omega
            have q0 : 1 ≤ y1 := hbd1.1
            have q1 : y1 ≤ 1048576 := by omega
            have q2 : 1 ≤ y2 := hbd2.1
            have q3 : y2 ≤ 1048576 := by omega
            clear hbd1 hbd2 h0 gx hkl
            clear hln
            rcases hin : inB (y1 - y2) (-1) 1 with _ | _
            all_goals
              have Hin := Lib.hid hin; clear hin
              go_wp2_with fail
              refine named fun w3 H3 => ?_
              have B3 : Blk w3 wr.heap.size 57 #[.string x.l, .int .i64 x.a, .int .i64 x.b] := by rw [H3.out]; exact Blk.new _ _ _
              have hb3 : Below wr.heap.size wr w3 := by rw [H3.out]; (repeat first | exact Below.refl _ _ | assumption | refine Below.drew ?_ | refine Below.alloc ?_ (by first | exact Nat.le_refl _ | (simp; done) | omega | (simp; omega)) _ | refine Below.setCell ?_ (by first | exact Nat.le_refl _ | (simp; done) | omega | (simp; omega)) _)
              obtain ⟨d0, d1, d2⟩ := B3.three
              have hz3 := B3.lt
              have f1 := (hb3.cell (p := ⟨g, x.a.toNat, none⟩) hg1).trans e1
              have f2 := (hb3.cell (p := ⟨g, x.b.toNat, none⟩) hg1).trans e2
              have hg3 : g < w3.heap.size := by omega
              have hup := upc w3.heap.size w3
              refine wp_region_up w3.heap.size (by kernel_rfl) (by kernel_rfl) ?_
              repeat (go_big_quiet_step ((go_at_call 36; exact Calls.up (Nat.le_refl _) (specIn_any (y1 - y2) (-1) 1 _ _ Hin.out))))
              refine wpQuiet_nil ?_
              intro w4 hup_w4
              have hb4 := up_of hup_w4
              have hb34 := hb3.trans (hb4.mono hb3.size)
              go_wp2_with fail
              first
                | (go_ret2
                   exact ⟨by rw [e.out, ← H'.out, hlv.out, Hin.out]; rfl, b2.trans ((hb.trans (hb34.mono hb.size)).mono b2.size)⟩)
                | (go_roundw
                   case rel => exact ⟨k + 1, by go_num, by omega, hb.trans (hb34.mono hb.size), Lib.hid (by rw [← H'.out, hlv.out, Hin.out]; rfl)⟩
                   case measure => simp [intOf]; omega)
          · rw [hxl] at h0; exact absurd h0 (show ¬ (1 : Nat) = 0 by omega)
        · have e0 := size1 h0
          have e0' := size1' h0
          have hlv := Lib.hid (show lvRule (depths rs) x = true by unfold lvRule; rw [if_neg h0])
          clear h0
          go_wp2_with fail
          refine named fun w3 H3 => ?_
          have B3 : Blk w3 wr.heap.size 57 #[.string x.l, .int .i64 x.a, .int .i64 x.b] := by rw [H3.out]; exact Blk.new _ _ _
          have hb3 : Below wr.heap.size wr w3 := by rw [H3.out]; (repeat first | exact Below.refl _ _ | assumption | refine Below.drew ?_ | refine Below.alloc ?_ (by first | exact Nat.le_refl _ | (simp; done) | omega | (simp; omega)) _ | refine Below.setCell ?_ (by first | exact Nat.le_refl _ | (simp; done) | omega | (simp; omega)) _)
          obtain ⟨d0, d1, d2⟩ := B3.three
          have hz3 := B3.lt
          have hup := upc w3.heap.size w3
          refine wp_region_up w3.heap.size (by kernel_rfl) (by kernel_rfl) ?_
          repeat (go_big_quiet_step (fail))
          refine wpQuiet_nil ?_
          intro w4 hup_w4
          have hb4 := up_of hup_w4
          have hb34 := hb3.trans (hb4.mono hb3.size)
          go_wp2_with fail
          go_roundw
          case rel => exact ⟨k + 1, by go_num, by omega, hb.trans (hb34.mono hb.size), Lib.hid (by rw [← H'.out, hlv.out]; rfl)⟩
          case measure => simp [intOf]; omega
      · have e4 := Lib.hid (show lvAll rs = true by rw [← H.out, List.drop_of_length_le (by rw [hl.out]; omega)]; rfl)
        go_wp2_with fail
        go_ret2
        exact ⟨by rw [e.out, e4.out]; rfl, b2.trans (hb.mono b2.size)⟩
end Go.Proofs.Ytpkhkippdigcjaa
