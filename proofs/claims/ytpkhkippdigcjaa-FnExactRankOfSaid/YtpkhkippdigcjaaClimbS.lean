/-
  The climbs of all rules: in the reference.
-/
import Derived.Test.YtpkhkippdigcjaaClimb
import Derived.Test.YtpkhkippdigcjaaDepth
import Derived.Deep.RegionHeld3
namespace Go.Proofs.Ytpkhkippdigcjaa
open Go.RowKit

theorem l00Min_any (a b : Int) (w : World) : Calls Try.prog 94 #[.int .i64 a, .int .i64 b] w (Ret (.int .i64 (min a b)) w) := by
  go_enter Try.func94, Try.ntmps94
  go_wp2
  all_goals
    go_ret
    exact ⟨ret_int (by omega), by (repeat first | exact Below.refl _ _ | assumption | refine Below.drew ?_ | refine Below.alloc ?_ (by first | exact Nat.le_refl _ | (simp; done) | omega | (simp; omega)) _ | refine Below.setCell ?_ (by first | exact Nat.le_refl _ | (simp; done) | omega | (simp; omega)) _)⟩
theorem l04Letter_any (c : UInt8) (hc : letB c = true) (w : World) : Calls Try.prog 46 #[.int .u8 (c.toNat : Int)] w (Ret (.int .i64 ((c.toNat : Int) - 97)) w) := by
  obtain ⟨h0, h1⟩ := letB_num hc
  clear hc
  go_enter Try.func46, Try.ntmps46
  go_wp2
  go_ret
  exact ⟨ret_int (by omega), by (repeat first | exact Below.refl _ _ | assumption | refine Below.drew ?_ | refine Below.alloc ?_ (by first | exact Nat.le_refl _ | (simp; done) | omega | (simp; omega)) _ | refine Below.setCell ?_ (by first | exact Nat.le_refl _ | (simp; done) | omega | (simp; omega)) _)⟩
set_option maxHeartbeats 2000000 in
set_option maxRecDepth 100000 in
theorem l05Climbs_any (gb : Nat) (A : Option Addr) (n c : Nat) (rs : List Fac) (D : Option Addr) (d : Nat) (ws : List Int) (ls : List Int) (w : World) (hg : gb < w.heap.size) (hc : w.cell? ⟨gb, 0, none⟩ = some (.slice A n c)) (hn : n ≤ 1048576) (hr : Rd w w.heap.size A n 3 Fac.cells rs)
    (hls : gLens rs [] = some ls) (hws : WsOk ws) (hd : Rd w w.heap.size D 4 1 intE ws) :
    Calls Try.prog 71 #[.pointer (some ⟨gb, 0, none⟩), .slice D 4 d] w (RetNew w 43 3 encCl (clim ws rs)) := by
  have hl := Lib.hid hr.len
  have HL := Lib.hid hls; clear hls
  have HWs := Lib.hid hws; clear hws
  go_enter Try.func71, Try.ntmps71
  go_wp2
  go_loopw [5, 6] (fun o_ i_ w' => ∃ (k : Nat) (A' : Option Addr) (c' : Nat), i_ = .int .i64 k ∧ o_ = .slice A' k c' ∧ k ≤ n ∧
      Hid (w'.ownsRow w.heap.size 43 3 (.slice A' k c') k ((outs Cl.nil (climF ws) climG rs k).flatMap encCl)) ∧ Below w.heap.size w w') (fun _ i_ _ => n - (intOf i_).toNat)
  case atStart =>
    exact ⟨0, _, 0, rfl, rfl, by omega, Lib.hid (by simpa [outs, foldG] using World.ownsRow_made (base := w.heap.size) (e := 43) (size := 3) w #[] 0 (Nat.le_refl _) (by unfold maxLen; omega) rfl), by (repeat first | exact Below.refl _ _ | assumption | refine Below.drew ?_ | refine Below.alloc ?_ (by first | exact Nat.le_refl _ | (simp; done) | omega | (simp; omega)) _ | refine Below.setCell ?_ (by first | exact Nat.le_refl _ | (simp; done) | omega | (simp; omega)) _)⟩
  case round =>
    obtain ⟨k, A', c', rfl, rfl, hk, hown, hb⟩ := hrel
    have cg := (hb.cell (p := ⟨gb, 0, none⟩) hg).trans hc
    have lg : gb < wr.heap.size := by have := hb.size; omega
    by_cases hlt : k < n
    · obtain ⟨b, o, x, rfl, hB, gx, c0, c1, c2⟩ := (hr.next hb).fac hlt
      have Hst := Lib.hid (outs_step Cl.nil (climF ws) climG gx)
      have Hol := Lib.hid (outs_len Cl.nil (climF ws) climG rs k (by rw [hl.out]; exact hk))
      rcases wf_of HL.out k x gx with ⟨h0, ha0, ha1, hb0, hb1⟩ | ⟨cc, hcc, hxl, hxa, hxb⟩
      · have e0 := size0 h0
        have hkr : k ≤ rs.length := by rw [hl.out]; exact hk
        have q1 := clim_bound HL.out HWs.out (k := x.a.toNat) (by omega)
        have q2 := clim_bound HL.out HWs.out (k := x.b.toNat) (by omega)
        have m1 := lens_bound HL.out (i := x.a.toNat) (by omega)
        have m2 := lens_bound HL.out (i := x.b.toNat) (by omega)
        rw [← outs_full Cl.nil (climF ws) climG (k := k) (i := x.a.toNat) (by omega) hkr] at q1
        rw [← outs_full Cl.nil (climF ws) climG (k := k) (i := x.b.toNat) (by omega) hkr] at q2
        have q1' : ClB 9000000000000000 ((outs Cl.nil (climF ws) climG rs k).getD x.a.toNat Cl.nil) := by unfold ClB at *; omega
        have q2' : ClB 9000000000000000 ((outs Cl.nil (climF ws) climG rs k).getD x.b.toNat Cl.nil) := by unfold ClB at *; omega
        clear q1 q2 m1 m2 hkr
        have hfs := Lib.hid (show fStep Cl.nil (climF ws) climG (outs Cl.nil (climF ws) climG rs k) x = climG ((outs Cl.nil (climF ws) climG rs k).getD x.a.toNat Cl.nil) ((outs Cl.nil (climF ws) climG rs k).getD x.b.toNat Cl.nil) x by unfold fStep; rw [if_pos h0])
        obtain ⟨g, cap, hv, hg0, hg1⟩ := hown.out.form (by omega)
        obtain rfl : A' = some ⟨g, 0, none⟩ := by injection hv
        clear hv
        have hgr : g ≠ wr.heap.size := by omega
        have HE : Hid (∀ (w' : World), w'.ownsRow w.heap.size 43 3 (.slice (some ⟨g, 0, none⟩) k c') k ((outs Cl.nil (climF ws) climG rs k).flatMap encCl) → ∀ i, i < k →
            w'.cell? ⟨g, i * 3, none⟩ = some (.int .i64 ((outs Cl.nil (climF ws) climG rs k).getD i Cl.nil).t) ∧ w'.cell? ⟨g, i * 3 + 1, none⟩ = some (.int .i64 ((outs Cl.nil (climF ws) climG rs k).getD i Cl.nil).l) ∧
            w'.cell? ⟨g, i * 3 + 2, none⟩ = some (.int .i64 ((outs Cl.nil (climF ws) climG rs k).getD i Cl.nil).h)) := Lib.hid (fun w' h i hi =>
          ⟨by simpa [encCl] using own_at (enc := encCl) (sz := 3) (fun y _ => lenCl y) h Hol.out Cl.nil i hi 0 (by omega), by simpa [encCl] using own_at (enc := encCl) (sz := 3) (fun y _ => lenCl y) h Hol.out Cl.nil i hi 1 (by omega), by simpa [encCl] using own_at (enc := encCl) (sz := 3) (fun y _ => lenCl y) h Hol.out Cl.nil i hi 2 (by omega)⟩)
        obtain ⟨va0, va1, va2⟩ := HE.out wr hown.out x.a.toNat (by omega)
        obtain ⟨vb0, vb1, vb2⟩ := HE.out wr hown.out x.b.toNat (by omega)
        clear HE
        generalize (outs Cl.nil (climF ws) climG rs k).getD x.a.toNat Cl.nil = y1 at *
        generalize (outs Cl.nil (climF ws) climG rs k).getD x.b.toNat Cl.nil = y2 at *
        obtain ⟨p0, p1, p2, p3, p4, p5⟩ := q1'
        obtain ⟨r0, r1, r2, r3, r4, r5⟩ := q2'
        have i1 : x.a < (k : Int) := ha1
        have i2 : x.b < (k : Int) := hb1
        clear h0 gx
        go_wp2_with fail
        refine named fun w1 H1 => ?_
        have B1 : Blk w1 (wr.heap.size + 1) 43 #[.int .i64 y1.t, .int .i64 y1.l, .int .i64 y1.h] := by rw [H1.out]; simpa using (Blk.new (wr.alloc _) _ _).alloc _
        have B2 : Blk w1 (wr.heap.size + 1 + 1) 43 #[.int .i64 y2.t, .int .i64 y2.l, .int .i64 y2.h] := by rw [H1.out]; simpa using Blk.new ((wr.alloc _).alloc _) _ _
        have b1 : Below w.heap.size w w1 := by rw [H1.out]; exact ((hb.alloc hb.size _).alloc (by have := hb.size; simp; omega) _).alloc (by have := hb.size; simp; omega) _
        have own1 : w1.ownsRow w.heap.size 43 3 (.slice (some ⟨g, 0, none⟩) k c') k ((outs Cl.nil (climF ws) climG rs k).flatMap encCl) := by rw [H1.out]; exact ((hown.out.alloc _).alloc _).alloc _
        obtain ⟨d0, d1, d2⟩ := B1.three
        obtain ⟨f0, f1, f2⟩ := B2.three
        have hz1 := B2.lt
        have Own1 := Lib.hid own1
        have KS := Lib.hid (fun (w' : World) (h : Below w.heap.size w w' ∧ w'.ownsRow w.heap.size 43 3 (.slice (some ⟨g, 0, none⟩) k c') k ((outs Cl.nil (climF ws) climG rs k).flatMap encCl) ∧ w1.heap.size ≤ w'.heap.size ∧ (∀ b o, wr.heap.size ≤ b → b < w1.heap.size → w'.cell? ⟨b, o, none⟩ = w1.cell? ⟨b, o, none⟩)) => show (Below w.heap.size w w' ∧ w'.ownsRow w.heap.size 43 3 (.slice (some ⟨g, 0, none⟩) k c') k ((outs Cl.nil (climF ws) climG rs k).flatMap encCl) ∧ w1.heap.size ≤ w'.heap.size ∧ (∀ b o, wr.heap.size ≤ b → b < w1.heap.size → w'.cell? ⟨b, o, none⟩ = w1.cell? ⟨b, o, none⟩)) ∧ w'.cell? ⟨wr.heap.size + 1, 0, none⟩ = some (.int .i64 y1.t) ∧ w'.cell? ⟨wr.heap.size + 1, 1, none⟩ = some (.int .i64 y1.l) ∧ w'.cell? ⟨wr.heap.size + 1, 2, none⟩ = some (.int .i64 y1.h) ∧ w'.cell? ⟨wr.heap.size + 1 + 1, 0, none⟩ = some (.int .i64 y2.t) ∧ w'.cell? ⟨wr.heap.size + 1 + 1, 1, none⟩ = some (.int .i64 y2.l) ∧ w'.cell? ⟨wr.heap.size + 1 + 1, 2, none⟩ = some (.int .i64 y2.h) from
          ⟨h, (h.2.2.2 (wr.heap.size + 1) 0 (by omega) (by omega)).trans d0, (h.2.2.2 (wr.heap.size + 1) 1 (by omega) (by omega)).trans d1, (h.2.2.2 (wr.heap.size + 1) 2 (by omega) (by omega)).trans d2,
            (h.2.2.2 (wr.heap.size + 1 + 1) 0 (by omega) (by omega)).trans f0, (h.2.2.2 (wr.heap.size + 1 + 1) 1 (by omega) (by omega)).trans f1, (h.2.2.2 (wr.heap.size + 1 + 1) 2 (by omega) (by omega)).trans f2⟩)
        clear own1 H1 va0 va1 va2 vb0 vb1 vb2
        have hk1 : (k + 1) * 24 ≤ 140737488355328 := by omega
        have hk2 : k + 1 ≤ maxLen := by unfold maxLen; omega
        have u1 : IntKind.i64.wrap (y1.t + y2.t) = y1.t + y2.t := IntWalk.i64_in _ (by omega)
        have u2 : IntKind.i64.wrap (y1.t + y2.l) = y1.t + y2.l := IntWalk.i64_in _ (by clear u1; omega)
        have u3 : IntKind.i64.wrap (y1.t + y2.h) = y1.t + y2.h := IntWalk.i64_in _ (by clear u1 u2; omega)
        go_region_held3 (fun w' => (Below w.heap.size w w' ∧ w'.ownsRow w.heap.size 43 3 (.slice (some ⟨g, 0, none⟩) k c') k ((outs Cl.nil (climF ws) climG rs k).flatMap encCl) ∧ w1.heap.size ≤ w'.heap.size ∧ (∀ b o, wr.heap.size ≤ b → b < w1.heap.size → w'.cell? ⟨b, o, none⟩ = w1.cell? ⟨b, o, none⟩)) ∧ w'.cell? ⟨wr.heap.size + 1, 0, none⟩ = some (.int .i64 y1.t) ∧ w'.cell? ⟨wr.heap.size + 1, 1, none⟩ = some (.int .i64 y1.l) ∧ w'.cell? ⟨wr.heap.size + 1, 2, none⟩ = some (.int .i64 y1.h) ∧ w'.cell? ⟨wr.heap.size + 1 + 1, 0, none⟩ = some (.int .i64 y2.t) ∧ w'.cell? ⟨wr.heap.size + 1 + 1, 1, none⟩ = some (.int .i64 y2.l) ∧ w'.cell? ⟨wr.heap.size + 1 + 1, 2, none⟩ = some (.int .i64 y2.h))
          (first | exact KS.out _ bk | exact KS.out _ (held_alloc bk _) | exact KS.out _ (held_drew b1 Own1.out _))
          (first
            | (go_at_call 94
               refine (l00Min_any y1.l (y1.t + y2.l) _).mono ?_
               rintro e wm ⟨rfl, hbm⟩
               have bk := held_callR (by assumption) hbm)
            | (go_at_call 74
               refine (l00Max_any y1.h (y1.t + y2.h) _).mono ?_
               rintro e wm ⟨rfl, hbm⟩
               have bk := held_callR (by assumption) hbm)
            | (refine step_push (by rfl) _ _ _ (by rfl) w.heap.size 43 3 24 elemCl encCl (some ⟨g, 0, none⟩) k c' (outs Cl.nil (climF ws) climG rs k) (by rfl) (held_alloc bk _).2.1 _ ⟨y1.t + y2.t, min y1.l (y1.t + y2.l), max y1.h (y1.t + y2.h)⟩ #[.int .i64 (y1.t + y2.t), .int .i64 (min y1.l (y1.t + y2.l)), .int .i64 (max y1.h (y1.t + y2.h))] 43 (0, 0) (by rfl) (heap_alloc_new _ _) rfl rfl (by simp [encCl, Value.oneCell']) (by decide) hk1 hk2 (held_alloc bk _).1.size ?_
               intro A5 c5 w5 own5 hg5 old5
               have bk' := held_push bk hg5 old5 (fun q hq => by cases hq; exact ⟨hg0, hg1⟩)
               clear bk
               have bk := bk')
            | fail)
        all_goals
          clear u1 u2 u3
          go_wp2_with fail
          go_roundw
          case rel =>
            refine ⟨k + 1, A5, c5, by go_num, rfl, by omega, Lib.hid ?_, bk.1⟩
            rw [Hst.out, hfs.out]; exact own5
          case measure => simp [intOf]; omega
      · obtain ⟨xl, xa, xb⟩ := x
        simp only at hxl hxa hxb c0 c1 c2
        subst hxl hxa hxb
        obtain ⟨hl0, hl1⟩ := letB_num hcc
        have e1 := size1 (s := ⟨#[cc]⟩) (show (1 : Nat) ≠ 0 by omega)
        have e2 := size1' (s := ⟨#[cc]⟩) (show (1 : Nat) ≠ 0 by omega)
        obtain ⟨bw, ow, y, rfl, hBw, gw, ew⟩ := (show Rd wr wr.heap.size D 4 1 (fun s => [.int .i64 s]) ws from (hd.next hb)).int (k := cc.toNat - 97) (by omega)
        have hfs := Lib.hid (show fStep Cl.nil (climF ws) climG (outs Cl.nil (climF ws) climG rs k) ⟨⟨#[cc]⟩, 0, 0⟩ = ⟨y, min 0 y, max 0 y⟩ by
          show climF ws (letN ⟨#[cc]⟩) = _
          unfold climF; rw [letN_one, List.getD_eq_getElem?_getD, gw]; rfl)
        have Hcc := Lib.hid hcc
        clear gx hcc gw
        have j0 : (0 : Int) ≤ (cc.toNat : Int) - 97 := by omega
        have j1 : (cc.toNat : Int) - 97 < 4 := by omega
        have hy := HWs.out.2
        have jt : Hid (((cc.toNat : Int) - 97).toNat = cc.toNat - 97) := Lib.hid (by omega)
        go_wp2_with fail
        refine (l04Letter_any cc Hcc.out _).mono ?_
        rintro e w1 ⟨rfl, hb1'⟩
        have b1 := (hb.alloc hb.size _).trans (hb1'.mono (by have := hb.size; simp; omega))
        have hz1 := hb1'.size
        have own1 := Lib.hid (own_next (hown.out.alloc _) hb1')
        have ew1 : w1.cell? ⟨bw, ow + (cc.toNat - 97), none⟩ = some (.int .i64 y) :=
          (hb1'.cell (p := ⟨bw, ow + (cc.toNat - 97), none⟩) (by simp; omega)).trans ((((Below.refl wr.heap.size wr).alloc (Nat.le_refl _) _).cell hBw).trans ew)
        clear ew
        go_wp2_with fail
        refine (l00Min_any 0 y _).mono ?_
        rintro e w2 ⟨rfl, hb2⟩
        go_wp2_with fail
        refine (l00Max_any 0 y _).mono ?_
        rintro e w3 ⟨rfl, hb3⟩
        have b3 := b1.trans ((hb2.trans (hb3.mono hb2.size)).mono b1.size)
        have own3 := Lib.hid (own_next (own_next own1.out hb2) hb3)
        go_wp2_with
          (at_builtin
           refine wpList_push (w0 := w) rfl _ _ _ rfl w.heap.size 43 3 24 elemCl encCl _ k c' (outs Cl.nil (climF ws) climG rs k) rfl (own3.out.alloc _) w3.heap.size ⟨y, min 0 y, max 0 y⟩ #[.int .i64 y, .int .i64 (min 0 y), .int .i64 (max 0 y)] 43 (0, 0) rfl (heap_alloc_new _ _) rfl rfl (by simp [encCl, Value.oneCell']) (by omega) (by omega) (by unfold maxLen; omega) rfl (b3.alloc b3.size _) ?_
           intro A9 c9 w9 own9 hg9 hat9 hb9
           have O9 := Lib.hid own9; clear own9)
        go_roundw
        case rel =>
          refine ⟨k + 1, A9, c9, by go_num, rfl, by omega, Lib.hid ?_, hb9⟩
          rw [Hst.out, hfs.out]; exact O9.out
        case measure => simp [intOf]; omega
    · have e := Lib.hid (show outs Cl.nil (climF ws) climG rs k = clim ws rs from outs_all Cl.nil (climF ws) climG rs k (by rw [hl.out]; omega))
      have e2 := Lib.hid (outs_len Cl.nil (climF ws) climG rs k (by rw [hl.out]; omega))
      go_wp2_with fail
      go_ret
      refine ⟨A', c', ret_slice (by rw [← e.out, e2.out]), ?_, hb⟩
      rw [← e.out, e2.out]
      exact hown.out
end Go.Proofs.Ytpkhkippdigcjaa
