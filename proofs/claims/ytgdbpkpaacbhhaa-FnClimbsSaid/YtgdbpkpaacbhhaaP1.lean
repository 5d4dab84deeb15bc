/-
  Texts of this claim, merged: FoldC Climb Lett Depth ClimbS ClimbT Make FoldT Bal PlainM TrimM MapM TrimV Stop.
-/
import Derived.Test.YtgdbpkpaacbhhaaP0
import Derived.Deep.RegionHeld3
import Derived.Deep.RegionWith


/-
  impl.folded at impl.Climb: what it makes of a grammar, by the contracts of the two functions that it is handed.
-/
namespace Go.Proofs.Ytgdbpkpaacbhhaa
open Go.RowKit

structure Cl where
  t : Int
  l : Int
  h : Int
  deriving Inhabited, DecidableEq
def Cl.nil : Cl := ⟨0, 0, 0⟩
def encCl (y : Cl) : List Value := [.int .i64 y.t, .int .i64 y.l, .int .i64 y.h]
theorem elemCl : Elem Try.prog 100 51 3 24 := Elem.mk' (z := .agg #[.int .i64 0, .int .i64 0, .int .i64 0]) Try.underlying100 (by kernel_rfl) rfl
theorem lenCl (y : Cl) : (encCl y).length = 3 := rfl

set_option maxHeartbeats 2000000 in
set_option maxRecDepth 100000 in
theorem foldC_any (fl fp : Nat) (el : EnterOk fl) (ep : EnterOk fp) (cl cp : Array Value) (F : Nat → Cl) (G : Cl → Cl → Fac → Cl) (z : Cl) (A : Option Addr) (n c : Nat) (rs : List Fac) (w : World) (hn : n ≤ 1048576) (hr : Rd w w.heap.size A n 3 Fac.cells rs) (hwf : WF rs)
    (hF : ∀ (k : Nat) (r : Fac), rs[k]? = some r → r.l.size ≠ 0 → ∀ w', Below w.heap.size w w' → Calls Try.prog fl (#[.int .i64 (letN r.l : Nat)] ++ cl) w' (Ret (.agg #[.int .i64 (F (letN r.l)).t, .int .i64 (F (letN r.l)).l, .int .i64 (F (letN r.l)).h]) w'))
    (hG : ∀ (k : Nat) (r : Fac), rs[k]? = some r → r.l.size = 0 → ∀ w', Below w.heap.size w w' →
      Calls Try.prog fp (#[(.agg #[.int .i64 ((outs Cl.nil F G rs k).getD r.a.toNat Cl.nil).t, .int .i64 ((outs Cl.nil F G rs k).getD r.a.toNat Cl.nil).l, .int .i64 ((outs Cl.nil F G rs k).getD r.a.toNat Cl.nil).h]), (.agg #[.int .i64 ((outs Cl.nil F G rs k).getD r.b.toNat Cl.nil).t, .int .i64 ((outs Cl.nil F G rs k).getD r.b.toNat Cl.nil).l, .int .i64 ((outs Cl.nil F G rs k).getD r.b.toNat Cl.nil).h]), r.val] ++ cp) w' (Ret (.agg #[.int .i64 (G ((outs Cl.nil F G rs k).getD r.a.toNat Cl.nil) ((outs Cl.nil F G rs k).getD r.b.toNat Cl.nil) r).t, .int .i64 (G ((outs Cl.nil F G rs k).getD r.a.toNat Cl.nil) ((outs Cl.nil F G rs k).getD r.b.toNat Cl.nil) r).l, .int .i64 (G ((outs Cl.nil F G rs k).getD r.a.toNat Cl.nil) ((outs Cl.nil F G rs k).getD r.b.toNat Cl.nil) r).h]) w')) :
    Calls Try.prog 92 #[.agg #[.slice A n c], (.agg #[.int .i64 z.t, .int .i64 z.l, .int .i64 z.h]), .func (.func fl) #[] cl, .func (.func fp) #[] cp] w (RetNew w 51 3 encCl (foldAll Cl.nil F G z rs)) := by
  have hl := Lib.hid hr.len
  have HF := Lib.hid hF; clear hF
  unfold EnterOk at el ep
  have HG := Lib.hid hG; clear hG
  have HW := Lib.hid hwf; clear hwf
  go_enter Try.func92, Try.ntmps92
  go_wp2_with fail
  refine named fun wS HS => ?_
  have hbS0 : Below w.heap.size w wS := by rw [HS.out]; (repeat first | exact Below.refl _ _ | assumption | refine Below.drew ?_ | refine Below.alloc ?_ (by first | exact Nat.le_refl _ | (simp; done) | omega | (simp; omega)) _ | refine Below.setCell ?_ (by first | exact Nat.le_refl _ | (simp; done) | omega | (simp; omega)) _)
  have BN0 : Blk wS (w.heap.size + 1) 51 #[.int .i64 z.t, .int .i64 z.l, .int .i64 z.h] := by rw [HS.out]; simpa using (Blk.new (w.alloc _) _ _).alloc _
  have own0 : wS.ownsRow (w.heap.size + 2) 51 3 (.slice (some ⟨w.heap.size + 1 + 1, 0, none⟩) 0 0) 0 [] := by
    rw [HS.out]; simpa using World.ownsRow_made (base := w.heap.size + 2) (e := 51) (size := 3) ((w.alloc (.cells #[.slice A n c] 26)).alloc (.cells #[.int .i64 z.t, .int .i64 z.l, .int .i64 z.h] 51)) #[] 0 (by simp) (by unfold maxLen; omega) rfl
  have hzS : w.heap.size + 3 ≤ wS.heap.size := by rw [HS.out]; simp
  have hbS := Lib.hid hbS0; have BN := Lib.hid BN0; have Own0 := Lib.hid own0
  clear hbS0 BN0 own0 HS
  go_loopw [9, 16] (fun o_ i_ w' => ∃ (k : Nat) (A' : Option Addr) (c' : Nat), i_ = .int .i64 k ∧ o_ = .slice A' k c' ∧ k ≤ n ∧
      Hid (w'.ownsRow (w.heap.size + 2) 51 3 (.slice A' k c') k ((outs Cl.nil F G rs k).flatMap encCl)) ∧ Below (w.heap.size + 2) wS w') (fun _ i_ _ => n - (intOf i_).toNat)
  case atStart =>
    exact ⟨0, _, 0, rfl, rfl, by omega, Lib.hid (by simpa [outs, foldG] using Own0.out), Below.refl _ _⟩
  case round =>
    obtain ⟨k, A', c', rfl, rfl, hk, hown, hb⟩ := hrel
    have hbw := Lib.hid (hbS.out.trans (hb.mono (by omega)))
    have hzr := hb.size
    by_cases hlt : k < n
    · obtain ⟨b, o, x, rfl, hB, gx, c0, c1, c2⟩ := (hr.next hbw.out).fac hlt
      have Hst := Lib.hid (outs_step Cl.nil F G gx)
      have Hol := Lib.hid (outs_len Cl.nil F G rs k (by rw [hl.out]; exact hk))
      rcases HW.out k x gx with ⟨h0, ha0, ha1, hb0, hb1⟩ | ⟨cc, hcc, hxl, hxa, hxb⟩
      · have hG := HG.out k x gx h0
        have hfs := Lib.hid (show fStep Cl.nil F G (outs Cl.nil F G rs k) x = G ((outs Cl.nil F G rs k).getD x.a.toNat Cl.nil) ((outs Cl.nil F G rs k).getD x.b.toNat Cl.nil) x by unfold fStep; rw [if_pos h0])
        have HG2 := Lib.hid hG; clear hG gx
        go_wp2_with fail
        refine (isPair_any x true _ (by simpa [isP] using h0)).mono ?_
        rintro e w1 ⟨rfl, hb1'⟩
        obtain ⟨d0, d1, d2⟩ := ((Blk.new wr _ _).next hb1').three
        have b1 := (hb.alloc (by omega) _).trans (hb1'.mono (by simp; omega))
        have hz1 : wr.heap.size < w1.heap.size := ((Blk.new wr 82 #[.string x.l, .int .i64 x.a, .int .i64 x.b]).next hb1').lt
        have own1 := Lib.hid (own_next (hown.out.alloc _) hb1')
        obtain ⟨g, cap, hv, hg0, hg1⟩ := own1.out.form (by omega)
        obtain rfl : A' = some ⟨g, 0, none⟩ := by injection hv
        clear hv
        have na : x.a.toNat < k := by omega
        have nb : x.b.toNat < k := by omega
        have HEa0 := Lib.hid (fun (w2_ : World) (h : w2_.ownsRow (w.heap.size + 2) 51 3 (.slice (some ⟨g, 0, none⟩) k c') k ((outs Cl.nil F G rs k).flatMap encCl)) => show w2_.cell? ⟨g, x.a.toNat * 3, none⟩ = some (.int .i64 ((outs Cl.nil F G rs k).getD x.a.toNat Cl.nil).t) from by simpa [encCl] using own_at (enc := encCl) (sz := 3) (fun y _ => lenCl y) h Hol.out Cl.nil x.a.toNat na 0 (by omega))
        have HEa1 := Lib.hid (fun (w2_ : World) (h : w2_.ownsRow (w.heap.size + 2) 51 3 (.slice (some ⟨g, 0, none⟩) k c') k ((outs Cl.nil F G rs k).flatMap encCl)) => show w2_.cell? ⟨g, x.a.toNat * 3 + 1, none⟩ = some (.int .i64 ((outs Cl.nil F G rs k).getD x.a.toNat Cl.nil).l) from by simpa [encCl] using own_at (enc := encCl) (sz := 3) (fun y _ => lenCl y) h Hol.out Cl.nil x.a.toNat na 1 (by omega))
        have HEa2 := Lib.hid (fun (w2_ : World) (h : w2_.ownsRow (w.heap.size + 2) 51 3 (.slice (some ⟨g, 0, none⟩) k c') k ((outs Cl.nil F G rs k).flatMap encCl)) => show w2_.cell? ⟨g, x.a.toNat * 3 + 2, none⟩ = some (.int .i64 ((outs Cl.nil F G rs k).getD x.a.toNat Cl.nil).h) from by simpa [encCl] using own_at (enc := encCl) (sz := 3) (fun y _ => lenCl y) h Hol.out Cl.nil x.a.toNat na 2 (by omega))
        have HEb0 := Lib.hid (fun (w2_ : World) (h : w2_.ownsRow (w.heap.size + 2) 51 3 (.slice (some ⟨g, 0, none⟩) k c') k ((outs Cl.nil F G rs k).flatMap encCl)) => show w2_.cell? ⟨g, x.b.toNat * 3, none⟩ = some (.int .i64 ((outs Cl.nil F G rs k).getD x.b.toNat Cl.nil).t) from by simpa [encCl] using own_at (enc := encCl) (sz := 3) (fun y _ => lenCl y) h Hol.out Cl.nil x.b.toNat nb 0 (by omega))
        have HEb1 := Lib.hid (fun (w2_ : World) (h : w2_.ownsRow (w.heap.size + 2) 51 3 (.slice (some ⟨g, 0, none⟩) k c') k ((outs Cl.nil F G rs k).flatMap encCl)) => show w2_.cell? ⟨g, x.b.toNat * 3 + 1, none⟩ = some (.int .i64 ((outs Cl.nil F G rs k).getD x.b.toNat Cl.nil).l) from by simpa [encCl] using own_at (enc := encCl) (sz := 3) (fun y _ => lenCl y) h Hol.out Cl.nil x.b.toNat nb 1 (by omega))
        have HEb2 := Lib.hid (fun (w2_ : World) (h : w2_.ownsRow (w.heap.size + 2) 51 3 (.slice (some ⟨g, 0, none⟩) k c') k ((outs Cl.nil F G rs k).flatMap encCl)) => show w2_.cell? ⟨g, x.b.toNat * 3 + 2, none⟩ = some (.int .i64 ((outs Cl.nil F G rs k).getD x.b.toNat Cl.nil).h) from by simpa [encCl] using own_at (enc := encCl) (sz := 3) (fun y _ => lenCl y) h Hol.out Cl.nil x.b.toNat nb 2 (by omega))
        have va0 := HEa0.out w1 own1.out
        have va1 := HEa1.out w1 own1.out
        have va2 := HEa2.out w1 own1.out
        have vb0 := HEb0.out w1 own1.out
        have vb1 := HEb1.out w1 own1.out
        have vb2 := HEb2.out w1 own1.out
        have hgw : some wr.heap.size ≠ (Value.slice (some ⟨g, 0, none⟩) k c').ownBlock := by intro e; have h1 : g < wr.heap.size := (hown.out.lt g rfl).2; have h2 : wr.heap.size = g := Option.some.inj e; omega
        generalize (outs Cl.nil F G rs k).getD x.a.toNat Cl.nil = y1 at *
        generalize (outs Cl.nil F G rs k).getD x.b.toNat Cl.nil = y2 at *
        generalize G y1 y2 x = y at *
        clear h0
        have i1 : x.a < (k : Int) := ha1
        have i2 : x.b < (k : Int) := hb1
        have bw1 := Lib.hid (hbS.out.trans (b1.mono (by omega)))
        go_wp2_with fail
        go_region_held3 (fun w' => w'.cell? ⟨wr.heap.size, 0, none⟩ = some (.string x.l) ∧ w'.cell? ⟨wr.heap.size, 1, none⟩ = some (.int .i64 x.a) ∧ w'.cell? ⟨wr.heap.size, 2, none⟩ = some (.int .i64 x.b) ∧ w'.cell? ⟨g, x.a.toNat * 3, none⟩ = some (.int .i64 y1.t) ∧ w'.cell? ⟨g, x.a.toNat * 3 + 1, none⟩ = some (.int .i64 y1.l) ∧ w'.cell? ⟨g, x.a.toNat * 3 + 2, none⟩ = some (.int .i64 y1.h) ∧ w'.cell? ⟨g, x.b.toNat * 3, none⟩ = some (.int .i64 y2.t) ∧ w'.cell? ⟨g, x.b.toNat * 3 + 1, none⟩ = some (.int .i64 y2.l) ∧ w'.cell? ⟨g, x.b.toNat * 3 + 2, none⟩ = some (.int .i64 y2.h))
          (first | exact ⟨t0, t1, t2, t3, t4, t5, t6, t7, t8⟩ | exact ⟨s0, s1, s2, s3, s4, s5, s6, s7, s8⟩ | go_keep)
          (first
            | (refine (HG2.out _ bw1.out.drew).mono ?_
               rintro e w2 ⟨rfl, hb2⟩
               have hz2 : wr.heap.size < w2.heap.size := Nat.lt_of_lt_of_le hz1 hb2.size
               have s0 : w2.cell? ⟨wr.heap.size, 0, none⟩ = some (.string x.l) := (hb2.cell (p := ⟨wr.heap.size, 0, none⟩) hz1).trans d0
               have s1 : w2.cell? ⟨wr.heap.size, 1, none⟩ = some (.int .i64 x.a) := (hb2.cell (p := ⟨wr.heap.size, 1, none⟩) hz1).trans d1
               have s2 : w2.cell? ⟨wr.heap.size, 2, none⟩ = some (.int .i64 x.b) := (hb2.cell (p := ⟨wr.heap.size, 2, none⟩) hz1).trans d2
               have s3 : w2.cell? ⟨g, x.a.toNat * 3, none⟩ = some (.int .i64 y1.t) := (hb2.cell (p := ⟨g, x.a.toNat * 3, none⟩) hg1).trans va0
               have s4 : w2.cell? ⟨g, x.a.toNat * 3 + 1, none⟩ = some (.int .i64 y1.l) := (hb2.cell (p := ⟨g, x.a.toNat * 3 + 1, none⟩) hg1).trans va1
               have s5 : w2.cell? ⟨g, x.a.toNat * 3 + 2, none⟩ = some (.int .i64 y1.h) := (hb2.cell (p := ⟨g, x.a.toNat * 3 + 2, none⟩) hg1).trans va2
               have s6 : w2.cell? ⟨g, x.b.toNat * 3, none⟩ = some (.int .i64 y2.t) := (hb2.cell (p := ⟨g, x.b.toNat * 3, none⟩) hg1).trans vb0
               have s7 : w2.cell? ⟨g, x.b.toNat * 3 + 1, none⟩ = some (.int .i64 y2.l) := (hb2.cell (p := ⟨g, x.b.toNat * 3 + 1, none⟩) hg1).trans vb1
               have s8 : w2.cell? ⟨g, x.b.toNat * 3 + 2, none⟩ = some (.int .i64 y2.h) := (hb2.cell (p := ⟨g, x.b.toNat * 3 + 2, none⟩) hg1).trans vb2)
            | (refine step_push (by rfl) _ _ _ (by rfl) (w.heap.size + 2) 51 3 24 elemCl encCl (some ⟨g, 0, none⟩) k c' (outs Cl.nil F G rs k) (by rfl) ((own_next own1.out.drew hb2).alloc _) w2.heap.size y #[.int .i64 y.t, .int .i64 y.l, .int .i64 y.h] 51 (0, 0) (by rfl) (heap_alloc_new _ _) rfl rfl (by simp [encCl, Value.oneCell']) (by omega) (by omega) (by unfold maxLen; omega) (Nat.le_trans (Nat.le_trans (by omega) (Nat.le_of_lt hz2)) (by simp)) ?_
               intro A5 c5 w5 own5 hg5 old5
               have t0 : w5.cell? ⟨wr.heap.size, 0, none⟩ = some (.string x.l) := far_alloc hg5 s0 hz2 hgw
               have t1 : w5.cell? ⟨wr.heap.size, 1, none⟩ = some (.int .i64 x.a) := far_alloc hg5 s1 hz2 hgw
               have t2 : w5.cell? ⟨wr.heap.size, 2, none⟩ = some (.int .i64 x.b) := far_alloc hg5 s2 hz2 hgw
               have t3 : w5.cell? ⟨g, x.a.toNat * 3, none⟩ = some (.int .i64 y1.t) := HEa0.out w5 old5
               have t4 : w5.cell? ⟨g, x.a.toNat * 3 + 1, none⟩ = some (.int .i64 y1.l) := HEa1.out w5 old5
               have t5 : w5.cell? ⟨g, x.a.toNat * 3 + 2, none⟩ = some (.int .i64 y1.h) := HEa2.out w5 old5
               have t6 : w5.cell? ⟨g, x.b.toNat * 3, none⟩ = some (.int .i64 y2.t) := HEb0.out w5 old5
               have t7 : w5.cell? ⟨g, x.b.toNat * 3 + 1, none⟩ = some (.int .i64 y2.l) := HEb1.out w5 old5
               have t8 : w5.cell? ⟨g, x.b.toNat * 3 + 2, none⟩ = some (.int .i64 y2.h) := HEb2.out w5 old5))
        go_wp2_with fail
        go_roundw
        case rel =>
          refine ⟨k + 1, A5, c5, by go_num, rfl, by omega, Lib.hid ?_, ?_⟩
          · rw [Hst.out, hfs.out]; exact own5
          · exact ((b1.drew.trans (hb2.mono (by simp; omega))).alloc (by omega) _).grown hg5 (by simp; omega) (own_ge own1.out)
        case measure => simp [intOf]; omega
      · obtain ⟨xl, xa, xb⟩ := x
        simp only at hxl hxa hxb c0 c1 c2
        subst hxl hxa hxb
        obtain ⟨hl0, hl1⟩ := letB_num hcc
        have hF := HF.out k _ gx (by show (1 : Nat) ≠ 0; omega)
        have hfs := Lib.hid (show fStep Cl.nil F G (outs Cl.nil F G rs k) ⟨⟨#[cc]⟩, 0, 0⟩ = F (letN ⟨#[cc]⟩) from rfl)
        have hln := Lib.hid (show ((letN ⟨#[cc]⟩ : Nat) : Int) = (cc.toNat : Int) - 97 by rw [letN_one]; omega)
        simp only at hF
        rw [hln.out] at hF
        generalize F (letN ⟨#[cc]⟩) = y at *
        have HF2 := Lib.hid hF; clear hF gx hcc
        go_wp2_with fail
        refine (isPair_any ⟨⟨#[cc]⟩, 0, 0⟩ false _ (decide_eq_false (show ¬ (1 : Nat) = 0 by omega))).mono ?_
        rintro e w1 ⟨rfl, hb1'⟩
        obtain ⟨d0, d1, d2⟩ := ((Blk.new wr _ _).next hb1').three
        have b1 := (hb.alloc (by omega) _).trans (hb1'.mono (by simp; omega))
        have own1 := Lib.hid (own_next (hown.out.alloc _) hb1')
        have hz1 := b1.size
        go_wp2_with fail
        refine calls_arg (b := (cc.toNat : Int) - 97) (by show ((cc.toNat : Int) - 97) % 256 = _; omega) ?_
        refine (HF2.out _ (hbS.out.trans (b1.mono (by omega)))).mono ?_
        rintro e w2 ⟨rfl, hb2⟩
        have b2 := b1.trans (hb2.mono (by omega))
        have hz2 := b2.size
        have own2 := Lib.hid (own_next own1.out hb2)
        go_wp2_with
          (at_builtin
           refine wpList_pushG rfl _ _ _ rfl (w.heap.size + 2) 51 3 24 elemCl encCl _ k c' (outs Cl.nil F G rs k) rfl (own2.out.alloc _) w2.heap.size y #[.int .i64 y.t, .int .i64 y.l, .int .i64 y.h] 51 (0, 0) rfl (heap_alloc_new _ _) rfl rfl (by simp [encCl, Value.oneCell']) (by omega) (by omega) (by unfold maxLen; omega) (by simp; omega) ?_
           intro A9 c9 w9 own9 hg9 hat9
           have O9 := Lib.hid own9
           have hb9 := Lib.hid ((b2.alloc (by omega) _).grown hg9 (by simp; omega) (own_ge own2.out)); clear own9 hat9)
        go_roundw
        case rel =>
          refine ⟨k + 1, A9, c9, by go_num, rfl, by omega, Lib.hid ?_, hb9.out⟩
          rw [Hst.out, hfs.out]; exact O9.out
        case measure => simp [intOf]; omega
    · have hkn : k = n := by omega
      have Hall := Lib.hid (outs_all Cl.nil F G rs k (by rw [hl.out]; omega))
      have Hol := Lib.hid (outs_len Cl.nil F G rs k (by rw [hl.out]; omega))
      have BNr := BN.out.below hb (by omega)
      have n0 : wr.cell? ⟨w.heap.size + 1, 0, none⟩ = some (.int .i64 z.t) := BNr.cell 0
      have n1 : wr.cell? ⟨w.heap.size + 1, 1, none⟩ = some (.int .i64 z.l) := BNr.cell 1
      have n2 : wr.cell? ⟨w.heap.size + 1, 2, none⟩ = some (.int .i64 z.h) := BNr.cell 2
      have zn := BNr.lt
      by_cases h0 : k = 0
      · subst h0
        have e0 := Lib.hid (show foldAll Cl.nil F G z rs = [z] by unfold foldAll; rw [hl.out, if_pos hkn.symm])
        have e1 := Lib.hid (show outs Cl.nil F G rs 0 = [] by unfold outs; simp [foldG])
        have own1 : wr.ownsRow (w.heap.size + 2) 51 3 (.slice A' 0 c') 0 (([] : List Cl).flatMap encCl) := by rw [← e1.out]; exact hown.out
        have Own1 := Lib.hid own1; clear own1 hkn
        go_wp2_with
          (at_builtin
           refine wpList_pushG rfl _ _ _ rfl (w.heap.size + 2) 51 3 24 elemCl encCl _ 0 c' [] rfl (Own1.out.alloc _) wr.heap.size z #[.int .i64 z.t, .int .i64 z.l, .int .i64 z.h] 51 (0, 0) rfl (heap_alloc_new _ _) rfl rfl (by simp [encCl, Value.oneCell']) (by omega) (by omega) (by unfold maxLen; omega) (by simp; omega) ?_
           intro A9 c9 w9 own9 hg9 hat9
           have O9 := Lib.hid own9
           have hb9 := Lib.hid ((hb.alloc (by omega) _).grown hg9 (by simp; omega) (own_ge Own1.out)); clear own9 hat9)
        go_ret
        rw [e0.out]
        exact ⟨A9, c9, rfl, O9.out.mono (by omega), hbS.out.trans (hb9.out.mono (by omega))⟩
      · have e0 := Lib.hid (show foldAll Cl.nil F G z rs = outs Cl.nil F G rs k by unfold foldAll; rw [hl.out, if_neg (by omega), Hall.out])
        have h1 : ((k : Int) == 0) = false := by simp; omega
        clear h0 hkn
        go_wp2_with fail
        go_ret
        rw [e0.out]
        refine ⟨A', c', ret_slice Hol.out.symm, ?_, hbw.out⟩
        rw [Hol.out]
        exact hown.out.mono (by omega)
end Go.Proofs.Ytgdbpkpaacbhhaa


/-
  The climbs of all rules: in the program.
-/
namespace Go.Proofs.Ytgdbpkpaacbhhaa
open Go.RowKit

def climF (ws : List Int) (l : Nat) : Cl := ⟨ws.getD l 0, min 0 (ws.getD l 0), max 0 (ws.getD l 0)⟩
def climG (x y : Cl) (_ : Fac) : Cl := ⟨x.t + y.t, min x.l (x.t + y.l), max x.h (x.t + y.h)⟩
def ClB (m : Int) (x : Cl) : Prop := -m ≤ x.t ∧ x.t ≤ m ∧ -m ≤ x.l ∧ x.l ≤ m ∧ -m ≤ x.h ∧ x.h ≤ m
/-- four weights -/
def WsOk (ws : List Int) : Prop := ws.length = 4 ∧ ∀ z ∈ ws, -9 ≤ z ∧ z ≤ 9
theorem WsOk.at_ {ws : List Int} (h : WsOk ws) (i : Nat) (hi : i < 4) : -9 ≤ ws.getD i 0 ∧ ws.getD i 0 ≤ 9 := by
  refine h.2 _ ?_
  rw [List.getD_eq_getElem?_getD, List.getElem?_eq_getElem (by rw [h.1]; exact hi)]; simp
/-- the climbs of all rules -/
abbrev clim (ws : List Int) (rs : List Fac) : List Cl := full Cl.nil (climF ws) climG rs
theorem clim_bound {ws : List Int} {rs : List Fac} {ls : List Int} (hls : gLens rs [] = some ls) (hws : WsOk ws) {k : Nat} (hk : k < rs.length) : ClB (9 * ls.getD k 0) ((clim ws rs).getD k Cl.nil) := by
  refine full_ind Cl.nil (climF ws) climG (wf_of hls) (fun k x => ClB (9 * ls.getD k 0) x) (fun k r hr hl => ?_) (fun k r a b hr h0 ha0 ha1 hb0 hb1 ha hb => ?_) k hk
  · have h0 : r.l.size ≠ 0 := by obtain ⟨c, _, hc⟩ := letT_one hl; rw [hc]; show (1 : Nat) ≠ 0; omega
    have e := lens_let hls hr h0
    have hw := hws.at_ (letN r.l) (letN_lt hl)
    unfold ClB climF
    simp only
    rw [e]
    omega
  · have e := lens_pair hls hr h0
    have hk : k < rs.length := (List.getElem?_eq_some_iff.1 hr).1
    have l1 := lens_bound hls (i := r.a.toNat) (by omega)
    have l2 := lens_bound hls (i := r.b.toNat) (by omega)
    unfold ClB at *
    unfold climG
    simp only
    rw [e]
    omega

abbrev Cl.v (x : Cl) : Value := .agg #[.int .i64 x.t, .int .i64 x.l, .int .i64 x.h]
def big9 : Int := 9000000000000000
set_option maxHeartbeats 400000 in
theorem behind_any (x y : Cl) (w : World) (hx : ClB 9000000000000000 x) (hy : ClB 9000000000000000 y) :
    Calls Try.prog 95 #[.agg #[.int .i64 x.t, .int .i64 x.l, .int .i64 x.h], .agg #[.int .i64 y.t, .int .i64 y.l, .int .i64 y.h]] w (Ret (Cl.v (climG x y ⟨⟨#[]⟩, 0, 0⟩)) w) := by
  obtain ⟨x0, x1, x2, x3, x4, x5⟩ := hx
  obtain ⟨y0, y1, y2, y3, y4, y5⟩ := hy
  obtain ⟨xt, xl, xh⟩ := x
  obtain ⟨yt, yl, yh⟩ := y
  simp only at x0 x1 x2 x3 x4 x5 y0 y1 y2 y3 y4 y5
  go_enter Try.func95, Try.ntmps95
  go_wp2
  all_goals
    refine bodyPost_ret (v := Cl.v (climG ⟨xt, xl, xh⟩ ⟨yt, yl, yh⟩ ⟨⟨#[]⟩, 0, 0⟩)) ?_ rfl ⟨rfl, by (repeat first | exact Below.refl _ _ | assumption | refine Below.drew ?_ | refine Below.alloc ?_ (by first | exact Nat.le_refl _ | (simp; done) | omega | (simp; omega)) _ | refine Below.setCell ?_ (by first | exact Nat.le_refl _ | (simp; done) | omega | (simp; omega)) _)⟩
    simp [results, Try.results95, go_sem, climG]
    try omega
set_option maxHeartbeats 400000 in
theorem climbs2_any (x y : Cl) (r : Fac) (w : World) (hx : ClB 9000000000000000 x) (hy : ClB 9000000000000000 y) :
    Calls Try.prog 94 #[.agg #[.int .i64 x.t, .int .i64 x.l, .int .i64 x.h], .agg #[.int .i64 y.t, .int .i64 y.l, .int .i64 y.h], r.val] w (Ret (Cl.v (climG x y r)) w) := by
  unfold Fac.val
  have e := Lib.hid (show climG x y ⟨⟨#[]⟩, 0, 0⟩ = climG x y r from rfl)
  have hc := fun w' => behind_any x y w' hx hy
  have Hc := Lib.hid hc; clear hc
  go_enter Try.func94, Try.ntmps94
  go_wp2_with fail
  refine namedC fun w3 H3 => ?_
  have hb3 : Below w.heap.size w w3 := by rw [H3.out]; (repeat first | exact Below.refl _ _ | assumption | refine Below.drew ?_ | refine Below.alloc ?_ (by first | exact Nat.le_refl _ | (simp; done) | omega | (simp; omega)) _ | refine Below.setCell ?_ (by first | exact Nat.le_refl _ | (simp; done) | omega | (simp; omega)) _)
  have B3 : Blk w3 (w.heap.size + 3) 51 #[.int .i64 0, .int .i64 0, .int .i64 0] := by rw [H3.out]; simpa using Blk.new (((w.alloc _).alloc _).alloc _) _ _
  have B3' := Lib.hid B3; clear B3 H3
  refine (Hc.out w3).mono ?_
  rintro e1 w4 ⟨rfl, hb4⟩
  rw [e.out]
  generalize climG x y r = z at *
  have B4 := B3'.out.next hb4
  obtain ⟨d0, d1, d2⟩ := B4.three
  have f4 := B4.frozen
  have l4 := B4.lt
  have hb34 := hb3.trans (hb4.mono hb3.size)
  go_wp2_with fail
  refine bodyPost_ret (v := Cl.v z) (by simp [results, Try.results94, go_sem, d0, d1, d2]) rfl ⟨rfl, ?_⟩
  exact ((hb34.setCell (by simp; omega) _).setCell (by simp; omega) _).setCell (by simp; omega) _
set_option maxHeartbeats 400000 in
theorem climbs1_any (l : Nat) (pb : Nat) (A : Option Addr) (c : Nat) (ws : List Int) (w : World) (hl : l < 4) (hws : WsOk ws) (hpb : pb < w.heap.size) (hp : w.cell? ⟨pb, 0, none⟩ = some (.slice A 4 c)) (hd : Rd w w.heap.size A 4 1 intE ws) :
    Calls Try.prog 93 #[.int .i64 (l : Int), .pointer (some ⟨pb, 0, none⟩)] w (Ret (Cl.v (climF ws l)) w) := by
  obtain ⟨b, o, y, rfl, hB, g1, e1⟩ := (show Rd w w.heap.size A 4 1 (fun s => [.int .i64 s]) ws from hd).int (k := l) hl
  have hy := hws.at_ l hl
  have hF : climF ws l = ⟨y, min 0 y, max 0 y⟩ := by unfold climF; rw [List.getD_eq_getElem?_getD, g1]; rfl
  rw [List.getD_eq_getElem?_getD, g1] at hy
  simp only [Option.getD_some] at hy
  have HF := Lib.hid hF
  have y0 := hy.1; have y1 := hy.2
  have i1 : (l : Int) < 4 := by omega
  have i0 : (0 : Int) ≤ l := by omega
  clear hF hy g1 hws
  go_enter Try.func93, Try.ntmps93
  go_wp2
  all_goals
    rw [HF.out]
    refine bodyPost_ret (v := Cl.v ⟨y, min 0 y, max 0 y⟩) ?_ rfl ⟨rfl, by (repeat first | exact Below.refl _ _ | assumption | refine Below.drew ?_ | refine Below.alloc ?_ (by first | exact Nat.le_refl _ | (simp; done) | omega | (simp; omega)) _ | refine Below.setCell ?_ (by first | exact Nat.le_refl _ | (simp; done) | omega | (simp; omega)) _)⟩
    simp [results, Try.results93, go_sem]
    try omega
set_option maxHeartbeats 400000 in
theorem climbs_any (A : Option Addr) (n c : Nat) (rs : List Fac) (D : Option Addr) (d : Nat) (ws : List Int) (ls : List Int) (w : World) (hn : n ≤ 1048576) (hr : Rd w w.heap.size A n 3 Fac.cells rs) (hls : gLens rs [] = some ls) (hws : WsOk ws) (hd : Rd w w.heap.size D 4 1 intE ws) :
    Calls Try.prog 71 #[.agg #[.slice A n c], .slice D 4 d] w (RetNew w 51 3 encCl (foldAll Cl.nil (climF ws) climG Cl.nil rs)) := by
  have hl := Lib.hid hr.len
  have HR := Lib.hid hr; clear hr
  have HD := Lib.hid hd; clear hd
  have HL := Lib.hid hls; clear hls
  go_enter Try.func71, Try.ntmps71
  go_wp2_with fail
  refine namedC fun w3 H3 => ?_
  have hb3 : Below w.heap.size w w3 := by rw [H3.out]; (repeat first | exact Below.refl _ _ | assumption | refine Below.drew ?_ | refine Below.alloc ?_ (by first | exact Nat.le_refl _ | (simp; done) | omega | (simp; omega)) _ | refine Below.setCell ?_ (by first | exact Nat.le_refl _ | (simp; done) | omega | (simp; omega)) _)
  have B3 : Blk w3 (w.heap.size + 1) 46 #[.slice D 4 d] := by rw [H3.out]; simpa using Blk.new (w.alloc _) _ _
  clear H3
  refine (foldC_any 93 94 (enterOk Try.func93 (by kernel_rfl) (by kernel_rfl)) (enterOk Try.func94 (by kernel_rfl) (by kernel_rfl)) #[.pointer (some ⟨w.heap.size + 1, 0, none⟩)] #[] (climF ws) climG Cl.nil A n c rs w3 hn (HR.out.next hb3) (wf_of HL.out) ?_ ?_).mono ?_
  · intro k r hr h0 w' hb'
    rcases wf_of HL.out k r hr with ⟨h0', _⟩ | ⟨cc, hcc, hxl, _⟩
    · exact absurd h0' h0
    · have B4 := B3.next hb'
      exact climbs1_any (letN r.l) (w.heap.size + 1) D d ws w' (letN_lt (by rw [hxl]; exact hcc)) hws B4.lt (B4.cell 0) ((HD.out.next hb3).next hb')
  · intro k r hr h0 w' hb'
    have hk : k < rs.length := (List.getElem?_eq_some_iff.1 hr).1
    rcases wf_of HL.out k r hr with ⟨_, ha0, ha1, hb0, hb1⟩ | ⟨cc, _, hxl, _⟩
    · rw [outs_full Cl.nil (climF ws) climG (k := k) (i := r.a.toNat) (by omega) (by omega), outs_full Cl.nil (climF ws) climG (k := k) (i := r.b.toNat) (by omega) (by omega)]
      have q1 := clim_bound HL.out hws (k := r.a.toNat) (by omega)
      have q2 := clim_bound HL.out hws (k := r.b.toNat) (by omega)
      have m1 := lens_bound HL.out (i := r.a.toNat) (by omega)
      have m2 := lens_bound HL.out (i := r.b.toNat) (by omega)
      have h := climbs2_any ((clim ws rs).getD r.a.toNat Cl.nil) ((clim ws rs).getD r.b.toNat Cl.nil) r w' (by unfold ClB at *; omega) (by unfold ClB at *; omega)
      simpa using h
    · rw [hxl] at h0; exact absurd h0 (show ¬ (1 : Nat) = 0 by omega)
  rintro e4 w4 ⟨A4, c4, rfl, own4, hb4⟩
  have O4 := Lib.hid own4; clear own4
  go_wp2_with fail
  go_ret
  exact ⟨A4, c4, rfl, O4.out.mono hb3.size, hb3.trans (hb4.mono hb3.size)⟩
theorem topC_any (A : Option Addr) (n c : Nat) (xs : List Cl) (w : World) (hn : n ≤ 1048577) (h0 : 0 < n) (hr : Rd w w.heap.size A n 3 encCl xs) :
    Calls Try.prog 70 #[.slice A n c] w (Ret (Cl.v (xs.getD (n - 1) Cl.nil)) w) := by
  obtain ⟨b, o, rfl, hB, x, gx, hc⟩ := hr.at_ (k := n - 1) (by omega)
  have e1 := Lib.hid (show xs.getD (n - 1) Cl.nil = x by rw [List.getD_eq_getElem?_getD, gx]; rfl)
  have c0 : w.cell? ⟨b, o + (n - 1) * 3, none⟩ = some (.int .i64 x.t) := hc 0 _ rfl
  have c1 : w.cell? ⟨b, o + (n - 1) * 3 + 1, none⟩ = some (.int .i64 x.l) := hc 1 _ rfl
  have c2 : w.cell? ⟨b, o + (n - 1) * 3 + 2, none⟩ = some (.int .i64 x.h) := hc 2 _ rfl
  clear gx hc hr
  go_enter Try.func70, Try.ntmps70
  go_wp2_with fail
  rw [e1.out]
  refine bodyPost_ret (v := Cl.v x) (by simp [results, Try.results70, go_sem]) rfl ⟨rfl, by (repeat first | exact Below.refl _ _ | assumption | refine Below.drew ?_ | refine Below.alloc ?_ (by first | exact Nat.le_refl _ | (simp; done) | omega | (simp; omega)) _ | refine Below.setCell ?_ (by first | exact Nat.le_refl _ | (simp; done) | omega | (simp; omega)) _)⟩
end Go.Proofs.Ytgdbpkpaacbhhaa


/-
  The reference's small functions on letters and numbers.
-/
namespace Go.Proofs.Ytgdbpkpaacbhhaa
open Go.RowKit

theorem l00Min_any (a b : Int) (w : World) : Calls Try.prog 55 #[.int .i64 a, .int .i64 b] w (Ret (.int .i64 (min a b)) w) := by
  go_enter Try.func55, Try.ntmps55
  go_wp2
  all_goals
    go_ret
    exact ⟨ret_int (by omega), by (repeat first | exact Below.refl _ _ | assumption | refine Below.drew ?_ | refine Below.alloc ?_ (by first | exact Nat.le_refl _ | (simp; done) | omega | (simp; omega)) _ | refine Below.setCell ?_ (by first | exact Nat.le_refl _ | (simp; done) | omega | (simp; omega)) _)⟩
theorem l00Max_any (a b : Int) (w : World) : Calls Try.prog 99 #[.int .i64 a, .int .i64 b] w (Ret (.int .i64 (max a b)) w) := by
  go_enter Try.func99, Try.ntmps99
  go_wp2
  all_goals
    go_ret
    exact ⟨ret_int (by omega), by (repeat first | exact Below.refl _ _ | assumption | refine Below.drew ?_ | refine Below.alloc ?_ (by first | exact Nat.le_refl _ | (simp; done) | omega | (simp; omega)) _ | refine Below.setCell ?_ (by first | exact Nat.le_refl _ | (simp; done) | omega | (simp; omega)) _)⟩
theorem l04Letter_any (c : UInt8) (hc : letB c = true) (w : World) : Calls Try.prog 97 #[.int .u8 (c.toNat : Int)] w (Ret (.int .i64 ((c.toNat : Int) - 97)) w) := by
  obtain ⟨h0, h1⟩ := letB_num hc
  clear hc
  go_enter Try.func97, Try.ntmps97
  go_wp2
  go_ret
  exact ⟨ret_int (by omega), by (repeat first | exact Below.refl _ _ | assumption | refine Below.drew ?_ | refine Below.alloc ?_ (by first | exact Nat.le_refl _ | (simp; done) | omega | (simp; omega)) _ | refine Below.setCell ?_ (by first | exact Nat.le_refl _ | (simp; done) | omega | (simp; omega)) _)⟩
end Go.Proofs.Ytgdbpkpaacbhhaa


/-
  The depths of rules, in the program and in the reference.
-/
namespace Go.Proofs.Ytgdbpkpaacbhhaa
open Go.RowKit

section
variable {α : Type} {d : α} {F : Nat → α} {G : α → α → Fac → α} {rs : List Fac}
/-- what holds of all that is made of a grammar -/
theorem outs_inv (hwf : WF rs) (I : Nat → α → Prop) (mono : ∀ k x, I k x → I (k + 1) x) (hF : ∀ (k : Nat) (r : Fac), rs[k]? = some r → letT r.l = true → I (k + 1) (F (letN r.l)))
    (hG : ∀ (k : Nat) (r : Fac) (a b : α), rs[k]? = some r → I k a → I k b → I (k + 1) (G a b r)) : ∀ k, k ≤ rs.length → ∀ x ∈ outs d F G rs k, I k x := by
  intro k
  induction k with
  | zero => intro _ x hx; simp [outs, foldG] at hx
  | succ k ih =>
    intro hk x hx
    have gx : rs[k]? = some (rs[k]'(by omega)) := List.getElem?_eq_getElem _
    rw [outs_step d F G gx] at hx
    have hl := outs_len d F G rs k (by omega)
    rcases List.mem_append.1 hx with hx | hx
    · exact mono _ _ (ih (by omega) x hx)
    · simp only [List.mem_singleton] at hx
      subst hx
      unfold fStep
      rcases hwf k _ gx with ⟨h0, ha0, ha1, hb0, hb1⟩ | ⟨c, hc, hl', _⟩
      · rw [if_pos h0]
        refine hG k _ _ _ gx (ih (by omega) _ ?_) (ih (by omega) _ ?_)
        · rw [List.getD_eq_getElem?_getD, List.getElem?_eq_getElem (by omega)]; simp
        · rw [List.getD_eq_getElem?_getD, List.getElem?_eq_getElem (by omega)]; simp
      · have hl1 : letT (rs[k]'(by omega)).l = true := by rw [hl']; exact hc
        have hne : ¬ (rs[k]'(by omega)).l.size = 0 := by rw [hl']; show ¬ (1 : Nat) = 0; omega
        rw [if_neg hne]
        exact hF k _ gx hl1
theorem outs_getD (hwf : WF rs) (I : Nat → α → Prop) (mono : ∀ k x, I k x → I (k + 1) x) (hF : ∀ (k : Nat) (r : Fac), rs[k]? = some r → letT r.l = true → I (k + 1) (F (letN r.l)))
    (hG : ∀ (k : Nat) (r : Fac) (a b : α), rs[k]? = some r → I k a → I k b → I (k + 1) (G a b r)) {k : Nat} (hk : k ≤ rs.length) {i : Nat} (hi : i < k) : I k ((outs d F G rs k).getD i d) := by
  refine outs_inv (d := d) hwf I mono hF hG k hk _ ?_
  have hl := outs_len d F G rs k hk
  rw [List.getD_eq_getElem?_getD, List.getElem?_eq_getElem (by omega)]; simp
end

def depF (_ : Nat) : Int := 1
def depG (a b : Int) (_ : Fac) : Int := max a b + 1
/-- the depths of all rules -/
def depths (rs : List Fac) : List Int := foldG 0 depF depG rs []
theorem dep_bound {rs : List Fac} (hwf : WF rs) {k i : Nat} (hk : k ≤ rs.length) (hi : i < k) : 1 ≤ (outs 0 depF depG rs k).getD i 0 ∧ (outs 0 depF depG rs k).getD i 0 ≤ k := by
  refine outs_getD (d := 0) (F := depF) (G := depG) hwf (fun (k : Nat) (x : Int) => 1 ≤ x ∧ x ≤ k) (fun k x h => ⟨h.1, by omega⟩) (fun k r _ _ => by unfold depF; omega) (fun k r a b _ ha hb => ?_) hk hi
  unfold depG
  omega

end Go.Proofs.Ytgdbpkpaacbhhaa


/-
  The climbs of all rules: in the reference.
-/
namespace Go.Proofs.Ytgdbpkpaacbhhaa
open Go.RowKit

set_option maxHeartbeats 2000000 in
set_option maxRecDepth 100000 in
theorem l05Climbs_any (gb : Nat) (A : Option Addr) (n c : Nat) (rs : List Fac) (D : Option Addr) (d : Nat) (ws : List Int) (ls : List Int) (w : World) (hg : gb < w.heap.size) (hc : w.cell? ⟨gb, 0, none⟩ = some (.slice A n c)) (hn : n ≤ 1048576) (hr : Rd w w.heap.size A n 3 Fac.cells rs)
    (hls : gLens rs [] = some ls) (hws : WsOk ws) (hd : Rd w w.heap.size D 4 1 intE ws) :
    Calls Try.prog 96 #[.pointer (some ⟨gb, 0, none⟩), .slice D 4 d] w (RetNew w 51 3 encCl (clim ws rs)) := by
  have hl := Lib.hid hr.len
  have HL := Lib.hid hls; clear hls
  have HWs := Lib.hid hws; clear hws
  go_enter Try.func96, Try.ntmps96
  go_wp2
  go_loopw [5, 6] (fun o_ i_ w' => ∃ (k : Nat) (A' : Option Addr) (c' : Nat), i_ = .int .i64 k ∧ o_ = .slice A' k c' ∧ k ≤ n ∧
      Hid (w'.ownsRow w.heap.size 51 3 (.slice A' k c') k ((outs Cl.nil (climF ws) climG rs k).flatMap encCl)) ∧ Below w.heap.size w w') (fun _ i_ _ => n - (intOf i_).toNat)
  case atStart =>
    exact ⟨0, _, 0, rfl, rfl, by omega, Lib.hid (by simpa [outs, foldG] using World.ownsRow_made (base := w.heap.size) (e := 51) (size := 3) w #[] 0 (Nat.le_refl _) (by unfold maxLen; omega) rfl), by (repeat first | exact Below.refl _ _ | assumption | refine Below.drew ?_ | refine Below.alloc ?_ (by first | exact Nat.le_refl _ | (simp; done) | omega | (simp; omega)) _ | refine Below.setCell ?_ (by first | exact Nat.le_refl _ | (simp; done) | omega | (simp; omega)) _)⟩
  case round =>
    obtain ⟨k, A', c', rfl, rfl, hk, hown, hb⟩ := hrel
    have cg := (hb.cell (p := ⟨gb, 0, none⟩) hg).trans hc
    have lg : gb < wr.heap.size := by have := hb.size; omega
    by_cases hlt : k < n
    · obtain ⟨b, o, x, rfl, hB, gx, c0, c1, c2⟩ := (hr.next hb).fac hlt
      have Hst := Lib.hid (outs_step Cl.nil (climF ws) climG gx)
      have Hol := Lib.hid (outs_len Cl.nil (climF ws) climG rs k (by rw [hl.out]; exact hk))
      rcases wf_of HL.out k x gx with ⟨h0, ha0, ha1, hb0, hb1⟩ | ⟨cc, hcc, hxl, hxa, hxb⟩
      · have e0 := size0 h0
        have hkr : k ≤ rs.length := by rw [hl.out]; exact hk
        have q1 := clim_bound HL.out HWs.out (k := x.a.toNat) (by omega)
        have q2 := clim_bound HL.out HWs.out (k := x.b.toNat) (by omega)
        have m1 := lens_bound HL.out (i := x.a.toNat) (by omega)
        have m2 := lens_bound HL.out (i := x.b.toNat) (by omega)
        rw [← outs_full Cl.nil (climF ws) climG (k := k) (i := x.a.toNat) (by omega) hkr] at q1
        rw [← outs_full Cl.nil (climF ws) climG (k := k) (i := x.b.toNat) (by omega) hkr] at q2
        have q1' : ClB 9000000000000000 ((outs Cl.nil (climF ws) climG rs k).getD x.a.toNat Cl.nil) := by unfold ClB at *; omega
        have q2' : ClB 9000000000000000 ((outs Cl.nil (climF ws) climG rs k).getD x.b.toNat Cl.nil) := by unfold ClB at *; omega
        clear q1 q2 m1 m2 hkr
        have hfs := Lib.hid (show fStep Cl.nil (climF ws) climG (outs Cl.nil (climF ws) climG rs k) x = climG ((outs Cl.nil (climF ws) climG rs k).getD x.a.toNat Cl.nil) ((outs Cl.nil (climF ws) climG rs k).getD x.b.toNat Cl.nil) x by unfold fStep; rw [if_pos h0])
        obtain ⟨g, cap, hv, hg0, hg1⟩ := hown.out.form (by omega)
        obtain rfl : A' = some ⟨g, 0, none⟩ := by injection hv
        clear hv
        have hgr : g ≠ wr.heap.size := by omega
        have HE : Hid (∀ (w' : World), w'.ownsRow w.heap.size 51 3 (.slice (some ⟨g, 0, none⟩) k c') k ((outs Cl.nil (climF ws) climG rs k).flatMap encCl) → ∀ i, i < k →
            w'.cell? ⟨g, i * 3, none⟩ = some (.int .i64 ((outs Cl.nil (climF ws) climG rs k).getD i Cl.nil).t) ∧ w'.cell? ⟨g, i * 3 + 1, none⟩ = some (.int .i64 ((outs Cl.nil (climF ws) climG rs k).getD i Cl.nil).l) ∧
            w'.cell? ⟨g, i * 3 + 2, none⟩ = some (.int .i64 ((outs Cl.nil (climF ws) climG rs k).getD i Cl.nil).h)) := Lib.hid (fun w' h i hi =>
          ⟨by simpa [encCl] using own_at (enc := encCl) (sz := 3) (fun y _ => lenCl y) h Hol.out Cl.nil i hi 0 (by omega), by simpa [encCl] using own_at (enc := encCl) (sz := 3) (fun y _ => lenCl y) h Hol.out Cl.nil i hi 1 (by omega), by simpa [encCl] using own_at (enc := encCl) (sz := 3) (fun y _ => lenCl y) h Hol.out Cl.nil i hi 2 (by omega)⟩)
        obtain ⟨va0, va1, va2⟩ := HE.out wr hown.out x.a.toNat (by omega)
        obtain ⟨vb0, vb1, vb2⟩ := HE.out wr hown.out x.b.toNat (by omega)
        clear HE
        generalize (outs Cl.nil (climF ws) climG rs k).getD x.a.toNat Cl.nil = y1 at *
        generalize (outs Cl.nil (climF ws) climG rs k).getD x.b.toNat Cl.nil = y2 at *
        obtain ⟨p0, p1, p2, p3, p4, p5⟩ := q1'
        obtain ⟨r0, r1, r2, r3, r4, r5⟩ := q2'
        have i1 : x.a < (k : Int) := ha1
        have i2 : x.b < (k : Int) := hb1
        clear h0 gx
        go_wp2_with fail
        refine named fun w1 H1 => ?_
        have B1 : Blk w1 (wr.heap.size + 1) 51 #[.int .i64 y1.t, .int .i64 y1.l, .int .i64 y1.h] := by rw [H1.out]; simpa using (Blk.new (wr.alloc _) _ _).alloc _
        have B2 : Blk w1 (wr.heap.size + 1 + 1) 51 #[.int .i64 y2.t, .int .i64 y2.l, .int .i64 y2.h] := by rw [H1.out]; simpa using Blk.new ((wr.alloc _).alloc _) _ _
        have b1 : Below w.heap.size w w1 := by rw [H1.out]; exact ((hb.alloc hb.size _).alloc (by have := hb.size; simp; omega) _).alloc (by have := hb.size; simp; omega) _
        have own1 : w1.ownsRow w.heap.size 51 3 (.slice (some ⟨g, 0, none⟩) k c') k ((outs Cl.nil (climF ws) climG rs k).flatMap encCl) := by rw [H1.out]; exact ((hown.out.alloc _).alloc _).alloc _
        obtain ⟨d0, d1, d2⟩ := B1.three
        obtain ⟨f0, f1, f2⟩ := B2.three
        have hz1 := B2.lt
        have Own1 := Lib.hid own1
        have KS := Lib.hid (fun (w' : World) (h : Below w.heap.size w w' ∧ w'.ownsRow w.heap.size 51 3 (.slice (some ⟨g, 0, none⟩) k c') k ((outs Cl.nil (climF ws) climG rs k).flatMap encCl) ∧ w1.heap.size ≤ w'.heap.size ∧ (∀ b o, wr.heap.size ≤ b → b < w1.heap.size → w'.cell? ⟨b, o, none⟩ = w1.cell? ⟨b, o, none⟩)) => show (Below w.heap.size w w' ∧ w'.ownsRow w.heap.size 51 3 (.slice (some ⟨g, 0, none⟩) k c') k ((outs Cl.nil (climF ws) climG rs k).flatMap encCl) ∧ w1.heap.size ≤ w'.heap.size ∧ (∀ b o, wr.heap.size ≤ b → b < w1.heap.size → w'.cell? ⟨b, o, none⟩ = w1.cell? ⟨b, o, none⟩)) ∧ w'.cell? ⟨wr.heap.size + 1, 0, none⟩ = some (.int .i64 y1.t) ∧ w'.cell? ⟨wr.heap.size + 1, 1, none⟩ = some (.int .i64 y1.l) ∧ w'.cell? ⟨wr.heap.size + 1, 2, none⟩ = some (.int .i64 y1.h) ∧ w'.cell? ⟨wr.heap.size + 1 + 1, 0, none⟩ = some (.int .i64 y2.t) ∧ w'.cell? ⟨wr.heap.size + 1 + 1, 1, none⟩ = some (.int .i64 y2.l) ∧ w'.cell? ⟨wr.heap.size + 1 + 1, 2, none⟩ = some (.int .i64 y2.h) from
          ⟨h, (h.2.2.2 (wr.heap.size + 1) 0 (by omega) (by omega)).trans d0, (h.2.2.2 (wr.heap.size + 1) 1 (by omega) (by omega)).trans d1, (h.2.2.2 (wr.heap.size + 1) 2 (by omega) (by omega)).trans d2,
            (h.2.2.2 (wr.heap.size + 1 + 1) 0 (by omega) (by omega)).trans f0, (h.2.2.2 (wr.heap.size + 1 + 1) 1 (by omega) (by omega)).trans f1, (h.2.2.2 (wr.heap.size + 1 + 1) 2 (by omega) (by omega)).trans f2⟩)
        clear own1 H1 va0 va1 va2 vb0 vb1 vb2
        have hk1 : (k + 1) * 24 ≤ 140737488355328 := by omega
        have hk2 : k + 1 ≤ maxLen := by unfold maxLen; omega
        have u1 : IntKind.i64.wrap (y1.t + y2.t) = y1.t + y2.t := IntWalk.i64_in _ (by omega)
        have u2 : IntKind.i64.wrap (y1.t + y2.l) = y1.t + y2.l := IntWalk.i64_in _ (by clear u1; omega)
        have u3 : IntKind.i64.wrap (y1.t + y2.h) = y1.t + y2.h := IntWalk.i64_in _ (by clear u1 u2; omega)
        go_region_held3 (fun w' => (Below w.heap.size w w' ∧ w'.ownsRow w.heap.size 51 3 (.slice (some ⟨g, 0, none⟩) k c') k ((outs Cl.nil (climF ws) climG rs k).flatMap encCl) ∧ w1.heap.size ≤ w'.heap.size ∧ (∀ b o, wr.heap.size ≤ b → b < w1.heap.size → w'.cell? ⟨b, o, none⟩ = w1.cell? ⟨b, o, none⟩)) ∧ w'.cell? ⟨wr.heap.size + 1, 0, none⟩ = some (.int .i64 y1.t) ∧ w'.cell? ⟨wr.heap.size + 1, 1, none⟩ = some (.int .i64 y1.l) ∧ w'.cell? ⟨wr.heap.size + 1, 2, none⟩ = some (.int .i64 y1.h) ∧ w'.cell? ⟨wr.heap.size + 1 + 1, 0, none⟩ = some (.int .i64 y2.t) ∧ w'.cell? ⟨wr.heap.size + 1 + 1, 1, none⟩ = some (.int .i64 y2.l) ∧ w'.cell? ⟨wr.heap.size + 1 + 1, 2, none⟩ = some (.int .i64 y2.h))
          (first | exact KS.out _ bk | exact KS.out _ (held_alloc bk _) | exact KS.out _ (held_drew b1 Own1.out _))
          (first
            | (go_at_call 55
               refine (l00Min_any y1.l (y1.t + y2.l) _).mono ?_
               rintro e wm ⟨rfl, hbm⟩
               have bk := held_callR (by assumption) hbm)
            | (go_at_call 99
               refine (l00Max_any y1.h (y1.t + y2.h) _).mono ?_
               rintro e wm ⟨rfl, hbm⟩
               have bk := held_callR (by assumption) hbm)
            | (refine step_push (by rfl) _ _ _ (by rfl) w.heap.size 51 3 24 elemCl encCl (some ⟨g, 0, none⟩) k c' (outs Cl.nil (climF ws) climG rs k) (by rfl) (held_alloc bk _).2.1 _ ⟨y1.t + y2.t, min y1.l (y1.t + y2.l), max y1.h (y1.t + y2.h)⟩ #[.int .i64 (y1.t + y2.t), .int .i64 (min y1.l (y1.t + y2.l)), .int .i64 (max y1.h (y1.t + y2.h))] 51 (0, 0) (by rfl) (heap_alloc_new _ _) rfl rfl (by simp [encCl, Value.oneCell']) (by decide) hk1 hk2 (held_alloc bk _).1.size ?_
               intro A5 c5 w5 own5 hg5 old5
               have bk' := held_push bk hg5 old5 (fun q hq => by cases hq; exact ⟨hg0, hg1⟩)
               clear bk
               have bk := bk')
            | fail)
        all_goals
          clear u1 u2 u3
          go_wp2_with fail
          go_roundw
          case rel =>
            refine ⟨k + 1, A5, c5, by go_num, rfl, by omega, Lib.hid ?_, bk.1⟩
            rw [Hst.out, hfs.out]; exact own5
          case measure => simp [intOf]; omega
      · obtain ⟨xl, xa, xb⟩ := x
        simp only at hxl hxa hxb c0 c1 c2
        subst hxl hxa hxb
        obtain ⟨hl0, hl1⟩ := letB_num hcc
        have e1 := size1 (s := ⟨#[cc]⟩) (show (1 : Nat) ≠ 0 by omega)
        have e2 := size1' (s := ⟨#[cc]⟩) (show (1 : Nat) ≠ 0 by omega)
        obtain ⟨bw, ow, y, rfl, hBw, gw, ew⟩ := (show Rd wr wr.heap.size D 4 1 (fun s => [.int .i64 s]) ws from (hd.next hb)).int (k := cc.toNat - 97) (by omega)
        have hfs := Lib.hid (show fStep Cl.nil (climF ws) climG (outs Cl.nil (climF ws) climG rs k) ⟨⟨#[cc]⟩, 0, 0⟩ = ⟨y, min 0 y, max 0 y⟩ by
          show climF ws (letN ⟨#[cc]⟩) = _
          unfold climF; rw [letN_one, List.getD_eq_getElem?_getD, gw]; rfl)
        have Hcc := Lib.hid hcc
        clear gx hcc gw
        have j0 : (0 : Int) ≤ (cc.toNat : Int) - 97 := by omega
        have j1 : (cc.toNat : Int) - 97 < 4 := by omega
        have hy := HWs.out.2
        have jt : Hid (((cc.toNat : Int) - 97).toNat = cc.toNat - 97) := Lib.hid (by omega)
        go_wp2_with fail
        refine (l04Letter_any cc Hcc.out _).mono ?_
        rintro e w1 ⟨rfl, hb1'⟩
        have b1 := (hb.alloc hb.size _).trans (hb1'.mono (by have := hb.size; simp; omega))
        have hz1 := hb1'.size
        have own1 := Lib.hid (own_next (hown.out.alloc _) hb1')
        have ew1 : w1.cell? ⟨bw, ow + (cc.toNat - 97), none⟩ = some (.int .i64 y) :=
          (hb1'.cell (p := ⟨bw, ow + (cc.toNat - 97), none⟩) (by simp; omega)).trans ((((Below.refl wr.heap.size wr).alloc (Nat.le_refl _) _).cell hBw).trans ew)
        clear ew
        go_wp2_with fail
        refine (l00Min_any 0 y _).mono ?_
        rintro e w2 ⟨rfl, hb2⟩
        go_wp2_with fail
        refine (l00Max_any 0 y _).mono ?_
        rintro e w3 ⟨rfl, hb3⟩
        have b3 := b1.trans ((hb2.trans (hb3.mono hb2.size)).mono b1.size)
        have own3 := Lib.hid (own_next (own_next own1.out hb2) hb3)
        go_wp2_with
          (at_builtin
           refine wpList_push (w0 := w) rfl _ _ _ rfl w.heap.size 51 3 24 elemCl encCl _ k c' (outs Cl.nil (climF ws) climG rs k) rfl (own3.out.alloc _) w3.heap.size ⟨y, min 0 y, max 0 y⟩ #[.int .i64 y, .int .i64 (min 0 y), .int .i64 (max 0 y)] 51 (0, 0) rfl (heap_alloc_new _ _) rfl rfl (by simp [encCl, Value.oneCell']) (by omega) (by omega) (by unfold maxLen; omega) rfl (b3.alloc b3.size _) ?_
           intro A9 c9 w9 own9 hg9 hat9 hb9
           have O9 := Lib.hid own9; clear own9)
        go_roundw
        case rel =>
          refine ⟨k + 1, A9, c9, by go_num, rfl, by omega, Lib.hid ?_, hb9⟩
          rw [Hst.out, hfs.out]; exact O9.out
        case measure => simp [intOf]; omega
    · have e := Lib.hid (show outs Cl.nil (climF ws) climG rs k = clim ws rs from outs_all Cl.nil (climF ws) climG rs k (by rw [hl.out]; omega))
      have e2 := Lib.hid (outs_len Cl.nil (climF ws) climG rs k (by rw [hl.out]; omega))
      go_wp2_with fail
      go_ret
      refine ⟨A', c', ret_slice (by rw [← e.out, e2.out]), ?_, hb⟩
      rw [← e.out, e2.out]
      exact hown.out
end Go.Proofs.Ytgdbpkpaacbhhaa


/-
  The climb of a word: in the reference.
-/
namespace Go.Proofs.Ytgdbpkpaacbhhaa
open Go.RowKit

/-- the climb of the last rule -/
def climT (ws : List Int) (rs : List Fac) : Cl := if rs.length = 0 then Cl.nil else (clim ws rs).getD (rs.length - 1) Cl.nil
set_option maxHeartbeats 1000000 in
set_option maxRecDepth 100000 in
theorem l05Climb_any (gb : Nat) (A : Option Addr) (n c : Nat) (rs : List Fac) (D : Option Addr) (d : Nat) (ws : List Int) (ls : List Int) (w : World) (hg : gb < w.heap.size) (hc : w.cell? ⟨gb, 0, none⟩ = some (.slice A n c)) (hn : n ≤ 1048576) (hr : Rd w w.heap.size A n 3 Fac.cells rs)
    (hls : gLens rs [] = some ls) (hws : WsOk ws) (hd : Rd w w.heap.size D 4 1 intE ws) :
    Calls Try.prog 73 #[.pointer (some ⟨gb, 0, none⟩), .slice D 4 d] w (Ret (Cl.v (climT ws rs)) w) := by
  have hl := Lib.hid hr.len
  have HR := Lib.hid hr; clear hr
  have HD := Lib.hid hd; clear hd
  by_cases h0 : n = 0
  · have e := Lib.hid (show climT ws rs = Cl.nil by unfold climT; rw [if_pos (by rw [hl.out]; exact h0)])
    have e0 : ((n : Int) == 0) = true := by simp [h0]
    clear h0
    go_enter Try.func73, Try.ntmps73
    go_wp2_with fail
    rw [e.out]
    refine bodyPost_ret (v := Cl.v Cl.nil) (by simp [results, Try.results73, go_sem, Cl.nil]) rfl ⟨rfl, by (repeat first | exact Below.refl _ _ | assumption | refine Below.drew ?_ | refine Below.alloc ?_ (by first | exact Nat.le_refl _ | (simp; done) | omega | (simp; omega)) _ | refine Below.setCell ?_ (by first | exact Nat.le_refl _ | (simp; done) | omega | (simp; omega)) _)⟩
  · have e0 : ((n : Int) == 0) = false := by simp [h0]
    have hlen := Lib.hid (full_len Cl.nil (climF ws) climG (rs := rs))
    have e := Lib.hid (show climT ws rs = (clim ws rs).getD (n - 1) Cl.nil by unfold climT; rw [if_neg (by rw [hl.out]; exact h0), hl.out])
    have h1 : 0 < n := by omega
    have h1' : (0 : Int) ≤ (n : Int) - 1 := by omega
    clear h0
    go_enter Try.func73, Try.ntmps73
    go_wp2_with fail
    refine named fun w3 H3 => ?_
    have hb3 : Below w.heap.size w w3 := by rw [H3.out]; (repeat first | exact Below.refl _ _ | assumption | refine Below.drew ?_ | refine Below.alloc ?_ (by first | exact Nat.le_refl _ | (simp; done) | omega | (simp; omega)) _ | refine Below.setCell ?_ (by first | exact Nat.le_refl _ | (simp; done) | omega | (simp; omega)) _)
    have B3 : Blk w3 w.heap.size 51 #[.int .i64 0, .int .i64 0, .int .i64 0] := by rw [H3.out]; exact Blk.new _ _ _
    have cg3 := (hb3.cell (p := ⟨gb, 0, none⟩) hg).trans hc
    have lg3 : gb < w3.heap.size := by have := hb3.size; omega
    have B3' := Lib.hid B3; clear B3 H3
    have HR3 := Lib.hid (show Rd w3.drew w3.drew.heap.size A n 3 Fac.cells rs from HR.out.next hb3.drew)
    have HD3 := Lib.hid (show Rd w3.drew w3.drew.heap.size D 4 1 intE ws from HD.out.next hb3.drew)
    have hn1 : n - 1 < n := by omega
    have hq1 : (n : Int) - 1 < n := by omega
    have hq2 : ((n : Int) - 1).toNat = n - 1 := by omega
    have hq3 : IntKind.i64.wrap ((n : Int) - 1) = (n : Int) - 1 := IntWalk.i64_in _ (by omega)
    go_region_with
      (go_at_call 96
       refine (l05Climbs_any gb A n c rs D d ws ls w3.drew lg3 cg3 hn HR3.out hls hws HD3.out).mono ?_
       rintro e2 w4 ⟨A4, c4, rfl, own4, hb4⟩
       have hb4' : Below w3.heap.size w3 w4 := (Below.refl _ _).drew.trans hb4
       rw [hlen.out, hl.out] at own4
       rw [hlen.out, hl.out]
       obtain ⟨g, cap, hv, hg0, hg1⟩ := own4.form h1
       obtain rfl : A4 = some ⟨g, 0, none⟩ := by injection hv
       have v0 : w4.cell? ⟨g, (n - 1) * 3, none⟩ = some (.int .i64 (climT ws rs).t) := by rw [e.out]; simpa [encCl] using own_at (enc := encCl) (sz := 3) (fun y _ => lenCl y) own4 (hlen.out.trans hl.out) Cl.nil (n - 1) hn1 0 (by decide)
       have v1 : w4.cell? ⟨g, (n - 1) * 3 + 1, none⟩ = some (.int .i64 (climT ws rs).l) := by rw [e.out]; simpa [encCl] using own_at (enc := encCl) (sz := 3) (fun y _ => lenCl y) own4 (hlen.out.trans hl.out) Cl.nil (n - 1) hn1 1 (by decide)
       have v2 : w4.cell? ⟨g, (n - 1) * 3 + 2, none⟩ = some (.int .i64 (climT ws rs).h) := by rw [e.out]; simpa [encCl] using own_at (enc := encCl) (sz := 3) (fun y _ => lenCl y) own4 (hlen.out.trans hl.out) Cl.nil (n - 1) hn1 2 (by decide)
       have B4 := B3'.out.next hb4'
       obtain ⟨q0, q1, q2⟩ := B4.three
       have f4 := B4.frozen
       have l4 := B4.lt
       have cg4 := (hb4'.cell (p := ⟨gb, 0, none⟩) lg3).trans cg3
       have Hb4 := Lib.hid hb4'
       clear own4 hv B4 hb4 hb4')
    all_goals
      clear hq2 hq3
      go_wp2_with fail
      have hb34 := hb3.trans (Hb4.out.mono hb3.size)
      refine bodyPost_ret (v := Cl.v (climT ws rs)) (by simp [results, Try.results73, go_sem, q0, q1, q2]) rfl ⟨rfl, ?_⟩
      exact ((hb34.setCell (Nat.le_refl _) _).setCell (Nat.le_refl _) _).setCell (Nat.le_refl _) _
end Go.Proofs.Ytgdbpkpaacbhhaa


/-
  A new slice of four numbers.
-/
namespace Go.Proofs.Ytgdbpkpaacbhhaa
open Go.RowKit

theorem info_i64 : (Try.prog.info? 2).map (fun i => (i.zero, i.size, i.bytes)) = some (some (.int .i64 0), 1, 8) := by kernel_rfl
theorem made4 : madeCells (Value.int .i64 0).cells (4 * 1) = #[.int .i64 0, .int .i64 0, .int .i64 0, .int .i64 0] := by
  apply Array.ext
  · simp [size_madeCells]
  · intro i h1 h2
    have h3 : i < 4 := h2
    match i, h3 with
    | 0, _ => simp [madeCells, Value.cells]
    | 1, _ => simp [madeCells, Value.cells]
    | 2, _ => simp [madeCells, Value.cells]
    | 3, _ => simp [madeCells, Value.cells]
theorem make4 (W : World) : (Instr.makeSlice 46 (.int .i64 4) (.int .i64 4)).run Try.prog W = .ok (.slice (some ⟨W.heap.size, 0, none⟩) 4 4) (W.alloc (.cells #[.int .i64 0, .int .i64 0, .int .i64 0, .int .i64 0] 2)) := by
  obtain ⟨i0, hi, hz0, hz1, hz2⟩ := info_parts info_i64
  have hmk := run_make_rowN (P := Try.prog) 46 2 i0 _ Try.underlying46 hi hz0 .i64 .i64 4 4 (Nat.le_refl _) (by rw [hz2]; omega) (by omega) W
  rw [hz1, made4] at hmk
  exact hmk
end Go.Proofs.Ytgdbpkpaacbhhaa


/-
  The last of what is made of a grammar.
-/
namespace Go.Proofs.Ytgdbpkpaacbhhaa

def tup2 (a b : Int) : Value := .tuple #[.int .i64 a, .int .i64 b]
theorem foldAll_len {α : Type} (d : α) (F : Nat → α) (G : α → α → Fac → α) (z : α) (rs : List Fac) : 1 ≤ (foldAll d F G z rs).length ∧ (foldAll d F G z rs).length ≤ rs.length + 1 := by
  unfold foldAll
  split
  · simp
  · rw [foldG_len]; simp; omega
/-- the last of what is made -/
theorem foldAll_top {α : Type} (d : α) (F : Nat → α) (G : α → α → Fac → α) (z : α) (rs : List Fac) : (foldAll d F G z rs).getD ((foldAll d F G z rs).length - 1) d = if rs.length = 0 then z else (full d F G rs).getD (rs.length - 1) d := by
  unfold foldAll
  split
  · rfl
  · have := full_len d F G (rs := rs)
    unfold full at this ⊢
    rw [this]
theorem foldAll_pos {α : Type} (d : α) (F : Nat → α) (G : α → α → Fac → α) (z : α) {rs : List Fac} (h : 0 < rs.length) : foldAll d F G z rs = full d F G rs := by
  unfold foldAll
  rw [if_neg (by omega)]
end Go.Proofs.Ytgdbpkpaacbhhaa


/-
  Is a word balanced: in the program and in the reference.
-/
namespace Go.Proofs.Ytgdbpkpaacbhhaa
open Go.RowKit

def balW (a b : Nat) : List Int := (([0, 0, 0, 0] : List Int).set a 1).set b (-1)
theorem balW_ok (a b : Nat) : WsOk (balW a b) := by
  unfold WsOk balW
  refine ⟨by simp, fun z hz => ?_⟩
  rcases List.mem_or_eq_of_mem_set hz with h | rfl
  · rcases List.mem_or_eq_of_mem_set h with h | rfl
    · simp at h; omega
    · omega
  · omega
theorem balW_arr (a b : Nat) : ((#[Value.int .i64 0, .int .i64 0, .int .i64 0, .int .i64 0] : Array Value).setIfInBounds a (.int .i64 1)).setIfInBounds b (.int .i64 (-1)) = ((balW a b).map (Value.int .i64)).toArray := by
  apply Array.ext'
  simp [balW, List.map_set]
/-- four numbers in a block of their own -/
theorem rd_blk {w : World} {g : Nat} {t : TypeId} {ws : List Int} {n : Nat} (h : Blk w g t (ws.map (Value.int .i64)).toArray) (hn : ws.length = n) : Rd w w.heap.size (some ⟨g, 0, none⟩) n 1 intE ws := by
  refine ⟨hn, fun _ => ⟨g, 0, rfl, h.lt, fun k x hx j v hv => ?_⟩⟩
  have hj : j = 0 := by have := (List.getElem?_eq_some_iff.1 hv).1; simp [intE] at this; exact this
  subst hj
  rw [h.cell]
  obtain rfl : Value.int .i64 x = v := by simpa [intE] using hv
  simp [hx]
def balV (rs : List Fac) (o s : ByteArray) : Value :=
  if (gOk rs).isSome = false then .tuple #[.bool false, .int .i64 1] else if letT o = false then .tuple #[.bool false, .int .i64 1] else if letT s = false then .tuple #[.bool false, .int .i64 1]
  else if o = s then .tuple #[.bool false, .int .i64 2] else .tuple #[.bool (decide ((climT (balW (letN o) (letN s)) rs).l = 0) && decide ((climT (balW (letN o) (letN s)) rs).t = 0)), .int .i64 0]
theorem balV_form (rs : List Fac) (o s : ByteArray) : ∃ b k, balV rs o s = .tuple #[.bool b, .int .i64 k] := by
  unfold balV
  split
  · exact ⟨_, _, rfl⟩
  split
  · exact ⟨_, _, rfl⟩
  split
  · exact ⟨_, _, rfl⟩
  split
  · exact ⟨_, _, rfl⟩
  · exact ⟨_, _, rfl⟩
theorem balV1 {rs : List Fac} {o s : ByteArray} (h : (gOk rs).isSome = false) : balV rs o s = .tuple #[.bool false, .int .i64 1] := by unfold balV; rw [if_pos h]
theorem balV2 {rs : List Fac} {o s : ByteArray} (h : (gOk rs).isSome = true) (h2 : letT o = false) : balV rs o s = .tuple #[.bool false, .int .i64 1] := by unfold balV; rw [if_neg (by rw [h]; decide), if_pos h2]
theorem balV3 {rs : List Fac} {o s : ByteArray} (h : (gOk rs).isSome = true) (h2 : letT o = true) (h3 : letT s = false) : balV rs o s = .tuple #[.bool false, .int .i64 1] := by unfold balV; rw [if_neg (by rw [h]; decide), if_neg (by rw [h2]; decide), if_pos h3]
theorem balV4 {rs : List Fac} {o : ByteArray} (h : (gOk rs).isSome = true) (h2 : letT o = true) : balV rs o o = .tuple #[.bool false, .int .i64 2] := by unfold balV; rw [if_neg (by rw [h]; decide), if_neg (by rw [h2]; decide), if_neg (by rw [h2]; decide), if_pos rfl]
theorem balV5 {rs : List Fac} {o s : ByteArray} (h : (gOk rs).isSome = true) (h2 : letT o = true) (h3 : letT s = true) (hne : o ≠ s) : balV rs o s = .tuple #[.bool (decide ((climT (balW (letN o) (letN s)) rs).l = 0) && decide ((climT (balW (letN o) (letN s)) rs).t = 0)), .int .i64 0] := by
  unfold balV; rw [if_neg (by rw [h]; decide), if_neg (by rw [h2]; decide), if_neg (by rw [h3]; decide), if_neg hne]
theorem clim_low (ws : List Int) {rs : List Fac} (hwf : WF rs) : (climT ws rs).l ≤ 0 := by
  unfold climT
  split
  · exact Int.le_refl _
  · refine full_ind Cl.nil (climF ws) climG hwf (fun _ x => x.l ≤ 0) (fun k r _ _ => ?_) (fun k r a b _ _ _ _ _ _ ha _ => ?_) _ (by omega)
    · show min 0 _ ≤ 0
      omega
    · show min a.l _ ≤ 0
      omega

theorem top_climT (ws : List Int) (rs : List Fac) : (foldAll Cl.nil (climF ws) climG Cl.nil rs).getD ((foldAll Cl.nil (climF ws) climG Cl.nil rs).length - 1) Cl.nil = climT ws rs := foldAll_top _ _ _ _ rs
end Go.Proofs.Ytgdbpkpaacbhhaa


/-
  The grammar of a plain word: the plain part.
-/
namespace Go.Proofs.Ytgdbpkpaacbhhaa

/-- the letters that a word has, in order -/
def ksP (w : List UInt8) : List UInt8 := [97, 98, 99, 100].filter (fun c => decide (c ∈ w))
def ruleC (c : UInt8) : Fac := ⟨⟨#[c]⟩, 0, 0⟩
def lettersP (w : List UInt8) : List Fac := (ksP w).map ruleC
/-- the place of a letter's rule -/
def atP (w : List UInt8) (c : UInt8) : Int := (((ksP w).idxOf c : Nat) : Int)
/-- the rules for the letters from the second on -/
def pairsP (w : List UInt8) : List UInt8 → Int → Nat → List Fac
  | [], _, _ => []
  | c :: cs, before, len => ⟨⟨#[]⟩, before, atP w c⟩ :: pairsP w cs (len : Int) (len + 1)
def plainL (w : List UInt8) : List Fac :=
  match w with
  | [] => []
  | c :: cs => lettersP w ++ pairsP w cs (atP w c) (ksP w).length
theorem pairsP_len (w : List UInt8) : ∀ (cs : List UInt8) (b : Int) (n : Nat), (pairsP w cs b n).length = cs.length
  | [], _, _ => rfl
  | _ :: cs, b, n => by simp [pairsP, pairsP_len w cs]
theorem ksP_len (w : List UInt8) : (ksP w).length ≤ 4 := by
  unfold ksP; exact Nat.le_trans (List.length_filter_le _ _) (by simp)
theorem plainL_len (w : List UInt8) : (plainL w).length ≤ w.length + 4 := by
  unfold plainL
  split
  · simp
  · rename_i c cs
    rw [List.length_append, pairsP_len]
    have := ksP_len (c :: cs)
    simp only [lettersP, List.length_map, List.length_cons]; omega
/-- the place of a rule in a list, or -1 -/
def ixR (f : Fac) : List Fac → Int → Int
  | [], _ => -1
  | x :: r, i => if f = x then i else ixR f r (i + 1)
theorem ixR_idx (f : Fac) : ∀ (xs : List Fac) (i : Int), f ∈ xs → ixR f xs i = i + (xs.idxOf f : Nat)
  | [], _, h => by simp at h
  | x :: r, i, h => by
    unfold ixR
    by_cases hx : f = x
    · subst hx; simp
    · have hx' : (x == f) = false := by simp; exact fun e => hx e.symm
      rw [if_neg hx, ixR_idx f r (i + 1) (by simpa [hx] using h), List.idxOf_cons, hx']
      simp; omega
theorem ruleC_inj {a b : UInt8} : ruleC a = ruleC b ↔ a = b := by simp [ruleC]
theorem idx_map (c : UInt8) : ∀ ks : List UInt8, (ks.map ruleC).idxOf (ruleC c) = ks.idxOf c
  | [] => rfl
  | k :: ks => by
    rw [List.map_cons, List.idxOf_cons, List.idxOf_cons, idx_map c ks]
    by_cases h : k = c
    · simp [h]
    · have h1 : (k == c) = false := by simpa using h
      have h2 : (ruleC k == ruleC c) = false := by simpa [ruleC_inj] using h
      rw [h1, h2]
theorem mem_ks {w : List UInt8} {c : UInt8} (hc : c ∈ w) (hl : letB c = true) : c ∈ ksP w := by
  unfold ksP
  rw [List.mem_filter]
  refine ⟨?_, by simpa using hc⟩
  have h : (97 : Int) ≤ c.toNat ∧ (c.toNat : Int) ≤ 100 := by simpa [letB] using hl
  have h4 : c.toNat = 97 ∨ c.toNat = 98 ∨ c.toNat = 99 ∨ c.toNat = 100 := by omega
  simp only [List.mem_cons, List.not_mem_nil, or_false, ← UInt8.toNat_inj]
  exact h4
theorem atP_ix {w : List UInt8} {c : UInt8} (hc : c ∈ w) (hl : letB c = true) : ixR (ruleC c) (lettersP w) 0 = atP w c := by
  have hm : ruleC c ∈ lettersP w := List.mem_map.2 ⟨c, mem_ks hc hl, rfl⟩
  rw [ixR_idx _ _ _ hm]
  unfold lettersP atP
  rw [idx_map]; simp
theorem atP_lt {w : List UInt8} {c : UInt8} (hc : c ∈ w) (hl : letB c = true) : 0 ≤ atP w c ∧ atP w c < ((ksP w).length : Int) := by
  have := List.idxOf_lt_length_of_mem (mem_ks hc hl)
  unfold atP; omega
end Go.Proofs.Ytgdbpkpaacbhhaa


/-
  A grammar trimmed: the plain part.
-/
namespace Go.Proofs.Ytgdbpkpaacbhhaa

/-- a rule with the numbers that stand for its parts -/
def trR (same : List Int) (r : Fac) : Fac := if r.l.size = 0 then ⟨⟨#[]⟩, same.getD r.a.toNat 0, same.getD r.b.toNat 0⟩ else r
/-- the rules, told by the first equal ones; the first equal one of each rule -/
def trK : List Fac → List Fac → List Int → List Fac × List Int
  | [], kept, same => (kept, same)
  | r :: rs, kept, same => trK rs (kept ++ [trR same r]) (same ++ [((kept.idxOf (trR same r) : Nat) : Int)])
/-- which rules the last one is made of -/
def useStep (kept : List Fac) (i : Nat) (u : List Bool) : List Bool := if u.getD i false = true ∧ (kept.getD i default).l.size = 0 then (u.set (kept.getD i default).a.toNat true).set (kept.getD i default).b.toNat true else u
def useT (kept : List Fac) : Nat → List Bool → List Bool
  | 0, u => u
  | i + 1, u => useT kept i (useStep kept i u)
def use0 (n : Nat) (same : List Int) : List Bool := (List.replicate n false).set (same.getD (n - 1) 0).toNat true
/-- the rules that are left -/
def outT (used : List Bool) : Nat → List Fac → List Fac → List Int → List Fac
  | _, [], out, _ => out
  | i, r :: ks, out, at_ => if used.getD i false = true then outT used (i + 1) ks (out ++ [trR at_ r]) (at_.set i (out.length : Int)) else outT used (i + 1) ks out at_
def trimL (rs : List Fac) : List Fac :=
  if rs.length = 0 then [] else outT (useT (trK rs [] []).1 rs.length (use0 rs.length (trK rs [] []).2)) 0 (trK rs [] []).1 [] (List.replicate rs.length 0)

/-- what holds of the rules that are told by the first equal ones -/
structure TrI (kept : List Fac) (same : List Int) : Prop where
  len : same.length = kept.length
  s : ∀ j, j < kept.length → 0 ≤ same.getD j 0 ∧ same.getD j 0 ≤ (j : Int)
  k : ∀ (j : Nat) (r : Fac), kept[j]? = some r → (r.l.size = 0 ∧ 0 ≤ r.a ∧ r.a < (j : Int) ∧ 0 ≤ r.b ∧ r.b < (j : Int)) ∨ (∃ c, letB c = true ∧ r.l = ⟨#[c]⟩ ∧ r.a = 0 ∧ r.b = 0)
theorem TrI.nil : TrI [] [] := ⟨rfl, fun j h => absurd h (by simp), fun j r h => by simp at h⟩
theorem TrI.step {rs kept : List Fac} {same : List Int} (h : TrI kept same) (hwf : WF rs) {r : Fac} (hr : rs[kept.length]? = some r) : TrI (kept ++ [trR same r]) (same ++ [((kept.idxOf (trR same r) : Nat) : Int)]) := by
  have hl := h.len
  refine ⟨by simp [hl], fun j hj => ?_, fun j x hx => ?_⟩
  · simp only [List.length_append, List.length_singleton] at hj
    by_cases e : j < kept.length
    · rw [List.getD_eq_getElem?_getD, List.getElem?_append_left (by omega), ← List.getD_eq_getElem?_getD]; exact h.s j e
    · obtain rfl : j = kept.length := by omega
      rw [List.getD_eq_getElem?_getD, List.getElem?_append_right (by omega), hl, Nat.sub_self]
      simp only [List.getElem?_cons_zero, Option.getD_some]
      have := List.idxOf_le_length (a := trR same r) (l := kept)
      omega
  · by_cases e : j < kept.length
    · rw [List.getElem?_append_left e] at hx; exact h.k j x hx
    · have hj2 := (List.getElem?_eq_some_iff.1 hx).1
      simp only [List.length_append, List.length_singleton] at hj2
      obtain rfl : j = kept.length := by omega
      rw [List.getElem?_append_right (Nat.le_refl _), Nat.sub_self] at hx
      obtain rfl : trR same r = x := by simpa using hx
      rcases hwf _ r hr with ⟨h0, a0, a1, b0, b1⟩ | ⟨c, hc, hxl, ha, hb⟩
      · left
        unfold trR
        rw [if_pos h0]
        have s1 := h.s r.a.toNat (by omega)
        have s2 := h.s r.b.toNat (by omega)
        exact ⟨rfl, s1.1, by simp only; omega, s2.1, by simp only; omega⟩
      · right
        have h0 : r.l.size ≠ 0 := by rw [hxl]; show (1 : Nat) ≠ 0; omega
        unfold trR
        rw [if_neg h0]
        exact ⟨c, hc, hxl, ha, hb⟩
/-- the rules told, step by step -/
theorem trK_take (rs : List Fac) {k : Nat} {kept : List Fac} {same : List Int} {r : Fac} (hr : rs[k]? = some r) (H : trK (rs.drop k) kept same = trK rs [] []) : trK (rs.drop (k + 1)) (kept ++ [trR same r]) (same ++ [((kept.idxOf (trR same r) : Nat) : Int)]) = trK rs [] [] := by
  rw [← H, drop_cons hr]; rfl
theorem trK_all {rs : List Fac} {kept : List Fac} {same : List Int} {k : Nat} (hk : rs.length ≤ k) (H : trK (rs.drop k) kept same = trK rs [] []) : (kept, same) = trK rs [] [] := by
  rw [← H, List.drop_of_length_le hk]; rfl
theorem trK_I {rs : List Fac} (hwf : WF rs) : ∀ (k : Nat) (kept : List Fac) (same : List Int), TrI kept same → kept.length = k → k ≤ rs.length → TrI (trK (rs.drop k) kept same).1 (trK (rs.drop k) kept same).2 ∧ (trK (rs.drop k) kept same).1.length = rs.length := by
  intro k
  induction hd : rs.length - k generalizing k with
  | zero =>
    intro kept same h hk hle
    rw [List.drop_of_length_le (by omega)]
    exact ⟨h, by show kept.length = _; omega⟩
  | succ d ih =>
    intro kept same h hk hle
    have hr : rs[k]? = some (rs[k]'(by omega)) := List.getElem?_eq_getElem _
    rw [drop_cons hr]
    exact ih (k + 1) (by omega) _ _ (h.step hwf (by rw [hk]; exact hr)) (by simp [hk]) (by omega)
theorem idxOf_le {α : Type} [DecidableEq α] {x : α} : ∀ {l : List α} {j : Nat}, l[j]? = some x → l.idxOf x ≤ j
  | [], j, h => by simp at h
  | y :: l, 0, h => by
    obtain rfl : y = x := by simpa using h
    simp
  | y :: l, j + 1, h => by
    rw [List.idxOf_cons]
    by_cases e : y = x
    · subst e; simp
    · have := idxOf_le (l := l) (j := j) (x := x) (by simpa using h)
      rw [show (y == x) = false by simpa using e]
      show (bif false then 0 else l.idxOf x + 1) ≤ j + 1
      simp only [cond_false]
      omega
/-- the least number of an equal rule, looked for among those that are first ones -/
theorem first_eq {kept : List Fac} {same : List Int} (hs : ∀ (j : Nat) (x : Fac), kept[j]? = some x → same.getD j 0 = ((kept.idxOf x : Nat) : Int)) {j : Nat} {x : Fac} (hj : kept[j]? = some x) (h0 : ∀ i, i < j → kept[i]? ≠ some x) : same.getD j 0 = (j : Int) := by
  rw [hs j x hj]
  have hlt := (List.getElem?_eq_some_iff.1 hj).1
  have hm : x ∈ kept := List.mem_of_getElem? hj
  have h1 : kept.idxOf x < kept.length := List.idxOf_lt_length_iff.2 hm
  have h2 : kept[kept.idxOf x]? = some x := by rw [List.getElem?_eq_getElem h1, List.getElem_idxOf]
  rcases Nat.lt_trichotomy (kept.idxOf x) j with h | h | h
  · exact absurd h2 (h0 _ h)
  · rw [h]
  · exfalso
    have := idxOf_le hj
    omega
theorem idx_app1 {f y : Fac} {kept : List Fac} (h : f ∈ kept) : (kept ++ [y]).idxOf f = kept.idxOf f := by rw [List.idxOf_append, if_pos h]
theorem idx_app2 (y : Fac) (kept : List Fac) : (kept ++ [y]).idxOf y = kept.idxOf y := by
  rw [List.idxOf_append]
  by_cases h : y ∈ kept
  · rw [if_pos h]
  · rw [if_neg h, List.idxOf_eq_length h]; simp
/-- the map behind a rule that was known -/
theorem map_known {g : Fac → Option Value} {y : Fac} {kept : List Fac} (h : ∀ f, g f = if f ∈ kept then some (.int .i64 ((kept.idxOf f : Nat) : Int)) else none) (hy : y ∈ kept) (f : Fac) : g f = if f ∈ kept ++ [y] then some (.int .i64 (((kept ++ [y]).idxOf f : Nat) : Int)) else none := by
  rw [h f]
  by_cases hf : f ∈ kept
  · rw [if_pos hf, if_pos (List.mem_append_left _ hf), idx_app1 hf]
  · rw [if_neg hf, if_neg (by
      intro e
      rcases List.mem_append.1 e with e | e
      · exact hf e
      · rw [List.mem_singleton.1 e] at hf; exact hf hy)]
/-- and behind one that was not -/
theorem map_new {g : Fac → Option Value} {y : Fac} {kept : List Fac} (h : ∀ f, g f = if f ∈ kept then some (.int .i64 ((kept.idxOf f : Nat) : Int)) else none) (hy : y ∉ kept) (f : Fac) : (if f = y then some (.int .i64 (kept.length : Int)) else g f) = if f ∈ kept ++ [y] then some (.int .i64 (((kept ++ [y]).idxOf f : Nat) : Int)) else none := by
  by_cases hf : f = y
  · subst hf
    rw [if_pos rfl, if_pos (by simp), idx_app2, List.idxOf_eq_length hy]
  · rw [if_neg hf, h f]
    by_cases hk : f ∈ kept
    · rw [if_pos hk, if_pos (List.mem_append_left _ hk), idx_app1 hk]
    · rw [if_neg hk, if_neg (by
        intro e
        rcases List.mem_append.1 e with e | e
        · exact hk e
        · exact hf (List.mem_singleton.1 e))]
end Go.Proofs.Ytgdbpkpaacbhhaa


/-
  The letters of a grammar replaced: the plain part.
-/
namespace Go.Proofs.Ytgdbpkpaacbhhaa

/-- a rule with its numbers raised -/
def rsF (by_ : Int) (r : Fac) : Fac := if r.l.size = 0 then ⟨r.l, r.a + by_, r.b + by_⟩ else r
def raiseL (by_ : Int) (rs : List Fac) : List Fac := rs.map (rsF by_)
theorem raiseL_len (b : Int) (rs : List Fac) : (raiseL b rs).length = rs.length := by simp [raiseL]
/-- is a letter a rule? -/
def usedL (rs : List Fac) (u : UInt8) : Bool := rs.any fun r => decide (r.l = ⟨#[u]⟩)
theorem usedL_mem {rs : List Fac} (hwf : WF rs) (u : UInt8) : usedL rs u = decide (ruleC u ∈ rs) := by
  rw [Bool.eq_iff_iff]
  unfold usedL
  simp only [List.any_eq_true, decide_eq_true_eq]
  constructor
  · rintro ⟨r, hr, h⟩
    obtain ⟨k, hk⟩ := List.mem_iff_getElem?.1 hr
    rcases hwf k r hk with ⟨h0, _⟩ | ⟨c, _, hl, ha, hb⟩
    · rw [h] at h0; exact absurd h0 (show ¬ (1 : Nat) = 0 by omega)
    · have : r = ruleC u := by
        cases r; simp only at h ha hb; subst h ha hb; rfl
      rw [← this]; exact hr
  · intro h; exact ⟨_, h, rfl⟩
def lb (k : Nat) : UInt8 := UInt8.ofNat (97 + k)
theorem lb_num {k : Nat} (h : k < 4) : ((lb k).toNat : Int) = 97 + k := by unfold lb; simp; omega
def mlStep (rs : List Fac) (k : Nat) (w : ByteArray) (s : List Fac × List Int) : List Fac × List Int :=
  if w.size ≠ 0 ∧ usedL rs (lb k) = true then (s.1 ++ raiseL s.1.length (plainL w.data.toList), s.2.set k (((s.1.length + (plainL w.data.toList).length : Nat) : Int) - 1)) else s
def mlGo (rs : List Fac) : Nat → List ByteArray → List Fac × List Int → List Fac × List Int
  | _, [], s => s
  | k, w :: ws, s => mlGo rs (k + 1) ws (mlStep rs k w s)
def mrStep (st : List Int) (r : Fac) (s : List Fac × List Int) : List Fac × List Int :=
  if r.l.size = 0 then
    (if s.2.getD r.a.toNat 0 < 0 then (s.1, s.2 ++ [s.2.getD r.b.toNat 0])
     else if s.2.getD r.b.toNat 0 < 0 then (s.1, s.2 ++ [s.2.getD r.a.toNat 0])
     else (s.1 ++ [⟨⟨#[]⟩, s.2.getD r.a.toNat 0, s.2.getD r.b.toNat 0⟩], s.2 ++ [(s.1.length : Int)]))
  else (s.1, s.2 ++ [st.getD (letN r.l) 0])
def mrGo (st : List Int) : List Fac → List Fac × List Int → List Fac × List Int
  | [], s => s
  | r :: rs, s => mrGo st rs (mrStep st r s)
def mapS1 (rs : List Fac) (ws : List ByteArray) : List Fac × List Int := mlGo rs 0 ws ([], [-1, -1, -1, -1])
def mapS2 (rs : List Fac) (ws : List ByteArray) : List Fac × List Int := mrGo (mapS1 rs ws).2 rs ((mapS1 rs ws).1, [])

theorem wf_nil : WF [] := fun k r h => by simp at h
theorem wf_snoc {rs : List Fac} (h : WF rs) {a b : Int} (ha : 0 ≤ a ∧ a < rs.length) (hb : 0 ≤ b ∧ b < rs.length) : WF (rs ++ [⟨⟨#[]⟩, a, b⟩]) := by
  intro k r hr
  by_cases hk : k < rs.length
  · rw [List.getElem?_append_left hk] at hr; exact h k r hr
  · rw [List.getElem?_append_right (by omega)] at hr
    have hk' : k = rs.length := by
      have := (List.getElem?_eq_some_iff.1 hr).1
      simp only [List.length_cons, List.length_nil] at this; omega
    subst hk'
    simp at hr
    subst hr
    exact .inl ⟨rfl, ha.1, ha.2, hb.1, hb.2⟩
theorem wf_take {rs : List Fac} (h : WF rs) (n : Nat) : WF (rs.take n) := fun k r hr => by
  rw [List.getElem?_take] at hr
  split at hr
  · exact h k r hr
  · cases hr
theorem wf_raise {xs ys : List Fac} (hx : WF xs) (hy : WF ys) : WF (xs ++ raiseL xs.length ys) := by
  intro k r hr
  by_cases hk : k < xs.length
  · rw [List.getElem?_append_left hk] at hr; exact hx k r hr
  · rw [List.getElem?_append_right (by omega)] at hr
    unfold raiseL at hr
    rw [List.getElem?_map] at hr
    obtain ⟨y, hy1, rfl⟩ := Option.map_eq_some_iff.1 hr
    rcases hy _ y hy1 with ⟨h0, a0, a1, b0, b1⟩ | ⟨c, hc, hl, ha, hb⟩
    · unfold rsF
      rw [if_pos h0]
      exact .inl ⟨h0, by show 0 ≤ y.a + _; omega, by show y.a + _ < _; omega, by show 0 ≤ y.b + _; omega, by show y.b + _ < _; omega⟩
    · unfold rsF
      rw [if_neg (by rw [hl]; show ¬ (1 : Nat) = 0; omega)]
      exact .inr ⟨c, hc, hl, ha, hb⟩
theorem wf_letters (ks : List UInt8) (h : ∀ c ∈ ks, letB c = true) : WF (ks.map ruleC) := fun k r hr => by
  rw [List.getElem?_map] at hr
  obtain ⟨c, hc, rfl⟩ := Option.map_eq_some_iff.1 hr
  exact .inr ⟨c, h c (List.mem_of_getElem? hc), rfl, rfl, rfl⟩
theorem ks_letB {w : List UInt8} {c : UInt8} (h : c ∈ ksP w) : letB c = true := by
  unfold ksP at h
  have := (List.mem_filter.1 h).1
  simp only [List.mem_cons, List.not_mem_nil, or_false] at this
  rcases this with rfl | rfl | rfl | rfl <;> rfl
theorem wf_pairs (w : List UInt8) : ∀ (cs : List UInt8) (b : Int) (xs : List Fac), WF xs → (∀ c ∈ cs, 0 ≤ atP w c ∧ atP w c < xs.length) → 0 ≤ b → b < xs.length → WF (xs ++ pairsP w cs b xs.length)
  | [], b, xs, h, _, _, _ => by simpa [pairsP] using h
  | c :: cs, b, xs, h, hc, hb0, hb1 => by
    have h1 := hc c (by simp)
    have h2 := wf_snoc h ⟨hb0, hb1⟩ h1
    have h3 := wf_pairs w cs (xs.length : Int) (xs ++ [⟨⟨#[]⟩, b, atP w c⟩]) h2 (fun c' hc' => by have := hc c' (by simp [hc']); simp only [List.length_append, List.length_singleton]; omega) (by omega) (by simp only [List.length_append, List.length_singleton]; omega)
    simp only [List.length_append, List.length_singleton, List.append_assoc] at h3
    exact h3
theorem wf_plain {w : List UInt8} (hl : w.all letB = true) : WF (plainL w) := by
  unfold plainL
  split
  · exact wf_nil
  · rename_i c cs
    have hm : ∀ c' ∈ c :: cs, letB c' = true := by simpa using hl
    have hlen : (lettersP (c :: cs)).length = (ksP (c :: cs)).length := by simp [lettersP]
    rw [← hlen]
    have := atP_lt (w := c :: cs) (c := c) (by simp) (hm c (by simp))
    exact wf_pairs _ cs _ _ (wf_letters _ fun _ h => ks_letB h) (fun c' hc' => by rw [hlen]; exact atP_lt (by simp [hc']) (hm c' (by simp [hc']))) this.1 (by rw [hlen]; exact this.2)
theorem plainL_pos {w : List UInt8} (h : w ≠ []) (hl : w.all letB = true) : 0 < (plainL w).length := by
  unfold plainL
  split
  · exact absurd rfl h
  · rename_i c cs
    have hc : letB c = true := by simp at hl; exact hl.1
    have : 0 < (lettersP (c :: cs)).length := by
      rw [List.length_pos_iff_exists_mem]
      exact ⟨ruleC c, List.mem_map.2 ⟨c, mem_ks (by simp) hc, rfl⟩⟩
    simp only [List.length_append]; omega
/-- what holds of the letters' rules and numbers -/
structure MlI (s : List Fac × List Int) (k : Nat) : Prop where
  wf : WF s.1
  st : s.2.length = 4
  b : ∀ i, i < 4 → -1 ≤ s.2.getD i 0 ∧ s.2.getD i 0 < s.1.length
  n : s.1.length ≤ 2004 * k
theorem okW_let {s : ByteArray} (h : okW s = true) : s.data.toList.all letB = true ∧ s.size ≤ 2000 := by
  unfold okW at h; simpa [and_comm] using h
theorem MlI.step {rs : List Fac} {s : List Fac × List Int} {k : Nat} (h : MlI s k) (hk : k < 4) {w : ByteArray} (hw : okW w = true) : MlI (mlStep rs k w s) (k + 1) := by
  unfold mlStep
  split
  · rename_i hc
    obtain ⟨hl, hsz⟩ := okW_let hw
    have h1 := plainL_len w.data.toList
    have h2 := plainL_pos (w := w.data.toList) (fun e => hc.1 (by rw [← byte_len, e]; rfl)) hl
    rw [byte_len] at h1
    refine ⟨wf_raise h.wf (wf_plain hl), by simpa using h.st, fun i hi => ?_, ?_⟩
    · have := h.b i hi
      simp only [List.length_append, raiseL_len]
      rw [List.getD_eq_getElem?_getD, List.getElem?_set]
      split
      · rw [if_pos (by rw [h.st]; omega)]; simp only [Option.getD_some]; omega
      · rw [← List.getD_eq_getElem?_getD]; omega
    · have := h.n
      simp only [List.length_append, raiseL_len]; omega
  · exact ⟨h.wf, h.st, h.b, by have := h.n; omega⟩
theorem MlI.nil : MlI ([], [-1, -1, -1, -1]) 0 := ⟨wf_nil, rfl, fun i hi => by
  rcases i with _ | _ | _ | _ | i
  · decide
  · decide
  · decide
  · decide
  · omega, by simp⟩
theorem MlI.go {rs : List Fac} : ∀ (ws : List ByteArray) (k : Nat) (s : List Fac × List Int), MlI s k → k + ws.length ≤ 4 → (∀ w ∈ ws, okW w = true) → MlI (mlGo rs k ws s) (k + ws.length)
  | [], _, _, h, _, _ => h
  | w :: ws, k, s, h, hk, hw => by
    simp only [List.length_cons] at hk ⊢
    have := MlI.go (rs := rs) ws (k + 1) (mlStep rs k w s) (h.step (by omega) (hw w (by simp))) (by omega) (fun x hx => hw x (by simp [hx]))
    rw [show k + (ws.length + 1) = k + 1 + ws.length by omega]
    exact this
/-- what holds of the rules that stand for others -/
structure MrI (s : List Fac × List Int) (n k : Nat) : Prop where
  wf : WF s.1
  st : s.2.length = k
  b : ∀ i, i < k → -1 ≤ s.2.getD i 0 ∧ s.2.getD i 0 < s.1.length
  n : s.1.length ≤ n + k
theorem getD_snoc (xs : List Int) (x : Int) (i : Nat) : (xs ++ [x]).getD i 0 = if i < xs.length then xs.getD i 0 else if i = xs.length then x else 0 := by
  rw [List.getD_eq_getElem?_getD]
  split
  · rw [List.getElem?_append_left (by omega), ← List.getD_eq_getElem?_getD]
  · split
    · rename_i h; subst h; simp
    · rw [List.getElem?_eq_none (by simp; omega)]; rfl
theorem MrI.step {st : List Int} {s : List Fac × List Int} {n k : Nat} (h : MrI s n k) (hst : ∀ i, i < 4 → -1 ≤ st.getD i 0 ∧ st.getD i 0 < s.1.length) {r : Fac}
    (hr : (r.l.size = 0 ∧ 0 ≤ r.a ∧ r.a < k ∧ 0 ≤ r.b ∧ r.b < k) ∨ (∃ c, letB c = true ∧ r.l = ⟨#[c]⟩ ∧ r.a = 0 ∧ r.b = 0)) : MrI (mrStep st r s) n (k + 1) ∧ s.1.length ≤ (mrStep st r s).1.length := by
  have snoc : ∀ (out : List Fac) (x : Int), s.1.length ≤ out.length → -1 ≤ x ∧ x < out.length → ∀ i, i < k + 1 → -1 ≤ (s.2 ++ [x]).getD i 0 ∧ (s.2 ++ [x]).getD i 0 < out.length := by
    intro out x hle hx i hi
    rw [getD_snoc, h.st]
    split
    · have := h.b i (by assumption); omega
    · split
      · exact hx
      · omega
  unfold mrStep
  rcases hr with ⟨h0, a0, a1, b0, b1⟩ | ⟨c, hc, hl, ha, hb⟩
  · rw [if_pos h0]
    have hA := h.b r.a.toNat (by omega)
    have hB := h.b r.b.toNat (by omega)
    split
    · exact ⟨⟨h.wf, by simp [h.st], snoc _ _ (Nat.le_refl _) hB, Nat.le_trans h.n (by omega)⟩, Nat.le_refl _⟩
    · split
      · exact ⟨⟨h.wf, by simp [h.st], snoc _ _ (Nat.le_refl _) hA, Nat.le_trans h.n (by omega)⟩, Nat.le_refl _⟩
      · refine ⟨⟨wf_snoc h.wf ⟨by omega, hA.2⟩ ⟨by omega, hB.2⟩, by simp [h.st], snoc _ _ (by simp) (by simp; omega), by have := h.n; simp; omega⟩, by simp⟩
  · rw [if_neg (by rw [hl]; show ¬ (1 : Nat) = 0; omega)]
    have hq : letN r.l < 4 := by rw [hl]; exact letN_lt (s := ⟨#[c]⟩) hc
    exact ⟨⟨h.wf, by simp [h.st], snoc _ _ (Nat.le_refl _) (hst _ hq), Nat.le_trans h.n (by omega)⟩, Nat.le_refl _⟩
theorem mrGo_snoc (st : List Int) : ∀ (rs : List Fac) (r : Fac) (s : List Fac × List Int), mrGo st (rs ++ [r]) s = mrStep st r (mrGo st rs s)
  | [], _, _ => rfl
  | x :: rs, r, s => mrGo_snoc st rs r (mrStep st x s)
theorem take_succ_at {α : Type} {rs : List α} {k : Nat} {r : α} (h : rs[k]? = some r) : rs.take (k + 1) = rs.take k ++ [r] := by
  rw [List.take_add_one, h]; rfl
/-- the rules up to one -/
theorem mapS2_I {rs : List Fac} (hwf : WF rs) {s : List Fac × List Int} {n : Nat} (h : MrI (s.1, []) n 0) (hst : ∀ i, i < 4 → -1 ≤ s.2.getD i 0 ∧ s.2.getD i 0 < s.1.length) :
    ∀ k, k ≤ rs.length → MrI (mrGo s.2 (rs.take k) (s.1, [])) n k ∧ s.1.length ≤ (mrGo s.2 (rs.take k) (s.1, [])).1.length
  | 0, _ => ⟨h, Nat.le_refl _⟩
  | k + 1, hk => by
    have ⟨h1, h2⟩ := mapS2_I hwf h hst k (by omega)
    have hr : rs[k]? = some rs[k] := List.getElem?_eq_getElem (by omega)
    rw [take_succ_at hr, mrGo_snoc]
    have ⟨h3, h4⟩ := h1.step (st := s.2) (fun i hi => by have := hst i hi; omega) (hwf k _ hr)
    exact ⟨h3, by omega⟩
end Go.Proofs.Ytgdbpkpaacbhhaa


/-
  A grammar trimmed: it is valid where the grammar was, and its word is the grammar's.
-/
namespace Go.Proofs.Ytgdbpkpaacbhhaa

section
variable {α : Type} (d : α) (F : Nat → α) (G : α → α → Fac → α)
theorem full_snoc (xs : List Fac) (y : Fac) : full d F G (xs ++ [y]) = full d F G xs ++ [fStep d F G (full d F G xs) y] := foldG_snoc d F G xs y []
theorem full_old (xs : List Fac) (y : Fac) {p : Nat} (h : p < xs.length) : (full d F G (xs ++ [y])).getD p d = (full d F G xs).getD p d := by
  rw [full_snoc, List.getD_eq_getElem?_getD, List.getElem?_append_left (by rw [full_len]; exact h), ← List.getD_eq_getElem?_getD]
theorem full_new (xs : List Fac) (y : Fac) : (full d F G (xs ++ [y])).getD xs.length d = fStep d F G (full d F G xs) y := by
  rw [full_snoc, List.getD_eq_getElem?_getD, List.getElem?_append_right (by rw [full_len]; exact Nat.le_refl _), full_len, Nat.sub_self]; rfl
/-- equal rules have equal values -/
theorem full_same {rs : List Fac} (hwf : WF rs) {i j : Nat} {y : Fac} (hi : rs[i]? = some y) (hj : rs[j]? = some y) : (full d F G rs).getD i d = (full d F G rs).getD j d := by
  by_cases h0 : y.l.size = 0
  · rw [full_pair d F G hwf hi h0, full_pair d F G hwf hj h0]
  · rw [full_let d F G hi h0, full_let d F G hj h0]
end

/-- what the first round leaves -/
structure TkI (rs kept : List Fac) (same : List Int) (k : Nat) : Prop where
  lk : kept.length = k
  ls : same.length = k
  r : ∀ (i : Nat) (r : Fac), i < k → rs[i]? = some r → kept[i]? = some (trR same r)
  s : ∀ i, i < k → ∃ s : Nat, same.getD i 0 = (s : Int) ∧ s ≤ i ∧ kept[s]? = kept[i]?
theorem trR_more {same : List Int} (x : Int) {r : Fac} {i : Nat} (hr : (r.l.size = 0 ∧ 0 ≤ r.a ∧ r.a < (i : Int) ∧ 0 ≤ r.b ∧ r.b < (i : Int)) ∨ (∃ c, letB c = true ∧ r.l = ⟨#[c]⟩ ∧ r.a = 0 ∧ r.b = 0)) (hi : i ≤ same.length) : trR (same ++ [x]) r = trR same r := by
  unfold trR
  rcases hr with ⟨h0, a0, a1, b0, b1⟩ | ⟨c, _, hl, _⟩
  · rw [if_pos h0, if_pos h0, getD_snoc, if_pos (by omega), getD_snoc, if_pos (by omega)]
  · rw [if_neg (by rw [hl]; show ¬ (1 : Nat) = 0; omega), if_neg (by rw [hl]; show ¬ (1 : Nat) = 0; omega)]
theorem TkI.step {rs kept : List Fac} {same : List Int} {k : Nat} (h : TkI rs kept same k) (hwf : WF rs) {r : Fac} (hr : rs[k]? = some r) : TkI rs (kept ++ [trR same r]) (same ++ [((kept.idxOf (trR same r) : Nat) : Int)]) (k + 1) := by
  have hlk := h.lk
  have hls := h.ls
  refine ⟨by simp [hlk], by simp [hls], fun i x hi hx => ?_, fun i hi => ?_⟩
  · by_cases e : i < k
    · rw [List.getElem?_append_left (by omega), h.r i x e hx, trR_more _ (hwf i x hx) (by omega)]
    · obtain rfl : i = k := by omega
      obtain rfl : r = x := by rw [hr] at hx; exact Option.some.inj hx
      rw [List.getElem?_append_right (by omega), hlk, Nat.sub_self, trR_more _ (hwf i r hr) (by omega)]; rfl
  · by_cases e : i < k
    · obtain ⟨s, h1, h2, h3⟩ := h.s i e
      refine ⟨s, ?_, h2, ?_⟩
      · rw [getD_snoc, if_pos (by omega)]; exact h1
      · rw [List.getElem?_append_left (by omega), List.getElem?_append_left (by omega)]; exact h3
    · obtain rfl : i = k := by omega
      have hle := List.idxOf_le_length (a := trR same r) (l := kept)
      refine ⟨kept.idxOf (trR same r), ?_, by omega, ?_⟩
      · rw [getD_snoc, if_neg (by omega), if_pos (by omega)]
      · by_cases e2 : kept.idxOf (trR same r) < kept.length
        · rw [List.getElem?_append_left e2, List.getElem?_append_right (by omega), hlk, Nat.sub_self, List.getElem?_eq_getElem e2, List.getElem_idxOf]; rfl
        · rw [show kept.idxOf (trR same r) = i by omega]
theorem trK_tk {rs : List Fac} (hwf : WF rs) : ∀ (n k : Nat) (kept : List Fac) (same : List Int), TkI rs kept same k → k + n = rs.length → TkI rs (trK (rs.drop k) kept same).1 (trK (rs.drop k) kept same).2 rs.length
  | 0, k, kept, same, h, hk => by
    rw [List.drop_of_length_le (by omega)]
    have : k = rs.length := by omega
    rw [← this]; exact h
  | n + 1, k, kept, same, h, hk => by
    have hr : rs[k]? = some (rs[k]'(by omega)) := List.getElem?_eq_getElem _
    rw [drop_cons hr]
    exact trK_tk hwf n (k + 1) _ _ (h.step hwf hr) (by omega)
theorem tk_all {rs : List Fac} (hwf : WF rs) : TkI rs (trK rs [] []).1 (trK rs [] []).2 rs.length ∧ WF (trK rs [] []).1 := by
  refine ⟨trK_tk hwf rs.length 0 [] [] ⟨rfl, rfl, fun i r h => absurd h (by omega), fun i h => absurd h (by omega)⟩ (by omega), ?_⟩
  exact (trK_I hwf 0 [] [] TrI.nil rfl (by omega)).1.k
section
variable {α : Type} (d : α) (F : Nat → α) (G : α → α → Fac → α) (hG : ∀ a b r r', G a b r = G a b r')
include hG
/-- the rules told by the first equal ones have the same values -/
theorem kept_val {rs kept : List Fac} {same : List Int} (hwf : WF rs) (h : TkI rs kept same rs.length) (hwk : WF kept) : ∀ i, i < rs.length → (full d F G kept).getD i d = (full d F G rs).getD i d := by
  intro i
  induction i using Nat.strongRecOn with
  | ind i ih =>
    intro hi
    have hr : rs[i]? = some (rs[i]'hi) := List.getElem?_eq_getElem _
    have hk := h.r i _ hi hr
    have val : ∀ j, j < i → (full d F G kept).getD (same.getD j 0).toNat d = (full d F G rs).getD j d := fun j hj => by
      obtain ⟨s, h1, h2, h3⟩ := h.s j (by omega)
      rw [h1, Int.toNat_natCast, ← ih j hj (by omega)]
      have hj' : kept[j]? = some (kept[j]'(by rw [h.lk]; omega)) := List.getElem?_eq_getElem _
      exact full_same d F G hwk (h3.trans hj') hj'
    rcases hwf i _ hr with ⟨h0, a0, a1, b0, b1⟩ | ⟨c, hc, hl, _⟩
    · unfold trR at hk
      rw [if_pos h0] at hk
      rw [full_pair d F G hwk hk rfl, full_pair d F G hwf hr h0]
      show G ((full d F G kept).getD (same.getD _ 0).toNat d) ((full d F G kept).getD (same.getD _ 0).toNat d) _ = _
      rw [val _ (by omega), val _ (by omega)]
      exact hG _ _ _ _
    · have h0 : (rs[i]'hi).l.size ≠ 0 := by rw [hl]; show (1 : Nat) ≠ 0; omega
      unfold trR at hk
      rw [if_neg h0] at hk
      rw [full_let d F G hk h0, full_let d F G hr h0]
end

/-- which rules are used -/
theorem useStep_len (kept : List Fac) (i : Nat) (u : List Bool) : (useStep kept i u).length = u.length := by unfold useStep; split <;> simp
theorem set_getD {u : List Bool} {i j : Nat} (hi : i < u.length) : (u.set i true).getD j false = if i = j then true else u.getD j false := by
  rw [List.getD_eq_getElem?_getD, List.getElem?_set]
  split
  · rename_i h; subst h; simp [hi]
  · rw [← List.getD_eq_getElem?_getD]
theorem useT_I {kept : List Fac} (hwk : WF kept) : ∀ (k : Nat) (u : List Bool), k ≤ kept.length → u.length = kept.length →
    (useT kept k u).length = kept.length ∧ (∀ j, k ≤ j → (useT kept k u).getD j false = u.getD j false) ∧ (∀ j, u.getD j false = true → (useT kept k u).getD j false = true) ∧
    (∀ (i : Nat) (r : Fac), i < k → kept[i]? = some r → r.l.size = 0 → (useT kept k u).getD i false = true → (useT kept k u).getD r.a.toNat false = true ∧ (useT kept k u).getD r.b.toNat false = true) ∧
    (∀ s, (∀ j, s < j → u.getD j false = false) → ∀ j, s < j → (useT kept k u).getD j false = false)
  | 0, u, _, hl => ⟨hl, fun _ _ => rfl, fun _ h => h, fun i r h => absurd h (by omega), fun s h => h⟩
  | k + 1, u, hk, hl => by
    have hr : kept[k]? = some (kept[k]'(by omega)) := List.getElem?_eq_getElem _
    have hd : kept.getD k default = kept[k]'(by omega) := by rw [List.getD_eq_getElem?_getD, hr]; rfl
    obtain ⟨i1, i2, i3, i4, i5⟩ := useT_I hwk k (useStep kept k u) (by omega) (by rw [useStep_len, hl])
    have hst : ∀ j, (useStep kept k u).getD j false = if (u.getD k false = true ∧ (kept[k]'(by omega)).l.size = 0) ∧ (j = (kept[k]'(by omega)).a.toNat ∨ j = (kept[k]'(by omega)).b.toNat) then true else u.getD j false := by
      intro j
      unfold useStep
      rw [hd]
      by_cases hc : u.getD k false = true ∧ (kept[k]'(by omega)).l.size = 0
      · rw [if_pos hc]
        rcases hwk k _ hr with ⟨_, a0, a1, b0, b1⟩ | ⟨c, _, hl', _⟩
        · rw [set_getD (by simp; omega), set_getD (by omega)]
          by_cases h1 : j = (kept[k]'(by omega)).b.toNat
          · rw [if_pos h1.symm, if_pos ⟨hc, .inr h1⟩]
          · rw [if_neg (fun e => h1 e.symm)]
            by_cases h2 : j = (kept[k]'(by omega)).a.toNat
            · rw [if_pos h2.symm, if_pos ⟨hc, .inl h2⟩]
            · rw [if_neg (fun e => h2 e.symm), if_neg (fun e => by rcases e.2 with e | e; exact h2 e; exact h1 e)]
        · have := hc.2; rw [hl'] at this; exact absurd this (show ¬ (1 : Nat) = 0 by omega)
      · rw [if_neg hc, if_neg (fun e => hc e.1)]
    have hab : (u.getD k false = true ∧ (kept[k]'(by omega)).l.size = 0) → (kept[k]'(by omega)).a.toNat < k ∧ (kept[k]'(by omega)).b.toNat < k := fun hc => by
      rcases hwk k _ hr with ⟨_, a0, a1, b0, b1⟩ | ⟨c, _, hl', _⟩
      · omega
      · have := hc.2; rw [hl'] at this; exact absurd this (show ¬ (1 : Nat) = 0 by omega)
    have keep : ∀ j, k ≤ j → (useStep kept k u).getD j false = u.getD j false := fun j hj => by
      rw [hst j, if_neg]
      rintro ⟨hc, h | h⟩
      · have := (hab hc).1; omega
      · have := (hab hc).2; omega
    refine ⟨i1, fun j hj => (i2 j (by omega)).trans (keep j (by omega)), fun j hj => i3 j (by rw [hst j]; split; rfl; exact hj), fun i r hi hir h0 hu => ?_, fun s hs j hj => ?_⟩
    · by_cases e : i < k
      · exact i4 i r e hir h0 hu
      · obtain rfl : i = k := by omega
        have hxr : kept[i]'(by omega) = r := by rw [hr] at hir; exact Option.some.inj hir
        rw [← hxr] at h0 ⊢
        have h1 : u.getD i false = true := by
          have := hu
          show _
          rw [show useT kept (i + 1) u = useT kept i (useStep kept i u) from rfl, i2 i (Nat.le_refl _), keep i (Nat.le_refl _)] at this
          exact this
        exact ⟨i3 _ (by rw [hst _, if_pos ⟨⟨h1, h0⟩, .inl rfl⟩]), i3 _ (by rw [hst _, if_pos ⟨⟨h1, h0⟩, .inr rfl⟩])⟩
    · refine i5 s (fun j' hj' => ?_) j hj
      rw [hst j']
      split
      · rename_i hc
        exfalso
        have h1 := hab hc.1
        have h2 : ¬ s < k := fun h => by have := hs k h; rw [hc.1.1] at this; cases this
        rcases hc.2 with h | h <;> omega
      · exact hs j' hj'

section
variable {α : Type} (d : α) (F : Nat → α) (G : α → α → Fac → α) (hG : ∀ a b r r', G a b r = G a b r')
/-- the rules that are left, under way -/
structure OutI (kept : List Fac) (used : List Bool) (i : Nat) (out : List Fac) (at_ : List Int) : Prop where
  wf : WF out
  la : at_.length = kept.length
  v : ∀ j, j < i → used.getD j false = true → ∃ p : Nat, at_.getD j 0 = (p : Int) ∧ p < out.length ∧ (full d F G out).getD p d = (full d F G kept).getD j d
  p : ∀ p, p < out.length → ∃ j, j < kept.length ∧ (full d F G out).getD p d = (full d F G kept).getD j d
  z : ∀ s, s < i → used.getD s false = true → (∀ j, s < j → used.getD j false = false) → 0 < out.length ∧ at_.getD s 0 = (out.length : Int) - 1
include hG
theorem outT_I {kept : List Fac} {used : List Bool} (hwk : WF kept) (hu : ∀ (i : Nat) (r : Fac), kept[i]? = some r → r.l.size = 0 → used.getD i false = true → used.getD r.a.toNat false = true ∧ used.getD r.b.toNat false = true) :
    ∀ (n i : Nat) (out : List Fac) (at_ : List Int), i + n = kept.length → OutI d F G kept used i out at_ → ∃ at2, OutI d F G kept used kept.length (outT used i (kept.drop i) out at_) at2
  | 0, i, out, at_, hi, h => by
    rw [List.drop_of_length_le (by omega)]
    have : i = kept.length := by omega
    subst this
    exact ⟨at_, h⟩
  | n + 1, i, out, at_, hi, h => by
    have hr : kept[i]? = some (kept[i]'(by omega)) := List.getElem?_eq_getElem _
    rw [drop_cons hr, outT]
    by_cases hui : used.getD i false = true
    · rw [if_pos hui]
      refine outT_I hwk hu n (i + 1) _ _ (by omega) ?_
      have hval : WF (out ++ [trR at_ (kept[i]'(by omega))]) ∧ fStep d F G (full d F G out) (trR at_ (kept[i]'(by omega))) = (full d F G kept).getD i d := by
        rcases hwk i _ hr with ⟨h0, a0, a1, b0, b1⟩ | ⟨c, hc, hl, ha, hb⟩
        · obtain ⟨ua, ub⟩ := hu i _ hr h0 hui
          obtain ⟨p, p1, p2, p3⟩ := h.v _ (by omega) ua
          obtain ⟨q, q1, q2, q3⟩ := h.v _ (by omega) ub
          have e : trR at_ (kept[i]'(by omega)) = ⟨⟨#[]⟩, (p : Int), (q : Int)⟩ := by unfold trR; rw [if_pos h0, p1, q1]
          rw [e]
          refine ⟨wf_snoc h.wf ⟨by omega, by omega⟩ ⟨by omega, by omega⟩, ?_⟩
          rw [full_pair d F G hwk hr h0, ← p3, ← q3]
          show (if (0 : Nat) = 0 then G ((full d F G out).getD (p : Int).toNat d) ((full d F G out).getD (q : Int).toNat d) _ else _) = _
          rw [if_pos rfl, Int.toNat_natCast, Int.toNat_natCast]
          exact hG _ _ _ _
        · have h0 : (kept[i]'(by omega)).l.size ≠ 0 := by rw [hl]; show (1 : Nat) ≠ 0; omega
          have e : trR at_ (kept[i]'(by omega)) = kept[i]'(by omega) := by unfold trR; rw [if_neg h0]
          rw [e, full_let d F G hr h0]
          refine ⟨fun k r hk => ?_, by unfold fStep; rw [if_neg h0]⟩
          by_cases hlt : k < out.length
          · rw [List.getElem?_append_left hlt] at hk; exact h.wf k r hk
          · rw [List.getElem?_append_right (by omega)] at hk
            have : r = kept[i]'(by omega) := by
              have h2 := (List.getElem?_eq_some_iff.1 hk).1
              simp only [List.length_cons, List.length_nil] at h2
              rw [show k - out.length = 0 by omega] at hk
              exact (Option.some.inj hk).symm
            subst this
            exact .inr ⟨c, hc, hl, ha, hb⟩
      refine ⟨hval.1, by simp [h.la], fun j hj hj2 => ?_, fun p hp => ?_, fun s hs hs2 hs3 => ?_⟩
      · by_cases e : j = i
        · subst e
          refine ⟨out.length, ?_, by simp, ?_⟩
          · rw [List.getD_eq_getElem?_getD, List.getElem?_set_self (by rw [h.la]; omega)]; rfl
          · rw [full_new, hval.2]
        · obtain ⟨p, p1, p2, p3⟩ := h.v j (by omega) hj2
          refine ⟨p, ?_, by simp; omega, ?_⟩
          · rw [List.getD_eq_getElem?_getD, List.getElem?_set_ne (fun e' => e e'.symm), ← List.getD_eq_getElem?_getD]; exact p1
          · rw [full_old d F G _ _ p2]; exact p3
      · simp only [List.length_append, List.length_singleton] at hp
        by_cases e : p < out.length
        · obtain ⟨j, j1, j2⟩ := h.p p e
          exact ⟨j, j1, by rw [full_old d F G _ _ e]; exact j2⟩
        · obtain rfl : p = out.length := by omega
          exact ⟨i, by omega, by rw [full_new, hval.2]⟩
      · by_cases e : s = i
        · subst e
          refine ⟨by simp, ?_⟩
          rw [List.getD_eq_getElem?_getD, List.getElem?_set_self (by rw [h.la]; omega)]
          simp
        · exfalso
          have := hs3 i (by omega)
          rw [hui] at this; cases this
    · rw [if_neg hui]
      refine outT_I hwk hu n (i + 1) _ _ (by omega) ⟨h.wf, h.la, fun j hj hj2 => ?_, h.p, fun s hs hs2 hs3 => ?_⟩
      · by_cases e : j = i
        · subst e; exact absurd hj2 hui
        · exact h.v j (by omega) hj2
      · by_cases e : s = i
        · subst e; exact absurd hs2 hui
        · exact h.z s (by omega) hs2 hs3
/-- the last value, and where each value comes from -/
theorem trim_val {rs : List Fac} (hwf : WF rs) (h0 : 0 < rs.length) : WF (trimL rs) ∧ 0 < (trimL rs).length ∧ (full d F G (trimL rs)).getD ((trimL rs).length - 1) d = (full d F G rs).getD (rs.length - 1) d ∧
    ∀ p, p < (trimL rs).length → ∃ j, j < rs.length ∧ (full d F G (trimL rs)).getD p d = (full d F G rs).getD j d := by
  obtain ⟨hT, hwk⟩ := tk_all hwf
  have hkv := kept_val d F G hG hwf hT hwk
  have htr : trimL rs = outT (useT (trK rs [] []).1 rs.length (use0 rs.length (trK rs [] []).2)) 0 (trK rs [] []).1 [] (List.replicate rs.length 0) := by unfold trimL; rw [if_neg (by omega)]
  rw [htr]
  generalize (trK rs [] []).1 = kept at *
  generalize (trK rs [] []).2 = same at *
  obtain ⟨s, h1, h2, h3⟩ := hT.s (rs.length - 1) (by omega)
  have hlk := hT.lk
  have hu0 : ∀ j, (use0 rs.length same).getD j false = decide (j = s) := fun j => by
    unfold use0
    rw [h1, Int.toNat_natCast, set_getD (by simp; omega)]
    by_cases e : s = j
    · rw [if_pos e]; simp [e]
    · rw [if_neg e, List.getD_eq_getElem?_getD, List.getElem?_replicate]
      have : decide (j = s) = false := by simp; exact fun h => e h.symm
      rw [this]; split <;> rfl
  obtain ⟨u1, u2, u3, u4, u5⟩ := useT_I hwk rs.length (use0 rs.length same) (by omega) (by unfold use0; simp [hlk])
  have hus : (useT kept rs.length (use0 rs.length same)).getD s false = true := u3 s (by rw [hu0]; simp)
  have hul : ∀ j, s < j → (useT kept rs.length (use0 rs.length same)).getD j false = false := u5 s (fun j hj => by rw [hu0]; simp; omega)
  obtain ⟨at2, hO⟩ := outT_I d F G hG hwk (fun i r hi h0 hu => u4 i r (by have := (List.getElem?_eq_some_iff.1 hi).1; omega) hi h0 hu) kept.length 0 [] (List.replicate rs.length 0) (by omega)
    ⟨wf_nil, by simp [hlk], fun j hj => absurd hj (by omega), fun p hp => absurd hp (by simp), fun s hs => absurd hs (by omega)⟩
  rw [List.drop_zero] at hO
  obtain ⟨z1, z2⟩ := hO.z s (by omega) hus hul
  obtain ⟨p, p1, p2, p3⟩ := hO.v s (by omega) hus
  refine ⟨hO.wf, z1, ?_, fun p hp => ?_⟩
  · have : p = (outT (useT kept rs.length (use0 rs.length same)) 0 kept [] (List.replicate rs.length 0)).length - 1 := by omega
    rw [← this, p3, hkv s (by omega), ← hkv (rs.length - 1) (by omega), ← hkv s (by omega)]
    have hj' : kept[rs.length - 1]? = some (kept[rs.length - 1]'(by omega)) := List.getElem?_eq_getElem _
    exact full_same d F G hwk (h3.trans hj') hj'
  · obtain ⟨j, j1, j2⟩ := hO.p p hp
    exact ⟨j, by omega, by rw [j2]; exact hkv j (by omega)⟩
end

/-- a grammar whose lengths are not too great is valid -/
theorem gLens_of {rs : List Fac} (hwf : WF rs) (hb : ∀ k, k < rs.length → (full 0 lenF lenG rs).getD k 0 ≤ 1000000000000000) : ∀ (n k : Nat), k + n = rs.length → (gLens (rs.drop k) (outs 0 lenF lenG rs k)).isSome = true
  | 0, k, hk => by rw [List.drop_of_length_le (by omega)]; rfl
  | n + 1, k, hk => by
    have hr : rs[k]? = some (rs[k]'(by omega)) := List.getElem?_eq_getElem _
    rw [drop_cons hr]
    have hol : (outs 0 lenF lenG rs k).length = k := outs_len 0 lenF lenG rs k (by omega)
    have hst : gStep (outs 0 lenF lenG rs k) (rs[k]'(by omega)) = some (fStep 0 lenF lenG (outs 0 lenF lenG rs k) (rs[k]'(by omega))) := by
      have hv := hb k (by omega)
      rw [full_at 0 lenF lenG hr] at hv
      unfold gStep
      unfold fStep at hv ⊢
      rcases hwf k _ hr with ⟨h0, a0, a1, b0, b1⟩ | ⟨c, hc, hl, ha, hb'⟩
      · rw [if_pos h0] at hv ⊢
        rw [if_pos h0, if_pos ⟨a0, by omega, b0, by omega, hv⟩]; rfl
      · have h0 : (rs[k]'(by omega)).l.size ≠ 0 := by rw [hl]; show (1 : Nat) ≠ 0; omega
        rw [if_neg h0, if_neg h0, if_pos ⟨by rw [hl]; exact hc, ha, hb'⟩]; rfl
    unfold gLens
    rw [hst]
    show (gLens (rs.drop (k + 1)) (outs 0 lenF lenG rs k ++ [fStep 0 lenF lenG (outs 0 lenF lenG rs k) (rs[k]'(by omega))])).isSome = true
    rw [← outs_step 0 lenF lenG hr]
    exact gLens_of hwf hb n (k + 1) (by omega)
/-- a trimmed grammar is valid, if it has not too many rules -/
theorem trim_ok {rs : List Fac} (hwf : WF rs) (hb : ∀ k, k < rs.length → (full 0 lenF lenG rs).getD k 0 ≤ 1000000000000000) (hn : (trimL rs).length ≤ 400) : (gOk (trimL rs)).isSome = true := by
  unfold gOk
  rw [if_neg (by omega)]
  by_cases h0 : rs.length = 0
  · have : trimL rs = [] := by unfold trimL; rw [if_pos h0]
    rw [this]; rfl
  · obtain ⟨h1, h2, _, h4⟩ := trim_val 0 lenF lenG (fun _ _ _ _ => rfl) hwf (by omega)
    have := gLens_of h1 (fun k hk => by obtain ⟨j, j1, j2⟩ := h4 k hk; rw [j2]; exact hb j j1) (trimL rs).length 0 (by omega)
    simpa [outs, foldG] using this
end Go.Proofs.Ytgdbpkpaacbhhaa


/-
  The walk made to stand ahead of an operation, so that a law can be laid there.
-/
namespace Go.Proofs.Ytgdbpkpaacbhhaa
open Go.RowKit

/-! ### the walk made to stand ahead of an operation -/
def Stop (p : Prop) : Prop := p
theorem stopW {P : Program} {ops : Array Oper} {Q : Exit → Act → World → Prop} {a : Act} {W : World} {l : List Oper} (h : Stop (wpList P ops Q l a W)) : wpList P ops Q l a W := h
theorem stop_named {P : Program} {ops : Array Oper} {Q : Exit → Act → World → Prop} {a : Act} {W : World} {l : List Oper} (h : ∀ w, Hid (w = W) → Stop (wpList P ops Q l a w)) : Stop (wpList P ops Q l a W) := h W (Lib.hid rfl)
end Go.Proofs.Ytgdbpkpaacbhhaa
