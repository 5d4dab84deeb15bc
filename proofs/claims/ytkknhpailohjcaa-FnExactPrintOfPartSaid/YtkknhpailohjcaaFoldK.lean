/-
  impl.folded at impl.mark: what it makes of a grammar, by the contracts of the two functions that it is handed.
-/
import Derived.Test.YtkknhpailohjcaaFoldI
namespace Go.Proofs.Ytkknhpailohjcaa
open Go.RowKit

structure Mk where
  p : Int
  w : Int
  deriving Inhabited, DecidableEq
def Mk.nil : Mk := ⟨0, 0⟩
def encMk (y : Mk) : List Value := [.int .i64 y.p, .int .i64 y.w]
theorem elemMk : Elem Try.prog 95 93 2 16 := Elem.mk' (z := .agg #[.int .i64 0, .int .i64 0]) Try.underlying95 (by kernel_rfl) rfl
theorem lenMk (y : Mk) : (encMk y).length = 2 := rfl

set_option maxHeartbeats 2000000 in
set_option maxRecDepth 100000 in
theorem foldK_any (fl fp : Nat) (el : EnterOk fl) (ep : EnterOk fp) (cl cp : Array Value) (F : Nat → Mk) (G : Mk → Mk → Fac → Mk) (z : Mk) (A : Option Addr) (n c : Nat) (rs : List Fac) (w : World) (hn : n ≤ 1048576) (hr : Rd w w.heap.size A n 3 Fac.cells rs) (hwf : WF rs)
    (hF : ∀ (k : Nat) (r : Fac), rs[k]? = some r → r.l.size ≠ 0 → ∀ w', Below w.heap.size w w' → Calls Try.prog fl (#[.int .i64 (letN r.l : Nat)] ++ cl) w' (Ret (.agg #[.int .i64 (F (letN r.l)).p, .int .i64 (F (letN r.l)).w]) w'))
    (hG : ∀ (k : Nat) (r : Fac), rs[k]? = some r → r.l.size = 0 → ∀ w', Below w.heap.size w w' →
      Calls Try.prog fp (#[(.agg #[.int .i64 ((outs Mk.nil F G rs k).getD r.a.toNat Mk.nil).p, .int .i64 ((outs Mk.nil F G rs k).getD r.a.toNat Mk.nil).w]), (.agg #[.int .i64 ((outs Mk.nil F G rs k).getD r.b.toNat Mk.nil).p, .int .i64 ((outs Mk.nil F G rs k).getD r.b.toNat Mk.nil).w]), r.val] ++ cp) w' (Ret (.agg #[.int .i64 (G ((outs Mk.nil F G rs k).getD r.a.toNat Mk.nil) ((outs Mk.nil F G rs k).getD r.b.toNat Mk.nil) r).p, .int .i64 (G ((outs Mk.nil F G rs k).getD r.a.toNat Mk.nil) ((outs Mk.nil F G rs k).getD r.b.toNat Mk.nil) r).w]) w')) :
    Calls Try.prog 64 #[.agg #[.slice A n c], (.agg #[.int .i64 z.p, .int .i64 z.w]), .func (.func fl) #[] cl, .func (.func fp) #[] cp] w (RetNew w 93 2 encMk (foldAll Mk.nil F G z rs)) := by
  have hl := Lib.hid hr.len
  have HF := Lib.hid hF; clear hF
  unfold EnterOk at el ep
  have HG := Lib.hid hG; clear hG
  have HW := Lib.hid hwf; clear hwf
  go_enter Try.func64, Try.ntmps64
  go_wp2_with fail
  refine named fun wS HS => ?_
  have hbS0 : Below w.heap.size w wS := by rw [HS.out]; (repeat first | exact Below.refl _ _ | assumption | refine Below.drew ?_ | refine Below.alloc ?_ (by first | exact Nat.le_refl _ | (simp; done) | omega | (simp; omega)) _ | refine Below.setCell ?_ (by first | exact Nat.le_refl _ | (simp; done) | omega | (simp; omega)) _)
  have BN0 : Blk wS (w.heap.size + 1) 93 #[.int .i64 z.p, .int .i64 z.w] := by rw [HS.out]; simpa using (Blk.new (w.alloc _) _ _).alloc _
  have own0 : wS.ownsRow (w.heap.size + 2) 93 2 (.slice (some ⟨w.heap.size + 1 + 1, 0, none⟩) 0 0) 0 [] := by
    rw [HS.out]; simpa using World.ownsRow_made (base := w.heap.size + 2) (e := 93) (size := 2) ((w.alloc (.cells #[.slice A n c] 31)).alloc (.cells #[.int .i64 z.p, .int .i64 z.w] 93)) #[] 0 (by simp) (by unfold maxLen; omega) rfl
  have hzS : w.heap.size + 3 ≤ wS.heap.size := by rw [HS.out]; simp
  have hbS := Lib.hid hbS0; have BN := Lib.hid BN0; have Own0 := Lib.hid own0
  clear hbS0 BN0 own0 HS
  go_loopw [9, 16] (fun o_ i_ w' => ∃ (k : Nat) (A' : Option Addr) (c' : Nat), i_ = .int .i64 k ∧ o_ = .slice A' k c' ∧ k ≤ n ∧
      Hid (w'.ownsRow (w.heap.size + 2) 93 2 (.slice A' k c') k ((outs Mk.nil F G rs k).flatMap encMk)) ∧ Below (w.heap.size + 2) wS w') (fun _ i_ _ => n - (intOf i_).toNat)
  case atStart =>
    exact ⟨0, _, 0, rfl, rfl, by omega, Lib.hid (by simpa [outs, foldG] using Own0.out), Below.refl _ _⟩
  case round =>
    obtain ⟨k, A', c', rfl, rfl, hk, hown, hb⟩ := hrel
    have hbw := Lib.hid (hbS.out.trans (hb.mono (by omega)))
    have hzr := hb.size
    by_cases hlt : k < n
    · obtain ⟨b, o, x, rfl, hB, gx, c0, c1, c2⟩ := (hr.next hbw.out).fac hlt
      have Hst := Lib.hid (outs_step Mk.nil F G gx)
      have Hol := Lib.hid (outs_len Mk.nil F G rs k (by rw [hl.out]; exact hk))
      rcases HW.out k x gx with ⟨h0, ha0, ha1, hb0, hb1⟩ | ⟨cc, hcc, hxl, hxa, hxb⟩
      · have hG := HG.out k x gx h0
        have hfs := Lib.hid (show fStep Mk.nil F G (outs Mk.nil F G rs k) x = G ((outs Mk.nil F G rs k).getD x.a.toNat Mk.nil) ((outs Mk.nil F G rs k).getD x.b.toNat Mk.nil) x by unfold fStep; rw [if_pos h0])
        have HG2 := Lib.hid hG; clear hG gx
        go_wp2_with fail
        refine (isPair_any x true _ (by simpa [isP] using h0)).mono ?_
        rintro e w1 ⟨rfl, hb1'⟩
        obtain ⟨d0, d1, d2⟩ := ((Blk.new wr _ _).next hb1').three
        have b1 := (hb.alloc (by omega) _).trans (hb1'.mono (by simp; omega))
        have hz1 : wr.heap.size < w1.heap.size := ((Blk.new wr 75 #[.string x.l, .int .i64 x.a, .int .i64 x.b]).next hb1').lt
        have own1 := Lib.hid (own_next (hown.out.alloc _) hb1')
        obtain ⟨g, cap, hv, hg0, hg1⟩ := own1.out.form (by omega)
        obtain rfl : A' = some ⟨g, 0, none⟩ := by injection hv
        clear hv
        have na : x.a.toNat < k := by omega
        have nb : x.b.toNat < k := by omega
        have HEa0 := Lib.hid (fun (w2_ : World) (h : w2_.ownsRow (w.heap.size + 2) 93 2 (.slice (some ⟨g, 0, none⟩) k c') k ((outs Mk.nil F G rs k).flatMap encMk)) => show w2_.cell? ⟨g, x.a.toNat * 2, none⟩ = some (.int .i64 ((outs Mk.nil F G rs k).getD x.a.toNat Mk.nil).p) from by simpa [encMk] using own_at (enc := encMk) (sz := 2) (fun y _ => lenMk y) h Hol.out Mk.nil x.a.toNat na 0 (by omega))
        have HEa1 := Lib.hid (fun (w2_ : World) (h : w2_.ownsRow (w.heap.size + 2) 93 2 (.slice (some ⟨g, 0, none⟩) k c') k ((outs Mk.nil F G rs k).flatMap encMk)) => show w2_.cell? ⟨g, x.a.toNat * 2 + 1, none⟩ = some (.int .i64 ((outs Mk.nil F G rs k).getD x.a.toNat Mk.nil).w) from by simpa [encMk] using own_at (enc := encMk) (sz := 2) (fun y _ => lenMk y) h Hol.out Mk.nil x.a.toNat na 1 (by omega))
        have HEb0 := Lib.hid (fun (w2_ : World) (h : w2_.ownsRow (w.heap.size + 2) 93 2 (.slice (some ⟨g, 0, none⟩) k c') k ((outs Mk.nil F G rs k).flatMap encMk)) => show w2_.cell? ⟨g, x.b.toNat * 2, none⟩ = some (.int .i64 ((outs Mk.nil F G rs k).getD x.b.toNat Mk.nil).p) from by simpa [encMk] using own_at (enc := encMk) (sz := 2) (fun y _ => lenMk y) h Hol.out Mk.nil x.b.toNat nb 0 (by omega))
        have HEb1 := Lib.hid (fun (w2_ : World) (h : w2_.ownsRow (w.heap.size + 2) 93 2 (.slice (some ⟨g, 0, none⟩) k c') k ((outs Mk.nil F G rs k).flatMap encMk)) => show w2_.cell? ⟨g, x.b.toNat * 2 + 1, none⟩ = some (.int .i64 ((outs Mk.nil F G rs k).getD x.b.toNat Mk.nil).w) from by simpa [encMk] using own_at (enc := encMk) (sz := 2) (fun y _ => lenMk y) h Hol.out Mk.nil x.b.toNat nb 1 (by omega))
        have va0 := HEa0.out w1 own1.out
        have va1 := HEa1.out w1 own1.out
        have vb0 := HEb0.out w1 own1.out
        have vb1 := HEb1.out w1 own1.out
        have hgw : some wr.heap.size ≠ (Value.slice (some ⟨g, 0, none⟩) k c').ownBlock := by intro e; have h1 : g < wr.heap.size := (hown.out.lt g rfl).2; have h2 : wr.heap.size = g := Option.some.inj e; omega
        generalize (outs Mk.nil F G rs k).getD x.a.toNat Mk.nil = y1 at *
        generalize (outs Mk.nil F G rs k).getD x.b.toNat Mk.nil = y2 at *
        generalize G y1 y2 x = y at *
        clear h0
        have i1 : x.a < (k : Int) := ha1
        have i2 : x.b < (k : Int) := hb1
        have bw1 := Lib.hid (hbS.out.trans (b1.mono (by omega)))
        go_wp2_with fail
        go_region_held3 (fun w' => w'.cell? ⟨wr.heap.size, 0, none⟩ = some (.string x.l) ∧ w'.cell? ⟨wr.heap.size, 1, none⟩ = some (.int .i64 x.a) ∧ w'.cell? ⟨wr.heap.size, 2, none⟩ = some (.int .i64 x.b) ∧ w'.cell? ⟨g, x.a.toNat * 2, none⟩ = some (.int .i64 y1.p) ∧ w'.cell? ⟨g, x.a.toNat * 2 + 1, none⟩ = some (.int .i64 y1.w) ∧ w'.cell? ⟨g, x.b.toNat * 2, none⟩ = some (.int .i64 y2.p) ∧ w'.cell? ⟨g, x.b.toNat * 2 + 1, none⟩ = some (.int .i64 y2.w))
          (first | exact ⟨t0, t1, t2, t3, t4, t5, t6⟩ | exact ⟨s0, s1, s2, s3, s4, s5, s6⟩ | go_keep)
          (first
            | (refine (HG2.out _ bw1.out.drew).mono ?_
               rintro e w2 ⟨rfl, hb2⟩
               have hz2 : wr.heap.size < w2.heap.size := Nat.lt_of_lt_of_le hz1 hb2.size
               have s0 : w2.cell? ⟨wr.heap.size, 0, none⟩ = some (.string x.l) := (hb2.cell (p := ⟨wr.heap.size, 0, none⟩) hz1).trans d0
               have s1 : w2.cell? ⟨wr.heap.size, 1, none⟩ = some (.int .i64 x.a) := (hb2.cell (p := ⟨wr.heap.size, 1, none⟩) hz1).trans d1
               have s2 : w2.cell? ⟨wr.heap.size, 2, none⟩ = some (.int .i64 x.b) := (hb2.cell (p := ⟨wr.heap.size, 2, none⟩) hz1).trans d2
               have s3 : w2.cell? ⟨g, x.a.toNat * 2, none⟩ = some (.int .i64 y1.p) := (hb2.cell (p := ⟨g, x.a.toNat * 2, none⟩) hg1).trans va0
               have s4 : w2.cell? ⟨g, x.a.toNat * 2 + 1, none⟩ = some (.int .i64 y1.w) := (hb2.cell (p := ⟨g, x.a.toNat * 2 + 1, none⟩) hg1).trans va1
               have s5 : w2.cell? ⟨g, x.b.toNat * 2, none⟩ = some (.int .i64 y2.p) := (hb2.cell (p := ⟨g, x.b.toNat * 2, none⟩) hg1).trans vb0
               have s6 : w2.cell? ⟨g, x.b.toNat * 2 + 1, none⟩ = some (.int .i64 y2.w) := (hb2.cell (p := ⟨g, x.b.toNat * 2 + 1, none⟩) hg1).trans vb1)
            | (refine step_push (by rfl) _ _ _ (by rfl) (w.heap.size + 2) 93 2 16 elemMk encMk (some ⟨g, 0, none⟩) k c' (outs Mk.nil F G rs k) (by rfl) ((own_next own1.out.drew hb2).alloc _) w2.heap.size y #[.int .i64 y.p, .int .i64 y.w] 93 (0, 0) (by rfl) (heap_alloc_new _ _) rfl rfl (by simp [encMk, Value.oneCell']) (by omega) (by omega) (by unfold maxLen; omega) (Nat.le_trans (Nat.le_trans (by omega) (Nat.le_of_lt hz2)) (by simp)) ?_
               intro A5 c5 w5 own5 hg5 old5
               have t0 : w5.cell? ⟨wr.heap.size, 0, none⟩ = some (.string x.l) := far_alloc hg5 s0 hz2 hgw
               have t1 : w5.cell? ⟨wr.heap.size, 1, none⟩ = some (.int .i64 x.a) := far_alloc hg5 s1 hz2 hgw
               have t2 : w5.cell? ⟨wr.heap.size, 2, none⟩ = some (.int .i64 x.b) := far_alloc hg5 s2 hz2 hgw
               have t3 : w5.cell? ⟨g, x.a.toNat * 2, none⟩ = some (.int .i64 y1.p) := HEa0.out w5 old5
               have t4 : w5.cell? ⟨g, x.a.toNat * 2 + 1, none⟩ = some (.int .i64 y1.w) := HEa1.out w5 old5
               have t5 : w5.cell? ⟨g, x.b.toNat * 2, none⟩ = some (.int .i64 y2.p) := HEb0.out w5 old5
               have t6 : w5.cell? ⟨g, x.b.toNat * 2 + 1, none⟩ = some (.int .i64 y2.w) := HEb1.out w5 old5))
        go_wp2_with fail
        go_roundw
        case rel =>
          refine ⟨k + 1, A5, c5, by go_num, rfl, by omega, Lib.hid ?_, ?_⟩
          · rw [Hst.out, hfs.out]; exact own5
          · exact ((b1.drew.trans (hb2.mono (by simp; omega))).alloc (by omega) _).grown hg5 (by simp; omega) (own_ge own1.out)
        case measure => simp [intOf]; omega
      · obtain ⟨xl, xa, xb⟩ := x
        simp only at hxl hxa hxb c0 c1 c2
        subst hxl hxa hxb
        obtain ⟨hl0, hl1⟩ := letB_num hcc
        have hF := HF.out k _ gx (by show (1 : Nat) ≠ 0; omega)
        have hfs := Lib.hid (show fStep Mk.nil F G (outs Mk.nil F G rs k) ⟨⟨#[cc]⟩, 0, 0⟩ = F (letN ⟨#[cc]⟩) from rfl)
        have hln := Lib.hid (show ((letN ⟨#[cc]⟩ : Nat) : Int) = (cc.toNat : Int) - 97 by rw [letN_one]; omega)
        simp only at hF
        rw [hln.out] at hF
        generalize F (letN ⟨#[cc]⟩) = y at *
        have HF2 := Lib.hid hF; clear hF gx hcc
        go_wp2_with fail
        refine (isPair_any ⟨⟨#[cc]⟩, 0, 0⟩ false _ (decide_eq_false (show ¬ (1 : Nat) = 0 by omega))).mono ?_
        rintro e w1 ⟨rfl, hb1'⟩
        obtain ⟨d0, d1, d2⟩ := ((Blk.new wr _ _).next hb1').three
        have b1 := (hb.alloc (by omega) _).trans (hb1'.mono (by simp; omega))
        have own1 := Lib.hid (own_next (hown.out.alloc _) hb1')
        have hz1 := b1.size
        go_wp2_with fail
        refine calls_arg (b := (cc.toNat : Int) - 97) (by show ((cc.toNat : Int) - 97) % 256 = _; omega) ?_
        refine (HF2.out _ (hbS.out.trans (b1.mono (by omega)))).mono ?_
        rintro e w2 ⟨rfl, hb2⟩
        have b2 := b1.trans (hb2.mono (by omega))
        have hz2 := b2.size
        have own2 := Lib.hid (own_next own1.out hb2)
        go_wp2_with
          (at_builtin
           refine wpList_pushG rfl _ _ _ rfl (w.heap.size + 2) 93 2 16 elemMk encMk _ k c' (outs Mk.nil F G rs k) rfl (own2.out.alloc _) w2.heap.size y #[.int .i64 y.p, .int .i64 y.w] 93 (0, 0) rfl (heap_alloc_new _ _) rfl rfl (by simp [encMk, Value.oneCell']) (by omega) (by omega) (by unfold maxLen; omega) (by simp; omega) ?_
           intro A9 c9 w9 own9 hg9 hat9
           have O9 := Lib.hid own9
           have hb9 := Lib.hid ((b2.alloc (by omega) _).grown hg9 (by simp; omega) (own_ge own2.out)); clear own9 hat9)
        go_roundw
        case rel =>
          refine ⟨k + 1, A9, c9, by go_num, rfl, by omega, Lib.hid ?_, hb9.out⟩
          rw [Hst.out, hfs.out]; exact O9.out
        case measure => simp [intOf]; omega
    · have hkn : k = n := by omega
      have Hall := Lib.hid (outs_all Mk.nil F G rs k (by rw [hl.out]; omega))
      have Hol := Lib.hid (outs_len Mk.nil F G rs k (by rw [hl.out]; omega))
      have BNr := BN.out.below hb (by omega)
      have n0 : wr.cell? ⟨w.heap.size + 1, 0, none⟩ = some (.int .i64 z.p) := BNr.cell 0
      have n1 : wr.cell? ⟨w.heap.size + 1, 1, none⟩ = some (.int .i64 z.w) := BNr.cell 1
      have zn := BNr.lt
      by_cases h0 : k = 0
      · subst h0
        have e0 := Lib.hid (show foldAll Mk.nil F G z rs = [z] by unfold foldAll; rw [hl.out, if_pos hkn.symm])
        have e1 := Lib.hid (show outs Mk.nil F G rs 0 = [] by unfold outs; simp [foldG])
        have own1 : wr.ownsRow (w.heap.size + 2) 93 2 (.slice A' 0 c') 0 (([] : List Mk).flatMap encMk) := by rw [← e1.out]; exact hown.out
        have Own1 := Lib.hid own1; clear own1 hkn
        go_wp2_with
          (at_builtin
           refine wpList_pushG rfl _ _ _ rfl (w.heap.size + 2) 93 2 16 elemMk encMk _ 0 c' [] rfl (Own1.out.alloc _) wr.heap.size z #[.int .i64 z.p, .int .i64 z.w] 93 (0, 0) rfl (heap_alloc_new _ _) rfl rfl (by simp [encMk, Value.oneCell']) (by omega) (by omega) (by unfold maxLen; omega) (by simp; omega) ?_
           intro A9 c9 w9 own9 hg9 hat9
           have O9 := Lib.hid own9
           have hb9 := Lib.hid ((hb.alloc (by omega) _).grown hg9 (by simp; omega) (own_ge Own1.out)); clear own9 hat9)
        go_ret
        rw [e0.out]
        exact ⟨A9, c9, rfl, O9.out.mono (by omega), hbS.out.trans (hb9.out.mono (by omega))⟩
      · have e0 := Lib.hid (show foldAll Mk.nil F G z rs = outs Mk.nil F G rs k by unfold foldAll; rw [hl.out, if_neg (by omega), Hall.out])
        have h1 : ((k : Int) == 0) = false := by simp; omega
        clear h0 hkn
        go_wp2_with fail
        go_ret
        rw [e0.out]
        refine ⟨A', c', ret_slice Hol.out.symm, ?_, hbw.out⟩
        rw [Hol.out]
        exact hown.out.mono (by omega)
end Go.Proofs.Ytkknhpailohjcaa
