/-
  impl.folded at [4]int64: what it makes of a grammar, by the contracts of the two functions that it is handed.
-/
import Derived.Test.YtlokofafojepdaaFoldI
namespace Go.Proofs.Ytlokofafojepdaa
open Go.RowKit

structure Q4 where
  a : Int
  b : Int
  c : Int
  d : Int
  deriving Inhabited, DecidableEq
def Q4.nil : Q4 := ⟨0, 0, 0, 0⟩
def encQ4 (y : Q4) : List Value := [.int .i64 y.a, .int .i64 y.b, .int .i64 y.c, .int .i64 y.d]
theorem elemQ4 : Elem Try.prog 100 139 4 32 := Elem.mk' (z := .agg #[.int .i64 0, .int .i64 0, .int .i64 0, .int .i64 0]) Try.underlying100 (by kernel_rfl) rfl
theorem lenQ4 (y : Q4) : (encQ4 y).length = 4 := rfl

set_option maxHeartbeats 2000000 in
set_option maxRecDepth 100000 in
theorem foldQ_any (fl fp : Nat) (el : EnterOk fl) (ep : EnterOk fp) (cl cp : Array Value) (F : Nat → Q4) (G : Q4 → Q4 → Fac → Q4) (z : Q4) (A : Option Addr) (n c : Nat) (rs : List Fac) (w : World) (hn : n ≤ 1048576) (hr : Rd w w.heap.size A n 3 Fac.cells rs) (hwf : WF rs)
    (hF : ∀ (k : Nat) (r : Fac), rs[k]? = some r → r.l.size ≠ 0 → ∀ w', Below w.heap.size w w' → Calls Try.prog fl (#[.int .i64 (letN r.l : Nat)] ++ cl) w' (Ret (.agg #[.int .i64 (F (letN r.l)).a, .int .i64 (F (letN r.l)).b, .int .i64 (F (letN r.l)).c, .int .i64 (F (letN r.l)).d]) w'))
    (hG : ∀ (k : Nat) (r : Fac), rs[k]? = some r → r.l.size = 0 → ∀ w', Below w.heap.size w w' →
      Calls Try.prog fp (#[(.agg #[.int .i64 ((outs Q4.nil F G rs k).getD r.a.toNat Q4.nil).a, .int .i64 ((outs Q4.nil F G rs k).getD r.a.toNat Q4.nil).b, .int .i64 ((outs Q4.nil F G rs k).getD r.a.toNat Q4.nil).c, .int .i64 ((outs Q4.nil F G rs k).getD r.a.toNat Q4.nil).d]), (.agg #[.int .i64 ((outs Q4.nil F G rs k).getD r.b.toNat Q4.nil).a, .int .i64 ((outs Q4.nil F G rs k).getD r.b.toNat Q4.nil).b, .int .i64 ((outs Q4.nil F G rs k).getD r.b.toNat Q4.nil).c, .int .i64 ((outs Q4.nil F G rs k).getD r.b.toNat Q4.nil).d]), r.val] ++ cp) w' (Ret (.agg #[.int .i64 (G ((outs Q4.nil F G rs k).getD r.a.toNat Q4.nil) ((outs Q4.nil F G rs k).getD r.b.toNat Q4.nil) r).a, .int .i64 (G ((outs Q4.nil F G rs k).getD r.a.toNat Q4.nil) ((outs Q4.nil F G rs k).getD r.b.toNat Q4.nil) r).b, .int .i64 (G ((outs Q4.nil F G rs k).getD r.a.toNat Q4.nil) ((outs Q4.nil F G rs k).getD r.b.toNat Q4.nil) r).c, .int .i64 (G ((outs Q4.nil F G rs k).getD r.a.toNat Q4.nil) ((outs Q4.nil F G rs k).getD r.b.toNat Q4.nil) r).d]) w')) :
    Calls Try.prog 111 #[.agg #[.slice A n c], (.agg #[.int .i64 z.a, .int .i64 z.b, .int .i64 z.c, .int .i64 z.d]), .func (.func fl) #[] cl, .func (.func fp) #[] cp] w (RetNew w 139 4 encQ4 (foldAll Q4.nil F G z rs)) := by
  have hl := Lib.hid hr.len
  have HF := Lib.hid hF; clear hF
  unfold EnterOk at el ep
  have HG := Lib.hid hG; clear hG
  have HW := Lib.hid hwf; clear hwf
  go_enter Try.func111, Try.ntmps111
  go_wp2_with fail
  refine named fun wS HS => ?_
  have hbS0 : Below w.heap.size w wS := by rw [HS.out]; (repeat first | exact Below.refl _ _ | assumption | refine Below.drew ?_ | refine Below.alloc ?_ (by first | exact Nat.le_refl _ | (simp; done) | omega | (simp; omega)) _ | refine Below.setCell ?_ (by first | exact Nat.le_refl _ | (simp; done) | omega | (simp; omega)) _)
  have BN0 : Blk wS (w.heap.size + 1) 139 #[.int .i64 z.a, .int .i64 z.b, .int .i64 z.c, .int .i64 z.d] := by rw [HS.out]; simpa using (Blk.new (w.alloc _) _ _).alloc _
  have own0 : wS.ownsRow (w.heap.size + 2) 139 4 (.slice (some ⟨w.heap.size + 1 + 1, 0, none⟩) 0 0) 0 [] := by
    rw [HS.out]; simpa using World.ownsRow_made (base := w.heap.size + 2) (e := 139) (size := 4) ((w.alloc (.cells #[.slice A n c] 31)).alloc (.cells #[.int .i64 z.a, .int .i64 z.b, .int .i64 z.c, .int .i64 z.d] 139)) #[] 0 (by simp) (by unfold maxLen; omega) rfl
  have hzS : w.heap.size + 3 ≤ wS.heap.size := by rw [HS.out]; simp
  have hbS := Lib.hid hbS0; have BN := Lib.hid BN0; have Own0 := Lib.hid own0
  clear hbS0 BN0 own0 HS
  go_loopw [9, 16] (fun o_ i_ w' => ∃ (k : Nat) (A' : Option Addr) (c' : Nat), i_ = .int .i64 k ∧ o_ = .slice A' k c' ∧ k ≤ n ∧
      Hid (w'.ownsRow (w.heap.size + 2) 139 4 (.slice A' k c') k ((outs Q4.nil F G rs k).flatMap encQ4)) ∧ Below (w.heap.size + 2) wS w') (fun _ i_ _ => n - (intOf i_).toNat)
  case atStart =>
    exact ⟨0, _, 0, rfl, rfl, by omega, Lib.hid (by simpa [outs, foldG] using Own0.out), Below.refl _ _⟩
  case round =>
    obtain ⟨k, A', c', rfl, rfl, hk, hown, hb⟩ := hrel
    have hbw := Lib.hid (hbS.out.trans (hb.mono (by omega)))
    have hzr := hb.size
    by_cases hlt : k < n
    · obtain ⟨b, o, x, rfl, hB, gx, c0, c1, c2⟩ := (hr.next hbw.out).fac hlt
      have Hst := Lib.hid (outs_step Q4.nil F G gx)
      have Hol := Lib.hid (outs_len Q4.nil F G rs k (by rw [hl.out]; exact hk))
      rcases HW.out k x gx with ⟨h0, ha0, ha1, hb0, hb1⟩ | ⟨cc, hcc, hxl, hxa, hxb⟩
      · have hG := HG.out k x gx h0
        have hfs := Lib.hid (show fStep Q4.nil F G (outs Q4.nil F G rs k) x = G ((outs Q4.nil F G rs k).getD x.a.toNat Q4.nil) ((outs Q4.nil F G rs k).getD x.b.toNat Q4.nil) x by unfold fStep; rw [if_pos h0])
        have HG2 := Lib.hid hG; clear hG gx
        go_wp2_with fail
        refine (isPair_any x true _ (by simpa [isP] using h0)).mono ?_
        rintro e w1 ⟨rfl, hb1'⟩
        obtain ⟨d0, d1, d2⟩ := ((Blk.new wr _ _).next hb1').three
        have b1 := (hb.alloc (by omega) _).trans (hb1'.mono (by simp; omega))
        have hz1 : wr.heap.size < w1.heap.size := ((Blk.new wr 85 #[.string x.l, .int .i64 x.a, .int .i64 x.b]).next hb1').lt
        have own1 := Lib.hid (own_next (hown.out.alloc _) hb1')
        obtain ⟨g, cap, hv, hg0, hg1⟩ := own1.out.form (by omega)
        obtain rfl : A' = some ⟨g, 0, none⟩ := by injection hv
        clear hv
        have na : x.a.toNat < k := by omega
        have nb : x.b.toNat < k := by omega
        have HEa0 := Lib.hid (fun (w2_ : World) (h : w2_.ownsRow (w.heap.size + 2) 139 4 (.slice (some ⟨g, 0, none⟩) k c') k ((outs Q4.nil F G rs k).flatMap encQ4)) => show w2_.cell? ⟨g, x.a.toNat * 4, none⟩ = some (.int .i64 ((outs Q4.nil F G rs k).getD x.a.toNat Q4.nil).a) from by simpa [encQ4] using own_at (enc := encQ4) (sz := 4) (fun y _ => lenQ4 y) h Hol.out Q4.nil x.a.toNat na 0 (by omega))
        have HEa1 := Lib.hid (fun (w2_ : World) (h : w2_.ownsRow (w.heap.size + 2) 139 4 (.slice (some ⟨g, 0, none⟩) k c') k ((outs Q4.nil F G rs k).flatMap encQ4)) => show w2_.cell? ⟨g, x.a.toNat * 4 + 1, none⟩ = some (.int .i64 ((outs Q4.nil F G rs k).getD x.a.toNat Q4.nil).b) from by simpa [encQ4] using own_at (enc := encQ4) (sz := 4) (fun y _ => lenQ4 y) h Hol.out Q4.nil x.a.toNat na 1 (by omega))
        have HEa2 := Lib.hid (fun (w2_ : World) (h : w2_.ownsRow (w.heap.size + 2) 139 4 (.slice (some ⟨g, 0, none⟩) k c') k ((outs Q4.nil F G rs k).flatMap encQ4)) => show w2_.cell? ⟨g, x.a.toNat * 4 + 2, none⟩ = some (.int .i64 ((outs Q4.nil F G rs k).getD x.a.toNat Q4.nil).c) from by simpa [encQ4] using own_at (enc := encQ4) (sz := 4) (fun y _ => lenQ4 y) h Hol.out Q4.nil x.a.toNat na 2 (by omega))
        have HEa3 := Lib.hid (fun (w2_ : World) (h : w2_.ownsRow (w.heap.size + 2) 139 4 (.slice (some ⟨g, 0, none⟩) k c') k ((outs Q4.nil F G rs k).flatMap encQ4)) => show w2_.cell? ⟨g, x.a.toNat * 4 + 3, none⟩ = some (.int .i64 ((outs Q4.nil F G rs k).getD x.a.toNat Q4.nil).d) from by simpa [encQ4] using own_at (enc := encQ4) (sz := 4) (fun y _ => lenQ4 y) h Hol.out Q4.nil x.a.toNat na 3 (by omega))
        have HEb0 := Lib.hid (fun (w2_ : World) (h : w2_.ownsRow (w.heap.size + 2) 139 4 (.slice (some ⟨g, 0, none⟩) k c') k ((outs Q4.nil F G rs k).flatMap encQ4)) => show w2_.cell? ⟨g, x.b.toNat * 4, none⟩ = some (.int .i64 ((outs Q4.nil F G rs k).getD x.b.toNat Q4.nil).a) from by simpa [encQ4] using own_at (enc := encQ4) (sz := 4) (fun y _ => lenQ4 y) h Hol.out Q4.nil x.b.toNat nb 0 (by omega))
        have HEb1 := Lib.hid (fun (w2_ : World) (h : w2_.ownsRow (w.heap.size + 2) 139 4 (.slice (some ⟨g, 0, none⟩) k c') k ((outs Q4.nil F G rs k).flatMap encQ4)) => show w2_.cell? ⟨g, x.b.toNat * 4 + 1, none⟩ = some (.int .i64 ((outs Q4.nil F G rs k).getD x.b.toNat Q4.nil).b) from by simpa [encQ4] using own_at (enc := encQ4) (sz := 4) (fun y _ => lenQ4 y) h Hol.out Q4.nil x.b.toNat nb 1 (by omega))
        have HEb2 := Lib.hid (fun (w2_ : World) (h : w2_.ownsRow (w.heap.size + 2) 139 4 (.slice (some ⟨g, 0, none⟩) k c') k ((outs Q4.nil F G rs k).flatMap encQ4)) => show w2_.cell? ⟨g, x.b.toNat * 4 + 2, none⟩ = some (.int .i64 ((outs Q4.nil F G rs k).getD x.b.toNat Q4.nil).c) from by simpa [encQ4] using own_at (enc := encQ4) (sz := 4) (fun y _ => lenQ4 y) h Hol.out Q4.nil x.b.toNat nb 2 (by omega))
        have HEb3 := Lib.hid (fun (w2_ : World) (h : w2_.ownsRow (w.heap.size + 2) 139 4 (.slice (some ⟨g, 0, none⟩) k c') k ((outs Q4.nil F G rs k).flatMap encQ4)) => show w2_.cell? ⟨g, x.b.toNat * 4 + 3, none⟩ = some (.int .i64 ((outs Q4.nil F G rs k).getD x.b.toNat Q4.nil).d) from by simpa [encQ4] using own_at (enc := encQ4) (sz := 4) (fun y _ => lenQ4 y) h Hol.out Q4.nil x.b.toNat nb 3 (by omega))
        have va0 := HEa0.out w1 own1.out
        have va1 := HEa1.out w1 own1.out
        have va2 := HEa2.out w1 own1.out
        have va3 := HEa3.out w1 own1.out
        have vb0 := HEb0.out w1 own1.out
        have vb1 := HEb1.out w1 own1.out
        have vb2 := HEb2.out w1 own1.out
        have vb3 := HEb3.out w1 own1.out
        have hgw : some wr.heap.size ≠ (Value.slice (some ⟨g, 0, none⟩) k c').ownBlock := by intro e; have h1 : g < wr.heap.size := (hown.out.lt g rfl).2; have h2 : wr.heap.size = g := Option.some.inj e; omega
        generalize (outs Q4.nil F G rs k).getD x.a.toNat Q4.nil = y1 at *
        generalize (outs Q4.nil F G rs k).getD x.b.toNat Q4.nil = y2 at *
        generalize G y1 y2 x = y at *
        clear h0
        have i1 : x.a < (k : Int) := ha1
        have i2 : x.b < (k : Int) := hb1
        have bw1 := Lib.hid (hbS.out.trans (b1.mono (by omega)))
        go_wp2_with fail
        go_region_held3 (fun w' => w'.cell? ⟨wr.heap.size, 0, none⟩ = some (.string x.l) ∧ w'.cell? ⟨wr.heap.size, 1, none⟩ = some (.int .i64 x.a) ∧ w'.cell? ⟨wr.heap.size, 2, none⟩ = some (.int .i64 x.b) ∧ w'.cell? ⟨g, x.a.toNat * 4, none⟩ = some (.int .i64 y1.a) ∧ w'.cell? ⟨g, x.a.toNat * 4 + 1, none⟩ = some (.int .i64 y1.b) ∧ w'.cell? ⟨g, x.a.toNat * 4 + 2, none⟩ = some (.int .i64 y1.c) ∧ w'.cell? ⟨g, x.a.toNat * 4 + 3, none⟩ = some (.int .i64 y1.d) ∧ w'.cell? ⟨g, x.b.toNat * 4, none⟩ = some (.int .i64 y2.a) ∧ w'.cell? ⟨g, x.b.toNat * 4 + 1, none⟩ = some (.int .i64 y2.b) ∧ w'.cell? ⟨g, x.b.toNat * 4 + 2, none⟩ = some (.int .i64 y2.c) ∧ w'.cell? ⟨g, x.b.toNat * 4 + 3, none⟩ = some (.int .i64 y2.d))
          (first | exact ⟨t0, t1, t2, t3, t4, t5, t6, t7, t8, t9, t10⟩ | exact ⟨s0, s1, s2, s3, s4, s5, s6, s7, s8, s9, s10⟩ | go_keep)
          (first
            | (refine (HG2.out _ bw1.out.drew).mono ?_
               rintro e w2 ⟨rfl, hb2⟩
               have hz2 : wr.heap.size < w2.heap.size := Nat.lt_of_lt_of_le hz1 hb2.size
               have s0 : w2.cell? ⟨wr.heap.size, 0, none⟩ = some (.string x.l) := (hb2.cell (p := ⟨wr.heap.size, 0, none⟩) hz1).trans d0
               have s1 : w2.cell? ⟨wr.heap.size, 1, none⟩ = some (.int .i64 x.a) := (hb2.cell (p := ⟨wr.heap.size, 1, none⟩) hz1).trans d1
               have s2 : w2.cell? ⟨wr.heap.size, 2, none⟩ = some (.int .i64 x.b) := (hb2.cell (p := ⟨wr.heap.size, 2, none⟩) hz1).trans d2
               have s3 : w2.cell? ⟨g, x.a.toNat * 4, none⟩ = some (.int .i64 y1.a) := (hb2.cell (p := ⟨g, x.a.toNat * 4, none⟩) hg1).trans va0
               have s4 : w2.cell? ⟨g, x.a.toNat * 4 + 1, none⟩ = some (.int .i64 y1.b) := (hb2.cell (p := ⟨g, x.a.toNat * 4 + 1, none⟩) hg1).trans va1
               have s5 : w2.cell? ⟨g, x.a.toNat * 4 + 2, none⟩ = some (.int .i64 y1.c) := (hb2.cell (p := ⟨g, x.a.toNat * 4 + 2, none⟩) hg1).trans va2
               have s6 : w2.cell? ⟨g, x.a.toNat * 4 + 3, none⟩ = some (.int .i64 y1.d) := (hb2.cell (p := ⟨g, x.a.toNat * 4 + 3, none⟩) hg1).trans va3
               have s7 : w2.cell? ⟨g, x.b.toNat * 4, none⟩ = some (.int .i64 y2.a) := (hb2.cell (p := ⟨g, x.b.toNat * 4, none⟩) hg1).trans vb0
               have s8 : w2.cell? ⟨g, x.b.toNat * 4 + 1, none⟩ = some (.int .i64 y2.b) := (hb2.cell (p := ⟨g, x.b.toNat * 4 + 1, none⟩) hg1).trans vb1
               have s9 : w2.cell? ⟨g, x.b.toNat * 4 + 2, none⟩ = some (.int .i64 y2.c) := (hb2.cell (p := ⟨g, x.b.toNat * 4 + 2, none⟩) hg1).trans vb2
               have s10 : w2.cell? ⟨g, x.b.toNat * 4 + 3, none⟩ = some (.int .i64 y2.d) := (hb2.cell (p := ⟨g, x.b.toNat * 4 + 3, none⟩) hg1).trans vb3)
            | (refine step_push (by rfl) _ _ _ (by rfl) (w.heap.size + 2) 139 4 32 elemQ4 encQ4 (some ⟨g, 0, none⟩) k c' (outs Q4.nil F G rs k) (by rfl) ((own_next own1.out.drew hb2).alloc _) w2.heap.size y #[.int .i64 y.a, .int .i64 y.b, .int .i64 y.c, .int .i64 y.d] 139 (0, 0) (by rfl) (heap_alloc_new _ _) rfl rfl (by simp [encQ4, Value.oneCell']) (by omega) (by omega) (by unfold maxLen; omega) (Nat.le_trans (Nat.le_trans (by omega) (Nat.le_of_lt hz2)) (by simp)) ?_
               intro A5 c5 w5 own5 hg5 old5
               have t0 : w5.cell? ⟨wr.heap.size, 0, none⟩ = some (.string x.l) := far_alloc hg5 s0 hz2 hgw
               have t1 : w5.cell? ⟨wr.heap.size, 1, none⟩ = some (.int .i64 x.a) := far_alloc hg5 s1 hz2 hgw
               have t2 : w5.cell? ⟨wr.heap.size, 2, none⟩ = some (.int .i64 x.b) := far_alloc hg5 s2 hz2 hgw
               have t3 : w5.cell? ⟨g, x.a.toNat * 4, none⟩ = some (.int .i64 y1.a) := HEa0.out w5 old5
               have t4 : w5.cell? ⟨g, x.a.toNat * 4 + 1, none⟩ = some (.int .i64 y1.b) := HEa1.out w5 old5
               have t5 : w5.cell? ⟨g, x.a.toNat * 4 + 2, none⟩ = some (.int .i64 y1.c) := HEa2.out w5 old5
               have t6 : w5.cell? ⟨g, x.a.toNat * 4 + 3, none⟩ = some (.int .i64 y1.d) := HEa3.out w5 old5
               have t7 : w5.cell? ⟨g, x.b.toNat * 4, none⟩ = some (.int .i64 y2.a) := HEb0.out w5 old5
               have t8 : w5.cell? ⟨g, x.b.toNat * 4 + 1, none⟩ = some (.int .i64 y2.b) := HEb1.out w5 old5
               have t9 : w5.cell? ⟨g, x.b.toNat * 4 + 2, none⟩ = some (.int .i64 y2.c) := HEb2.out w5 old5
               have t10 : w5.cell? ⟨g, x.b.toNat * 4 + 3, none⟩ = some (.int .i64 y2.d) := HEb3.out w5 old5))
        go_wp2_with fail
        go_roundw
        case rel =>
          refine ⟨k + 1, A5, c5, by go_num, rfl, by omega, Lib.hid ?_, ?_⟩
          · rw [Hst.out, hfs.out]; exact own5
          · exact ((b1.drew.trans (hb2.mono (by simp; omega))).alloc (by omega) _).grown hg5 (by simp; omega) (own_ge own1.out)
        case measure => simp [intOf]; omega
      · obtain ⟨xl, xa, xb⟩ := x
        simp only at hxl hxa hxb c0 c1 c2
        subst hxl hxa hxb
        obtain ⟨hl0, hl1⟩ := letB_num hcc
        have hF := HF.out k _ gx (by show (1 : Nat) ≠ 0; omega)
        have hfs := Lib.hid (show fStep Q4.nil F G (outs Q4.nil F G rs k) ⟨⟨#[cc]⟩, 0, 0⟩ = F (letN ⟨#[cc]⟩) from rfl)
        have hln := Lib.hid (show ((letN ⟨#[cc]⟩ : Nat) : Int) = (cc.toNat : Int) - 97 by rw [letN_one]; omega)
        simp only at hF
        rw [hln.out] at hF
        generalize F (letN ⟨#[cc]⟩) = y at *
        have HF2 := Lib.hid hF; clear hF gx hcc
        go_wp2_with fail
        refine (isPair_any ⟨⟨#[cc]⟩, 0, 0⟩ false _ (decide_eq_false (show ¬ (1 : Nat) = 0 by omega))).mono ?_
        rintro e w1 ⟨rfl, hb1'⟩
        obtain ⟨d0, d1, d2⟩ := ((Blk.new wr _ _).next hb1').three
        have b1 := (hb.alloc (by omega) _).trans (hb1'.mono (by simp; omega))
        have own1 := Lib.hid (own_next (hown.out.alloc _) hb1')
        have hz1 := b1.size
        go_wp2_with fail
        refine calls_arg (b := (cc.toNat : Int) - 97) (by show ((cc.toNat : Int) - 97) % 256 = _; omega) ?_
        refine (HF2.out _ (hbS.out.trans (b1.mono (by omega)))).mono ?_
        rintro e w2 ⟨rfl, hb2⟩
        have b2 := b1.trans (hb2.mono (by omega))
        have hz2 := b2.size
        have own2 := Lib.hid (own_next own1.out hb2)
        go_wp2_with
          (at_builtin
           refine wpList_pushG rfl _ _ _ rfl (w.heap.size + 2) 139 4 32 elemQ4 encQ4 _ k c' (outs Q4.nil F G rs k) rfl (own2.out.alloc _) w2.heap.size y #[.int .i64 y.a, .int .i64 y.b, .int .i64 y.c, .int .i64 y.d] 139 (0, 0) rfl (heap_alloc_new _ _) rfl rfl (by simp [encQ4, Value.oneCell']) (by omega) (by omega) (by unfold maxLen; omega) (by simp; omega) ?_
           intro A9 c9 w9 own9 hg9 hat9
           have O9 := Lib.hid own9
           have hb9 := Lib.hid ((b2.alloc (by omega) _).grown hg9 (by simp; omega) (own_ge own2.out)); clear own9 hat9)
        go_roundw
        case rel =>
          refine ⟨k + 1, A9, c9, by go_num, rfl, by omega, Lib.hid ?_, hb9.out⟩
          rw [Hst.out, hfs.out]; exact O9.out
        case measure => simp [intOf]; omega
    · have hkn : k = n := by omega
      have Hall := Lib.hid (outs_all Q4.nil F G rs k (by rw [hl.out]; omega))
      have Hol := Lib.hid (outs_len Q4.nil F G rs k (by rw [hl.out]; omega))
      have BNr := BN.out.below hb (by omega)
      have n0 : wr.cell? ⟨w.heap.size + 1, 0, none⟩ = some (.int .i64 z.a) := BNr.cell 0
      have n1 : wr.cell? ⟨w.heap.size + 1, 1, none⟩ = some (.int .i64 z.b) := BNr.cell 1
      have n2 : wr.cell? ⟨w.heap.size + 1, 2, none⟩ = some (.int .i64 z.c) := BNr.cell 2
      have n3 : wr.cell? ⟨w.heap.size + 1, 3, none⟩ = some (.int .i64 z.d) := BNr.cell 3
      have zn := BNr.lt
      by_cases h0 : k = 0
      · subst h0
        have e0 := Lib.hid (show foldAll Q4.nil F G z rs = [z] by unfold foldAll; rw [hl.out, if_pos hkn.symm])
        have e1 := Lib.hid (show outs Q4.nil F G rs 0 = [] by unfold outs; simp [foldG])
        have own1 : wr.ownsRow (w.heap.size + 2) 139 4 (.slice A' 0 c') 0 (([] : List Q4).flatMap encQ4) := by rw [← e1.out]; exact hown.out
        have Own1 := Lib.hid own1; clear own1 hkn
        go_wp2_with
          (at_builtin
           refine wpList_pushG rfl _ _ _ rfl (w.heap.size + 2) 139 4 32 elemQ4 encQ4 _ 0 c' [] rfl (Own1.out.alloc _) wr.heap.size z #[.int .i64 z.a, .int .i64 z.b, .int .i64 z.c, .int .i64 z.d] 139 (0, 0) rfl (heap_alloc_new _ _) rfl rfl (by simp [encQ4, Value.oneCell']) (by omega) (by omega) (by unfold maxLen; omega) (by simp; omega) ?_
           intro A9 c9 w9 own9 hg9 hat9
           have O9 := Lib.hid own9
           have hb9 := Lib.hid ((hb.alloc (by omega) _).grown hg9 (by simp; omega) (own_ge Own1.out)); clear own9 hat9)
        go_ret
        rw [e0.out]
        exact ⟨A9, c9, rfl, O9.out.mono (by omega), hbS.out.trans (hb9.out.mono (by omega))⟩
      · have e0 := Lib.hid (show foldAll Q4.nil F G z rs = outs Q4.nil F G rs k by unfold foldAll; rw [hl.out, if_neg (by omega), Hall.out])
        have h1 : ((k : Int) == 0) = false := by simp; omega
        clear h0 hkn
        go_wp2_with fail
        go_ret
        rw [e0.out]
        refine ⟨A', c', ret_slice Hol.out.symm, ?_, hbw.out⟩
        rw [Hol.out]
        exact hown.out.mono (by omega)
end Go.Proofs.Ytlokofafojepdaa
