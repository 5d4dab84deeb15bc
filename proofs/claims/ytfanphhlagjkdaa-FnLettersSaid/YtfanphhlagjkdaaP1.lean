/-
  Texts of this claim, merged: FoldR FoldT LrM WdL Use Letg Make UseI FoldQ Cnt Lett Cens FoldE Pairs.
-/
import Derived.Test.YtfanphhlagjkdaaP0


/-
  impl.folded at [4]impl.reach: what it makes of a grammar, by the contracts of the two functions that it is handed.
-/
namespace Go.Proofs.Ytfanphhlagjkdaa
open Go.RowKit

structure R4 where
  f0 : Int
  l0 : Int
  m0 : Int
  n0 : Int
  f1 : Int
  l1 : Int
  m1 : Int
  n1 : Int
  f2 : Int
  l2 : Int
  m2 : Int
  n2 : Int
  f3 : Int
  l3 : Int
  m3 : Int
  n3 : Int
  deriving Inhabited, DecidableEq
def R4.nil : R4 := ⟨0, 0, 0, 0, 0, 0, 0, 0, 0, 0, 0, 0, 0, 0, 0, 0⟩
def encR4 (y : R4) : List Value := [.int .i64 y.f0, .int .i64 y.l0, .int .i64 y.m0, .int .i64 y.n0, .int .i64 y.f1, .int .i64 y.l1, .int .i64 y.m1, .int .i64 y.n1, .int .i64 y.f2, .int .i64 y.l2, .int .i64 y.m2, .int .i64 y.n2, .int .i64 y.f3, .int .i64 y.l3, .int .i64 y.m3, .int .i64 y.n3]
theorem elemR4 : Elem Try.prog 76 80 16 128 := Elem.mk' (z := .agg #[.int .i64 0, .int .i64 0, .int .i64 0, .int .i64 0, .int .i64 0, .int .i64 0, .int .i64 0, .int .i64 0, .int .i64 0, .int .i64 0, .int .i64 0, .int .i64 0, .int .i64 0, .int .i64 0, .int .i64 0, .int .i64 0]) Try.underlying76 (by kernel_rfl) rfl
theorem lenR4 (y : R4) : (encR4 y).length = 16 := rfl

set_option maxHeartbeats 2000000 in
set_option maxRecDepth 100000 in
theorem foldR_any (fl fp : Nat) (el : EnterOk fl) (ep : EnterOk fp) (cl cp : Array Value) (F : Nat → R4) (G : R4 → R4 → Fac → R4) (z : R4) (A : Option Addr) (n c : Nat) (rs : List Fac) (w : World) (hn : n ≤ 1048576) (hr : Rd w w.heap.size A n 3 Fac.cells rs) (hwf : WF rs)
    (hF : ∀ (k : Nat) (r : Fac), rs[k]? = some r → r.l.size ≠ 0 → ∀ w', Below w.heap.size w w' → Calls Try.prog fl (#[.int .i64 (letN r.l : Nat)] ++ cl) w' (Ret (.agg #[.int .i64 (F (letN r.l)).f0, .int .i64 (F (letN r.l)).l0, .int .i64 (F (letN r.l)).m0, .int .i64 (F (letN r.l)).n0, .int .i64 (F (letN r.l)).f1, .int .i64 (F (letN r.l)).l1, .int .i64 (F (letN r.l)).m1, .int .i64 (F (letN r.l)).n1, .int .i64 (F (letN r.l)).f2, .int .i64 (F (letN r.l)).l2, .int .i64 (F (letN r.l)).m2, .int .i64 (F (letN r.l)).n2, .int .i64 (F (letN r.l)).f3, .int .i64 (F (letN r.l)).l3, .int .i64 (F (letN r.l)).m3, .int .i64 (F (letN r.l)).n3]) w'))
    (hG : ∀ (k : Nat) (r : Fac), rs[k]? = some r → r.l.size = 0 → ∀ w', Below w.heap.size w w' →
      Calls Try.prog fp (#[(.agg #[.int .i64 ((outs R4.nil F G rs k).getD r.a.toNat R4.nil).f0, .int .i64 ((outs R4.nil F G rs k).getD r.a.toNat R4.nil).l0, .int .i64 ((outs R4.nil F G rs k).getD r.a.toNat R4.nil).m0, .int .i64 ((outs R4.nil F G rs k).getD r.a.toNat R4.nil).n0, .int .i64 ((outs R4.nil F G rs k).getD r.a.toNat R4.nil).f1, .int .i64 ((outs R4.nil F G rs k).getD r.a.toNat R4.nil).l1, .int .i64 ((outs R4.nil F G rs k).getD r.a.toNat R4.nil).m1, .int .i64 ((outs R4.nil F G rs k).getD r.a.toNat R4.nil).n1, .int .i64 ((outs R4.nil F G rs k).getD r.a.toNat R4.nil).f2, .int .i64 ((outs R4.nil F G rs k).getD r.a.toNat R4.nil).l2, .int .i64 ((outs R4.nil F G rs k).getD r.a.toNat R4.nil).m2, .int .i64 ((outs R4.nil F G rs k).getD r.a.toNat R4.nil).n2, .int .i64 ((outs R4.nil F G rs k).getD r.a.toNat R4.nil).f3, .int .i64 ((outs R4.nil F G rs k).getD r.a.toNat R4.nil).l3, .int .i64 ((outs R4.nil F G rs k).getD r.a.toNat R4.nil).m3, .int .i64 ((outs R4.nil F G rs k).getD r.a.toNat R4.nil).n3]), (.agg #[.int .i64 ((outs R4.nil F G rs k).getD r.b.toNat R4.nil).f0, .int .i64 ((outs R4.nil F G rs k).getD r.b.toNat R4.nil).l0, .int .i64 ((outs R4.nil F G rs k).getD r.b.toNat R4.nil).m0, .int .i64 ((outs R4.nil F G rs k).getD r.b.toNat R4.nil).n0, .int .i64 ((outs R4.nil F G rs k).getD r.b.toNat R4.nil).f1, .int .i64 ((outs R4.nil F G rs k).getD r.b.toNat R4.nil).l1, .int .i64 ((outs R4.nil F G rs k).getD r.b.toNat R4.nil).m1, .int .i64 ((outs R4.nil F G rs k).getD r.b.toNat R4.nil).n1, .int .i64 ((outs R4.nil F G rs k).getD r.b.toNat R4.nil).f2, .int .i64 ((outs R4.nil F G rs k).getD r.b.toNat R4.nil).l2, .int .i64 ((outs R4.nil F G rs k).getD r.b.toNat R4.nil).m2, .int .i64 ((outs R4.nil F G rs k).getD r.b.toNat R4.nil).n2, .int .i64 ((outs R4.nil F G rs k).getD r.b.toNat R4.nil).f3, .int .i64 ((outs R4.nil F G rs k).getD r.b.toNat R4.nil).l3, .int .i64 ((outs R4.nil F G rs k).getD r.b.toNat R4.nil).m3, .int .i64 ((outs R4.nil F G rs k).getD r.b.toNat R4.nil).n3]), r.val] ++ cp) w' (Ret (.agg #[.int .i64 (G ((outs R4.nil F G rs k).getD r.a.toNat R4.nil) ((outs R4.nil F G rs k).getD r.b.toNat R4.nil) r).f0, .int .i64 (G ((outs R4.nil F G rs k).getD r.a.toNat R4.nil) ((outs R4.nil F G rs k).getD r.b.toNat R4.nil) r).l0, .int .i64 (G ((outs R4.nil F G rs k).getD r.a.toNat R4.nil) ((outs R4.nil F G rs k).getD r.b.toNat R4.nil) r).m0, .int .i64 (G ((outs R4.nil F G rs k).getD r.a.toNat R4.nil) ((outs R4.nil F G rs k).getD r.b.toNat R4.nil) r).n0, .int .i64 (G ((outs R4.nil F G rs k).getD r.a.toNat R4.nil) ((outs R4.nil F G rs k).getD r.b.toNat R4.nil) r).f1, .int .i64 (G ((outs R4.nil F G rs k).getD r.a.toNat R4.nil) ((outs R4.nil F G rs k).getD r.b.toNat R4.nil) r).l1, .int .i64 (G ((outs R4.nil F G rs k).getD r.a.toNat R4.nil) ((outs R4.nil F G rs k).getD r.b.toNat R4.nil) r).m1, .int .i64 (G ((outs R4.nil F G rs k).getD r.a.toNat R4.nil) ((outs R4.nil F G rs k).getD r.b.toNat R4.nil) r).n1, .int .i64 (G ((outs R4.nil F G rs k).getD r.a.toNat R4.nil) ((outs R4.nil F G rs k).getD r.b.toNat R4.nil) r).f2, .int .i64 (G ((outs R4.nil F G rs k).getD r.a.toNat R4.nil) ((outs R4.nil F G rs k).getD r.b.toNat R4.nil) r).l2, .int .i64 (G ((outs R4.nil F G rs k).getD r.a.toNat R4.nil) ((outs R4.nil F G rs k).getD r.b.toNat R4.nil) r).m2, .int .i64 (G ((outs R4.nil F G rs k).getD r.a.toNat R4.nil) ((outs R4.nil F G rs k).getD r.b.toNat R4.nil) r).n2, .int .i64 (G ((outs R4.nil F G rs k).getD r.a.toNat R4.nil) ((outs R4.nil F G rs k).getD r.b.toNat R4.nil) r).f3, .int .i64 (G ((outs R4.nil F G rs k).getD r.a.toNat R4.nil) ((outs R4.nil F G rs k).getD r.b.toNat R4.nil) r).l3, .int .i64 (G ((outs R4.nil F G rs k).getD r.a.toNat R4.nil) ((outs R4.nil F G rs k).getD r.b.toNat R4.nil) r).m3, .int .i64 (G ((outs R4.nil F G rs k).getD r.a.toNat R4.nil) ((outs R4.nil F G rs k).getD r.b.toNat R4.nil) r).n3]) w')) :
    Calls Try.prog 41 #[.agg #[.slice A n c], (.agg #[.int .i64 z.f0, .int .i64 z.l0, .int .i64 z.m0, .int .i64 z.n0, .int .i64 z.f1, .int .i64 z.l1, .int .i64 z.m1, .int .i64 z.n1, .int .i64 z.f2, .int .i64 z.l2, .int .i64 z.m2, .int .i64 z.n2, .int .i64 z.f3, .int .i64 z.l3, .int .i64 z.m3, .int .i64 z.n3]), .func (.func fl) #[] cl, .func (.func fp) #[] cp] w (RetNew w 80 16 encR4 (foldAll R4.nil F G z rs)) := by
  have hl := Lib.hid hr.len
  have HF := Lib.hid hF; clear hF
  unfold EnterOk at el ep
  have HG := Lib.hid hG; clear hG
  have HW := Lib.hid hwf; clear hwf
  go_enter Try.func41, Try.ntmps41
  go_wp2_with fail
  refine named fun wS HS => ?_
  have hbS0 : Below w.heap.size w wS := by rw [HS.out]; (repeat first | exact Below.refl _ _ | assumption | refine Below.drew ?_ | refine Below.alloc ?_ (by first | exact Nat.le_refl _ | (simp; done) | omega | (simp; omega)) _ | refine Below.setCell ?_ (by first | exact Nat.le_refl _ | (simp; done) | omega | (simp; omega)) _)
  have BN0 : Blk wS (w.heap.size + 1) 80 #[.int .i64 z.f0, .int .i64 z.l0, .int .i64 z.m0, .int .i64 z.n0, .int .i64 z.f1, .int .i64 z.l1, .int .i64 z.m1, .int .i64 z.n1, .int .i64 z.f2, .int .i64 z.l2, .int .i64 z.m2, .int .i64 z.n2, .int .i64 z.f3, .int .i64 z.l3, .int .i64 z.m3, .int .i64 z.n3] := by rw [HS.out]; simpa using (Blk.new (w.alloc _) _ _).alloc _
  have own0 : wS.ownsRow (w.heap.size + 2) 80 16 (.slice (some ⟨w.heap.size + 1 + 1, 0, none⟩) 0 0) 0 [] := by
    rw [HS.out]; simpa using World.ownsRow_made (base := w.heap.size + 2) (e := 80) (size := 16) ((w.alloc (.cells #[.slice A n c] 26)).alloc (.cells #[.int .i64 z.f0, .int .i64 z.l0, .int .i64 z.m0, .int .i64 z.n0, .int .i64 z.f1, .int .i64 z.l1, .int .i64 z.m1, .int .i64 z.n1, .int .i64 z.f2, .int .i64 z.l2, .int .i64 z.m2, .int .i64 z.n2, .int .i64 z.f3, .int .i64 z.l3, .int .i64 z.m3, .int .i64 z.n3] 80)) #[] 0 (by simp) (by unfold maxLen; omega) rfl
  have hzS : w.heap.size + 3 ≤ wS.heap.size := by rw [HS.out]; simp
  have hbS := Lib.hid hbS0; have BN := Lib.hid BN0; have Own0 := Lib.hid own0
  clear hbS0 BN0 own0 HS
  go_loopw [9, 16] (fun o_ i_ w' => ∃ (k : Nat) (A' : Option Addr) (c' : Nat), i_ = .int .i64 k ∧ o_ = .slice A' k c' ∧ k ≤ n ∧
      Hid (w'.ownsRow (w.heap.size + 2) 80 16 (.slice A' k c') k ((outs R4.nil F G rs k).flatMap encR4)) ∧ Below (w.heap.size + 2) wS w') (fun _ i_ _ => n - (intOf i_).toNat)
  case atStart =>
    exact ⟨0, _, 0, rfl, rfl, by omega, Lib.hid (by simpa [outs, foldG] using Own0.out), Below.refl _ _⟩
  case round =>
    obtain ⟨k, A', c', rfl, rfl, hk, hown, hb⟩ := hrel
    have hbw := Lib.hid (hbS.out.trans (hb.mono (by omega)))
    have hzr := hb.size
    by_cases hlt : k < n
    · obtain ⟨b, o, x, rfl, hB, gx, c0, c1, c2⟩ := (hr.next hbw.out).fac hlt
      have Hst := Lib.hid (outs_step R4.nil F G gx)
      have Hol := Lib.hid (outs_len R4.nil F G rs k (by rw [hl.out]; exact hk))
      rcases HW.out k x gx with ⟨h0, ha0, ha1, hb0, hb1⟩ | ⟨cc, hcc, hxl, hxa, hxb⟩
      · have hG := HG.out k x gx h0
        have hfs := Lib.hid (show fStep R4.nil F G (outs R4.nil F G rs k) x = G ((outs R4.nil F G rs k).getD x.a.toNat R4.nil) ((outs R4.nil F G rs k).getD x.b.toNat R4.nil) x by unfold fStep; rw [if_pos h0])
        have HG2 := Lib.hid hG; clear hG gx
        go_wp2_with fail
        refine (isPair_any x true _ (by simpa [isP] using h0)).mono ?_
        rintro e w1 ⟨rfl, hb1'⟩
        obtain ⟨d0, d1, d2⟩ := ((Blk.new wr _ _).next hb1').three
        have b1 := (hb.alloc (by omega) _).trans (hb1'.mono (by simp; omega))
        have hz1 : wr.heap.size < w1.heap.size := ((Blk.new wr 65 #[.string x.l, .int .i64 x.a, .int .i64 x.b]).next hb1').lt
        have own1 := Lib.hid (own_next (hown.out.alloc _) hb1')
        obtain ⟨g, cap, hv, hg0, hg1⟩ := own1.out.form (by omega)
        obtain rfl : A' = some ⟨g, 0, none⟩ := by injection hv
        clear hv
        have na : x.a.toNat < k := by omega
        have nb : x.b.toNat < k := by omega
        have HEa0 := Lib.hid (fun (w2_ : World) (h : w2_.ownsRow (w.heap.size + 2) 80 16 (.slice (some ⟨g, 0, none⟩) k c') k ((outs R4.nil F G rs k).flatMap encR4)) => show w2_.cell? ⟨g, x.a.toNat * 16, none⟩ = some (.int .i64 ((outs R4.nil F G rs k).getD x.a.toNat R4.nil).f0) from by simpa [encR4] using own_at (enc := encR4) (sz := 16) (fun y _ => lenR4 y) h Hol.out R4.nil x.a.toNat na 0 (by omega))
        have HEa1 := Lib.hid (fun (w2_ : World) (h : w2_.ownsRow (w.heap.size + 2) 80 16 (.slice (some ⟨g, 0, none⟩) k c') k ((outs R4.nil F G rs k).flatMap encR4)) => show w2_.cell? ⟨g, x.a.toNat * 16 + 1, none⟩ = some (.int .i64 ((outs R4.nil F G rs k).getD x.a.toNat R4.nil).l0) from by simpa [encR4] using own_at (enc := encR4) (sz := 16) (fun y _ => lenR4 y) h Hol.out R4.nil x.a.toNat na 1 (by omega))
        have HEa2 := Lib.hid (fun (w2_ : World) (h : w2_.ownsRow (w.heap.size + 2) 80 16 (.slice (some ⟨g, 0, none⟩) k c') k ((outs R4.nil F G rs k).flatMap encR4)) => show w2_.cell? ⟨g, x.a.toNat * 16 + 2, none⟩ = some (.int .i64 ((outs R4.nil F G rs k).getD x.a.toNat R4.nil).m0) from by simpa [encR4] using own_at (enc := encR4) (sz := 16) (fun y _ => lenR4 y) h Hol.out R4.nil x.a.toNat na 2 (by omega))
        have HEa3 := Lib.hid (fun (w2_ : World) (h : w2_.ownsRow (w.heap.size + 2) 80 16 (.slice (some ⟨g, 0, none⟩) k c') k ((outs R4.nil F G rs k).flatMap encR4)) => show w2_.cell? ⟨g, x.a.toNat * 16 + 3, none⟩ = some (.int .i64 ((outs R4.nil F G rs k).getD x.a.toNat R4.nil).n0) from by simpa [encR4] using own_at (enc := encR4) (sz := 16) (fun y _ => lenR4 y) h Hol.out R4.nil x.a.toNat na 3 (by omega))
        have HEa4 := Lib.hid (fun (w2_ : World) (h : w2_.ownsRow (w.heap.size + 2) 80 16 (.slice (some ⟨g, 0, none⟩) k c') k ((outs R4.nil F G rs k).flatMap encR4)) => show w2_.cell? ⟨g, x.a.toNat * 16 + 4, none⟩ = some (.int .i64 ((outs R4.nil F G rs k).getD x.a.toNat R4.nil).f1) from by simpa [encR4] using own_at (enc := encR4) (sz := 16) (fun y _ => lenR4 y) h Hol.out R4.nil x.a.toNat na 4 (by omega))
        have HEa5 := Lib.hid (fun (w2_ : World) (h : w2_.ownsRow (w.heap.size + 2) 80 16 (.slice (some ⟨g, 0, none⟩) k c') k ((outs R4.nil F G rs k).flatMap encR4)) => show w2_.cell? ⟨g, x.a.toNat * 16 + 5, none⟩ = some (.int .i64 ((outs R4.nil F G rs k).getD x.a.toNat R4.nil).l1) from by simpa [encR4] using own_at (enc := encR4) (sz := 16) (fun y _ => lenR4 y) h Hol.out R4.nil x.a.toNat na 5 (by omega))
        have HEa6 := Lib.hid (fun (w2_ : World) (h : w2_.ownsRow (w.heap.size + 2) 80 16 (.slice (some ⟨g, 0, none⟩) k c') k ((outs R4.nil F G rs k).flatMap encR4)) => show w2_.cell? ⟨g, x.a.toNat * 16 + 6, none⟩ = some (.int .i64 ((outs R4.nil F G rs k).getD x.a.toNat R4.nil).m1) from by simpa [encR4] using own_at (enc := encR4) (sz := 16) (fun y _ => lenR4 y) h Hol.out R4.nil x.a.toNat na 6 (by omega))
        have HEa7 := Lib.hid (fun (w2_ : World) (h : w2_.ownsRow (w.heap.size + 2) 80 16 (.slice (some ⟨g, 0, none⟩) k c') k ((outs R4.nil F G rs k).flatMap encR4)) => show w2_.cell? ⟨g, x.a.toNat * 16 + 7, none⟩ = some (.int .i64 ((outs R4.nil F G rs k).getD x.a.toNat R4.nil).n1) from by simpa [encR4] using own_at (enc := encR4) (sz := 16) (fun y _ => lenR4 y) h Hol.out R4.nil x.a.toNat na 7 (by omega))
        have HEa8 := Lib.hid (fun (w2_ : World) (h : w2_.ownsRow (w.heap.size + 2) 80 16 (.slice (some ⟨g, 0, none⟩) k c') k ((outs R4.nil F G rs k).flatMap encR4)) => show w2_.cell? ⟨g, x.a.toNat * 16 + 8, none⟩ = some (.int .i64 ((outs R4.nil F G rs k).getD x.a.toNat R4.nil).f2) from by simpa [encR4] using own_at (enc := encR4) (sz := 16) (fun y _ => lenR4 y) h Hol.out R4.nil x.a.toNat na 8 (by omega))
        have HEa9 := Lib.hid (fun (w2_ : World) (h : w2_.ownsRow (w.heap.size + 2) 80 16 (.slice (some ⟨g, 0, none⟩) k c') k ((outs R4.nil F G rs k).flatMap encR4)) => show w2_.cell? ⟨g, x.a.toNat * 16 + 9, none⟩ = some (.int .i64 ((outs R4.nil F G rs k).getD x.a.toNat R4.nil).l2) from by simpa [encR4] using own_at (enc := encR4) (sz := 16) (fun y _ => lenR4 y) h Hol.out R4.nil x.a.toNat na 9 (by omega))
        have HEa10 := Lib.hid (fun (w2_ : World) (h : w2_.ownsRow (w.heap.size + 2) 80 16 (.slice (some ⟨g, 0, none⟩) k c') k ((outs R4.nil F G rs k).flatMap encR4)) => show w2_.cell? ⟨g, x.a.toNat * 16 + 10, none⟩ = some (.int .i64 ((outs R4.nil F G rs k).getD x.a.toNat R4.nil).m2) from by simpa [encR4] using own_at (enc := encR4) (sz := 16) (fun y _ => lenR4 y) h Hol.out R4.nil x.a.toNat na 10 (by omega))
        have HEa11 := Lib.hid (fun (w2_ : World) (h : w2_.ownsRow (w.heap.size + 2) 80 16 (.slice (some ⟨g, 0, none⟩) k c') k ((outs R4.nil F G rs k).flatMap encR4)) => show w2_.cell? ⟨g, x.a.toNat * 16 + 11, none⟩ = some (.int .i64 ((outs R4.nil F G rs k).getD x.a.toNat R4.nil).n2) from by simpa [encR4] using own_at (enc := encR4) (sz := 16) (fun y _ => lenR4 y) h Hol.out R4.nil x.a.toNat na 11 (by omega))
        have HEa12 := Lib.hid (fun (w2_ : World) (h : w2_.ownsRow (w.heap.size + 2) 80 16 (.slice (some ⟨g, 0, none⟩) k c') k ((outs R4.nil F G rs k).flatMap encR4)) => show w2_.cell? ⟨g, x.a.toNat * 16 + 12, none⟩ = some (.int .i64 ((outs R4.nil F G rs k).getD x.a.toNat R4.nil).f3) from by simpa [encR4] using own_at (enc := encR4) (sz := 16) (fun y _ => lenR4 y) h Hol.out R4.nil x.a.toNat na 12 (by omega))
        have HEa13 := Lib.hid (fun (w2_ : World) (h : w2_.ownsRow (w.heap.size + 2) 80 16 (.slice (some ⟨g, 0, none⟩) k c') k ((outs R4.nil F G rs k).flatMap encR4)) => show w2_.cell? ⟨g, x.a.toNat * 16 + 13, none⟩ = some (.int .i64 ((outs R4.nil F G rs k).getD x.a.toNat R4.nil).l3) from by simpa [encR4] using own_at (enc := encR4) (sz := 16) (fun y _ => lenR4 y) h Hol.out R4.nil x.a.toNat na 13 (by omega))
        have HEa14 := Lib.hid (fun (w2_ : World) (h : w2_.ownsRow (w.heap.size + 2) 80 16 (.slice (some ⟨g, 0, none⟩) k c') k ((outs R4.nil F G rs k).flatMap encR4)) => show w2_.cell? ⟨g, x.a.toNat * 16 + 14, none⟩ = some (.int .i64 ((outs R4.nil F G rs k).getD x.a.toNat R4.nil).m3) from by simpa [encR4] using own_at (enc := encR4) (sz := 16) (fun y _ => lenR4 y) h Hol.out R4.nil x.a.toNat na 14 (by omega))
        have HEa15 := Lib.hid (fun (w2_ : World) (h : w2_.ownsRow (w.heap.size + 2) 80 16 (.slice (some ⟨g, 0, none⟩) k c') k ((outs R4.nil F G rs k).flatMap encR4)) => show w2_.cell? ⟨g, x.a.toNat * 16 + 15, none⟩ = some (.int .i64 ((outs R4.nil F G rs k).getD x.a.toNat R4.nil).n3) from by simpa [encR4] using own_at (enc := encR4) (sz := 16) (fun y _ => lenR4 y) h Hol.out R4.nil x.a.toNat na 15 (by omega))
        have HEb0 := Lib.hid (fun (w2_ : World) (h : w2_.ownsRow (w.heap.size + 2) 80 16 (.slice (some ⟨g, 0, none⟩) k c') k ((outs R4.nil F G rs k).flatMap encR4)) => show w2_.cell? ⟨g, x.b.toNat * 16, none⟩ = some (.int .i64 ((outs R4.nil F G rs k).getD x.b.toNat R4.nil).f0) from by simpa [encR4] using own_at (enc := encR4) (sz := 16) (fun y _ => lenR4 y) h Hol.out R4.nil x.b.toNat nb 0 (by omega))
        have HEb1 := Lib.hid (fun (w2_ : World) (h : w2_.ownsRow (w.heap.size + 2) 80 16 (.slice (some ⟨g, 0, none⟩) k c') k ((outs R4.nil F G rs k).flatMap encR4)) => show w2_.cell? ⟨g, x.b.toNat * 16 + 1, none⟩ = some (.int .i64 ((outs R4.nil F G rs k).getD x.b.toNat R4.nil).l0) from by simpa [encR4] using own_at (enc := encR4) (sz := 16) (fun y _ => lenR4 y) h Hol.out R4.nil x.b.toNat nb 1 (by omega))
        have HEb2 := Lib.hid (fun (w2_ : World) (h : w2_.ownsRow (w.heap.size + 2) 80 16 (.slice (some ⟨g, 0, none⟩) k c') k ((outs R4.nil F G rs k).flatMap encR4)) => show w2_.cell? ⟨g, x.b.toNat * 16 + 2, none⟩ = some (.int .i64 ((outs R4.nil F G rs k).getD x.b.toNat R4.nil).m0) from by simpa [encR4] using own_at (enc := encR4) (sz := 16) (fun y _ => lenR4 y) h Hol.out R4.nil x.b.toNat nb 2 (by omega))
        have HEb3 := Lib.hid (fun (w2_ : World) (h : w2_.ownsRow (w.heap.size + 2) 80 16 (.slice (some ⟨g, 0, none⟩) k c') k ((outs R4.nil F G rs k).flatMap encR4)) => show w2_.cell? ⟨g, x.b.toNat * 16 + 3, none⟩ = some (.int .i64 ((outs R4.nil F G rs k).getD x.b.toNat R4.nil).n0) from by simpa [encR4] using own_at (enc := encR4) (sz := 16) (fun y _ => lenR4 y) h Hol.out R4.nil x.b.toNat nb 3 (by omega))
        have HEb4 := Lib.hid (fun (w2_ : World) (h : w2_.ownsRow (w.heap.size + 2) 80 16 (.slice (some ⟨g, 0, none⟩) k c') k ((outs R4.nil F G rs k).flatMap encR4)) => show w2_.cell? ⟨g, x.b.toNat * 16 + 4, none⟩ = some (.int .i64 ((outs R4.nil F G rs k).getD x.b.toNat R4.nil).f1) from by simpa [encR4] using own_at (enc := encR4) (sz := 16) (fun y _ => lenR4 y) h Hol.out R4.nil x.b.toNat nb 4 (by omega))
        have HEb5 := Lib.hid (fun (w2_ : World) (h : w2_.ownsRow (w.heap.size + 2) 80 16 (.slice (some ⟨g, 0, none⟩) k c') k ((outs R4.nil F G rs k).flatMap encR4)) => show w2_.cell? ⟨g, x.b.toNat * 16 + 5, none⟩ = some (.int .i64 ((outs R4.nil F G rs k).getD x.b.toNat R4.nil).l1) from by simpa [encR4] using own_at (enc := encR4) (sz := 16) (fun y _ => lenR4 y) h Hol.out R4.nil x.b.toNat nb 5 (by omega))
        have HEb6 := Lib.hid (fun (w2_ : World) (h : w2_.ownsRow (w.heap.size + 2) 80 16 (.slice (some ⟨g, 0, none⟩) k c') k ((outs R4.nil F G rs k).flatMap encR4)) => show w2_.cell? ⟨g, x.b.toNat * 16 + 6, none⟩ = some (.int .i64 ((outs R4.nil F G rs k).getD x.b.toNat R4.nil).m1) from by simpa [encR4] using own_at (enc := encR4) (sz := 16) (fun y _ => lenR4 y) h Hol.out R4.nil x.b.toNat nb 6 (by omega))
        have HEb7 := Lib.hid (fun (w2_ : World) (h : w2_.ownsRow (w.heap.size + 2) 80 16 (.slice (some ⟨g, 0, none⟩) k c') k ((outs R4.nil F G rs k).flatMap encR4)) => show w2_.cell? ⟨g, x.b.toNat * 16 + 7, none⟩ = some (.int .i64 ((outs R4.nil F G rs k).getD x.b.toNat R4.nil).n1) from by simpa [encR4] using own_at (enc := encR4) (sz := 16) (fun y _ => lenR4 y) h Hol.out R4.nil x.b.toNat nb 7 (by omega))
        have HEb8 := Lib.hid (fun (w2_ : World) (h : w2_.ownsRow (w.heap.size + 2) 80 16 (.slice (some ⟨g, 0, none⟩) k c') k ((outs R4.nil F G rs k).flatMap encR4)) => show w2_.cell? ⟨g, x.b.toNat * 16 + 8, none⟩ = some (.int .i64 ((outs R4.nil F G rs k).getD x.b.toNat R4.nil).f2) from by simpa [encR4] using own_at (enc := encR4) (sz := 16) (fun y _ => lenR4 y) h Hol.out R4.nil x.b.toNat nb 8 (by omega))
        have HEb9 := Lib.hid (fun (w2_ : World) (h : w2_.ownsRow (w.heap.size + 2) 80 16 (.slice (some ⟨g, 0, none⟩) k c') k ((outs R4.nil F G rs k).flatMap encR4)) => show w2_.cell? ⟨g, x.b.toNat * 16 + 9, none⟩ = some (.int .i64 ((outs R4.nil F G rs k).getD x.b.toNat R4.nil).l2) from by simpa [encR4] using own_at (enc := encR4) (sz := 16) (fun y _ => lenR4 y) h Hol.out R4.nil x.b.toNat nb 9 (by omega))
        have HEb10 := Lib.hid (fun (w2_ : World) (h : w2_.ownsRow (w.heap.size + 2) 80 16 (.slice (some ⟨g, 0, none⟩) k c') k ((outs R4.nil F G rs k).flatMap encR4)) => show w2_.cell? ⟨g, x.b.toNat * 16 + 10, none⟩ = some (.int .i64 ((outs R4.nil F G rs k).getD x.b.toNat R4.nil).m2) from by simpa [encR4] using own_at (enc := encR4) (sz := 16) (fun y _ => lenR4 y) h Hol.out R4.nil x.b.toNat nb 10 (by omega))
        have HEb11 := Lib.hid (fun (w2_ : World) (h : w2_.ownsRow (w.heap.size + 2) 80 16 (.slice (some ⟨g, 0, none⟩) k c') k ((outs R4.nil F G rs k).flatMap encR4)) => show w2_.cell? ⟨g, x.b.toNat * 16 + 11, none⟩ = some (.int .i64 ((outs R4.nil F G rs k).getD x.b.toNat R4.nil).n2) from by simpa [encR4] using own_at (enc := encR4) (sz := 16) (fun y _ => lenR4 y) h Hol.out R4.nil x.b.toNat nb 11 (by omega))
        have HEb12 := Lib.hid (fun (w2_ : World) (h : w2_.ownsRow (w.heap.size + 2) 80 16 (.slice (some ⟨g, 0, none⟩) k c') k ((outs R4.nil F G rs k).flatMap encR4)) => show w2_.cell? ⟨g, x.b.toNat * 16 + 12, none⟩ = some (.int .i64 ((outs R4.nil F G rs k).getD x.b.toNat R4.nil).f3) from by simpa [encR4] using own_at (enc := encR4) (sz := 16) (fun y _ => lenR4 y) h Hol.out R4.nil x.b.toNat nb 12 (by omega))
        have HEb13 := Lib.hid (fun (w2_ : World) (h : w2_.ownsRow (w.heap.size + 2) 80 16 (.slice (some ⟨g, 0, none⟩) k c') k ((outs R4.nil F G rs k).flatMap encR4)) => show w2_.cell? ⟨g, x.b.toNat * 16 + 13, none⟩ = some (.int .i64 ((outs R4.nil F G rs k).getD x.b.toNat R4.nil).l3) from by simpa [encR4] using own_at (enc := encR4) (sz := 16) (fun y _ => lenR4 y) h Hol.out R4.nil x.b.toNat nb 13 (by omega))
        have HEb14 := Lib.hid (fun (w2_ : World) (h : w2_.ownsRow (w.heap.size + 2) 80 16 (.slice (some ⟨g, 0, none⟩) k c') k ((outs R4.nil F G rs k).flatMap encR4)) => show w2_.cell? ⟨g, x.b.toNat * 16 + 14, none⟩ = some (.int .i64 ((outs R4.nil F G rs k).getD x.b.toNat R4.nil).m3) from by simpa [encR4] using own_at (enc := encR4) (sz := 16) (fun y _ => lenR4 y) h Hol.out R4.nil x.b.toNat nb 14 (by omega))
        have HEb15 := Lib.hid (fun (w2_ : World) (h : w2_.ownsRow (w.heap.size + 2) 80 16 (.slice (some ⟨g, 0, none⟩) k c') k ((outs R4.nil F G rs k).flatMap encR4)) => show w2_.cell? ⟨g, x.b.toNat * 16 + 15, none⟩ = some (.int .i64 ((outs R4.nil F G rs k).getD x.b.toNat R4.nil).n3) from by simpa [encR4] using own_at (enc := encR4) (sz := 16) (fun y _ => lenR4 y) h Hol.out R4.nil x.b.toNat nb 15 (by omega))
        have va0 := HEa0.out w1 own1.out
        have va1 := HEa1.out w1 own1.out
        have va2 := HEa2.out w1 own1.out
        have va3 := HEa3.out w1 own1.out
        have va4 := HEa4.out w1 own1.out
        have va5 := HEa5.out w1 own1.out
        have va6 := HEa6.out w1 own1.out
        have va7 := HEa7.out w1 own1.out
        have va8 := HEa8.out w1 own1.out
        have va9 := HEa9.out w1 own1.out
        have va10 := HEa10.out w1 own1.out
        have va11 := HEa11.out w1 own1.out
        have va12 := HEa12.out w1 own1.out
        have va13 := HEa13.out w1 own1.out
        have va14 := HEa14.out w1 own1.out
        have va15 := HEa15.out w1 own1.out
        have vb0 := HEb0.out w1 own1.out
        have vb1 := HEb1.out w1 own1.out
        have vb2 := HEb2.out w1 own1.out
        have vb3 := HEb3.out w1 own1.out
        have vb4 := HEb4.out w1 own1.out
        have vb5 := HEb5.out w1 own1.out
        have vb6 := HEb6.out w1 own1.out
        have vb7 := HEb7.out w1 own1.out
        have vb8 := HEb8.out w1 own1.out
        have vb9 := HEb9.out w1 own1.out
        have vb10 := HEb10.out w1 own1.out
        have vb11 := HEb11.out w1 own1.out
        have vb12 := HEb12.out w1 own1.out
        have vb13 := HEb13.out w1 own1.out
        have vb14 := HEb14.out w1 own1.out
        have vb15 := HEb15.out w1 own1.out
        have hgw : some wr.heap.size ≠ (Value.slice (some ⟨g, 0, none⟩) k c').ownBlock := by intro e; have h1 : g < wr.heap.size := (hown.out.lt g rfl).2; have h2 : wr.heap.size = g := Option.some.inj e; omega
        generalize (outs R4.nil F G rs k).getD x.a.toNat R4.nil = y1 at *
        generalize (outs R4.nil F G rs k).getD x.b.toNat R4.nil = y2 at *
        generalize G y1 y2 x = y at *
        clear h0
        have i1 : x.a < (k : Int) := ha1
        have i2 : x.b < (k : Int) := hb1
        have bw1 := Lib.hid (hbS.out.trans (b1.mono (by omega)))
        go_wp2_with fail
        go_region_held3 (fun w' => w'.cell? ⟨wr.heap.size, 0, none⟩ = some (.string x.l) ∧ w'.cell? ⟨wr.heap.size, 1, none⟩ = some (.int .i64 x.a) ∧ w'.cell? ⟨wr.heap.size, 2, none⟩ = some (.int .i64 x.b) ∧ w'.cell? ⟨g, x.a.toNat * 16, none⟩ = some (.int .i64 y1.f0) ∧ w'.cell? ⟨g, x.a.toNat * 16 + 1, none⟩ = some (.int .i64 y1.l0) ∧ w'.cell? ⟨g, x.a.toNat * 16 + 2, none⟩ = some (.int .i64 y1.m0) ∧ w'.cell? ⟨g, x.a.toNat * 16 + 3, none⟩ = some (.int .i64 y1.n0) ∧ w'.cell? ⟨g, x.a.toNat * 16 + 4, none⟩ = some (.int .i64 y1.f1) ∧ w'.cell? ⟨g, x.a.toNat * 16 + 5, none⟩ = some (.int .i64 y1.l1) ∧ w'.cell? ⟨g, x.a.toNat * 16 + 6, none⟩ = some (.int .i64 y1.m1) ∧ w'.cell? ⟨g, x.a.toNat * 16 + 7, none⟩ = some (.int .i64 y1.n1) ∧ w'.cell? ⟨g, x.a.toNat * 16 + 8, none⟩ = some (.int .i64 y1.f2) ∧ w'.cell? ⟨g, x.a.toNat * 16 + 9, none⟩ = some (.int .i64 y1.l2) ∧ w'.cell? ⟨g, x.a.toNat * 16 + 10, none⟩ = some (.int .i64 y1.m2) ∧ w'.cell? ⟨g, x.a.toNat * 16 + 11, none⟩ = some (.int .i64 y1.n2) ∧ w'.cell? ⟨g, x.a.toNat * 16 + 12, none⟩ = some (.int .i64 y1.f3) ∧ w'.cell? ⟨g, x.a.toNat * 16 + 13, none⟩ = some (.int .i64 y1.l3) ∧ w'.cell? ⟨g, x.a.toNat * 16 + 14, none⟩ = some (.int .i64 y1.m3) ∧ w'.cell? ⟨g, x.a.toNat * 16 + 15, none⟩ = some (.int .i64 y1.n3) ∧ w'.cell? ⟨g, x.b.toNat * 16, none⟩ = some (.int .i64 y2.f0) ∧ w'.cell? ⟨g, x.b.toNat * 16 + 1, none⟩ = some (.int .i64 y2.l0) ∧ w'.cell? ⟨g, x.b.toNat * 16 + 2, none⟩ = some (.int .i64 y2.m0) ∧ w'.cell? ⟨g, x.b.toNat * 16 + 3, none⟩ = some (.int .i64 y2.n0) ∧ w'.cell? ⟨g, x.b.toNat * 16 + 4, none⟩ = some (.int .i64 y2.f1) ∧ w'.cell? ⟨g, x.b.toNat * 16 + 5, none⟩ = some (.int .i64 y2.l1) ∧ w'.cell? ⟨g, x.b.toNat * 16 + 6, none⟩ = some (.int .i64 y2.m1) ∧ w'.cell? ⟨g, x.b.toNat * 16 + 7, none⟩ = some (.int .i64 y2.n1) ∧ w'.cell? ⟨g, x.b.toNat * 16 + 8, none⟩ = some (.int .i64 y2.f2) ∧ w'.cell? ⟨g, x.b.toNat * 16 + 9, none⟩ = some (.int .i64 y2.l2) ∧ w'.cell? ⟨g, x.b.toNat * 16 + 10, none⟩ = some (.int .i64 y2.m2) ∧ w'.cell? ⟨g, x.b.toNat * 16 + 11, none⟩ = some (.int .i64 y2.n2) ∧ w'.cell? ⟨g, x.b.toNat * 16 + 12, none⟩ = some (.int .i64 y2.f3) ∧ w'.cell? ⟨g, x.b.toNat * 16 + 13, none⟩ = some (.int .i64 y2.l3) ∧ w'.cell? ⟨g, x.b.toNat * 16 + 14, none⟩ = some (.int .i64 y2.m3) ∧ w'.cell? ⟨g, x.b.toNat * 16 + 15, none⟩ = some (.int .i64 y2.n3))
          (first | exact ⟨t0, t1, t2, t3, t4, t5, t6, t7, t8, t9, t10, t11, t12, t13, t14, t15, t16, t17, t18, t19, t20, t21, t22, t23, t24, t25, t26, t27, t28, t29, t30, t31, t32, t33, t34⟩ | exact ⟨s0, s1, s2, s3, s4, s5, s6, s7, s8, s9, s10, s11, s12, s13, s14, s15, s16, s17, s18, s19, s20, s21, s22, s23, s24, s25, s26, s27, s28, s29, s30, s31, s32, s33, s34⟩ | go_keep)
          (first
            | (refine (HG2.out _ bw1.out.drew).mono ?_
               rintro e w2 ⟨rfl, hb2⟩
               have hz2 : wr.heap.size < w2.heap.size := Nat.lt_of_lt_of_le hz1 hb2.size
               have s0 : w2.cell? ⟨wr.heap.size, 0, none⟩ = some (.string x.l) := (hb2.cell (p := ⟨wr.heap.size, 0, none⟩) hz1).trans d0
               have s1 : w2.cell? ⟨wr.heap.size, 1, none⟩ = some (.int .i64 x.a) := (hb2.cell (p := ⟨wr.heap.size, 1, none⟩) hz1).trans d1
               have s2 : w2.cell? ⟨wr.heap.size, 2, none⟩ = some (.int .i64 x.b) := (hb2.cell (p := ⟨wr.heap.size, 2, none⟩) hz1).trans d2
               have s3 : w2.cell? ⟨g, x.a.toNat * 16, none⟩ = some (.int .i64 y1.f0) := (hb2.cell (p := ⟨g, x.a.toNat * 16, none⟩) hg1).trans va0
               have s4 : w2.cell? ⟨g, x.a.toNat * 16 + 1, none⟩ = some (.int .i64 y1.l0) := (hb2.cell (p := ⟨g, x.a.toNat * 16 + 1, none⟩) hg1).trans va1
               have s5 : w2.cell? ⟨g, x.a.toNat * 16 + 2, none⟩ = some (.int .i64 y1.m0) := (hb2.cell (p := ⟨g, x.a.toNat * 16 + 2, none⟩) hg1).trans va2
               have s6 : w2.cell? ⟨g, x.a.toNat * 16 + 3, none⟩ = some (.int .i64 y1.n0) := (hb2.cell (p := ⟨g, x.a.toNat * 16 + 3, none⟩) hg1).trans va3
               have s7 : w2.cell? ⟨g, x.a.toNat * 16 + 4, none⟩ = some (.int .i64 y1.f1) := (hb2.cell (p := ⟨g, x.a.toNat * 16 + 4, none⟩) hg1).trans va4
               have s8 : w2.cell? ⟨g, x.a.toNat * 16 + 5, none⟩ = some (.int .i64 y1.l1) := (hb2.cell (p := ⟨g, x.a.toNat * 16 + 5, none⟩) hg1).trans va5
               have s9 : w2.cell? ⟨g, x.a.toNat * 16 + 6, none⟩ = some (.int .i64 y1.m1) := (hb2.cell (p := ⟨g, x.a.toNat * 16 + 6, none⟩) hg1).trans va6
               have s10 : w2.cell? ⟨g, x.a.toNat * 16 + 7, none⟩ = some (.int .i64 y1.n1) := (hb2.cell (p := ⟨g, x.a.toNat * 16 + 7, none⟩) hg1).trans va7
               have s11 : w2.cell? ⟨g, x.a.toNat * 16 + 8, none⟩ = some (.int .i64 y1.f2) := (hb2.cell (p := ⟨g, x.a.toNat * 16 + 8, none⟩) hg1).trans va8
               have s12 : w2.cell? ⟨g, x.a.toNat * 16 + 9, none⟩ = some (.int .i64 y1.l2) := (hb2.cell (p := ⟨g, x.a.toNat * 16 + 9, none⟩) hg1).trans va9
               have s13 : w2.cell? ⟨g, x.a.toNat * 16 + 10, none⟩ = some (.int .i64 y1.m2) := (hb2.cell (p := ⟨g, x.a.toNat * 16 + 10, none⟩) hg1).trans va10
               have s14 : w2.cell? ⟨g, x.a.toNat * 16 + 11, none⟩ = some (.int .i64 y1.n2) := (hb2.cell (p := ⟨g, x.a.toNat * 16 + 11, none⟩) hg1).trans va11
               have s15 : w2.cell? ⟨g, x.a.toNat * 16 + 12, none⟩ = some (.int .i64 y1.f3) := (hb2.cell (p := ⟨g, x.a.toNat * 16 + 12, none⟩) hg1).trans va12
               have s16 : w2.cell? ⟨g, x.a.toNat * 16 + 13, none⟩ = some (.int .i64 y1.l3) := (hb2.cell (p := ⟨g, x.a.toNat * 16 + 13, none⟩) hg1).trans va13
               have s17 : w2.cell? ⟨g, x.a.toNat * 16 + 14, none⟩ = some (.int .i64 y1.m3) := (hb2.cell (p := ⟨g, x.a.toNat * 16 + 14, none⟩) hg1).trans va14
               have s18 : w2.cell? ⟨g, x.a.toNat * 16 + 15, none⟩ = some (.int .i64 y1.n3) := (hb2.cell (p := ⟨g, x.a.toNat * 16 + 15, none⟩) hg1).trans va15
               have s19 : w2.cell? ⟨g, x.b.toNat * 16, none⟩ = some (.int .i64 y2.f0) := (hb2.cell (p := ⟨g, x.b.toNat * 16, none⟩) hg1).trans vb0
               have s20 : w2.cell? ⟨g, x.b.toNat * 16 + 1, none⟩ = some (.int .i64 y2.l0) := (hb2.cell (p := ⟨g, x.b.toNat * 16 + 1, none⟩) hg1).trans vb1
               have s21 : w2.cell? ⟨g, x.b.toNat * 16 + 2, none⟩ = some (.int .i64 y2.m0) := (hb2.cell (p := ⟨g, x.b.toNat * 16 + 2, none⟩) hg1).trans vb2
               have s22 : w2.cell? ⟨g, x.b.toNat * 16 + 3, none⟩ = some (.int .i64 y2.n0) := (hb2.cell (p := ⟨g, x.b.toNat * 16 + 3, none⟩) hg1).trans vb3
               have s23 : w2.cell? ⟨g, x.b.toNat * 16 + 4, none⟩ = some (.int .i64 y2.f1) := (hb2.cell (p := ⟨g, x.b.toNat * 16 + 4, none⟩) hg1).trans vb4
               have s24 : w2.cell? ⟨g, x.b.toNat * 16 + 5, none⟩ = some (.int .i64 y2.l1) := (hb2.cell (p := ⟨g, x.b.toNat * 16 + 5, none⟩) hg1).trans vb5
               have s25 : w2.cell? ⟨g, x.b.toNat * 16 + 6, none⟩ = some (.int .i64 y2.m1) := (hb2.cell (p := ⟨g, x.b.toNat * 16 + 6, none⟩) hg1).trans vb6
               have s26 : w2.cell? ⟨g, x.b.toNat * 16 + 7, none⟩ = some (.int .i64 y2.n1) := (hb2.cell (p := ⟨g, x.b.toNat * 16 + 7, none⟩) hg1).trans vb7
               have s27 : w2.cell? ⟨g, x.b.toNat * 16 + 8, none⟩ = some (.int .i64 y2.f2) := (hb2.cell (p := ⟨g, x.b.toNat * 16 + 8, none⟩) hg1).trans vb8
               have s28 : w2.cell? ⟨g, x.b.toNat * 16 + 9, none⟩ = some (.int .i64 y2.l2) := (hb2.cell (p := ⟨g, x.b.toNat * 16 + 9, none⟩) hg1).trans vb9
               have s29 : w2.cell? ⟨g, x.b.toNat * 16 + 10, none⟩ = some (.int .i64 y2.m2) := (hb2.cell (p := ⟨g, x.b.toNat * 16 + 10, none⟩) hg1).trans vb10
               have s30 : w2.cell? ⟨g, x.b.toNat * 16 + 11, none⟩ = some (.int .i64 y2.n2) := (hb2.cell (p := ⟨g, x.b.toNat * 16 + 11, none⟩) hg1).trans vb11
               have s31 : w2.cell? ⟨g, x.b.toNat * 16 + 12, none⟩ = some (.int .i64 y2.f3) := (hb2.cell (p := ⟨g, x.b.toNat * 16 + 12, none⟩) hg1).trans vb12
               have s32 : w2.cell? ⟨g, x.b.toNat * 16 + 13, none⟩ = some (.int .i64 y2.l3) := (hb2.cell (p := ⟨g, x.b.toNat * 16 + 13, none⟩) hg1).trans vb13
               have s33 : w2.cell? ⟨g, x.b.toNat * 16 + 14, none⟩ = some (.int .i64 y2.m3) := (hb2.cell (p := ⟨g, x.b.toNat * 16 + 14, none⟩) hg1).trans vb14
               have s34 : w2.cell? ⟨g, x.b.toNat * 16 + 15, none⟩ = some (.int .i64 y2.n3) := (hb2.cell (p := ⟨g, x.b.toNat * 16 + 15, none⟩) hg1).trans vb15)
            | (refine step_push (by rfl) _ _ _ (by rfl) (w.heap.size + 2) 80 16 128 elemR4 encR4 (some ⟨g, 0, none⟩) k c' (outs R4.nil F G rs k) (by rfl) ((own_next own1.out.drew hb2).alloc _) w2.heap.size y #[.int .i64 y.f0, .int .i64 y.l0, .int .i64 y.m0, .int .i64 y.n0, .int .i64 y.f1, .int .i64 y.l1, .int .i64 y.m1, .int .i64 y.n1, .int .i64 y.f2, .int .i64 y.l2, .int .i64 y.m2, .int .i64 y.n2, .int .i64 y.f3, .int .i64 y.l3, .int .i64 y.m3, .int .i64 y.n3] 80 (0, 0) (by rfl) (heap_alloc_new _ _) rfl rfl (by simp [encR4, Value.oneCell']) (by omega) (by omega) (by unfold maxLen; omega) (Nat.le_trans (Nat.le_trans (by omega) (Nat.le_of_lt hz2)) (by simp)) ?_
               intro A5 c5 w5 own5 hg5 old5
               have t0 : w5.cell? ⟨wr.heap.size, 0, none⟩ = some (.string x.l) := far_alloc hg5 s0 hz2 hgw
               have t1 : w5.cell? ⟨wr.heap.size, 1, none⟩ = some (.int .i64 x.a) := far_alloc hg5 s1 hz2 hgw
               have t2 : w5.cell? ⟨wr.heap.size, 2, none⟩ = some (.int .i64 x.b) := far_alloc hg5 s2 hz2 hgw
               have t3 : w5.cell? ⟨g, x.a.toNat * 16, none⟩ = some (.int .i64 y1.f0) := HEa0.out w5 old5
               have t4 : w5.cell? ⟨g, x.a.toNat * 16 + 1, none⟩ = some (.int .i64 y1.l0) := HEa1.out w5 old5
               have t5 : w5.cell? ⟨g, x.a.toNat * 16 + 2, none⟩ = some (.int .i64 y1.m0) := HEa2.out w5 old5
               have t6 : w5.cell? ⟨g, x.a.toNat * 16 + 3, none⟩ = some (.int .i64 y1.n0) := HEa3.out w5 old5
               have t7 : w5.cell? ⟨g, x.a.toNat * 16 + 4, none⟩ = some (.int .i64 y1.f1) := HEa4.out w5 old5
               have t8 : w5.cell? ⟨g, x.a.toNat * 16 + 5, none⟩ = some (.int .i64 y1.l1) := HEa5.out w5 old5
               have t9 : w5.cell? ⟨g, x.a.toNat * 16 + 6, none⟩ = some (.int .i64 y1.m1) := HEa6.out w5 old5
               have t10 : w5.cell? ⟨g, x.a.toNat * 16 + 7, none⟩ = some (.int .i64 y1.n1) := HEa7.out w5 old5
               have t11 : w5.cell? ⟨g, x.a.toNat * 16 + 8, none⟩ = some (.int .i64 y1.f2) := HEa8.out w5 old5
               have t12 : w5.cell? ⟨g, x.a.toNat * 16 + 9, none⟩ = some (.int .i64 y1.l2) := HEa9.out w5 old5
               have t13 : w5.cell? ⟨g, x.a.toNat * 16 + 10, none⟩ = some (.int .i64 y1.m2) := HEa10.out w5 old5
               have t14 : w5.cell? ⟨g, x.a.toNat * 16 + 11, none⟩ = some (.int .i64 y1.n2) := HEa11.out w5 old5
               have t15 : w5.cell? ⟨g, x.a.toNat * 16 + 12, none⟩ = some (.int .i64 y1.f3) := HEa12.out w5 old5
               have t16 : w5.cell? ⟨g, x.a.toNat * 16 + 13, none⟩ = some (.int .i64 y1.l3) := HEa13.out w5 old5
               have t17 : w5.cell? ⟨g, x.a.toNat * 16 + 14, none⟩ = some (.int .i64 y1.m3) := HEa14.out w5 old5
               have t18 : w5.cell? ⟨g, x.a.toNat * 16 + 15, none⟩ = some (.int .i64 y1.n3) := HEa15.out w5 old5
               have t19 : w5.cell? ⟨g, x.b.toNat * 16, none⟩ = some (.int .i64 y2.f0) := HEb0.out w5 old5
               have t20 : w5.cell? ⟨g, x.b.toNat * 16 + 1, none⟩ = some (.int .i64 y2.l0) := HEb1.out w5 old5
               have t21 : w5.cell? ⟨g, x.b.toNat * 16 + 2, none⟩ = some (.int .i64 y2.m0) := HEb2.out w5 old5
               have t22 : w5.cell? ⟨g, x.b.toNat * 16 + 3, none⟩ = some (.int .i64 y2.n0) := HEb3.out w5 old5
               have t23 : w5.cell? ⟨g, x.b.toNat * 16 + 4, none⟩ = some (.int .i64 y2.f1) := HEb4.out w5 old5
               have t24 : w5.cell? ⟨g, x.b.toNat * 16 + 5, none⟩ = some (.int .i64 y2.l1) := HEb5.out w5 old5
               have t25 : w5.cell? ⟨g, x.b.toNat * 16 + 6, none⟩ = some (.int .i64 y2.m1) := HEb6.out w5 old5
               have t26 : w5.cell? ⟨g, x.b.toNat * 16 + 7, none⟩ = some (.int .i64 y2.n1) := HEb7.out w5 old5
               have t27 : w5.cell? ⟨g, x.b.toNat * 16 + 8, none⟩ = some (.int .i64 y2.f2) := HEb8.out w5 old5
               have t28 : w5.cell? ⟨g, x.b.toNat * 16 + 9, none⟩ = some (.int .i64 y2.l2) := HEb9.out w5 old5
               have t29 : w5.cell? ⟨g, x.b.toNat * 16 + 10, none⟩ = some (.int .i64 y2.m2) := HEb10.out w5 old5
               have t30 : w5.cell? ⟨g, x.b.toNat * 16 + 11, none⟩ = some (.int .i64 y2.n2) := HEb11.out w5 old5
               have t31 : w5.cell? ⟨g, x.b.toNat * 16 + 12, none⟩ = some (.int .i64 y2.f3) := HEb12.out w5 old5
               have t32 : w5.cell? ⟨g, x.b.toNat * 16 + 13, none⟩ = some (.int .i64 y2.l3) := HEb13.out w5 old5
               have t33 : w5.cell? ⟨g, x.b.toNat * 16 + 14, none⟩ = some (.int .i64 y2.m3) := HEb14.out w5 old5
               have t34 : w5.cell? ⟨g, x.b.toNat * 16 + 15, none⟩ = some (.int .i64 y2.n3) := HEb15.out w5 old5))
        go_wp2_with fail
        go_roundw
        case rel =>
          refine ⟨k + 1, A5, c5, by go_num, rfl, by omega, Lib.hid ?_, ?_⟩
          · rw [Hst.out, hfs.out]; exact own5
          · exact ((b1.drew.trans (hb2.mono (by simp; omega))).alloc (by omega) _).grown hg5 (by simp; omega) (own_ge own1.out)
        case measure => simp [intOf]; omega
      · obtain ⟨xl, xa, xb⟩ := x
        simp only at hxl hxa hxb c0 c1 c2
        subst hxl hxa hxb
        obtain ⟨hl0, hl1⟩ := letB_num hcc
        have hF := HF.out k _ gx (by show (1 : Nat) ≠ 0; omega)
        have hfs := Lib.hid (show fStep R4.nil F G (outs R4.nil F G rs k) ⟨⟨#[cc]⟩, 0, 0⟩ = F (letN ⟨#[cc]⟩) from rfl)
        have hln := Lib.hid (show ((letN ⟨#[cc]⟩ : Nat) : Int) = (cc.toNat : Int) - 97 by rw [letN_one]; omega)
        simp only at hF
        rw [hln.out] at hF
        generalize F (letN ⟨#[cc]⟩) = y at *
        have HF2 := Lib.hid hF; clear hF gx hcc
        go_wp2_with fail
        refine (isPair_any ⟨⟨#[cc]⟩, 0, 0⟩ false _ (decide_eq_false (show ¬ (1 : Nat) = 0 by omega))).mono ?_
        rintro e w1 ⟨rfl, hb1'⟩
        obtain ⟨d0, d1, d2⟩ := ((Blk.new wr _ _).next hb1').three
        have b1 := (hb.alloc (by omega) _).trans (hb1'.mono (by simp; omega))
        have own1 := Lib.hid (own_next (hown.out.alloc _) hb1')
        have hz1 := b1.size
        go_wp2_with fail
        refine calls_arg (b := (cc.toNat : Int) - 97) (by show ((cc.toNat : Int) - 97) % 256 = _; omega) ?_
        refine (HF2.out _ (hbS.out.trans (b1.mono (by omega)))).mono ?_
        rintro e w2 ⟨rfl, hb2⟩
        have b2 := b1.trans (hb2.mono (by omega))
        have hz2 := b2.size
        have own2 := Lib.hid (own_next own1.out hb2)
        go_wp2_with
          (at_builtin
           refine wpList_pushG rfl _ _ _ rfl (w.heap.size + 2) 80 16 128 elemR4 encR4 _ k c' (outs R4.nil F G rs k) rfl (own2.out.alloc _) w2.heap.size y #[.int .i64 y.f0, .int .i64 y.l0, .int .i64 y.m0, .int .i64 y.n0, .int .i64 y.f1, .int .i64 y.l1, .int .i64 y.m1, .int .i64 y.n1, .int .i64 y.f2, .int .i64 y.l2, .int .i64 y.m2, .int .i64 y.n2, .int .i64 y.f3, .int .i64 y.l3, .int .i64 y.m3, .int .i64 y.n3] 80 (0, 0) rfl (heap_alloc_new _ _) rfl rfl (by simp [encR4, Value.oneCell']) (by omega) (by omega) (by unfold maxLen; omega) (by simp; omega) ?_
           intro A9 c9 w9 own9 hg9 hat9
           have O9 := Lib.hid own9
           have hb9 := Lib.hid ((b2.alloc (by omega) _).grown hg9 (by simp; omega) (own_ge own2.out)); clear own9 hat9)
        go_roundw
        case rel =>
          refine ⟨k + 1, A9, c9, by go_num, rfl, by omega, Lib.hid ?_, hb9.out⟩
          rw [Hst.out, hfs.out]; exact O9.out
        case measure => simp [intOf]; omega
    · have hkn : k = n := by omega
      have Hall := Lib.hid (outs_all R4.nil F G rs k (by rw [hl.out]; omega))
      have Hol := Lib.hid (outs_len R4.nil F G rs k (by rw [hl.out]; omega))
      have BNr := BN.out.below hb (by omega)
      have n0 : wr.cell? ⟨w.heap.size + 1, 0, none⟩ = some (.int .i64 z.f0) := BNr.cell 0
      have n1 : wr.cell? ⟨w.heap.size + 1, 1, none⟩ = some (.int .i64 z.l0) := BNr.cell 1
      have n2 : wr.cell? ⟨w.heap.size + 1, 2, none⟩ = some (.int .i64 z.m0) := BNr.cell 2
      have n3 : wr.cell? ⟨w.heap.size + 1, 3, none⟩ = some (.int .i64 z.n0) := BNr.cell 3
      have n4 : wr.cell? ⟨w.heap.size + 1, 4, none⟩ = some (.int .i64 z.f1) := BNr.cell 4
      have n5 : wr.cell? ⟨w.heap.size + 1, 5, none⟩ = some (.int .i64 z.l1) := BNr.cell 5
      have n6 : wr.cell? ⟨w.heap.size + 1, 6, none⟩ = some (.int .i64 z.m1) := BNr.cell 6
      have n7 : wr.cell? ⟨w.heap.size + 1, 7, none⟩ = some (.int .i64 z.n1) := BNr.cell 7
      have n8 : wr.cell? ⟨w.heap.size + 1, 8, none⟩ = some (.int .i64 z.f2) := BNr.cell 8
      have n9 : wr.cell? ⟨w.heap.size + 1, 9, none⟩ = some (.int .i64 z.l2) := BNr.cell 9
      have n10 : wr.cell? ⟨w.heap.size + 1, 10, none⟩ = some (.int .i64 z.m2) := BNr.cell 10
      have n11 : wr.cell? ⟨w.heap.size + 1, 11, none⟩ = some (.int .i64 z.n2) := BNr.cell 11
      have n12 : wr.cell? ⟨w.heap.size + 1, 12, none⟩ = some (.int .i64 z.f3) := BNr.cell 12
      have n13 : wr.cell? ⟨w.heap.size + 1, 13, none⟩ = some (.int .i64 z.l3) := BNr.cell 13
      have n14 : wr.cell? ⟨w.heap.size + 1, 14, none⟩ = some (.int .i64 z.m3) := BNr.cell 14
      have n15 : wr.cell? ⟨w.heap.size + 1, 15, none⟩ = some (.int .i64 z.n3) := BNr.cell 15
      have zn := BNr.lt
      by_cases h0 : k = 0
      · subst h0
        have e0 := Lib.hid (show foldAll R4.nil F G z rs = [z] by unfold foldAll; rw [hl.out, if_pos hkn.symm])
        have e1 := Lib.hid (show outs R4.nil F G rs 0 = [] by unfold outs; simp [foldG])
        have own1 : wr.ownsRow (w.heap.size + 2) 80 16 (.slice A' 0 c') 0 (([] : List R4).flatMap encR4) := by rw [← e1.out]; exact hown.out
        have Own1 := Lib.hid own1; clear own1 hkn
        go_wp2_with
          (at_builtin
           refine wpList_pushG rfl _ _ _ rfl (w.heap.size + 2) 80 16 128 elemR4 encR4 _ 0 c' [] rfl (Own1.out.alloc _) wr.heap.size z #[.int .i64 z.f0, .int .i64 z.l0, .int .i64 z.m0, .int .i64 z.n0, .int .i64 z.f1, .int .i64 z.l1, .int .i64 z.m1, .int .i64 z.n1, .int .i64 z.f2, .int .i64 z.l2, .int .i64 z.m2, .int .i64 z.n2, .int .i64 z.f3, .int .i64 z.l3, .int .i64 z.m3, .int .i64 z.n3] 80 (0, 0) rfl (heap_alloc_new _ _) rfl rfl (by simp [encR4, Value.oneCell']) (by omega) (by omega) (by unfold maxLen; omega) (by simp; omega) ?_
           intro A9 c9 w9 own9 hg9 hat9
           have O9 := Lib.hid own9
           have hb9 := Lib.hid ((hb.alloc (by omega) _).grown hg9 (by simp; omega) (own_ge Own1.out)); clear own9 hat9)
        go_ret
        rw [e0.out]
        exact ⟨A9, c9, rfl, O9.out.mono (by omega), hbS.out.trans (hb9.out.mono (by omega))⟩
      · have e0 := Lib.hid (show foldAll R4.nil F G z rs = outs R4.nil F G rs k by unfold foldAll; rw [hl.out, if_neg (by omega), Hall.out])
        have h1 : ((k : Int) == 0) = false := by simp; omega
        clear h0 hkn
        go_wp2_with fail
        go_ret
        rw [e0.out]
        refine ⟨A', c', ret_slice Hol.out.symm, ?_, hbw.out⟩
        rw [Hol.out]
        exact hown.out.mono (by omega)
end Go.Proofs.Ytfanphhlagjkdaa


/-
  The last of what is made of a grammar.
-/
namespace Go.Proofs.Ytfanphhlagjkdaa

def tup2 (a b : Int) : Value := .tuple #[.int .i64 a, .int .i64 b]
theorem foldAll_len {α : Type} (d : α) (F : Nat → α) (G : α → α → Fac → α) (z : α) (rs : List Fac) : 1 ≤ (foldAll d F G z rs).length ∧ (foldAll d F G z rs).length ≤ rs.length + 1 := by
  unfold foldAll
  split
  · simp
  · rw [foldG_len]; simp; omega
/-- the last of what is made -/
theorem foldAll_top {α : Type} (d : α) (F : Nat → α) (G : α → α → Fac → α) (z : α) (rs : List Fac) : (foldAll d F G z rs).getD ((foldAll d F G z rs).length - 1) d = if rs.length = 0 then z else (full d F G rs).getD (rs.length - 1) d := by
  unfold foldAll
  split
  · rfl
  · have := full_len d F G (rs := rs)
    unfold full at this ⊢
    rw [this]
theorem foldAll_pos {α : Type} (d : α) (F : Nat → α) (G : α → α → Fac → α) (z : α) {rs : List Fac} (h : 0 < rs.length) : foldAll d F G z rs = full d F G rs := by
  unfold foldAll
  rw [if_neg (by omega)]
end Go.Proofs.Ytfanphhlagjkdaa


/-
  The longest runs of the letters: the plain part.
-/
namespace Go.Proofs.Ytfanphhlagjkdaa

/-- the runs of one letter -/
structure Rc where
  f : Int
  l : Int
  m : Int
  n : Int
  deriving Inhabited, DecidableEq
def R4.at_ (y : R4) : Nat → Rc
  | 0 => ⟨y.f0, y.l0, y.m0, y.n0⟩
  | 1 => ⟨y.f1, y.l1, y.m1, y.n1⟩
  | 2 => ⟨y.f2, y.l2, y.m2, y.n2⟩
  | _ => ⟨y.f3, y.l3, y.m3, y.n3⟩
def R4.mk4 (a b c d : Rc) : R4 := ⟨a.f, a.l, a.m, a.n, b.f, b.l, b.m, b.n, c.f, c.l, c.m, c.n, d.f, d.l, d.m, d.n⟩
theorem R4.mk4_at (t : Nat → Rc) {k : Nat} (h : k < 4) : (R4.mk4 (t 0) (t 1) (t 2) (t 3)).at_ k = t k := by
  match k, h with
  | 0, _ => rfl
  | 1, _ => rfl
  | 2, _ => rfl
  | 3, _ => rfl
def lrU (l k : Nat) : Rc := if k = l then ⟨1, 1, 1, 1⟩ else ⟨0, 0, 0, 1⟩
def lrF (l : Nat) : R4 := .mk4 (lrU l 0) (lrU l 1) (lrU l 2) (lrU l 3)
def lrJ (x y : Rc) : Rc := ⟨if x.f = x.n then x.f + y.f else x.f, if y.l = y.n then y.l + x.l else y.l, max (max x.m y.m) (x.l + y.f), x.n + y.n⟩
def lrG (x y : R4) (_ : Fac) : R4 := .mk4 (lrJ (x.at_ 0) (y.at_ 0)) (lrJ (x.at_ 1) (y.at_ 1)) (lrJ (x.at_ 2) (y.at_ 2)) (lrJ (x.at_ 3) (y.at_ 3))
theorem lrF_at (l : Nat) {k : Nat} (h : k < 4) : (lrF l).at_ k = lrU l k := R4.mk4_at (lrU l) h
theorem lrG_at (x y : R4) (r : Fac) {k : Nat} (h : k < 4) : (lrG x y r).at_ k = lrJ (x.at_ k) (y.at_ k) := R4.mk4_at (fun k => lrJ (x.at_ k) (y.at_ k)) h
abbrev lrAll (rs : List Fac) : List R4 := full R4.nil lrF lrG rs
/-- within bounds: no run is longer than the word -/
def RcB (n : Int) (x : Rc) : Prop := 0 ≤ x.f ∧ x.f ≤ n ∧ 0 ≤ x.l ∧ x.l ≤ n ∧ 0 ≤ x.m ∧ x.m ≤ n ∧ x.n = n
theorem lrJ_b {a b : Int} {x y : Rc} (ha : 1 ≤ a) (hb : 1 ≤ b) (hx : RcB a x) (hy : RcB b y) : RcB (a + b) (lrJ x y) := by
  obtain ⟨x0, x1, x2, x3, x4, x5, x6⟩ := hx
  obtain ⟨y0, y1, y2, y3, y4, y5, y6⟩ := hy
  unfold lrJ RcB
  simp only
  refine ⟨?_, ?_, ?_, ?_, ?_, ?_, ?_⟩
  · split <;> omega
  · split <;> omega
  · split <;> omega
  · split <;> omega
  · omega
  · omega
  · omega
theorem lr_bound {rs : List Fac} {ls : List Int} (hls : gLens rs [] = some ls) {k : Nat} (hk : k < rs.length) : ∀ l, l < 4 → RcB (ls.getD k 0) (((lrAll rs).getD k R4.nil).at_ l) := by
  refine full_ind R4.nil lrF lrG (wf_of hls) (fun k x => ∀ l, l < 4 → RcB (ls.getD k 0) (x.at_ l)) (fun k r hr h => ?_) (fun k r a b hr h0' h1 h2 h3 h4 ha hb => ?_) k hk
  · intro l hl
    have hn : r.l.size ≠ 0 := by
      obtain ⟨c, _, e⟩ := letT_one h
      rw [e]; show (1 : Nat) ≠ 0; omega
    rw [lens_let hls hr hn, lrF_at _ hl]
    unfold lrU RcB
    split <;> simp
  · intro l hl
    have hk' : k < rs.length := (List.getElem?_eq_some_iff.1 hr).1
    have ba := lens_bound hls (i := r.a.toNat) (by omega)
    have bb := lens_bound hls (i := r.b.toNat) (by omega)
    rw [lens_pair hls hr h0', lrG_at _ _ _ hl]
    exact lrJ_b ba.1 bb.1 (ha l hl) (hb l hl)
/-- the runs of one letter, as the reference has them -/
structure Sr where
  f : Int
  b : Int
  m : Int
  deriving Inhabited, DecidableEq
def Sr.nil : Sr := ⟨0, 0, 0⟩
def srF (l : Nat) (c : Nat) : Sr := if c = l then ⟨1, 1, 1⟩ else ⟨0, 0, 0⟩
def srG (ls : List Int) (x y : Sr) (r : Fac) : Sr := ⟨if x.f = ls.getD r.a.toNat 0 then x.f + y.f else x.f, if y.b = ls.getD r.b.toNat 0 then y.b + x.b else y.b, max (max x.m y.m) (x.b + y.f)⟩
abbrev srAll (ls : List Int) (l : Nat) (rs : List Fac) : List Sr := full Sr.nil (srF l) (srG ls) rs
theorem lr_sr {rs : List Fac} {ls : List Int} (hls : gLens rs [] = some ls) {l : Nat} (hl : l < 4) :
    ∀ k, k < rs.length → ((lrAll rs).getD k R4.nil).at_ l = ⟨((srAll ls l rs).getD k Sr.nil).f, ((srAll ls l rs).getD k Sr.nil).b, ((srAll ls l rs).getD k Sr.nil).m, ls.getD k 0⟩ := by
  intro k
  induction k using Nat.strongRecOn with
  | ind k ih =>
    intro hk
    have gx : rs[k]? = some (rs[k]'(by omega)) := List.getElem?_eq_getElem _
    have hwf := wf_of hls
    rcases hwf k _ gx with ⟨h0', ha0, ha1, hb0, hb1⟩ | ⟨c, hc, hxl, _⟩
    · have e1 := ih (rs[k]'(by omega)).a.toNat (by omega) (by omega)
      have e2 := ih (rs[k]'(by omega)).b.toNat (by omega) (by omega)
      rw [full_pair R4.nil _ _ hwf gx h0', full_pair Sr.nil _ _ hwf gx h0', lens_pair hls gx h0', lrG_at _ _ _ hl, e1, e2]
      rfl
    · have h0' : (rs[k]'(by omega)).l.size ≠ 0 := by rw [hxl]; show (1 : Nat) ≠ 0; omega
      rw [full_let R4.nil _ _ gx h0', full_let Sr.nil _ _ gx h0', lens_let hls gx h0', lrF_at _ hl]
      unfold lrU srF
      by_cases h : l = letN (rs[k]'(by omega)).l
      · rw [if_pos h, if_pos h.symm]
      · rw [if_neg h, if_neg (fun e => h e.symm)]
/-- what is told -/
def lrTop (rs : List Fac) : List Int := if rs.length = 0 then [0, 0, 0, 0] else (List.range 4).map fun l => (((lrAll rs).getD (rs.length - 1) R4.nil).at_ l).m
end Go.Proofs.Ytfanphhlagjkdaa


/-
  The longest runs of a word's letters, and its runs.
-/
namespace Go.Proofs.Ytfanphhlagjkdaa

def rc0 : Rc := ⟨0, 0, 0, 0⟩
/-- the longest run of letter l, letter by letter -/
def lrW (l : Nat) (u : List Nat) : Rc := u.foldl (fun x k => lrJ x (lrU k l)) rc0
structure RcOk (x : Rc) : Prop where
  f0 : 0 ≤ x.f
  fn : x.f ≤ x.n
  l0 : 0 ≤ x.l
  ln : x.l ≤ x.n
  m0 : 0 ≤ x.m
  fm : x.f ≤ x.m
  lm : x.l ≤ x.m
  all : x.f = x.n ↔ x.l = x.n
theorem lrU_ok (k l : Nat) : RcOk (lrU k l) ∧ (lrU k l).n = 1 := by
  unfold lrU
  split
  · exact ⟨⟨by decide, by decide, by decide, by decide, by decide, by decide, by decide, by simp⟩, rfl⟩
  · exact ⟨⟨by decide, by decide, by decide, by decide, by decide, by decide, by decide, by simp⟩, rfl⟩
theorem lrJ_ok {x y : Rc} (hx : RcOk x) (hy : RcOk y) : RcOk (lrJ x y) := by
  obtain ⟨a1, a2, a3, a4, a5, a6, a7, a8⟩ := hx
  obtain ⟨b1, b2, b3, b4, b5, b6, b7, b8⟩ := hy
  unfold lrJ
  refine ⟨?_, ?_, ?_, ?_, ?_, ?_, ?_, ?_⟩
  all_goals simp only
  · split <;> omega
  · split <;> omega
  · split <;> omega
  · split <;> omega
  · omega
  · split <;> omega
  · split <;> omega
  · split <;> split <;> omega
theorem lrJ_assoc {x y z : Rc} (hx : RcOk x) (hy : RcOk y) (hz : RcOk z) : lrJ (lrJ x y) z = lrJ x (lrJ y z) := by
  obtain ⟨a1, a2, a3, a4, a5, a6, a7, a8⟩ := hx
  obtain ⟨b1, b2, b3, b4, b5, b6, b7, b8⟩ := hy
  obtain ⟨c1, c2, c3, c4, c5, c6, c7, c8⟩ := hz
  obtain ⟨xf, xl, xm, xn⟩ := x
  obtain ⟨yf, yl, ym, yn⟩ := y
  obtain ⟨zf, zl, zm, zn⟩ := z
  simp only at a1 a2 a3 a4 a5 a6 a7 a8 b1 b2 b3 b4 b5 b6 b7 b8 c1 c2 c3 c4 c5 c6 c7 c8
  simp only [lrJ, Rc.mk.injEq]
  refine ⟨?_, ?_, ?_, ?_⟩
  · (repeat' split) <;> omega
  · (repeat' split) <;> omega
  · (repeat' split) <;> omega
  · omega
theorem lrW_snoc (l : Nat) (u : List Nat) (k : Nat) : lrW l (u ++ [k]) = lrJ (lrW l u) (lrU k l) := by unfold lrW; rw [List.foldl_append]; rfl
theorem snoc_ind {P : List Nat → Prop} (h0 : P []) (h1 : ∀ u k, P u → P (u ++ [k])) (u : List Nat) : P u := by
  have : ∀ n (u : List Nat), u.length = n → P u := fun n => by
    induction n with
    | zero => intro u hu; rw [List.length_eq_zero_iff.1 hu]; exact h0
    | succ n ih =>
      intro u hu
      have hne : u ≠ [] := by intro e; rw [e] at hu; simp at hu
      rw [← List.dropLast_concat_getLast hne]
      exact h1 _ _ (ih _ (by simp; omega))
  exact this _ u rfl
theorem lrW_ok (l : Nat) (u : List Nat) : RcOk (lrW l u) ∧ (lrW l u).n = u.length := by
  refine snoc_ind (P := fun u => RcOk (lrW l u) ∧ (lrW l u).n = u.length) ?_ ?_ u
  · have e : lrW l [] = rc0 := rfl
    rw [e]
    exact ⟨⟨by decide, by decide, by decide, by decide, by decide, by decide, by decide, by simp [rc0]⟩, rfl⟩
  · intro u k ⟨h1, h2⟩
    rw [lrW_snoc]
    obtain ⟨h3, h4⟩ := lrU_ok k l
    refine ⟨lrJ_ok h1 h3, ?_⟩
    show (lrW l u).n + (lrU k l).n = _
    rw [h2, h4]; simp
theorem lrJ_nil {x : Rc} (hx : RcOk x) : lrJ x rc0 = x := by
  obtain ⟨a1, a2, a3, a4, a5, a6, a7, a8⟩ := hx
  obtain ⟨xf, xl, xm, xn⟩ := x
  simp only at a1 a2 a3 a4 a5 a6 a7 a8
  simp only [lrJ, rc0, Rc.mk.injEq, if_true]
  refine ⟨?_, ?_, ?_, ?_⟩
  · split <;> omega
  · omega
  · omega
  · omega
theorem lrW_app (l : Nat) (u : List Nat) : ∀ v : List Nat, lrW l (u ++ v) = lrJ (lrW l u) (lrW l v) := by
  intro v
  refine snoc_ind (P := fun v => lrW l (u ++ v) = lrJ (lrW l u) (lrW l v)) ?_ ?_ v
  · rw [List.append_nil]
    exact (lrJ_nil (lrW_ok l u).1).symm
  · intro v k ih
    rw [← List.append_assoc, lrW_snoc, ih, lrW_snoc, lrJ_assoc (lrW_ok l u).1 (lrW_ok l v).1 (lrU_ok k l).1]
theorem rc_nil_j (k l : Nat) : lrJ rc0 (lrU k l) = lrU k l := by
  unfold lrU
  split <;> simp [lrJ, rc0] <;> rfl
theorem lr_word {rs : List Fac} (hwf : WF rs) {l : Nat} (hl : l < 4) {k : Nat} (hk : k < rs.length) : ((lrAll rs).getD k R4.nil).at_ l = lrW l ((wds rs).getD k []) := by
  have := full_hom (d := R4.nil) (F := lrF) (G := lrG) hwf (fun u => R4.mk4 (lrW 0 u) (lrW 1 u) (lrW 2 u) (lrW 3 u)) (fun k _ => by
      unfold lrF
      have : ∀ l, lrW l [k] = lrU k l := fun l => rc_nil_j k l
      rw [this, this, this, this]) (fun u v r _ _ _ _ => by
      unfold lrG
      rw [R4.mk4_at (fun l => lrW l u) (by omega), R4.mk4_at (fun l => lrW l u) (by omega), R4.mk4_at (fun l => lrW l u) (by omega), R4.mk4_at (fun l => lrW l u) (by omega),
        R4.mk4_at (fun l => lrW l v) (by omega), R4.mk4_at (fun l => lrW l v) (by omega), R4.mk4_at (fun l => lrW l v) (by omega), R4.mk4_at (fun l => lrW l v) (by omega)]
      simp only [lrW_app]) k hk
  rw [show (lrAll rs).getD k R4.nil = _ from this]
  exact R4.mk4_at (fun l => lrW l ((wds rs).getD k [])) hl
theorem lrTop_word {rs : List Fac} (hwf : WF rs) : lrTop rs = (List.range 4).map fun l => (lrW l (wdN rs)).m := by
  unfold lrTop wdN
  split
  · rename_i h
    rw [if_pos (List.eq_nil_of_length_eq_zero h)]; rfl
  · rename_i h
    rw [if_neg (by intro e; rw [e] at h; simp at h)]
    apply List.map_congr_left
    intro l hl
    rw [lr_word hwf (by simpa using hl) (by omega)]
/-- the runs of a word: letter and count -/
def runsW : List Nat → List (Nat × Nat)
  | [] => []
  | x :: r => match runsW r with
    | [] => [(x, 1)]
    | (y, n) :: t => if x = y then (y, n + 1) :: t else (x, 1) :: (y, n) :: t
end Go.Proofs.Ytfanphhlagjkdaa


/-
  How often each rule is met: the plain part.
-/
namespace Go.Proofs.Ytfanphhlagjkdaa

def sumTo (f : Nat → Int) : Nat → Int
  | 0 => 0
  | i + 1 => sumTo f i + f i
theorem sumTo_congr {f g : Nat → Int} : ∀ {i : Nat}, (∀ j, j < i → f j = g j) → sumTo f i = sumTo g i
  | 0, _ => rfl
  | i + 1, h => by
    show sumTo f i + f i = sumTo g i + g i
    rw [sumTo_congr (fun j hj => h j (by omega)), h i (by omega)]
theorem sumTo_upd {f g : Nat → Int} (a : Nat) : ∀ {i : Nat}, a < i → (∀ j, j < i → j ≠ a → f j = g j) → sumTo f i = sumTo g i + (f a - g a)
  | 0, h, _ => absurd h (by omega)
  | i + 1, h, hj => by
    show sumTo f i + f i = sumTo g i + g i + (f a - g a)
    by_cases he : a = i
    · subst he
      rw [sumTo_congr (i := a) (fun j h' => hj j (by omega) (by omega))]
      omega
    · rw [sumTo_upd a (i := i) (by omega) (fun j h1 h2 => hj j (by omega) h2), hj i (by omega) (fun e => he e.symm)]
      omega
theorem sumTo_diff {f g : Nat → Int} {i : Nat} : ∀ {n : Nat}, i ≤ n → (∀ j, i ≤ j → j < n → f j = g j) → sumTo f n - sumTo f i = sumTo g n - sumTo g i
  | 0, h, _ => by
    obtain rfl : i = 0 := by omega
    omega
  | n + 1, h, hj => by
    by_cases he : i = n + 1
    · subst he; omega
    · have := sumTo_diff (f := f) (g := g) (i := i) (n := n) (by omega) (fun j h1 h2 => hj j h1 (by omega))
      have h2 := hj n (by omega) (by omega)
      show sumTo f n + f n - sumTo f i = sumTo g n + g n - sumTo g i
      omega
theorem sumTo_add (f g : Nat → Int) : ∀ i, sumTo (fun j => f j + g j) i = sumTo f i + sumTo g i
  | 0 => rfl
  | i + 1 => by
    show sumTo (fun j => f j + g j) i + (f i + g i) = sumTo f i + f i + (sumTo g i + g i)
    rw [sumTo_add f g i]; omega
theorem sumTo_zero : ∀ {f : Nat → Int} {i : Nat}, (∀ j, j < i → f j = 0) → sumTo f i = 0
  | f, 0, _ => rfl
  | f, i + 1, h => by
    show sumTo f i + f i = 0
    rw [sumTo_zero (fun j hj => h j (by omega)), h i (by omega)]; rfl
theorem sumTo_mem {f : Nat → Int} : ∀ {i : Nat}, (∀ j, j < i → 0 ≤ f j) → 0 ≤ sumTo f i ∧ ∀ j, j < i → f j ≤ sumTo f i
  | 0, _ => ⟨by simp [sumTo], fun j hj => absurd hj (by omega)⟩
  | i + 1, h => by
    have ih := sumTo_mem (f := f) (i := i) (fun j hj => h j (by omega))
    have h1 := h i (by omega)
    refine ⟨by show 0 ≤ sumTo f i + f i; omega, fun j hj => ?_⟩
    show f j ≤ sumTo f i + f i
    by_cases he : j = i
    · subst he; omega
    · have := ih.2 j (by omega); omega

def usePair (us : List Int) (a b i : Nat) : List Int :=
  (us.set a (us.getD a 0 + us.getD i 0)).set b ((us.set a (us.getD a 0 + us.getD i 0)).getD b 0 + us.getD i 0)
def usStep (rs : List Fac) (us : List Int) (i : Nat) : List Int := if (rs.getD i default).l.size = 0 then usePair us (rs.getD i default).a.toNat (rs.getD i default).b.toNat i else us
def useGo (rs : List Fac) : Nat → List Int → List Int
  | 0, us => us
  | i + 1, us => useGo rs i (usStep rs us i)
def us0 (n : Nat) : List Int := (List.replicate n 0).set (n - 1) 1
/-- how often each rule is met -/
def usesOf (rs : List Fac) : List Int := useGo rs rs.length (us0 rs.length)

theorem getD_set (us : List Int) (a j : Nat) (v : Int) (ha : a < us.length) : (us.set a v).getD j 0 = if j = a then v else us.getD j 0 := by
  rw [List.getD_eq_getElem?_getD, List.getD_eq_getElem?_getD, List.getElem?_set]
  by_cases h : a = j
  · subst h; simp [ha]
  · rw [if_neg h, if_neg (fun e => h e.symm)]
theorem use0_at (n j : Nat) (hn : 0 < n) : (us0 n).getD j 0 = if j = n - 1 then 1 else 0 := by
  unfold us0
  rw [getD_set _ _ _ _ (by simp; omega)]
  congr 1
  rw [List.getD_eq_getElem?_getD, List.getElem?_replicate]
  split <;> rfl
/-- a letter's part, a pair's part -/
def useL (rs : List Fac) (us : List Int) (j : Nat) : Int := if (rs.getD j default).l.size = 0 then 0 else us.getD j 0
def useP (rs : List Fac) (us : List Int) (j : Nat) : Int := if (rs.getD j default).l.size = 0 then us.getD j 0 else 0
theorem ite0_mul (c : Prop) [Decidable c] (x y : Int) : (if c then x else 0) * y = if c then x * y else 0 := by split <;> simp
structure UInv (rs : List Fac) (ls : List Int) (m : Nat) (us : List Int) : Prop where
  len : us.length = rs.length
  le : m ≤ rs.length
  nn : ∀ j, 0 ≤ us.getD j 0
  bd : ∀ j, us.getD j 0 ≤ 1000000000000000
  w : sumTo (fun j => us.getD j 0 * ls.getD j 0) m + (sumTo (useL rs us) rs.length - sumTo (useL rs us) m) = lastI ls
  c : sumTo (fun j => us.getD j 0) m + (sumTo (useL rs us) rs.length - sumTo (useL rs us) m) = 1 + (sumTo (useP rs us) rs.length - sumTo (useP rs us) m)
theorem fac_getD {rs : List Fac} {i : Nat} {r : Fac} (h : rs[i]? = some r) : rs.getD i default = r := by rw [List.getD_eq_getElem?_getD, h]; rfl
theorem usePair_len (us : List Int) (a b i : Nat) : (usePair us a b i).length = us.length := by unfold usePair; simp
theorem usePair_at {us : List Int} {a b i : Nat} (ha : a < us.length) (hb : b < us.length) (j : Nat) :
    (usePair us a b i).getD j 0 = us.getD j 0 + (if j = a then us.getD i 0 else 0) + (if j = b then us.getD i 0 else 0) := by
  unfold usePair
  rw [getD_set _ _ _ _ (by simpa using hb)]
  have q := fun j => getD_set us a j (us.getD a 0 + us.getD i 0) ha
  rw [q, q]
  by_cases h1 : j = b
  · by_cases h2 : j = a
    · rw [if_pos h1, if_pos h1, if_pos h2, ← h1, if_pos h2, h2]
    · rw [if_pos h1, if_pos h1, if_neg h2, ← h1, if_neg h2]; omega
  · by_cases h2 : j = a
    · rw [if_neg h1, if_neg h1, if_pos h2, if_pos h2, h2]; omega
    · rw [if_neg h1, if_neg h1, if_neg h2, if_neg h2]; omega
theorem uinv_start {rs : List Fac} {ls : List Int} (hll : ls.length = rs.length) (h0 : 0 < rs.length) : UInv rs ls rs.length (us0 rs.length) := by
  have h := fun j => use0_at rs.length j h0
  have z : ∀ (f : Nat → Int), sumTo (fun j => if j = rs.length - 1 then f j else 0) rs.length = f (rs.length - 1) := fun f => by
    rw [sumTo_upd (g := fun _ => 0) (rs.length - 1) (by omega) (fun j _ hne => by simp [hne]), sumTo_zero (fun _ _ => rfl)]
    simp
  refine ⟨by simp [us0], Nat.le_refl _, fun j => ?_, fun j => ?_, ?_, ?_⟩
  · rw [h]; split <;> omega
  · rw [h]; split <;> omega
  · have e : sumTo (fun j => (us0 rs.length).getD j 0 * ls.getD j 0) rs.length = lastI ls := by
      rw [sumTo_congr (g := fun j => if j = rs.length - 1 then ls.getD j 0 else 0) (fun j _ => by rw [h]; split <;> simp), z]
      unfold lastI; rw [hll]
    omega
  · have e : sumTo (fun j => (us0 rs.length).getD j 0) rs.length = 1 := by
      rw [sumTo_congr (g := fun j => if j = rs.length - 1 then (fun _ => (1 : Int)) j else 0) (fun j _ => by rw [h]), z]
    omega
theorem lens_last_le {ls : List Int} {rs : List Fac} (hls : gLens rs [] = some ls) (h0 : 0 < rs.length) (hll : ls.length = rs.length) : lastI ls ≤ 1000000000000000 := by
  unfold lastI
  have := lens_bound hls (i := ls.length - 1) (by omega)
  omega
theorem UInv.step {rs : List Fac} {ls : List Int} {i : Nat} {us : List Int} (hls : gLens rs [] = some ls) (hll : ls.length = rs.length) (h : UInv rs ls (i + 1) us) : UInv rs ls i (usStep rs us i) := by
  have hi : i < rs.length := h.le
  obtain ⟨r, hr⟩ : ∃ r, rs[i]? = some r := ⟨_, List.getElem?_eq_getElem hi⟩
  have hd := fac_getD hr
  have hlast := lens_last_le hls (by omega) hll
  have lnn : ∀ j, 0 ≤ useL rs us j := fun j => by unfold useL; split <;> first | omega | exact h.nn j
  unfold usStep
  rw [hd]
  have w := h.w
  have c := h.c
  have w1 : sumTo (fun j => us.getD j 0 * ls.getD j 0) (i + 1) = sumTo (fun j => us.getD j 0 * ls.getD j 0) i + us.getD i 0 * ls.getD i 0 := rfl
  have c1 : sumTo (fun j => us.getD j 0) (i + 1) = sumTo (fun j => us.getD j 0) i + us.getD i 0 := rfl
  have l1 : sumTo (useL rs us) (i + 1) = sumTo (useL rs us) i + useL rs us i := rfl
  have p1 : sumTo (useP rs us) (i + 1) = sumTo (useP rs us) i + useP rs us i := rfl
  by_cases h0 : r.l.size = 0
  · rw [if_pos h0]
    have lp := lens_pair hls hr h0
    rcases wf_of hls i r hr with ⟨_, ha0, ha1, hb0, hb1⟩ | ⟨cc, _, hxl, _⟩
    case inr => rw [hxl] at h0; exact absurd h0 (show ¬ (1 : Nat) = 0 by omega)
    have ha : r.a.toNat < us.length := by have := h.len; omega
    have hb : r.b.toNat < us.length := by have := h.len; omega
    have at_ := usePair_at (i := i) ha hb
    have eL : useL rs us i = 0 := by unfold useL; rw [hd, if_pos h0]
    have eP : useP rs us i = us.getD i 0 := by unfold useP; rw [hd, if_pos h0]
    -- what is left below i
    have wa : ∀ (f : Nat → Int), sumTo (fun j => (us.getD j 0 + (if j = r.a.toNat then us.getD i 0 else 0) + (if j = r.b.toNat then us.getD i 0 else 0)) * f j) i = sumTo (fun j => us.getD j 0 * f j) i + us.getD i 0 * f r.a.toNat + us.getD i 0 * f r.b.toNat := by
      intro f
      rw [sumTo_congr (g := fun j => (us.getD j 0 * f j + (if j = r.a.toNat then us.getD i 0 * f j else 0)) + (if j = r.b.toNat then us.getD i 0 * f j else 0)) (fun j _ => by
        rw [Int.add_mul, Int.add_mul, ite0_mul, ite0_mul])]
      rw [sumTo_add, sumTo_add]
      have z : ∀ a, a < i → sumTo (fun j => if j = a then us.getD i 0 * f j else 0) i = us.getD i 0 * f a := fun a ha => by
        rw [sumTo_upd (g := fun _ => 0) a ha (fun j _ hne => by simp [hne]), sumTo_zero (fun _ _ => rfl)]
        simp
      rw [z _ (by omega), z _ (by omega)]
    have wf := wa (fun j => ls.getD j 0)
    have wc := wa (fun _ => 1)
    simp only [Int.mul_one] at wc
    have ee : ∀ j, i ≤ j → (usePair us r.a.toNat r.b.toNat i).getD j 0 = us.getD j 0 := fun j hj => by rw [at_, if_neg (by omega), if_neg (by omega)]; simp
    have dl : sumTo (useL rs (usePair us r.a.toNat r.b.toNat i)) rs.length - sumTo (useL rs (usePair us r.a.toNat r.b.toNat i)) i = sumTo (useL rs us) rs.length - sumTo (useL rs us) i :=
      sumTo_diff (by omega) (fun j h1 _ => by unfold useL; rw [ee j h1])
    have dp : sumTo (useP rs (usePair us r.a.toNat r.b.toNat i)) rs.length - sumTo (useP rs (usePair us r.a.toNat r.b.toNat i)) i = sumTo (useP rs us) rs.length - sumTo (useP rs us) i :=
      sumTo_diff (by omega) (fun j h1 _ => by unfold useP; rw [ee j h1])
    have nn' : ∀ j, 0 ≤ (usePair us r.a.toNat r.b.toNat i).getD j 0 := fun j => by
      rw [at_]
      have := h.nn j; have := h.nn i
      split <;> split <;> omega
    have W : sumTo (fun j => (usePair us r.a.toNat r.b.toNat i).getD j 0 * ls.getD j 0) i + (sumTo (useL rs (usePair us r.a.toNat r.b.toNat i)) rs.length - sumTo (useL rs (usePair us r.a.toNat r.b.toNat i)) i) = lastI ls := by
      rw [dl, sumTo_congr (fun j _ => by rw [at_]), wf]
      rw [lp, Int.mul_add] at w1
      omega
    refine ⟨by rw [usePair_len]; exact h.len, by omega, nn', fun j => ?_, W, ?_⟩
    · by_cases hj : j < i
      · have hm := (sumTo_mem (f := fun j => (usePair us r.a.toNat r.b.toNat i).getD j 0 * ls.getD j 0) (i := i) (fun j hj => Int.mul_nonneg (nn' j) (by have := lens_bound hls (i := j) (by omega); omega))).2 j hj
        have hd2 := sumTo_mem (f := useL rs us) (i := rs.length) (fun j _ => lnn j)
        have hd3 : 0 ≤ sumTo (useL rs us) rs.length - sumTo (useL rs us) i := by
          have e : sumTo (useL rs us) rs.length - sumTo (useL rs us) i = sumTo (fun j => if j < i then 0 else useL rs us j) rs.length - sumTo (fun j => if j < i then 0 else useL rs us j) i :=
            sumTo_diff (by omega) (fun j h1 h2 => by rw [if_neg (by omega)])
          rw [e, sumTo_zero (i := i) (fun j hj => by rw [if_pos hj])]
          have := (sumTo_mem (f := fun j => if j < i then 0 else useL rs us j) (i := rs.length) (fun j _ => by split <;> first | omega | exact lnn j)).1
          omega
        have hb := lens_bound hls (i := j) (by omega)
        have hn := nn' j
        have hle : (usePair us r.a.toNat r.b.toNat i).getD j 0 ≤ (usePair us r.a.toNat r.b.toNat i).getD j 0 * ls.getD j 0 := by
          have := Int.mul_le_mul_of_nonneg_left hb.1 hn
          omega
        rw [dl] at W
        omega
      · rw [ee j (by omega)]
        exact h.bd j
    · rw [dl, dp, sumTo_congr (g := fun j => us.getD j 0 + (if j = r.a.toNat then us.getD i 0 else 0) + (if j = r.b.toNat then us.getD i 0 else 0)) (fun j _ => at_ j), wc]
      omega
  · rw [if_neg h0]
    have lt := lens_let hls hr h0
    have eL : useL rs us i = us.getD i 0 := by unfold useL; rw [hd, if_neg h0]
    have eP : useP rs us i = 0 := by unfold useP; rw [hd, if_neg h0]
    rw [lt, Int.mul_one] at w1
    exact ⟨h.len, by omega, h.nn, h.bd, by omega, by omega⟩
theorem useGo_inv {rs : List Fac} {ls : List Int} (hls : gLens rs [] = some ls) (hll : ls.length = rs.length) : ∀ (m : Nat) (us : List Int), UInv rs ls m us → UInv rs ls 0 (useGo rs m us)
  | 0, _, h => h
  | m + 1, us, h => useGo_inv hls hll m _ (h.step hls hll)
theorem uses_inv {rs : List Fac} {ls : List Int} (hls : gLens rs [] = some ls) (hll : ls.length = rs.length) (h0 : 0 < rs.length) : UInv rs ls 0 (usesOf rs) := useGo_inv hls hll _ _ (uinv_start hll h0)
/-- all pairs together are met once less than there are letters -/
theorem uses_pairs {rs : List Fac} {ls : List Int} (hls : gLens rs [] = some ls) (hll : ls.length = rs.length) (h0 : 0 < rs.length) : sumTo (useP rs (usesOf rs)) rs.length = lastI ls - 1 := by
  have h := uses_inv hls hll h0
  have w := h.w
  have c := h.c
  simp only [sumTo] at w c
  omega
end Go.Proofs.Ytfanphhlagjkdaa


/-
  Rows of numbers that are filled one by one; the bytes of a plain word.
-/
namespace Go.Proofs.Ytfanphhlagjkdaa
open Go.RowKit

theorem okW_b {p : ByteArray} (h : okW p = true) : p.size ≤ 2000 ∧ ∀ i (hi : i < p.size), letB (p[i]'hi) = true := by
  simp only [okW, Bool.and_eq_true, decide_eq_true_eq, List.all_eq_true] at h
  refine ⟨h.1, fun i hi => h.2 _ ?_⟩
  exact List.mem_of_getElem? (at_byte p i hi)
theorem made_at {n j : Nat} (h : j < n) : (madeCells (Value.int .i64 0).cells (n * 1))[j]? = some (.int .i64 0) := by
  rw [Array.getElem?_eq_getElem (by rw [size_madeCells]; simpa [Value.cells] using h)]
  simp [madeCells, Value.cells, Nat.mod_one]
theorem fillc {f : Nat → Int} {cs : Array Value} {n k : Nat} (hs : cs.size = n) (hk : k < n) (hc : ∀ j, j < n → cs[j]? = some (.int .i64 (if j < k then f j else 0))) (v : Int) (hv : f k = v) :
    (cs.setIfInBounds k (.int .i64 v)).size = n ∧ ∀ j, j < n → (cs.setIfInBounds k (.int .i64 v))[j]? = some (.int .i64 (if j < k + 1 then f j else 0)) := by
  refine ⟨by simpa using hs, fun j hj => ?_⟩
  by_cases h : j = k
  · subst h
    rw [Array.getElem?_setIfInBounds_self_of_lt (by omega), if_pos (by omega), hv]
  · rw [Array.getElem?_setIfInBounds_ne (by omega), hc j hj]
    by_cases h2 : j < k
    · rw [if_pos h2, if_pos (by omega)]
    · rw [if_neg h2, if_neg (by omega)]
theorem keepc {f : Nat → Int} {cs : Array Value} {n k : Nat} (hk : k < n) (hc : ∀ j, j < n → cs[j]? = some (.int .i64 (if j < k then f j else 0))) (hv : f k = 0) :
    ∀ j, j < n → cs[j]? = some (.int .i64 (if j < k + 1 then f j else 0)) := by
  intro j hj
  rw [hc j hj]
  by_cases h : j = k
  · subst h
    rw [if_neg (by omega), if_pos (by omega), hv]
  · by_cases h2 : j < k
    · rw [if_pos h2, if_pos (by omega)]
    · rw [if_neg h2, if_neg (by omega)]
theorem Rd.n64 {w : World} {B n : Nat} {A : Option Addr} {xs : List Int} {k : Nat} (h : Rd w B A n 1 intE xs) (hk : k < n) :
    ∃ b o, A = some ⟨b, o, none⟩ ∧ b < B ∧ w.cell? ⟨b, o + k, none⟩ = some (.int .i64 (xs.getD k 0)) := by
  obtain ⟨b, o, hA, hb, x, hx, hc⟩ := h.at_ hk
  refine ⟨b, o, hA, hb, ?_⟩
  have := hc 0 _ rfl
  rw [List.getD_eq_getElem?_getD, hx]
  simpa using this
end Go.Proofs.Ytfanphhlagjkdaa


/-
  A new slice of four numbers.
-/
namespace Go.Proofs.Ytfanphhlagjkdaa
open Go.RowKit

theorem info_i64 : (Try.prog.info? 2).map (fun i => (i.zero, i.size, i.bytes)) = some (some (.int .i64 0), 1, 8) := by kernel_rfl
theorem made4 : madeCells (Value.int .i64 0).cells (4 * 1) = #[.int .i64 0, .int .i64 0, .int .i64 0, .int .i64 0] := by
  apply Array.ext
  · simp [size_madeCells]
  · intro i h1 h2
    have h3 : i < 4 := h2
    match i, h3 with
    | 0, _ => simp [madeCells, Value.cells]
    | 1, _ => simp [madeCells, Value.cells]
    | 2, _ => simp [madeCells, Value.cells]
    | 3, _ => simp [madeCells, Value.cells]
theorem make4 (W : World) : (Instr.makeSlice 43 (.int .i64 4) (.int .i64 4)).run Try.prog W = .ok (.slice (some ⟨W.heap.size, 0, none⟩) 4 4) (W.alloc (.cells #[.int .i64 0, .int .i64 0, .int .i64 0, .int .i64 0] 2)) := by
  obtain ⟨i0, hi, hz0, hz1, hz2⟩ := info_parts info_i64
  have hmk := run_make_rowN (P := Try.prog) 43 2 i0 _ Try.underlying43 hi hz0 .i64 .i64 4 4 (Nat.le_refl _) (by rw [hz2]; omega) (by omega) W
  rw [hz1, made4] at hmk
  exact hmk
end Go.Proofs.Ytfanphhlagjkdaa


/-
  How often each rule is met: in the program and in the reference.
-/
namespace Go.Proofs.Ytfanphhlagjkdaa
open Go.RowKit

def arrI (us : List Int) : Array Value := (us.map fun z => Value.int .i64 z).toArray
theorem arrI_size (us : List Int) : (arrI us).size = us.length := by simp [arrI]
theorem arrI_at {us : List Int} {j : Nat} (h : j < us.length) : (arrI us)[j]? = some (.int .i64 (us.getD j 0)) := by
  simp [arrI, List.getElem?_eq_getElem h, List.getD_eq_getElem?_getD]
theorem arrI_set (us : List Int) (a : Nat) (v : Int) : (arrI us).setIfInBounds a (.int .i64 v) = arrI (us.set a v) := by
  simp [arrI, List.map_set]
theorem made_arrI (n : Nat) : madeCells #[Value.int .i64 0] n = arrI (List.replicate n 0) := by
  apply Array.ext_getElem?
  intro i
  by_cases h : i < n
  · rw [arrI_at (by simpa using h)]
    have := made_at (n := n) (j := i) h
    rw [Nat.mul_one] at this
    rw [show (Value.int IntKind.i64 0).cells = #[Value.int .i64 0] from rfl] at this
    rw [this, List.getD_eq_getElem?_getD, List.getElem?_replicate, if_pos h]; rfl
  · rw [Array.getElem?_eq_none (by rw [size_madeCells]; omega), Array.getElem?_eq_none (by rw [arrI_size]; simp; omega)]
theorem arrI_own {w : World} {base g : Nat} {us : List Int} (hB : Blk w g 2 (arrI us)) (hg : base ≤ g) (hm : us.length ≤ maxLen) : w.ownsRow base 2 1 (.slice (some ⟨g, 0, none⟩) us.length us.length) us.length (us.flatMap intE) :=
  own_of_blk hB hg (by rw [arrI_size, Nat.mul_one]) rfl hm (fun _ _ => rfl) (fun k x hx j hj => by
    obtain rfl : j = 0 := by omega
    have hk : k < us.length := (List.getElem?_eq_some_iff.1 hx).1
    rw [Nat.mul_one, Nat.add_zero, arrI_at hk, List.getD_eq_getElem?_getD, hx]; rfl)
theorem useStep_pair {rs : List Fac} {i : Nat} {r : Fac} (h : rs[i]? = some r) (h0 : r.l.size = 0) (us : List Int) : usStep rs us i = usePair us r.a.toNat r.b.toNat i := by
  unfold usStep; rw [fac_getD h, if_pos h0]
theorem useStep_let {rs : List Fac} {i : Nat} {r : Fac} (h : rs[i]? = some r) (h0 : r.l.size ≠ 0) (us : List Int) : usStep rs us i = us := by
  unfold usStep; rw [fac_getD h, if_neg h0]
set_option maxHeartbeats 4000000 in
set_option maxRecDepth 100000 in
theorem implUses_any (A : Option Addr) (n c : Nat) (rs : List Fac) (ls : List Int) (w : World) (hn : n ≤ 1048576) (hr : Rd w w.heap.size A n 3 Fac.cells rs) (hls : gLens rs [] = some ls) (hll : ls.length = rs.length) :
    Calls Try.prog 68 #[.agg #[.slice A n c]] w (RetNew w 2 1 intE (usesOf rs)) := by
  obtain ⟨i0, hi, hz0, hz1, hz2⟩ := info_parts info_i64
  have hl := Lib.hid hr.len
  have HR := Lib.hid hr; clear hr
  have HL := Lib.hid hls; clear hls
  have Hll := Lib.hid hll; clear hll
  have hmk := run_make_rowN (P := Try.prog) 43 2 i0 _ Try.underlying43 hi hz0 .i64 .i64 n n (Nat.le_refl _) (by rw [hz2]; omega) (by omega)
  rw [hz1] at hmk
  go_enter Try.func68, Try.ntmps68
  go_wp2_with fail
  clear hmk
  go_loopw [4] (fun i_ w' => ∃ (m : Nat) (z : Int) (us : List Int), i_ = .int .i64 z ∧ z = (m : Int) - 1 ∧ m ≤ n ∧ Below w.heap.size w w' ∧ Hid (Blk w' w.heap.size 26 #[.slice A n c]) ∧
      Hid (Blk w' (w.heap.size + 1) 2 (arrI (if m = n then List.replicate n 0 else us))) ∧ Hid (us.length = n) ∧ Hid (m = n → us = us0 n) ∧ Hid (useGo rs m us = usesOf rs) ∧ Hid (0 < n → UInv rs ls m us)) (fun i_ _ => (intOf i_ + 1).toNat)
  case atStart =>
    refine ⟨n, _, us0 n, rfl, rfl, by omega, by (repeat first | exact Below.refl _ _ | assumption | refine Below.drew ?_ | refine Below.alloc ?_ (by first | exact Nat.le_refl _ | (simp; done) | omega | (simp; omega)) _ | refine Below.setCell ?_ (by first | exact Nat.le_refl _ | (simp; done) | omega | (simp; omega)) _), Lib.hid ((Blk.new _ _ _).alloc _), Lib.hid ?_, Lib.hid (by simp [us0]), Lib.hid (fun _ => rfl), Lib.hid (by unfold usesOf; rw [hl.out]), Lib.hid (fun h => ?_)⟩
    · rw [if_pos rfl, ← made_arrI]; simpa using Blk.new (w.alloc _) _ _
    · have := uinv_start Hll.out (by rw [hl.out]; exact h)
      rw [hl.out] at this
      exact this
  case round =>
    obtain ⟨m, z, us, rfl, hz, hm, hb, hG, hB, hul, hu0, H, hU⟩ := hrel
    have Hz := Lib.hid hz; clear hz
    have cg := hG.out.cell 0
    have lg := hG.out.lt
    have lo : w.heap.size + 1 < wr.heap.size := hB.out.lt
    rcases Nat.eq_zero_or_pos m with hm0 | hm1
    · obtain rfl : z = -1 := by have := Hz.out; omega
      have Hm0 := Lib.hid hm0
      have eU := Lib.hid (show usesOf rs = us by rw [← H.out, hm0]; rfl)
      have hB2 := Lib.hid (show Blk wr (w.heap.size + 1) 2 (arrI us) by
        by_cases h : m = n
        · have := hB.out
          rw [if_pos h] at this
          rw [show us = List.replicate n 0 by rw [hu0.out h, ← h, hm0]; rfl]
          exact this
        · have := hB.out
          rw [if_neg h] at this
          exact this)
      clear hm0
      go_wp2_with fail
      go_ret
      rw [eU.out]
      refine ⟨_, n, ret_slice hul.out.symm, ?_, hb⟩
      have := arrI_own (base := w.heap.size) hB2.out (by omega) (by rw [hul.out]; unfold maxLen; omega)
      rw [hul.out] at this ⊢
      exact this
    · obtain ⟨i, rfl⟩ : ∃ i, m = i + 1 := ⟨m - 1, by omega⟩
      obtain rfl : z = (i : Int) := by have := Hz.out; omega
      have U := Lib.hid (hU.out (by omega))
      obtain ⟨b, o, x, rfl, hBr, gx, c0, c1, c2⟩ := (HR.out.below hb).fac (k := i) (by omega)
      have hBr2 : b < wr.heap.size := Nat.lt_of_lt_of_le hBr hb.size
      have Gx := Lib.hid gx; clear gx
      have nxt := Lib.hid (U.out.step HL.out Hll.out)
      have hgo := Lib.hid (show useGo rs i (usStep rs us i) = usesOf rs from H.out)
      have i1 : (i : Int) < (n : Int) := by omega
      have i0' : (0 : Int) ≤ (i : Int) := by omega
      have Hx := Lib.hid (fun (w1 : World) (hb1 : Below w.heap.size w w1) (hB1 : Blk w1 (w.heap.size + 1) 2 (arrI us)) => hB1)
      have hul' : us.length = n := hul.out
      have hl' := hl.out
      have b15 := U.out.bd
      have b0 := U.out.nn
      have ePair := Lib.hid (fun h0 => useStep_pair (rs := rs) Gx.out h0 us)
      have eLet := Lib.hid (fun h0 => useStep_let (rs := rs) Gx.out h0 us)
      have wfx := wf_of HL.out i x Gx.out
      have Hul := Lib.hid hul'
      clear hul' hl'
      rcases wfx with ⟨h0, ha0, ha1, hb0, hb1⟩ | ⟨cc, hcc, hxl, hxz⟩
      · have ea := ePair.out h0
        have EA := Lib.hid ea; clear ea
        have ua15 := b15 x.a.toNat
        have ua0 := b0 x.a.toNat
        have ui15 := b15 i
        have ui0 := b0 i
        have uB := Lib.hid (fun (ub' : Int) (h : ub' = (us.set x.a.toNat (us.getD x.a.toNat 0 + us.getD i 0)).getD x.b.toNat 0) => show 0 ≤ ub' ∧ ub' ≤ 2000000000000000 by
          rw [h, getD_set _ _ _ _ (by rw [Hul.out]; omega)]
          have := b15 x.b.toNat; have := b0 x.b.toNat
          split <;> omega)
        clear b15 b0
        by_cases he : i + 1 = n
        · have e1 : ((i : Int) == (n : Int) - 1) = true := by simp; omega
          have hB' := Lib.hid (show Blk wr (w.heap.size + 1) 2 (arrI (List.replicate n 0)) by have := hB.out; rw [if_pos he] at this; exact this)
          have eS := Lib.hid (show (arrI (List.replicate n 0)).setIfInBounds i (.int .i64 1) = arrI us by rw [arrI_set, hu0.out he]; unfold us0; rw [← he]; rfl)
          have s0 := (hB'.out.cell i).trans (arrI_at (by simp; omega))
          have f0 := hB'.out.frozen i
          have hbS : Below w.heap.size wr (wr.setCell ⟨w.heap.size + 1, i, none⟩ (.int .i64 1)) := (Below.refl _ _).setCell (by simp) _
          have d0 := (hbS.cell (p := ⟨b, o + i * 3, none⟩) hBr).trans c0
          have d1 := (hbS.cell (p := ⟨b, o + i * 3 + 1, none⟩) hBr).trans c1
          have d2 := (hbS.cell (p := ⟨b, o + i * 3 + 2, none⟩) hBr).trans c2
          have dg : (wr.setCell ⟨w.heap.size + 1, i, none⟩ (.int .i64 1)).cell? ⟨w.heap.size, 0, none⟩ = some (.slice (some ⟨b, o, none⟩) n c) := ((hG.out.far (p := ⟨w.heap.size + 1, i, none⟩) (by simp) _).cell 0)
          have HbS := Lib.hid hbS
          clear he hbS
          go_wp2_with fail
          refine namedC fun w1 H1 => ?_
          have B1 := Lib.hid (show Blk w1 (w.heap.size + 1) 2 (arrI us) by rw [H1.out, ← eS.out]; exact (hB'.out.set_ _ _).alloc _)
          have G1 := Lib.hid (show Blk w1 w.heap.size 26 #[.slice (some ⟨b, o, none⟩) n c] by rw [H1.out]; exact (hG.out.far (by simp) _).alloc _)
          have R1 := Lib.hid (show Blk w1 wr.heap.size 65 #[.string x.l, .int .i64 x.a, .int .i64 x.b] by rw [H1.out]; simpa using Blk.new (wr.setCell ⟨w.heap.size + 1, i, none⟩ (.int .i64 1)) _ _)
          have hb1 : Below w.heap.size w w1 := by rw [H1.out]; exact (hb.trans HbS.out).alloc (by simpa using hb.size) _
          clear H1 s0 f0 e1 d0 d1 d2 dg cg lg
          refine (isPair_any x true _ (by simpa [isP] using h0)).mono ?_
          rintro e2 w2 ⟨rfl, hb2⟩
          have B2 := B1.out.next hb2
          have R2 := R1.out.next hb2
          have G2 := Lib.hid (G1.out.next hb2)
          have bb2 := Lib.hid (hb1.trans (hb2.mono hb1.size))
          obtain ⟨r0, r1, r2⟩ := R2.three
          have lr := R2.lt
          have lb := B2.lt
          have sa := (B2.cell x.a.toNat).trans (arrI_at (by rw [Hul.out]; omega))
          have fa := B2.frozen x.a.toNat
          have si := (B2.cell i).trans (arrI_at (by rw [Hul.out]; omega))
          have HB2 := Lib.hid B2
          have HR2 := Lib.hid R2
          clear B2 R2 hb1 hb2
          generalize hua : us.getD x.a.toNat 0 = ua at *
          generalize hui : us.getD i 0 = ui at *
          have Hua := Lib.hid hua; have Hui := Lib.hid hui
          clear hua hui
          go_wp2_with fail
          go_region
          generalize hW3 : World.drew _ = w3
          have H3 := Lib.hid hW3.symm; clear hW3
          obtain ⟨us1, hu1⟩ : ∃ us1, us1 = us.set x.a.toNat (ua + ui) := ⟨_, rfl⟩
          have Hu1 := Lib.hid hu1
          have hl1 := Lib.hid (show us1.length = n by rw [hu1, List.length_set]; exact Hul.out)
          have B3 := Lib.hid (show Blk w3 (w.heap.size + 1) 2 (arrI us1) by rw [H3.out, hu1, ← arrI_set]; exact (HB2.out.set_ _ _).drew)
          have R3 := Lib.hid (show Blk w3 wr.heap.size 65 #[.string x.l, .int .i64 x.a, .int .i64 x.b] by rw [H3.out]; exact (HR2.out.far (by have := lo; simp; omega) _).drew)
          have G3 := Lib.hid (show Blk w3 w.heap.size 26 #[.slice (some ⟨b, o, none⟩) n c] by rw [H3.out]; exact (G2.out.far (by simp) _).drew)
          have bb3 := Lib.hid (show Below w.heap.size w w3 by rw [H3.out]; exact ((bb2.out).setCell (by simp) _).drew)
          have ei := Lib.hid (show us1.getD i 0 = ui by rw [hu1, getD_set _ _ _ _ (by rw [Hul.out]; omega), if_neg (by omega)]; exact Hui.out)
          have uB' := uB.out (us1.getD x.b.toNat 0) (by rw [hu1])
          obtain ⟨ub, hub⟩ : ∃ ub, us1.getD x.b.toNat 0 = ub := ⟨_, rfl⟩
          rw [hub] at uB'
          have Hub := Lib.hid hub
          obtain ⟨ub0, ub20⟩ := uB'
          clear hu1 hub H3 sa fa si r0 r1 r2 lb lr
          obtain ⟨r0, r1, r2⟩ := R3.out.three
          have lr := R3.out.lt
          have lb := B3.out.lt
          have sb := (B3.out.cell x.b.toNat).trans (arrI_at (by rw [hl1.out]; omega))
          have fb := B3.out.frozen x.b.toNat
          have si := (B3.out.cell i).trans (arrI_at (by rw [hl1.out]; omega))
          rw [Hub.out] at sb
          rw [ei.out] at si
          go_wp2_with fail
          go_region
          generalize hW4 : World.drew _ = w4
          have H4 := Lib.hid hW4.symm; clear hW4
          go_wp2_with fail
          go_roundw
          case rel =>
            refine ⟨i, _, usStep rs us i, by go_num, rfl, by omega, ?_, Lib.hid ?_, Lib.hid ?_, Lib.hid ?_, Lib.hid (fun e => absurd e (by omega)), Lib.hid hgo.out, Lib.hid (fun _ => nxt.out)⟩
            · rw [H4.out]; exact ((bb3.out).setCell (by simp) _).drew
            · rw [H4.out]; exact (G3.out.far (by simp) _).drew
            · rw [if_neg (by omega), H4.out, EA.out]
              unfold usePair
              rw [Hua.out, Hui.out, ← Hu1.out, Hub.out, ← arrI_set]
              exact (B3.out.set_ _ _).drew
            · rw [EA.out, usePair_len]; exact Hul.out
          case measure => simp [intOf] <;> omega
        · have e1 : ((i : Int) == (n : Int) - 1) = false := by simp; omega
          have hB' := Lib.hid (show Blk wr (w.heap.size + 1) 2 (arrI us) by have := hB.out; rw [if_neg he] at this; exact this)
          clear he
          go_wp2_with fail
          refine namedC fun w1 H1 => ?_
          have B1 := Lib.hid (show Blk w1 (w.heap.size + 1) 2 (arrI us) by rw [H1.out]; exact hB'.out.alloc _)
          have G1 := Lib.hid (show Blk w1 w.heap.size 26 #[.slice (some ⟨b, o, none⟩) n c] by rw [H1.out]; exact hG.out.alloc _)
          have R1 := Lib.hid (show Blk w1 wr.heap.size 65 #[.string x.l, .int .i64 x.a, .int .i64 x.b] by rw [H1.out]; exact Blk.new wr _ _)
          have hb1 : Below w.heap.size w w1 := by rw [H1.out]; exact hb.alloc hb.size _
          clear H1 e1 cg lg
          refine (isPair_any x true _ (by simpa [isP] using h0)).mono ?_
          rintro e2 w2 ⟨rfl, hb2⟩
          have B2 := B1.out.next hb2
          have R2 := R1.out.next hb2
          have G2 := Lib.hid (G1.out.next hb2)
          have bb2 := Lib.hid (hb1.trans (hb2.mono hb1.size))
          obtain ⟨r0, r1, r2⟩ := R2.three
          have lr := R2.lt
          have lb := B2.lt
          have sa := (B2.cell x.a.toNat).trans (arrI_at (by rw [Hul.out]; omega))
          have fa := B2.frozen x.a.toNat
          have si := (B2.cell i).trans (arrI_at (by rw [Hul.out]; omega))
          have HB2 := Lib.hid B2
          have HR2 := Lib.hid R2
          clear B2 R2 hb1 hb2
          generalize hua : us.getD x.a.toNat 0 = ua at *
          generalize hui : us.getD i 0 = ui at *
          have Hua := Lib.hid hua; have Hui := Lib.hid hui
          clear hua hui
          go_wp2_with fail
          go_region
          generalize hW3 : World.drew _ = w3
          have H3 := Lib.hid hW3.symm; clear hW3
          obtain ⟨us1, hu1⟩ : ∃ us1, us1 = us.set x.a.toNat (ua + ui) := ⟨_, rfl⟩
          have Hu1 := Lib.hid hu1
          have hl1 := Lib.hid (show us1.length = n by rw [hu1, List.length_set]; exact Hul.out)
          have B3 := Lib.hid (show Blk w3 (w.heap.size + 1) 2 (arrI us1) by rw [H3.out, hu1, ← arrI_set]; exact (HB2.out.set_ _ _).drew)
          have R3 := Lib.hid (show Blk w3 wr.heap.size 65 #[.string x.l, .int .i64 x.a, .int .i64 x.b] by rw [H3.out]; exact (HR2.out.far (by have := lo; simp; omega) _).drew)
          have G3 := Lib.hid (show Blk w3 w.heap.size 26 #[.slice (some ⟨b, o, none⟩) n c] by rw [H3.out]; exact (G2.out.far (by simp) _).drew)
          have bb3 := Lib.hid (show Below w.heap.size w w3 by rw [H3.out]; exact ((bb2.out).setCell (by simp) _).drew)
          have ei := Lib.hid (show us1.getD i 0 = ui by rw [hu1, getD_set _ _ _ _ (by rw [Hul.out]; omega), if_neg (by omega)]; exact Hui.out)
          have uB' := uB.out (us1.getD x.b.toNat 0) (by rw [hu1])
          obtain ⟨ub, hub⟩ : ∃ ub, us1.getD x.b.toNat 0 = ub := ⟨_, rfl⟩
          rw [hub] at uB'
          have Hub := Lib.hid hub
          obtain ⟨ub0, ub20⟩ := uB'
          clear hu1 hub H3 sa fa si r0 r1 r2 lb lr
          obtain ⟨r0, r1, r2⟩ := R3.out.three
          have lr := R3.out.lt
          have lb := B3.out.lt
          have sb := (B3.out.cell x.b.toNat).trans (arrI_at (by rw [hl1.out]; omega))
          have fb := B3.out.frozen x.b.toNat
          have si := (B3.out.cell i).trans (arrI_at (by rw [hl1.out]; omega))
          rw [Hub.out] at sb
          rw [ei.out] at si
          go_wp2_with fail
          go_region
          generalize hW4 : World.drew _ = w4
          have H4 := Lib.hid hW4.symm; clear hW4
          go_wp2_with fail
          go_roundw
          case rel =>
            refine ⟨i, _, usStep rs us i, by go_num, rfl, by omega, ?_, Lib.hid ?_, Lib.hid ?_, Lib.hid ?_, Lib.hid (fun e => absurd e (by omega)), Lib.hid hgo.out, Lib.hid (fun _ => nxt.out)⟩
            · rw [H4.out]; exact ((bb3.out).setCell (by simp) _).drew
            · rw [H4.out]; exact (G3.out.far (by simp) _).drew
            · rw [if_neg (by omega), H4.out, EA.out]
              unfold usePair
              rw [Hua.out, Hui.out, ← Hu1.out, Hub.out, ← arrI_set]
              exact (B3.out.set_ _ _).drew
            · rw [EA.out, usePair_len]; exact Hul.out
          case measure => simp [intOf] <;> omega
      · have h0' : x.l.size ≠ 0 := by rw [hxl]; show (1 : Nat) ≠ 0; omega
        have EA := Lib.hid (eLet.out h0')
        clear b15 b0 hxl hxz hcc
        by_cases he : i + 1 = n
        · have e1 : ((i : Int) == (n : Int) - 1) = true := by simp; omega
          have hB' := Lib.hid (show Blk wr (w.heap.size + 1) 2 (arrI (List.replicate n 0)) by have := hB.out; rw [if_pos he] at this; exact this)
          have eS := Lib.hid (show (arrI (List.replicate n 0)).setIfInBounds i (.int .i64 1) = arrI us by rw [arrI_set, hu0.out he]; unfold us0; rw [← he]; rfl)
          have s0 := (hB'.out.cell i).trans (arrI_at (by simp; omega))
          have f0 := hB'.out.frozen i
          have hbS : Below w.heap.size wr (wr.setCell ⟨w.heap.size + 1, i, none⟩ (.int .i64 1)) := (Below.refl _ _).setCell (by simp) _
          have d0 := (hbS.cell (p := ⟨b, o + i * 3, none⟩) hBr).trans c0
          have d1 := (hbS.cell (p := ⟨b, o + i * 3 + 1, none⟩) hBr).trans c1
          have d2 := (hbS.cell (p := ⟨b, o + i * 3 + 2, none⟩) hBr).trans c2
          have dg : (wr.setCell ⟨w.heap.size + 1, i, none⟩ (.int .i64 1)).cell? ⟨w.heap.size, 0, none⟩ = some (.slice (some ⟨b, o, none⟩) n c) := ((hG.out.far (p := ⟨w.heap.size + 1, i, none⟩) (by simp) _).cell 0)
          have HbS := Lib.hid hbS
          clear he hbS
          go_wp2_with fail
          refine namedC fun w1 H1 => ?_
          have B1 := Lib.hid (show Blk w1 (w.heap.size + 1) 2 (arrI us) by rw [H1.out, ← eS.out]; exact (hB'.out.set_ _ _).alloc _)
          have G1 := Lib.hid (show Blk w1 w.heap.size 26 #[.slice (some ⟨b, o, none⟩) n c] by rw [H1.out]; exact (hG.out.far (by simp) _).alloc _)
          have R1 := Lib.hid (show Blk w1 wr.heap.size 65 #[.string x.l, .int .i64 x.a, .int .i64 x.b] by rw [H1.out]; simpa using Blk.new (wr.setCell ⟨w.heap.size + 1, i, none⟩ (.int .i64 1)) _ _)
          have hb1 : Below w.heap.size w w1 := by rw [H1.out]; exact (hb.trans HbS.out).alloc (by simpa using hb.size) _
          clear H1 s0 f0 e1 d0 d1 d2 dg cg lg
          refine (isPair_any x false _ (by simpa [isP] using h0')).mono ?_
          rintro e2 w2 ⟨rfl, hb2⟩
          go_wp2_with fail
          go_roundw
          case rel =>
            refine ⟨i, _, us, by go_num, rfl, by omega, hb1.trans (hb2.mono hb1.size), Lib.hid (G1.out.next hb2), Lib.hid ?_, Hul, Lib.hid (fun e => absurd e (by omega)), Lib.hid (by rw [← hgo.out, EA.out]), Lib.hid (fun _ => by have := nxt.out; rw [EA.out] at this; exact this)⟩
            rw [if_neg (by omega)]
            exact B1.out.next hb2
          case measure => simp [intOf] <;> omega
        · have e1 : ((i : Int) == (n : Int) - 1) = false := by simp; omega
          have hB' := Lib.hid (show Blk wr (w.heap.size + 1) 2 (arrI us) by have := hB.out; rw [if_neg he] at this; exact this)
          clear he
          go_wp2_with fail
          refine namedC fun w1 H1 => ?_
          have B1 := Lib.hid (show Blk w1 (w.heap.size + 1) 2 (arrI us) by rw [H1.out]; exact hB'.out.alloc _)
          have G1 := Lib.hid (show Blk w1 w.heap.size 26 #[.slice (some ⟨b, o, none⟩) n c] by rw [H1.out]; exact hG.out.alloc _)
          have R1 := Lib.hid (show Blk w1 wr.heap.size 65 #[.string x.l, .int .i64 x.a, .int .i64 x.b] by rw [H1.out]; exact Blk.new wr _ _)
          have hb1 : Below w.heap.size w w1 := by rw [H1.out]; exact hb.alloc hb.size _
          clear H1 e1 cg lg
          refine (isPair_any x false _ (by simpa [isP] using h0')).mono ?_
          rintro e2 w2 ⟨rfl, hb2⟩
          go_wp2_with fail
          go_roundw
          case rel =>
            refine ⟨i, _, us, by go_num, rfl, by omega, hb1.trans (hb2.mono hb1.size), Lib.hid (G1.out.next hb2), Lib.hid ?_, Hul, Lib.hid (fun e => absurd e (by omega)), Lib.hid (by rw [← hgo.out, EA.out]), Lib.hid (fun _ => by have := nxt.out; rw [EA.out] at this; exact this)⟩
            rw [if_neg (by omega)]
            exact B1.out.next hb2
          case measure => simp [intOf] <;> omega
end Go.Proofs.Ytfanphhlagjkdaa


/-
  impl.folded at [4]int64: what it makes of a grammar, by the contracts of the two functions that it is handed.
-/
namespace Go.Proofs.Ytfanphhlagjkdaa
open Go.RowKit

structure Q4 where
  a : Int
  b : Int
  c : Int
  d : Int
  deriving Inhabited, DecidableEq
def Q4.nil : Q4 := ⟨0, 0, 0, 0⟩
def encQ4 (y : Q4) : List Value := [.int .i64 y.a, .int .i64 y.b, .int .i64 y.c, .int .i64 y.d]
theorem lenQ4 (y : Q4) : (encQ4 y).length = 4 := rfl

end Go.Proofs.Ytfanphhlagjkdaa


/-
  How often letters occur in the words of all rules: the model, and the program's census.
-/
namespace Go.Proofs.Ytfanphhlagjkdaa
open Go.RowKit

/-- the number of a letter in four numbers -/
def Q4.at_ (q : Q4) : Nat → Int
  | 0 => q.a
  | 1 => q.b
  | 2 => q.c
  | _ => q.d
theorem encQ4_at (q : Q4) {l : Nat} (h : l < 4) : (encQ4 q)[l]? = some (.int .i64 (q.at_ l)) := by
  match l, h with
  | 0, _ => rfl
  | 1, _ => rfl
  | 2, _ => rfl
  | 3, _ => rfl
def cntF (l : Nat) : Q4 := ⟨if l = 0 then 1 else 0, if l = 1 then 1 else 0, if l = 2 then 1 else 0, if l = 3 then 1 else 0⟩
def cntG (x y : Q4) (_ : Fac) : Q4 := ⟨x.a + y.a, x.b + y.b, x.c + y.c, x.d + y.d⟩
theorem cntF_at (l : Nat) {j : Nat} (h : j < 4) : (cntF l).at_ j = if l = j then 1 else 0 := by
  match j, h with
  | 0, _ => rfl
  | 1, _ => rfl
  | 2, _ => rfl
  | 3, _ => rfl
theorem cntG_at (x y : Q4) (r : Fac) (j : Nat) : (cntG x y r).at_ j = x.at_ j + y.at_ j := by
  match j with
  | 0 => rfl
  | 1 => rfl
  | 2 => rfl
  | _ + 3 => rfl
/-- how often letters occur, for each rule -/
abbrev cnts (rs : List Fac) : List Q4 := full Q4.nil cntF cntG rs
def QB (m : Int) (q : Q4) : Prop := 0 ≤ q.a ∧ 0 ≤ q.b ∧ 0 ≤ q.c ∧ 0 ≤ q.d ∧ q.a + q.b + q.c + q.d = m
theorem QB.at_ {m : Int} {q : Q4} (h : QB m q) (j : Nat) : 0 ≤ q.at_ j ∧ q.at_ j ≤ m := by
  obtain ⟨h0, h1, h2, h3, h4⟩ := h
  match j with
  | 0 => exact ⟨h0, show q.a ≤ m by omega⟩
  | 1 => exact ⟨h1, show q.b ≤ m by omega⟩
  | 2 => exact ⟨h2, show q.c ≤ m by omega⟩
  | _ + 3 => exact ⟨h3, show q.d ≤ m by omega⟩
theorem cnt_bound {rs : List Fac} {ls : List Int} (hls : gLens rs [] = some ls) {k : Nat} (hk : k < rs.length) : QB (ls.getD k 0) ((cnts rs).getD k Q4.nil) := by
  have hwf := wf_of hls
  refine full_ind Q4.nil cntF cntG hwf (fun k x => QB (ls.getD k 0) x) (fun k r hr h => ?_) (fun k r a b hr h0 h1 h2 h3 h4 ha hb => ?_) k hk
  · have h0 : r.l.size ≠ 0 := by
      obtain ⟨c, _, e⟩ := letT_one h
      rw [e]; show (1 : Nat) ≠ 0; omega
    show QB (ls.getD k 0) _
    rw [lens_let hls hr h0]
    have := letN_lt h
    generalize letN r.l = l at *
    match l, this with
    | 0, _ => simp [QB, cntF]
    | 1, _ => simp [QB, cntF]
    | 2, _ => simp [QB, cntF]
    | 3, _ => simp [QB, cntF]
  · show QB (ls.getD k 0) _
    rw [lens_pair hls hr h0]
    obtain ⟨a0, a1, a2, a3, a4⟩ := ha
    obtain ⟨b0, b1, b2, b3, b4⟩ := hb
    simp only [QB, cntG]
    omega
theorem cnt_at {rs : List Fac} {ls : List Int} (hls : gLens rs [] = some ls) {k : Nat} (hk : k < rs.length) (j : Nat) : 0 ≤ ((cnts rs).getD k Q4.nil).at_ j ∧ ((cnts rs).getD k Q4.nil).at_ j ≤ 1000000000000000 := by
  have h1 := (cnt_bound hls hk).at_ j
  have h2 := lens_bound hls hk
  omega
abbrev Q4.v (x : Q4) : Value := .agg #[.int .i64 x.a, .int .i64 x.b, .int .i64 x.c, .int .i64 x.d]
theorem Blk.four {w : World} {g : Nat} {t : TypeId} {x y z u : Value} (h : Blk w g t #[x, y, z, u]) : w.cell? ⟨g, 0, none⟩ = some x ∧ w.cell? ⟨g, 1, none⟩ = some y ∧ w.cell? ⟨g, 2, none⟩ = some z ∧ w.cell? ⟨g, 3, none⟩ = some u := ⟨h.cell 0, h.cell 1, h.cell 2, h.cell 3⟩

theorem ix4 (a b c d : Int) : (∀ w : World, (Instr.index 60 (.agg #[.int .i64 a, .int .i64 b, .int .i64 c, .int .i64 d]) (.int .i64 0)).run Try.prog w = .ok (.int .i64 a) w) ∧
    (∀ w : World, (Instr.index 60 (.agg #[.int .i64 a, .int .i64 b, .int .i64 c, .int .i64 d]) (.int .i64 1)).run Try.prog w = .ok (.int .i64 b) w) ∧
    (∀ w : World, (Instr.index 60 (.agg #[.int .i64 a, .int .i64 b, .int .i64 c, .int .i64 d]) (.int .i64 2)).run Try.prog w = .ok (.int .i64 c) w) ∧
    (∀ w : World, (Instr.index 60 (.agg #[.int .i64 a, .int .i64 b, .int .i64 c, .int .i64 d]) (.int .i64 3)).run Try.prog w = .ok (.int .i64 d) w) :=
  ⟨fun _ => by kernel_rfl, fun _ => by kernel_rfl, fun _ => by kernel_rfl, fun _ => by kernel_rfl⟩
end Go.Proofs.Ytfanphhlagjkdaa


/-
  The reference's small functions on letters and numbers.
-/
namespace Go.Proofs.Ytfanphhlagjkdaa
open Go.RowKit

end Go.Proofs.Ytfanphhlagjkdaa


/-
  The program's census, and the reference's table of counts.
-/
namespace Go.Proofs.Ytfanphhlagjkdaa
open Go.RowKit

/-- what 'newCensus' leaves -/
def CenPost (A : Option Addr) (n c : Nat) (rs : List Fac) (w : World) (e : Ending) (w' : World) : Prop :=
  Below w.heap.size w w' ∧ ((∃ ls A2 c2 A3 c3, gOk rs = some ls ∧ e = .returned (.tuple #[.agg #[.slice A n c, .slice A2 n c2, .slice A3 (foldAll Q4.nil cntF cntG Q4.nil rs).length c3], .bool true]) ∧
      w'.ownsRow w.heap.size 2 1 (.slice A2 n c2) n (ls.flatMap intE) ∧
      w'.ownsRow w.heap.size 60 4 (.slice A3 (foldAll Q4.nil cntF cntG Q4.nil rs).length c3) (foldAll Q4.nil cntF cntG Q4.nil rs).length ((foldAll Q4.nil cntF cntG Q4.nil rs).flatMap encQ4)) ∨
    (gOk rs = none ∧ e = .returned (.tuple #[.agg #[.slice none 0 0, .slice none 0 0, .slice none 0 0], .bool false])))
def encG (g : Nat) : List Value := [.slice (some ⟨g, 0, none⟩) 4 4]
theorem one_encG (g : Nat) : ∀ u ∈ encG g, u.oneCell' = true := by
  intro u hu
  obtain rfl : u = .slice (some ⟨g, 0, none⟩) 4 4 := by simpa [encG] using hu
  rfl
theorem elemG : Elem Try.prog 38 43 1 24 := Elem.mk' (z := .slice none 0 0) Try.underlying38 (by kernel_rfl) rfl
def RowsOk (w : World) (base : Nat) (gs : List Nat) (qs : List Q4) : Prop := gs.length = qs.length ∧ ∀ i g, gs[i]? = some g → base ≤ g ∧ Blk w g 2 (encQ4 (qs.getD i Q4.nil)).toArray
def RetRows (w0 : World) (qs : List Q4) (e : Ending) (w' : World) : Prop :=
  ∃ A c gs, e = .returned (.slice A qs.length c) ∧ w'.ownsRow w0.heap.size 43 1 (.slice A qs.length c) qs.length (gs.flatMap encG) ∧ RowsOk w' w0.heap.size gs qs ∧ Below w0.heap.size w0 w'
/-- a table of numbers in memory -/
def Tab (w : World) (B : Nat) (A : Option Addr) (n : Nat) (qs : List Q4) : Prop :=
  qs.length = n ∧ ∀ k, k < n → ∃ b o g, A = some ⟨b, o, none⟩ ∧ b < B ∧ g < B ∧ w.cell? ⟨b, o + k, none⟩ = some (.slice (some ⟨g, 0, none⟩) 4 4) ∧ ∀ j, j < 4 → w.cell? ⟨g, j, none⟩ = some (.int .i64 ((qs.getD k Q4.nil).at_ j))
theorem Tab.next {w w' : World} {A : Option Addr} {n : Nat} {qs : List Q4} (h : Tab w w.heap.size A n qs) (hb : Below w.heap.size w w') : Tab w' w'.heap.size A n qs := by
  refine ⟨h.1, fun k hk => ?_⟩
  obtain ⟨b, o, g, hA, hB, hg, hc, hj⟩ := h.2 k hk
  have := hb.size
  exact ⟨b, o, g, hA, by omega, by omega, (hb.cell (p := ⟨b, o + k, none⟩) hB).trans hc, fun j hj' => (hb.cell (p := ⟨g, j, none⟩) hg).trans (hj j hj')⟩
theorem encG_at {w : World} {base c k : Nat} {A : Option Addr} {gs : List Nat} (h : w.ownsRow base 43 1 (.slice A k c) k (gs.flatMap encG)) (hl : gs.length = k) {i : Nat} (hi : i < k) :
    ∃ p g, A = some ⟨p, 0, none⟩ ∧ base ≤ p ∧ p < w.heap.size ∧ gs[i]? = some g ∧ w.cell? ⟨p, i, none⟩ = some (.slice (some ⟨g, 0, none⟩) 4 4) := by
  obtain ⟨p, cap, hv, hg, hs⟩ := h.form (by omega)
  injection hv with hA _ _
  subst hA
  have hx : gs[i]? = some (gs[i]'(by omega)) := List.getElem?_eq_getElem _
  refine ⟨p, _, rfl, hg, hs, hx, ?_⟩
  rw [h.cellAt i (by omega)]
  have := flat_at (enc := encG) (sz := 1) gs (fun _ _ => rfl) i _ hx 0 (by omega)
  rw [Nat.mul_one, Nat.add_zero] at this
  rw [this]; rfl
theorem Tab.of {w : World} {base c n : Nat} {A : Option Addr} {gs : List Nat} {qs : List Q4} (hn : qs.length = n) (h : w.ownsRow base 43 1 (.slice A n c) n (gs.flatMap encG)) (hr : RowsOk w base gs qs) : Tab w w.heap.size A n qs := by
  refine ⟨hn, fun k hk => ?_⟩
  obtain ⟨p, g, hA, hp, hs, hx, hc⟩ := encG_at h (hr.1.trans hn) hk
  obtain ⟨hg, hB⟩ := hr.2 k g hx
  refine ⟨p, 0, g, hA, hs, hB.lt, by simpa using hc, fun j hj => ?_⟩
  rw [hB.cell]
  simpa using encQ4_at (qs.getD k Q4.nil) hj
def part (q : Q4) (l : Nat) : Array Value := #[.int .i64 (if 0 < l then q.a else 0), .int .i64 (if 1 < l then q.b else 0), .int .i64 (if 2 < l then q.c else 0), .int .i64 (if 3 < l then q.d else 0)]
theorem part_size (q : Q4) (l : Nat) : (part q l).size = 4 := rfl
theorem part_all (q : Q4) : part q 4 = (encQ4 q).toArray := rfl
theorem part_at (q : Q4) {l : Nat} (h : l < 4) : (part q l)[l]? = some (.int .i64 0) := by
  match l, h with
  | 0, _ => rfl
  | 1, _ => rfl
  | 2, _ => rfl
  | 3, _ => rfl
theorem part_set (q : Q4) {l : Nat} (h : l < 4) : (part q l).setIfInBounds l (.int .i64 (q.at_ l)) = part q (l + 1) := by
  match l, h with
  | 0, _ => rfl
  | 1, _ => rfl
  | 2, _ => rfl
  | 3, _ => rfl
theorem part_skip (q : Q4) {l : Nat} (h : l < 4) (h0 : q.at_ l = 0) : part q l = part q (l + 1) := by
  rw [← part_set q h, h0]
  apply Array.ext_getElem?
  intro i
  by_cases hi : i = l
  · subst hi; rw [part_at q h, Array.getElem?_setIfInBounds_self_of_lt (by rw [part_size]; exact h)]
  · rw [Array.getElem?_setIfInBounds_ne (by omega)]
theorem fill_row {w wo wr : World} {k c' l : Nat} {A' : Option Addr} {gs : List Nat} {os : List Q4} {q : Q4} {x : Fac} (hb2 : Below w.heap.size w wr) (hO : wr.ownsRow w.heap.size 43 1 (.slice A' k c') k (gs.flatMap encG))
    (hQ : RowsOk wr w.heap.size gs os) (BX : Blk wr wo.heap.size 65 #[.string x.l, .int .i64 x.a, .int .i64 x.b]) (BL : Blk wr (wo.heap.size + 1) 2 (part q l)) (hgs : ∀ (i g : Nat), gs[i]? = some g → g < wo.heap.size)
    (hw : w.heap.size ≤ wo.heap.size + 1) (hl : l < 4) :
    Below w.heap.size w (wr.setCell ⟨wo.heap.size + 1, l, none⟩ (.int .i64 (q.at_ l))) ∧ (wr.setCell ⟨wo.heap.size + 1, l, none⟩ (.int .i64 (q.at_ l))).ownsRow w.heap.size 43 1 (.slice A' k c') k (gs.flatMap encG) ∧
      RowsOk (wr.setCell ⟨wo.heap.size + 1, l, none⟩ (.int .i64 (q.at_ l))) w.heap.size gs os ∧ Blk (wr.setCell ⟨wo.heap.size + 1, l, none⟩ (.int .i64 (q.at_ l))) wo.heap.size 65 #[.string x.l, .int .i64 x.a, .int .i64 x.b] ∧
      Blk (wr.setCell ⟨wo.heap.size + 1, l, none⟩ (.int .i64 (q.at_ l))) (wo.heap.size + 1) 2 (part q (l + 1)) := by
  refine ⟨hb2.setCell hw _, hO.kept (gb_set wr _ _ _) (.inr (own_blk_ne hO BL (by decide)).symm), ⟨hQ.1, fun i g h => ⟨(hQ.2 i g h).1, (hQ.2 i g h).2.far (by have := hgs i g h; show g ≠ wo.heap.size + 1; omega) _⟩⟩, BX.far (by show wo.heap.size ≠ wo.heap.size + 1; omega) _, ?_⟩
  rw [← part_set q hl]
  exact BL.set_ l _
theorem rows_push {w w8 w9 : World} {k c' g : Nat} {A' : Option Addr} {gs : List Nat} {os : List Q4} {q : Q4} {base : Nat} (hO : w8.ownsRow base 43 1 (.slice A' k c') k (gs.flatMap encG)) (hQ : RowsOk w base gs os) (hk : os.length = k)
    (BL : Blk w g 2 (encQ4 q).toArray) (hg : base ≤ g) (h8 : ∀ (g : Nat) (t : TypeId) (cs : Array Value), Blk w g t cs → Blk w8 g t cs) (hg9 : w8.grownBy w9 (Value.slice A' k c').ownBlock) : RowsOk w9 base (gs ++ [g]) (os ++ [q]) := by
  have hlen := hQ.1
  refine ⟨by simp [hlen], fun i p hp => ?_⟩
  by_cases hi : i < os.length
  · rw [List.getElem?_append_left (by omega)] at hp
    obtain ⟨h1, h2⟩ := hQ.2 i p hp
    have h3 := h8 _ _ _ h2
    refine ⟨h1, ?_⟩
    rw [List.getD_eq_getElem?_getD, List.getElem?_append_left hi, ← List.getD_eq_getElem?_getD]
    exact h3.grown hg9 (own_blk_ne hO h3 (by decide))
  · have hi2 : i = os.length := by
      have := (List.getElem?_eq_some_iff.1 hp).1
      simp at this; omega
    subst hi2
    rw [List.getElem?_append_right (by omega), hlen] at hp
    obtain rfl : g = p := by simpa using hp
    have h3 := h8 _ _ _ BL
    refine ⟨hg, ?_⟩
    rw [List.getD_eq_getElem?_getD, List.getElem?_append_right (by omega)]
    simp only [Nat.sub_self, List.getElem?_cons_zero, Option.getD_some]
    exact h3.grown hg9 (own_blk_ne hO h3 (by decide))
end Go.Proofs.Ytfanphhlagjkdaa


/-
  impl.folded at [2]int: what it makes of a grammar, by the contracts of the two functions that it is handed.
-/
namespace Go.Proofs.Ytfanphhlagjkdaa
open Go.RowKit

structure Ed where
  f : Int
  l : Int
  deriving Inhabited, DecidableEq
def Ed.nil : Ed := ⟨0, 0⟩
def encEd (y : Ed) : List Value := [.int .i64 y.f, .int .i64 y.l]
theorem elemEd : Elem Try.prog 113 115 2 16 := Elem.mk' (z := .agg #[.int .i64 0, .int .i64 0]) Try.underlying113 (by kernel_rfl) rfl
theorem lenEd (y : Ed) : (encEd y).length = 2 := rfl

set_option maxHeartbeats 2000000 in
set_option maxRecDepth 100000 in
theorem foldE_any (fl fp : Nat) (el : EnterOk fl) (ep : EnterOk fp) (cl cp : Array Value) (F : Nat → Ed) (G : Ed → Ed → Fac → Ed) (z : Ed) (A : Option Addr) (n c : Nat) (rs : List Fac) (w : World) (hn : n ≤ 1048576) (hr : Rd w w.heap.size A n 3 Fac.cells rs) (hwf : WF rs)
    (hF : ∀ (k : Nat) (r : Fac), rs[k]? = some r → r.l.size ≠ 0 → ∀ w', Below w.heap.size w w' → Calls Try.prog fl (#[.int .i64 (letN r.l : Nat)] ++ cl) w' (Ret (.agg #[.int .i64 (F (letN r.l)).f, .int .i64 (F (letN r.l)).l]) w'))
    (hG : ∀ (k : Nat) (r : Fac), rs[k]? = some r → r.l.size = 0 → ∀ w', Below w.heap.size w w' →
      Calls Try.prog fp (#[(.agg #[.int .i64 ((outs Ed.nil F G rs k).getD r.a.toNat Ed.nil).f, .int .i64 ((outs Ed.nil F G rs k).getD r.a.toNat Ed.nil).l]), (.agg #[.int .i64 ((outs Ed.nil F G rs k).getD r.b.toNat Ed.nil).f, .int .i64 ((outs Ed.nil F G rs k).getD r.b.toNat Ed.nil).l]), r.val] ++ cp) w' (Ret (.agg #[.int .i64 (G ((outs Ed.nil F G rs k).getD r.a.toNat Ed.nil) ((outs Ed.nil F G rs k).getD r.b.toNat Ed.nil) r).f, .int .i64 (G ((outs Ed.nil F G rs k).getD r.a.toNat Ed.nil) ((outs Ed.nil F G rs k).getD r.b.toNat Ed.nil) r).l]) w')) :
    Calls Try.prog 69 #[.agg #[.slice A n c], (.agg #[.int .i64 z.f, .int .i64 z.l]), .func (.func fl) #[] cl, .func (.func fp) #[] cp] w (RetNew w 115 2 encEd (foldAll Ed.nil F G z rs)) := by
  have hl := Lib.hid hr.len
  have HF := Lib.hid hF; clear hF
  unfold EnterOk at el ep
  have HG := Lib.hid hG; clear hG
  have HW := Lib.hid hwf; clear hwf
  go_enter Try.func69, Try.ntmps69
  go_wp2_with fail
  refine named fun wS HS => ?_
  have hbS0 : Below w.heap.size w wS := by rw [HS.out]; (repeat first | exact Below.refl _ _ | assumption | refine Below.drew ?_ | refine Below.alloc ?_ (by first | exact Nat.le_refl _ | (simp; done) | omega | (simp; omega)) _ | refine Below.setCell ?_ (by first | exact Nat.le_refl _ | (simp; done) | omega | (simp; omega)) _)
  have BN0 : Blk wS (w.heap.size + 1) 115 #[.int .i64 z.f, .int .i64 z.l] := by rw [HS.out]; simpa using (Blk.new (w.alloc _) _ _).alloc _
  have own0 : wS.ownsRow (w.heap.size + 2) 115 2 (.slice (some ⟨w.heap.size + 1 + 1, 0, none⟩) 0 0) 0 [] := by
    rw [HS.out]; simpa using World.ownsRow_made (base := w.heap.size + 2) (e := 115) (size := 2) ((w.alloc (.cells #[.slice A n c] 26)).alloc (.cells #[.int .i64 z.f, .int .i64 z.l] 115)) #[] 0 (by simp) (by unfold maxLen; omega) rfl
  have hzS : w.heap.size + 3 ≤ wS.heap.size := by rw [HS.out]; simp
  have hbS := Lib.hid hbS0; have BN := Lib.hid BN0; have Own0 := Lib.hid own0
  clear hbS0 BN0 own0 HS
  go_loopw [9, 16] (fun o_ i_ w' => ∃ (k : Nat) (A' : Option Addr) (c' : Nat), i_ = .int .i64 k ∧ o_ = .slice A' k c' ∧ k ≤ n ∧
      Hid (w'.ownsRow (w.heap.size + 2) 115 2 (.slice A' k c') k ((outs Ed.nil F G rs k).flatMap encEd)) ∧ Below (w.heap.size + 2) wS w') (fun _ i_ _ => n - (intOf i_).toNat)
  case atStart =>
    exact ⟨0, _, 0, rfl, rfl, by omega, Lib.hid (by simpa [outs, foldG] using Own0.out), Below.refl _ _⟩
  case round =>
    obtain ⟨k, A', c', rfl, rfl, hk, hown, hb⟩ := hrel
    have hbw := Lib.hid (hbS.out.trans (hb.mono (by omega)))
    have hzr := hb.size
    by_cases hlt : k < n
    · obtain ⟨b, o, x, rfl, hB, gx, c0, c1, c2⟩ := (hr.next hbw.out).fac hlt
      have Hst := Lib.hid (outs_step Ed.nil F G gx)
      have Hol := Lib.hid (outs_len Ed.nil F G rs k (by rw [hl.out]; exact hk))
      rcases HW.out k x gx with ⟨h0, ha0, ha1, hb0, hb1⟩ | ⟨cc, hcc, hxl, hxa, hxb⟩
      · have hG := HG.out k x gx h0
        have hfs := Lib.hid (show fStep Ed.nil F G (outs Ed.nil F G rs k) x = G ((outs Ed.nil F G rs k).getD x.a.toNat Ed.nil) ((outs Ed.nil F G rs k).getD x.b.toNat Ed.nil) x by unfold fStep; rw [if_pos h0])
        have HG2 := Lib.hid hG; clear hG gx
        go_wp2_with fail
        refine (isPair_any x true _ (by simpa [isP] using h0)).mono ?_
        rintro e w1 ⟨rfl, hb1'⟩
        obtain ⟨d0, d1, d2⟩ := ((Blk.new wr _ _).next hb1').three
        have b1 := (hb.alloc (by omega) _).trans (hb1'.mono (by simp; omega))
        have hz1 : wr.heap.size < w1.heap.size := ((Blk.new wr 65 #[.string x.l, .int .i64 x.a, .int .i64 x.b]).next hb1').lt
        have own1 := Lib.hid (own_next (hown.out.alloc _) hb1')
        obtain ⟨g, cap, hv, hg0, hg1⟩ := own1.out.form (by omega)
        obtain rfl : A' = some ⟨g, 0, none⟩ := by injection hv
        clear hv
        have na : x.a.toNat < k := by omega
        have nb : x.b.toNat < k := by omega
        have HEa0 := Lib.hid (fun (w2_ : World) (h : w2_.ownsRow (w.heap.size + 2) 115 2 (.slice (some ⟨g, 0, none⟩) k c') k ((outs Ed.nil F G rs k).flatMap encEd)) => show w2_.cell? ⟨g, x.a.toNat * 2, none⟩ = some (.int .i64 ((outs Ed.nil F G rs k).getD x.a.toNat Ed.nil).f) from by simpa [encEd] using own_at (enc := encEd) (sz := 2) (fun y _ => lenEd y) h Hol.out Ed.nil x.a.toNat na 0 (by omega))
        have HEa1 := Lib.hid (fun (w2_ : World) (h : w2_.ownsRow (w.heap.size + 2) 115 2 (.slice (some ⟨g, 0, none⟩) k c') k ((outs Ed.nil F G rs k).flatMap encEd)) => show w2_.cell? ⟨g, x.a.toNat * 2 + 1, none⟩ = some (.int .i64 ((outs Ed.nil F G rs k).getD x.a.toNat Ed.nil).l) from by simpa [encEd] using own_at (enc := encEd) (sz := 2) (fun y _ => lenEd y) h Hol.out Ed.nil x.a.toNat na 1 (by omega))
        have HEb0 := Lib.hid (fun (w2_ : World) (h : w2_.ownsRow (w.heap.size + 2) 115 2 (.slice (some ⟨g, 0, none⟩) k c') k ((outs Ed.nil F G rs k).flatMap encEd)) => show w2_.cell? ⟨g, x.b.toNat * 2, none⟩ = some (.int .i64 ((outs Ed.nil F G rs k).getD x.b.toNat Ed.nil).f) from by simpa [encEd] using own_at (enc := encEd) (sz := 2) (fun y _ => lenEd y) h Hol.out Ed.nil x.b.toNat nb 0 (by omega))
        have HEb1 := Lib.hid (fun (w2_ : World) (h : w2_.ownsRow (w.heap.size + 2) 115 2 (.slice (some ⟨g, 0, none⟩) k c') k ((outs Ed.nil F G rs k).flatMap encEd)) => show w2_.cell? ⟨g, x.b.toNat * 2 + 1, none⟩ = some (.int .i64 ((outs Ed.nil F G rs k).getD x.b.toNat Ed.nil).l) from by simpa [encEd] using own_at (enc := encEd) (sz := 2) (fun y _ => lenEd y) h Hol.out Ed.nil x.b.toNat nb 1 (by omega))
        have va0 := HEa0.out w1 own1.out
        have va1 := HEa1.out w1 own1.out
        have vb0 := HEb0.out w1 own1.out
        have vb1 := HEb1.out w1 own1.out
        have hgw : some wr.heap.size ≠ (Value.slice (some ⟨g, 0, none⟩) k c').ownBlock := by intro e; have h1 : g < wr.heap.size := (hown.out.lt g rfl).2; have h2 : wr.heap.size = g := Option.some.inj e; omega
        generalize (outs Ed.nil F G rs k).getD x.a.toNat Ed.nil = y1 at *
        generalize (outs Ed.nil F G rs k).getD x.b.toNat Ed.nil = y2 at *
        generalize G y1 y2 x = y at *
        clear h0
        have i1 : x.a < (k : Int) := ha1
        have i2 : x.b < (k : Int) := hb1
        have bw1 := Lib.hid (hbS.out.trans (b1.mono (by omega)))
        go_wp2_with fail
        go_region_held3 (fun w' => w'.cell? ⟨wr.heap.size, 0, none⟩ = some (.string x.l) ∧ w'.cell? ⟨wr.heap.size, 1, none⟩ = some (.int .i64 x.a) ∧ w'.cell? ⟨wr.heap.size, 2, none⟩ = some (.int .i64 x.b) ∧ w'.cell? ⟨g, x.a.toNat * 2, none⟩ = some (.int .i64 y1.f) ∧ w'.cell? ⟨g, x.a.toNat * 2 + 1, none⟩ = some (.int .i64 y1.l) ∧ w'.cell? ⟨g, x.b.toNat * 2, none⟩ = some (.int .i64 y2.f) ∧ w'.cell? ⟨g, x.b.toNat * 2 + 1, none⟩ = some (.int .i64 y2.l))
          (first | exact ⟨t0, t1, t2, t3, t4, t5, t6⟩ | exact ⟨s0, s1, s2, s3, s4, s5, s6⟩ | go_keep)
          (first
            | (refine (HG2.out _ bw1.out.drew).mono ?_
               rintro e w2 ⟨rfl, hb2⟩
               have hz2 : wr.heap.size < w2.heap.size := Nat.lt_of_lt_of_le hz1 hb2.size
               have s0 : w2.cell? ⟨wr.heap.size, 0, none⟩ = some (.string x.l) := (hb2.cell (p := ⟨wr.heap.size, 0, none⟩) hz1).trans d0
               have s1 : w2.cell? ⟨wr.heap.size, 1, none⟩ = some (.int .i64 x.a) := (hb2.cell (p := ⟨wr.heap.size, 1, none⟩) hz1).trans d1
               have s2 : w2.cell? ⟨wr.heap.size, 2, none⟩ = some (.int .i64 x.b) := (hb2.cell (p := ⟨wr.heap.size, 2, none⟩) hz1).trans d2
               have s3 : w2.cell? ⟨g, x.a.toNat * 2, none⟩ = some (.int .i64 y1.f) := (hb2.cell (p := ⟨g, x.a.toNat * 2, none⟩) hg1).trans va0
               have s4 : w2.cell? ⟨g, x.a.toNat * 2 + 1, none⟩ = some (.int .i64 y1.l) := (hb2.cell (p := ⟨g, x.a.toNat * 2 + 1, none⟩) hg1).trans va1
               have s5 : w2.cell? ⟨g, x.b.toNat * 2, none⟩ = some (.int .i64 y2.f) := (hb2.cell (p := ⟨g, x.b.toNat * 2, none⟩) hg1).trans vb0
               have s6 : w2.cell? ⟨g, x.b.toNat * 2 + 1, none⟩ = some (.int .i64 y2.l) := (hb2.cell (p := ⟨g, x.b.toNat * 2 + 1, none⟩) hg1).trans vb1)
            | (refine step_push (by rfl) _ _ _ (by rfl) (w.heap.size + 2) 115 2 16 elemEd encEd (some ⟨g, 0, none⟩) k c' (outs Ed.nil F G rs k) (by rfl) ((own_next own1.out.drew hb2).alloc _) w2.heap.size y #[.int .i64 y.f, .int .i64 y.l] 115 (0, 0) (by rfl) (heap_alloc_new _ _) rfl rfl (by simp [encEd, Value.oneCell']) (by omega) (by omega) (by unfold maxLen; omega) (Nat.le_trans (Nat.le_trans (by omega) (Nat.le_of_lt hz2)) (by simp)) ?_
               intro A5 c5 w5 own5 hg5 old5
               have t0 : w5.cell? ⟨wr.heap.size, 0, none⟩ = some (.string x.l) := far_alloc hg5 s0 hz2 hgw
               have t1 : w5.cell? ⟨wr.heap.size, 1, none⟩ = some (.int .i64 x.a) := far_alloc hg5 s1 hz2 hgw
               have t2 : w5.cell? ⟨wr.heap.size, 2, none⟩ = some (.int .i64 x.b) := far_alloc hg5 s2 hz2 hgw
               have t3 : w5.cell? ⟨g, x.a.toNat * 2, none⟩ = some (.int .i64 y1.f) := HEa0.out w5 old5
               have t4 : w5.cell? ⟨g, x.a.toNat * 2 + 1, none⟩ = some (.int .i64 y1.l) := HEa1.out w5 old5
               have t5 : w5.cell? ⟨g, x.b.toNat * 2, none⟩ = some (.int .i64 y2.f) := HEb0.out w5 old5
               have t6 : w5.cell? ⟨g, x.b.toNat * 2 + 1, none⟩ = some (.int .i64 y2.l) := HEb1.out w5 old5))
        go_wp2_with fail
        go_roundw
        case rel =>
          refine ⟨k + 1, A5, c5, by go_num, rfl, by omega, Lib.hid ?_, ?_⟩
          · rw [Hst.out, hfs.out]; exact own5
          · exact ((b1.drew.trans (hb2.mono (by simp; omega))).alloc (by omega) _).grown hg5 (by simp; omega) (own_ge own1.out)
        case measure => simp [intOf]; omega
      · obtain ⟨xl, xa, xb⟩ := x
        simp only at hxl hxa hxb c0 c1 c2
        subst hxl hxa hxb
        obtain ⟨hl0, hl1⟩ := letB_num hcc
        have hF := HF.out k _ gx (by show (1 : Nat) ≠ 0; omega)
        have hfs := Lib.hid (show fStep Ed.nil F G (outs Ed.nil F G rs k) ⟨⟨#[cc]⟩, 0, 0⟩ = F (letN ⟨#[cc]⟩) from rfl)
        have hln := Lib.hid (show ((letN ⟨#[cc]⟩ : Nat) : Int) = (cc.toNat : Int) - 97 by rw [letN_one]; omega)
        simp only at hF
        rw [hln.out] at hF
        generalize F (letN ⟨#[cc]⟩) = y at *
        have HF2 := Lib.hid hF; clear hF gx hcc
        go_wp2_with fail
        refine (isPair_any ⟨⟨#[cc]⟩, 0, 0⟩ false _ (decide_eq_false (show ¬ (1 : Nat) = 0 by omega))).mono ?_
        rintro e w1 ⟨rfl, hb1'⟩
        obtain ⟨d0, d1, d2⟩ := ((Blk.new wr _ _).next hb1').three
        have b1 := (hb.alloc (by omega) _).trans (hb1'.mono (by simp; omega))
        have own1 := Lib.hid (own_next (hown.out.alloc _) hb1')
        have hz1 := b1.size
        go_wp2_with fail
        refine calls_arg (b := (cc.toNat : Int) - 97) (by show ((cc.toNat : Int) - 97) % 256 = _; omega) ?_
        refine (HF2.out _ (hbS.out.trans (b1.mono (by omega)))).mono ?_
        rintro e w2 ⟨rfl, hb2⟩
        have b2 := b1.trans (hb2.mono (by omega))
        have hz2 := b2.size
        have own2 := Lib.hid (own_next own1.out hb2)
        go_wp2_with
          (at_builtin
           refine wpList_pushG rfl _ _ _ rfl (w.heap.size + 2) 115 2 16 elemEd encEd _ k c' (outs Ed.nil F G rs k) rfl (own2.out.alloc _) w2.heap.size y #[.int .i64 y.f, .int .i64 y.l] 115 (0, 0) rfl (heap_alloc_new _ _) rfl rfl (by simp [encEd, Value.oneCell']) (by omega) (by omega) (by unfold maxLen; omega) (by simp; omega) ?_
           intro A9 c9 w9 own9 hg9 hat9
           have O9 := Lib.hid own9
           have hb9 := Lib.hid ((b2.alloc (by omega) _).grown hg9 (by simp; omega) (own_ge own2.out)); clear own9 hat9)
        go_roundw
        case rel =>
          refine ⟨k + 1, A9, c9, by go_num, rfl, by omega, Lib.hid ?_, hb9.out⟩
          rw [Hst.out, hfs.out]; exact O9.out
        case measure => simp [intOf]; omega
    · have hkn : k = n := by omega
      have Hall := Lib.hid (outs_all Ed.nil F G rs k (by rw [hl.out]; omega))
      have Hol := Lib.hid (outs_len Ed.nil F G rs k (by rw [hl.out]; omega))
      have BNr := BN.out.below hb (by omega)
      have n0 : wr.cell? ⟨w.heap.size + 1, 0, none⟩ = some (.int .i64 z.f) := BNr.cell 0
      have n1 : wr.cell? ⟨w.heap.size + 1, 1, none⟩ = some (.int .i64 z.l) := BNr.cell 1
      have zn := BNr.lt
      by_cases h0 : k = 0
      · subst h0
        have e0 := Lib.hid (show foldAll Ed.nil F G z rs = [z] by unfold foldAll; rw [hl.out, if_pos hkn.symm])
        have e1 := Lib.hid (show outs Ed.nil F G rs 0 = [] by unfold outs; simp [foldG])
        have own1 : wr.ownsRow (w.heap.size + 2) 115 2 (.slice A' 0 c') 0 (([] : List Ed).flatMap encEd) := by rw [← e1.out]; exact hown.out
        have Own1 := Lib.hid own1; clear own1 hkn
        go_wp2_with
          (at_builtin
           refine wpList_pushG rfl _ _ _ rfl (w.heap.size + 2) 115 2 16 elemEd encEd _ 0 c' [] rfl (Own1.out.alloc _) wr.heap.size z #[.int .i64 z.f, .int .i64 z.l] 115 (0, 0) rfl (heap_alloc_new _ _) rfl rfl (by simp [encEd, Value.oneCell']) (by omega) (by omega) (by unfold maxLen; omega) (by simp; omega) ?_
           intro A9 c9 w9 own9 hg9 hat9
           have O9 := Lib.hid own9
           have hb9 := Lib.hid ((hb.alloc (by omega) _).grown hg9 (by simp; omega) (own_ge Own1.out)); clear own9 hat9)
        go_ret
        rw [e0.out]
        exact ⟨A9, c9, rfl, O9.out.mono (by omega), hbS.out.trans (hb9.out.mono (by omega))⟩
      · have e0 := Lib.hid (show foldAll Ed.nil F G z rs = outs Ed.nil F G rs k by unfold foldAll; rw [hl.out, if_neg (by omega), Hall.out])
        have h1 : ((k : Int) == 0) = false := by simp; omega
        clear h0 hkn
        go_wp2_with fail
        go_ret
        rw [e0.out]
        refine ⟨A', c', ret_slice Hol.out.symm, ?_, hbw.out⟩
        rw [Hol.out]
        exact hown.out.mono (by omega)
end Go.Proofs.Ytfanphhlagjkdaa


/-
  How often letters come behind letters: the table, and what makes it.
-/
namespace Go.Proofs.Ytfanphhlagjkdaa
open Go.RowKit

/-- one fold told by another one -/
theorem full_map {α β : Type} (d : α) (F : Nat → α) (G : α → α → Fac → α) (d' : β) (F' : Nat → β) (G' : β → β → Fac → β) (h : α → β) {rs : List Fac} (hwf : WF rs) (hF : ∀ l, h (F l) = F' l) (hG : ∀ a b r, h (G a b r) = G' (h a) (h b) r) :
    ∀ k, k < rs.length → h ((full d F G rs).getD k d) = (full d' F' G' rs).getD k d' := by
  intro k
  induction k using Nat.strongRecOn with
  | ind k ih =>
    intro hk
    have gx : rs[k]? = some (rs[k]'(by omega)) := List.getElem?_eq_getElem _
    rcases hwf k _ gx with ⟨h0, ha0, ha1, hb0, hb1⟩ | ⟨c, hc, hl, _⟩
    · rw [full_pair d F G hwf gx h0, full_pair d' F' G' hwf gx h0, hG, ih _ (by omega) (by omega), ih _ (by omega) (by omega)]
    · have h0 : (rs[k]'(by omega)).l.size ≠ 0 := by rw [hl]; show (1 : Nat) ≠ 0; omega
      rw [full_let d F G gx h0, full_let d' F' G' gx h0, hF]
def edF (l : Nat) : Int := (l : Int)
def edGf (a _ : Int) (_ : Fac) : Int := a
def edGl (_ b : Int) (_ : Fac) : Int := b
/-- the number of the first letter, of the last letter -/
abbrev edf (rs : List Fac) : List Int := full 0 edF edGf rs
abbrev edl (rs : List Fac) : List Int := full 0 edF edGl rs
theorem ed_b {G : Int → Int → Fac → Int} (hG : ∀ a b r, G a b r = a ∨ G a b r = b) {rs : List Fac} (hwf : WF rs) {k : Nat} (hk : k < rs.length) : 0 ≤ (full 0 edF G rs).getD k 0 ∧ (full 0 edF G rs).getD k 0 < 4 := by
  refine full_ind 0 edF G hwf (fun _ x => 0 ≤ x ∧ x < 4) (fun k r hr h => ?_) (fun k r a b hr h0 h1 h2 h3 h4 ha hb => ?_) k hk
  · have := letN_lt h
    show 0 ≤ ((letN r.l : Nat) : Int) ∧ ((letN r.l : Nat) : Int) < 4
    omega
  · rcases hG a b r with h | h
    · show 0 ≤ G a b r ∧ G a b r < 4
      rw [h]; exact ha
    · show 0 ≤ G a b r ∧ G a b r < 4
      rw [h]; exact hb
theorem edf_b {rs : List Fac} (hwf : WF rs) {k : Nat} (hk : k < rs.length) : 0 ≤ (edf rs).getD k 0 ∧ (edf rs).getD k 0 < 4 := ed_b (fun _ _ _ => .inl rfl) hwf hk
theorem edl_b {rs : List Fac} (hwf : WF rs) {k : Nat} (hk : k < rs.length) : 0 ≤ (edl rs).getD k 0 ∧ (edl rs).getD k 0 < 4 := ed_b (fun _ _ _ => .inr rfl) hwf hk

def Q4.plus (q : Q4) (l : Nat) (v : Int) : Q4 := match l with
  | 0 => ⟨q.a + v, q.b, q.c, q.d⟩
  | 1 => ⟨q.a, q.b + v, q.c, q.d⟩
  | 2 => ⟨q.a, q.b, q.c + v, q.d⟩
  | _ => ⟨q.a, q.b, q.c, q.d + v⟩
def Q4.sum (q : Q4) : Int := q.a + q.b + q.c + q.d
theorem Q4.plus_sum (q : Q4) (l : Nat) (v : Int) : (q.plus l v).sum = q.sum + v := by
  match l with
  | 0 => simp [Q4.plus, Q4.sum]; omega
  | 1 => simp [Q4.plus, Q4.sum]; omega
  | 2 => simp [Q4.plus, Q4.sum]; omega
  | _ + 3 => simp [Q4.plus, Q4.sum]; omega
theorem Q4.plus_set (q : Q4) {l : Nat} (h : l < 4) (v : Int) : ((encQ4 q).toArray).setIfInBounds l (.int .i64 (q.at_ l + v)) = (encQ4 (q.plus l v)).toArray := by
  match l, h with
  | 0, _ => rfl
  | 1, _ => rfl
  | 2, _ => rfl
  | 3, _ => rfl
def Q4.bd (q : Q4) (m : Int) : Prop := ∀ j, 0 ≤ q.at_ j ∧ q.at_ j ≤ m
theorem Q4.plus_bd {q : Q4} {m v : Int} (h : q.bd m) (l : Nat) (h0 : 0 ≤ v) : (q.plus l v).bd (m + v) := by
  intro j
  have h1 : 0 ≤ q.a ∧ q.a ≤ m := h 0
  have h2 : 0 ≤ q.b ∧ q.b ≤ m := h 1
  have h3 : 0 ≤ q.c ∧ q.c ≤ m := h 2
  have h4 : 0 ≤ q.d ∧ q.d ≤ m := h 3
  match l with
  | 0 => match j with
    | 0 => show 0 ≤ q.a + v ∧ q.a + v ≤ m + v; omega
    | 1 => show 0 ≤ q.b ∧ q.b ≤ m + v; omega
    | 2 => show 0 ≤ q.c ∧ q.c ≤ m + v; omega
    | _ + 3 => show 0 ≤ q.d ∧ q.d ≤ m + v; omega
  | 1 => match j with
    | 0 => show 0 ≤ q.a ∧ q.a ≤ m + v; omega
    | 1 => show 0 ≤ q.b + v ∧ q.b + v ≤ m + v; omega
    | 2 => show 0 ≤ q.c ∧ q.c ≤ m + v; omega
    | _ + 3 => show 0 ≤ q.d ∧ q.d ≤ m + v; omega
  | 2 => match j with
    | 0 => show 0 ≤ q.a ∧ q.a ≤ m + v; omega
    | 1 => show 0 ≤ q.b ∧ q.b ≤ m + v; omega
    | 2 => show 0 ≤ q.c + v ∧ q.c + v ≤ m + v; omega
    | _ + 3 => show 0 ≤ q.d ∧ q.d ≤ m + v; omega
  | _ + 3 => match j with
    | 0 => show 0 ≤ q.a ∧ q.a ≤ m + v; omega
    | 1 => show 0 ≤ q.b ∧ q.b ≤ m + v; omega
    | 2 => show 0 ≤ q.c ∧ q.c ≤ m + v; omega
    | _ + 3 => show 0 ≤ q.d + v ∧ q.d + v ≤ m + v; omega
def addT (qs : List Q4) (k l : Nat) (v : Int) : List Q4 := qs.set k ((qs.getD k Q4.nil).plus l v)
def pcT (rs : List Fac) : Nat → List Q4
  | 0 => [Q4.nil, Q4.nil, Q4.nil, Q4.nil]
  | i + 1 => if (rs.getD i default).l.size = 0 then addT (pcT rs i) ((edl rs).getD (rs.getD i default).a.toNat 0).toNat ((edf rs).getD (rs.getD i default).b.toNat 0).toNat ((usesOf rs).getD i 0) else pcT rs i
/-- how often each letter comes right behind each one -/
abbrev pcAll (rs : List Fac) : List Q4 := pcT rs rs.length
theorem pcT_len (rs : List Fac) : ∀ i, (pcT rs i).length = 4
  | 0 => rfl
  | i + 1 => by
    unfold pcT
    split
    · unfold addT; rw [List.length_set]; exact pcT_len rs i
    · exact pcT_len rs i
theorem pcT_pair {rs : List Fac} {i : Nat} {r : Fac} (h : rs[i]? = some r) (h0 : r.l.size = 0) : pcT rs (i + 1) = addT (pcT rs i) ((edl rs).getD r.a.toNat 0).toNat ((edf rs).getD r.b.toNat 0).toNat ((usesOf rs).getD i 0) := by
  show (if (rs.getD i default).l.size = 0 then _ else _) = _
  rw [fac_getD h, if_pos h0]
theorem pcT_let {rs : List Fac} {i : Nat} {r : Fac} (h : rs[i]? = some r) (h0 : r.l.size ≠ 0) : pcT rs (i + 1) = pcT rs i := by
  show (if (rs.getD i default).l.size = 0 then _ else _) = _
  rw [fac_getD h, if_neg h0]
theorem qgetD_set (qs : List Q4) (k j : Nat) (q : Q4) (hk : k < qs.length) : (qs.set k q).getD j Q4.nil = if j = k then q else qs.getD j Q4.nil := by
  rw [List.getD_eq_getElem?_getD, List.getD_eq_getElem?_getD, List.getElem?_set]
  by_cases h : k = j
  · subst h; simp [hk]
  · rw [if_neg h, if_neg (fun e => h e.symm)]
theorem pcT_bd {rs : List Fac} {ls : List Int} (hls : gLens rs [] = some ls) (hll : ls.length = rs.length) : ∀ i, i ≤ rs.length → ∀ k, ((pcT rs i).getD k Q4.nil).bd (1000000000000000 * i)
  | 0, _, k => by
    have : (pcT rs 0).getD k Q4.nil = Q4.nil := by
      match k with
      | 0 => rfl
      | 1 => rfl
      | 2 => rfl
      | 3 => rfl
      | _ + 4 => rfl
    rw [this]
    intro j
    match j with
    | 0 => exact ⟨Int.le_refl _, by simp [Q4.at_, Q4.nil]⟩
    | 1 => exact ⟨Int.le_refl _, by simp [Q4.at_, Q4.nil]⟩
    | 2 => exact ⟨Int.le_refl _, by simp [Q4.at_, Q4.nil]⟩
    | _ + 3 => exact ⟨Int.le_refl _, by simp [Q4.at_, Q4.nil]⟩
  | i + 1, hi, k => by
    have ih := pcT_bd hls hll i (by omega)
    have U := uses_inv hls hll (by omega)
    have u1 := U.nn i
    have u2 := U.bd i
    have up : ∀ {q : Q4} {m m' : Int}, q.bd m → m ≤ m' → q.bd m' := fun h h2 j => by have := h j; omega
    unfold pcT
    split
    · unfold addT
      by_cases hk : ((edl rs).getD (rs.getD i default).a.toNat 0).toNat < 4
      · rw [qgetD_set _ _ _ _ (by rw [pcT_len]; exact hk)]
        split
        · exact up (Q4.plus_bd (ih _) _ u1) (by omega)
        · exact up (ih k) (by omega)
      · rw [List.set_eq_of_length_le (by rw [pcT_len]; omega)]
        exact up (ih k) (by omega)
    · exact up (ih k) (by omega)
def totT (qs : List Q4) : Int := ((qs.getD 0 Q4.nil).sum + (qs.getD 1 Q4.nil).sum) + ((qs.getD 2 Q4.nil).sum + (qs.getD 3 Q4.nil).sum)
theorem totT_add (qs : List Q4) (hq : qs.length = 4) {k : Nat} (hk : k < 4) (l : Nat) (v : Int) : totT (addT qs k l v) = totT qs + v := by
  unfold totT addT
  rw [qgetD_set _ _ _ _ (by omega), qgetD_set _ _ _ _ (by omega), qgetD_set _ _ _ _ (by omega), qgetD_set _ _ _ _ (by omega)]
  match k, hk with
  | 0, _ => simp [Q4.plus_sum]; omega
  | 1, _ => simp [Q4.plus_sum]; omega
  | 2, _ => simp [Q4.plus_sum]; omega
  | 3, _ => simp [Q4.plus_sum]; omega
theorem pcT_tot {rs : List Fac} (hwf : WF rs) : ∀ i, i ≤ rs.length → totT (pcT rs i) = sumTo (useP rs (usesOf rs)) i
  | 0, _ => rfl
  | i + 1, hi => by
    have ih := pcT_tot hwf i (by omega)
    have gx : rs[i]? = some (rs[i]'(by omega)) := List.getElem?_eq_getElem _
    show _ = sumTo (useP rs (usesOf rs)) i + useP rs (usesOf rs) i
    unfold useP
    rw [fac_getD gx]
    rcases hwf i _ gx with ⟨h0, ha0, ha1, hb0, hb1⟩ | ⟨c, hc, hl, _⟩
    · rw [pcT_pair gx h0, if_pos h0, totT_add _ (pcT_len _ _) (by have := edl_b hwf (k := (rs[i]'(by omega)).a.toNat) (by omega); omega), ih]; rfl
    · have h0 : (rs[i]'(by omega)).l.size ≠ 0 := by rw [hl]; show (1 : Nat) ≠ 0; omega
      rw [pcT_let gx h0, if_neg h0, ih]; unfold useP; omega
/-- all pairs of letters: one less than letters -/
theorem pc_total {rs : List Fac} {ls : List Int} (hls : gLens rs [] = some ls) (hll : ls.length = rs.length) (h0 : 0 < rs.length) : totT (pcAll rs) = lastI ls - 1 := by
  rw [pcT_tot (wf_of hls) _ (Nat.le_refl _), uses_pairs hls hll h0]

/-- the rows of a table, which lie apart -/
def PTab (w : World) (base : Nat) (gs : List Nat) (qs : List Q4) : Prop := RowsOk w base gs qs ∧ ∀ (i j g : Nat), gs[i]? = some g → gs[j]? = some g → i = j
theorem PTab.below {w w' : World} {base : Nat} {gs : List Nat} {qs : List Q4} (h : PTab w base gs qs) (hb : Below w.heap.size w w') : PTab w' base gs qs :=
  ⟨⟨h.1.1, fun i g hg => ⟨(h.1.2 i g hg).1, (h.1.2 i g hg).2.next hb⟩⟩, h.2⟩
theorem PTab.at_ {w : World} {base : Nat} {gs : List Nat} {qs : List Q4} (h : PTab w base gs qs) {k g : Nat} (hg : gs[k]? = some g) {l : Nat} (hl : l < 4) : w.cell? ⟨g, l, none⟩ = some (.int .i64 ((qs.getD k Q4.nil).at_ l)) := by
  rw [(h.1.2 k g hg).2.cell l]
  simpa using encQ4_at (qs.getD k Q4.nil) hl
theorem PTab.set_ {w : World} {base : Nat} {gs : List Nat} {qs : List Q4} (h : PTab w base gs qs) {k g : Nat} (hg : gs[k]? = some g) {l : Nat} (hl : l < 4) (v : Int) :
    PTab (w.setCell ⟨g, l, none⟩ (.int .i64 ((qs.getD k Q4.nil).at_ l + v))) base gs (addT qs k l v) := by
  have hk : k < qs.length := by rw [← h.1.1]; exact (List.getElem?_eq_some_iff.1 hg).1
  refine ⟨⟨by unfold addT; rw [List.length_set]; exact h.1.1, fun i p hp => ⟨(h.1.2 i p hp).1, ?_⟩⟩, h.2⟩
  unfold addT
  rw [qgetD_set _ _ _ _ hk]
  by_cases hi : i = k
  · subst hi
    obtain rfl : g = p := Option.some.inj (hg.symm.trans hp)
    rw [if_pos rfl, ← Q4.plus_set _ hl]
    exact (h.1.2 i g hg).2.set_ l _
  · rw [if_neg hi]
    exact (h.1.2 i p hp).2.far (fun e => hi (by
      have e : p = g := e
      subst e
      exact h.2 i k p hp hg)) _
/-- what the makers of the table leave -/
def RetPT (w0 : World) (qs : List Q4) (e : Ending) (w' : World) : Prop :=
  ∃ A c gs, e = .returned (.slice A qs.length c) ∧ w'.ownsRow w0.heap.size 43 1 (.slice A qs.length c) qs.length (gs.flatMap encG) ∧ PTab w' w0.heap.size gs qs ∧ Below w0.heap.size w0 w'
/-- one row more -/
theorem PTab.push {w w9 : World} {k c' g : Nat} {A' : Option Addr} {gs : List Nat} {qs : List Q4} {q : Q4} {base : Nat} (h : PTab w base gs qs) (hk : qs.length = k) (hO : w.ownsRow base 43 1 (.slice A' k c') k (gs.flatMap encG))
    (BL : Blk w g 2 (encQ4 q).toArray) (hg : base ≤ g) (hn : ∀ (i p : Nat), gs[i]? = some p → p < g) (o : Obj) (hg9 : (w.alloc o).grownBy w9 (Value.slice A' k c').ownBlock) : PTab w9 base (gs ++ [g]) (qs ++ [q]) := by
  refine ⟨rows_push (hO.alloc o) h.1 hk BL hg (fun _ _ _ hB => hB.alloc o) hg9, fun i j p hi hj => ?_⟩
  have lt : ∀ i, (gs ++ [g])[i]? = some p → i < gs.length ∧ gs[i]? = some p ∨ i = gs.length ∧ p = g := fun i hi => by
    by_cases h1 : i < gs.length
    · exact .inl ⟨h1, by rwa [List.getElem?_append_left h1] at hi⟩
    · have h2 := (List.getElem?_eq_some_iff.1 hi).1
      simp at h2
      have h3 : i = gs.length := by omega
      subst h3
      rw [List.getElem?_append_right (by omega)] at hi
      exact .inr ⟨rfl, by simpa using hi.symm⟩
  rcases lt i hi with ⟨a1, a2⟩ | ⟨a1, a2⟩ <;> rcases lt j hj with ⟨b1, b2⟩ | ⟨b1, b2⟩
  · exact h.2 i j p a2 b2
  · have := hn i p a2; omega
  · have := hn j p b2; omega
  · omega
end Go.Proofs.Ytfanphhlagjkdaa
