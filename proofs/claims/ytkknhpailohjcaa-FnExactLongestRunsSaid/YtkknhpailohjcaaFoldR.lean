/-
  impl.folded at [4]impl.reach: what it makes of a grammar, by the contracts of the two functions that it is handed.
-/
import Derived.Test.YtkknhpailohjcaaFoldI
namespace Go.Proofs.Ytkknhpailohjcaa
open Go.RowKit

structure R4 where
  f0 : Int
  l0 : Int
  m0 : Int
  n0 : Int
  f1 : Int
  l1 : Int
  m1 : Int
  n1 : Int
  f2 : Int
  l2 : Int
  m2 : Int
  n2 : Int
  f3 : Int
  l3 : Int
  m3 : Int
  n3 : Int
  deriving Inhabited, DecidableEq
def R4.nil : R4 := ⟨0, 0, 0, 0, 0, 0, 0, 0, 0, 0, 0, 0, 0, 0, 0, 0⟩
def encR4 (y : R4) : List Value := [.int .i64 y.f0, .int .i64 y.l0, .int .i64 y.m0, .int .i64 y.n0, .int .i64 y.f1, .int .i64 y.l1, .int .i64 y.m1, .int .i64 y.n1, .int .i64 y.f2, .int .i64 y.l2, .int .i64 y.m2, .int .i64 y.n2, .int .i64 y.f3, .int .i64 y.l3, .int .i64 y.m3, .int .i64 y.n3]
theorem elemR4 : Elem Try.prog 68 72 16 128 := Elem.mk' (z := .agg #[.int .i64 0, .int .i64 0, .int .i64 0, .int .i64 0, .int .i64 0, .int .i64 0, .int .i64 0, .int .i64 0, .int .i64 0, .int .i64 0, .int .i64 0, .int .i64 0, .int .i64 0, .int .i64 0, .int .i64 0, .int .i64 0]) Try.underlying68 (by kernel_rfl) rfl
theorem lenR4 (y : R4) : (encR4 y).length = 16 := rfl

set_option maxHeartbeats 2000000 in
set_option maxRecDepth 100000 in
theorem foldR_any (fl fp : Nat) (el : EnterOk fl) (ep : EnterOk fp) (cl cp : Array Value) (F : Nat → R4) (G : R4 → R4 → Fac → R4) (z : R4) (A : Option Addr) (n c : Nat) (rs : List Fac) (w : World) (hn : n ≤ 1048576) (hr : Rd w w.heap.size A n 3 Fac.cells rs) (hwf : WF rs)
    (hF : ∀ (k : Nat) (r : Fac), rs[k]? = some r → r.l.size ≠ 0 → ∀ w', Below w.heap.size w w' → Calls Try.prog fl (#[.int .i64 (letN r.l : Nat)] ++ cl) w' (Ret (.agg #[.int .i64 (F (letN r.l)).f0, .int .i64 (F (letN r.l)).l0, .int .i64 (F (letN r.l)).m0, .int .i64 (F (letN r.l)).n0, .int .i64 (F (letN r.l)).f1, .int .i64 (F (letN r.l)).l1, .int .i64 (F (letN r.l)).m1, .int .i64 (F (letN r.l)).n1, .int .i64 (F (letN r.l)).f2, .int .i64 (F (letN r.l)).l2, .int .i64 (F (letN r.l)).m2, .int .i64 (F (letN r.l)).n2, .int .i64 (F (letN r.l)).f3, .int .i64 (F (letN r.l)).l3, .int .i64 (F (letN r.l)).m3, .int .i64 (F (letN r.l)).n3]) w'))
    (hG : ∀ (k : Nat) (r : Fac), rs[k]? = some r → r.l.size = 0 → ∀ w', Below w.heap.size w w' →
      Calls Try.prog fp (#[(.agg #[.int .i64 ((outs R4.nil F G rs k).getD r.a.toNat R4.nil).f0, .int .i64 ((outs R4.nil F G rs k).getD r.a.toNat R4.nil).l0, .int .i64 ((outs R4.nil F G rs k).getD r.a.toNat R4.nil).m0, .int .i64 ((outs R4.nil F G rs k).getD r.a.toNat R4.nil).n0, .int .i64 ((outs R4.nil F G rs k).getD r.a.toNat R4.nil).f1, .int .i64 ((outs R4.nil F G rs k).getD r.a.toNat R4.nil).l1, .int .i64 ((outs R4.nil F G rs k).getD r.a.toNat R4.nil).m1, .int .i64 ((outs R4.nil F G rs k).getD r.a.toNat R4.nil).n1, .int .i64 ((outs R4.nil F G rs k).getD r.a.toNat R4.nil).f2, .int .i64 ((outs R4.nil F G rs k).getD r.a.toNat R4.nil).l2, .int .i64 ((outs R4.nil F G rs k).getD r.a.toNat R4.nil).m2, .int .i64 ((outs R4.nil F G rs k).getD r.a.toNat R4.nil).n2, .int .i64 ((outs R4.nil F G rs k).getD r.a.toNat R4.nil).f3, .int .i64 ((outs R4.nil F G rs k).getD r.a.toNat R4.nil).l3, .int .i64 ((outs R4.nil F G rs k).getD r.a.toNat R4.nil).m3, .int .i64 ((outs R4.nil F G rs k).getD r.a.toNat R4.nil).n3]), (.agg #[.int .i64 ((outs R4.nil F G rs k).getD r.b.toNat R4.nil).f0, .int .i64 ((outs R4.nil F G rs k).getD r.b.toNat R4.nil).l0, .int .i64 ((outs R4.nil F G rs k).getD r.b.toNat R4.nil).m0, .int .i64 ((outs R4.nil F G rs k).getD r.b.toNat R4.nil).n0, .int .i64 ((outs R4.nil F G rs k).getD r.b.toNat R4.nil).f1, .int .i64 ((outs R4.nil F G rs k).getD r.b.toNat R4.nil).l1, .int .i64 ((outs R4.nil F G rs k).getD r.b.toNat R4.nil).m1, .int .i64 ((outs R4.nil F G rs k).getD r.b.toNat R4.nil).n1, .int .i64 ((outs R4.nil F G rs k).getD r.b.toNat R4.nil).f2, .int .i64 ((outs R4.nil F G rs k).getD r.b.toNat R4.nil).l2, .int .i64 ((outs R4.nil F G rs k).getD r.b.toNat R4.nil).m2, .int .i64 ((outs R4.nil F G rs k).getD r.b.toNat R4.nil).n2, .int .i64 ((outs R4.nil F G rs k).getD r.b.toNat R4.nil).f3, .int .i64 ((outs R4.nil F G rs k).getD r.b.toNat R4.nil).l3, .int .i64 ((outs R4.nil F G rs k).getD r.b.toNat R4.nil).m3, .int .i64 ((outs R4.nil F G rs k).getD r.b.toNat R4.nil).n3]), r.val] ++ cp) w' (Ret (.agg #[.int .i64 (G ((outs R4.nil F G rs k).getD r.a.toNat R4.nil) ((outs R4.nil F G rs k).getD r.b.toNat R4.nil) r).f0, .int .i64 (G ((outs R4.nil F G rs k).getD r.a.toNat R4.nil) ((outs R4.nil F G rs k).getD r.b.toNat R4.nil) r).l0, .int .i64 (G ((outs R4.nil F G rs k).getD r.a.toNat R4.nil) ((outs R4.nil F G rs k).getD r.b.toNat R4.nil) r).m0, .int .i64 (G ((outs R4.nil F G rs k).getD r.a.toNat R4.nil) ((outs R4.nil F G rs k).getD r.b.toNat R4.nil) r).n0, .int .i64 (G ((outs R4.nil F G rs k).getD r.a.toNat R4.nil) ((outs R4.nil F G rs k).getD r.b.toNat R4.nil) r).f1, .int .i64 (G ((outs R4.nil F G rs k).getD r.a.toNat R4.nil) ((outs R4.nil F G rs k).getD r.b.toNat R4.nil) r).l1, .int .i64 (G ((outs R4.nil F G rs k).getD r.a.toNat R4.nil) ((outs R4.nil F G rs k).getD r.b.toNat R4.nil) r).m1, .int .i64 (G ((outs R4.nil F G rs k).getD r.a.toNat R4.nil) ((outs R4.nil F G rs k).getD r.b.toNat R4.nil) r).n1, .int .i64 (G ((outs R4.nil F G rs k).getD r.a.toNat R4.nil) ((outs R4.nil F G rs k).getD r.b.toNat R4.nil) r).f2, .int .i64 (G ((outs R4.nil F G rs k).getD r.a.toNat R4.nil) ((outs R4.nil F G rs k).getD r.b.toNat R4.nil) r).l2, .int .i64 (G ((outs R4.nil F G rs k).getD r.a.toNat R4.nil) ((outs R4.nil F G rs k).getD r.b.toNat R4.nil) r).m2, .int .i64 (G ((outs R4.nil F G rs k).getD r.a.toNat R4.nil) ((outs R4.nil F G rs k).getD r.b.toNat R4.nil) r).n2, .int .i64 (G ((outs R4.nil F G rs k).getD r.a.toNat R4.nil) ((outs R4.nil F G rs k).getD r.b.toNat R4.nil) r).f3, .int .i64 (G ((outs R4.nil F G rs k).getD r.a.toNat R4.nil) ((outs R4.nil F G rs k).getD r.b.toNat R4.nil) r).l3, .int .i64 (G ((outs R4.nil F G rs k).getD r.a.toNat R4.nil) ((outs R4.nil F G rs k).getD r.b.toNat R4.nil) r).m3, .int .i64 (G ((outs R4.nil F G rs k).getD r.a.toNat R4.nil) ((outs R4.nil F G rs k).getD r.b.toNat R4.nil) r).n3]) w')) :
    Calls Try.prog 42 #[.agg #[.slice A n c], (.agg #[.int .i64 z.f0, .int .i64 z.l0, .int .i64 z.m0, .int .i64 z.n0, .int .i64 z.f1, .int .i64 z.l1, .int .i64 z.m1, .int .i64 z.n1, .int .i64 z.f2, .int .i64 z.l2, .int .i64 z.m2, .int .i64 z.n2, .int .i64 z.f3, .int .i64 z.l3, .int .i64 z.m3, .int .i64 z.n3]), .func (.func fl) #[] cl, .func (.func fp) #[] cp] w (RetNew w 72 16 encR4 (foldAll R4.nil F G z rs)) := by
  have hl := Lib.hid hr.len
  have HF := Lib.hid hF; clear hF
  unfold EnterOk at el ep
  have HG := Lib.hid hG; clear hG
  have HW := Lib.hid hwf; clear hwf
  go_enter Try.func42, Try.ntmps42
  go_wp2_with fail
  refine named fun wS HS => ?_
  have hbS0 : Below w.heap.size w wS := by rw [HS.out]; (repeat first | exact Below.refl _ _ | assumption | refine Below.drew ?_ | refine Below.alloc ?_ (by first | exact Nat.le_refl _ | (simp; done) | omega | (simp; omega)) _ | refine Below.setCell ?_ (by first | exact Nat.le_refl _ | (simp; done) | omega | (simp; omega)) _)
  have BN0 : Blk wS (w.heap.size + 1) 72 #[.int .i64 z.f0, .int .i64 z.l0, .int .i64 z.m0, .int .i64 z.n0, .int .i64 z.f1, .int .i64 z.l1, .int .i64 z.m1, .int .i64 z.n1, .int .i64 z.f2, .int .i64 z.l2, .int .i64 z.m2, .int .i64 z.n2, .int .i64 z.f3, .int .i64 z.l3, .int .i64 z.m3, .int .i64 z.n3] := by rw [HS.out]; simpa using (Blk.new (w.alloc _) _ _).alloc _
  have own0 : wS.ownsRow (w.heap.size + 2) 72 16 (.slice (some ⟨w.heap.size + 1 + 1, 0, none⟩) 0 0) 0 [] := by
    rw [HS.out]; simpa using World.ownsRow_made (base := w.heap.size + 2) (e := 72) (size := 16) ((w.alloc (.cells #[.slice A n c] 31)).alloc (.cells #[.int .i64 z.f0, .int .i64 z.l0, .int .i64 z.m0, .int .i64 z.n0, .int .i64 z.f1, .int .i64 z.l1, .int .i64 z.m1, .int .i64 z.n1, .int .i64 z.f2, .int .i64 z.l2, .int .i64 z.m2, .int .i64 z.n2, .int .i64 z.f3, .int .i64 z.l3, .int .i64 z.m3, .int .i64 z.n3] 72)) #[] 0 (by simp) (by unfold maxLen; omega) rfl
  have hzS : w.heap.size + 3 ≤ wS.heap.size := by rw [HS.out]; simp
  have hbS := Lib.hid hbS0; have BN := Lib.hid BN0; have Own0 := Lib.hid own0
  clear hbS0 BN0 own0 HS
  go_loopw [9, 16] (fun o_ i_ w' => ∃ (k : Nat) (A' : Option Addr) (c' : Nat), i_ = .int .i64 k ∧ o_ = .slice A' k c' ∧ k ≤ n ∧
      Hid (w'.ownsRow (w.heap.size + 2) 72 16 (.slice A' k c') k ((outs R4.nil F G rs k).flatMap encR4)) ∧ Below (w.heap.size + 2) wS w') (fun _ i_ _ => n - (intOf i_).toNat)
  case atStart =>
    exact ⟨0, _, 0, rfl, rfl, by omega, Lib.hid (by simpa [outs, foldG] using Own0.out), Below.refl _ _⟩
  case round =>
    obtain ⟨k, A', c', rfl, rfl, hk, hown, hb⟩ := hrel
    have hbw := Lib.hid (hbS.out.trans (hb.mono (by omega)))
    have hzr := hb.size
    by_cases hlt : k < n
    · obtain ⟨b, o, x, rfl, hB, gx, c0, c1, c2⟩ := (hr.next hbw.out).fac hlt
      have Hst := Lib.hid (outs_step R4.nil F G gx)
      have Hol := Lib.hid (outs_len R4.nil F G rs k (by rw [hl.out]; exact hk))
      rcases HW.out k x gx with ⟨h0, ha0, ha1, hb0, hb1⟩ | ⟨cc, hcc, hxl, hxa, hxb⟩
      · have hG := HG.out k x gx h0
        have hfs := Lib.hid (show fStep R4.nil F G (outs R4.nil F G rs k) x = G ((outs R4.nil F G rs k).getD x.a.toNat R4.nil) ((outs R4.nil F G rs k).getD x.b.toNat R4.nil) x by unfold fStep; rw [if_pos h0])
        have HG2 := Lib.hid hG; clear hG gx
        go_wp2_with fail
        refine (isPair_any x true _ (by simpa [isP] using h0)).mono ?_
        rintro e w1 ⟨rfl, hb1'⟩
        obtain ⟨d0, d1, d2⟩ := ((Blk.new wr _ _).next hb1').three
        have b1 := (hb.alloc (by omega) _).trans (hb1'.mono (by simp; omega))
        have hz1 : wr.heap.size < w1.heap.size := ((Blk.new wr 75 #[.string x.l, .int .i64 x.a, .int .i64 x.b]).next hb1').lt
        have own1 := Lib.hid (own_next (hown.out.alloc _) hb1')
        obtain ⟨g, cap, hv, hg0, hg1⟩ := own1.out.form (by omega)
        obtain rfl : A' = some ⟨g, 0, none⟩ := by injection hv
        clear hv
        have na : x.a.toNat < k := by omega
        have nb : x.b.toNat < k := by omega
        have HEa0 := Lib.hid (fun (w2_ : World) (h : w2_.ownsRow (w.heap.size + 2) 72 16 (.slice (some ⟨g, 0, none⟩) k c') k ((outs R4.nil F G rs k).flatMap encR4)) => show w2_.cell? ⟨g, x.a.toNat * 16, none⟩ = some (.int .i64 ((outs R4.nil F G rs k).getD x.a.toNat R4.nil).f0) from by simpa [encR4] using own_at (enc := encR4) (sz := 16) (fun y _ => lenR4 y) h Hol.out R4.nil x.a.toNat na 0 (by omega))
        have HEa1 := Lib.hid (fun (w2_ : World) (h : w2_.ownsRow (w.heap.size + 2) 72 16 (.slice (some ⟨g, 0, none⟩) k c') k ((outs R4.nil F G rs k).flatMap encR4)) => show w2_.cell? ⟨g, x.a.toNat * 16 + 1, none⟩ = some (.int .i64 ((outs R4.nil F G rs k).getD x.a.toNat R4.nil).l0) from by simpa [encR4] using own_at (enc := encR4) (sz := 16) (fun y _ => lenR4 y) h Hol.out R4.nil x.a.toNat na 1 (by omega))
        have HEa2 := Lib.hid (fun (w2_ : World) (h : w2_.ownsRow (w.heap.size + 2) 72 16 (.slice (some ⟨g, 0, none⟩) k c') k ((outs R4.nil F G rs k).flatMap encR4)) => show w2_.cell? ⟨g, x.a.toNat * 16 + 2, none⟩ = some (.int .i64 ((outs R4.nil F G rs k).getD x.a.toNat R4.nil).m0) from by simpa [encR4] using own_at (enc := encR4) (sz := 16) (fun y _ => lenR4 y) h Hol.out R4.nil x.a.toNat na 2 (by omega))
        have HEa3 := Lib.hid (fun (w2_ : World) (h : w2_.ownsRow (w.heap.size + 2) 72 16 (.slice (some ⟨g, 0, none⟩) k c') k ((outs R4.nil F G rs k).flatMap encR4)) => show w2_.cell? ⟨g, x.a.toNat * 16 + 3, none⟩ = some (.int .i64 ((outs R4.nil F G rs k).getD x.a.toNat R4.nil).n0) from by simpa [encR4] using own_at (enc := encR4) (sz := 16) (fun y _ => lenR4 y) h Hol.out R4.nil x.a.toNat na 3 (by omega))
        have HEa4 := Lib.hid (fun (w2_ : World) (h : w2_.ownsRow (w.heap.size + 2) 72 16 (.slice (some ⟨g, 0, none⟩) k c') k ((outs R4.nil F G rs k).flatMap encR4)) => show w2_.cell? ⟨g, x.a.toNat * 16 + 4, none⟩ = some (.int .i64 ((outs R4.nil F G rs k).getD x.a.toNat R4.nil).f1) from by simpa [encR4] using own_at (enc := encR4) (sz := 16) (fun y _ => lenR4 y) h Hol.out R4.nil x.a.toNat na 4 (by omega))
        have HEa5 := Lib.hid (fun (w2_ : World) (h : w2_.ownsRow (w.heap.size + 2) 72 16 (.slice (some ⟨g, 0, none⟩) k c') k ((outs R4.nil F G rs k).flatMap encR4)) => show w2_.cell? ⟨g, x.a.toNat * 16 + 5, none⟩ = some (.int .i64 ((outs R4.nil F G rs k).getD x.a.toNat R4.nil).l1) from by simpa [encR4] using own_at (enc := encR4) (sz := 16) (fun y _ => lenR4 y) h Hol.out R4.nil x.a.toNat na 5 (by omega))
        have HEa6 := Lib.hid (fun (w2_ : World) (h : w2_.ownsRow (w.heap.size + 2) 72 16 (.slice (some ⟨g, 0, none⟩) k c') k ((outs R4.nil F G rs k).flatMap encR4)) => show w2_.cell? ⟨g, x.a.toNat * 16 + 6, none⟩ = some (.int .i64 ((outs R4.nil F G rs k).getD x.a.toNat R4.nil).m1) from by simpa [encR4] using own_at (enc := encR4) (sz := 16) (fun y _ => lenR4 y) h Hol.out R4.nil x.a.toNat na 6 (by omega))
        have HEa7 := Lib.hid (fun (w2_ : World) (h : w2_.ownsRow (w.heap.size + 2) 72 16 (.slice (some ⟨g, 0, none⟩) k c') k ((outs R4.nil F G rs k).flatMap encR4)) => show w2_.cell? ⟨g, x.a.toNat * 16 + 7, none⟩ = some (.int .i64 ((outs R4.nil F G rs k).getD x.a.toNat R4.nil).n1) from by simpa [encR4] using own_at (enc := encR4) (sz := 16) (fun y _ => lenR4 y) h Hol.out R4.nil x.a.toNat na 7 (by omega))
        have HEa8 := Lib.hid (fun (w2_ : World) (h : w2_.ownsRow (w.heap.size + 2) 72 16 (.slice (some ⟨g, 0, none⟩) k c') k ((outs R4.nil F G rs k).flatMap encR4)) => show w2_.cell? ⟨g, x.a.toNat * 16 + 8, none⟩ = some (.int .i64 ((outs R4.nil F G rs k).getD x.a.toNat R4.nil).f2) from by simpa [encR4] using own_at (enc := encR4) (sz := 16) (fun y _ => lenR4 y) h Hol.out R4.nil x.a.toNat na 8 (by omega))
        have HEa9 := Lib.hid (fun (w2_ : World) (h : w2_.ownsRow (w.heap.size + 2) 72 16 (.slice (some ⟨g, 0, none⟩) k c') k ((outs R4.nil F G rs k).flatMap encR4)) => show w2_.cell? ⟨g, x.a.toNat * 16 + 9, none⟩ = some (.int .i64 ((outs R4.nil F G rs k).getD x.a.toNat R4.nil).l2) from by simpa [encR4] using own_at (enc := encR4) (sz := 16) (fun y _ => lenR4 y) h Hol.out R4.nil x.a.toNat na 9 (by omega))
        have HEa10 := Lib.hid (fun (w2_ : World) (h : w2_.ownsRow (w.heap.size + 2) 72 16 (.slice (some ⟨g, 0, none⟩) k c') k ((outs R4.nil F G rs k).flatMap encR4)) => show w2_.cell? ⟨g, x.a.toNat * 16 + 10, none⟩ = some (.int .i64 ((outs R4.nil F G rs k).getD x.a.toNat R4.nil).m2) from by simpa [encR4] using own_at (enc := encR4) (sz := 16) (fun y _ => lenR4 y) h Hol.out R4.nil x.a.toNat na 10 (by omega))
        have HEa11 := Lib.hid (fun (w2_ : World) (h : w2_.ownsRow (w.heap.size + 2) 72 16 (.slice (some ⟨g, 0, none⟩) k c') k ((outs R4.nil F G rs k).flatMap encR4)) => show w2_.cell? ⟨g, x.a.toNat * 16 + 11, none⟩ = some (.int .i64 ((outs R4.nil F G rs k).getD x.a.toNat R4.nil).n2) from by simpa [encR4] using own_at (enc := encR4) (sz := 16) (fun y _ => lenR4 y) h Hol.out R4.nil x.a.toNat na 11 (by omega))
        have HEa12 := Lib.hid (fun (w2_ : World) (h : w2_.ownsRow (w.heap.size + 2) 72 16 (.slice (some ⟨g, 0, none⟩) k c') k ((outs R4.nil F G rs k).flatMap encR4)) => show w2_.cell? ⟨g, x.a.toNat * 16 + 12, none⟩ = some (.int .i64 ((outs R4.nil F G rs k).getD x.a.toNat R4.nil).f3) from by simpa [encR4] using own_at (enc := encR4) (sz := 16) (fun y _ => lenR4 y) h Hol.out R4.nil x.a.toNat na 12 (by omega))
        have HEa13 := Lib.hid (fun (w2_ : World) (h : w2_.ownsRow (w.heap.size + 2) 72 16 (.slice (some ⟨g, 0, none⟩) k c') k ((outs R4.nil F G rs k).flatMap encR4)) => show w2_.cell? ⟨g, x.a.toNat * 16 + 13, none⟩ = some (.int .i64 ((outs R4.nil F G rs k).getD x.a.toNat R4.nil).l3) from by simpa [encR4] using own_at (enc := encR4) (sz := 16) (fun y _ => lenR4 y) h Hol.out R4.nil x.a.toNat na 13 (by omega))
        have HEa14 := Lib.hid (fun (w2_ : World) (h : w2_.ownsRow (w.heap.size + 2) 72 16 (.slice (some ⟨g, 0, none⟩) k c') k ((outs R4.nil F G rs k).flatMap encR4)) => show w2_.cell? ⟨g, x.a.toNat * 16 + 14, none⟩ = some (.int .i64 ((outs R4.nil F G rs k).getD x.a.toNat R4.nil).m3) from by simpa [encR4] using own_at (enc := encR4) (sz := 16) (fun y _ => lenR4 y) h Hol.out R4.nil x.a.toNat na 14 (by omega))
        have HEa15 := Lib.hid (fun (w2_ : World) (h : w2_.ownsRow (w.heap.size + 2) 72 16 (.slice (some ⟨g, 0, none⟩) k c') k ((outs R4.nil F G rs k).flatMap encR4)) => show w2_.cell? ⟨g, x.a.toNat * 16 + 15, none⟩ = some (.int .i64 ((outs R4.nil F G rs k).getD x.a.toNat R4.nil).n3) from by simpa [encR4] using own_at (enc := encR4) (sz := 16) (fun y _ => lenR4 y) h Hol.out R4.nil x.a.toNat na 15 (by omega))
        have HEb0 := Lib.hid (fun (w2_ : World) (h : w2_.ownsRow (w.heap.size + 2) 72 16 (.slice (some ⟨g, 0, none⟩) k c') k ((outs R4.nil F G rs k).flatMap encR4)) => show w2_.cell? ⟨g, x.b.toNat * 16, none⟩ = some (.int .i64 ((outs R4.nil F G rs k).getD x.b.toNat R4.nil).f0) from by simpa [encR4] using own_at (enc := encR4) (sz := 16) (fun y _ => lenR4 y) h Hol.out R4.nil x.b.toNat nb 0 (by omega))
        have HEb1 := Lib.hid (fun (w2_ : World) (h : w2_.ownsRow (w.heap.size + 2) 72 16 (.slice (some ⟨g, 0, none⟩) k c') k ((outs R4.nil F G rs k).flatMap encR4)) => show w2_.cell? ⟨g, x.b.toNat * 16 + 1, none⟩ = some (.int .i64 ((outs R4.nil F G rs k).getD x.b.toNat R4.nil).l0) from by simpa [encR4] using own_at (enc := encR4) (sz := 16) (fun y _ => lenR4 y) h Hol.out R4.nil x.b.toNat nb 1 (by omega))
        have HEb2 := Lib.hid (fun (w2_ : World) (h : w2_.ownsRow (w.heap.size + 2) 72 16 (.slice (some ⟨g, 0, none⟩) k c') k ((outs R4.nil F G rs k).flatMap encR4)) => show w2_.cell? ⟨g, x.b.toNat * 16 + 2, none⟩ = some (.int .i64 ((outs R4.nil F G rs k).getD x.b.toNat R4.nil).m0) from by simpa [encR4] using own_at (enc := encR4) (sz := 16) (fun y _ => lenR4 y) h Hol.out R4.nil x.b.toNat nb 2 (by omega))
        have HEb3 := Lib.hid (fun (w2_ : World) (h : w2_.ownsRow (w.heap.size + 2) 72 16 (.slice (some ⟨g, 0, none⟩) k c') k ((outs R4.nil F G rs k).flatMap encR4)) => show w2_.cell? ⟨g, x.b.toNat * 16 + 3, none⟩ = some (.int .i64 ((outs R4.nil F G rs k).getD x.b.toNat R4.nil).n0) from by simpa [encR4] using own_at (enc := encR4) (sz := 16) (fun y _ => lenR4 y) h Hol.out R4.nil x.b.toNat nb 3 (by omega))
        have HEb4 := Lib.hid (fun (w2_ : World) (h : w2_.ownsRow (w.heap.size + 2) 72 16 (.slice (some ⟨g, 0, none⟩) k c') k ((outs R4.nil F G rs k).flatMap encR4)) => show w2_.cell? ⟨g, x.b.toNat * 16 + 4, none⟩ = some (.int .i64 ((outs R4.nil F G rs k).getD x.b.toNat R4.nil).f1) from by simpa [encR4] using own_at (enc := encR4) (sz := 16) (fun y _ => lenR4 y) h Hol.out R4.nil x.b.toNat nb 4 (by omega))
        have HEb5 := Lib.hid (fun (w2_ : World) (h : w2_.ownsRow (w.heap.size + 2) 72 16 (.slice (some ⟨g, 0, none⟩) k c') k ((outs R4.nil F G rs k).flatMap encR4)) => show w2_.cell? ⟨g, x.b.toNat * 16 + 5, none⟩ = some (.int .i64 ((outs R4.nil F G rs k).getD x.b.toNat R4.nil).l1) from by simpa [encR4] using own_at (enc := encR4) (sz := 16) (fun y _ => lenR4 y) h Hol.out R4.nil x.b.toNat nb 5 (by omega))
        have HEb6 := Lib.hid (fun (w2_ : World) (h : w2_.ownsRow (w.heap.size + 2) 72 16 (.slice (some ⟨g, 0, none⟩) k c') k ((outs R4.nil F G rs k).flatMap encR4)) => show w2_.cell? ⟨g, x.b.toNat * 16 + 6, none⟩ = some (.int .i64 ((outs R4.nil F G rs k).getD x.b.toNat R4.nil).m1) from by simpa [encR4] using own_at (enc := encR4) (sz := 16) (fun y _ => lenR4 y) h Hol.out R4.nil x.b.toNat nb 6 (by omega))
        have HEb7 := Lib.hid (fun (w2_ : World) (h : w2_.ownsRow (w.heap.size + 2) 72 16 (.slice (some ⟨g, 0, none⟩) k c') k ((outs R4.nil F G rs k).flatMap encR4)) => show w2_.cell? ⟨g, x.b.toNat * 16 + 7, none⟩ = some (.int .i64 ((outs R4.nil F G rs k).getD x.b.toNat R4.nil).n1) from by simpa [encR4] using own_at (enc := encR4) (sz := 16) (fun y _ => lenR4 y) h Hol.out R4.nil x.b.toNat nb 7 (by omega))
        have HEb8 := Lib.hid (fun (w2_ : World) (h : w2_.ownsRow (w.heap.size + 2) 72 16 (.slice (some ⟨g, 0, none⟩) k c') k ((outs R4.nil F G rs k).flatMap encR4)) => show w2_.cell? ⟨g, x.b.toNat * 16 + 8, none⟩ = some (.int .i64 ((outs R4.nil F G rs k).getD x.b.toNat R4.nil).f2) from by simpa [encR4] using own_at (enc := encR4) (sz := 16) (fun y _ => lenR4 y) h Hol.out R4.nil x.b.toNat nb 8 (by omega))
        have HEb9 := Lib.hid (fun (w2_ : World) (h : w2_.ownsRow (w.heap.size + 2) 72 16 (.slice (some ⟨g, 0, none⟩) k c') k ((outs R4.nil F G rs k).flatMap encR4)) => show w2_.cell? ⟨g, x.b.toNat * 16 + 9, none⟩ = some (.int .i64 ((outs R4.nil F G rs k).getD x.b.toNat R4.nil).l2) from by simpa [encR4] using own_at (enc := encR4) (sz := 16) (fun y _ => lenR4 y) h Hol.out R4.nil x.b.toNat nb 9 (by omega))
        have HEb10 := Lib.hid (fun (w2_ : World) (h : w2_.ownsRow (w.heap.size + 2) 72 16 (.slice (some ⟨g, 0, none⟩) k c') k ((outs R4.nil F G rs k).flatMap encR4)) => show w2_.cell? ⟨g, x.b.toNat * 16 + 10, none⟩ = some (.int .i64 ((outs R4.nil F G rs k).getD x.b.toNat R4.nil).m2) from by simpa [encR4] using own_at (enc := encR4) (sz := 16) (fun y _ => lenR4 y) h Hol.out R4.nil x.b.toNat nb 10 (by omega))
        have HEb11 := Lib.hid (fun (w2_ : World) (h : w2_.ownsRow (w.heap.size + 2) 72 16 (.slice (some ⟨g, 0, none⟩) k c') k ((outs R4.nil F G rs k).flatMap encR4)) => show w2_.cell? ⟨g, x.b.toNat * 16 + 11, none⟩ = some (.int .i64 ((outs R4.nil F G rs k).getD x.b.toNat R4.nil).n2) from by simpa [encR4] using own_at (enc := encR4) (sz := 16) (fun y _ => lenR4 y) h Hol.out R4.nil x.b.toNat nb 11 (by omega))
        have HEb12 := Lib.hid (fun (w2_ : World) (h : w2_.ownsRow (w.heap.size + 2) 72 16 (.slice (some ⟨g, 0, none⟩) k c') k ((outs R4.nil F G rs k).flatMap encR4)) => show w2_.cell? ⟨g, x.b.toNat * 16 + 12, none⟩ = some (.int .i64 ((outs R4.nil F G rs k).getD x.b.toNat R4.nil).f3) from by simpa [encR4] using own_at (enc := encR4) (sz := 16) (fun y _ => lenR4 y) h Hol.out R4.nil x.b.toNat nb 12 (by omega))
        have HEb13 := Lib.hid (fun (w2_ : World) (h : w2_.ownsRow (w.heap.size + 2) 72 16 (.slice (some ⟨g, 0, none⟩) k c') k ((outs R4.nil F G rs k).flatMap encR4)) => show w2_.cell? ⟨g, x.b.toNat * 16 + 13, none⟩ = some (.int .i64 ((outs R4.nil F G rs k).getD x.b.toNat R4.nil).l3) from by simpa [encR4] using own_at (enc := encR4) (sz := 16) (fun y _ => lenR4 y) h Hol.out R4.nil x.b.toNat nb 13 (by omega))
        have HEb14 := Lib.hid (fun (w2_ : World) (h : w2_.ownsRow (w.heap.size + 2) 72 16 (.slice (some ⟨g, 0, none⟩) k c') k ((outs R4.nil F G rs k).flatMap encR4)) => show w2_.cell? ⟨g, x.b.toNat * 16 + 14, none⟩ = some (.int .i64 ((outs R4.nil F G rs k).getD x.b.toNat R4.nil).m3) from by simpa [encR4] using own_at (enc := encR4) (sz := 16) (fun y _ => lenR4 y) h Hol.out R4.nil x.b.toNat nb 14 (by omega))
        have HEb15 := Lib.hid (fun (w2_ : World) (h : w2_.ownsRow (w.heap.size + 2) 72 16 (.slice (some ⟨g, 0, none⟩) k c') k ((outs R4.nil F G rs k).flatMap encR4)) => show w2_.cell? ⟨g, x.b.toNat * 16 + 15, none⟩ = some (.int .i64 ((outs R4.nil F G rs k).getD x.b.toNat R4.nil).n3) from by simpa [encR4] using own_at (enc := encR4) (sz := 16) (fun y _ => lenR4 y) h Hol.out R4.nil x.b.toNat nb 15 (by omega))
        have va0 := HEa0.out w1 own1.out
        have va1 := HEa1.out w1 own1.out
        have va2 := HEa2.out w1 own1.out
        have va3 := HEa3.out w1 own1.out
        have va4 := HEa4.out w1 own1.out
        have va5 := HEa5.out w1 own1.out
        have va6 := HEa6.out w1 own1.out
        have va7 := HEa7.out w1 own1.out
        have va8 := HEa8.out w1 own1.out
        have va9 := HEa9.out w1 own1.out
        have va10 := HEa10.out w1 own1.out
        have va11 := HEa11.out w1 own1.out
        have va12 := HEa12.out w1 own1.out
        have va13 := HEa13.out w1 own1.out
        have va14 := HEa14.out w1 own1.out
        have va15 := HEa15.out w1 own1.out
        have vb0 := HEb0.out w1 own1.out
        have vb1 := HEb1.out w1 own1.out
        have vb2 := HEb2.out w1 own1.out
        have vb3 := HEb3.out w1 own1.out
        have vb4 := HEb4.out w1 own1.out
        have vb5 := HEb5.out w1 own1.out
        have vb6 := HEb6.out w1 own1.out
        have vb7 := HEb7.out w1 own1.out
        have vb8 := HEb8.out w1 own1.out
        have vb9 := HEb9.out w1 own1.out
        have vb10 := HEb10.out w1 own1.out
        have vb11 := HEb11.out w1 own1.out
        have vb12 := HEb12.out w1 own1.out
        have vb13 := HEb13.out w1 own1.out
        have vb14 := HEb14.out w1 own1.out
        have vb15 := HEb15.out w1 own1.out
        have hgw : some wr.heap.size ≠ (Value.slice (some ⟨g, 0, none⟩) k c').ownBlock := by intro e; have h1 : g < wr.heap.size := (hown.out.lt g rfl).2; have h2 : wr.heap.size = g := Option.some.inj e; omega
        generalize (outs R4.nil F G rs k).getD x.a.toNat R4.nil = y1 at *
        generalize (outs R4.nil F G rs k).getD x.b.toNat R4.nil = y2 at *
        generalize G y1 y2 x = y at *
        clear h0
        have i1 : x.a < (k : Int) := ha1
        have i2 : x.b < (k : Int) := hb1
        have bw1 := Lib.hid (hbS.out.trans (b1.mono (by omega)))
        go_wp2_with fail
        go_region_held3 (fun w' => w'.cell? ⟨wr.heap.size, 0, none⟩ = some (.string x.l) ∧ w'.cell? ⟨wr.heap.size, 1, none⟩ = some (.int .i64 x.a) ∧ w'.cell? ⟨wr.heap.size, 2, none⟩ = some (.int .i64 x.b) ∧ w'.cell? ⟨g, x.a.toNat * 16, none⟩ = some (.int .i64 y1.f0) ∧ w'.cell? ⟨g, x.a.toNat * 16 + 1, none⟩ = some (.int .i64 y1.l0) ∧ w'.cell? ⟨g, x.a.toNat * 16 + 2, none⟩ = some (.int .i64 y1.m0) ∧ w'.cell? ⟨g, x.a.toNat * 16 + 3, none⟩ = some (.int .i64 y1.n0) ∧ w'.cell? ⟨g, x.a.toNat * 16 + 4, none⟩ = some (.int .i64 y1.f1) ∧ w'.cell? ⟨g, x.a.toNat * 16 + 5, none⟩ = some (.int .i64 y1.l1) ∧ w'.cell? ⟨g, x.a.toNat * 16 + 6, none⟩ = some (.int .i64 y1.m1) ∧ w'.cell? ⟨g, x.a.toNat * 16 + 7, none⟩ = some (.int .i64 y1.n1) ∧ w'.cell? ⟨g, x.a.toNat * 16 + 8, none⟩ = some (.int .i64 y1.f2) ∧ w'.cell? ⟨g, x.a.toNat * 16 + 9, none⟩ = some (.int .i64 y1.l2) ∧ w'.cell? ⟨g, x.a.toNat * 16 + 10, none⟩ = some (.int .i64 y1.m2) ∧ w'.cell? ⟨g, x.a.toNat * 16 + 11, none⟩ = some (.int .i64 y1.n2) ∧ w'.cell? ⟨g, x.a.toNat * 16 + 12, none⟩ = some (.int .i64 y1.f3) ∧ w'.cell? ⟨g, x.a.toNat * 16 + 13, none⟩ = some (.int .i64 y1.l3) ∧ w'.cell? ⟨g, x.a.toNat * 16 + 14, none⟩ = some (.int .i64 y1.m3) ∧ w'.cell? ⟨g, x.a.toNat * 16 + 15, none⟩ = some (.int .i64 y1.n3) ∧ w'.cell? ⟨g, x.b.toNat * 16, none⟩ = some (.int .i64 y2.f0) ∧ w'.cell? ⟨g, x.b.toNat * 16 + 1, none⟩ = some (.int .i64 y2.l0) ∧ w'.cell? ⟨g, x.b.toNat * 16 + 2, none⟩ = some (.int .i64 y2.m0) ∧ w'.cell? ⟨g, x.b.toNat * 16 + 3, none⟩ = some (.int .i64 y2.n0) ∧ w'.cell? ⟨g, x.b.toNat * 16 + 4, none⟩ = some (.int .i64 y2.f1) ∧ w'.cell? ⟨g, x.b.toNat * 16 + 5, none⟩ = some (.int .i64 y2.l1) ∧ w'.cell? ⟨g, x.b.toNat * 16 + 6, none⟩ = some (.int .i64 y2.m1) ∧ w'.cell? ⟨g, x.b.toNat * 16 + 7, none⟩ = some (.int .i64 y2.n1) ∧ w'.cell? ⟨g, x.b.toNat * 16 + 8, none⟩ = some (.int .i64 y2.f2) ∧ w'.cell? ⟨g, x.b.toNat * 16 + 9, none⟩ = some (.int .i64 y2.l2) ∧ w'.cell? ⟨g, x.b.toNat * 16 + 10, none⟩ = some (.int .i64 y2.m2) ∧ w'.cell? ⟨g, x.b.toNat * 16 + 11, none⟩ = some (.int .i64 y2.n2) ∧ w'.cell? ⟨g, x.b.toNat * 16 + 12, none⟩ = some (.int .i64 y2.f3) ∧ w'.cell? ⟨g, x.b.toNat * 16 + 13, none⟩ = some (.int .i64 y2.l3) ∧ w'.cell? ⟨g, x.b.toNat * 16 + 14, none⟩ = some (.int .i64 y2.m3) ∧ w'.cell? ⟨g, x.b.toNat * 16 + 15, none⟩ = some (.int .i64 y2.n3))
          (first | exact ⟨t0, t1, t2, t3, t4, t5, t6, t7, t8, t9, t10, t11, t12, t13, t14, t15, t16, t17, t18, t19, t20, t21, t22, t23, t24, t25, t26, t27, t28, t29, t30, t31, t32, t33, t34⟩ | exact ⟨s0, s1, s2, s3, s4, s5, s6, s7, s8, s9, s10, s11, s12, s13, s14, s15, s16, s17, s18, s19, s20, s21, s22, s23, s24, s25, s26, s27, s28, s29, s30, s31, s32, s33, s34⟩ | go_keep)
          (first
            | (refine (HG2.out _ bw1.out.drew).mono ?_
               rintro e w2 ⟨rfl, hb2⟩
               have hz2 : wr.heap.size < w2.heap.size := Nat.lt_of_lt_of_le hz1 hb2.size
               have s0 : w2.cell? ⟨wr.heap.size, 0, none⟩ = some (.string x.l) := (hb2.cell (p := ⟨wr.heap.size, 0, none⟩) hz1).trans d0
               have s1 : w2.cell? ⟨wr.heap.size, 1, none⟩ = some (.int .i64 x.a) := (hb2.cell (p := ⟨wr.heap.size, 1, none⟩) hz1).trans d1
               have s2 : w2.cell? ⟨wr.heap.size, 2, none⟩ = some (.int .i64 x.b) := (hb2.cell (p := ⟨wr.heap.size, 2, none⟩) hz1).trans d2
               have s3 : w2.cell? ⟨g, x.a.toNat * 16, none⟩ = some (.int .i64 y1.f0) := (hb2.cell (p := ⟨g, x.a.toNat * 16, none⟩) hg1).trans va0
               have s4 : w2.cell? ⟨g, x.a.toNat * 16 + 1, none⟩ = some (.int .i64 y1.l0) := (hb2.cell (p := ⟨g, x.a.toNat * 16 + 1, none⟩) hg1).trans va1
               have s5 : w2.cell? ⟨g, x.a.toNat * 16 + 2, none⟩ = some (.int .i64 y1.m0) := (hb2.cell (p := ⟨g, x.a.toNat * 16 + 2, none⟩) hg1).trans va2
               have s6 : w2.cell? ⟨g, x.a.toNat * 16 + 3, none⟩ = some (.int .i64 y1.n0) := (hb2.cell (p := ⟨g, x.a.toNat * 16 + 3, none⟩) hg1).trans va3
               have s7 : w2.cell? ⟨g, x.a.toNat * 16 + 4, none⟩ = some (.int .i64 y1.f1) := (hb2.cell (p := ⟨g, x.a.toNat * 16 + 4, none⟩) hg1).trans va4
               have s8 : w2.cell? ⟨g, x.a.toNat * 16 + 5, none⟩ = some (.int .i64 y1.l1) := (hb2.cell (p := ⟨g, x.a.toNat * 16 + 5, none⟩) hg1).trans va5
               have s9 : w2.cell? ⟨g, x.a.toNat * 16 + 6, none⟩ = some (.int .i64 y1.m1) := (hb2.cell (p := ⟨g, x.a.toNat * 16 + 6, none⟩) hg1).trans va6
               have s10 : w2.cell? ⟨g, x.a.toNat * 16 + 7, none⟩ = some (.int .i64 y1.n1) := (hb2.cell (p := ⟨g, x.a.toNat * 16 + 7, none⟩) hg1).trans va7
               have s11 : w2.cell? ⟨g, x.a.toNat * 16 + 8, none⟩ = some (.int .i64 y1.f2) := (hb2.cell (p := ⟨g, x.a.toNat * 16 + 8, none⟩) hg1).trans va8
               have s12 : w2.cell? ⟨g, x.a.toNat * 16 + 9, none⟩ = some (.int .i64 y1.l2) := (hb2.cell (p := ⟨g, x.a.toNat * 16 + 9, none⟩) hg1).trans va9
               have s13 : w2.cell? ⟨g, x.a.toNat * 16 + 10, none⟩ = some (.int .i64 y1.m2) := (hb2.cell (p := ⟨g, x.a.toNat * 16 + 10, none⟩) hg1).trans va10
               have s14 : w2.cell? ⟨g, x.a.toNat * 16 + 11, none⟩ = some (.int .i64 y1.n2) := (hb2.cell (p := ⟨g, x.a.toNat * 16 + 11, none⟩) hg1).trans va11
               have s15 : w2.cell? ⟨g, x.a.toNat * 16 + 12, none⟩ = some (.int .i64 y1.f3) := (hb2.cell (p := ⟨g, x.a.toNat * 16 + 12, none⟩) hg1).trans va12
               have s16 : w2.cell? ⟨g, x.a.toNat * 16 + 13, none⟩ = some (.int .i64 y1.l3) := (hb2.cell (p := ⟨g, x.a.toNat * 16 + 13, none⟩) hg1).trans va13
               have s17 : w2.cell? ⟨g, x.a.toNat * 16 + 14, none⟩ = some (.int .i64 y1.m3) := (hb2.cell (p := ⟨g, x.a.toNat * 16 + 14, none⟩) hg1).trans va14
               have s18 : w2.cell? ⟨g, x.a.toNat * 16 + 15, none⟩ = some (.int .i64 y1.n3) := (hb2.cell (p := ⟨g, x.a.toNat * 16 + 15, none⟩) hg1).trans va15
               have s19 : w2.cell? ⟨g, x.b.toNat * 16, none⟩ = some (.int .i64 y2.f0) := (hb2.cell (p := ⟨g, x.b.toNat * 16, none⟩) hg1).trans vb0
               have s20 : w2.cell? ⟨g, x.b.toNat * 16 + 1, none⟩ = some (.int .i64 y2.l0) := (hb2.cell (p := ⟨g, x.b.toNat * 16 + 1, none⟩) hg1).trans vb1
               have s21 : w2.cell? ⟨g, x.b.toNat * 16 + 2, none⟩ = some (.int .i64 y2.m0) := (hb2.cell (p := ⟨g, x.b.toNat * 16 + 2, none⟩) hg1).trans vb2
               have s22 : w2.cell? ⟨g, x.b.toNat * 16 + 3, none⟩ = some (.int .i64 y2.n0) := (hb2.cell (p := ⟨g, x.b.toNat * 16 + 3, none⟩) hg1).trans vb3
               have s23 : w2.cell? ⟨g, x.b.toNat * 16 + 4, none⟩ = some (.int .i64 y2.f1) := (hb2.cell (p := ⟨g, x.b.toNat * 16 + 4, none⟩) hg1).trans vb4
               have s24 : w2.cell? ⟨g, x.b.toNat * 16 + 5, none⟩ = some (.int .i64 y2.l1) := (hb2.cell (p := ⟨g, x.b.toNat * 16 + 5, none⟩) hg1).trans vb5
               have s25 : w2.cell? ⟨g, x.b.toNat * 16 + 6, none⟩ = some (.int .i64 y2.m1) := (hb2.cell (p := ⟨g, x.b.toNat * 16 + 6, none⟩) hg1).trans vb6
               have s26 : w2.cell? ⟨g, x.b.toNat * 16 + 7, none⟩ = some (.int .i64 y2.n1) := (hb2.cell (p := ⟨g, x.b.toNat * 16 + 7, none⟩) hg1).trans vb7
               have s27 : w2.cell? ⟨g, x.b.toNat * 16 + 8, none⟩ = some (.int .i64 y2.f2) := (hb2.cell (p := ⟨g, x.b.toNat * 16 + 8, none⟩) hg1).trans vb8
               have s28 : w2.cell? ⟨g, x.b.toNat * 16 + 9, none⟩ = some (.int .i64 y2.l2) := (hb2.cell (p := ⟨g, x.b.toNat * 16 + 9, none⟩) hg1).trans vb9
               have s29 : w2.cell? ⟨g, x.b.toNat * 16 + 10, none⟩ = some (.int .i64 y2.m2) := (hb2.cell (p := ⟨g, x.b.toNat * 16 + 10, none⟩) hg1).trans vb10
               have s30 : w2.cell? ⟨g, x.b.toNat * 16 + 11, none⟩ = some (.int .i64 y2.n2) := (hb2.cell (p := ⟨g, x.b.toNat * 16 + 11, none⟩) hg1).trans vb11
               have s31 : w2.cell? ⟨g, x.b.toNat * 16 + 12, none⟩ = some (.int .i64 y2.f3) := (hb2.cell (p := ⟨g, x.b.toNat * 16 + 12, none⟩) hg1).trans vb12
               have s32 : w2.cell? ⟨g, x.b.toNat * 16 + 13, none⟩ = some (.int .i64 y2.l3) := (hb2.cell (p := ⟨g, x.b.toNat * 16 + 13, none⟩) hg1).trans vb13
               have s33 : w2.cell? ⟨g, x.b.toNat * 16 + 14, none⟩ = some (.int .i64 y2.m3) := (hb2.cell (p := ⟨g, x.b.toNat * 16 + 14, none⟩) hg1).trans vb14
               have s34 : w2.cell? ⟨g, x.b.toNat * 16 + 15, none⟩ = some (.int .i64 y2.n3) := (hb2.cell (p := ⟨g, x.b.toNat * 16 + 15, none⟩) hg1).trans vb15)
            | (refine step_push (by rfl) _ _ _ (by rfl) (w.heap.size + 2) 72 16 128 elemR4 encR4 (some ⟨g, 0, none⟩) k c' (outs R4.nil F G rs k) (by rfl) ((own_next own1.out.drew hb2).alloc _) w2.heap.size y #[.int .i64 y.f0, .int .i64 y.l0, .int .i64 y.m0, .int .i64 y.n0, .int .i64 y.f1, .int .i64 y.l1, .int .i64 y.m1, .int .i64 y.n1, .int .i64 y.f2, .int .i64 y.l2, .int .i64 y.m2, .int .i64 y.n2, .int .i64 y.f3, .int .i64 y.l3, .int .i64 y.m3, .int .i64 y.n3] 72 (0, 0) (by rfl) (heap_alloc_new _ _) rfl rfl (by simp [encR4, Value.oneCell']) (by omega) (by omega) (by unfold maxLen; omega) (Nat.le_trans (Nat.le_trans (by omega) (Nat.le_of_lt hz2)) (by simp)) ?_
               intro A5 c5 w5 own5 hg5 old5
               have t0 : w5.cell? ⟨wr.heap.size, 0, none⟩ = some (.string x.l) := far_alloc hg5 s0 hz2 hgw
               have t1 : w5.cell? ⟨wr.heap.size, 1, none⟩ = some (.int .i64 x.a) := far_alloc hg5 s1 hz2 hgw
               have t2 : w5.cell? ⟨wr.heap.size, 2, none⟩ = some (.int .i64 x.b) := far_alloc hg5 s2 hz2 hgw
               have t3 : w5.cell? ⟨g, x.a.toNat * 16, none⟩ = some (.int .i64 y1.f0) := HEa0.out w5 old5
               have t4 : w5.cell? ⟨g, x.a.toNat * 16 + 1, none⟩ = some (.int .i64 y1.l0) := HEa1.out w5 old5
               have t5 : w5.cell? ⟨g, x.a.toNat * 16 + 2, none⟩ = some (.int .i64 y1.m0) := HEa2.out w5 old5
               have t6 : w5.cell? ⟨g, x.a.toNat * 16 + 3, none⟩ = some (.int .i64 y1.n0) := HEa3.out w5 old5
               have t7 : w5.cell? ⟨g, x.a.toNat * 16 + 4, none⟩ = some (.int .i64 y1.f1) := HEa4.out w5 old5
               have t8 : w5.cell? ⟨g, x.a.toNat * 16 + 5, none⟩ = some (.int .i64 y1.l1) := HEa5.out w5 old5
               have t9 : w5.cell? ⟨g, x.a.toNat * 16 + 6, none⟩ = some (.int .i64 y1.m1) := HEa6.out w5 old5
               have t10 : w5.cell? ⟨g, x.a.toNat * 16 + 7, none⟩ = some (.int .i64 y1.n1) := HEa7.out w5 old5
               have t11 : w5.cell? ⟨g, x.a.toNat * 16 + 8, none⟩ = some (.int .i64 y1.f2) := HEa8.out w5 old5
               have t12 : w5.cell? ⟨g, x.a.toNat * 16 + 9, none⟩ = some (.int .i64 y1.l2) := HEa9.out w5 old5
               have t13 : w5.cell? ⟨g, x.a.toNat * 16 + 10, none⟩ = some (.int .i64 y1.m2) := HEa10.out w5 old5
               have t14 : w5.cell? ⟨g, x.a.toNat * 16 + 11, none⟩ = some (.int .i64 y1.n2) := HEa11.out w5 old5
               have t15 : w5.cell? ⟨g, x.a.toNat * 16 + 12, none⟩ = some (.int .i64 y1.f3) := HEa12.out w5 old5
               have t16 : w5.cell? ⟨g, x.a.toNat * 16 + 13, none⟩ = some (.int .i64 y1.l3) := HEa13.out w5 old5
               have t17 : w5.cell? ⟨g, x.a.toNat * 16 + 14, none⟩ = some (.int .i64 y1.m3) := HEa14.out w5 old5
               have t18 : w5.cell? ⟨g, x.a.toNat * 16 + 15, none⟩ = some (.int .i64 y1.n3) := HEa15.out w5 old5
               have t19 : w5.cell? ⟨g, x.b.toNat * 16, none⟩ = some (.int .i64 y2.f0) := HEb0.out w5 old5
               have t20 : w5.cell? ⟨g, x.b.toNat * 16 + 1, none⟩ = some (.int .i64 y2.l0) := HEb1.out w5 old5
               have t21 : w5.cell? ⟨g, x.b.toNat * 16 + 2, none⟩ = some (.int .i64 y2.m0) := HEb2.out w5 old5
               have t22 : w5.cell? ⟨g, x.b.toNat * 16 + 3, none⟩ = some (.int .i64 y2.n0) := HEb3.out w5 old5
               have t23 : w5.cell? ⟨g, x.b.toNat * 16 + 4, none⟩ = some (.int .i64 y2.f1) := HEb4.out w5 old5
               have t24 : w5.cell? ⟨g, x.b.toNat * 16 + 5, none⟩ = some (.int .i64 y2.l1) := HEb5.out w5 old5
               have t25 : w5.cell? ⟨g, x.b.toNat * 16 + 6, none⟩ = some (.int .i64 y2.m1) := HEb6.out w5 old5
               have t26 : w5.cell? ⟨g, x.b.toNat * 16 + 7, none⟩ = some (.int .i64 y2.n1) := HEb7.out w5 old5
               have t27 : w5.cell? ⟨g, x.b.toNat * 16 + 8, none⟩ = some (.int .i64 y2.f2) := HEb8.out w5 old5
               have t28 : w5.cell? ⟨g, x.b.toNat * 16 + 9, none⟩ = some (.int .i64 y2.l2) := HEb9.out w5 old5
               have t29 : w5.cell? ⟨g, x.b.toNat * 16 + 10, none⟩ = some (.int .i64 y2.m2) := HEb10.out w5 old5
               have t30 : w5.cell? ⟨g, x.b.toNat * 16 + 11, none⟩ = some (.int .i64 y2.n2) := HEb11.out w5 old5
               have t31 : w5.cell? ⟨g, x.b.toNat * 16 + 12, none⟩ = some (.int .i64 y2.f3) := HEb12.out w5 old5
               have t32 : w5.cell? ⟨g, x.b.toNat * 16 + 13, none⟩ = some (.int .i64 y2.l3) := HEb13.out w5 old5
               have t33 : w5.cell? ⟨g, x.b.toNat * 16 + 14, none⟩ = some (.int .i64 y2.m3) := HEb14.out w5 old5
               have t34 : w5.cell? ⟨g, x.b.toNat * 16 + 15, none⟩ = some (.int .i64 y2.n3) := HEb15.out w5 old5))
        go_wp2_with fail
        go_roundw
        case rel =>
          refine ⟨k + 1, A5, c5, by go_num, rfl, by omega, Lib.hid ?_, ?_⟩
          · rw [Hst.out, hfs.out]; exact own5
          · exact ((b1.drew.trans (hb2.mono (by simp; omega))).alloc (by omega) _).grown hg5 (by simp; omega) (own_ge own1.out)
        case measure => simp [intOf]; omega
      · obtain ⟨xl, xa, xb⟩ := x
        simp only at hxl hxa hxb c0 c1 c2
        subst hxl hxa hxb
        obtain ⟨hl0, hl1⟩ := letB_num hcc
        have hF := HF.out k _ gx (by show (1 : Nat) ≠ 0; omega)
        have hfs := Lib.hid (show fStep R4.nil F G (outs R4.nil F G rs k) ⟨⟨#[cc]⟩, 0, 0⟩ = F (letN ⟨#[cc]⟩) from rfl)
        have hln := Lib.hid (show ((letN ⟨#[cc]⟩ : Nat) : Int) = (cc.toNat : Int) - 97 by rw [letN_one]; omega)
        simp only at hF
        rw [hln.out] at hF
        generalize F (letN ⟨#[cc]⟩) = y at *
        have HF2 := Lib.hid hF; clear hF gx hcc
        go_wp2_with fail
        refine (isPair_any ⟨⟨#[cc]⟩, 0, 0⟩ false _ (decide_eq_false (show ¬ (1 : Nat) = 0 by omega))).mono ?_
        rintro e w1 ⟨rfl, hb1'⟩
        obtain ⟨d0, d1, d2⟩ := ((Blk.new wr _ _).next hb1').three
        have b1 := (hb.alloc (by omega) _).trans (hb1'.mono (by simp; omega))
        have own1 := Lib.hid (own_next (hown.out.alloc _) hb1')
        have hz1 := b1.size
        go_wp2_with fail
        refine calls_arg (b := (cc.toNat : Int) - 97) (by show ((cc.toNat : Int) - 97) % 256 = _; omega) ?_
        refine (HF2.out _ (hbS.out.trans (b1.mono (by omega)))).mono ?_
        rintro e w2 ⟨rfl, hb2⟩
        have b2 := b1.trans (hb2.mono (by omega))
        have hz2 := b2.size
        have own2 := Lib.hid (own_next own1.out hb2)
        go_wp2_with
          (at_builtin
           refine wpList_pushG rfl _ _ _ rfl (w.heap.size + 2) 72 16 128 elemR4 encR4 _ k c' (outs R4.nil F G rs k) rfl (own2.out.alloc _) w2.heap.size y #[.int .i64 y.f0, .int .i64 y.l0, .int .i64 y.m0, .int .i64 y.n0, .int .i64 y.f1, .int .i64 y.l1, .int .i64 y.m1, .int .i64 y.n1, .int .i64 y.f2, .int .i64 y.l2, .int .i64 y.m2, .int .i64 y.n2, .int .i64 y.f3, .int .i64 y.l3, .int .i64 y.m3, .int .i64 y.n3] 72 (0, 0) rfl (heap_alloc_new _ _) rfl rfl (by simp [encR4, Value.oneCell']) (by omega) (by omega) (by unfold maxLen; omega) (by simp; omega) ?_
           intro A9 c9 w9 own9 hg9 hat9
           have O9 := Lib.hid own9
           have hb9 := Lib.hid ((b2.alloc (by omega) _).grown hg9 (by simp; omega) (own_ge own2.out)); clear own9 hat9)
        go_roundw
        case rel =>
          refine ⟨k + 1, A9, c9, by go_num, rfl, by omega, Lib.hid ?_, hb9.out⟩
          rw [Hst.out, hfs.out]; exact O9.out
        case measure => simp [intOf]; omega
    · have hkn : k = n := by omega
      have Hall := Lib.hid (outs_all R4.nil F G rs k (by rw [hl.out]; omega))
      have Hol := Lib.hid (outs_len R4.nil F G rs k (by rw [hl.out]; omega))
      have BNr := BN.out.below hb (by omega)
      have n0 : wr.cell? ⟨w.heap.size + 1, 0, none⟩ = some (.int .i64 z.f0) := BNr.cell 0
      have n1 : wr.cell? ⟨w.heap.size + 1, 1, none⟩ = some (.int .i64 z.l0) := BNr.cell 1
      have n2 : wr.cell? ⟨w.heap.size + 1, 2, none⟩ = some (.int .i64 z.m0) := BNr.cell 2
      have n3 : wr.cell? ⟨w.heap.size + 1, 3, none⟩ = some (.int .i64 z.n0) := BNr.cell 3
      have n4 : wr.cell? ⟨w.heap.size + 1, 4, none⟩ = some (.int .i64 z.f1) := BNr.cell 4
      have n5 : wr.cell? ⟨w.heap.size + 1, 5, none⟩ = some (.int .i64 z.l1) := BNr.cell 5
      have n6 : wr.cell? ⟨w.heap.size + 1, 6, none⟩ = some (.int .i64 z.m1) := BNr.cell 6
      have n7 : wr.cell? ⟨w.heap.size + 1, 7, none⟩ = some (.int .i64 z.n1) := BNr.cell 7
      have n8 : wr.cell? ⟨w.heap.size + 1, 8, none⟩ = some (.int .i64 z.f2) := BNr.cell 8
      have n9 : wr.cell? ⟨w.heap.size + 1, 9, none⟩ = some (.int .i64 z.l2) := BNr.cell 9
      have n10 : wr.cell? ⟨w.heap.size + 1, 10, none⟩ = some (.int .i64 z.m2) := BNr.cell 10
      have n11 : wr.cell? ⟨w.heap.size + 1, 11, none⟩ = some (.int .i64 z.n2) := BNr.cell 11
      have n12 : wr.cell? ⟨w.heap.size + 1, 12, none⟩ = some (.int .i64 z.f3) := BNr.cell 12
      have n13 : wr.cell? ⟨w.heap.size + 1, 13, none⟩ = some (.int .i64 z.l3) := BNr.cell 13
      have n14 : wr.cell? ⟨w.heap.size + 1, 14, none⟩ = some (.int .i64 z.m3) := BNr.cell 14
      have n15 : wr.cell? ⟨w.heap.size + 1, 15, none⟩ = some (.int .i64 z.n3) := BNr.cell 15
      have zn := BNr.lt
      by_cases h0 : k = 0
      · subst h0
        have e0 := Lib.hid (show foldAll R4.nil F G z rs = [z] by unfold foldAll; rw [hl.out, if_pos hkn.symm])
        have e1 := Lib.hid (show outs R4.nil F G rs 0 = [] by unfold outs; simp [foldG])
        have own1 : wr.ownsRow (w.heap.size + 2) 72 16 (.slice A' 0 c') 0 (([] : List R4).flatMap encR4) := by rw [← e1.out]; exact hown.out
        have Own1 := Lib.hid own1; clear own1 hkn
        go_wp2_with
          (at_builtin
           refine wpList_pushG rfl _ _ _ rfl (w.heap.size + 2) 72 16 128 elemR4 encR4 _ 0 c' [] rfl (Own1.out.alloc _) wr.heap.size z #[.int .i64 z.f0, .int .i64 z.l0, .int .i64 z.m0, .int .i64 z.n0, .int .i64 z.f1, .int .i64 z.l1, .int .i64 z.m1, .int .i64 z.n1, .int .i64 z.f2, .int .i64 z.l2, .int .i64 z.m2, .int .i64 z.n2, .int .i64 z.f3, .int .i64 z.l3, .int .i64 z.m3, .int .i64 z.n3] 72 (0, 0) rfl (heap_alloc_new _ _) rfl rfl (by simp [encR4, Value.oneCell']) (by omega) (by omega) (by unfold maxLen; omega) (by simp; omega) ?_
           intro A9 c9 w9 own9 hg9 hat9
           have O9 := Lib.hid own9
           have hb9 := Lib.hid ((hb.alloc (by omega) _).grown hg9 (by simp; omega) (own_ge Own1.out)); clear own9 hat9)
        go_ret
        rw [e0.out]
        exact ⟨A9, c9, rfl, O9.out.mono (by omega), hbS.out.trans (hb9.out.mono (by omega))⟩
      · have e0 := Lib.hid (show foldAll R4.nil F G z rs = outs R4.nil F G rs k by unfold foldAll; rw [hl.out, if_neg (by omega), Hall.out])
        have h1 : ((k : Int) == 0) = false := by simp; omega
        clear h0 hkn
        go_wp2_with fail
        go_ret
        rw [e0.out]
        refine ⟨A', c', ret_slice Hol.out.symm, ?_, hbw.out⟩
        rw [Hol.out]
        exact hown.out.mono (by omega)
end Go.Proofs.Ytkknhpailohjcaa
