/-
  The longest runs of the letters in the reference.
-/
import Derived.Test.YtkknhpailohjcaaLrM
import Derived.Test.YtkknhpailohjcaaStop
import Derived.Test.YtkknhpailohjcaaGramS
import Derived.Test.YtkknhpailohjcaaLett
import Derived.Test.YtkknhpailohjcaaPlace
import Derived.Test.YtkknhpailohjcaaFrame
import Derived.Deep.RegionHeld3
namespace Go.Proofs.Ytkknhpailohjcaa
open Go.RowKit

def encSr (y : Sr) : List Value := [.int .i64 y.f, .int .i64 y.b, .int .i64 y.m]
theorem lenSr (y : Sr) : (encSr y).length = 3 := rfl
theorem sr_bound {rs : List Fac} {ls : List Int} (hls : gLens rs [] = some ls) {l : Nat} (hl : l < 4) {k : Nat} (hk : k < rs.length) :
    0 ≤ ((srAll ls l rs).getD k Sr.nil).f ∧ ((srAll ls l rs).getD k Sr.nil).f ≤ 1000000000000000 ∧ 0 ≤ ((srAll ls l rs).getD k Sr.nil).b ∧ ((srAll ls l rs).getD k Sr.nil).b ≤ 1000000000000000 ∧ 0 ≤ ((srAll ls l rs).getD k Sr.nil).m ∧ ((srAll ls l rs).getD k Sr.nil).m ≤ 1000000000000000 := by
  have h := lr_bound hls hk l hl
  rw [lr_sr hls hl k hk] at h
  have b := lens_bound hls hk
  obtain ⟨h0, h1, h2, h3, h4, h5, _⟩ := h
  simp only at h0 h1 h2 h3 h4 h5
  omega
theorem srG_at (ls : List Int) (f1 b1 t1 f2 b2 t2 : Int) (x : Fac) : srG ls ⟨f1, b1, t1⟩ ⟨f2, b2, t2⟩ x = ⟨if f1 = ls.getD x.a.toNat 0 then f1 + f2 else f1, if b2 = ls.getD x.b.toNat 0 then b2 + b1 else b2, max (max t1 t2) (b1 + f2)⟩ := rfl
theorem own_set_far {w : World} {base e sz n m i : Nat} {v : Value} {xs : List Value} {u : Value} (h : w.ownsRow base e sz v n xs) (hz : ∀ g, v.ownBlock = some g → g < m) : (w.setCell ⟨m + 1, i, none⟩ u).ownsRow base e sz v n xs := by
  refine h.kept (gb_set w (m + 1) i u) ?_
  cases hv : v.ownBlock with
  | none => exact .inl rfl
  | some k => exact .inr fun e => by have := hz k hv; injection e with e; omega
theorem size_set1 (w : World) (p : Addr) (u : Value) : (w.setCell p u).heap.size = w.heap.size := by simp
/-- a round of the reference under way: the rule, the runs that are put together, and what was there -/
structure LrSt (w : World) (P0 P1 P2 P3 g k c' pD oA oB : Nat) (xl : ByteArray) (xa xb f1 b1 t1 f2 b2 t2 la lb : Int) (out : List Sr) (W : World) (v : Array Value) : Prop where
  rl : Blk W P0 75 #[.string xl, .int .i64 xa, .int .i64 xb]
  y : Blk W P1 63 v
  a : Blk W P2 63 #[.int .i64 f1, .int .i64 b1, .int .i64 t1]
  b : Blk W P3 63 #[.int .i64 f2, .int .i64 b2, .int .i64 t2]
  o : W.ownsRow w.heap.size 63 3 (.slice (some ⟨g, 0, none⟩) k c') k (out.flatMap encSr)
  e : Below w.heap.size w W
  da : W.cell? ⟨pD, oA, none⟩ = some (.int .i64 la)
  db : W.cell? ⟨pD, oB, none⟩ = some (.int .i64 lb)
  n0 : P0 ≠ P1
  n2 : P2 ≠ P1
  n3 : P3 ≠ P1
  ng : P1 ≠ g
  nD : pD < P1
  nw : w.heap.size ≤ P1
section
variable {w : World} {P0 P1 P2 P3 g k c' pD oA oB : Nat} {xl : ByteArray} {xa xb f1 b1 t1 f2 b2 t2 la lb : Int} {out : List Sr} {W W' : World} {v : Array Value}
theorem LrSt.next (h : LrSt w P0 P1 P2 P3 g k c' pD oA oB xl xa xb f1 b1 t1 f2 b2 t2 la lb out W v) (hb : Below W.heap.size W W') : LrSt w P0 P1 P2 P3 g k c' pD oA oB xl xa xb f1 b1 t1 f2 b2 t2 la lb out W' v :=
  have hp : pD < W.heap.size := by have := h.y.lt; have := h.nD; omega
  ⟨h.rl.next hb, h.y.next hb, h.a.next hb, h.b.next hb, own_next h.o hb, h.e.trans (hb.mono h.e.size), (hb.cell (p := ⟨pD, oA, none⟩) hp).trans h.da, (hb.cell (p := ⟨pD, oB, none⟩) hp).trans h.db, h.n0, h.n2, h.n3, h.ng, h.nD, h.nw⟩
theorem LrSt.set (h : LrSt w P0 P1 P2 P3 g k c' pD oA oB xl xa xb f1 b1 t1 f2 b2 t2 la lb out W v) (i : Nat) (u : Value) : LrSt w P0 P1 P2 P3 g k c' pD oA oB xl xa xb f1 b1 t1 f2 b2 t2 la lb out (W.setCell ⟨P1, i, none⟩ u) (v.setIfInBounds i u) :=
  have hc : Below P1 W (W.setCell ⟨P1, i, none⟩ u) := (Below.refl P1 W).setCell (p := ⟨P1, i, none⟩) (Nat.le_refl _) u
  ⟨h.rl.far (p := ⟨P1, i, none⟩) h.n0 u, h.y.set_ i u, h.a.far (p := ⟨P1, i, none⟩) h.n2 u, h.b.far (p := ⟨P1, i, none⟩) h.n3 u,
    h.o.kept (gb_set W P1 i u) (.inr fun e => h.ng (by simpa [Value.ownBlock] using e.symm)), h.e.setCell (p := ⟨P1, i, none⟩) h.nw u, (hc.cell (p := ⟨pD, oA, none⟩) h.nD).trans h.da, (hc.cell (p := ⟨pD, oB, none⟩) h.nD).trans h.db, h.n0, h.n2, h.n3, h.ng, h.nD, h.nw⟩
end
theorem elemSr : Elem Try.prog 64 63 3 24 := Elem.mk' (z := .agg #[.int .i64 0, .int .i64 0, .int .i64 0]) Try.underlying64 (by kernel_rfl) rfl
set_option maxHeartbeats 4000000 in
set_option maxRecDepth 100000 in
theorem l05Longest_any (gb : Nat) (A : Option Addr) (n c : Nat) (rs : List Fac) (D : Option Addr) (d : Nat) (ls : List Int) (l : Nat) (w : World) (hg : gb < w.heap.size) (hc : w.cell? ⟨gb, 0, none⟩ = some (.slice A n c)) (hn : n ≤ 1048576) (hr : Rd w w.heap.size A n 3 Fac.cells rs)
    (hls : gLens rs [] = some ls) (hl4 : l < 4) (hd : Rd w w.heap.size D n 1 intE ls) :
    Calls Try.prog 39 #[.pointer (some ⟨gb, 0, none⟩), .slice D n d, .int .i64 (l : Int)] w (RetNew w 63 3 encSr (srAll ls l rs)) := by
  have hl := Lib.hid hr.len
  have HR := Lib.hid hr; clear hr
  have HD := Lib.hid hd; clear hd
  have HL := Lib.hid hls; clear hls
  go_enter Try.func39, Try.ntmps39
  go_wp2
  go_loopw [7, 8] (fun o_ i_ w' => ∃ (k : Nat) (A' : Option Addr) (c' : Nat), i_ = .int .i64 k ∧ o_ = .slice A' k c' ∧ k ≤ n ∧
      Hid (w'.ownsRow w.heap.size 63 3 (.slice A' k c') k ((outs Sr.nil (srF l) (srG ls) rs k).flatMap encSr)) ∧ Below w.heap.size w w') (fun _ i_ _ => n - (intOf i_).toNat)
  case atStart =>
    exact ⟨0, _, 0, rfl, rfl, by omega, Lib.hid (by simpa [outs, foldG] using World.ownsRow_made (base := w.heap.size) (e := 63) (size := 3) w #[] 0 (Nat.le_refl _) (by unfold maxLen; omega) rfl), by (repeat first | exact Below.refl _ _ | assumption | refine Below.drew ?_ | refine Below.alloc ?_ (by first | exact Nat.le_refl _ | (simp; done) | omega | (simp; omega)) _ | refine Below.setCell ?_ (by first | exact Nat.le_refl _ | (simp; done) | omega | (simp; omega)) _)⟩
  case round =>
    obtain ⟨k, A', c', rfl, rfl, hk, hown, hb⟩ := hrel
    have cg := (hb.cell (p := ⟨gb, 0, none⟩) hg).trans hc
    have lg : gb < wr.heap.size := by have := hb.size; omega
    by_cases hlt : k < n
    · obtain ⟨bb, o, x, rfl, hB, gx, c0, c1, c2⟩ := (HR.out.next hb).fac hlt
      have Hst := Lib.hid (outs_step Sr.nil (srF l) (srG ls) gx)
      have Hol := Lib.hid (outs_len Sr.nil (srF l) (srG ls) rs k (by rw [hl.out]; exact hk))
      rcases wf_of HL.out k x gx with ⟨h0, ha0, ha1, hb0, hb1⟩ | ⟨cc, hcc, hxl, hxa, hxb⟩
      · have e0 := size0 h0
        have hkr : k ≤ rs.length := by rw [hl.out]; exact hk
        have q1 := sr_bound HL.out hl4 (k := x.a.toNat) (by omega)
        have q2 := sr_bound HL.out hl4 (k := x.b.toNat) (by omega)
        have m1 := lens_bound HL.out (i := x.a.toNat) (by omega)
        have m2 := lens_bound HL.out (i := x.b.toNat) (by omega)
        rw [← outs_full Sr.nil (srF l) (srG ls) (k := k) (i := x.a.toNat) (by omega) hkr] at q1
        rw [← outs_full Sr.nil (srF l) (srG ls) (k := k) (i := x.b.toNat) (by omega) hkr] at q2
        have hfs := Lib.hid (show fStep Sr.nil (srF l) (srG ls) (outs Sr.nil (srF l) (srG ls) rs k) x = srG ls ((outs Sr.nil (srF l) (srG ls) rs k).getD x.a.toNat Sr.nil) ((outs Sr.nil (srF l) (srG ls) rs k).getD x.b.toNat Sr.nil) x by unfold fStep; rw [if_pos h0])
        obtain ⟨g, cap, hv, hg0, hg1⟩ := hown.out.form (by omega)
        obtain rfl : A' = some ⟨g, 0, none⟩ := by injection hv
        clear hv
        have hgr : g ≠ wr.heap.size := by omega
        have hgr2 : g ≠ wr.heap.size + 1 := by omega
        have hgr3 : g ≠ wr.heap.size + 1 + 1 := by omega
        obtain ⟨pD, oD, rfl, hBD, da⟩ := (HD.out.next hb).i64 (k := x.a.toNat) (by omega)
        obtain ⟨pD', oD', hD', _, db⟩ := (HD.out.next hb).i64 (k := x.b.toNat) (by omega)
        obtain ⟨rfl, rfl⟩ : pD = pD' ∧ oD = oD' := by injection hD' with hD'; injection hD' with h1 h2; exact ⟨h1, h2⟩
        clear hD'
        have HE : Hid (∀ (w' : World), w'.ownsRow w.heap.size 63 3 (.slice (some ⟨g, 0, none⟩) k c') k ((outs Sr.nil (srF l) (srG ls) rs k).flatMap encSr) → ∀ i, i < k →
            w'.cell? ⟨g, i * 3, none⟩ = some (.int .i64 ((outs Sr.nil (srF l) (srG ls) rs k).getD i Sr.nil).f) ∧ w'.cell? ⟨g, i * 3 + 1, none⟩ = some (.int .i64 ((outs Sr.nil (srF l) (srG ls) rs k).getD i Sr.nil).b) ∧
            w'.cell? ⟨g, i * 3 + 2, none⟩ = some (.int .i64 ((outs Sr.nil (srF l) (srG ls) rs k).getD i Sr.nil).m)) := Lib.hid (fun w' h i hi =>
          ⟨by simpa [encSr] using own_at (enc := encSr) (sz := 3) (fun y _ => lenSr y) h Hol.out Sr.nil i hi 0 (by omega), by simpa [encSr] using own_at (enc := encSr) (sz := 3) (fun y _ => lenSr y) h Hol.out Sr.nil i hi 1 (by omega), by simpa [encSr] using own_at (enc := encSr) (sz := 3) (fun y _ => lenSr y) h Hol.out Sr.nil i hi 2 (by omega)⟩)
        obtain ⟨va0, va1, va2⟩ := HE.out wr hown.out x.a.toNat (by omega)
        obtain ⟨vb0, vb1, vb2⟩ := HE.out wr hown.out x.b.toNat (by omega)
        clear HE
        generalize (outs Sr.nil (srF l) (srG ls) rs k).getD x.a.toNat Sr.nil = y1 at *
        generalize (outs Sr.nil (srF l) (srG ls) rs k).getD x.b.toNat Sr.nil = y2 at *
        obtain ⟨la, hla⟩ : ∃ la, ls.getD x.a.toNat 0 = la := ⟨_, rfl⟩
        obtain ⟨lb, hlb⟩ : ∃ lb, ls.getD x.b.toNat 0 = lb := ⟨_, rfl⟩
        rw [hla] at da m1
        rw [hlb] at db m2
        have Hla := Lib.hid hla
        have Hlb := Lib.hid hlb
        clear hla hlb
        obtain ⟨f1, b1, t1⟩ := y1
        obtain ⟨f2, b2, t2⟩ := y2
        simp only at va0 va1 va2 vb0 vb1 vb2 q1 q2
        obtain ⟨p0, p1, p2, p3, p4, p5⟩ := q1
        obtain ⟨r0, r1, r2, r3, r4, r5⟩ := q2
        have i1 : x.a < (k : Int) := ha1
        have i2 : x.b < (k : Int) := hb1
        have i3 : x.a < (n : Int) := by omega
        have i4 : x.b < (n : Int) := by omega
        clear h0 gx
        have h3 : Below wr.heap.size wr (((wr.alloc (.cells #[.string x.l, .int .i64 x.a, .int .i64 x.b] 75)).alloc (.cells #[.int .i64 0, .int .i64 0, .int .i64 0] 63)).alloc (.cells #[.int .i64 f1, .int .i64 b1, .int .i64 t1] 63)) := by (repeat first | exact Below.refl _ _ | assumption | refine Below.drew ?_ | refine Below.alloc ?_ (by first | exact Nat.le_refl _ | (simp; done) | omega | (simp; omega)) _ | refine Below.setCell ?_ (by first | exact Nat.le_refl _ | (simp; done) | omega | (simp; omega)) _)
        have wb0 := (h3.cell (p := ⟨g, x.b.toNat * 3, none⟩) hg1).trans vb0
        have wb1 := (h3.cell (p := ⟨g, x.b.toNat * 3 + 1, none⟩) hg1).trans vb1
        have wb2 := (h3.cell (p := ⟨g, x.b.toNat * 3 + 2, none⟩) hg1).trans vb2
        clear vb0 vb1 vb2 h3 hgr2 hgr3
        go_wp2_with fail
        refine named fun w1 H1 => ?_
        have b1' : Below w.heap.size w w1 := by rw [H1.out]; exact (((hb.alloc hb.size _).alloc (by have := hb.size; simp; omega) _).alloc (by have := hb.size; simp; omega) _).alloc (by have := hb.size; simp; omega) _
        have own1 : w1.ownsRow w.heap.size 63 3 (.slice (some ⟨g, 0, none⟩) k c') k ((outs Sr.nil (srF l) (srG ls) rs k).flatMap encSr) := by rw [H1.out]; exact (((hown.out.alloc _).alloc _).alloc _).alloc _
        have hbw : Below wr.heap.size wr w1 := by rw [H1.out]; (repeat first | exact Below.refl _ _ | assumption | refine Below.drew ?_ | refine Below.alloc ?_ (by first | exact Nat.le_refl _ | (simp; done) | omega | (simp; omega)) _ | refine Below.setCell ?_ (by first | exact Nat.le_refl _ | (simp; done) | omega | (simp; omega)) _)
        have ST0 : LrSt w wr.heap.size (wr.heap.size + 1) (wr.heap.size + 1 + 1) (wr.heap.size + 1 + 1 + 1) g k c' pD (oD + x.a.toNat) (oD + x.b.toNat) x.l x.a x.b f1 b1 t1 f2 b2 t2 la lb (outs Sr.nil (srF l) (srG ls) rs k) w1 #[.int .i64 0, .int .i64 0, .int .i64 0] := by
          refine ⟨?_, ?_, ?_, ?_, own1, b1', (hbw.cell (p := ⟨pD, oD + x.a.toNat, none⟩) hBD).trans da, (hbw.cell (p := ⟨pD, oD + x.b.toNat, none⟩) hBD).trans db, by omega, by omega, by omega, by omega, by omega, by have := hb.size; omega⟩
          · rw [H1.out]; exact (((Blk.new wr _ _).alloc _).alloc _).alloc _
          · rw [H1.out]; simpa using ((Blk.new (wr.alloc _) _ _).alloc _).alloc _
          · rw [H1.out]; simpa using (Blk.new ((wr.alloc _).alloc _) _ _).alloc _
          · rw [H1.out]; simpa using Blk.new (((wr.alloc _).alloc _).alloc _) _ _
        generalize hP3 : wr.heap.size + 1 + 1 + 1 = P3 at *
        generalize hP2 : wr.heap.size + 1 + 1 = P2 at *
        generalize hP1 : wr.heap.size + 1 = P1 at *
        have ST1 := Lib.hid ST0
        clear ST0 H1 va0 va1 va2 wb0 wb1 wb2 own1 da db c0 c1 c2 cg hbw
        obtain ⟨sa0, sa1, sa2⟩ := ST1.out.a.three
        obtain ⟨sb0, sb1, sb2⟩ := ST1.out.b.three
        have SA := Lib.hid (And.intro sa0 (And.intro sa1 (And.intro sa2 (And.intro sb0 (And.intro sb1 sb2)))))
        have zA := ST1.out.a.lt
        have zB := ST1.out.b.lt
        have KS := Lib.hid (fun (W : World) (h : Below w1.heap.size w1 W) => show W.cell? ⟨P2, 0, none⟩ = some (.int .i64 f1) ∧ W.cell? ⟨P2, 1, none⟩ = some (.int .i64 b1) ∧ W.cell? ⟨P2, 2, none⟩ = some (.int .i64 t1) ∧ W.cell? ⟨P3, 0, none⟩ = some (.int .i64 f2) ∧ W.cell? ⟨P3, 1, none⟩ = some (.int .i64 b2) ∧ W.cell? ⟨P3, 2, none⟩ = some (.int .i64 t2) from
          ⟨(h.cell (p := ⟨P2, 0, none⟩) zA).trans SA.out.1, (h.cell (p := ⟨P2, 1, none⟩) zA).trans SA.out.2.1, (h.cell (p := ⟨P2, 2, none⟩) zA).trans SA.out.2.2.1, (h.cell (p := ⟨P3, 0, none⟩) zB).trans SA.out.2.2.2.1, (h.cell (p := ⟨P3, 1, none⟩) zB).trans SA.out.2.2.2.2.1, (h.cell (p := ⟨P3, 2, none⟩) zB).trans SA.out.2.2.2.2.2⟩)
        have KT := Lib.hid (fun (W : World) (v : Array Value) (h : LrSt w wr.heap.size P1 P2 P3 g k c' pD (oD + x.a.toNat) (oD + x.b.toNat) x.l x.a x.b f1 b1 t1 f2 b2 t2 la lb (outs Sr.nil (srF l) (srG ls) rs k) W v) => show W.cell? ⟨P2, 0, none⟩ = some (.int .i64 f1) ∧ W.cell? ⟨P2, 1, none⟩ = some (.int .i64 b1) ∧ W.cell? ⟨P2, 2, none⟩ = some (.int .i64 t1) ∧ W.cell? ⟨P3, 0, none⟩ = some (.int .i64 f2) ∧ W.cell? ⟨P3, 1, none⟩ = some (.int .i64 b2) ∧ W.cell? ⟨P3, 2, none⟩ = some (.int .i64 t2) from ⟨h.a.three.1, h.a.three.2.1, h.a.three.2.2, h.b.three.1, h.b.three.2.1, h.b.three.2.2⟩)
        clear sa0 sa1 sa2 sb0 sb1 sb2
        have u1 : IntKind.i64.wrap (b1 + f2) = b1 + f2 := IntWalk.i64_in _ (by omega)
        have u2 : IntKind.i64.wrap (f1 + f2) = f1 + f2 := IntWalk.i64_in _ (by clear u1; omega)
        have u3 : IntKind.i64.wrap (b2 + b1) = b2 + b1 := IntWalk.i64_in _ (by clear u1 u2; omega)
        have nA : P2 ≠ P1 := by omega
        have nB : P3 ≠ P1 := by omega
        go_region_held3 (fun W => W.cell? ⟨P2, 0, none⟩ = some (.int .i64 f1) ∧ W.cell? ⟨P2, 1, none⟩ = some (.int .i64 b1) ∧ W.cell? ⟨P2, 2, none⟩ = some (.int .i64 t1) ∧ W.cell? ⟨P3, 0, none⟩ = some (.int .i64 f2) ∧ W.cell? ⟨P3, 1, none⟩ = some (.int .i64 b2) ∧ W.cell? ⟨P3, 2, none⟩ = some (.int .i64 t2))
          (first | exact KS.out _ bk2 | exact KS.out _ bk | exact KS.out _ (Below.refl _ _).drew | exact KT.out _ _ (((STm.out.set 0 (.int .i64 f1)).set 1 (.int .i64 b2)).set 2 (.int .i64 (max t1 (max t2 (b1 + f2))))) | go_keep)
          (first
            | (go_at_call 86
               refine (l00Max_any _ _ _).mono ?_
               rintro e wm ⟨rfl, hbm⟩
               first
                 | (have bk2 : Below w1.heap.size w1 wm := bk.trans (hbm.mono bk.size)
                    have STm := Lib.hid (ST1.out.next bk2)
                    have fy := STm.out.y.frozen
                    have ly := STm.out.y.lt
                    obtain ⟨cy0, cy1, cy2⟩ := STm.out.y.three)
                 | (have bk : Below w1.heap.size w1 wm := (Below.refl _ _).drew.trans hbm))
            | fail)
        all_goals
          have ST3 := Lib.hid (((STm.out.set 0 (.int .i64 f1)).set 1 (.int .i64 b2)).set 2 (.int .i64 (max t1 (max t2 (b1 + f2)))))
          clear fy ly cy0 cy1 cy2
          generalize hW : (((wm.setCell ⟨P1, 0, none⟩ (.int .i64 f1)).setCell ⟨P1, 1, none⟩ (.int .i64 b2)).setCell ⟨P1, 2, none⟩ (.int .i64 (max t1 (max t2 (b1 + f2))))) = w3 at *
          go_wp2_with fail
          obtain ⟨sr0, sr1, sr2⟩ := ST3.out.rl.three
          obtain ⟨sa0, sa1, sa2⟩ := ST3.out.a.three
          obtain ⟨sb0, sb1, sb2⟩ := ST3.out.b.three
          obtain ⟨y0, y1, y2⟩ := (show Blk w3 P1 63 #[_, _, _] from ST3.out.y).three
          have sd := ST3.out.da
          have z0 := ST3.out.rl.lt
          have z1 := ST3.out.a.lt
          have z2 := ST3.out.b.lt
          have zy := ST3.out.y.lt
          have yf := ST3.out.y.frozen

          by_cases e1 : f1 = la
          · subst e1
            go_region
            go_wp2_with fail
            refine named fun w4 H4 => ?_
            have ST4 := Lib.hid (show LrSt w wr.heap.size P1 P2 P3 g k c' pD (oD + x.a.toNat) (oD + x.b.toNat) x.l x.a x.b f1 b1 t1 f2 b2 t2 f1 lb (outs Sr.nil (srF l) (srG ls) rs k) w4 #[.int .i64 (f1 + f2), .int .i64 b2, .int .i64 (max t1 (max t2 (b1 + f2)))] by rw [H4.out]; exact (ST3.out.set 0 (.int .i64 (f1 + f2))).next (Below.refl _ _).drew)
            clear H4 sr0 sr1 sr2 sa0 sa1 sa2 sd z0 z1 z2 zy yf y0 y1 y2

            obtain ⟨sr0, sr1, sr2⟩ := ST4.out.rl.three
            obtain ⟨sa0, sa1, sa2⟩ := ST4.out.a.three
            obtain ⟨sb0, sb1, sb2⟩ := ST4.out.b.three
            obtain ⟨y0, y1, y2⟩ := (show Blk w4 P1 63 #[_, _, _] from ST4.out.y).three
            have sd := ST4.out.db
            have z0 := ST4.out.rl.lt
            have z1 := ST4.out.a.lt
            have z2 := ST4.out.b.lt
            have zy := ST4.out.y.lt
            have yf := ST4.out.y.frozen

            by_cases e2 : b2 = lb
            · subst e2
              go_region
              go_wp2_with (at_builtin; refine stopW ?_)
              refine stop_named fun w5 H5 => ?_
              have O5 := Lib.hid (show w5.ownsRow w.heap.size 63 3 (.slice (some ⟨g, 0, none⟩) k c') k ((outs Sr.nil (srF l) (srG ls) rs k).flatMap encSr) by rw [H5.out]; exact ((ST4.out.set 1 (.int .i64 (b2 + b1))).o.alloc _).drew)
              have G5 := Lib.hid (show w5.heap[w4.heap.size]? = some (.cells #[.int .i64 (f1 + f2), .int .i64 (b2 + b1), .int .i64 (max t1 (max t2 (b1 + f2)))] 63 (0, 0)) by rw [H5.out]; have h := heap_alloc_new (w4.setCell ⟨P1, 1, none⟩ (.int .i64 (b2 + b1))) (.cells #[.int .i64 (f1 + f2), .int .i64 (b2 + b1), .int .i64 (max t1 (max t2 (b1 + f2)))] 63); first | exact h | (simp at h ⊢; exact h) | (rw [size_set1] at h; exact h))
              have B5 := Lib.hid (show Below w.heap.size w w5 by rw [H5.out]; exact ((ST4.out.set 1 (.int .i64 (b2 + b1))).e.alloc (ST4.out.set 1 (.int .i64 (b2 + b1))).e.size _).drew)
              clear H5
              unfold Stop
              refine wpList_push (w0 := w) rfl _ _ _ rfl w.heap.size 63 3 24 elemSr encSr _ k c' (outs Sr.nil (srF l) (srG ls) rs k) rfl O5.out w4.heap.size ⟨f1 + f2, b2 + b1, max t1 (max t2 (b1 + f2))⟩ #[.int .i64 (f1 + f2), .int .i64 (b2 + b1), .int .i64 (max t1 (max t2 (b1 + f2)))] 63 (0, 0) rfl G5.out rfl rfl (by simp [encSr, Value.oneCell']) (by omega) (by omega) (by unfold maxLen; omega) rfl B5.out ?_
              intro A9 c9 w9 own9 hg9 hat9 hb9
              have O9 := Lib.hid own9; clear own9
              go_wp2_with fail
              go_roundw
              case rel =>
                refine ⟨k + 1, A9, c9, by go_num, rfl, by omega, Lib.hid ?_, hb9⟩
                rw [Hst.out, hfs.out, srG_at, Hla.out, Hlb.out]
                rw [if_pos rfl, if_pos rfl, show max (max t1 t2) (b1 + f2) = max t1 (max t2 (b1 + f2)) by omega]
                exact O9.out
              case measure => simp [intOf]; omega
            · go_region
              go_wp2_with (at_builtin; refine stopW ?_)
              refine stop_named fun w5 H5 => ?_
              have O5 := Lib.hid (show w5.ownsRow w.heap.size 63 3 (.slice (some ⟨g, 0, none⟩) k c') k ((outs Sr.nil (srF l) (srG ls) rs k).flatMap encSr) by rw [H5.out]; exact ((ST4.out).o.alloc _).drew)
              have G5 := Lib.hid (show w5.heap[w4.heap.size]? = some (.cells #[.int .i64 (f1 + f2), .int .i64 (b2), .int .i64 (max t1 (max t2 (b1 + f2)))] 63 (0, 0)) by rw [H5.out]; have h := heap_alloc_new (w4) (.cells #[.int .i64 (f1 + f2), .int .i64 (b2), .int .i64 (max t1 (max t2 (b1 + f2)))] 63); first | exact h | (simp at h ⊢; exact h) | (rw [size_set1] at h; exact h))
              have B5 := Lib.hid (show Below w.heap.size w w5 by rw [H5.out]; exact ((ST4.out).e.alloc (ST4.out).e.size _).drew)
              clear H5
              unfold Stop
              refine wpList_push (w0 := w) rfl _ _ _ rfl w.heap.size 63 3 24 elemSr encSr _ k c' (outs Sr.nil (srF l) (srG ls) rs k) rfl O5.out w4.heap.size ⟨f1 + f2, b2, max t1 (max t2 (b1 + f2))⟩ #[.int .i64 (f1 + f2), .int .i64 (b2), .int .i64 (max t1 (max t2 (b1 + f2)))] 63 (0, 0) rfl G5.out rfl rfl (by simp [encSr, Value.oneCell']) (by omega) (by omega) (by unfold maxLen; omega) rfl B5.out ?_
              intro A9 c9 w9 own9 hg9 hat9 hb9
              have O9 := Lib.hid own9; clear own9
              go_wp2_with fail
              go_roundw
              case rel =>
                refine ⟨k + 1, A9, c9, by go_num, rfl, by omega, Lib.hid ?_, hb9⟩
                rw [Hst.out, hfs.out, srG_at, Hla.out, Hlb.out]
                rw [if_pos rfl, if_neg e2, show max (max t1 t2) (b1 + f2) = max t1 (max t2 (b1 + f2)) by omega]
                exact O9.out
              case measure => simp [intOf]; omega
          · go_region
            go_wp2_with fail
            refine named fun w4 H4 => ?_
            have ST4 := Lib.hid (show LrSt w wr.heap.size P1 P2 P3 g k c' pD (oD + x.a.toNat) (oD + x.b.toNat) x.l x.a x.b f1 b1 t1 f2 b2 t2 la lb (outs Sr.nil (srF l) (srG ls) rs k) w4 #[.int .i64 (f1), .int .i64 b2, .int .i64 (max t1 (max t2 (b1 + f2)))] by rw [H4.out]; exact ST3.out.next (Below.refl _ _).drew)
            clear H4 sr0 sr1 sr2 sa0 sa1 sa2 sd z0 z1 z2 zy yf y0 y1 y2

            obtain ⟨sr0, sr1, sr2⟩ := ST4.out.rl.three
            obtain ⟨sa0, sa1, sa2⟩ := ST4.out.a.three
            obtain ⟨sb0, sb1, sb2⟩ := ST4.out.b.three
            obtain ⟨y0, y1, y2⟩ := (show Blk w4 P1 63 #[_, _, _] from ST4.out.y).three
            have sd := ST4.out.db
            have z0 := ST4.out.rl.lt
            have z1 := ST4.out.a.lt
            have z2 := ST4.out.b.lt
            have zy := ST4.out.y.lt
            have yf := ST4.out.y.frozen

            by_cases e2 : b2 = lb
            · subst e2
              go_region
              go_wp2_with (at_builtin; refine stopW ?_)
              refine stop_named fun w5 H5 => ?_
              have O5 := Lib.hid (show w5.ownsRow w.heap.size 63 3 (.slice (some ⟨g, 0, none⟩) k c') k ((outs Sr.nil (srF l) (srG ls) rs k).flatMap encSr) by rw [H5.out]; exact ((ST4.out.set 1 (.int .i64 (b2 + b1))).o.alloc _).drew)
              have G5 := Lib.hid (show w5.heap[w4.heap.size]? = some (.cells #[.int .i64 (f1), .int .i64 (b2 + b1), .int .i64 (max t1 (max t2 (b1 + f2)))] 63 (0, 0)) by rw [H5.out]; have h := heap_alloc_new (w4.setCell ⟨P1, 1, none⟩ (.int .i64 (b2 + b1))) (.cells #[.int .i64 (f1), .int .i64 (b2 + b1), .int .i64 (max t1 (max t2 (b1 + f2)))] 63); first | exact h | (simp at h ⊢; exact h) | (rw [size_set1] at h; exact h))
              have B5 := Lib.hid (show Below w.heap.size w w5 by rw [H5.out]; exact ((ST4.out.set 1 (.int .i64 (b2 + b1))).e.alloc (ST4.out.set 1 (.int .i64 (b2 + b1))).e.size _).drew)
              clear H5
              unfold Stop
              refine wpList_push (w0 := w) rfl _ _ _ rfl w.heap.size 63 3 24 elemSr encSr _ k c' (outs Sr.nil (srF l) (srG ls) rs k) rfl O5.out w4.heap.size ⟨f1, b2 + b1, max t1 (max t2 (b1 + f2))⟩ #[.int .i64 (f1), .int .i64 (b2 + b1), .int .i64 (max t1 (max t2 (b1 + f2)))] 63 (0, 0) rfl G5.out rfl rfl (by simp [encSr, Value.oneCell']) (by omega) (by omega) (by unfold maxLen; omega) rfl B5.out ?_
              intro A9 c9 w9 own9 hg9 hat9 hb9
              have O9 := Lib.hid own9; clear own9
              go_wp2_with fail
              go_roundw
              case rel =>
                refine ⟨k + 1, A9, c9, by go_num, rfl, by omega, Lib.hid ?_, hb9⟩
                rw [Hst.out, hfs.out, srG_at, Hla.out, Hlb.out]
                rw [if_neg e1, if_pos rfl, show max (max t1 t2) (b1 + f2) = max t1 (max t2 (b1 + f2)) by omega]
                exact O9.out
              case measure => simp [intOf]; omega
            · go_region
              go_wp2_with (at_builtin; refine stopW ?_)
              refine stop_named fun w5 H5 => ?_
              have O5 := Lib.hid (show w5.ownsRow w.heap.size 63 3 (.slice (some ⟨g, 0, none⟩) k c') k ((outs Sr.nil (srF l) (srG ls) rs k).flatMap encSr) by rw [H5.out]; exact ((ST4.out).o.alloc _).drew)
              have G5 := Lib.hid (show w5.heap[w4.heap.size]? = some (.cells #[.int .i64 (f1), .int .i64 (b2), .int .i64 (max t1 (max t2 (b1 + f2)))] 63 (0, 0)) by rw [H5.out]; have h := heap_alloc_new (w4) (.cells #[.int .i64 (f1), .int .i64 (b2), .int .i64 (max t1 (max t2 (b1 + f2)))] 63); first | exact h | (simp at h ⊢; exact h) | (rw [size_set1] at h; exact h))
              have B5 := Lib.hid (show Below w.heap.size w w5 by rw [H5.out]; exact ((ST4.out).e.alloc (ST4.out).e.size _).drew)
              clear H5
              unfold Stop
              refine wpList_push (w0 := w) rfl _ _ _ rfl w.heap.size 63 3 24 elemSr encSr _ k c' (outs Sr.nil (srF l) (srG ls) rs k) rfl O5.out w4.heap.size ⟨f1, b2, max t1 (max t2 (b1 + f2))⟩ #[.int .i64 (f1), .int .i64 (b2), .int .i64 (max t1 (max t2 (b1 + f2)))] 63 (0, 0) rfl G5.out rfl rfl (by simp [encSr, Value.oneCell']) (by omega) (by omega) (by unfold maxLen; omega) rfl B5.out ?_
              intro A9 c9 w9 own9 hg9 hat9 hb9
              have O9 := Lib.hid own9; clear own9
              go_wp2_with fail
              go_roundw
              case rel =>
                refine ⟨k + 1, A9, c9, by go_num, rfl, by omega, Lib.hid ?_, hb9⟩
                rw [Hst.out, hfs.out, srG_at, Hla.out, Hlb.out]
                rw [if_neg e1, if_neg e2, show max (max t1 t2) (b1 + f2) = max t1 (max t2 (b1 + f2)) by omega]
                exact O9.out
              case measure => simp [intOf]; omega
      · obtain ⟨xl, xa, xb⟩ := x
        simp only at hxl hxa hxb c0 c1 c2
        subst hxl hxa hxb
        obtain ⟨hl0, hl1⟩ := letB_num hcc
        have e1 := size1 (s := ⟨#[cc]⟩) (show (1 : Nat) ≠ 0 by omega)
        have e2 := size1' (s := ⟨#[cc]⟩) (show (1 : Nat) ≠ 0 by omega)
        have Hcc := Lib.hid hcc
        clear hcc gx
        by_cases hcl : cc.toNat - 97 = l
        · have hci : (cc.toNat : Int) - 97 = (l : Int) := by omega
          have hfs := Lib.hid (show fStep Sr.nil (srF l) (srG ls) (outs Sr.nil (srF l) (srG ls) rs k) ⟨⟨#[cc]⟩, 0, 0⟩ = ⟨1, 1, 1⟩ by
            show srF l (letN ⟨#[cc]⟩) = _
            unfold srF; rw [letN_one, if_pos hcl])
          go_wp2_with fail
          refine namedC fun w0 H0 => ?_
          have BY0 : Blk w0 (wr.heap.size + 1) 63 #[.int .i64 0, .int .i64 0, .int .i64 0] := by rw [H0.out]; simpa using Blk.new (wr.alloc _) _ _
          have own0 : w0.ownsRow w.heap.size 63 3 (.slice A' k c') k ((outs Sr.nil (srF l) (srG ls) rs k).flatMap encSr) := by rw [H0.out]; exact (hown.out.alloc _).alloc _
          have b0 : Below w.heap.size w w0 := by rw [H0.out]; exact (hb.alloc hb.size _).alloc (by have := hb.size; simp; omega) _
          have zow : ∀ g, (Value.slice A' k c').ownBlock = some g → g < wr.heap.size := fun g hg => (hown.out.lt g hg).2
          have ZOW := Lib.hid zow
          have hbs := hb.size
          clear H0 zow
          refine (l04Letter_any cc Hcc.out _).mono ?_
          rintro e w1 ⟨rfl, hb1'⟩
          have b1 := b0.trans (hb1'.mono b0.size)
          have BY1 := BY0.next hb1'
          have O1 := Lib.hid (own_next own0 hb1')
          obtain ⟨y0, y1, y2⟩ := BY1.three
          have yf := BY1.frozen
          have zy := BY1.lt
          have BY1' := Lib.hid BY1
          clear BY0 own0 BY1

          go_wp2_with (at_builtin; refine stopW ?_)
          refine stop_named fun w5 H5 => ?_
          have O5 := Lib.hid (show w5.ownsRow w.heap.size 63 3 (.slice A' k c') k ((outs Sr.nil (srF l) (srG ls) rs k).flatMap encSr) by rw [H5.out]; exact (own_set_far (own_set_far (own_set_far O1.out ZOW.out) ZOW.out) ZOW.out).alloc _)
          have G5 := Lib.hid (show w5.heap[w1.heap.size]? = some (.cells #[.int .i64 1, .int .i64 1, .int .i64 1] 63 (0, 0)) by rw [H5.out]; have h := heap_alloc_new (((w1.setCell ⟨wr.heap.size + 1, 0, none⟩ (.int .i64 1)).setCell ⟨wr.heap.size + 1, 1, none⟩ (.int .i64 1)).setCell ⟨wr.heap.size + 1, 2, none⟩ (.int .i64 1)) (.cells #[.int .i64 1, .int .i64 1, .int .i64 1] 63); first | exact h | (simp only [size_set1] at h; exact h))
          have B5 := Lib.hid (show Below w.heap.size w w5 by rw [H5.out]; exact (((b1.setCell (p := ⟨wr.heap.size + 1, 0, none⟩) (by show _ ≤ wr.heap.size + 1; omega) (.int .i64 1)).setCell (p := ⟨wr.heap.size + 1, 1, none⟩) (by show _ ≤ wr.heap.size + 1; omega) (.int .i64 1)).setCell (p := ⟨wr.heap.size + 1, 2, none⟩) (by show _ ≤ wr.heap.size + 1; omega) (.int .i64 1)).alloc (by have := b1.size; simp; omega) _)
          clear H5
          unfold Stop
          refine wpList_push (w0 := w) rfl _ _ _ rfl w.heap.size 63 3 24 elemSr encSr _ k c' (outs Sr.nil (srF l) (srG ls) rs k) rfl O5.out w1.heap.size ⟨1, 1, 1⟩ #[.int .i64 1, .int .i64 1, .int .i64 1] 63 (0, 0) rfl G5.out rfl rfl (by simp [encSr, Value.oneCell']) (by omega) (by omega) (by unfold maxLen; omega) rfl B5.out ?_
          intro A9 c9 w9 own9 hg9 hat9 hb9
          have O9 := Lib.hid own9; clear own9
          go_wp2_with fail
          go_roundw
          case rel =>
            refine ⟨k + 1, A9, c9, by go_num, rfl, by omega, Lib.hid ?_, hb9⟩
            rw [Hst.out, hfs.out]
            exact O9.out
          case measure => simp [intOf]; omega
        · have hci : ((cc.toNat : Int) - 97 == (l : Int)) = false := by simp; omega
          have hfs := Lib.hid (show fStep Sr.nil (srF l) (srG ls) (outs Sr.nil (srF l) (srG ls) rs k) ⟨⟨#[cc]⟩, 0, 0⟩ = ⟨0, 0, 0⟩ by
            show srF l (letN ⟨#[cc]⟩) = _
            unfold srF; rw [letN_one, if_neg hcl])
          go_wp2_with fail
          refine namedC fun w0 H0 => ?_
          have BY0 : Blk w0 (wr.heap.size + 1) 63 #[.int .i64 0, .int .i64 0, .int .i64 0] := by rw [H0.out]; simpa using Blk.new (wr.alloc _) _ _
          have own0 : w0.ownsRow w.heap.size 63 3 (.slice A' k c') k ((outs Sr.nil (srF l) (srG ls) rs k).flatMap encSr) := by rw [H0.out]; exact (hown.out.alloc _).alloc _
          have b0 : Below w.heap.size w w0 := by rw [H0.out]; exact (hb.alloc hb.size _).alloc (by have := hb.size; simp; omega) _
          have zow : ∀ g, (Value.slice A' k c').ownBlock = some g → g < wr.heap.size := fun g hg => (hown.out.lt g hg).2
          have ZOW := Lib.hid zow
          have hbs := hb.size
          clear H0 zow
          refine (l04Letter_any cc Hcc.out _).mono ?_
          rintro e w1 ⟨rfl, hb1'⟩
          have b1 := b0.trans (hb1'.mono b0.size)
          have BY1 := BY0.next hb1'
          have O1 := Lib.hid (own_next own0 hb1')
          obtain ⟨y0, y1, y2⟩ := BY1.three
          have yf := BY1.frozen
          have zy := BY1.lt
          have BY1' := Lib.hid BY1
          clear BY0 own0 BY1

          go_wp2_with (at_builtin; refine stopW ?_)
          refine stop_named fun w5 H5 => ?_
          have O5 := Lib.hid (show w5.ownsRow w.heap.size 63 3 (.slice A' k c') k ((outs Sr.nil (srF l) (srG ls) rs k).flatMap encSr) by rw [H5.out]; exact (O1.out).alloc _)
          have G5 := Lib.hid (show w5.heap[w1.heap.size]? = some (.cells #[.int .i64 0, .int .i64 0, .int .i64 0] 63 (0, 0)) by rw [H5.out]; have h := heap_alloc_new (w1) (.cells #[.int .i64 0, .int .i64 0, .int .i64 0] 63); first | exact h | (simp only [size_set1] at h; exact h))
          have B5 := Lib.hid (show Below w.heap.size w w5 by rw [H5.out]; exact (b1).alloc (by have := b1.size; simp; omega) _)
          clear H5
          unfold Stop
          refine wpList_push (w0 := w) rfl _ _ _ rfl w.heap.size 63 3 24 elemSr encSr _ k c' (outs Sr.nil (srF l) (srG ls) rs k) rfl O5.out w1.heap.size ⟨0, 0, 0⟩ #[.int .i64 0, .int .i64 0, .int .i64 0] 63 (0, 0) rfl G5.out rfl rfl (by simp [encSr, Value.oneCell']) (by omega) (by omega) (by unfold maxLen; omega) rfl B5.out ?_
          intro A9 c9 w9 own9 hg9 hat9 hb9
          have O9 := Lib.hid own9; clear own9
          go_wp2_with fail
          go_roundw
          case rel =>
            refine ⟨k + 1, A9, c9, by go_num, rfl, by omega, Lib.hid ?_, hb9⟩
            rw [Hst.out, hfs.out]
            exact O9.out
          case measure => simp [intOf]; omega
    · have e := Lib.hid (show outs Sr.nil (srF l) (srG ls) rs k = srAll ls l rs from outs_all Sr.nil (srF l) (srG ls) rs k (by rw [hl.out]; omega))
      have e2 := Lib.hid (outs_len Sr.nil (srF l) (srG ls) rs k (by rw [hl.out]; omega))
      go_wp2_with fail
      go_ret
      refine ⟨A', c', ret_slice (by rw [← e.out, e2.out]), ?_, hb⟩
      rw [← e.out, e2.out]
      exact hown.out
end Go.Proofs.Ytkknhpailohjcaa
