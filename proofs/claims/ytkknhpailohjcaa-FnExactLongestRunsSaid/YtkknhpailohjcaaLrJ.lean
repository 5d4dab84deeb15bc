/-
  The longest runs of the letters in the program: two words in a row.
-/
import Derived.Test.YtkknhpailohjcaaLrI
namespace Go.Proofs.Ytkknhpailohjcaa
open Go.RowKit

theorem put4_at {cs : Array Value} {i : Nat} {a b c d : Value} (h : i + 3 < cs.size) : ((((cs.setIfInBounds i a).setIfInBounds (i + 1) b).setIfInBounds (i + 2) c).setIfInBounds (i + 3) d)[i]? = some a ∧ ((((cs.setIfInBounds i a).setIfInBounds (i + 1) b).setIfInBounds (i + 2) c).setIfInBounds (i + 3) d)[i + 1]? = some b := by
  refine ⟨?_, ?_⟩
  · rw [Array.getElem?_setIfInBounds_ne (by omega), Array.getElem?_setIfInBounds_ne (by omega), Array.getElem?_setIfInBounds_ne (by omega), Array.getElem?_setIfInBounds_self_of_lt (by omega)]
  · rw [Array.getElem?_setIfInBounds_ne (by omega), Array.getElem?_setIfInBounds_ne (by omega), Array.getElem?_setIfInBounds_self_of_lt (by simp; omega)]
section
variable {w w8 : World} {g g' : Nat} {t t1 t2 : TypeId} {cs c1 c2 : Array Value} {i : Nat} {a b c d : Value}
/-- four cells put, and two new blocks -/
theorem Blk.put4 (h : Blk w g t cs) (e : w8 = (((((w.setCell ⟨g, i, none⟩ a).setCell ⟨g, i + 1, none⟩ b).setCell ⟨g, i + 2, none⟩ c).setCell ⟨g, i + 3, none⟩ d).alloc (.cells c1 t1)).alloc (.cells c2 t2)) : Blk w8 g t ((((cs.setIfInBounds i a).setIfInBounds (i + 1) b).setIfInBounds (i + 2) c).setIfInBounds (i + 3) d) := by
  rw [e]; exact (((((h.set_ i a).set_ (i + 1) b).set_ (i + 2) c).set_ (i + 3) d).alloc _).alloc _
theorem Blk.far4 (h : Blk w g' t cs) (hne : g' ≠ g) (e : w8 = (((((w.setCell ⟨g, i, none⟩ a).setCell ⟨g, i + 1, none⟩ b).setCell ⟨g, i + 2, none⟩ c).setCell ⟨g, i + 3, none⟩ d).alloc (.cells c1 t1)).alloc (.cells c2 t2)) : Blk w8 g' t cs := by
  rw [e]; exact (((((h.far (p := ⟨g, i, none⟩) hne a).far (p := ⟨g, i + 1, none⟩) hne b).far (p := ⟨g, i + 2, none⟩) hne c).far (p := ⟨g, i + 3, none⟩) hne d).alloc _).alloc _
theorem Blk.new4a (e : w8 = (((((w.setCell ⟨g, i, none⟩ a).setCell ⟨g, i + 1, none⟩ b).setCell ⟨g, i + 2, none⟩ c).setCell ⟨g, i + 3, none⟩ d).alloc (.cells c1 t1)).alloc (.cells c2 t2)) : Blk w8 w.heap.size t1 c1 := by
  have h := Blk.new ((((w.setCell ⟨g, i, none⟩ a).setCell ⟨g, i + 1, none⟩ b).setCell ⟨g, i + 2, none⟩ c).setCell ⟨g, i + 3, none⟩ d) t1 c1
  rw [show ((((w.setCell ⟨g, i, none⟩ a).setCell ⟨g, i + 1, none⟩ b).setCell ⟨g, i + 2, none⟩ c).setCell ⟨g, i + 3, none⟩ d).heap.size = w.heap.size by simp] at h
  rw [e]; exact h.alloc _
theorem Blk.new4b (e : w8 = (((((w.setCell ⟨g, i, none⟩ a).setCell ⟨g, i + 1, none⟩ b).setCell ⟨g, i + 2, none⟩ c).setCell ⟨g, i + 3, none⟩ d).alloc (.cells c1 t1)).alloc (.cells c2 t2)) : Blk w8 (w.heap.size + 1) t2 c2 := by
  have h := Blk.new (((((w.setCell ⟨g, i, none⟩ a).setCell ⟨g, i + 1, none⟩ b).setCell ⟨g, i + 2, none⟩ c).setCell ⟨g, i + 3, none⟩ d).alloc (.cells c1 t1)) t2 c2
  rw [show (((((w.setCell ⟨g, i, none⟩ a).setCell ⟨g, i + 1, none⟩ b).setCell ⟨g, i + 2, none⟩ c).setCell ⟨g, i + 3, none⟩ d).alloc (.cells c1 t1)).heap.size = w.heap.size + 1 by simp] at h
  rw [e]; exact h
theorem below4 {B : Nat} {w0 : World} (h : Below B w0 w) (hw : B ≤ w.heap.size) (hg : B ≤ g) (e : w8 = (((((w.setCell ⟨g, i, none⟩ a).setCell ⟨g, i + 1, none⟩ b).setCell ⟨g, i + 2, none⟩ c).setCell ⟨g, i + 3, none⟩ d).alloc (.cells c1 t1)).alloc (.cells c2 t2)) : Below B w0 w8 := by
  rw [e]; exact (((((h.setCell (p := ⟨g, i, none⟩) hg a).setCell (p := ⟨g, i + 1, none⟩) hg b).setCell (p := ⟨g, i + 2, none⟩) hg c).setCell (p := ⟨g, i + 3, none⟩) hg d).alloc (by simpa using hw) _).alloc (by simp; omega) _
end
theorem Blk.put1 {w w9 : World} {g i : Nat} {t : TypeId} {cs : Array Value} {v : Value} (h : Blk w g t cs) (e : w9 = (w.setCell ⟨g, i, none⟩ v).drew) : Blk w9 g t (cs.setIfInBounds i v) := by rw [e]; exact (h.set_ i v).drew
theorem Blk.far1 {w w9 : World} {g g' i : Nat} {t : TypeId} {cs : Array Value} {v : Value} (h : Blk w g' t cs) (hne : g' ≠ g) (e : w9 = (w.setCell ⟨g, i, none⟩ v).drew) : Blk w9 g' t cs := by rw [e]; exact (h.far (p := ⟨g, i, none⟩) hne v).drew
theorem below1 {B : Nat} {w0 w w9 : World} {g i : Nat} {v : Value} (h : Below B w0 w) (hg : B ≤ g) (e : w9 = (w.setCell ⟨g, i, none⟩ v).drew) : Below B w0 w9 := by rw [e]; exact (h.setCell (p := ⟨g, i, none⟩) hg v).drew
theorem Blk.four' {w : World} {g : Nat} {t : TypeId} {x y z u : Value} (h : Blk w g t #[x, y, z, u]) : w.cell? ⟨g, 0, none⟩ = some x ∧ w.cell? ⟨g, 1, none⟩ = some y ∧ w.cell? ⟨g, 2, none⟩ = some z ∧ w.cell? ⟨g, 3, none⟩ = some u := ⟨h.cell 0, h.cell 1, h.cell 2, h.cell 3⟩
theorem ixR0 (y : R4) : (∀ w : World, (Instr.index 72 (.agg y.arr) (.int .i64 0)).run Try.prog w = .ok (.agg #[.int .i64 y.f0, .int .i64 y.l0, .int .i64 y.m0, .int .i64 y.n0]) w) ∧
    (∀ w : World, (Instr.index 72 (.agg y.arr) (.int .i64 1)).run Try.prog w = .ok (.agg #[.int .i64 y.f1, .int .i64 y.l1, .int .i64 y.m1, .int .i64 y.n1]) w) ∧
    (∀ w : World, (Instr.index 72 (.agg y.arr) (.int .i64 2)).run Try.prog w = .ok (.agg #[.int .i64 y.f2, .int .i64 y.l2, .int .i64 y.m2, .int .i64 y.n2]) w) ∧
    (∀ w : World, (Instr.index 72 (.agg y.arr) (.int .i64 3)).run Try.prog w = .ok (.agg #[.int .i64 y.f3, .int .i64 y.l3, .int .i64 y.m3, .int .i64 y.n3]) w) :=
  ⟨fun _ => by kernel_rfl, fun _ => by kernel_rfl, fun _ => by kernel_rfl, fun _ => by kernel_rfl⟩
theorem ixR (y : R4) {k : Nat} (h : k < 4) (w : World) : (Instr.index 72 (.agg y.arr) (.int .i64 (k : Int))).run Try.prog w = .ok (.agg #[.int .i64 (y.at_ k).f, .int .i64 (y.at_ k).l, .int .i64 (y.at_ k).m, .int .i64 (y.at_ k).n]) w := by
  obtain ⟨h0, h1, h2, h3⟩ := ixR0 y
  match k, h with
  | 0, _ => exact h0 w
  | 1, _ => exact h1 w
  | 2, _ => exact h2 w
  | 3, _ => exact h3 w
theorem lrJ_at (xf xl xm xn yf yl ym yn : Int) : lrJ ⟨xf, xl, xm, xn⟩ ⟨yf, yl, ym, yn⟩ = ⟨if xf = xn then xf + yf else xf, if yl = yn then yl + xl else yl, max (max xm ym) (xl + yf), xn + yn⟩ := rfl
theorem set4_f {α : Type} (c : Array α) (i : Nat) (a b m n a' : α) : ((((c.setIfInBounds i a).setIfInBounds (i + 1) b).setIfInBounds (i + 2) m).setIfInBounds (i + 3) n).setIfInBounds i a' = (((c.setIfInBounds i a').setIfInBounds (i + 1) b).setIfInBounds (i + 2) m).setIfInBounds (i + 3) n := by
  rw [Array.setIfInBounds_comm (xs := ((c.setIfInBounds i a).setIfInBounds (i + 1) b).setIfInBounds (i + 2) m) n a' (by omega : i + 3 ≠ i),
    Array.setIfInBounds_comm (xs := (c.setIfInBounds i a).setIfInBounds (i + 1) b) m a' (by omega : i + 2 ≠ i),
    Array.setIfInBounds_comm (xs := c.setIfInBounds i a) b a' (by omega : i + 1 ≠ i), Array.setIfInBounds_setIfInBounds]
theorem set4_l {α : Type} (c : Array α) (i : Nat) (a b m n b' : α) : ((((c.setIfInBounds i a).setIfInBounds (i + 1) b).setIfInBounds (i + 2) m).setIfInBounds (i + 3) n).setIfInBounds (i + 1) b' = (((c.setIfInBounds i a).setIfInBounds (i + 1) b').setIfInBounds (i + 2) m).setIfInBounds (i + 3) n := by
  rw [Array.setIfInBounds_comm (xs := ((c.setIfInBounds i a).setIfInBounds (i + 1) b).setIfInBounds (i + 2) m) n b' (by omega : i + 3 ≠ i + 1),
    Array.setIfInBounds_comm (xs := (c.setIfInBounds i a).setIfInBounds (i + 1) b) m b' (by omega : i + 2 ≠ i + 1), Array.setIfInBounds_setIfInBounds]
set_option maxHeartbeats 4000000 in
set_option maxRecDepth 100000 in
theorem lr2_any (x y : R4) (r : Fac) (a b : Int) (w : World) (ha : 1 ≤ a) (ha2 : a ≤ 1000000000000000) (hb0 : 1 ≤ b) (hb2 : b ≤ 1000000000000000) (hx : ∀ k, k < 4 → RcB a (x.at_ k)) (hy : ∀ k, k < 4 → RcB b (y.at_ k)) :
    Calls Try.prog 44 #[.agg x.arr, .agg y.arr, r.val] w (Ret (.agg (lrG x y r).arr) w) := by
  have HX := Lib.hid hx; clear hx
  have HY := Lib.hid hy; clear hy
  unfold Fac.val
  go_enter Try.func44, Try.ntmps44
  go_wp2_with (with_reducible refine stopL ?_)
  have HI : ∀ W : World, Hid (W = (((((w.alloc (.cells x.arr 72)).alloc (.cells y.arr 72)).alloc (.cells #[.string r.l, .int .i64 r.a, .int .i64 r.b] 75)).alloc (.cells (R4.mk4 ⟨0, 0, 0, 0⟩ ⟨0, 0, 0, 0⟩ ⟨0, 0, 0, 0⟩ ⟨0, 0, 0, 0⟩).arr 72)).alloc (.cells (R4.mk4 ⟨0, 0, 0, 0⟩ ⟨0, 0, 0, 0⟩ ⟨0, 0, 0, 0⟩ ⟨0, 0, 0, 0⟩).arr 72))) → Below w.heap.size w W ∧
      Hid (Blk W w.heap.size 72 x.arr) ∧ Hid (Blk W (w.heap.size + 1) 72 y.arr) ∧ Hid (Blk W (w.heap.size + 1 + 1 + 1) 72 (R4.mk4 ⟨0, 0, 0, 0⟩ ⟨0, 0, 0, 0⟩ ⟨0, 0, 0, 0⟩ ⟨0, 0, 0, 0⟩).arr) ∧ Hid (Blk W (w.heap.size + 1 + 1 + 1 + 1) 72 (R4.mk4 ⟨0, 0, 0, 0⟩ ⟨0, 0, 0, 0⟩ ⟨0, 0, 0, 0⟩ ⟨0, 0, 0, 0⟩).arr) := fun W hW => by
    rw [hW.out]
    have s1 : (w.alloc (.cells x.arr 72)).heap.size = w.heap.size + 1 := by simp
    have s3 : (((w.alloc (.cells x.arr 72)).alloc (.cells y.arr 72)).alloc (.cells #[.string r.l, .int .i64 r.a, .int .i64 r.b] 75)).heap.size = w.heap.size + 1 + 1 + 1 := by simp
    have s4 : ((((w.alloc (.cells x.arr 72)).alloc (.cells y.arr 72)).alloc (.cells #[.string r.l, .int .i64 r.a, .int .i64 r.b] 75)).alloc (.cells (R4.mk4 ⟨0, 0, 0, 0⟩ ⟨0, 0, 0, 0⟩ ⟨0, 0, 0, 0⟩ ⟨0, 0, 0, 0⟩).arr 72)).heap.size = w.heap.size + 1 + 1 + 1 + 1 := by simp
    refine ⟨by (repeat first | exact Below.refl _ _ | assumption | refine Below.drew ?_ | refine Below.alloc ?_ (by first | exact Nat.le_refl _ | (simp; done) | omega | (simp; omega)) _ | refine Below.setCell ?_ (by first | exact Nat.le_refl _ | (simp; done) | omega | (simp; omega)) _), Lib.hid ?_, Lib.hid ?_, Lib.hid ?_, Lib.hid ?_⟩
    · exact ((((Blk.new w _ _).alloc _).alloc _).alloc _).alloc _
    · rw [← s1]; exact (((Blk.new _ _ _).alloc _).alloc _).alloc _
    · rw [← s3]; exact (Blk.new _ _ _).alloc _
    · rw [← s4]; exact Blk.new _ _ _
  refine stop_named fun W hW => ?_
  obtain ⟨hb0', BX, BY, BR, BO⟩ := HI W hW
  clear HI hW
  unfold Stop
  refine wpList_load_row rfl 72 _ rfl w.heap.size rfl 72 x.arr (0, 0) _ BX.out und_r4 rfl info_r4 ?_
  go_wp2_with fail
  generalize hg7 : w.heap.size + 1 + 1 + 1 + 1 = g7 at *
  generalize hg6 : w.heap.size + 1 + 1 + 1 = g6 at *
  generalize hg5 : w.heap.size + 1 + 1 = g5 at *
  generalize hg4 : w.heap.size + 1 = g4 at *
  have z4 : w.heap.size < g4 := by omega
  have z6 : g4 < g6 := by omega
  have z7 : g6 < g7 := by omega
  clear hg7 hg6 hg5 hg4
  go_loopw [13] (fun i_ w' => ∃ (k : Nat), i_ = .int .i64 k ∧ k ≤ 4 ∧ Below w.heap.size w w' ∧ Hid (Blk w' g4 72 y.arr) ∧ Hid (Blk w' (g6) 72 (R4.mk4 ⟨0, 0, 0, 0⟩ ⟨0, 0, 0, 0⟩ ⟨0, 0, 0, 0⟩ ⟨0, 0, 0, 0⟩).arr) ∧
      Hid (Blk w' (g7) 72 (r4P (fun k => lrJ (x.at_ k) (y.at_ k)) ⟨0, 0, 0, 0⟩ k).arr)) (fun i_ _ => 4 - (intOf i_).toNat)
  case atStart => exact ⟨0, rfl, by omega, hb0', BY, BR, BO⟩
  case round =>
    obtain ⟨k, rfl, hk, hb, hY, hR, hO⟩ := hrel
    by_cases hlt : k < 4
    · have ix := fun w => ixR x hlt w
      have hYl := hY.out.lt
      have hOl := hO.out.lt
      have hOf := hO.out.frozen
      obtain ⟨y0, y1, y2, y3⟩ := R4.arr_at y hlt
      have b0 := (hY.out.cell (k * 4)).trans y0
      have b1 := (hY.out.cell (k * 4 + 1)).trans y1
      have b2 := (hY.out.cell (k * 4 + 2)).trans y2
      have b3 := (hY.out.cell (k * 4 + 3)).trans y3
      obtain ⟨o0, o1, o2, o3⟩ := R4.arr_at (r4P (fun k => lrJ (x.at_ k) (y.at_ k)) ⟨0, 0, 0, 0⟩ k) hlt
      have c0 := (hO.out.cell (k * 4)).trans o0
      have c1 := (hO.out.cell (k * 4 + 1)).trans o1
      have c2 := (hO.out.cell (k * 4 + 2)).trans o2
      have c3 := (hO.out.cell (k * 4 + 3)).trans o3
      have HP := Lib.hid (r4_put (r4P (fun k => lrJ (x.at_ k) (y.at_ k)) ⟨0, 0, 0, 0⟩ k) hlt (lrJ (x.at_ k) (y.at_ k)))
      have HQ := Lib.hid (r4P_put (fun k => lrJ (x.at_ k) (y.at_ k)) ⟨0, 0, 0, 0⟩ hlt)
      have q1 := HX.out k hlt
      have q2 := HY.out k hlt
      obtain ⟨p0, p1, p2, p3, p4, p5, p6⟩ := q1
      obtain ⟨r0, r1, r2, r3, r4, r5, r6⟩ := q2
      clear y0 y1 y2 y3 o0 o1 o2 o3
      generalize (r4P (fun k => lrJ (x.at_ k) (y.at_ k)) ⟨0, 0, 0, 0⟩ k).at_ k = z at *
      generalize x.at_ k = xk at *
      generalize y.at_ k = yk at *
      obtain ⟨xf, xl, xm, xn⟩ := xk
      obtain ⟨yf, yl, ym, yn⟩ := yk
      obtain ⟨zf, zl, zm, zn⟩ := z
      simp only at p0 p1 p2 p3 p4 p5 p6 r0 r1 r2 r3 r4 r5 r6 ix b0 b1 b2 b3 c0 c1 c2 c3
      subst p6 r6
      have u1 : IntKind.i64.wrap (xl + yf) = xl + yf := IntWalk.i64_in _ (by omega)
      have u2 : IntKind.i64.wrap (xn + yn) = xn + yn := IntWalk.i64_in _ (by clear u1; omega)
      have u3 : IntKind.i64.wrap (xf + yf) = xf + yf := IntWalk.i64_in _ (by clear u1 u2; omega)
      have u4 : IntKind.i64.wrap (yl + xl) = yl + xl := IntWalk.i64_in _ (by clear u1 u2 u3; omega)
      have HJ := Lib.hid (lrJ_at xf xl xm xn yf yl ym yn)
      clear p0 p1 p2 p3 p4 p5 r0 r1 r2 r3 r4 r5 ha ha2 hb0 hb2
      have hsz := Lib.hid (show k * 4 + 3 < (r4P (fun k => lrJ (x.at_ k) (y.at_ k)) ⟨0, 0, 0, 0⟩ k).arr.size by rw [R4.arr_size]; omega)
      have hsz := Lib.hid (show k * 4 + 3 < (r4P (fun k => lrJ (x.at_ k) (y.at_ k)) ⟨0, 0, 0, 0⟩ k).arr.size by rw [R4.arr_size]; omega)
      have HM := Lib.hid (show (xm < ym ∧ (if xm < ym then ym else xm) = ym) ∨ (ym ≤ xm ∧ (if xm < ym then ym else xm) = xm) by split <;> omega)
      by_cases e1 : xf = xn
      · subst e1
        by_cases e2 : yl = yn
        · subst e2
          go_wp2_with fail
          all_goals
            refine named fun w8 H8 => ?_
            have B8 := hO.out.put4 H8.out
            have Y8 := Lib.hid (hY.out.far4 (by omega : g4 ≠ g7) H8.out)
            have R8 := Lib.hid (hR.out.far4 (by omega : g6 ≠ g7) H8.out)
            have X9 := Blk.new4a H8.out
            have X10 := Blk.new4b H8.out
            have BB8 := Lib.hid (below4 hb hb.size (by omega) H8.out)
            have d0 := (B8.cell (k * 4)).trans (put4_at hsz.out).1
            have d1 := (B8.cell (k * 4 + 1)).trans (put4_at hsz.out).2
            have f8 := B8.frozen
            have l8 := B8.lt
            have l9 := X9.lt
            have l10 := X10.lt
            obtain ⟨x0, x1, x2, x3⟩ := (show Blk w8 wr.heap.size 71 #[_, _, _, _] from X9).four'
            obtain ⟨y0, y1, y2, y3⟩ := (show Blk w8 (wr.heap.size + 1) 71 #[_, _, _, _] from X10).four'
            have B8' := Lib.hid B8
            have X9' := Lib.hid X9
            have X10' := Lib.hid X10
            clear B8 X9 X10 H8
            go_region
            go_wp2_with fail
            refine named fun w9 H9 => ?_
            have B9 := B8'.out.put1 H9.out
            have Y9 := Lib.hid (Y8.out.far1 (by omega : g4 ≠ g7) H9.out)
            have R9 := Lib.hid (R8.out.far1 (by omega : g6 ≠ g7) H9.out)
            have X29 := X9'.out.far1 (by omega : wr.heap.size ≠ g7) H9.out
            have BB9 := Lib.hid (below1 BB8.out (by omega) H9.out)
            have c9 := (B8'.out.put1 H9.out).cell (k * 4 + 1)
            rw [Array.getElem?_setIfInBounds_ne (by omega), (put4_at hsz.out).2] at c9
            have f9 := B9.frozen
            have m8 := B9.lt
            have m9 := X29.lt
            obtain ⟨s0, s1, s2, s3⟩ := (show Blk w9 wr.heap.size 71 #[_, _, _, _] from X29).four'
            have B9' := Lib.hid B9
            clear B9 X29 H9 d0 d1 f8 l8 l9 l10 x0 x1 x2 x3 y0 y1 y2 y3
            go_region
            have hm := HM.out
            have BF := (B9'.out.set_ (k * 4 + 1) (.int .i64 (yl + xl)))
            rw [set4_f, set4_l] at BF
            go_wp2_with fail
            go_roundw
            case rel =>
              refine ⟨k + 1, by go_num, by omega, (BB9.out.setCell (p := ⟨g7, k * 4 + 1, none⟩) (by show _ ≤ g7; omega) _).drew, Lib.hid ((Y9.out.far (p := ⟨g7, k * 4 + 1, none⟩) (by show g4 ≠ g7; omega) _).drew), Lib.hid ((R9.out.far (p := ⟨g7, k * 4 + 1, none⟩) (by show g6 ≠ g7; omega) _).drew), Lib.hid ?_⟩
              rw [← HQ.out, ← HP.out, lrJ_at, if_pos rfl, if_pos rfl]
              simp only
              first
                | (rw [show max (max xm ym) (xl + yf) = xl + yf by omega]; exact BF.drew)
                | (rw [show max (max xm ym) (xl + yf) = ym by omega]; exact BF.drew)
                | (rw [show max (max xm ym) (xl + yf) = xm by omega]; exact BF.drew)
            case measure => simp [intOf]; omega
        · go_wp2_with fail
          all_goals
            refine named fun w8 H8 => ?_
            have B8 := hO.out.put4 H8.out
            have Y8 := Lib.hid (hY.out.far4 (by omega : g4 ≠ g7) H8.out)
            have R8 := Lib.hid (hR.out.far4 (by omega : g6 ≠ g7) H8.out)
            have X9 := Blk.new4a H8.out
            have X10 := Blk.new4b H8.out
            have BB8 := Lib.hid (below4 hb hb.size (by omega) H8.out)
            have d0 := (B8.cell (k * 4)).trans (put4_at hsz.out).1
            have d1 := (B8.cell (k * 4 + 1)).trans (put4_at hsz.out).2
            have f8 := B8.frozen
            have l8 := B8.lt
            have l9 := X9.lt
            have l10 := X10.lt
            obtain ⟨x0, x1, x2, x3⟩ := (show Blk w8 wr.heap.size 71 #[_, _, _, _] from X9).four'
            obtain ⟨y0, y1, y2, y3⟩ := (show Blk w8 (wr.heap.size + 1) 71 #[_, _, _, _] from X10).four'
            have B8' := Lib.hid B8
            have X9' := Lib.hid X9
            have X10' := Lib.hid X10
            clear B8 X9 X10 H8
            go_region
            have hm := HM.out
            have BF := (B8'.out.set_ (k * 4) (.int .i64 (xf + yf)))
            rw [set4_f] at BF
            go_wp2_with fail
            go_roundw
            case rel =>
              refine ⟨k + 1, by go_num, by omega, (BB8.out.setCell (p := ⟨g7, k * 4, none⟩) (by show _ ≤ g7; omega) _).drew, Lib.hid ((Y8.out.far (p := ⟨g7, k * 4, none⟩) (by show g4 ≠ g7; omega) _).drew), Lib.hid ((R8.out.far (p := ⟨g7, k * 4, none⟩) (by show g6 ≠ g7; omega) _).drew), Lib.hid ?_⟩
              rw [← HQ.out, ← HP.out, lrJ_at, if_pos rfl, if_neg e2]
              simp only
              first
                | (rw [show max (max xm ym) (xl + yf) = xl + yf by omega]; exact BF.drew)
                | (rw [show max (max xm ym) (xl + yf) = ym by omega]; exact BF.drew)
                | (rw [show max (max xm ym) (xl + yf) = xm by omega]; exact BF.drew)
            case measure => simp [intOf]; omega
      · by_cases e2 : yl = yn
        · subst e2
          go_wp2_with fail
          all_goals
            refine named fun w8 H8 => ?_
            have B8 := hO.out.put4 H8.out
            have Y8 := Lib.hid (hY.out.far4 (by omega : g4 ≠ g7) H8.out)
            have R8 := Lib.hid (hR.out.far4 (by omega : g6 ≠ g7) H8.out)
            have X9 := Blk.new4a H8.out
            have X10 := Blk.new4b H8.out
            have BB8 := Lib.hid (below4 hb hb.size (by omega) H8.out)
            have d0 := (B8.cell (k * 4)).trans (put4_at hsz.out).1
            have d1 := (B8.cell (k * 4 + 1)).trans (put4_at hsz.out).2
            have f8 := B8.frozen
            have l8 := B8.lt
            have l9 := X9.lt
            have l10 := X10.lt
            obtain ⟨x0, x1, x2, x3⟩ := (show Blk w8 wr.heap.size 71 #[_, _, _, _] from X9).four'
            obtain ⟨y0, y1, y2, y3⟩ := (show Blk w8 (wr.heap.size + 1) 71 #[_, _, _, _] from X10).four'
            have B8' := Lib.hid B8
            have X9' := Lib.hid X9
            have X10' := Lib.hid X10
            clear B8 X9 X10 H8
            go_region
            have hm := HM.out
            have BF := (B8'.out.set_ (k * 4 + 1) (.int .i64 (yl + xl)))
            rw [set4_l] at BF
            go_wp2_with fail
            go_roundw
            case rel =>
              refine ⟨k + 1, by go_num, by omega, (BB8.out.setCell (p := ⟨g7, k * 4 + 1, none⟩) (by show _ ≤ g7; omega) _).drew, Lib.hid ((Y8.out.far (p := ⟨g7, k * 4 + 1, none⟩) (by show g4 ≠ g7; omega) _).drew), Lib.hid ((R8.out.far (p := ⟨g7, k * 4 + 1, none⟩) (by show g6 ≠ g7; omega) _).drew), Lib.hid ?_⟩
              rw [← HQ.out, ← HP.out, lrJ_at, if_neg e1, if_pos rfl]
              simp only
              first
                | (rw [show max (max xm ym) (xl + yf) = xl + yf by omega]; exact BF.drew)
                | (rw [show max (max xm ym) (xl + yf) = ym by omega]; exact BF.drew)
                | (rw [show max (max xm ym) (xl + yf) = xm by omega]; exact BF.drew)
            case measure => simp [intOf]; omega
        · go_wp2_with fail
          all_goals
            have hm := HM.out
            go_roundw
            case rel =>
              refine ⟨k + 1, by go_num, by omega, ?_, Lib.hid ?_, Lib.hid ?_, Lib.hid ?_⟩
              · exact below4 hb hb.size (by omega) (Eq.refl _)
              · exact hY.out.far4 (by omega : g4 ≠ g7) (Eq.refl _)
              · exact hR.out.far4 (by omega : g6 ≠ g7) (Eq.refl _)
              · rw [← HQ.out, ← HP.out, lrJ_at, if_neg e1, if_neg e2]
                simp only
                rw [show max (max xm ym) (xl + yf) = (if (if xm < ym then ym else xm) < xl + yf then xl + yf else if xm < ym then ym else xm) by
                  generalize (if xm < ym then ym else xm) = v at hm ⊢
                  split <;> omega]
                exact hO.out.put4 (Eq.refl _)
            case measure => simp [intOf]; omega
    · obtain rfl : k = 4 := by omega
      have hOl := hO.out.lt
      have hRl := hR.out.lt
      go_wp2_with (with_reducible refine stopL ?_)
      unfold Stop
      refine wpList_load_row rfl 72 _ rfl g7 rfl 72 (lrG x y r).arr (0, 0) _ hO.out und_r4 rfl info_r4 ?_
      refine wpList_store_row rfl 72 _ _ rfl g6 (lrG x y r).arr rfl rfl 72 _ hR.out info_r4 rfl (R4.arr_one _) ?_
      have HZ := Lib.hid (hR.out.row (cs' := (lrG x y r).arr))
      have hbz := Lib.hid (below_setRow hb (by omega : w.heap.size ≤ g6) (lrG x y r).arr)
      generalize wr.setRow g6 (lrG x y r).arr = w9 at *
      go_wp2_with fail
      exact bodyPost_ret (v := .agg (lrG x y r).arr) (results_cell Try.results44 _ _ _ (ad := ⟨g6, 0, none⟩) (by rfl) (run_loadVar_row (P := Try.prog) w9 g6 72 72 _ (0, 0) _ HZ.out und_r4 rfl info_r4)) rfl ⟨rfl, hbz.out⟩
end Go.Proofs.Ytkknhpailohjcaa
