/-
  Prints in the program.
-/
import Derived.Test.YtkknhpailohjcaaPrintM
import Derived.Test.YtkknhpailohjcaaPlace
import Derived.Deep.RegionHeld3
namespace Go.Proofs.Ytkknhpailohjcaa
open Go.RowKit

theorem mul_b9' {x y : Int} (x0 : 0 ≤ x) (x1 : x ≤ 1000000000) (y0 : 0 ≤ y) (y1 : y ≤ 1000000000) : 0 ≤ x * y ∧ x * y ≤ 1000000000000000000 := by
  refine ⟨Int.mul_nonneg x0 y0, ?_⟩
  have := Int.mul_le_mul x1 y1 y0 (by omega : (0 : Int) ≤ 1000000000)
  omega
abbrev Mk.v (x : Mk) : Value := .agg #[.int .i64 x.p, .int .i64 x.w]
/-- a mark within bounds -/
def MkB (m : Int) (x : Mk) : Prop := (0 ≤ x.p ∧ x.p < m) ∧ 0 ≤ x.w ∧ x.w < m
set_option maxHeartbeats 2000000 in
theorem behind_any (x y : Mk) (m : Int) (mb : Nat) (w : World) (hmb : Blk w mb 2 #[.int .i64 m]) (hm : 1 ≤ m) (hm2 : m ≤ 1000000000) (hx : MkB m x) (hy : MkB m y) :
    Calls Try.prog 63 #[x.v, y.v, .pointer (some ⟨mb, 0, none⟩)] w (Ret (mkG m x y default).v w) := by
  obtain ⟨xp, xw⟩ := x
  obtain ⟨yp, yw⟩ := y
  obtain ⟨⟨x0, x1⟩, x2, x3⟩ := hx
  obtain ⟨⟨y0, y1⟩, y2, y3⟩ := hy
  simp only at x0 x1 x2 x3 y0 y1 y2 y3
  have dm := hmb.cell 0
  have lm := hmb.lt
  have p1 := mul_b9' x2 (by omega) y0 (by omega)
  have p2 := mul_b9' x2 (by omega) y2 (by omega)
  obtain ⟨p10, p11⟩ := p1
  obtain ⟨p20, p21⟩ := p2
  have r1 := emod_in (a := xp + xw * yp) hm
  have r2 := emod_in (a := xw * yw) hm
  obtain ⟨r10, r11⟩ := r1
  obtain ⟨r20, r21⟩ := r2
  have u1 : IntKind.i64.wrap (xw * yp) = xw * yp := IntWalk.i64_in _ (by omega)
  have u2 : IntKind.i64.wrap (xw * yw) = xw * yw := IntWalk.i64_in _ (by clear u1; omega)
  have u3 : IntKind.i64.wrap (xp + xw * yp) = xp + xw * yp := IntWalk.i64_in _ (by clear u1 u2; omega)
  have u4 : IntKind.i64.wrap ((xp + xw * yp) % m) = (xp + xw * yp) % m := IntWalk.i64_in _ (by clear u1 u2 u3; omega)
  have u5 : IntKind.i64.wrap (xw * yw % m) = xw * yw % m := IntWalk.i64_in _ (by clear u1 u2 u3 u4; omega)
  have v1 : (xp + xw * yp).tmod m = (xp + xw * yp) % m := Int.tmod_eq_emod_of_nonneg (by omega)
  have v2 : (xw * yw).tmod m = xw * yw % m := Int.tmod_eq_emod_of_nonneg (by omega)
  have hm0 : ¬ m = 0 := by omega
  have HM := Lib.hid hmb; clear hmb
  go_enter Try.func63, Try.ntmps63
  go_wp2_with fail
  refine named fun w1 H1 => ?_
  have b1 : Below w.heap.size w w1 := by rw [H1.out]; (repeat first | exact Below.refl _ _ | assumption | refine Below.drew ?_ | refine Below.alloc ?_ (by first | exact Nat.le_refl _ | (simp; done) | omega | (simp; omega)) _ | refine Below.setCell ?_ (by first | exact Nat.le_refl _ | (simp; done) | omega | (simp; omega)) _)
  have X1 : Blk w1 w.heap.size 93 #[.int .i64 xp, .int .i64 xw] := by rw [H1.out]; simpa using ((Blk.new w _ _).alloc _).alloc _
  have Y1 : Blk w1 (w.heap.size + 1) 93 #[.int .i64 yp, .int .i64 yw] := by rw [H1.out]; simpa using (Blk.new (w.alloc _) _ _).alloc _
  have R1 : Blk w1 (w.heap.size + 1 + 1) 93 #[.int .i64 0, .int .i64 0] := by rw [H1.out]; simpa using Blk.new ((w.alloc _).alloc _) _ _
  have dm1 := (HM.out.next b1).cell 0
  have lm1 := (HM.out.next b1).lt
  have cx0 := X1.cell 0
  have cx1 := X1.cell 1
  have cy0 := Y1.cell 0
  have cy1 := Y1.cell 1
  have cr0 := R1.cell 0
  have cr1 := R1.cell 1
  have fr := R1.frozen
  have lx := X1.lt
  have ly := Y1.lt
  have lr := R1.lt
  have B1 := Lib.hid b1
  have RR := Lib.hid R1
  clear X1 Y1 R1 H1 b1 dm lm
  clear u1 u2 u3 u4 u5 v1 v2
  go_region
  generalize hW : World.drew _ = w3
  have H3 := Lib.hid hW.symm; clear hW
  have R3 : Blk w3 (w.heap.size + 1 + 1) 93 #[.int .i64 ((xp + xw * yp) % m), .int .i64 (xw * yw % m)] := by rw [H3.out]; refine Blk.drew ?_; simpa using (RR.out.set_ 0 _).set_ 1 _
  have c0 := R3.cell 0
  have c1 := R3.cell 1
  have l3 := R3.lt
  clear R3 cr0 cr1 fr
  go_wp2_with fail
  refine bodyPost_ret (v := (mkG m ⟨xp, xw⟩ ⟨yp, yw⟩ default).v) (by simp [results, Try.results63, go_sem, mkG, c0, c1]) rfl ⟨rfl, ?_⟩
  rw [H3.out]
  exact ((B1.out.setCell (by simp; omega) _).setCell (by simp; omega) _).drew
set_option maxHeartbeats 1000000 in
theorem prLet_any (l : Nat) (b m : Int) (mb bb : Nat) (w : World) (hl : l < 4) (hmb : Blk w mb 2 #[.int .i64 m]) (hbb : Blk w bb 2 #[.int .i64 b]) (hm : 1 ≤ m) (hm2 : m ≤ 1000000000) :
    Calls Try.prog 65 #[.int .i64 (l : Int), .pointer (some ⟨mb, 0, none⟩), .pointer (some ⟨bb, 0, none⟩)] w (Ret (mkF b m l).v w) := by
  have dm := hmb.cell 0
  have lm := hmb.lt
  have db := hbb.cell 0
  have lb := hbb.lt
  have r1 := emod_in (a := (l : Int) + 1) hm
  obtain ⟨r10, r11⟩ := r1
  have u4 : IntKind.i64.wrap (((l : Int) + 1) % m) = ((l : Int) + 1) % m := IntWalk.i64_in _ (by omega)
  have v1 : ((l : Int) + 1).tmod m = ((l : Int) + 1) % m := Int.tmod_eq_emod_of_nonneg (by omega)
  have hm0 : ¬ m = 0 := by omega
  have HM := Lib.hid hmb; clear hmb
  have HB := Lib.hid hbb; clear hbb
  go_enter Try.func65, Try.ntmps65
  go_wp2_with fail
  refine named fun w1 H1 => ?_
  have b1 : Below w.heap.size w w1 := by rw [H1.out]; (repeat first | exact Below.refl _ _ | assumption | refine Below.drew ?_ | refine Below.alloc ?_ (by first | exact Nat.le_refl _ | (simp; done) | omega | (simp; omega)) _ | refine Below.setCell ?_ (by first | exact Nat.le_refl _ | (simp; done) | omega | (simp; omega)) _)
  have R1 : Blk w1 w.heap.size 93 #[.int .i64 0, .int .i64 0] := by rw [H1.out]; exact Blk.new w _ _
  have dm1 := (HM.out.next b1).cell 0
  have lm1 := (HM.out.next b1).lt
  have db1 := (HB.out.next b1).cell 0
  have lb1 := (HB.out.next b1).lt
  have cr0 := R1.cell 0
  have cr1 := R1.cell 1
  have fr := R1.frozen
  have lr := R1.lt
  have B1 := Lib.hid b1
  have RR := Lib.hid R1
  clear R1 H1 b1 dm lm db lb
  go_region
  generalize hW : World.drew _ = w3
  have H3 := Lib.hid hW.symm; clear hW
  have R3 : Blk w3 w.heap.size 93 #[.int .i64 (((l : Int) + 1) % m), .int .i64 b] := by rw [H3.out]; refine Blk.drew ?_; simpa using (RR.out.set_ 0 _).set_ 1 _
  have c0 := R3.cell 0
  have c1 := R3.cell 1
  have l3 := R3.lt
  clear R3 cr0 cr1 fr u4 v1
  go_wp2_with fail
  refine bodyPost_ret (v := (mkF b m l).v) (by simp [results, Try.results65, go_sem, mkF, c0, c1]) rfl ⟨rfl, ?_⟩
  rw [H3.out]
  exact ((B1.out.setCell (by simp; try omega) _).setCell (by simp; try omega) _).drew
set_option maxHeartbeats 1000000 in
theorem prPair_any (x y : Mk) (r : Fac) (m : Int) (mb fb : Nat) (w : World) (hmb : Blk w mb 2 #[.int .i64 m]) (hfb : Blk w fb 94 #[.func (.func 63) #[] #[.pointer (some ⟨mb, 0, none⟩)]]) (hm : 1 ≤ m) (hm2 : m ≤ 1000000000) (hx : MkB m x) (hy : MkB m y) :
    Calls Try.prog 66 #[x.v, y.v, r.val, .pointer (some ⟨fb, 0, none⟩)] w (Ret (mkG m x y r).v w) := by
  have df := hfb.cell 0
  have lf := hfb.lt
  have df' : w.cell? ⟨fb, 0, none⟩ = some (.func (.func 63) #[] #[.pointer (some ⟨mb, 0, none⟩)]) := df
  have et := enterOk Try.func63 (by kernel_rfl) (by kernel_rfl)
  unfold EnterOk at et
  have HM := Lib.hid hmb; clear hmb
  have HF := Lib.hid hfb; clear hfb
  have HC := Lib.hid (fun (w' : World) (h : Below w.heap.size w w') => behind_any x y m mb w' (HM.out.next h) hm hm2 hx hy)
  obtain ⟨xp, xw⟩ := x
  obtain ⟨yp, yw⟩ := y
  unfold Fac.val
  have df4 : ∀ o1 o2 o3 o4 : Obj, ((((w.alloc o1).alloc o2).alloc o3).alloc o4).cell? ⟨fb, 0, none⟩ = some (.func (.func 63) #[] #[.pointer (some ⟨mb, 0, none⟩)]) := fun o1 o2 o3 o4 => ((((Below.refl w.heap.size w).alloc (Nat.le_refl _) o1).alloc (by simp) o2).alloc (by simp; omega) o3).alloc (by simp; omega) o4 |>.cell (p := ⟨fb, 0, none⟩) lf |>.trans df'
  clear df
  go_enter Try.func66, Try.ntmps66
  go_wp2_with fail
  refine namedC fun w1 H1 => ?_
  have b1 : Below w.heap.size w w1 := by rw [H1.out]; (repeat first | exact Below.refl _ _ | assumption | refine Below.drew ?_ | refine Below.alloc ?_ (by first | exact Nat.le_refl _ | (simp; done) | omega | (simp; omega)) _ | refine Below.setCell ?_ (by first | exact Nat.le_refl _ | (simp; done) | omega | (simp; omega)) _)
  have RR := Lib.hid (show Blk w1 (w.heap.size + 1 + 1 + 1) 93 #[.int .i64 0, .int .i64 0] by rw [H1.out]; simpa using Blk.new (((w.alloc _).alloc _).alloc _) _ _)
  clear H1 df4
  refine (HC.out w1 b1).mono ?_
  rintro e w2 ⟨rfl, hb2⟩
  have ez := Lib.hid (show mkG m ⟨xp, xw⟩ ⟨yp, yw⟩ r = mkG m ⟨xp, xw⟩ ⟨yp, yw⟩ default from rfl)
  generalize mkG m ⟨xp, xw⟩ ⟨yp, yw⟩ default = z at *
  obtain ⟨zp, zw⟩ := z
  have R2 := RR.out.next hb2
  have c0 := R2.cell 0
  have c1 := R2.cell 1
  have fr := R2.frozen
  have l2 := R2.lt
  have b2 := b1.trans (hb2.mono b1.size)
  clear R2
  go_wp2_with fail
  refine bodyPost_ret (v := (Mk.mk zp zw).v) (by simp [results, Try.results66, go_sem, c0, c1]) rfl ⟨by rw [ez.out], ?_⟩
  exact (b2.setCell (by simp; omega) _).setCell (by simp; omega) _
end Go.Proofs.Ytkknhpailohjcaa
