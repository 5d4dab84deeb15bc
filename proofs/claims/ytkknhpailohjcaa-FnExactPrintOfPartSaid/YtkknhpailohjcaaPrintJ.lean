/-
  Prints in the program: the whole.
-/
import Derived.Test.YtkknhpailohjcaaPrintI
import Derived.Test.YtkknhpailohjcaaModC
import Derived.Deep.RegionWith
namespace Go.Proofs.Ytkknhpailohjcaa
open Go.RowKit

theorem Rd.mk {w : World} {B n : Nat} {A : Option Addr} {xs : List Mk} {k : Nat} (h : Rd w B A n 2 encMk xs) (hk : k < n) :
    ∃ b o, A = some ⟨b, o, none⟩ ∧ b < B ∧ w.cell? ⟨b, o + k * 2, none⟩ = some (.int .i64 (xs.getD k Mk.nil).p) ∧ w.cell? ⟨b, o + k * 2 + 1, none⟩ = some (.int .i64 (xs.getD k Mk.nil).w) := by
  obtain ⟨b, o, hA, hb, x, hx, hc⟩ := h.at_ hk
  refine ⟨b, o, hA, hb, ?_⟩
  rw [show xs.getD k Mk.nil = x by rw [List.getD_eq_getElem?_getD, hx]; rfl]
  exact ⟨hc 0 _ rfl, hc 1 _ rfl⟩
theorem gb_refl (w : World) (r : Option Nat) : w.grownBy w r := gb_below (Below.refl w.heap.size w)
theorem gb_two {w w1 : World} {ob : Nat} {R : Prop} (h : w.grownBy w1 (some ob) ∧ R) (x y : Value) : w.grownBy ((w1.setCell ⟨ob, 0, none⟩ x).setCell ⟨ob, 1, none⟩ y) (some ob) := gb_setCell (gb_setCell h.1 0 x) 1 y
theorem gb_drew {w w1 : World} {ob : Nat} (h : w.grownBy w1 (some ob)) : w.grownBy w1.drew (some ob) := gb_trans h (gb_below (Below.refl _ _).drew)
set_option maxHeartbeats 2000000 in
set_option maxRecDepth 100000 in
theorem printStep_any (k : Nat) (s : Mk) (m : Int) (mb fb ob lb B : Nat) (A3 : Option Addr) (n3 c3 : Nat) (xs : List Mk) (w : World) (hmb : Blk w mb 2 #[.int .i64 m]) (hfb : Blk w fb 94 #[.func (.func 63) #[] #[.pointer (some ⟨mb, 0, none⟩)]])
    (hob : Blk w ob 93 #[.int .i64 s.p, .int .i64 s.w]) (hlb : Blk w lb 95 #[.slice A3 n3 c3]) (hC : Rd w B A3 n3 2 encMk xs) (hB : B ≤ ob) (hk : k < n3) (hm : 1 ≤ m) (hm2 : m ≤ 1000000000) (hs : MkB m s) (hx : MkB m (xs.getD k Mk.nil)) :
    Calls Try.prog 68 #[.int .i64 (k : Int), .pointer (some ⟨fb, 0, none⟩), .pointer (some ⟨ob, 0, none⟩), .pointer (some ⟨lb, 0, none⟩)] w (fun e w' => e = .returned (.tuple #[]) ∧ w.grownBy w' (some ob) ∧
      Blk w' ob 93 #[.int .i64 (mkG m s (xs.getD k Mk.nil) default).p, .int .i64 (mkG m s (xs.getD k Mk.nil) default).w]) := by
  have n1 : mb ≠ ob := by rintro rfl; have := hmb.symm.trans hob; simp at this
  have n2 : fb ≠ ob := by rintro rfl; have := hfb.symm.trans hob; simp at this
  have n3' : lb ≠ ob := by rintro rfl; have := hlb.symm.trans hob; simp at this
  have hoB := hob.lt
  obtain ⟨p3, o3, rfl, hB3, e3, e4⟩ := (hC.mk (k := k) (by omega))
  have d0 := hob.cell 0
  have d0' := hob.cell 1
  have f0 := hob.frozen
  have df := hfb.cell 0
  have dl := hlb.cell 0
  have lf := hfb.lt
  have ll := hlb.lt
  have df' : w.cell? ⟨fb, 0, none⟩ = some (.func (.func 63) #[] #[.pointer (some ⟨mb, 0, none⟩)]) := df
  have dl' : w.cell? ⟨lb, 0, none⟩ = some (.slice (some ⟨p3, o3, none⟩) n3 c3) := dl
  have ne : ∀ g, g ≠ ob → some g ≠ some ob := fun g h e => h (by injection e)
  have KS := Lib.hid (fun (w' : World) (h : w.grownBy w' (some ob)) => show w.grownBy w' (some ob) ∧ w'.cell? ⟨fb, 0, none⟩ = some (.func (.func 63) #[] #[.pointer (some ⟨mb, 0, none⟩)]) ∧ w'.cell? ⟨lb, 0, none⟩ = some (.slice (some ⟨p3, o3, none⟩) n3 c3)
      ∧ w'.cell? ⟨p3, o3 + k * 2, none⟩ = some (.int .i64 (xs.getD k Mk.nil).p) ∧ w'.cell? ⟨p3, o3 + k * 2 + 1, none⟩ = some (.int .i64 (xs.getD k Mk.nil).w) from
    ⟨h, h.cell df' (ne _ n2), h.cell dl' (ne _ n3'), h.cell e3 (ne _ (by show p3 ≠ ob; omega)), h.cell e4 (ne _ (by show p3 ≠ ob; omega))⟩)
  have HC := Lib.hid (fun (w' : World) {R : Prop} (h : w.grownBy w' (some ob) ∧ R) => behind_any s (xs.getD k Mk.nil) m mb w' (hmb.grown h.1 (ne _ n1)) hm hm2 hs hx)
  have HO := Lib.hid (fun (w' : World) (h : w.grownBy w' (some ob) ∧ True) => h.1.size)
  have et := enterOk Try.func63 (by kernel_rfl) (by kernel_rfl)
  unfold EnterOk at et
  generalize xs.getD k Mk.nil = x at *
  obtain ⟨xp, xw⟩ := x
  obtain ⟨sp, sw⟩ := s
  generalize hz : mkG m ⟨sp, sw⟩ ⟨xp, xw⟩ default = z at *
  obtain ⟨zp, zw⟩ := z
  have HOb := Lib.hid hob
  have i2 : (0 : Int) ≤ (k : Int) := by omega
  have i3 : (k : Int) < n3 := by omega
  simp only at KS HC d0 d0'
  clear hob hlb hfb hmb hC df dl hs hx hz
  go_enter Try.func68, Try.ntmps68
  go_wp2_with fail
  go_region_with
    (first
      | (go_at_call 63
         refine (HC.out w.drew ⟨gb_drew (gb_refl _ _), trivial⟩).mono ?_
         rintro e wm ⟨rfl, hbm⟩
         have bk : w.grownBy wm (some ob) ∧ True := ⟨gb_trans (gb_drew (gb_refl _ _)) (gb_below hbm), trivial⟩
         have OB := (HOb.out.drew).next hbm
         have f1 := OB.frozen
         have c1 := OB.cell 0
         have c2 := OB.cell 1
         have l1 := OB.lt)
      | fail)
  all_goals
    have R3 := Lib.hid ((OB.set_ 0 (.int .i64 zp)).set_ 1 (.int .i64 zw))
    generalize hW : (wm.setCell ⟨ob, 0, none⟩ (.int .i64 zp)).setCell ⟨ob, 1, none⟩ (.int .i64 zw) = w8
    have H8 := Lib.hid hW.symm
    rw [hW] at R3
    clear hW
    go_wp2_with fail
    go_end0
    refine ⟨rfl, ?_, by simpa using R3.out⟩
    rw [H8.out]
    exact gb_two bk _ _
end Go.Proofs.Ytkknhpailohjcaa
