/-
  The statement FnExactValidEdit: for all arguments the program's ValidEdit answers as the reference's, and its argument stays as it is. No condition.
-/
import Derived.Test.YtchlipklmdlklaaEditT
import Derived.Test.YtchlipklmdlklaaEditI
import Derived.Test.YtchlipklmdlklaaEditC
import Derived.Test.YtchlipklmdlklaaEditO
import Derived.Deep.RegionHeld3
namespace Go.Proofs.Ytchlipklmdlklaa
open Go.ChangeShapes Go.WideShapes Go.ChangeAt Go.RowKit Go.Deep

set_option maxHeartbeats 1000000 in
theorem specEdit_any (k i j l : Int) (A : Option Addr) (n c : Nat) (rs : List Fac) (mp : ByteArray) (w : World) (hn : n ≤ 1048576) (hr : Rd w w.heap.size A n 3 Fac.cells rs) (hok : ∀ f ∈ rs, f.l.size ≤ maxLen) (hs : mp.size ≤ maxLen) (b : Bool) (hb : edB k i j l rs mp = b) :
    Calls Try.prog 17 #[.agg #[.int .i64 k, .int .i64 i, .int .i64 j, .int .i64 l, .slice A n c, .string mp]] w (Ret (.bool b) w) := by
  have hb0 : Below w.heap.size w (w.alloc (.cells #[.int .i64 k, .int .i64 i, .int .i64 j, .int .i64 l, .slice A n c, .string mp] 43)) := by (repeat first | exact Below.refl _ _ | assumption | refine Below.drew ?_ | refine Below.alloc ?_ (by first | exact Nat.le_refl _ | (simp; done) | omega | (simp; omega)) _ | refine Below.setCell ?_ (by first | exact Nat.le_refl _ | (simp; done) | omega | (simp; omega)) _)
  have hc := Lib.hid (l07Ok_any w.heap.size k i j l A n c rs mp _ (Blk.new w 43 #[.int .i64 k, .int .i64 i, .int .i64 j, .int .i64 l, .slice A n c, .string mp]) hn (hr.next hb0) hok hs b hb)
  clear hr hok hb
  go_enter Try.func17, Try.ntmps17
  go_wp2_with fail
  refine hc.out.mono ?_
  rintro e w1 ⟨rfl, hb1⟩
  go_wp2_with fail
  go_ret
  exact ⟨rfl, hb0.trans (hb1.mono hb0.size)⟩
set_option maxHeartbeats 2000000 in
set_option maxRecDepth 100000 in
theorem walkEdit (k i j l : Int) (A : Option Addr) (n c : Nat) (xs : List Fac) (mp : ByteArray) (w : World) (_wk : I64 k) (_wi : I64 i) (_wj : I64 j) (_wl : I64 l) (hn : n ≤ maxLen) (hx : Rd w w.heap.size A n 3 Fac.cells xs) (ox : ∀ f ∈ xs, Fac.ok f) (hm : mp.size ≤ maxLen) :
    Calls Try.prog 4 #[.agg #[.int .i64 k, .int .i64 i, .int .i64 j, .int .i64 l, .slice A n c, .string mp]] w (Ret (.bool true) w) := by
  have lx := Lib.hid hx.len
  have HX0 := Lib.hid hx
  have hsz : ∀ f ∈ xs, f.l.size ≤ maxLen := fun f hf => (ox f hf).1
  have Hsz := Lib.hid hsz; clear hsz
  go_enter Try.func4, Try.ntmps4
  go_wp2_with fail
  refine namedC fun w0 H0 => ?_
  have BG := Lib.hid (show Blk w0 w.heap.size 39 #[.int .i64 k, .int .i64 i, .int .i64 j, .int .i64 l, .slice A n c, .string mp] by rw [H0.out]; exact Blk.new _ _ _)
  have hb0 : Below w.heap.size w w0 := by rw [H0.out]; (repeat first | exact Below.refl _ _ | assumption | refine Below.drew ?_ | refine Below.alloc ?_ (by first | exact Nat.le_refl _ | (simp; done) | omega | (simp; omega)) _ | refine Below.setCell ?_ (by first | exact Nat.le_refl _ | (simp; done) | omega | (simp; omega)) _)
  clear H0
  have hg := Lib.hid (szEdit_any k i j l A n c xs mp w0 hn (hx.next hb0) Hsz.out hm)
  have hle : szE 1048576 xs mp < 0 ∨ (0 ≤ szE 1048576 xs mp ∧ xs.length ≤ 1048576) := by
    unfold szE
    by_cases h1 : szFacAll 1048576 xs < 0
    · left; rw [if_pos h1]; omega
    · have le1 := szFacAll_le 1048576 xs (by omega)
      have len1 := szFacAll_len 1048576 xs (by omega)
      rw [if_neg h1]
      by_cases h2 : szFacAll 1048576 xs - mp.size < 0
      · left; rw [if_pos h2]; omega
      · right; rw [if_neg h2]; omega
  generalize szE 1048576 xs mp = z at *
  clear hx
  rcases hle with hz | ⟨hz, hxl⟩
  · refine hg.out.mono ?_
    rintro e w1 ⟨rfl, hb1⟩
    go_wp2_with fail
    go_ret
    exact ⟨rfl, hb0.trans (hb1.mono hb0.size)⟩
  have hn' : n ≤ 1048576 := by have := lx.out; omega
  refine hg.out.mono ?_
  rintro e w1 ⟨rfl, hb1⟩
  have b1 := hb0.trans (hb1.mono hb0.size)
  have BG1 := Lib.hid (BG.out.next hb1)
  obtain ⟨p0, p1, p2, p3, p4, p5⟩ := six BG1.out
  have lp := BG1.out.lt
  go_wp2_with fail
  refine (toEdit_any k i j l A n c xs mp w1 hn' (HX0.out.next b1)).mono ?_
  rintro e w2 ⟨A2, c2, rfl, own2, hb2⟩
  have b2 := b1.trans (hb2.mono b1.size)
  have BG2 := Lib.hid (BG1.out.next hb2)
  have r2 := Lib.hid (Rd.of_own (fun x _ => fac_len x) rfl own2)
  clear own2 p0 p1 p2 p3 p4 p5 lp
  go_wp2_with fail
  refine (specEdit_any k i j l A2 _ c2 xs mp w2 (by rw [lx.out]; exact hn') r2.out Hsz.out hm (edB k i j l xs mp) rfl).mono ?_
  rintro e w3 ⟨rfl, hb3⟩
  have b3 := b2.trans (hb3.mono b2.size)
  have BG3 := Lib.hid (BG2.out.next hb3)
  obtain ⟨p0, p1, p2, p3, p4, p5⟩ := six BG3.out
  have lp := BG3.out.lt
  go_wp2_with fail
  refine (toEdit_any k i j l A n c xs mp w3 hn' (HX0.out.next b3)).mono ?_
  rintro e w4 ⟨A4, c4, rfl, own4, hb4⟩
  have b4 := b3.trans (hb4.mono b3.size)
  have BG4 := Lib.hid (BG3.out.next hb4)
  have r4 := Lib.hid (Rd.of_own (fun x _ => fac_len x) rfl own4)
  clear own4 p0 p1 p2 p3 p4 p5 lp
  go_wp2_with fail
  refine namedC fun w5 H5 => ?_
  have hb5 : Below w4.heap.size w4 w5 := by rw [H5.out]; (repeat first | exact Below.refl _ _ | assumption | refine Below.drew ?_ | refine Below.alloc ?_ (by first | exact Nat.le_refl _ | (simp; done) | omega | (simp; omega)) _ | refine Below.setCell ?_ (by first | exact Nat.le_refl _ | (simp; done) | omega | (simp; omega)) _)
  have BX5 := Lib.hid (show Blk w5 w4.heap.size 43 #[.int .i64 k, .int .i64 i, .int .i64 j, .int .i64 l, .slice A4 xs.length c4, .string mp] by rw [H5.out]; exact Blk.new _ _ _)
  clear H5
  have b5 := b4.trans (hb5.mono b4.size)
  have BG5 := Lib.hid (BG4.out.next hb5)
  have r5 := Lib.hid (r4.out.next hb5)
  refine (implEdit_any k i j l A4 _ c4 xs mp w5 (by rw [lx.out]; exact hn') r5.out Hsz.out hm (edB k i j l xs mp) rfl).mono ?_
  rintro e w6 ⟨rfl, hb6⟩
  have b6 := b5.trans (hb6.mono b5.size)
  have BG6 := Lib.hid (BG5.out.next hb6)
  have BX6 := Lib.hid (BX5.out.next hb6)
  have r6 := Lib.hid (r5.out.next hb6)
  generalize edB k i j l xs mp = bb at *
  obtain ⟨p0, p1, p2, p3, p4, p5⟩ := six BG6.out
  have lp := BG6.out.lt
  obtain ⟨q0, q1, q2, q3, q4, q5⟩ := six BX6.out
  have lq := BX6.out.lt
  have HXd := Lib.hid (show Rd w6.drew w6.drew.heap.size A n 3 Fac.cells xs from HX0.out.next b6.drew)
  go_wp2_with fail
  go_region_with
    (first
      | (go_at_call 18
         refine (toEdit_any k i j l A n c xs mp w6.drew hn' HXd.out).mono ?_
         rintro e w7 ⟨A7, c7, rfl, own7, hb7⟩
         have b67 : Below w6.heap.size w6 w7 := (Below.refl _ _).drew.trans hb7
         obtain ⟨q0, q1, q2, q3, q4, q5⟩ := six (BX6.out.next b67)
         have lq := (BX6.out.next b67).lt)
      | (go_at_call 20
         refine (eqEdit_any k i j l A4 A7 _ _ _ _ xs mp w7 (by have := lx.out; unfold maxLen; omega) (by have := lx.out; unfold maxLen; omega) (r6.out.next b67) (Rd.of_own (fun x _ => fac_len x) rfl own7)).mono ?_
         rintro e w8 ⟨rfl, hb8⟩
         have b68 : Below w6.heap.size w6 w8 := b67.trans (hb8.mono b67.size)))
  all_goals
    go_wp2_with fail
    go_ret
    exact ⟨rfl, b6.trans (b68.mono b6.size)⟩

set_option maxRecDepth 100000 in
theorem fnExactValidEdit_contract (H : Type) (enc : TypeId × Value → H) (W : World) (base : Nat) (args : Array Value) (ds gs : List (DataW H)) (before : List MemPlace)
    (hval : ∀ (j : Nat) t v, Try.f4.params[j]? = some t → args[j]? = some v → Value.okWide Try.prog W .any base t v)
    (hW : DataW.Whole enc Try.prog Try.f4.params.toList Rows.fnExactValidEditSpec.vars false W args.toList ds gs before) :
    Calls Try.prog 4 args W fun e W' => ∃ v, e = .returned v ∧ Rows.fnExactValidEditSpec.post enc Try.prog Try.f4 false true false false W args v W' := by
  have hW' := hW
  obtain ⟨p, q, hA0, hV, rfl, hfz, hnd⟩ := hW
  have hA : DataW.TrodAll enc Try.prog W 0 (fun _ => true) true Try.f4.params.toList args.toList ds p := hA0
  rw [Try.params4] at hA hval
  obtain ⟨v0, vs0, d0, ds0, p0, q0, hargs, rfl, rfl, h0, r0⟩ := trodAll_cons hA
  obtain ⟨rfl, rfl, rfl⟩ := trodAll_nil r0
  obtain rfl : args = #[v0] := by cases args; simp_all
  obtain ⟨rfl, rfl⟩ := trodVars_none hV
  obtain ⟨k0, i0, j0, l0, A0, n0, c0, xs0, mp0, rfl, wk0, wi0, wj0, wl0, hn0, rd0, ok0, hm0⟩ := open_edit Try.underlying39 (by kernel_rfl) (by kernel_rfl) Try.underlying2 Try.underlying2 Try.underlying2 Try.underlying2 Try.underlying24 Try.underlying9 (by kernel_rfl) Try.underlying22 Try.underlying87 (by kernel_rfl) (by kernel_rfl) Try.underlying9 Try.underlying2 Try.underlying2 (hval 0 39 v0 rfl rfl) h0
  clear hA0
  refine (walkEdit k0 i0 j0 l0 A0 n0 c0 xs0 mp0 W wk0 wi0 wj0 wl0 hn0 rd0 ok0 hm0).mono fun e W' ⟨he, hb⟩ => ?_
  subst he
  exact ⟨_, rfl, law_post laidOut hW' rfl 4 Try.underlying4 (by kernel_rfl) (by rw [Try.params4]; intro t ht; simp at ht; first | (subst ht; exact ⟨by kernel_rfl, of_decide_eq_true (by kernel_rfl)⟩) | (rcases ht with rfl | rfl <;> exact ⟨by kernel_rfl, of_decide_eq_true (by kernel_rfl)⟩) | (rcases ht with rfl | rfl | rfl <;> exact ⟨by kernel_rfl, of_decide_eq_true (by kernel_rfl)⟩) | (rcases ht with rfl | rfl | rfl | rfl <;> exact ⟨by kernel_rfl, of_decide_eq_true (by kernel_rfl)⟩)) rfl hb⟩

set_option maxRecDepth 100000 in
theorem fnExactValidEdit_lifted (os : Os) (started : os.Started) (H : Type) (enc : TypeId × Value → H) :
    ReturnsInHanded {} Try.checked os 4 .any (Rows.fnExactValidEditSpec.pre6 enc Try.prog Try.f4 Rows.fnExactValidEditRow.domain false) (Rows.fnExactValidEditSpec.post enc Try.prog Try.f4 false true false false) := by
  refine returnsInHanded_of_change (C := Try.checked) own started (by kernel_rfl) Try.func4
    (ChangeSpec.witness6 (enc := enc) (C := Try.checked) false ⟨#[], #[.agg #[.int .i64 0, .int .i64 0, .int .i64 0, .int .i64 0, .slice none 0 0, .string .empty]], []⟩ 8 (by kernel_rfl) (by kernel_rfl) (by kernel_rfl) (by kernel_rfl)) ?_
  intro W base args ds gs before hval0 hW hcnd _
  exact fnExactValidEdit_contract H enc W base args ds gs before hval0 hW

theorem fnExactValidEdit_holds : Rows.FnExactValidEditSaid :=
  OpenClaim.holds_of_wide 4 Try.f4 rfl rfl rfl rfl rfl rfl rfl ⟨rfl, rfl, rfl, rfl, rfl⟩ rfl rfl rfl rfl rfl (by as_aux_lemma => kernel_rfl) Try.func4
    (joined_mk (by as_aux_lemma => kernel_rfl) laidOut mapsRowed' (by as_aux_lemma => kernel_rfl) (by as_aux_lemma => kernel_rfl) (by as_aux_lemma => kernel_rfl) (by as_aux_lemma => kernel_rfl) (by as_aux_lemma => kernel_rfl) (by as_aux_lemma => kernel_rfl) plainKeys' rfl heard' mayEnter' lifts' make' (by as_aux_lemma => kernel_rfl))
    (of_decide_eq_true (by kernel_rfl)) (by unfold Func.isWrapper; first | (rw [if_pos (by decide +kernel)]; kernel_rfl) | (rw [if_neg (by decide +kernel)]; exact ⟨rfl, rfl⟩))
    (fun os started H enc _ => fnExactValidEdit_lifted os started H enc)

end Go.Proofs.Ytchlipklmdlklaa
