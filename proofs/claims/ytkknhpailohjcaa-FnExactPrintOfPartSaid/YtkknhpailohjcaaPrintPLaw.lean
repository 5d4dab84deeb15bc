/-
  The statement FnExactPrintOfPart: for all arguments the program's PrintOfPart answers as the reference's, and its arguments stay as they are. No condition.
-/
import Derived.Test.YtkknhpailohjcaaPrintP
import Derived.Test.YtkknhpailohjcaaLaw
import Derived.Deep.RegionHeld3
namespace Go.Proofs.Ytkknhpailohjcaa
open Go.ChangeShapes Go.WideShapes Go.ChangeAt Go.RowKit

set_option maxHeartbeats 1000000 in
set_option maxRecDepth 100000 in
theorem walkPrintP (A : Option Addr) (n c : Nat) (xs : List Fac) (z1 : Int) (z2 : Int) (z3 : Int) (z4 : Int) (w : World) (hn : n ≤ maxLen) (hx : Rd w w.heap.size A n 3 Fac.cells xs) (ox : ∀ f ∈ xs, Fac.ok f) (hz1 : I64 z1) (hz2 : I64 z2) (hz3 : I64 z3) (hz4 : I64 z4) :
    Calls Try.prog 5 #[.agg #[.slice A n c], .int .i64 z1, .int .i64 z2, .int .i64 z3, .int .i64 z4] w (Ret (.bool true) w) := by
  have lx := Lib.hid hx.len
  have hsz : ∀ f ∈ xs, f.l.size ≤ maxLen := fun f hf => (ox f hf).1
  have Hsz := Lib.hid hsz; clear hsz
  go_enter Try.func5, Try.ntmps5
  go_wp2_with fail
  refine namedC fun w0 H0 => ?_
  have B0 : Blk w0 w.heap.size 24 #[.slice A n c] := by rw [H0.out]; exact Blk.new _ _ _
  have hb0 : Below w.heap.size w w0 := by rw [H0.out]; (repeat first | exact Below.refl _ _ | assumption | refine Below.drew ?_ | refine Below.alloc ?_ (by first | exact Nat.le_refl _ | (simp; done) | omega | (simp; omega)) _ | refine Below.setCell ?_ (by first | exact Nat.le_refl _ | (simp; done) | omega | (simp; omega)) _)
  clear H0
  have BG := Lib.hid B0; clear B0
  have hg := Lib.hid (szGrammar_any A n c xs 1048576 w0 (by omega) (by omega) hn (hx.next hb0) Hsz.out)
  by_cases hz : szFacAll 1048576 xs < 0
  · have hg' := hg.out
    rw [if_pos hz] at hg'
    have Hg := Lib.hid hg'; clear hg' hg hz
    refine Hg.out.mono ?_
    rintro e w1 ⟨rfl, hb1⟩
    go_wp2_with fail
    go_ret
    exact ⟨rfl, hb0.trans (hb1.mono hb0.size)⟩
  have hg' := hg.out
  rw [if_neg hz] at hg'
  have Hg := Lib.hid hg'; clear hg' hg
  have le1 := szFacAll_le 1048576 xs (by omega)
  have len1 := szFacAll_len 1048576 xs (by omega)
  have hn' : n ≤ 1048576 := by have := lx.out; omega
  have hz0 : 0 ≤ szFacAll 1048576 xs := by omega
  clear hz
  generalize szFacAll 1048576 xs = z at *
  have HX := Lib.hid (hx.next hb0)
  refine Hg.out.mono ?_
  rintro e w1 ⟨rfl, hb1⟩
  have bb1 := hb0.trans (hb1.mono hb0.size)
  have BG_1 := Lib.hid (BG.out.next hb1)
  have HX_1 := Lib.hid (HX.out.next hb1)
  have cg1 := BG_1.out.cell 0
  have lg1 := BG_1.out.lt
  go_wp2_with fail
  refine (toGrammar_any A n c xs w1 hn' HX_1.out).mono ?_
  rintro e w2 ⟨A2, c2, rfl, own2, hb2⟩
  have bb2 := bb1.trans (hb2.mono bb1.size)
  have BG_2 := Lib.hid (BG_1.out.next hb2)
  have HX_2 := Lib.hid (HX_1.out.next hb2)
  have r2 := Lib.hid (Rd.of_own (fun x _ => fac_len x) rfl own2)
  have hcp2 := Lib.hid (own_cap own2)
  clear cg1 lg1 own2
  obtain ⟨b, k, hform⟩ : ∃ b k, printpV xs z1 z2 z3 z4 = .tuple #[.int .i64 b, .int .i64 k] := printpV_form xs z1 z2 z3 z4
  have Hf := Lib.hid hform; clear hform
  go_wp2_with fail
  refine (specPrintP_any A2 _ c2 xs z1 z2 z3 z4 w2 (by rw [lx.out]; exact hn') r2.out Hsz.out hz1 hz2 hz3 hz4 hcp2.out).mono ?_
  rintro e w3 ⟨rfl, hb3⟩
  rw [Hf.out]
  have bb3 := bb2.trans (hb3.mono bb2.size)
  have BG_3 := Lib.hid (BG_2.out.next hb3)
  have HX_3 := Lib.hid (HX_2.out.next hb3)
  have r2_3 := Lib.hid (r2.out.next hb3)
  have cg3 := BG_3.out.cell 0
  have lg3 := BG_3.out.lt
  go_wp2_with fail
  clear cg3 lg3
  refine (toGrammar_any A n c xs w3 hn' HX_3.out).mono ?_
  rintro e w4 ⟨A4, c4, rfl, own4, hb4⟩
  have bb4 := bb3.trans (hb4.mono bb3.size)
  have BG_4 := Lib.hid (BG_3.out.next hb4)
  have HX_4 := Lib.hid (HX_3.out.next hb4)
  have r4 := Lib.hid (Rd.of_own (fun x _ => fac_len x) rfl own4)
  clear own4
  go_wp2_with fail
  refine namedC fun w4' H4 => ?_
  have hb4' : Below w4.heap.size w4 w4' := by rw [H4.out]; (repeat first | exact Below.refl _ _ | assumption | refine Below.drew ?_ | refine Below.alloc ?_ (by first | exact Nat.le_refl _ | (simp; done) | omega | (simp; omega)) _ | refine Below.setCell ?_ (by first | exact Nat.le_refl _ | (simp; done) | omega | (simp; omega)) _)
  have BX : Blk w4' w4.heap.size 31 #[.slice A4 xs.length c4] := by rw [H4.out]; exact Blk.new _ _ _
  have BX' := Lib.hid BX; clear BX H4
  have bb5 := bb4.trans (hb4'.mono bb4.size)
  have BG_5 := Lib.hid (BG_4.out.next hb4')
  have HX_5 := Lib.hid (HX_4.out.next hb4')
  have r4_5 := Lib.hid (r4.out.next hb4')
  refine (implPrintP_any A4 _ c4 xs z1 z2 z3 z4 w4' (by rw [lx.out]; exact hn') r4_5.out Hsz.out hz1 hz2 hz3 hz4).mono ?_
  rintro e w5 ⟨rfl, hb5⟩
  rw [Hf.out]
  have bb6 := bb5.trans (hb5.mono bb5.size)
  have BG_6 := Lib.hid (BG_5.out.next hb5)
  have HX_6 := Lib.hid (HX_5.out.next hb5)
  have r4_6 := Lib.hid (r4_5.out.next hb5)
  have BX_6 := Lib.hid (BX'.out.next hb5)
  have cg5 := BG_6.out.cell 0
  have lg5 := BG_6.out.lt
  have cx5 := BX_6.out.cell 0
  have lx5 := BX_6.out.lt
  go_wp2_with fail
  have hbw := Lib.hid (fun (w' : World) (h : Below w5.heap.size w5 w') => show w'.cell? ⟨w4.heap.size, 0, none⟩ = some (.slice A4 xs.length c4) ∧ w'.cell? ⟨w.heap.size, 0, none⟩ = some (.slice A n c) from
    ⟨(BX_6.out.next h).cell 0, (BG_6.out.next h).cell 0⟩)
  go_region_held3 (fun w' => w'.cell? ⟨w4.heap.size, 0, none⟩ = some (.slice A4 xs.length c4) ∧ w'.cell? ⟨w.heap.size, 0, none⟩ = some (.slice A n c))
    (first | exact hbw.out _ b57 | exact hbw.out _ b56 | go_keep)
    (first
      | (go_at_call 11
         refine (toGrammar_any A n c xs _ hn' (HX_6.out.next (Below.refl _ _).drew)).mono ?_
         rintro e w6 ⟨A6, c6, rfl, own6, hb6⟩
         have b56 : Below w5.heap.size w5 w6 := (Below.refl _ _).drew.trans hb6)
      | (go_at_call 14
         refine (eqGrammar_any A4 A6 _ _ _ _ xs xs w6 (by have := lx.out; unfold maxLen; omega) (by have := lx.out; unfold maxLen; omega) (r4_6.out.next b56) (Rd.of_own (fun x _ => fac_len x) rfl own6) true (by simp)).mono ?_
         rintro e w7 ⟨rfl, hb7⟩
         have b57 : Below w5.heap.size w5 w7 := b56.trans (hb7.mono b56.size)))
  have bb7 := bb6.trans (b57.mono bb6.size)
  have BG_7 := Lib.hid (BG_6.out.next b57)
  have HX_7 := Lib.hid (HX_6.out.next b57)
  have r4_7 := Lib.hid (r4_6.out.next b57)
  have BX_7 := Lib.hid (BX_6.out.next b57)
  go_wp2_with fail
  go_ret
  exact ⟨rfl, bb7⟩

set_option maxRecDepth 100000 in
theorem fnExactPrintOfPart_contract (H : Type) (enc : TypeId × Value → H) (W : World) (base : Nat) (args : Array Value) (ds gs : List (DataW H)) (before : List MemPlace)
    (hval : ∀ (j : Nat) t v, Try.f5.params[j]? = some t → args[j]? = some v → Value.okWide Try.prog W .any base t v)
    (hW : DataW.Whole enc Try.prog Try.f5.params.toList Rows.fnExactPrintOfPartSpec.vars false W args.toList ds gs before) :
    Calls Try.prog 5 args W fun e W' => ∃ v, e = .returned v ∧ Rows.fnExactPrintOfPartSpec.post enc Try.prog Try.f5 false true false false W args v W' := by
  have hW' := hW
  obtain ⟨p, q, hA0, hV, rfl, hfz, hnd⟩ := hW
  have hA : DataW.TrodAll enc Try.prog W 0 (fun _ => true) true Try.f5.params.toList args.toList ds p := hA0
  rw [Try.params5] at hA hval
  obtain ⟨v0, vs0, d0, ds0, p0, q0, hargs, rfl, rfl, h0, r0⟩ := trodAll_cons hA
  obtain ⟨v1, vs1, d1, ds1, p1, q1, rfl, rfl, rfl, h1, r1⟩ := trodAll_cons r0
  obtain ⟨v2, vs2, d2, ds2, p2, q2, rfl, rfl, rfl, h2, r2⟩ := trodAll_cons r1
  obtain ⟨v3, vs3, d3, ds3, p3, q3, rfl, rfl, rfl, h3, r3⟩ := trodAll_cons r2
  obtain ⟨v4, vs4, d4, ds4, p4, q4, rfl, rfl, rfl, h4, r4⟩ := trodAll_cons r3
  obtain ⟨rfl, rfl, rfl⟩ := trodAll_nil r4
  obtain rfl : args = #[v0, v1, v2, v3, v4] := by cases args; simp_all
  obtain ⟨rfl, rfl⟩ := trodVars_none hV
  obtain ⟨A0, n0, c0, xs0, rfl, hn0, rd0, ok0⟩ := open_grammar Try.underlying24 (by kernel_rfl) (by kernel_rfl) Try.underlying22 Try.underlying115 (by kernel_rfl) (by kernel_rfl) Try.underlying9 Try.underlying2 Try.underlying2 (hval 0 24 v0 rfl rfl) h0
  obtain ⟨z1, rfl, rfl, rfl, wz1⟩ := open_i64 Try.underlying2 (hval 1 2 v1 rfl rfl) h1
  obtain ⟨z2, rfl, rfl, rfl, wz2⟩ := open_i64 Try.underlying2 (hval 2 2 v2 rfl rfl) h2
  obtain ⟨z3, rfl, rfl, rfl, wz3⟩ := open_i64 Try.underlying2 (hval 3 2 v3 rfl rfl) h3
  obtain ⟨z4, rfl, rfl, rfl, wz4⟩ := open_i64 Try.underlying2 (hval 4 2 v4 rfl rfl) h4
  clear hA0
  refine (walkPrintP A0 n0 c0 xs0 z1 z2 z3 z4 W hn0 rd0 ok0 wz1 wz2 wz3 wz4).mono fun e W' ⟨he, hb⟩ => ?_
  subst he
  exact ⟨_, rfl, law_post laidOut hW' rfl 4 Try.underlying4 (by kernel_rfl) (by rw [Try.params5]; intro t ht; simp at ht; first | (subst ht; exact ⟨by kernel_rfl, of_decide_eq_true (by kernel_rfl)⟩) | (rcases ht with rfl | rfl <;> exact ⟨by kernel_rfl, of_decide_eq_true (by kernel_rfl)⟩) | (rcases ht with rfl | rfl | rfl <;> exact ⟨by kernel_rfl, of_decide_eq_true (by kernel_rfl)⟩) | (rcases ht with rfl | rfl | rfl | rfl <;> exact ⟨by kernel_rfl, of_decide_eq_true (by kernel_rfl)⟩)) rfl hb⟩

set_option maxRecDepth 100000 in
theorem fnExactPrintOfPart_lifted (os : Os) (started : os.Started) (H : Type) (enc : TypeId × Value → H) :
    ReturnsInHanded {} Try.checked os 5 .any (Rows.fnExactPrintOfPartSpec.pre6 enc Try.prog Try.f5 Rows.fnExactPrintOfPartRow.domain false) (Rows.fnExactPrintOfPartSpec.post enc Try.prog Try.f5 false true false false) := by
  refine returnsInHanded_of_change (C := Try.checked) own started (by kernel_rfl) Try.func5
    (ChangeSpec.witness6 (enc := enc) (C := Try.checked) false ⟨#[], #[.agg #[.slice none 0 0], .int .i64 0, .int .i64 0, .int .i64 0, .int .i64 0], []⟩ 8 (by kernel_rfl) (by kernel_rfl) (by kernel_rfl) (by kernel_rfl)) ?_
  intro W base args ds gs before hval0 hW hcnd _
  exact fnExactPrintOfPart_contract H enc W base args ds gs before hval0 hW

theorem fnExactPrintOfPart_holds : Rows.FnExactPrintOfPartSaid :=
  OpenClaim.holds_of_wide 5 Try.f5 rfl rfl rfl rfl rfl rfl rfl ⟨rfl, rfl, rfl, rfl, rfl⟩ rfl rfl rfl rfl rfl (by as_aux_lemma => kernel_rfl) Try.func5
    (joined_mk (by as_aux_lemma => kernel_rfl) laidOut mapsRowed' (by as_aux_lemma => kernel_rfl) (by as_aux_lemma => kernel_rfl) (by as_aux_lemma => kernel_rfl) (by as_aux_lemma => kernel_rfl) (by as_aux_lemma => kernel_rfl) (by as_aux_lemma => kernel_rfl) plainKeys' rfl heard' mayEnter' lifts' make' (by as_aux_lemma => kernel_rfl))
    (of_decide_eq_true (by kernel_rfl)) (by unfold Func.isWrapper; first | (rw [if_pos (by decide +kernel)]; kernel_rfl) | (rw [if_neg (by decide +kernel)]; exact ⟨rfl, rfl⟩))
    (fun os started H enc _ => fnExactPrintOfPart_lifted os started H enc)

end Go.Proofs.Ytkknhpailohjcaa
