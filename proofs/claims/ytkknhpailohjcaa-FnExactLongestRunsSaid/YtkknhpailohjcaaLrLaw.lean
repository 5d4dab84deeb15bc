/-
  The statement FnExactLongestRuns: for all arguments the program's LongestRuns answers as the reference's, in memory of its own each time, and its arguments stay as they are. No condition.
-/
import Derived.Test.YtkknhpailohjcaaLr
import Derived.Test.YtkknhpailohjcaaMarkI
import Derived.Test.YtkknhpailohjcaaInts
import Derived.Test.YtkknhpailohjcaaLaw
import Derived.Deep.RegionHeld3
namespace Go.Proofs.Ytkknhpailohjcaa
open Go.ChangeShapes Go.WideShapes Go.ChangeAt Go.RowKit

set_option maxHeartbeats 2000000 in
set_option maxRecDepth 100000 in
theorem walkLr (A : Option Addr) (n c : Nat) (xs : List Fac) (w : World) (hn : n ≤ maxLen) (hx : Rd w w.heap.size A n 3 Fac.cells xs) (ox : ∀ f ∈ xs, Fac.ok f) :
    Calls Try.prog 3 #[.agg #[.slice A n c]] w (Ret (.bool true) w) := by
  have lx := Lib.hid hx.len
  have HX0 := Lib.hid hx
  have hsz : ∀ f ∈ xs, f.l.size ≤ maxLen := fun f hf => (ox f hf).1
  have Hsz := Lib.hid hsz; clear hsz
  have hln : (lrL xs).length ≤ 1048576 := (by have := lrL_len xs; omega)
  go_enter Try.func3, Try.ntmps3
  go_wp2_with fail
  refine namedC fun w0 H0 => ?_
  have B0 : Blk w0 w.heap.size 24 #[.slice A n c] := by rw [H0.out]; exact Blk.new _ _ _
  have hb0 : Below w.heap.size w w0 := by rw [H0.out]; (repeat first | exact Below.refl _ _ | assumption | refine Below.drew ?_ | refine Below.alloc ?_ (by first | exact Nat.le_refl _ | (simp; done) | omega | (simp; omega)) _ | refine Below.setCell ?_ (by first | exact Nat.le_refl _ | (simp; done) | omega | (simp; omega)) _)
  clear H0
  have BG := Lib.hid B0; clear B0
  have hg := Lib.hid (szGrammar_any A n c xs 1048576 w0 (by omega) (by omega) hn (hx.next hb0) Hsz.out)
  by_cases hz : szFacAll 1048576 xs < 0
  · have hg' := hg.out
    rw [if_pos hz] at hg'
    have Hg := Lib.hid hg'; clear hg' hg hz
    refine Hg.out.mono ?_
    rintro e w1 ⟨rfl, hb1⟩
    go_wp2_with fail
    go_ret
    exact ⟨rfl, hb0.trans (hb1.mono hb0.size)⟩
  have hg' := hg.out
  rw [if_neg hz] at hg'
  have Hg := Lib.hid hg'; clear hg' hg
  have le1 := szFacAll_le 1048576 xs (by omega)
  have len1 := szFacAll_len 1048576 xs (by omega)
  have hn' : n ≤ 1048576 := by have := lx.out; omega
  have hz0 : 0 ≤ szFacAll 1048576 xs := by omega
  clear hz
  generalize szFacAll 1048576 xs = z at *
  clear hx
  refine Hg.out.mono ?_
  rintro e w1 ⟨rfl, hb1⟩
  have bb1 := hb0.trans (hb1.mono hb0.size)
  have BG_1 := Lib.hid (BG.out.next hb1)
  have cg1 := BG_1.out.cell 0
  have lg1 := BG_1.out.lt
  go_wp2_with fail
  refine (toGrammar_any A n c xs w1 hn' ((HX0.out.below bb1).more bb1.size)).mono ?_
  rintro e w2 ⟨A2, c2, rfl, own2, hb2⟩
  have bb2 := bb1.trans (hb2.mono bb1.size)
  have BG_2 := Lib.hid (BG_1.out.next hb2)
  have r2 := Lib.hid (Rd.of_own (fun x _ => fac_len x) rfl own2)
  clear cg1 lg1 own2
  go_wp2_with fail
  refine (specLr_any A2 _ c2 xs w2 (by rw [lx.out]; exact hn') r2.out Hsz.out).mono ?_
  rintro e w3 ⟨A3, c3, rfl, own3, hb3⟩
  have bb3 := bb2.trans (hb3.mono bb2.size)
  have BG_3 := Lib.hid (BG_2.out.next hb3)
  have OS := Lib.hid own3
  clear own3 r2
  have cg3 := BG_3.out.cell 0
  have lg3 := BG_3.out.lt
  go_wp2_with fail
  refine (toGrammar_any A n c xs w3 hn' ((HX0.out.below bb3).more bb3.size)).mono ?_
  rintro e w4 ⟨A4, c4, rfl, own4, hb4⟩
  have bb4 := bb3.trans (hb4.mono bb3.size)
  have BG_4 := Lib.hid (BG_3.out.next hb4)
  have OS_4 := Lib.hid (own_next OS.out hb4)
  have OX := Lib.hid own4
  clear own4 cg3 lg3
  go_wp2_with fail
  refine namedC fun w4' H4 => ?_
  have hb4' : Below w4.heap.size w4 w4' := by rw [H4.out]; (repeat first | exact Below.refl _ _ | assumption | refine Below.drew ?_ | refine Below.alloc ?_ (by first | exact Nat.le_refl _ | (simp; done) | omega | (simp; omega)) _ | refine Below.setCell ?_ (by first | exact Nat.le_refl _ | (simp; done) | omega | (simp; omega)) _)
  have BX := Lib.hid (show Blk w4' w4.heap.size 31 #[.slice A4 xs.length c4] by rw [H4.out]; exact Blk.new _ _ _)
  clear H4
  have bb5 := bb4.trans (hb4'.mono bb4.size)
  have BG_5 := Lib.hid (BG_4.out.next hb4')
  have OS_5 := Lib.hid (own_next OS_4.out hb4')
  have OX_5 := Lib.hid (own_next OX.out hb4')
  refine (implLr_any A4 _ c4 xs w4' (by rw [lx.out]; exact hn') (Rd.of_own (fun x _ => fac_len x) rfl OX_5.out) Hsz.out).mono ?_
  rintro e w5 ⟨A5, c5, rfl, own5, hb5⟩
  have bb6 := bb5.trans (hb5.mono bb5.size)
  have BG_6 := Lib.hid (BG_5.out.next hb5)
  have OS_6 := Lib.hid (own_next OS_5.out hb5)
  have OX_6 := Lib.hid (own_next OX_5.out hb5)
  have BX_6 := Lib.hid (BX.out.next hb5)
  have OG := Lib.hid own5
  clear own5
  go_wp2_with fail
  refine (eqInt64S_any A5 A3 _ c5 _ c3 (lrL xs) (lrL xs) w5 (by unfold maxLen; omega) (by unfold maxLen; omega) (Rd.of_own (enc := intE) (fun _ _ => rfl) rfl OG.out) (Rd.of_own (enc := intE) (fun _ _ => rfl) rfl OS_6.out)).mono ?_
  rintro e w5e ⟨rfl, hbw5e⟩
  rw [decide_eq_true (rfl : lrL xs = lrL xs)]
  have bb7 := bb6.trans (hbw5e.mono bb6.size)
  have BG_7 := Lib.hid (BG_6.out.next hbw5e)
  have OS_7 := Lib.hid (own_next OS_6.out hbw5e)
  have OX_7 := Lib.hid (own_next OX_6.out hbw5e)
  have BX_7 := Lib.hid (BX_6.out.next hbw5e)
  have OG_7 := Lib.hid (own_next OG.out hbw5e)
  have cg5 := BG_7.out.cell 0
  have lg5 := BG_7.out.lt
  have cx5 := BX_7.out.cell 0
  have lx5 := BX_7.out.lt
  go_wp2_with fail
  have hbw := Lib.hid (fun (w' : World) (h : Below w5e.heap.size w5e w') => show w'.cell? ⟨w4.heap.size, 0, none⟩ = some (.slice A4 xs.length c4) ∧ w'.cell? ⟨w.heap.size, 0, none⟩ = some (.slice A n c) from
    ⟨(BX_7.out.next h).cell 0, (BG_7.out.next h).cell 0⟩)
  have HXd := Lib.hid (show Rd w5e.drew w5e.drew.heap.size A n 3 Fac.cells xs from ((HX0.out.below bb7).more bb7.size))
  go_region_held3 (fun w' => w'.cell? ⟨w4.heap.size, 0, none⟩ = some (.slice A4 xs.length c4) ∧ w'.cell? ⟨w.heap.size, 0, none⟩ = some (.slice A n c))
    (first | exact hbw.out _ b57 | exact hbw.out _ b56 | go_keep)
    (first
      | (go_at_call 11
         refine (toGrammar_any A n c xs _ hn' HXd.out).mono ?_
         rintro e w6 ⟨A6, c6, rfl, own6, hb6⟩
         have b56 : Below w5e.heap.size w5e w6 := (Below.refl _ _).drew.trans hb6)
      | (go_at_call 14
         refine (eqGrammar_any A4 A6 _ _ _ _ xs xs w6 (by have := lx.out; unfold maxLen; omega) (by have := lx.out; unfold maxLen; omega) (Rd.of_own (fun x _ => fac_len x) rfl (own_next OX_7.out b56)) (Rd.of_own (fun x _ => fac_len x) rfl own6) true (by simp)).mono ?_
         rintro e w7 ⟨rfl, hb7⟩
         have b57 : Below w5e.heap.size w5e w7 := b56.trans (hb7.mono b56.size)))
  have B57 := Lib.hid b57
  have CX := Lib.hid cx5
  clear own6 cg5 lg5 cx5 lx5
  have bb8 := bb7.trans (B57.out.mono bb7.size)
  have BG_8 := Lib.hid (BG_7.out.next B57.out)
  have OS_8 := Lib.hid (own_next OS_7.out B57.out)
  have OX_8 := Lib.hid (own_next OX_7.out B57.out)
  have BX_8 := Lib.hid (BX_7.out.next B57.out)
  have OG_8 := Lib.hid (own_next OG_7.out B57.out)
  have cx7 := BX_8.out.cell 0
  have lx7 := BX_8.out.lt
  go_wp2_with fail
  refine (markGrammar_any A4 _ c4 w3.heap.size _ 1 w7 (by have := lx.out; omega) (by omega) OX_8.out).mono ?_
  rintro e w8 ⟨rfl, hg8⟩
  have bb9 := bb8.grown hg8 bb8.size (fun k hk => by have := (OX_8.out.lt k hk).1; have := bb3.size; omega)
  have BG_m := Lib.hid (BG_8.out.grown hg8 (own_blk_ne OX_8.out BG_8.out (by decide)))
  have OS_m := Lib.hid (OS_8.out.kept hg8 (own_ne OS_8.out OX_8.out (by decide)))
  have OG_m := Lib.hid (OG_8.out.kept hg8 (own_ne OG_8.out OX_8.out (by decide)))
  clear cx7 lx7 hg8
  have hk8 : ¬ ((1 + 3 * xs.length : Nat) : Int) < 0 := by omega
  generalize ((1 + 3 * xs.length : Nat) : Int) = k8 at *
  go_wp2_with fail
  refine (eqInt64S_any A5 A3 _ c5 _ c3 (lrL xs) (lrL xs) w8 (by unfold maxLen; omega) (by unfold maxLen; omega) (Rd.of_own (enc := intE) (fun _ _ => rfl) rfl OG_m.out) (Rd.of_own (enc := intE) (fun _ _ => rfl) rfl OS_m.out)).mono ?_
  rintro e w9 ⟨rfl, hbw9⟩
  rw [decide_eq_true (rfl : lrL xs = lrL xs)]
  have bb10 := bb9.trans (hbw9.mono bb9.size)
  have BG_10 := Lib.hid (BG_m.out.next hbw9)
  have OS_10 := Lib.hid (own_next OS_m.out hbw9)
  have OG_10 := Lib.hid (own_next OG_m.out hbw9)
  go_wp2_with fail
  refine (markInt64S_any A5 _ c5 w4'.heap.size _ 1 w9 (by omega) (by omega) OG_10.out).mono ?_
  rintro e w10 ⟨rfl, own10, hg10⟩
  have bb11 := bb10.grown hg10 bb10.size (fun k hk => by have := (OG_10.out.lt k hk).1; have := bb5.size; omega)
  have BG_n := Lib.hid (BG_10.out.grown hg10 (own_blk_ne OG_10.out BG_10.out (by decide)))
  have OS_n := Lib.hid (own_apart OS_5.out OS_10.out OG_10.out hg10)
  have RG := Lib.hid (Rd.of_own (enc := intE) (fun _ _ => rfl) (marksI_len _ _) own10)
  clear own10 hg10
  go_wp2_with fail
  refine (heldInt64S_any A5 _ c5 1 w10 (by omega) (by omega) RG.out).mono ?_
  rintro e w11 ⟨rfl, hbw11⟩
  have bb12 := bb11.trans (hbw11.mono bb11.size)
  have BG_12 := Lib.hid (BG_n.out.next hbw11)
  have OS_12 := Lib.hid (own_next OS_n.out hbw11)
  have RG_12 := Lib.hid (RG.out.next hbw11)
  have cg11 := BG_12.out.cell 0
  have lg11 := BG_12.out.lt
  go_wp2_with fail
  refine (toGrammar_any A n c xs w11 hn' ((HX0.out.below bb12).more bb12.size)).mono ?_
  rintro e w12 ⟨A12, c12, rfl, own12, hb12⟩
  have bb13 := bb12.trans (hb12.mono bb12.size)
  have BG_13 := Lib.hid (BG_12.out.next hb12)
  have OS_13 := Lib.hid (own_next OS_12.out hb12)
  have RG_13 := Lib.hid (RG_12.out.next hb12)
  have r12 := Lib.hid (Rd.of_own (fun x _ => fac_len x) rfl own12)
  clear own12 cg11 lg11
  go_wp2_with fail
  refine (implLr_any A12 _ c12 xs w12 (by rw [lx.out]; exact hn') r12.out Hsz.out).mono ?_
  rintro e w13 ⟨A13, c13, rfl, own13, hb13⟩
  have bb14 := bb13.trans (hb13.mono bb13.size)
  have BG_14 := Lib.hid (BG_13.out.next hb13)
  have OS_14 := Lib.hid (own_next OS_13.out hb13)
  have RG_14 := Lib.hid (RG_13.out.next hb13)
  have OH := Lib.hid own13
  clear own13 r12
  go_wp2_with fail
  refine (eqInt64S_any A13 A3 _ c13 _ c3 (lrL xs) (lrL xs) w13 (by unfold maxLen; omega) (by unfold maxLen; omega) (Rd.of_own (enc := intE) (fun _ _ => rfl) rfl OH.out) (Rd.of_own (enc := intE) (fun _ _ => rfl) rfl OS_14.out)).mono ?_
  rintro e w14 ⟨rfl, hbw14⟩
  rw [decide_eq_true (rfl : lrL xs = lrL xs)]
  have bb15 := bb14.trans (hbw14.mono bb14.size)
  have BG_15 := Lib.hid (BG_14.out.next hbw14)
  have OS_15 := Lib.hid (own_next OS_14.out hbw14)
  have RG_15 := Lib.hid (RG_14.out.next hbw14)
  have OH_15 := Lib.hid (own_next OH.out hbw14)
  go_wp2_with fail
  refine (heldInt64S_any A5 _ c5 1 w14 (by omega) (by omega) RG_15.out).mono ?_
  rintro e w15 ⟨rfl, hbw15⟩
  have bb16 := bb15.trans (hbw15.mono bb15.size)
  have BG_16 := Lib.hid (BG_15.out.next hbw15)
  have OS_16 := Lib.hid (own_next OS_15.out hbw15)
  have RG_16 := Lib.hid (RG_15.out.next hbw15)
  have OH_16 := Lib.hid (own_next OH_15.out hbw15)
  go_wp2_with fail
  go_ret
  exact ⟨rfl, bb16⟩

set_option maxRecDepth 100000 in
theorem fnExactLongestRuns_contract (H : Type) (enc : TypeId × Value → H) (W : World) (base : Nat) (args : Array Value) (ds gs : List (DataW H)) (before : List MemPlace)
    (hval : ∀ (j : Nat) t v, Try.f3.params[j]? = some t → args[j]? = some v → Value.okWide Try.prog W .any base t v)
    (hW : DataW.Whole enc Try.prog Try.f3.params.toList Rows.fnExactLongestRunsSpec.vars false W args.toList ds gs before) :
    Calls Try.prog 3 args W fun e W' => ∃ v, e = .returned v ∧ Rows.fnExactLongestRunsSpec.post enc Try.prog Try.f3 false true false false W args v W' := by
  have hW' := hW
  obtain ⟨p, q, hA0, hV, rfl, hfz, hnd⟩ := hW
  have hA : DataW.TrodAll enc Try.prog W 0 (fun _ => true) true Try.f3.params.toList args.toList ds p := hA0
  rw [Try.params3] at hA hval
  obtain ⟨v0, vs0, d0, ds0, p0, q0, hargs, rfl, rfl, h0, r0⟩ := trodAll_cons hA
  obtain ⟨rfl, rfl, rfl⟩ := trodAll_nil r0
  obtain rfl : args = #[v0] := by cases args; simp_all
  obtain ⟨rfl, rfl⟩ := trodVars_none hV
  obtain ⟨A0, n0, c0, xs0, rfl, hn0, rd0, ok0⟩ := open_grammar Try.underlying24 (by kernel_rfl) (by kernel_rfl) Try.underlying22 Try.underlying115 (by kernel_rfl) (by kernel_rfl) Try.underlying9 Try.underlying2 Try.underlying2 (hval 0 24 v0 rfl rfl) h0
  clear hA0
  refine (walkLr A0 n0 c0 xs0 W hn0 rd0 ok0).mono fun e W' ⟨he, hb⟩ => ?_
  subst he
  exact ⟨_, rfl, law_post laidOut hW' rfl 4 Try.underlying4 (by kernel_rfl) (by rw [Try.params3]; intro t ht; simp at ht; first | (subst ht; exact ⟨by kernel_rfl, of_decide_eq_true (by kernel_rfl)⟩) | (rcases ht with rfl | rfl <;> exact ⟨by kernel_rfl, of_decide_eq_true (by kernel_rfl)⟩) | (rcases ht with rfl | rfl | rfl <;> exact ⟨by kernel_rfl, of_decide_eq_true (by kernel_rfl)⟩) | (rcases ht with rfl | rfl | rfl | rfl <;> exact ⟨by kernel_rfl, of_decide_eq_true (by kernel_rfl)⟩)) rfl hb⟩

set_option maxRecDepth 100000 in
theorem fnExactLongestRuns_lifted (os : Os) (started : os.Started) (H : Type) (enc : TypeId × Value → H) :
    ReturnsInHanded {} Try.checked os 3 .any (Rows.fnExactLongestRunsSpec.pre6 enc Try.prog Try.f3 Rows.fnExactLongestRunsRow.domain false) (Rows.fnExactLongestRunsSpec.post enc Try.prog Try.f3 false true false false) := by
  refine returnsInHanded_of_change (C := Try.checked) own started (by kernel_rfl) Try.func3
    (ChangeSpec.witness6 (enc := enc) (C := Try.checked) false ⟨#[], #[.agg #[.slice none 0 0]], []⟩ 8 (by kernel_rfl) (by kernel_rfl) (by kernel_rfl) (by kernel_rfl)) ?_
  intro W base args ds gs before hval0 hW hcnd _
  exact fnExactLongestRuns_contract H enc W base args ds gs before hval0 hW

theorem fnExactLongestRuns_holds : Rows.FnExactLongestRunsSaid :=
  OpenClaim.holds_of_wide 3 Try.f3 rfl rfl rfl rfl rfl rfl rfl ⟨rfl, rfl, rfl, rfl, rfl⟩ rfl rfl rfl rfl rfl (by as_aux_lemma => kernel_rfl) Try.func3
    (joined_mk (by as_aux_lemma => kernel_rfl) laidOut mapsRowed' (by as_aux_lemma => kernel_rfl) (by as_aux_lemma => kernel_rfl) (by as_aux_lemma => kernel_rfl) (by as_aux_lemma => kernel_rfl) (by as_aux_lemma => kernel_rfl) (by as_aux_lemma => kernel_rfl) plainKeys' rfl heard' mayEnter' lifts' make' (by as_aux_lemma => kernel_rfl))
    (of_decide_eq_true (by kernel_rfl)) (by unfold Func.isWrapper; first | (rw [if_pos (by decide +kernel)]; kernel_rfl) | (rw [if_neg (by decide +kernel)]; exact ⟨rfl, rfl⟩))
    (fun os started H enc _ => fnExactLongestRuns_lifted os started H enc)

end Go.Proofs.Ytkknhpailohjcaa
