/-
  The statement FnExactFactorsOf: for all texts the program's FactorsOf answers as the reference's, in memory of its own each time. No condition.
-/
import Derived.Test.YtmfgmkahifcgpaaFoS
import Derived.Test.YtmfgmkahifcgpaaFac
import Derived.Test.YtmfgmkahifcgpaaMarkF
import Derived.Test.YtmfgmkahifcgpaaLaw
import Derived.HandedShaped
namespace Go.Proofs.Ytmfgmkahifcgpaa
open Go.ChangeShapes Go.WideShapes Go.ChangeAt Go.RowKit

set_option maxHeartbeats 1000000 in
set_option maxRecDepth 100000 in
theorem walkFo (m : Int) (s : ByteArray) (w : World) (hm : w.cell? ⟨0, 0, none⟩ = some (.int .i64 m)) (hs : s.size ≤ maxLen) :
    Calls Try.prog 3 #[.string s] w (Ret (.bool true) w) := by
  have hs' := hs
  unfold maxLen at hs'
  have h0 := cell_lt hm
  have HM := Lib.hid (fun (W : World) (hb : Below w.heap.size w W) => (hb.cell (p := ⟨0, 0, none⟩) h0).trans hm)
  clear hm
  by_cases hbig : 1048576 < s.size
  · go_enter Try.func3, Try.ntmps3
    go_wp2_with fail
    go_ret
    exact ⟨rfl, Below.refl _ _⟩
  have hs1 : s.size ≤ 1048576 := by omega
  have hlen := foF_len s
  have SP := Lib.hid (fun (W : World) => specFac_any s W hs1)
  have IM := Lib.hid (fun (W : World) (h : W.cell? ⟨0, 0, none⟩ = some (.int .i64 m)) => implFac_any s m W hs1 h)
  generalize foF s = T at *
  generalize foC s = C at *
  have ex := Lib.hid (show decide (T = T) = true by simp)
  go_enter Try.func3, Try.ntmps3
  go_wp2_with fail
  refine (SP.out w).mono ?_
  rintro e w1 ⟨A1, c1, rfl, own1, hb1⟩
  have O1 := Lib.hid own1; clear own1
  go_wp2_with fail
  refine (IM.out w1 (HM.out w1 hb1)).mono ?_
  rintro e w2 ⟨A2, c2, rfl, own2, hb2⟩
  have O2 := Lib.hid own2; clear own2
  have b2 := hb1.trans (hb2.mono hb1.size)
  go_wp2_with fail
  refine (eqFactorS_any A2 A1 _ _ _ _ T T w2 (by unfold maxLen; omega) (by unfold maxLen; omega) (Rd.of_own (fun x _ => len_factor x) rfl O2.out) ((Rd.of_own (fun x _ => len_factor x) rfl O1.out).next hb2)).mono ?_
  rintro e w3 ⟨rfl, hb3⟩
  have b3 := b2.trans (hb3.mono b2.size)
  go_wp2_with fail
  refine (markFactorSC_any A2 _ c2 w1.heap.size T 1 w3 (by omega) (by omega) rfl (own_next O2.out hb3)).mono ?_
  rintro e w4 ⟨rfl, own4, hg4⟩
  have O4 := Lib.hid own4; clear own4
  have O14 := Lib.hid (own_apart O1.out (own_next (own_next O1.out hb2) hb3) (own_next O2.out hb3) hg4)
  have b4 := b3.grown hg4 b3.size (fun k hk => by have := (O2.out.lt k hk).1; have := hb1.size; omega)
  have R4 := Lib.hid (Rd.of_own (fun x _ => len_factor x) (marksR_len _ _) O4.out)
  have s4 := Lib.hid hg4.size
  go_wp2_with fail
  refine (heldFactorS_any A2 _ c2 1 w4 (by omega) (by omega) R4.out).mono ?_
  rintro e w5 ⟨rfl, hb5⟩
  have b5 := b4.trans (hb5.mono b4.size)
  have z0 : ¬ (((1 + 3 * T.length : Nat) : Int) < 0) := by omega
  go_wp2_with fail
  refine (IM.out w5 (HM.out w5 b5)).mono ?_
  rintro e w6 ⟨A6, c6, rfl, own6, hb6⟩
  have O6 := Lib.hid own6; clear own6
  have b6 := b5.trans (hb6.mono b5.size)
  go_wp2_with fail
  refine (eqFactorS_any A6 A1 _ _ _ _ T T w6 (by unfold maxLen; omega) (by unfold maxLen; omega) (Rd.of_own (fun x _ => len_factor x) rfl O6.out) (((Rd.of_own (fun x _ => len_factor x) rfl O14.out).next hb5).next hb6)).mono ?_
  rintro e w7 ⟨rfl, hb7⟩
  have b7 := b6.trans (hb7.mono b6.size)
  go_wp2_with fail
  refine (heldFactorS_any A2 _ c2 1 w7 (by omega) (by omega) (((R4.out.next hb5).next hb6).next hb7)).mono ?_
  rintro e w8 ⟨rfl, hb8⟩
  have b8 := b7.trans (hb8.mono b7.size)
  go_wp2_with fail
  go_ret
  exact ⟨rfl, b8⟩

set_option maxRecDepth 100000 in
theorem fnExactFactorsOf_contract (H : Type) (enc : TypeId × Value → H) (W : World) (base : Nat) (args : Array Value) (ds gs : List (DataW H)) (before : List MemPlace)
    (hval : ∀ (j : Nat) t v, Try.f3.params[j]? = some t → args[j]? = some v → Value.okWide Try.prog W .any base t v)
    (hW : DataW.Whole enc Try.prog Try.f3.params.toList Rows.fnExactFactorsOfSpec.vars false W args.toList ds gs before) (hsh : W.ShapedOpen Try.prog) :
    Calls Try.prog 3 args W fun e W' => ∃ v, e = .returned v ∧ Rows.fnExactFactorsOfSpec.post enc Try.prog Try.f3 false true false false W args v W' := by
  have hW' := hW
  obtain ⟨p, q, hA0, hV, rfl, hfz, hnd⟩ := hW
  have hA : DataW.TrodAll enc Try.prog W 0 (fun _ => true) true Try.f3.params.toList args.toList ds p := hA0
  rw [Try.params3] at hA hval
  obtain ⟨v0, vs0, d0, ds0, p0, q0, hargs, rfl, rfl, h0, r0⟩ := trodAll_cons hA
  obtain ⟨rfl, rfl, rfl⟩ := trodAll_nil r0
  obtain rfl : args = #[v0] := by cases args; simp_all
  obtain ⟨rfl, rfl⟩ := trodVars_none hV
  obtain ⟨s0, rfl, rfl, rfl, hs0⟩ := Go.ChangeMaps.open_string Try.underlying9 (hval 0 9 v0 rfl rfl) h0
  clear hA0
  obtain ⟨m, hm⟩ := Try.laysM144.s1_3 W hsh
  refine (walkFo m s0 W hm hs0).mono fun e W' ⟨he, hb⟩ => ?_
  subst he
  exact ⟨_, rfl, law_post laidOut hW' rfl 4 Try.underlying4 (by kernel_rfl) (by rw [Try.params3]; intro t ht; simp at ht; first | (subst ht; exact ⟨by kernel_rfl, of_decide_eq_true (by kernel_rfl)⟩) | (rcases ht with rfl | rfl <;> exact ⟨by kernel_rfl, of_decide_eq_true (by kernel_rfl)⟩) | (rcases ht with rfl | rfl | rfl <;> exact ⟨by kernel_rfl, of_decide_eq_true (by kernel_rfl)⟩) | (rcases ht with rfl | rfl | rfl | rfl <;> exact ⟨by kernel_rfl, of_decide_eq_true (by kernel_rfl)⟩)) rfl hb⟩

set_option maxRecDepth 100000 in
theorem fnExactFactorsOf_lifted (os : Os) (started : os.Started) (H : Type) (enc : TypeId × Value → H) :
    ReturnsInHanded {} Try.checked os 3 .any (Rows.fnExactFactorsOfSpec.pre6 enc Try.prog Try.f3 Rows.fnExactFactorsOfRow.domain false) (Rows.fnExactFactorsOfSpec.post enc Try.prog Try.f3 false true false false) := by
  refine returnsInHanded_of_change_shaped (C := Try.checked) own started (by kernel_rfl) Try.func3
    (ChangeSpec.witness6 (enc := enc) (C := Try.checked) false ⟨#[], #[.string .empty], []⟩ 8 (by kernel_rfl) (by kernel_rfl) (by kernel_rfl) (by kernel_rfl)) ?_
  intro W base args ds gs before hval0 hW hcnd _ hsh _
  exact fnExactFactorsOf_contract H enc W base args ds gs before hval0 hW hsh

theorem fnExactFactorsOf_holds : Rows.FnExactFactorsOfSaid :=
  OpenClaim.holds_of_wide 3 Try.f3 rfl rfl rfl rfl rfl rfl rfl ⟨rfl, rfl, rfl, rfl, rfl⟩ rfl rfl rfl rfl rfl (by as_aux_lemma => kernel_rfl) Try.func3
    (joined_mk (by as_aux_lemma => kernel_rfl) laidOut mapsRowed' (by as_aux_lemma => kernel_rfl) (by as_aux_lemma => kernel_rfl) (by as_aux_lemma => kernel_rfl) (by as_aux_lemma => kernel_rfl) (by as_aux_lemma => kernel_rfl) (by as_aux_lemma => kernel_rfl) plainKeys' rfl heard' mayEnter' lifts' make' (by as_aux_lemma => kernel_rfl))
    (of_decide_eq_true (by kernel_rfl)) (by unfold Func.isWrapper; first | (rw [if_pos (by decide +kernel)]; kernel_rfl) | (rw [if_neg (by decide +kernel)]; exact ⟨rfl, rfl⟩))
    (fun os started H enc _ => fnExactFactorsOf_lifted os started H enc)

end Go.Proofs.Ytmfgmkahifcgpaa
