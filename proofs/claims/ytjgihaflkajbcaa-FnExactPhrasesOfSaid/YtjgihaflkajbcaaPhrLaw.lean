/-
  The statement FnExactPhrasesOf: for all texts the program's PhrasesOf answers as the reference's, in memory of its own each time. No condition.
-/
import Derived.Test.YtjgihaflkajbcaaPhrOf
import Derived.Test.YtjgihaflkajbcaaStrS
import Derived.Test.YtjgihaflkajbcaaLaw
namespace Go.Proofs.Ytjgihaflkajbcaa
open Go.ChangeShapes Go.WideShapes Go.ChangeAt Go.RowKit

set_option maxHeartbeats 1000000 in
theorem walkPhr (s : ByteArray) (w : World) (hs : s.size ≤ maxLen) :
    Calls Try.prog 5 #[.string s] w (Ret (.bool true) w) := by
  have hs' := hs
  unfold maxLen at hs'
  by_cases hbig : 1048576 < s.size
  · go_enter Try.func5, Try.ntmps5
    go_wp2_with fail
    go_ret
    exact ⟨rfl, Below.refl _ _⟩
  have hlen := phrOf_len s
  have ex := Lib.hid (show decide (phrOf s = phrOf s) = true by simp)
  go_enter Try.func5, Try.ntmps5
  go_wp2_with fail
  refine (specPhrasesOf_any s w hs).mono ?_
  rintro e w1 ⟨A1, c1, rfl, own1, hb1⟩
  have O1 := Lib.hid own1; clear own1
  go_wp2_with fail
  refine (implPhrasesOf_any s w1 hs).mono ?_
  rintro e w2 ⟨A2, c2, rfl, own2, hb2⟩
  have O2 := Lib.hid own2; clear own2
  have b2 := hb1.trans (hb2.mono hb1.size)
  go_wp2_with fail
  refine (eqStringS_any A2 A1 _ _ _ _ (phrOf s) (phrOf s) w2 (by unfold maxLen; omega) (by unfold maxLen; omega) (Rd.of_own (enc := strE) (fun _ _ => rfl) rfl O2.out) ((Rd.of_own (enc := strE) (fun _ _ => rfl) rfl O1.out).next hb2)).mono ?_
  rintro e w3 ⟨rfl, hb3⟩
  have b3 := b2.trans (hb3.mono b2.size)
  go_wp2_with fail
  refine (markStringS_any A2 _ c2 w1.heap.size _ 1 w3 (by omega) (by omega) (own_next O2.out hb3)).mono ?_
  rintro e w4 ⟨rfl, own4, hg4⟩
  have O4 := Lib.hid own4; clear own4
  have O14 := Lib.hid (own_apart O1.out (own_next (own_next O1.out hb2) hb3) (own_next O2.out hb3) hg4)
  have b4 := b3.grown hg4 b3.size (fun k hk => by have := (O2.out.lt k hk).1; have := hb1.size; omega)
  have s4 := Lib.hid hg4.size
  have R4 := Lib.hid (Rd.of_own (enc := strEM) (fun _ _ => rfl) (marks_len _ _) O4.out)
  go_wp2_with fail
  refine (heldStringS_any A2 _ c2 1 w4 (by omega) (by omega) R4.out).mono ?_
  rintro e w5 ⟨rfl, hb5⟩
  have b5 := b4.trans (hb5.mono b4.size)
  go_wp2_with fail
  refine (implPhrasesOf_any s w5 hs).mono ?_
  rintro e w6 ⟨A6, c6, rfl, own6, hb6⟩
  have O6 := Lib.hid own6; clear own6
  have b6 := b5.trans (hb6.mono b5.size)
  go_wp2_with fail
  refine (eqStringS_any A6 A1 _ _ _ _ (phrOf s) (phrOf s) w6 (by unfold maxLen; omega) (by unfold maxLen; omega) (Rd.of_own (enc := strE) (fun _ _ => rfl) rfl O6.out) (((Rd.of_own (enc := strE) (fun _ _ => rfl) rfl O14.out).next hb5).next hb6)).mono ?_
  rintro e w7 ⟨rfl, hb7⟩
  have b7 := b6.trans (hb7.mono b6.size)
  go_wp2_with fail
  refine (heldStringS_any A2 _ c2 1 w7 (by omega) (by omega) (((R4.out.next hb5).next hb6).next hb7)).mono ?_
  rintro e w8 ⟨rfl, hb8⟩
  have b8 := b7.trans (hb8.mono b7.size)
  go_wp2_with fail
  go_ret
  exact ⟨rfl, b8⟩

theorem fnExactPhrasesOf_contract (H : Type) (enc : TypeId × Value → H) (W : World) (base : Nat) (args : Array Value) (ds gs : List (DataW H)) (before : List MemPlace)
    (hval : ∀ (j : Nat) t v, Try.f5.params[j]? = some t → args[j]? = some v → Value.okWide Try.prog W .any base t v)
    (hW : DataW.Whole enc Try.prog Try.f5.params.toList Rows.fnExactPhrasesOfSpec.vars false W args.toList ds gs before) :
    Calls Try.prog 5 args W fun e W' => ∃ v, e = .returned v ∧ Rows.fnExactPhrasesOfSpec.post enc Try.prog Try.f5 false true false false W args v W' := by
  have hW' := hW
  obtain ⟨p, q, hA0, hV, rfl, hfz, hnd⟩ := hW
  have hA : DataW.TrodAll enc Try.prog W 0 (fun _ => true) true Try.f5.params.toList args.toList ds p := hA0
  rw [Try.params5] at hA hval
  obtain ⟨v0, vs0, d0, ds0, p0, q0, hargs, rfl, rfl, h0, r0⟩ := trodAll_cons hA
  obtain ⟨rfl, rfl, rfl⟩ := trodAll_nil r0
  obtain rfl : args = #[v0] := by cases args; simp_all
  obtain ⟨rfl, rfl⟩ := trodVars_none hV
  obtain ⟨s0, rfl, rfl, rfl, hs0⟩ := Go.ChangeMaps.open_string Try.underlying9 (hval 0 9 v0 rfl rfl) h0
  clear hA0
  refine (walkPhr s0 W hs0).mono fun e W' ⟨he, hb⟩ => ?_
  subst he
  exact ⟨_, rfl, law_post laidOut hW' rfl 4 Try.underlying4 (by kernel_rfl) (by rw [Try.params5]; intro t ht; simp at ht; first | (subst ht; exact ⟨by kernel_rfl, of_decide_eq_true (by kernel_rfl)⟩) | (rcases ht with rfl | rfl <;> exact ⟨by kernel_rfl, of_decide_eq_true (by kernel_rfl)⟩) | (rcases ht with rfl | rfl | rfl <;> exact ⟨by kernel_rfl, of_decide_eq_true (by kernel_rfl)⟩) | (rcases ht with rfl | rfl | rfl | rfl <;> exact ⟨by kernel_rfl, of_decide_eq_true (by kernel_rfl)⟩)) rfl hb⟩

set_option maxRecDepth 100000 in
theorem fnExactPhrasesOf_lifted (os : Os) (started : os.Started) (H : Type) (enc : TypeId × Value → H) :
    ReturnsInHanded {} Try.checked os 5 .any (Rows.fnExactPhrasesOfSpec.pre6 enc Try.prog Try.f5 Rows.fnExactPhrasesOfRow.domain false) (Rows.fnExactPhrasesOfSpec.post enc Try.prog Try.f5 false true false false) := by
  refine returnsInHanded_of_change (C := Try.checked) own started (by kernel_rfl) Try.func5
    (ChangeSpec.witness6 (enc := enc) (C := Try.checked) false ⟨#[], #[.string .empty], []⟩ 8 (by kernel_rfl) (by kernel_rfl) (by kernel_rfl) (by kernel_rfl)) ?_
  intro W base args ds gs before hval0 hW hcnd _
  exact fnExactPhrasesOf_contract H enc W base args ds gs before hval0 hW

theorem fnExactPhrasesOf_holds : Rows.FnExactPhrasesOfSaid :=
  OpenClaim.holds_of_wide 5 Try.f5 rfl rfl rfl rfl rfl rfl rfl ⟨rfl, rfl, rfl, rfl, rfl⟩ rfl rfl rfl rfl rfl (by kernel_rfl) Try.func5 (by kernel_rfl)
    (of_decide_eq_true (by kernel_rfl)) (by unfold Func.isWrapper; first | (rw [if_pos (by decide +kernel)]; kernel_rfl) | (rw [if_neg (by decide +kernel)]; exact ⟨rfl, rfl⟩))
    (fun os started H enc _ => fnExactPhrasesOf_lifted os started H enc)

end Go.Proofs.Ytjgihaflkajbcaa
