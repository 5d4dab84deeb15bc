/-
  The statement FnExactPairsGrammar: for every word the program's PairsGrammar answers as the reference's, in memory of its own each time. No condition.
-/
import Derived.Test.YtikhjoianbndhaaP4

namespace Go.Proofs.Ytikhjoianbndhaa
open Go.ChangeShapes Go.WideShapes Go.ChangeAt Go.RowKit

/-- what is made later lies apart from what is marked -/
theorem own_later {w1 w w' : World} {b1 e1 s1 n1 e2 s2 n2 : Nat} {v1 v2 : Value} {xs1 xs2 : List Value} (h0 : w1.ownsRow b1 e1 s1 v1 n1 xs1) (h2 : w.ownsRow w1.heap.size e2 s2 v2 n2 xs2) (hg : w.grownBy w' v1.ownBlock) : w'.ownsRow w1.heap.size e2 s2 v2 n2 xs2 := by
  refine h2.kept hg ?_
  cases hv : v2.ownBlock with
  | none => exact .inl rfl
  | some q => exact .inr fun e => by have h3 := (h0.lt q e.symm).2; have h4 := own_ge h2 q hv; omega

set_option maxHeartbeats 2000000 in
set_option maxRecDepth 100000 in
theorem walkPrs (s : ByteArray) (w : World) (hs : s.size ≤ maxLen) : Calls Try.prog 4 #[.string s] w (Ret (.bool true) w) := by
  unfold maxLen at hs
  by_cases hbig : 1048576 < s.size
  · go_enter Try.func4, Try.ntmps4
    go_wp2_with fail
    go_ret
    exact ⟨rfl, by (repeat first | exact Below.refl _ _ | assumption | refine Below.drew ?_ | refine Below.alloc ?_ (by first | exact Nat.le_refl _ | (simp; done) | omega | (simp; omega)) _ | refine Below.setCell ?_ (by first | exact Nat.le_refl _ | (simp; done) | omega | (simp; omega)) _)⟩
  have hs1 : s.size ≤ 1048576 := by omega
  have SP := Lib.hid (fun (w2 : World) => specPrs_any s w2 hs1)
  have IM := Lib.hid (fun (w2 : World) => implPrs_any s w2 hs1)
  have hln := prF_len s
  generalize prF s = T at *
  generalize prC s = C at *
  have hbb0 : Below w.heap.size w w := Below.refl _ _
  go_enter Try.func4, Try.ntmps4
  go_wp2_with fail
  refine (SP.out _).mono ?_
  rintro e w3 ⟨A3, c3, rfl, own3, hb3⟩
  have bb1 := hbb0.trans (hb3.mono hbb0.size)
  have OS := Lib.hid own3
  clear own3
  go_wp2_with fail
  refine namedC fun w3' HN => ?_
  have hbw3' : Below w3.heap.size w3 w3' := by rw [HN.out]; (repeat first | exact Below.refl _ _ | assumption | refine Below.drew ?_ | refine Below.alloc ?_ (by first | exact Nat.le_refl _ | (simp; done) | omega | (simp; omega)) _ | refine Below.setCell ?_ (by first | exact Nat.le_refl _ | (simp; done) | omega | (simp; omega)) _)
  have BS := Lib.hid (show Blk w3' w3.heap.size 24 #[.slice A3 T.length c3] by rw [HN.out]; exact Blk.new _ _ _)
  clear HN
  have bb2 := bb1.trans (hbw3'.mono bb1.size)
  have OS_2 := Lib.hid (own_next OS.out hbw3')
  refine (IM.out _).mono ?_
  rintro e w5 ⟨A5, c5, rfl, own5, hb5⟩
  have bb3 := bb2.trans (hb5.mono bb2.size)
  have OS_3 := Lib.hid (own_next OS_2.out hb5)
  have BS_3 := Lib.hid (BS.out.next hb5)
  have OG := Lib.hid own5
  clear own5
  have ccBS := BS_3.out.cell 0
  have llBS := BS_3.out.lt
  go_wp2_with fail
  refine namedC fun w5' HN => ?_
  have hbw5' : Below w5.heap.size w5 w5' := by rw [HN.out]; (repeat first | exact Below.refl _ _ | assumption | refine Below.drew ?_ | refine Below.alloc ?_ (by first | exact Nat.le_refl _ | (simp; done) | omega | (simp; omega)) _ | refine Below.setCell ?_ (by first | exact Nat.le_refl _ | (simp; done) | omega | (simp; omega)) _)
  have BH := Lib.hid (show Blk w5' w5.heap.size 24 #[.slice A5 T.length c5] by rw [HN.out]; exact Blk.new _ _ _)
  clear HN
  have bb4 := bb3.trans (hbw5'.mono bb3.size)
  have OS_4 := Lib.hid (own_next OS_3.out hbw5')
  have BS_4 := Lib.hid (BS_3.out.next hbw5')
  have OG_4 := Lib.hid (own_next OG.out hbw5')
  clear ccBS llBS
  refine (eqGrammar_any A5 A3 _ c5 _ c3 T T w5' (by unfold maxLen; omega) (by unfold maxLen; omega) (Rd.of_own (fun x _ => fac_len x) rfl OG_4.out) (Rd.of_own (fun x _ => fac_len x) rfl OS_4.out) true (by simp)).mono ?_
  rintro e w9 ⟨rfl, hbw9⟩
  have bb5 := bb4.trans (hbw9.mono bb4.size)
  have OS_5 := Lib.hid (own_next OS_4.out hbw9)
  have BS_5 := Lib.hid (BS_4.out.next hbw9)
  have OG_5 := Lib.hid (own_next OG_4.out hbw9)
  have BH_5 := Lib.hid (BH.out.next hbw9)
  have ccBH := BH_5.out.cell 0
  have llBH := BH_5.out.lt
  go_wp2_with fail
  refine (markGrammarC_any A5 _ c5 w3'.heap.size T 1 w9 (by omega) (by omega) rfl OG_5.out).mono ?_
  rintro e w10 ⟨rfl, own10, hg10⟩
  have bb6 := bb5.grown hg10 bb5.size (fun k hk => by have := (OG_5.out.lt k hk).1; have := bb2.size; omega)
  have BS_n := Lib.hid (BS_5.out.grown hg10 (own_blk_ne OG_5.out BS_5.out (by decide)))
  have BH_n := Lib.hid (BH_5.out.grown hg10 (own_blk_ne OG_5.out BH_5.out (by decide)))
  have OS_n := Lib.hid (own_apart OS_2.out OS_5.out OG_5.out hg10)
  have RG := Lib.hid (Rd.of_own (fun x _ => fac_len x) (marksR_len _ _) own10)
  clear own10 hg10
  clear ccBH llBH
  have ccBH := BH_n.out.cell 0
  have llBH := BH_n.out.lt
  go_wp2_with fail
  refine (heldGrammar_any A5 _ c5 1 w10 (by omega) (by omega) RG.out).mono ?_
  rintro e w11 ⟨rfl, hbw11⟩
  have bb7 := bb6.trans (hbw11.mono bb6.size)
  have BS_7 := Lib.hid (BS_n.out.next hbw11)
  have BH_7 := Lib.hid (BH_n.out.next hbw11)
  have OS_7 := Lib.hid (own_next OS_n.out hbw11)
  have RG_7 := Lib.hid (RG.out.next hbw11)
  clear ccBH llBH
  go_wp2_with fail
  refine (IM.out _).mono ?_
  rintro e w13 ⟨A13, c13, rfl, own13, hb13⟩
  have bb8 := bb7.trans (hb13.mono bb7.size)
  have BS_8 := Lib.hid (BS_7.out.next hb13)
  have BH_8 := Lib.hid (BH_7.out.next hb13)
  have OS_8 := Lib.hid (own_next OS_7.out hb13)
  have RG_8 := Lib.hid (RG_7.out.next hb13)
  have OH := Lib.hid own13
  clear own13
  have ccBS := BS_8.out.cell 0
  have llBS := BS_8.out.lt
  go_wp2_with fail
  refine namedC fun w13' HN => ?_
  have hbw13' : Below w13.heap.size w13 w13' := by rw [HN.out]; (repeat first | exact Below.refl _ _ | assumption | refine Below.drew ?_ | refine Below.alloc ?_ (by first | exact Nat.le_refl _ | (simp; done) | omega | (simp; omega)) _ | refine Below.setCell ?_ (by first | exact Nat.le_refl _ | (simp; done) | omega | (simp; omega)) _)
  have BI := Lib.hid (show Blk w13' w13.heap.size 24 #[.slice A13 T.length c13] by rw [HN.out]; exact Blk.new _ _ _)
  clear HN
  have bb9 := bb8.trans (hbw13'.mono bb8.size)
  have BS_9 := Lib.hid (BS_8.out.next hbw13')
  have BH_9 := Lib.hid (BH_8.out.next hbw13')
  have OS_9 := Lib.hid (own_next OS_8.out hbw13')
  have RG_9 := Lib.hid (RG_8.out.next hbw13')
  have OH_9 := Lib.hid (own_next OH.out hbw13')
  clear ccBS llBS
  refine (eqGrammar_any A13 A3 _ c13 _ c3 T T w13' (by unfold maxLen; omega) (by unfold maxLen; omega) (Rd.of_own (fun x _ => fac_len x) rfl OH_9.out) (Rd.of_own (fun x _ => fac_len x) rfl OS_9.out) true (by simp)).mono ?_
  rintro e w14 ⟨rfl, hbw14⟩
  have bb10 := bb9.trans (hbw14.mono bb9.size)
  have BS_10 := Lib.hid (BS_9.out.next hbw14)
  have BH_10 := Lib.hid (BH_9.out.next hbw14)
  have OS_10 := Lib.hid (own_next OS_9.out hbw14)
  have RG_10 := Lib.hid (RG_9.out.next hbw14)
  have OH_10 := Lib.hid (own_next OH_9.out hbw14)
  have BI_10 := Lib.hid (BI.out.next hbw14)
  have ccBH := BH_10.out.cell 0
  have llBH := BH_10.out.lt
  go_wp2_with fail
  refine (heldGrammar_any A5 _ c5 1 w14 (by omega) (by omega) RG_10.out).mono ?_
  rintro e w15 ⟨rfl, hbw15⟩
  have bb11 := bb10.trans (hbw15.mono bb10.size)
  have BS_11 := Lib.hid (BS_10.out.next hbw15)
  have BH_11 := Lib.hid (BH_10.out.next hbw15)
  have OS_11 := Lib.hid (own_next OS_10.out hbw15)
  have RG_11 := Lib.hid (RG_10.out.next hbw15)
  have OH_11 := Lib.hid (own_next OH_10.out hbw15)
  have BI_11 := Lib.hid (BI_10.out.next hbw15)
  clear ccBH llBH
  go_wp2_with fail
  go_ret
  exact ⟨rfl, bb11⟩

set_option maxRecDepth 100000 in
theorem fnExactPairsGrammar_contract (H : Type) (enc : TypeId × Value → H) (W : World) (base : Nat) (args : Array Value) (ds gs : List (DataW H)) (before : List MemPlace)
    (hval : ∀ (j : Nat) t v, Try.f4.params[j]? = some t → args[j]? = some v → Value.okWide Try.prog W .any base t v)
    (hW : DataW.Whole enc Try.prog Try.f4.params.toList Rows.fnExactPairsGrammarSpec.vars false W args.toList ds gs before) :
    Calls Try.prog 4 args W fun e W' => ∃ v, e = .returned v ∧ Rows.fnExactPairsGrammarSpec.post enc Try.prog Try.f4 false true false false W args v W' := by
  have hW' := hW
  obtain ⟨p, q, hA0, hV, rfl, hfz, hnd⟩ := hW
  have hA : DataW.TrodAll enc Try.prog W 0 (fun _ => true) true Try.f4.params.toList args.toList ds p := hA0
  rw [Try.params4] at hA hval
  obtain ⟨v0, vs0, d0, ds0, p0, q0, hargs, rfl, rfl, h0, r0⟩ := trodAll_cons hA
  obtain ⟨rfl, rfl, rfl⟩ := trodAll_nil r0
  obtain rfl : args = #[v0] := by cases args; simp_all
  obtain ⟨rfl, rfl⟩ := trodVars_none hV
  obtain ⟨s0, rfl, rfl, rfl, hs0⟩ := Go.ChangeMaps.open_string Try.underlying9 (hval 0 9 v0 rfl rfl) h0
  clear hA0
  refine (walkPrs s0 W hs0).mono fun e W' ⟨he, hb⟩ => ?_
  subst he
  exact ⟨_, rfl, law_post laidOut hW' rfl 4 Try.underlying4 (by kernel_rfl) (by rw [Try.params4]; intro t ht; simp at ht; first | (subst ht; exact ⟨by kernel_rfl, of_decide_eq_true (by kernel_rfl)⟩) | (rcases ht with rfl | rfl <;> exact ⟨by kernel_rfl, of_decide_eq_true (by kernel_rfl)⟩) | (rcases ht with rfl | rfl | rfl <;> exact ⟨by kernel_rfl, of_decide_eq_true (by kernel_rfl)⟩) | (rcases ht with rfl | rfl | rfl | rfl <;> exact ⟨by kernel_rfl, of_decide_eq_true (by kernel_rfl)⟩)) rfl hb⟩

set_option maxRecDepth 100000 in
theorem fnExactPairsGrammar_lifted (os : Os) (started : os.Started) (H : Type) (enc : TypeId × Value → H) :
    ReturnsInHanded {} Try.checked os 4 .any (Rows.fnExactPairsGrammarSpec.pre6 enc Try.prog Try.f4 Rows.fnExactPairsGrammarRow.domain false) (Rows.fnExactPairsGrammarSpec.post enc Try.prog Try.f4 false true false false) := by
  refine returnsInHanded_of_change (C := Try.checked) own started (by kernel_rfl) Try.func4
    (ChangeSpec.witness6 (enc := enc) (C := Try.checked) false ⟨#[], #[.string .empty], []⟩ 8 (by kernel_rfl) (by kernel_rfl) (by kernel_rfl) (by kernel_rfl)) ?_
  intro W base args ds gs before hval0 hW hcnd _
  exact fnExactPairsGrammar_contract H enc W base args ds gs before hval0 hW

theorem fnExactPairsGrammar_holds : Rows.FnExactPairsGrammarSaid :=
  OpenClaim.holds_of_wide 4 Try.f4 rfl rfl rfl rfl rfl rfl rfl ⟨rfl, rfl, rfl, rfl, rfl⟩ rfl rfl rfl rfl rfl (by as_aux_lemma => kernel_rfl) Try.func4
    (joined_mk (by as_aux_lemma => kernel_rfl) laidOut mapsRowed' (by as_aux_lemma => kernel_rfl) (by as_aux_lemma => kernel_rfl) (by as_aux_lemma => kernel_rfl) (by as_aux_lemma => kernel_rfl) (by as_aux_lemma => kernel_rfl) (by as_aux_lemma => kernel_rfl) plainKeys' rfl heard' mayEnter' lifts' make' (by as_aux_lemma => kernel_rfl))
    (of_decide_eq_true (by kernel_rfl)) (by unfold Func.isWrapper; first | (rw [if_pos (by decide +kernel)]; kernel_rfl) | (rw [if_neg (by decide +kernel)]; exact ⟨rfl, rfl⟩))
    (fun os started H enc _ => fnExactPairsGrammar_lifted os started H enc)

end Go.Proofs.Ytikhjoianbndhaa
