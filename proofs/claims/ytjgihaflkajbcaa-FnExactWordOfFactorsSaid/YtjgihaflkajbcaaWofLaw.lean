/-
  The statement FnExactWordOfFactors: for all lists of factors the program's WordOfFactors answers as the reference's, and the list stays as it is. No condition.
-/
import Derived.Test.YtjgihaflkajbcaaTo
import Derived.Test.YtjgihaflkajbcaaWof
import Derived.Test.YtjgihaflkajbcaaLaw
namespace Go.Proofs.Ytjgihaflkajbcaa
open Go.ChangeShapes Go.WideShapes Go.ChangeAt Go.RowKit

/-- a word and a code -/
def wofW (fs : List Fac) : ByteArray := match facTotal fs with | none => ⟨#[]⟩ | some N => if 2000 < N then ⟨#[]⟩ else wordOf fs ⟨#[]⟩
def wofC (fs : List Fac) : Int := match facTotal fs with | none => 1 | some N => if 2000 < N then 3 else 0

section
variable (A : Option Addr) (n c : Nat) (fs : List Fac) (w : World) (hn : n ≤ maxLen) (hr : Rd w w.heap.size A n 3 Fac.cells fs) (hs : ∀ f ∈ fs, f.l.size ≤ maxLen)
include hn hr hs
set_option maxHeartbeats 400000 in
theorem implWofAll : Calls Try.prog 27 #[.slice A n c] w (Ret (.tuple #[.string (wofW fs), .int .i64 (wofC fs)]) w) := by
  rcases hf : facTotal fs with _ | N
  · have e1 := Lib.hid (show wofW fs = ⟨#[]⟩ by simp [wofW, hf])
    have e2 := Lib.hid (show wofC fs = 1 by simp [wofC, hf])
    have HFL := Lib.hid (implFL_any A n c fs w hn hr hs _ hf)
    clear hf
    go_enter Try.func27, Try.ntmps27
    go_wp2_with fail
    refine HFL.out.mono ?_
    rintro e w1 ⟨rfl, hb1⟩
    unfold lenTuple
    go_wp2_with fail
    go_ret2
    exact ⟨by rw [e1.out, e2.out]; rfl, hb1⟩
  · by_cases hN : 2000 < N
    · have e1 := Lib.hid (show wofW fs = ⟨#[]⟩ by simp [wofW, hf, hN])
      have e2 := Lib.hid (show wofC fs = 3 by simp [wofC, hf, hN])
      have HFL := Lib.hid (implFL_any A n c fs w hn hr hs _ hf)
      clear hf
      go_enter Try.func27, Try.ntmps27
      go_wp2_with fail
      refine HFL.out.mono ?_
      rintro e w1 ⟨rfl, hb1⟩
      unfold lenTuple
      go_wp2_with fail
      go_ret2
      exact ⟨by rw [e1.out, e2.out]; rfl, hb1⟩
    · have e1 := Lib.hid (show wofW fs = wordOf fs ⟨#[]⟩ by simp only [wofW, hf, if_neg hN])
      have e2 := Lib.hid (show wofC fs = 0 by simp only [wofC, hf, if_neg hN])
      rw [e1.out, e2.out]
      exact implWof_any A n c fs w hn hr hs N hf (by omega)
set_option maxHeartbeats 400000 in
theorem specWofAll : Calls Try.prog 26 #[.slice A n c] w (Ret (.tuple #[.string (wofW fs), .int .i64 (wofC fs)]) w) := by
  rcases hf : facTotal fs with _ | N
  · have e1 := Lib.hid (show wofW fs = ⟨#[]⟩ by simp [wofW, hf])
    have e2 := Lib.hid (show wofC fs = 1 by simp [wofC, hf])
    have HFL := Lib.hid (specLength_any A n c fs w hn hr hs)
    have Hf := Lib.hid hf
    clear hf
    go_enter Try.func26, Try.ntmps26
    go_wp2_with fail
    refine HFL.out.mono ?_
    rintro e w1 ⟨rfl, hb1⟩
    rw [Hf.out, optTuple_none]
    go_wp2_with fail
    go_ret2
    exact ⟨by rw [e1.out, e2.out]; rfl, hb1⟩
  · by_cases hN : 2000 < N
    · have e1 := Lib.hid (show wofW fs = ⟨#[]⟩ by simp [wofW, hf, hN])
      have e2 := Lib.hid (show wofC fs = 3 by simp [wofC, hf, hN])
      have HFL := Lib.hid (specLength_any A n c fs w hn hr hs)
      have Hf := Lib.hid hf
      clear hf
      go_enter Try.func26, Try.ntmps26
      go_wp2_with fail
      refine HFL.out.mono ?_
      rintro e w1 ⟨rfl, hb1⟩
      rw [Hf.out, optTuple_some]
      go_wp2_with fail
      go_ret2
      exact ⟨by rw [e1.out, e2.out]; rfl, hb1⟩
    · have e1 := Lib.hid (show wofW fs = wordOf fs ⟨#[]⟩ by simp only [wofW, hf, if_neg hN])
      have e2 := Lib.hid (show wofC fs = 0 by simp only [wofC, hf, if_neg hN])
      rw [e1.out, e2.out]
      exact specWof_any A n c fs w hn hr hs N hf (by omega)
end

set_option maxHeartbeats 400000 in
theorem walkWof (A : Option Addr) (n c : Nat) (xs : List Fac) (w : World) (hn : n ≤ maxLen) (hx : Rd w w.heap.size A n 3 Fac.cells xs) (ox : ∀ f ∈ xs, Fac.ok f) :
    Calls Try.prog 8 #[.slice A n c] w (Ret (.bool true) w) := by
  have lx := Lib.hid hx.len
  by_cases hz : szFacAll 1048576 xs < 0
  · go_enter Try.func8, Try.ntmps8
    go_wp2_with fail
    refine (szFactorS_any A n c xs 1048576 w (by omega) (by omega) hn hx (fun f hf => (ox f hf).1)).mono ?_
    rintro e w1 ⟨rfl, hb1⟩
    go_wp2_with fail
    go_ret
    exact ⟨rfl, hb1⟩
  have le1 := szFacAll_le 1048576 xs (by omega)
  have len1 := szFacAll_len 1048576 xs (by omega)
  have hn' : n ≤ 1048576 := by have := lx.out; omega
  go_enter Try.func8, Try.ntmps8
  go_wp2_with fail
  refine (szFactorS_any A n c xs 1048576 w (by omega) (by omega) hn hx (fun f hf => (ox f hf).1)).mono ?_
  rintro e w1 ⟨rfl, hb1⟩
  go_wp2_with fail
  refine (toFactorS_any A n c xs w1 hn' (hx.next hb1)).mono ?_
  rintro e w2 ⟨A2, c2, rfl, own2, hb2⟩
  have b2 := hb1.trans (hb2.mono hb1.size)
  have r2 := Rd.of_own (fun x _ => fac_len x) rfl own2
  go_wp2_with fail
  refine (specWofAll A2 _ _ xs w2 (by unfold maxLen; omega) r2 (fun f hf => (ox f hf).1)).mono ?_
  rintro e w3 ⟨rfl, hb3⟩
  have b3 := b2.trans (hb3.mono b2.size)
  go_wp2_with fail
  refine (toFactorS_any A n c xs w3 hn' (hx.next b3)).mono ?_
  rintro e w4 ⟨A4, c4, rfl, own4, hb4⟩
  have b4 := b3.trans (hb4.mono b3.size)
  have r4 := Rd.of_own (fun x _ => fac_len x) rfl own4
  go_wp2_with fail
  refine (implWofAll A4 _ _ xs w4 (by unfold maxLen; omega) r4 (fun f hf => (ox f hf).1)).mono ?_
  rintro e w5 ⟨rfl, hb5⟩
  have b5 := b4.trans (hb5.mono b4.size)
  go_wp2_with fail
  refine (toFactorS_any A n c xs w5 hn' (hx.next b5)).mono ?_
  rintro e w6 ⟨A6, c6, rfl, own6, hb6⟩
  have b6 := b5.trans (hb6.mono b5.size)
  have r6 := Rd.of_own (fun x _ => fac_len x) rfl own6
  go_wp2_with fail
  refine (eqFactorS_any A4 A6 _ _ _ _ xs xs w6 (by unfold maxLen; omega) (by unfold maxLen; omega) ((r4.next hb5).next hb6) r6).mono ?_
  rintro e w7 ⟨rfl, hb7⟩
  have b7 := b6.trans (hb7.mono b6.size)
  have ex := Lib.hid (show decide (xs = xs) = true by simp)
  go_wp2_with fail
  go_ret
  exact ⟨rfl, b7⟩

theorem fnExactWordOfFactors_contract (H : Type) (enc : TypeId × Value → H) (W : World) (base : Nat) (args : Array Value) (ds gs : List (DataW H)) (before : List MemPlace)
    (hval : ∀ (j : Nat) t v, Try.f8.params[j]? = some t → args[j]? = some v → Value.okWide Try.prog W .any base t v)
    (hW : DataW.Whole enc Try.prog Try.f8.params.toList Rows.fnExactWordOfFactorsSpec.vars false W args.toList ds gs before) :
    Calls Try.prog 8 args W fun e W' => ∃ v, e = .returned v ∧ Rows.fnExactWordOfFactorsSpec.post enc Try.prog Try.f8 false true false false W args v W' := by
  have hW' := hW
  obtain ⟨p, q, hA0, hV, rfl, hfz, hnd⟩ := hW
  have hA : DataW.TrodAll enc Try.prog W 0 (fun _ => true) true Try.f8.params.toList args.toList ds p := hA0
  rw [Try.params8] at hA hval
  obtain ⟨v0, vs0, d0, ds0, p0, q0, hargs, rfl, rfl, h0, r0⟩ := trodAll_cons hA
  obtain ⟨rfl, rfl, rfl⟩ := trodAll_nil r0
  obtain rfl : args = #[v0] := by cases args; simp_all
  obtain ⟨rfl, rfl⟩ := trodVars_none hV
  obtain ⟨A0, n0, c0, xs0, rfl, hn0, rd0, ok0⟩ := open_facs Try.underlying29 Try.underlying57 (by kernel_rfl) (by kernel_rfl) Try.underlying9 Try.underlying2 Try.underlying2 (hval 0 29 v0 rfl rfl) h0
  clear hA0
  refine (walkWof A0 n0 c0 xs0 W hn0 rd0 ok0).mono fun e W' ⟨he, hb⟩ => ?_
  subst he
  exact ⟨_, rfl, law_post laidOut hW' rfl 4 Try.underlying4 (by kernel_rfl) (by rw [Try.params8]; intro t ht; simp at ht; first | (subst ht; exact ⟨by kernel_rfl, of_decide_eq_true (by kernel_rfl)⟩) | (rcases ht with rfl | rfl <;> exact ⟨by kernel_rfl, of_decide_eq_true (by kernel_rfl)⟩) | (rcases ht with rfl | rfl | rfl <;> exact ⟨by kernel_rfl, of_decide_eq_true (by kernel_rfl)⟩) | (rcases ht with rfl | rfl | rfl | rfl <;> exact ⟨by kernel_rfl, of_decide_eq_true (by kernel_rfl)⟩)) rfl hb⟩

set_option maxRecDepth 100000 in
theorem fnExactWordOfFactors_lifted (os : Os) (started : os.Started) (H : Type) (enc : TypeId × Value → H) :
    ReturnsInHanded {} Try.checked os 8 .any (Rows.fnExactWordOfFactorsSpec.pre6 enc Try.prog Try.f8 Rows.fnExactWordOfFactorsRow.domain false) (Rows.fnExactWordOfFactorsSpec.post enc Try.prog Try.f8 false true false false) := by
  refine returnsInHanded_of_change (C := Try.checked) own started (by kernel_rfl) Try.func8
    (ChangeSpec.witness6 (enc := enc) (C := Try.checked) false ⟨#[], #[.slice none 0 0], []⟩ 8 (by kernel_rfl) (by kernel_rfl) (by kernel_rfl) (by kernel_rfl)) ?_
  intro W base args ds gs before hval0 hW hcnd _
  exact fnExactWordOfFactors_contract H enc W base args ds gs before hval0 hW

theorem fnExactWordOfFactors_holds : Rows.FnExactWordOfFactorsSaid :=
  OpenClaim.holds_of_wide 8 Try.f8 rfl rfl rfl rfl rfl rfl rfl ⟨rfl, rfl, rfl, rfl, rfl⟩ rfl rfl rfl rfl rfl (by kernel_rfl) Try.func8 (by kernel_rfl)
    (of_decide_eq_true (by kernel_rfl)) (by unfold Func.isWrapper; first | (rw [if_pos (by decide +kernel)]; kernel_rfl) | (rw [if_neg (by decide +kernel)]; exact ⟨rfl, rfl⟩))
    (fun os started H enc _ => fnExactWordOfFactors_lifted os started H enc)

end Go.Proofs.Ytjgihaflkajbcaa
