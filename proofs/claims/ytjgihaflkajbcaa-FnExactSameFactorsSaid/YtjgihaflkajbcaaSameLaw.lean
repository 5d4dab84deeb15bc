/-
  The statement FnExactSameFactors: for all lists of factors, the program's SameFactors answers as the reference's, and its arguments stay as they are. No condition.
-/
import Derived.Test.YtjgihaflkajbcaaTo
import Derived.Test.YtjgihaflkajbcaaSame
import Derived.Test.YtjgihaflkajbcaaLaw
namespace Go.Proofs.Ytjgihaflkajbcaa
open Go.ChangeShapes Go.WideShapes Go.ChangeAt Go.RowKit

theorem szFacs_le : ∀ (fs : List Fac) (left : Int), 0 ≤ left → szFacs left fs ≤ left
  | [], left, _ => Int.le_refl _
  | f :: r, left, h => by
    unfold szFacs
    split
    · omega
    · have := szFacs_le r (szFac left f) (by omega)
      have h2 : szFac left f ≤ left := by unfold szFac; split <;> omega
      omega
theorem szFacAll_le (left : Int) (fs : List Fac) (h : 0 ≤ left) : szFacAll left fs ≤ left := by
  unfold szFacAll
  split
  · omega
  · have := szFacs_le fs (left - fs.length) (by omega); omega
theorem szFacAll_len (left : Int) (fs : List Fac) (h0 : 0 ≤ szFacAll left fs) : (fs.length : Int) ≤ left := by
  unfold szFacAll at h0
  split at h0 <;> omega

theorem walkSame (A D : Option Addr) (n c m d : Nat) (xs ys : List Fac) (w : World) (hn : n ≤ maxLen) (hm : m ≤ maxLen)
    (hx : Rd w w.heap.size A n 3 Fac.cells xs) (hy : Rd w w.heap.size D m 3 Fac.cells ys) (ox : ∀ f ∈ xs, Fac.ok f) (oy : ∀ f ∈ ys, Fac.ok f) :
    Calls Try.prog 4 #[.slice A n c, .slice D m d] w (Ret (.bool true) w) := by
  have lx := Lib.hid hx.len
  have ly := Lib.hid hy.len
  by_cases hz : szFacAll 1048576 xs < 0
  · go_enter Try.func4, Try.ntmps4
    go_wp2_with fail
    refine (szFactorS_any A n c xs 1048576 w (by omega) (by omega) hn hx (fun f hf => (ox f hf).1)).mono ?_
    rintro e w1 ⟨rfl, hb1⟩
    go_wp2_with fail
    go_ret
    exact ⟨rfl, hb1⟩
  have le1 := szFacAll_le 1048576 xs (by omega)
  have len1 := szFacAll_len 1048576 xs (by omega)
  by_cases hz2 : szFacAll (szFacAll 1048576 xs) ys < 0
  · go_enter Try.func4, Try.ntmps4
    go_wp2_with fail
    refine (szFactorS_any A n c xs 1048576 w (by omega) (by omega) hn hx (fun f hf => (ox f hf).1)).mono ?_
    rintro e w1 ⟨rfl, hb1⟩
    go_wp2_with fail
    refine (szFactorS_any D m d ys (szFacAll 1048576 xs) w1 (by omega) (by omega) hm (hy.next hb1) (fun f hf => (oy f hf).1)).mono ?_
    rintro e w2 ⟨rfl, hb2⟩
    go_wp2_with fail
    go_ret
    exact ⟨rfl, hb1.trans (hb2.mono hb1.size)⟩
  have len2 := szFacAll_len (szFacAll 1048576 xs) ys (by omega)
  have hn' : n ≤ 1048576 := by have := lx.out; omega
  have hm' : m ≤ 1048576 := by have := ly.out; omega
  go_enter Try.func4, Try.ntmps4
  go_wp2_with fail
  refine (szFactorS_any A n c xs 1048576 w (by omega) (by omega) hn hx (fun f hf => (ox f hf).1)).mono ?_
  rintro e w1 ⟨rfl, hb1⟩
  go_wp2_with fail
  refine (szFactorS_any D m d ys (szFacAll 1048576 xs) w1 (by omega) (by omega) hm (hy.next hb1) (fun f hf => (oy f hf).1)).mono ?_
  rintro e w2 ⟨rfl, hb2⟩
  have b2 := hb1.trans (hb2.mono hb1.size)
  go_wp2_with fail
  refine (toFactorS_any A n c xs w2 hn' (hx.next b2)).mono ?_
  rintro e w3 ⟨A3, c3, rfl, own3, hb3⟩
  have b3 := b2.trans (hb3.mono b2.size)
  go_wp2_with fail
  refine (toFactorS_any D m d ys w3 hm' (hy.next b3)).mono ?_
  rintro e w4 ⟨A4, c4, rfl, own4, hb4⟩
  have b4 := b3.trans (hb4.mono b3.size)
  go_wp2_with fail
  have r3 := Rd.of_own (fun x _ => fac_len x) rfl own3
  have r4 := Rd.of_own (fun x _ => fac_len x) rfl own4
  refine (specSame_any A3 A4 _ _ _ _ xs ys w4 (by unfold maxLen; omega) (by unfold maxLen; omega) (r3.next hb4) r4).mono ?_
  rintro e w5 ⟨rfl, hb5⟩
  have b5 := b4.trans (hb5.mono b4.size)
  go_wp2_with fail
  refine (toFactorS_any A n c xs w5 hn' (hx.next b5)).mono ?_
  rintro e w6 ⟨A6, c6, rfl, own6, hb6⟩
  have b6 := b5.trans (hb6.mono b5.size)
  have r6 := Rd.of_own (fun x _ => fac_len x) rfl own6
  go_wp2_with fail
  refine (toFactorS_any D m d ys w6 hm' (hy.next b6)).mono ?_
  rintro e w7 ⟨A7, c7, rfl, own7, hb7⟩
  have b7 := b6.trans (hb7.mono b6.size)
  have r7 := Rd.of_own (fun x _ => fac_len x) rfl own7
  go_wp2_with fail
  refine (implSame_any A6 A7 _ _ _ _ xs ys w7 (by unfold maxLen; omega) (by unfold maxLen; omega) (r6.next hb7) r7).mono ?_
  rintro e w8 ⟨rfl, hb8⟩
  have b8 := b7.trans (hb8.mono b7.size)
  go_wp2_with fail
  refine (toFactorS_any A n c xs w8 hn' (hx.next b8)).mono ?_
  rintro e w9 ⟨A9, c9, rfl, own9, hb9⟩
  have b9 := b8.trans (hb9.mono b8.size)
  have r9 := Rd.of_own (fun x _ => fac_len x) rfl own9
  go_wp2_with fail
  refine (eqFactorS_any A6 A9 _ _ _ _ xs xs w9 (by unfold maxLen; omega) (by unfold maxLen; omega) (((r6.next hb7).next hb8).next hb9) r9).mono ?_
  rintro e w10 ⟨rfl, hb10⟩
  have b10 := b9.trans (hb10.mono b9.size)
  have ex := Lib.hid (show decide (xs = xs) = true by simp)
  go_wp2_with fail
  refine (toFactorS_any D m d ys w10 hm' (hy.next b10)).mono ?_
  rintro e w11 ⟨A11, c11, rfl, own11, hb11⟩
  have b11 := b10.trans (hb11.mono b10.size)
  have r11 := Rd.of_own (fun x _ => fac_len x) rfl own11
  go_wp2_with fail
  refine (eqFactorS_any A7 A11 _ _ _ _ ys ys w11 (by unfold maxLen; omega) (by unfold maxLen; omega) ((((r7.next hb8).next hb9).next hb10).next hb11) r11).mono ?_
  rintro e w12 ⟨rfl, hb12⟩
  have b12 := b11.trans (hb12.mono b11.size)
  go_wp2_with fail
  go_ret
  exact ⟨rfl, b12⟩

theorem contractSame (H : Type) (enc : TypeId × Value → H) (W : World) (base : Nat) (args : Array Value) (ds gs : List (DataW H)) (before : List MemPlace)
    (hval : ∀ (j : Nat) t v, Try.f4.params[j]? = some t → args[j]? = some v → Value.okWide Try.prog W .any base t v)
    (hW : DataW.Whole enc Try.prog Try.f4.params.toList Rows.fnExactSameFactorsSpec.vars false W args.toList ds gs before) :
    Calls Try.prog 4 args W fun e W' => ∃ v, e = .returned v ∧ Rows.fnExactSameFactorsSpec.post enc Try.prog Try.f4 false true false false W args v W' := by
  have hW' := hW
  obtain ⟨p, q, hA0, hV, rfl, hfz, hnd⟩ := hW
  have hA : DataW.TrodAll enc Try.prog W 0 (fun _ => true) true Try.f4.params.toList args.toList ds p := hA0
  rw [Try.params4] at hA hval
  obtain ⟨v0, vs0, d0, ds0, p0, q0, hargs, rfl, rfl, h0, r0⟩ := trodAll_cons hA
  obtain ⟨v1, vs1, d1, ds1, p1, q1, rfl, rfl, rfl, h1, r1⟩ := trodAll_cons r0
  obtain ⟨rfl, rfl, rfl⟩ := trodAll_nil r1
  obtain rfl : args = #[v0, v1] := by cases args; simp_all
  obtain ⟨rfl, rfl⟩ := trodVars_none hV
  obtain ⟨A0, n0, c0, xs0, rfl, hn0, rd0, ok0⟩ := open_facs Try.underlying29 Try.underlying57 (by kernel_rfl) (by kernel_rfl) Try.underlying9 Try.underlying2 Try.underlying2 (hval 0 29 v0 rfl rfl) h0
  obtain ⟨A1, n1, c1, xs1, rfl, hn1, rd1, ok1⟩ := open_facs Try.underlying29 Try.underlying57 (by kernel_rfl) (by kernel_rfl) Try.underlying9 Try.underlying2 Try.underlying2 (hval 1 29 v1 rfl rfl) h1
  clear hA0
  refine (walkSame A0 A1 n0 c0 n1 c1 xs0 xs1 W hn0 hn1 rd0 rd1 ok0 ok1).mono fun e W' ⟨he, hb⟩ => ?_
  subst he
  exact ⟨_, rfl, law_post laidOut hW' rfl 4 Try.underlying4 (by kernel_rfl) (by rw [Try.params4]; intro t ht; simp at ht; subst ht; exact ⟨by kernel_rfl, of_decide_eq_true (by kernel_rfl)⟩) rfl hb⟩

set_option maxRecDepth 100000 in
theorem liftedSame (os : Os) (started : os.Started) (H : Type) (enc : TypeId × Value → H) :
    ReturnsInHanded {} Try.checked os 4 .any (Rows.fnExactSameFactorsSpec.pre6 enc Try.prog Try.f4 Rows.fnExactSameFactorsRow.domain false) (Rows.fnExactSameFactorsSpec.post enc Try.prog Try.f4 false true false false) := by
  refine returnsInHanded_of_change (C := Try.checked) own started (by kernel_rfl) Try.func4
    (ChangeSpec.witness6 (enc := enc) (C := Try.checked) false ⟨#[], #[.slice none 0 0, .slice none 0 0], []⟩ 8 (by kernel_rfl) (by kernel_rfl) (by kernel_rfl) (by kernel_rfl)) ?_
  intro W base args ds gs before hval0 hW hcnd _
  exact contractSame H enc W base args ds gs before hval0 hW

theorem sameFactors_holds : Rows.FnExactSameFactorsSaid :=
  OpenClaim.holds_of_wide 4 Try.f4 rfl rfl rfl rfl rfl rfl rfl ⟨rfl, rfl, rfl, rfl, rfl⟩ rfl rfl rfl rfl rfl (by kernel_rfl) Try.func4 (by kernel_rfl)
    (of_decide_eq_true (by kernel_rfl)) (by unfold Func.isWrapper; first | (rw [if_pos (by decide +kernel)]; kernel_rfl) | (rw [if_neg (by decide +kernel)]; exact ⟨rfl, rfl⟩))
    (fun os started H enc _ => liftedSame os started H enc)
end Go.Proofs.Ytjgihaflkajbcaa
