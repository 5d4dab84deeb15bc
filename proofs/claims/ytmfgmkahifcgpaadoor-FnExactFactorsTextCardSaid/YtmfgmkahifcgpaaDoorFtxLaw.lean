/-
  The statement FnExactFactorsText: for all lists of factors the program's FactorsText answers as the reference's, and the list stays as it is. Taking that the library's three tables hold what the program's text lays into them (the card ties them).
-/
import Derived.Test.YtmfgmkahifcgpaaDoorFtx
import Derived.Test.YtmfgmkahifcgpaaDoorTo
import Derived.Test.YtmfgmkahifcgpaaDoorLaw
import Derived.Test.YtmfgmkahifcgpaaDoorCards
import Derived.Test.YtmfgmkahifcgpaaDoorTie
import Derived.LaidMore
import Derived.Stop.Joined
import Derived.Stop.LaidErr
import Derived.SevenTiedAt
namespace Go.Proofs.YtmfgmkahifcgpaaDoor
open Go.ChangeShapes Go.WideShapes Go.ChangeAt Go.RowKit

set_option maxHeartbeats 1000000 in
theorem walkFtx (A : Option Addr) (n c : Nat) (xs : List Fac) (w : World) (ht : TabD w) (hn : n ≤ maxLen) (hx : Rd w w.heap.size A n 3 Fac.cells xs) (ox : ∀ f ∈ xs, Fac.ok f) :
    Calls Tryd.prog 3 #[.slice A n c] w (Ret (.bool true) w) := by
  have lx := Lib.hid hx.len
  have HT := Lib.hid ht
  clear ht
  by_cases hz : szFacAll 1048576 xs < 0
  · go_enter Tryd.func3, Tryd.ntmps3
    go_wp2_with fail
    refine (szFactorS_any A n c xs 1048576 w (by omega) (by omega) hn hx (fun f hf => (ox f hf).1)).mono ?_
    rintro e w1 ⟨rfl, hb1⟩
    go_wp2_with fail
    go_ret
    exact ⟨rfl, hb1⟩
  have le1 := szFacAll_le 1048576 xs (by omega)
  have len1 := szFacAll_len 1048576 xs (by omega)
  have hn' : n ≤ 1048576 := by have := lx.out; omega
  have hlx : xs.length ≤ 1048576 := by have := lx.out; omega
  go_enter Tryd.func3, Tryd.ntmps3
  go_wp2_with fail
  refine (szFactorS_any A n c xs 1048576 w (by omega) (by omega) hn hx (fun f hf => (ox f hf).1)).mono ?_
  rintro e w1 ⟨rfl, hb1⟩
  go_wp2_with fail
  refine (toFactorS_any A n c xs w1 hn' (hx.next hb1)).mono ?_
  rintro e w2 ⟨A2, c2, rfl, own2, hb2⟩
  have b2 := hb1.trans (hb2.mono hb1.size)
  have r2 := Rd.of_own (fun x _ => fac_len x) rfl own2
  go_wp2_with fail
  refine (specTxt_any A2 _ _ xs w2 hlx r2 (fun f hf => (ox f hf).1)).mono ?_
  rintro e w3 ⟨rfl, hb3⟩
  have b3 := b2.trans (hb3.mono b2.size)
  go_wp2_with fail
  refine (toFactorS_any A n c xs w3 hn' (hx.next b3)).mono ?_
  rintro e w4 ⟨A4, c4, rfl, own4, hb4⟩
  have b4 := b3.trans (hb4.mono b3.size)
  have r4 := Rd.of_own (fun x _ => fac_len x) rfl own4
  go_wp2_with fail
  refine (implTxt_any A4 _ _ xs w4 hlx r4 (fun f hf => (ox f hf).1) (tab_up HT.out b4)).mono ?_
  rintro e w5 ⟨rfl, hb5⟩
  have b5 := b4.trans (hb5.mono b4.size)
  generalize txtF xs = T at *
  go_wp2_with fail
  refine (toFactorS_any A n c xs w5 hn' (hx.next b5)).mono ?_
  rintro e w6 ⟨A6, c6, rfl, own6, hb6⟩
  have b6 := b5.trans (hb6.mono b5.size)
  have r6 := Rd.of_own (fun x _ => fac_len x) rfl own6
  go_wp2_with fail
  refine (eqFactorS_any A4 A6 _ _ _ _ xs xs w6 (by unfold maxLen; omega) (by unfold maxLen; omega) ((r4.next hb5).next hb6) r6).mono ?_
  rintro e w7 ⟨rfl, hb7⟩
  have b7 := b6.trans (hb7.mono b6.size)
  have ex := Lib.hid (show decide (xs = xs) = true by simp)
  go_wp2_with fail
  go_ret
  exact ⟨rfl, b7⟩

def laid3 : List (String × DataW Unit) := Rows.fnExactFactorsTextRow.laid
/-- The door's own heap meets the condition. -/
theorem door_met (os : Os) (args : Array Value) : laidMetH Tryd.prog laid3 ((World.doorLaid Tryd.prog 400 os).forCall (fun _ _ => 0) ⟨#[], args, []⟩).memory :=
  laidMetH_of_parts3 (fuel := 8) (laidMet_of_run' 8 (by kernel_rfl) (by kernel_rfl)) (by kernel_rfl) (by kernel_rfl)
theorem tab_of {W : World} (h : laidMetH Tryd.prog laid3 W) : TabD W := by
  rw [MakeChecks.laidMetH_plain _ _ _ (by kernel_rfl)] at h
  have h2 : laidMet Tryd.prog [("internal/strconv.uint64pow10", Lib.tabData .u64 Lib.pow10Tab)] W := laidMet.tail (laidMet.tail h)
  exact Lib.tabIs_of_head (t := 53) (e := 46) (n := 20) tab_glob (by kernel_rfl) Tryd.underlying53 Tryd.underlying46 (by kernel_rfl) (by kernel_rfl) h2
set_option maxRecDepth 100000 in
theorem fnExactFactorsText_contract (H : Type) (enc : TypeId × Value → H) (W : World) (base : Nat) (args : Array Value) (ds gs : List (DataW H)) (before : List MemPlace)
    (hval : ∀ (j : Nat) t v, Tryd.f3.params[j]? = some t → args[j]? = some v → Value.okWide Tryd.prog W .any base t v)
    (hW : DataW.Whole enc Tryd.prog Tryd.f3.params.toList Rows.fnExactFactorsTextSpec.vars false W args.toList ds gs before) (hL : laidMetH Tryd.prog laid3 W) :
    Calls Tryd.prog 3 args W fun e W' => ∃ v, e = .returned v ∧ Rows.fnExactFactorsTextSpec.post enc Tryd.prog Tryd.f3 false true false false W args v W' := by
  have hW' := hW
  obtain ⟨p, q, hA0, hV, rfl, hfz, hnd⟩ := hW
  have hA : DataW.TrodAll enc Tryd.prog W 0 (fun _ => true) true Tryd.f3.params.toList args.toList ds p := hA0
  rw [Tryd.params3] at hA hval
  obtain ⟨v0, vs0, d0, ds0, p0, q0, hargs, rfl, rfl, h0, r0⟩ := trodAll_cons hA
  obtain ⟨rfl, rfl, rfl⟩ := trodAll_nil r0
  obtain rfl : args = #[v0] := by cases args; simp_all
  obtain ⟨rfl, rfl⟩ := trodVars_none hV
  obtain ⟨A0, n0, c0, xs0, rfl, hn0, rd0, ok0⟩ := open_facs Tryd.underlying22 Tryd.underlying31 (by kernel_rfl) (by kernel_rfl) Tryd.underlying9 Tryd.underlying2 Tryd.underlying2 (hval 0 22 v0 rfl rfl) h0
  clear hA0
  refine (walkFtx A0 n0 c0 xs0 W (tab_of hL) hn0 rd0 ok0).mono fun e W' ⟨he, hb⟩ => ?_
  subst he
  exact ⟨_, rfl, law_post laidOut hW' rfl 4 Tryd.underlying4 (by kernel_rfl) (by rw [Tryd.params3]; intro t ht; simp at ht; first | (subst ht; exact ⟨by kernel_rfl, of_decide_eq_true (by kernel_rfl)⟩) | (rcases ht with rfl | rfl <;> exact ⟨by kernel_rfl, of_decide_eq_true (by kernel_rfl)⟩) | (rcases ht with rfl | rfl | rfl <;> exact ⟨by kernel_rfl, of_decide_eq_true (by kernel_rfl)⟩) | (rcases ht with rfl | rfl | rfl | rfl <;> exact ⟨by kernel_rfl, of_decide_eq_true (by kernel_rfl)⟩)) rfl hb⟩

set_option maxRecDepth 100000 in
theorem fnExactFactorsText_lifted (os : Os) (started : os.Started) (H : Type) (enc : TypeId × Value → H) :
    ReturnsInHanded {} Tryd.checked os 3 .any (fun w args => (Rows.fnExactFactorsTextSpec.pre enc Tryd.prog Tryd.f3 [] false w args ∧ laidMetH Tryd.prog laid3 w) ∧ sizedMet enc Tryd.prog Tryd.f3 (OpenSpec.ofChange Rows.fnExactFactorsTextSpec) false w args)
      (Rows.fnExactFactorsTextSpec.post enc Tryd.prog Tryd.f3 false true false false) := by
  refine returnsInHanded_of_change_and (C := Tryd.checked) (X := fun w _ => laidMetH Tryd.prog laid3 w) (fun _ _ _ hh h => h.of_heap hh) own started (by kernel_rfl) Tryd.func3
    (ChangeSpec.witness_shaped (enc := enc) (C := Tryd.checked) (os := os) (X := fun w _ => laidMetH Tryd.prog laid3 w) false (World.doorLaid Tryd.prog 400 os) #[.slice none 0 0] 8 rfl (World.shaped_of_RefB (by kernel_rfl) (by kernel_rfl)) (by kernel_rfl) (by kernel_rfl) (by kernel_rfl) (door_met os _)) ?_
  intro W base args ds gs before hval0 hW _ _ hL _
  exact fnExactFactorsText_contract H enc W base args ds gs before hval0 hW hL

theorem fnExactFactorsText_holds : Rows.FnExactFactorsTextSaid :=
  OpenClaim.holds_of_wide 3 Tryd.f3 rfl rfl rfl rfl rfl rfl rfl ⟨rfl, rfl, rfl, rfl, rfl⟩ rfl rfl rfl rfl rfl (by as_aux_lemma => kernel_rfl) Tryd.func3
    (joined_mk (by as_aux_lemma => kernel_rfl) laidOut mapsRowed' (by as_aux_lemma => kernel_rfl) (by as_aux_lemma => kernel_rfl) (by as_aux_lemma => kernel_rfl) (by as_aux_lemma => kernel_rfl) (by as_aux_lemma => kernel_rfl) (by as_aux_lemma => kernel_rfl) plainKeys' rfl heard' mayEnter' lifts' make' (by as_aux_lemma => kernel_rfl))
    (of_decide_eq_true (by kernel_rfl)) (by unfold Func.isWrapper; first | (rw [if_pos (by decide +kernel)]; kernel_rfl) | (rw [if_neg (by decide +kernel)]; exact ⟨rfl, rfl⟩))
    (fun os started H enc _ => fnExactFactorsText_lifted os started H enc)

theorem fnExactFactorsTextCard_holds : Rows.FnExactFactorsTextCardSaid :=
  Claim7.holds_tied_plain_at .later [] [.data, .data, .data] true Rows.fnExactFactorsTextCard.stood.harness false
    fnExactFactorsText_holds (fun _ h => by cases h) (by kernel_rfl) (fun _ h => by cases h) fnExactFactorsText_row_tie rfl ⟨rfl, rfl⟩ (by kernel_rfl) rfl
    (fun f fn hf hfn => by
      obtain rfl : f = 3 := Option.some.inj ((show Tryd.prog.funcNamed Rows.fnExactFactorsTextRow.func = some 3 by kernel_rfl).symm.trans hf) |>.symm
      obtain rfl : fn = Tryd.f3 := (Option.some.inj (Tryd.func3.symm.trans hfn)).symm
      exact ⟨by kernel_rfl, fun j t ht => by
        rw [Tryd.params3] at ht
        have hm : t ∈ [22] := by simpa using Array.mem_of_getElem? ht
        have hall : ([22].all fun u => !Tryd.prog.wantsStandIn u) = true := by kernel_rfl
        exact (show Tryd.prog.wantsStandIn t = false by simpa using List.all_eq_true.1 hall t hm)⟩)
    (by kernel_rfl)
end Go.Proofs.YtmfgmkahifcgpaaDoor
