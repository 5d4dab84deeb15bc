
/-
  The statement FnExactReadFactors: for all texts the program's ReadFactors answers as the reference's, in memory of its own each time. Taking that the library's variables hold what the program's text lays into them (the card ties them).
-/
import Derived.Test.YtkkadlihlbpbiaaDoorRfI
import Derived.Test.YtkkadlihlbpbiaaDoorMarkF
import Derived.Test.YtkkadlihlbpbiaaDoorLaw
import Derived.Test.YtkkadlihlbpbiaaDoorCards
import Derived.Test.YtkkadlihlbpbiaaDoorTie
import Derived.HandedShaped
import Derived.LaidMore
import Derived.LaidLaws
import Derived.Lay
import Derived.Stop.Joined
import Derived.Stop.LaidErr
import Derived.SevenTiedAt
namespace Go.Proofs.YtkkadlihlbpbiaaDoor
open Go.ChangeShapes Go.WideShapes Go.ChangeAt Go.RowKit

theorem rdL_len (s : ByteArray) : (rdL readS s).1.length ≤ 4001 := by
  unfold rdL
  split
  · show 0 ≤ _; omega
  · split
    · show (readS s.data.toList).length ≤ _
      unfold readS
      have := spl_count 10 s.data.toList
      rw [len_byteR] at this
      rw [List.length_map, List.length_dropLast]; omega
    · show 0 ≤ _; omega
set_option maxHeartbeats 1000000 in
set_option maxRecDepth 100000 in
theorem walkRf (m : Int) (es er : Value) (s : ByteArray) (w : World) (hE : EnvR m es er w) (hs : s.size ≤ maxLen) :
    Calls Tryd.prog 3 #[.string s] w (Ret (.bool true) w) := by
  have hs' := hs
  unfold maxLen at hs'
  have HE := Lib.hid (fun (W : World) (hb : Below w.heap.size w W) => hE.next hb)
  clear hE
  by_cases hbig : 1048576 < s.size
  · go_enter Tryd.func3, Tryd.ntmps3
    go_wp2_with fail
    go_ret
    exact ⟨rfl, Below.refl _ _⟩
  have hs1 : s.size ≤ 1048576 := by omega
  have hlen := rdL_len s
  have SP := Lib.hid (fun (W : World) => specRead_any s W)
  have IM := Lib.hid (fun (W : World) (h : Below w.heap.size w W) => implRead_any s W (HE.out W h))
  rw [rd_same] at IM
  generalize (rdL readS s).1 = T at *
  generalize (rdL readS s).2 = C at *
  have ex := Lib.hid (show decide (T = T) = true by simp)
  go_enter Tryd.func3, Tryd.ntmps3
  go_wp2_with fail
  refine (SP.out w).mono ?_
  rintro e w1 ⟨A1, c1, rfl, own1, hb1⟩
  have O1 := Lib.hid own1; clear own1
  go_wp2_with fail
  refine (IM.out w1 hb1).mono ?_
  rintro e w2 ⟨A2, c2, rfl, own2, hb2⟩
  have O2 := Lib.hid own2; clear own2
  have b2 := hb1.trans (hb2.mono hb1.size)
  go_wp2_with fail
  refine (eqFactorS_any A2 A1 _ _ _ _ T T w2 (by unfold maxLen; omega) (by unfold maxLen; omega) (Rd.of_own (fun x _ => len_factorR x) rfl O2.out) ((Rd.of_own (fun x _ => len_factorR x) rfl O1.out).next hb2)).mono ?_
  rintro e w3 ⟨rfl, hb3⟩
  have b3 := b2.trans (hb3.mono b2.size)
  go_wp2_with fail
  refine (markFactorSC_any A2 _ c2 w1.heap.size T 1 w3 (by omega) (by omega) rfl (own_next O2.out hb3)).mono ?_
  rintro e w4 ⟨rfl, own4, hg4⟩
  have O4 := Lib.hid own4; clear own4
  have O14 := Lib.hid (own_apart O1.out (own_next (own_next O1.out hb2) hb3) (own_next O2.out hb3) hg4)
  have b4 := b3.grown hg4 b3.size (fun k hk => by have := (O2.out.lt k hk).1; have := hb1.size; omega)
  have R4 := Lib.hid (Rd.of_own (fun x _ => len_factorR x) (marksR_len _ _) O4.out)
  have s4 := Lib.hid hg4.size
  go_wp2_with fail
  refine (heldFactorS_any A2 _ c2 1 w4 (by omega) (by omega) R4.out).mono ?_
  rintro e w5 ⟨rfl, hb5⟩
  have b5 := b4.trans (hb5.mono b4.size)
  have z0 : ¬ (((1 + 3 * T.length : Nat) : Int) < 0) := by omega
  go_wp2_with fail
  refine (IM.out w5 b5).mono ?_
  rintro e w6 ⟨A6, c6, rfl, own6, hb6⟩
  have O6 := Lib.hid own6; clear own6
  have b6 := b5.trans (hb6.mono b5.size)
  go_wp2_with fail
  refine (eqFactorS_any A6 A1 _ _ _ _ T T w6 (by unfold maxLen; omega) (by unfold maxLen; omega) (Rd.of_own (fun x _ => len_factorR x) rfl O6.out) (((Rd.of_own (fun x _ => len_factorR x) rfl O14.out).next hb5).next hb6)).mono ?_
  rintro e w7 ⟨rfl, hb7⟩
  have b7 := b6.trans (hb7.mono b6.size)
  go_wp2_with fail
  refine (heldFactorS_any A2 _ c2 1 w7 (by omega) (by omega) (((R4.out.next hb5).next hb6).next hb7)).mono ?_
  rintro e w8 ⟨rfl, hb8⟩
  have b8 := b7.trans (hb8.mono b7.size)
  go_wp2_with fail
  go_ret
  exact ⟨rfl, b8⟩
def laid3 : List (String × DataW Unit) := Rows.fnExactReadFactorsRow.laid
/-- a variable of an interface type, listed with what it holds -/
theorem laid_iface {P : Program} {n nm : String} {d : DataW Unit} {r : List (String × DataW Unit)} {W : World} {g : Nat} {ti : TypeId} {ms : Array (String × TypeId)}
    (h : laidMet P ((n, .iface nm d) :: r) W) (hg : P.globalNamed n = some g) (ht : (P.globals[g]?).map (·.type) = some ti) (hi : P.underlying ti = some (.interface ms)) :
    ∃ u v, W.cell? ⟨g, 0, none⟩ = some (.iface u v) := by
  obtain ⟨ps, ⟨g0, t0, cs0, f0, p0, q0, hg0, ht0, hv0, hd0, _, e0⟩, _, _⟩ := h
  obtain rfl := Option.some.inj (hg.symm.trans hg0)
  obtain rfl := Option.some.inj (ht.symm.trans ht0)
  obtain ⟨_, u, v, hcs, _⟩ := iface_of_trod hi hd0
  refine ⟨u, v, ?_⟩
  rw [World.var?_cell hg hv0 0]
  obtain ⟨l⟩ := cs0
  subst hcs; rfl
theorem env_of {W : World} {m : Int} (h : laidMetH Tryd.prog laid3 W) (hm : W.cell? ⟨0, 0, none⟩ = some (.int .i64 m)) : ∃ es er, EnvR m es er W := by
  rw [MakeChecks.laidMetH_plain _ _ _ (by kernel_rfl)] at h
  have h2 := laidMet.tail (laidMet.tail h)
  have hT : TabD W := Lib.tabIs_of_head (t := 90) (e := 53) (n := 20) tab_glob (by kernel_rfl) Tryd.underlying90 Tryd.underlying53 (by kernel_rfl) (by kernel_rfl) h2
  have h3 := laidMet.tail (laidMet.tail h2)
  obtain ⟨u1, v1, e1⟩ := laid_iface h3 (g := 2) (ti := 39) (by kernel_rfl) (by kernel_rfl) Tryd.underlying39
  obtain ⟨u2, v2, e2⟩ := laid_iface (laidMet.tail h3) (g := 1) (ti := 39) (by kernel_rfl) (by kernel_rfl) Tryd.underlying39
  exact ⟨_, _, ⟨hm, e2, e1, ⟨_, _, rfl⟩, ⟨_, _, rfl⟩, hT⟩⟩
/-- the kit's wrap with a condition, the world's shape kept -/
theorem returns_and_shaped {H : Type} {enc : TypeId × Value → H} {a : Assume} {C : Checked} {os : Os} {f : FuncId} {fn : Func} {s : ChangeSpec} {conds : List PathCond} {apart fresh handsOn again : Bool} {X : World → Array Value → Prop}
    (hX : ∀ (w w' : World) (args : Array Value), w.heap = w'.heap → X w args → X w' args)
    (own : ownKnob C.prog.godebug = none) (started : os.Started) (noInit : C.prog.inits.idxOf? f = none) (hfn : C.prog.funcs[f]? = some fn)
    (witness : ∃ (w : World) (tape : Tape) (i : Input), w.os = os ∧ (w.forCall tape i).Shaped C.prog ∧ i.vars = [] ∧ Input.okWide C.prog (w.forCall tape i) .any w.heap.size f i ∧
      ((s.pre enc C.prog fn conds apart (w.forCall tape i).memory i.args ∧ X (w.forCall tape i).memory i.args) ∧ sizedMet enc C.prog fn (OpenSpec.ofChange s) apart (w.forCall tape i).memory i.args) ∧ a.holds C.prog (lone (Frame.enter C.prog f i.args .normal) [] (w.forCall tape i)))
    (contract : ∀ (W : World) (base : Nat) (args : Array Value) (ds gs : List (DataW H)) (before : List MemPlace),
      (∀ (j : Nat) t v, fn.params[j]? = some t → args[j]? = some v → Value.okWide C.prog W .any base t v) →
      DataW.Whole enc C.prog fn.params.toList s.vars apart W args.toList ds gs before →
      conds.all (PathCond.test C.prog ⟨fn.params.toList, ds, s.plain.varTypes C.prog, gs⟩) = true →
      (DataW.weightsEach C.prog (fn.params.toList ++ s.plain.varTypes C.prog) (ds ++ gs)).all (· ≤ reachBytes) = true → X W args →
      a.holds C.prog (lone (Frame.enter C.prog f args .normal) [] W) → W.ShapedOpen C.prog →
      Calls C.prog f args W fun e W' => ∃ v, e = .returned v ∧ s.post enc C.prog fn apart fresh handsOn again W args v W') :
    ReturnsInHanded a C os f .any (fun w args => (s.pre enc C.prog fn conds apart w args ∧ X w args) ∧ sizedMet enc C.prog fn (OpenSpec.ofChange s) apart w args) (s.post enc C.prog fn apart fresh handsOn again) := by
  refine returnsInHanded_of_calls own started noInit witness ?_
  intro w tape i _ hsh _ hok hpre hholds
  obtain ⟨_, _, _, fn', hfn', _, _, _, _, hval⟩ := hok
  have e : fn' = fn := Option.some.inj (hfn'.symm.trans hfn)
  subst e
  obtain ⟨⟨⟨ds, gs, before, hw, hc⟩, hx⟩, hz⟩ := hpre
  have hw' := DataW.Whole.of_heap (w' := w.forCall tape i) (by rfl) hw
  refine (contract (w.forCall tape i) w.heap.size i.args ds gs before hval hw' hc (hz.weights hw) (hX _ _ _ (by rfl) hx) hholds hsh).mono fun e W' ⟨v, he, hp⟩ => ?_
  subst he
  exact ChangeSpec.post_blind hp
set_option maxRecDepth 100000 in
theorem fnExactReadFactors_contract (H : Type) (enc : TypeId × Value → H) (W : World) (base : Nat) (args : Array Value) (ds gs : List (DataW H)) (before : List MemPlace)
    (hval : ∀ (j : Nat) t v, Tryd.f3.params[j]? = some t → args[j]? = some v → Value.okWide Tryd.prog W .any base t v)
    (hW : DataW.Whole enc Tryd.prog Tryd.f3.params.toList Rows.fnExactReadFactorsSpec.vars false W args.toList ds gs before) (hL : laidMetH Tryd.prog laid3 W) (hsh : W.ShapedOpen Tryd.prog) :
    Calls Tryd.prog 3 args W fun e W' => ∃ v, e = .returned v ∧ Rows.fnExactReadFactorsSpec.post enc Tryd.prog Tryd.f3 false true false false W args v W' := by
  have hW' := hW
  obtain ⟨p, q, hA0, hV, rfl, hfz, hnd⟩ := hW
  have hA : DataW.TrodAll enc Tryd.prog W 0 (fun _ => true) true Tryd.f3.params.toList args.toList ds p := hA0
  rw [Tryd.params3] at hA hval
  obtain ⟨v0, vs0, d0, ds0, p0, q0, hargs, rfl, rfl, h0, r0⟩ := trodAll_cons hA
  obtain ⟨rfl, rfl, rfl⟩ := trodAll_nil r0
  obtain rfl : args = #[v0] := by cases args; simp_all
  obtain ⟨rfl, rfl⟩ := trodVars_none hV
  obtain ⟨s0, rfl, rfl, rfl, hs0⟩ := Go.ChangeMaps.open_string Tryd.underlying9 (hval 0 9 v0 rfl rfl) h0
  clear hA0
  obtain ⟨m, hm⟩ := Tryd.laysM146.s1_3 W hsh
  obtain ⟨es, er, hE⟩ := env_of hL hm
  refine (walkRf m es er s0 W hE hs0).mono fun e W' ⟨he, hb⟩ => ?_
  subst he
  exact ⟨_, rfl, law_post laidOut hW' rfl 4 Tryd.underlying4 (by kernel_rfl) (by rw [Tryd.params3]; intro t ht; simp at ht; first | (subst ht; exact ⟨by kernel_rfl, of_decide_eq_true (by kernel_rfl)⟩) | (rcases ht with rfl | rfl <;> exact ⟨by kernel_rfl, of_decide_eq_true (by kernel_rfl)⟩) | (rcases ht with rfl | rfl | rfl <;> exact ⟨by kernel_rfl, of_decide_eq_true (by kernel_rfl)⟩) | (rcases ht with rfl | rfl | rfl | rfl <;> exact ⟨by kernel_rfl, of_decide_eq_true (by kernel_rfl)⟩)) rfl hb⟩

set_option maxRecDepth 100000 in
theorem fnExactReadFactors_lifted (os : Os) (started : os.Started) (H : Type) (enc : TypeId × Value → H) :
    ReturnsInHanded {} Tryd.checked os 3 .any (fun w args => (Rows.fnExactReadFactorsSpec.pre enc Tryd.prog Tryd.f3 [] false w args ∧ laidMetH Tryd.prog laid3 w) ∧ sizedMet enc Tryd.prog Tryd.f3 (OpenSpec.ofChange Rows.fnExactReadFactorsSpec) false w args)
      (Rows.fnExactReadFactorsSpec.post enc Tryd.prog Tryd.f3 false true false false) := by
  refine returns_and_shaped (C := Tryd.checked) (X := fun w _ => laidMetH Tryd.prog laid3 w) (fun _ _ _ hh h => h.of_heap hh) own started (by kernel_rfl) Tryd.func3
    (ChangeSpec.witness_shaped (enc := enc) (C := Tryd.checked) (os := os) (X := fun w _ => laidMetH Tryd.prog laid3 w) false (World.laidAll Tryd.prog os laid3) #[.string .empty] 8 (World.laidAll_os _ _ _) (World.shaped_of_ZipB (by kernel_rfl) (by kernel_rfl)) (by kernel_rfl) (by kernel_rfl) (by kernel_rfl) (by rw [MakeChecks.laidMetH_plain _ _ _ (by kernel_rfl)]; exact laidMet_laidAll _ (by kernel_rfl) (by kernel_rfl))) ?_
  intro W base args ds gs before hval0 hW _ _ hL _ hsh
  exact fnExactReadFactors_contract H enc W base args ds gs before hval0 hW hL hsh

theorem fnExactReadFactors_holds : Rows.FnExactReadFactorsSaid :=
  OpenClaim.holds_of_wide 3 Tryd.f3 rfl rfl rfl rfl rfl rfl rfl ⟨rfl, rfl, rfl, rfl, rfl⟩ rfl rfl rfl rfl rfl (by as_aux_lemma => kernel_rfl) Tryd.func3
    (joined_mk (by as_aux_lemma => kernel_rfl) laidOut mapsRowed' (by as_aux_lemma => kernel_rfl) (by as_aux_lemma => kernel_rfl) (by as_aux_lemma => kernel_rfl) (by as_aux_lemma => kernel_rfl) (by as_aux_lemma => kernel_rfl) (by as_aux_lemma => kernel_rfl) plainKeys' rfl heard' mayEnter' lifts' make' (by as_aux_lemma => kernel_rfl))
    (of_decide_eq_true (by kernel_rfl)) (by unfold Func.isWrapper; first | (rw [if_pos (by decide +kernel)]; kernel_rfl) | (rw [if_neg (by decide +kernel)]; exact ⟨rfl, rfl⟩))
    (fun os started H enc _ => fnExactReadFactors_lifted os started H enc)

theorem fnExactReadFactorsCard_holds : Rows.FnExactReadFactorsCardSaid :=
  Claim7.holds_tied_plain_at .later [] [.data, .data, .data, .data, .sentinel, .sentinel, .pinned] true Rows.fnExactReadFactorsCard.stood.harness true
    fnExactReadFactors_holds (fun _ h => by cases h) (by kernel_rfl) (fun _ h => by cases h) fnExactReadFactors_row_tie rfl ⟨rfl, rfl⟩ (by kernel_rfl) rfl
    (fun f fn hf hfn => by
      obtain rfl : f = 3 := Option.some.inj ((show Tryd.prog.funcNamed Rows.fnExactReadFactorsRow.func = some 3 by kernel_rfl).symm.trans hf) |>.symm
      obtain rfl : fn = Tryd.f3 := (Option.some.inj (Tryd.func3.symm.trans hfn)).symm
      exact ⟨by kernel_rfl, fun j t ht => by
        rw [Tryd.params3] at ht
        have hm : t ∈ [9] := by simpa using Array.mem_of_getElem? ht
        have hall : ([9].all fun u => !Tryd.prog.wantsStandIn u) = true := by kernel_rfl
        exact (show Tryd.prog.wantsStandIn t = false by simpa using List.all_eq_true.1 hall t hm)⟩)
    (by kernel_rfl)
end Go.Proofs.YtkkadlihlbpbiaaDoor
