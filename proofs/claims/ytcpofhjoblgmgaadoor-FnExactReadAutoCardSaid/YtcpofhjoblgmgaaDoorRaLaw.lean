
/-
  The statement FnExactReadAuto: for all texts the program's ReadAuto answers as the reference's, in memory of its own each time. Taking that the library's variables hold what the program's text lays into them (the card ties them).
-/
import Derived.Test.YtcpofhjoblgmgaaDoorAuE
import Derived.Test.YtcpofhjoblgmgaaDoorLaw
import Derived.Test.YtcpofhjoblgmgaaDoorCards
import Derived.Test.YtcpofhjoblgmgaaDoorTie
import Derived.HandedShaped
import Derived.LaidMore
import Derived.LaidLaws
import Derived.Lay
import Derived.Stop.Joined
import Derived.Stop.LaidErr
import Derived.SevenTiedAt
namespace Go.Proofs.YtcpofhjoblgmgaaDoor
open Go.ChangeShapes Go.WideShapes Go.ChangeAt Go.RowKit

theorem sumL_rows {α : Type} {m : Nat} : ∀ (l : List (List α)), (∀ x ∈ l, x.length = m) → sumL l = l.length * m
  | [], _ => by simp [sumL]
  | x :: r, h => by
    have h1 := sumL_rows r fun y hy => h y (List.mem_cons_of_mem _ hy)
    have h2 := h x List.mem_cons_self
    simp only [sumL, List.length_cons, h1, h2]
    rw [Nat.succ_mul]; omega
theorem ans_small (s : ByteArray) : (ansA (ansI s)).1.fin.length ≤ 24 ∧ (ansA (ansI s)).1.nx.length ≤ 24 ∧ sumL (ansA (ansI s)).1.nx ≤ 96 := by
  have hN : auN.fin.length ≤ 24 ∧ auN.nx.length ≤ 24 ∧ sumL auN.nx ≤ 96 := ⟨by show 0 ≤ 24; omega, by show 0 ≤ 24; omega, by show 0 ≤ 96; omega⟩
  unfold ansI
  split
  · exact hN
  · split
    · exact hN
    · rename_i a _
      split
      · rename_i h
        obtain ⟨⟨s1, s2⟩, _, _, hl, hr⟩ := au_ok h.1
        have hnl : a.nx.length ≤ 24 := by omega
        have hs := sumL_rows (m := 4) a.nx fun r hm => (hr r hm).1
        exact ⟨fin_le h.1, hnl, by show sumL a.nx ≤ 96; omega⟩
      · exact hN
set_option maxHeartbeats 4000000 in
set_option maxRecDepth 100000 in
theorem walkRa (m : Int) (es er : Value) (s : ByteArray) (w : World) (hE : EnvR m es er w) (hs : s.size ≤ maxLen) :
    Calls Tryd.prog 3 #[.string s] w (Ret (.bool true) w) := by
  have hs' := hs
  unfold maxLen at hs'
  have HE := Lib.hid (fun (W : World) (hb : Below w.heap.size w W) => hE.next hb)
  clear hE
  by_cases hbig : 1048576 < s.size
  · go_enter Tryd.func3, Tryd.ntmps3
    go_wp2_with fail
    go_ret
    exact ⟨rfl, Below.refl _ _⟩
  have hs1 : s.size ≤ 1048576 := by omega
  obtain ⟨k1, k2, k3⟩ := ans_small s
  have SP := Lib.hid (fun (W : World) => readAutoS_any s W)
  have IM := Lib.hid (fun (W : World) (h : Below w.heap.size w W) => readAutoI_any s W (HE.out W h))
  rw [← ans_same] at SP
  generalize hans : ansA (ansI s) = p at *
  obtain ⟨a, k⟩ := p
  have k1 : a.fin.length ≤ 24 := k1
  have k2 : a.nx.length ≤ 24 := k2
  have k3 : sumL a.nx ≤ 96 := k3
  have SP := Lib.hid (fun (W : World) => show Calls Tryd.prog 4 #[.string s] W (RetAu W a k) from SP.out W)
  have IM := Lib.hid (fun (W : World) (h : Below w.heap.size w W) => show Calls Tryd.prog 5 #[.string s] W (RetAu W a k) from IM.out W h)
  have HZ := Lib.hid (fun x hx => Nat.le_trans (sumL_mem a.nx x hx) (Nat.le_trans k3 (show 96 ≤ 1048576 by omega)))
  have HL := Lib.hid (show a.nx.length = a.nx.length from rfl)
  clear hans
  go_enter Tryd.func3, Tryd.ntmps3
  go_wp2_with fail
  refine (SP.out w).mono ?_
  rintro e w1 ⟨F1, f1, A1, c1, h1, rfl, own1, tab1, _, hb1⟩
  have RF1 := Lib.hid (Rd.of_own (enc := intE) (fun _ _ => rfl) rfl own1)
  have RA1 := Lib.hid (tab1.rd (fun _ => rfl))
  have b1 := Lib.hid hb1
  clear own1 tab1 hb1
  have B1 := Lib.hid (Blk.new w1 25 #[.int .i64 a.s, .int .i64 a.q, .slice F1 a.fin.length f1, .slice A1 a.nx.length c1])
  have c1_ := Lib.hid (show Below w1.heap.size w1 (w1.alloc (.cells #[.int .i64 a.s, .int .i64 a.q, .slice F1 a.fin.length f1, .slice A1 a.nx.length c1] 25)) from (Below.refl _ _).alloc (Nat.le_refl _) _)
  go_wp2_with fail
  refine (IM.out _ (b1.out.alloc b1.out.size _)).mono ?_
  rintro e w2 ⟨F2, f2, A2, c2, h2, rfl, own2, tab2, ap2, hb2⟩
  have X2 := Lib.hid (B1.out.next hb2)
  have hsz2 : w1.heap.size ≤ w2.heap.size := Nat.le_trans (show w1.heap.size ≤ (w1.alloc (.cells #[.int .i64 a.s, .int .i64 a.q, .slice F1 a.fin.length f1, .slice A1 a.nx.length c1] 25)).heap.size by simp) hb2.size
  have AP := Lib.hid (show ApartT F2 a.fin.length f2 h2 from ap2)
  have c2_ := Lib.hid (c1_.out.trans (hb2.mono c1_.out.size))
  have OW := Lib.hid own2
  have TB := Lib.hid tab2
  have g1 := Lib.hid hb2.size
  obtain ⟨x0, x1, x2, x3⟩ := X2.out.four
  have xl := X2.out.lt
  clear own2 tab2 ap2 B1 hb2 c1_
  go_wp2_with fail
  refine namedC fun w3 H3 => ?_
  have sz1 : (w1.alloc (.cells #[.int .i64 a.s, .int .i64 a.q, .slice F1 a.fin.length f1, .slice A1 a.nx.length c1] 25)).heap.size = w1.heap.size + 1 := by simp
  have e3 : w3.heap.size = w2.heap.size + 1 := by rw [H3.out]; simp
  have O3 := Lib.hid (show w3.ownsRow (w1.heap.size + 1) 2 1 (.slice F2 a.fin.length f2) a.fin.length (a.fin.flatMap intE) by rw [H3.out, ← sz1]; exact OW.out.alloc _)
  have T3 := Lib.hid (show TabR 22 2 intE w3 (w1.heap.size + 1) A2 a.nx.length c2 h2 a.nx by rw [H3.out, ← sz1]; exact TB.out.alloc _)
  have C3 := Lib.hid (show Below w1.heap.size w1 w3 by rw [H3.out]; exact c2_.out.alloc hsz2 _)
  have X3 := Lib.hid (show Blk w3 w1.heap.size 25 #[.int .i64 a.s, .int .i64 a.q, .slice F1 a.fin.length f1, .slice A1 a.nx.length c1] by rw [H3.out]; exact X2.out.alloc _)
  have Y3 := Lib.hid (show Blk w3 w2.heap.size 25 #[.int .i64 a.s, .int .i64 a.q, .slice F2 a.fin.length f2, .slice A2 a.nx.length c2] by rw [H3.out]; exact Blk.new _ _ _)
  have G3 : w1.heap.size + 1 ≤ w2.heap.size := by have := g1.out; omega
  clear H3 OW TB c2_ X2 x0 x1 x2 x3 xl g1 sz1
  have EQ := Lib.hid (fun W (h : Below w3.heap.size w3 W) => eqAuto_any a.s a.q F2 F1 a.fin.length f2 f1 a.fin A2 A1 a.nx.length c2 c1 h2 h1 a.nx W (by omega) (by omega) ((Rd.of_own (enc := intE) (fun _ _ => rfl) rfl O3.out).next h) ((RF1.out.next C3.out).next h) ((T3.out.rd (fun _ => rfl)).next h) ((RA1.out.next C3.out).next h) HZ.out)
  refine (EQ.out w3 (Below.refl _ _)).mono ?_
  rintro e w4 ⟨rfl, hb4⟩
  have O4 := Lib.hid (own_next O3.out hb4)
  have T4 := Lib.hid (T3.out.next hb4)
  have C4 := Lib.hid (C3.out.trans (hb4.mono C3.out.size))
  have X4 := Lib.hid (X3.out.next hb4)
  have Y4 := Lib.hid (Y3.out.next hb4)
  have g4 := hb4.size
  clear hb4 O3 T3 C3 X3 Y3 EQ
  obtain ⟨y0, y1, y2, y3⟩ := Y4.out.four
  have yl := Y4.out.lt
  have MA := Lib.hid (markAuto_any (w1.heap.size + 1) a.s a.q F2 a.fin.length f2 a.fin A2 a.nx.length c2 h2 a.nx 1 w4 (by omega) (by omega) (by omega) (by omega) O4.out T4.out AP.out)
  go_wp2_with fail
  refine MA.out.mono ?_
  rintro e w5 ⟨rfl, own5, tab5, hb5, kp5⟩
  have hz5 := hb5.size
  have O5 := Lib.hid own5
  have T5 := Lib.hid tab5
  have C5 := Lib.hid (C4.out.trans (hb5.mono (by omega)))
  have X5 := Lib.hid (X4.out.below hb5 (by omega))
  have Y5 := Lib.hid (kp5 _ _ _ (by decide) Y4.out)
  have e5 : 1 + a.fin.length + sumL a.nx ≤ 200 := by omega
  have HRF := Lib.hid (fun W (h : Below w5.heap.size w5 W) => (Rd.of_own (enc := intE) (fun _ _ => rfl) (marksI_len _ _) O5.out).next h)
  have HRT := Lib.hid (fun W (h : Below w5.heap.size w5 W) => (T5.out.rd (fun _ => rfl)).next h)
  have HD := Lib.hid (fun W (h : Below w5.heap.size w5 W) => heldAuto_any a.s a.q F2 a.fin.length f2 A2 a.nx.length c2 h2 a.nx 1 W (by omega) (by omega) (by omega) rfl (HRF.out W h) (HRT.out W h))
  generalize hK : 1 + a.fin.length + sumL a.nx = K at *
  have z0 : ¬ ((K : Int) < 0) := by omega
  clear own5 tab5 kp5 O4 T4 C4 X4 Y4 MA y0 y1 y2 y3 yl hb5
  obtain ⟨y0, y1, y2, y3⟩ := Y5.out.four
  have yl := Y5.out.lt
  go_wp2_with fail
  refine (HD.out w5 (Below.refl _ _)).mono ?_
  rintro e w6 ⟨rfl, hb6⟩
  have C6 := Lib.hid (C5.out.trans (hb6.mono C5.out.size))
  have D6 := Lib.hid hb6
  have X6 := Lib.hid (X5.out.next hb6)
  have Y6 := Lib.hid (Y5.out.next hb6)
  clear hb6 C5 X5 Y5 y0 y1 y2 y3 yl
  go_wp2_with fail
  refine (IM.out w6 (b1.out.trans (C6.out.mono b1.out.size))).mono ?_
  rintro e w7 ⟨F3, f3, A3, c3, h3, rfl, own7, tab7, _, hb7⟩
  have O7 := Lib.hid own7
  have T7 := Lib.hid tab7
  have C7 := Lib.hid (C6.out.trans (hb7.mono C6.out.size))
  have D7 := Lib.hid (D6.out.trans (hb7.mono D6.out.size))
  have X7 := Lib.hid (X6.out.next hb7)
  have Y7 := Lib.hid (Y6.out.next hb7)
  clear own7 tab7 hb7 C6 D6 X6 Y6
  obtain ⟨x0, x1, x2, x3⟩ := X7.out.four
  have xl := X7.out.lt
  go_wp2_with fail
  refine namedC fun w8 H8 => ?_
  have O8 := Lib.hid (show w8.ownsRow w6.heap.size 2 1 (.slice F3 a.fin.length f3) a.fin.length (a.fin.flatMap intE) by rw [H8.out]; exact O7.out.alloc _)
  have T8 := Lib.hid (show TabR 22 2 intE w8 w6.heap.size A3 a.nx.length c3 h3 a.nx by rw [H8.out]; exact T7.out.alloc _)
  have C8 := Lib.hid (show Below w1.heap.size w1 w8 by rw [H8.out]; exact C7.out.alloc C7.out.size _)
  have D8 := Lib.hid (show Below w5.heap.size w5 w8 by rw [H8.out]; exact D7.out.alloc D7.out.size _)
  have Y8 := Lib.hid (show Blk w8 w2.heap.size 25 #[.int .i64 a.s, .int .i64 a.q, .slice F2 a.fin.length f2, .slice A2 a.nx.length c2] by rw [H8.out]; exact Y7.out.alloc _)
  clear H8 O7 T7 C7 D7 X7 Y7 x0 x1 x2 x3 xl
  refine (eqAuto_any a.s a.q F3 F1 a.fin.length f3 f1 a.fin A3 A1 a.nx.length c3 c1 h3 h1 a.nx w8 (by omega) (by omega) (Rd.of_own (enc := intE) (fun _ _ => rfl) rfl O8.out) (RF1.out.next C8.out) (T8.out.rd (fun _ => rfl)) (RA1.out.next C8.out) HZ.out).mono ?_
  rintro e w9 ⟨rfl, hb9⟩
  have C9 := Lib.hid (C8.out.trans (hb9.mono C8.out.size))
  have D9 := Lib.hid (D8.out.trans (hb9.mono D8.out.size))
  have Y9 := Lib.hid (Y8.out.next hb9)
  clear hb9 C8 D8 Y8 O8 T8
  obtain ⟨y0, y1, y2, y3⟩ := Y9.out.four
  have yl := Y9.out.lt
  go_wp2_with fail
  refine (HD.out w9 D9.out).mono ?_
  rintro e w10 ⟨rfl, hb10⟩
  go_wp2_with fail
  go_ret
  exact ⟨rfl, b1.out.trans ((C9.out.trans (hb10.mono C9.out.size)).mono b1.out.size)⟩
def laid3 : List (String × DataW Unit) := Rows.fnExactReadAutoRow.laid
/-- a variable of an interface type, listed with what it holds -/
theorem laid_iface {P : Program} {n nm : String} {d : DataW Unit} {r : List (String × DataW Unit)} {W : World} {g : Nat} {ti : TypeId} {ms : Array (String × TypeId)}
    (h : laidMet P ((n, .iface nm d) :: r) W) (hg : P.globalNamed n = some g) (ht : (P.globals[g]?).map (·.type) = some ti) (hi : P.underlying ti = some (.interface ms)) :
    ∃ u v, W.cell? ⟨g, 0, none⟩ = some (.iface u v) := by
  obtain ⟨ps, ⟨g0, t0, cs0, f0, p0, q0, hg0, ht0, hv0, hd0, _, e0⟩, _, _⟩ := h
  obtain rfl := Option.some.inj (hg.symm.trans hg0)
  obtain rfl := Option.some.inj (ht.symm.trans ht0)
  obtain ⟨_, u, v, hcs, _⟩ := iface_of_trod hi hd0
  refine ⟨u, v, ?_⟩
  rw [World.var?_cell hg hv0 0]
  obtain ⟨l⟩ := cs0
  subst hcs; rfl
theorem env_of {W : World} {m : Int} (h : laidMetH Tryd.prog laid3 W) (hm : W.cell? ⟨0, 0, none⟩ = some (.int .i64 m)) : ∃ es er, EnvR m es er W := by
  rw [MakeChecks.laidMetH_plain _ _ _ (by kernel_rfl)] at h
  have h2 := laidMet.tail (laidMet.tail h)
  have hT : TabD W := Lib.tabIs_of_head (t := 105) (e := 71) (n := 20) tab_glob (by kernel_rfl) Tryd.underlying105 Tryd.underlying71 (by kernel_rfl) (by kernel_rfl) h2
  have h3 := laidMet.tail (laidMet.tail h2)
  obtain ⟨u1, v1, e1⟩ := laid_iface h3 (g := 2) (ti := 53) (by kernel_rfl) (by kernel_rfl) Tryd.underlying53
  obtain ⟨u2, v2, e2⟩ := laid_iface (laidMet.tail h3) (g := 1) (ti := 53) (by kernel_rfl) (by kernel_rfl) Tryd.underlying53
  exact ⟨_, _, ⟨hm, e2, e1, ⟨_, _, rfl⟩, ⟨_, _, rfl⟩, hT⟩⟩
/-- the kit's wrap with a condition, the world's shape kept -/
theorem returns_and_shaped {H : Type} {enc : TypeId × Value → H} {a : Assume} {C : Checked} {os : Os} {f : FuncId} {fn : Func} {s : ChangeSpec} {conds : List PathCond} {apart fresh handsOn again : Bool} {X : World → Array Value → Prop}
    (hX : ∀ (w w' : World) (args : Array Value), w.heap = w'.heap → X w args → X w' args)
    (own : ownKnob C.prog.godebug = none) (started : os.Started) (noInit : C.prog.inits.idxOf? f = none) (hfn : C.prog.funcs[f]? = some fn)
    (witness : ∃ (w : World) (tape : Tape) (i : Input), w.os = os ∧ (w.forCall tape i).Shaped C.prog ∧ i.vars = [] ∧ Input.okWide C.prog (w.forCall tape i) .any w.heap.size f i ∧
      ((s.pre enc C.prog fn conds apart (w.forCall tape i).memory i.args ∧ X (w.forCall tape i).memory i.args) ∧ sizedMet enc C.prog fn (OpenSpec.ofChange s) apart (w.forCall tape i).memory i.args) ∧ a.holds C.prog (lone (Frame.enter C.prog f i.args .normal) [] (w.forCall tape i)))
    (contract : ∀ (W : World) (base : Nat) (args : Array Value) (ds gs : List (DataW H)) (before : List MemPlace),
      (∀ (j : Nat) t v, fn.params[j]? = some t → args[j]? = some v → Value.okWide C.prog W .any base t v) →
      DataW.Whole enc C.prog fn.params.toList s.vars apart W args.toList ds gs before →
      conds.all (PathCond.test C.prog ⟨fn.params.toList, ds, s.plain.varTypes C.prog, gs⟩) = true →
      (DataW.weightsEach C.prog (fn.params.toList ++ s.plain.varTypes C.prog) (ds ++ gs)).all (· ≤ reachBytes) = true → X W args →
      a.holds C.prog (lone (Frame.enter C.prog f args .normal) [] W) → W.ShapedOpen C.prog →
      Calls C.prog f args W fun e W' => ∃ v, e = .returned v ∧ s.post enc C.prog fn apart fresh handsOn again W args v W') :
    ReturnsInHanded a C os f .any (fun w args => (s.pre enc C.prog fn conds apart w args ∧ X w args) ∧ sizedMet enc C.prog fn (OpenSpec.ofChange s) apart w args) (s.post enc C.prog fn apart fresh handsOn again) := by
  refine returnsInHanded_of_calls own started noInit witness ?_
  intro w tape i _ hsh _ hok hpre hholds
  obtain ⟨_, _, _, fn', hfn', _, _, _, _, hval⟩ := hok
  have e : fn' = fn := Option.some.inj (hfn'.symm.trans hfn)
  subst e
  obtain ⟨⟨⟨ds, gs, before, hw, hc⟩, hx⟩, hz⟩ := hpre
  have hw' := DataW.Whole.of_heap (w' := w.forCall tape i) (by rfl) hw
  refine (contract (w.forCall tape i) w.heap.size i.args ds gs before hval hw' hc (hz.weights hw) (hX _ _ _ (by rfl) hx) hholds hsh).mono fun e W' ⟨v, he, hp⟩ => ?_
  subst he
  exact ChangeSpec.post_blind hp
set_option maxRecDepth 100000 in
theorem fnExactReadAuto_contract (H : Type) (enc : TypeId × Value → H) (W : World) (base : Nat) (args : Array Value) (ds gs : List (DataW H)) (before : List MemPlace)
    (hval : ∀ (j : Nat) t v, Tryd.f3.params[j]? = some t → args[j]? = some v → Value.okWide Tryd.prog W .any base t v)
    (hW : DataW.Whole enc Tryd.prog Tryd.f3.params.toList Rows.fnExactReadAutoSpec.vars false W args.toList ds gs before) (hL : laidMetH Tryd.prog laid3 W) (hsh : W.ShapedOpen Tryd.prog) :
    Calls Tryd.prog 3 args W fun e W' => ∃ v, e = .returned v ∧ Rows.fnExactReadAutoSpec.post enc Tryd.prog Tryd.f3 false true false false W args v W' := by
  have hW' := hW
  obtain ⟨p, q, hA0, hV, rfl, hfz, hnd⟩ := hW
  have hA : DataW.TrodAll enc Tryd.prog W 0 (fun _ => true) true Tryd.f3.params.toList args.toList ds p := hA0
  rw [Tryd.params3] at hA hval
  obtain ⟨v0, vs0, d0, ds0, p0, q0, hargs, rfl, rfl, h0, r0⟩ := trodAll_cons hA
  obtain ⟨rfl, rfl, rfl⟩ := trodAll_nil r0
  obtain rfl : args = #[v0] := by cases args; simp_all
  obtain ⟨rfl, rfl⟩ := trodVars_none hV
  obtain ⟨s0, rfl, rfl, rfl, hs0⟩ := Go.ChangeMaps.open_string Tryd.underlying9 (hval 0 9 v0 rfl rfl) h0
  clear hA0
  obtain ⟨m, hm⟩ := Tryd.laysM146.s1_3 W hsh
  obtain ⟨es, er, hE⟩ := env_of hL hm
  refine (walkRa m es er s0 W hE hs0).mono fun e W' ⟨he, hb⟩ => ?_
  subst he
  exact ⟨_, rfl, law_post laidOut hW' rfl 4 Tryd.underlying4 (by kernel_rfl) (by rw [Tryd.params3]; intro t ht; simp at ht; first | (subst ht; exact ⟨by kernel_rfl, of_decide_eq_true (by kernel_rfl)⟩) | (rcases ht with rfl | rfl <;> exact ⟨by kernel_rfl, of_decide_eq_true (by kernel_rfl)⟩) | (rcases ht with rfl | rfl | rfl <;> exact ⟨by kernel_rfl, of_decide_eq_true (by kernel_rfl)⟩) | (rcases ht with rfl | rfl | rfl | rfl <;> exact ⟨by kernel_rfl, of_decide_eq_true (by kernel_rfl)⟩)) rfl hb⟩

set_option maxRecDepth 100000 in
theorem fnExactReadAuto_lifted (os : Os) (started : os.Started) (H : Type) (enc : TypeId × Value → H) :
    ReturnsInHanded {} Tryd.checked os 3 .any (fun w args => (Rows.fnExactReadAutoSpec.pre enc Tryd.prog Tryd.f3 [] false w args ∧ laidMetH Tryd.prog laid3 w) ∧ sizedMet enc Tryd.prog Tryd.f3 (OpenSpec.ofChange Rows.fnExactReadAutoSpec) false w args)
      (Rows.fnExactReadAutoSpec.post enc Tryd.prog Tryd.f3 false true false false) := by
  refine returns_and_shaped (C := Tryd.checked) (X := fun w _ => laidMetH Tryd.prog laid3 w) (fun _ _ _ hh h => h.of_heap hh) own started (by kernel_rfl) Tryd.func3
    (ChangeSpec.witness_shaped (enc := enc) (C := Tryd.checked) (os := os) (X := fun w _ => laidMetH Tryd.prog laid3 w) false (World.laidAll Tryd.prog os laid3) #[.string .empty] 8 (World.laidAll_os _ _ _) (World.shaped_of_ZipB (by kernel_rfl) (by kernel_rfl)) (by kernel_rfl) (by kernel_rfl) (by kernel_rfl) (by rw [MakeChecks.laidMetH_plain _ _ _ (by kernel_rfl)]; exact laidMet_laidAll _ (by kernel_rfl) (by kernel_rfl))) ?_
  intro W base args ds gs before hval0 hW _ _ hL _ hsh
  exact fnExactReadAuto_contract H enc W base args ds gs before hval0 hW hL hsh

theorem fnExactReadAuto_holds : Rows.FnExactReadAutoSaid :=
  OpenClaim.holds_of_wide 3 Tryd.f3 rfl rfl rfl rfl rfl rfl rfl ⟨rfl, rfl, rfl, rfl, rfl⟩ rfl rfl rfl rfl rfl (by as_aux_lemma => kernel_rfl) Tryd.func3
    (joined_mk (by as_aux_lemma => kernel_rfl) laidOut mapsRowed' (by as_aux_lemma => kernel_rfl) (by as_aux_lemma => kernel_rfl) (by as_aux_lemma => kernel_rfl) (by as_aux_lemma => kernel_rfl) (by as_aux_lemma => kernel_rfl) (by as_aux_lemma => kernel_rfl) plainKeys' rfl heard' mayEnter' lifts' make' (by as_aux_lemma => kernel_rfl))
    (of_decide_eq_true (by kernel_rfl)) (by unfold Func.isWrapper; first | (rw [if_pos (by decide +kernel)]; kernel_rfl) | (rw [if_neg (by decide +kernel)]; exact ⟨rfl, rfl⟩))
    (fun os started H enc _ => fnExactReadAuto_lifted os started H enc)

theorem fnExactReadAutoCard_holds : Rows.FnExactReadAutoCardSaid :=
  Claim7.holds_tied_plain_at .later [] [.data, .data, .data, .data, .sentinel, .sentinel, .pinned] true Rows.fnExactReadAutoCard.stood.harness true
    fnExactReadAuto_holds (fun _ h => by cases h) (by kernel_rfl) (fun _ h => by cases h) fnExactReadAuto_row_tie rfl ⟨rfl, rfl⟩ (by kernel_rfl) rfl
    (fun f fn hf hfn => by
      obtain rfl : f = 3 := Option.some.inj ((show Tryd.prog.funcNamed Rows.fnExactReadAutoRow.func = some 3 by kernel_rfl).symm.trans hf) |>.symm
      obtain rfl : fn = Tryd.f3 := (Option.some.inj (Tryd.func3.symm.trans hfn)).symm
      exact ⟨by kernel_rfl, fun j t ht => by
        rw [Tryd.params3] at ht
        have hm : t ∈ [9] := by simpa using Array.mem_of_getElem? ht
        have hall : ([9].all fun u => !Tryd.prog.wantsStandIn u) = true := by kernel_rfl
        exact (show Tryd.prog.wantsStandIn t = false by simpa using List.all_eq_true.1 hall t hm)⟩)
    (by kernel_rfl)
end Go.Proofs.YtcpofhjoblgmgaaDoor
