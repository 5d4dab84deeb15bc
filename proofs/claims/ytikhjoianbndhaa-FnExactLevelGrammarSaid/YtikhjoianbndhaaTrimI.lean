/-
  A grammar trimmed by the program.
-/
import Derived.Test.YtikhjoianbndhaaTrimO
import Derived.Test.YtikhjoianbndhaaRuleK
import Derived.Test.YtikhjoianbndhaaMarkI
import Derived.Deep.RegionHeld3
import Derived.Deep.RegionWith
import Derived.Deep.DeepCutAuto
namespace Go.Proofs.Ytikhjoianbndhaa
open Go.RowKit

theorem pair64_any (a b : Int) (w : World) (ha : -9223372036854775808 ≤ a ∧ a ≤ 9223372036854775807) (hb : -9223372036854775808 ≤ b ∧ b ≤ 9223372036854775807) : Calls Try.prog 29 #[.int .i64 a, .int .i64 b] w (Ret (Fac.val ⟨⟨#[]⟩, a, b⟩) w) := by
  have u1 : IntKind.i64.wrap a = a := IntWalk.i64_in _ (by omega)
  have u2 : IntKind.i64.wrap b = b := IntWalk.i64_in _ (by omega)
  go_enter Try.func29, Try.ntmps29
  go_wp2
  refine bodyPost_ret (v := Fac.val ⟨⟨#[]⟩, a, b⟩) (by simp [results, Try.results29, go_sem, Fac.val]; try rfl) rfl ⟨rfl, ?_⟩
  (repeat first | exact Below.refl _ _ | assumption | refine Below.drew ?_ | refine Below.alloc ?_ (by first | exact Nat.le_refl _ | (simp; done) | omega | (simp; omega)) _ | refine Below.setCell ?_ (by first | exact Nat.le_refl _ | (simp; done) | omega | (simp; omega)) _)
/-- the first round of 'trimmed' under way: what the call has made -/
structure TrW (w W : World) (A : Option Addr) (n c k : Nat) (A4 : Option Addr) (c4 k6 : Nat) (A6 : Option Addr) (c6 : Nat) (kept : List Fac) (same : List Int) (m : List (Fac × Value)) : Prop where
  r : W.ownsRow w.heap.size 44 3 (.slice A4 k c4) k (kept.flatMap Fac.cells)
  s : W.ownsRow w.heap.size 2 1 (.slice A6 k6 c6) k6 (same.flatMap intE)
  m : MapIs W (w.heap.size + 3) Fac.val m
  g : Blk W w.heap.size 24 #[.slice A n c]
  o : Blk W (w.heap.size + 1) 24 #[.slice none 0 0]
  e : Below w.heap.size w W
section
variable {w W W' : World} {A : Option Addr} {n c k k6 : Nat} {A4 : Option Addr} {c4 : Nat} {A6 : Option Addr} {c6 : Nat} {kept : List Fac} {same : List Int} {m : List (Fac × Value)}
theorem TrW.next (h : TrW w W A n c k A4 c4 k6 A6 c6 kept same m) (hb : Below W.heap.size W W') : TrW w W' A n c k A4 c4 k6 A6 c6 kept same m :=
  ⟨own_next h.r hb, own_next h.s hb, h.m.next hb, h.g.next hb, h.o.next hb, h.e.trans (hb.mono h.e.size)⟩
theorem TrW.alloc (h : TrW w W A n c k A4 c4 k6 A6 c6 kept same m) (o : Obj) : TrW w (W.alloc o) A n c k A4 c4 k6 A6 c6 kept same m := h.next ((Below.refl _ _).alloc (Nat.le_refl _) _)
theorem TrW.drew (h : TrW w W A n c k A4 c4 k6 A6 c6 kept same m) : TrW w W.drew A n c k A4 c4 k6 A6 c6 kept same m := h.next (Below.refl _ _).drew
/-- all that the call has made so far lies below a block that it makes next -/
theorem TrW.bnd (h : TrW w W A n c k A4 c4 k6 A6 c6 kept same m) : (∀ q, (Value.slice A4 k c4).ownBlock = some q → q < W.heap.size) ∧ (∀ q, (Value.slice A6 k6 c6).ownBlock = some q → q < W.heap.size) ∧ w.heap.size + 3 < W.heap.size :=
  ⟨fun q hq => (h.r.lt q hq).2, fun q hq => (h.s.lt q hq).2, h.m.lt⟩
/-- an entry put into the map -/
theorem TrW.put {m' : List (Fac × Value)} (h : TrW w W A n c k A4 c4 k6 A6 c6 kept same m) (hm : MapIs W' (w.heap.size + 3) Fac.val m') (hg : W.grownBy W' (some (w.heap.size + 3))) (hb : Below w.heap.size w W') : TrW w W' A n c k A4 c4 k6 A6 c6 kept same m' :=
  have ne : ∀ {e sz n : Nat} {v : Value} {xs : List Value}, W.ownsRow w.heap.size e sz v n xs → v.ownBlock = none ∨ v.ownBlock ≠ some (w.heap.size + 3) := fun ho => by
    have := h.m.ne_own ho
    exact .inr fun e => this e.symm
  ⟨h.r.kept hg (ne h.r), h.s.kept hg (ne h.s), hm, h.g.grown hg (by intro e; injection e with e; omega), h.o.grown hg (by intro e; injection e with e; omega), hb⟩
/-- one rule more -/
theorem TrW.pushR {A8 : Option Addr} {k8 c8 : Nat} {kept' : List Fac} (h : TrW w W A n c k A4 c4 k6 A6 c6 kept same m) (ho : W'.ownsRow w.heap.size 44 3 (.slice A8 k8 c8) k8 (kept'.flatMap Fac.cells)) (hg : W.grownBy W' (Value.slice A4 k c4).ownBlock) :
    TrW w W' A n c k8 A8 c8 k6 A6 c6 kept' same m :=
  ⟨ho, h.s.kept hg (own_ne h.s h.r (by decide)), h.m.grown hg (h.m.ne_own h.r), h.g.grown hg (own_blk_ne h.r h.g (by decide)), h.o.grown hg (own_blk_ne h.r h.o (by decide)), h.e.grown hg h.e.size (own_ge h.r)⟩
/-- one number more -/
theorem TrW.pushS {A8 : Option Addr} {k8 c8 : Nat} {same' : List Int} (h : TrW w W A n c k A4 c4 k6 A6 c6 kept same m) (ho : W'.ownsRow w.heap.size 2 1 (.slice A8 k8 c8) k8 (same'.flatMap intE)) (hg : W.grownBy W' (Value.slice A6 k6 c6).ownBlock) :
    TrW w W' A n c k A4 c4 k8 A8 c8 kept same' m :=
  ⟨h.r.kept hg (own_ne h.r h.s (by decide)), ho, h.m.grown hg (h.m.ne_own h.s), h.g.grown hg (own_blk_ne h.s h.g (by decide)), h.o.grown hg (own_blk_ne h.s h.o (by decide)), h.e.grown hg h.e.size (own_ge h.s)⟩
/-- three cells of a block of another kind put -/
theorem TrW.box3 {B : Nat} (h : TrW w W A n c k A4 c4 k6 A6 c6 kept same m) (hB : w.heap.size ≤ B) (hb : (∀ q, (Value.slice A4 k c4).ownBlock = some q → q < B) ∧ (∀ q, (Value.slice A6 k6 c6).ownBlock = some q → q < B) ∧ w.heap.size + 3 < B) (x y z : Value) :
    TrW w (((W.setCell ⟨B, 0, none⟩ x).setCell ⟨B, 1, none⟩ y).setCell ⟨B, 2, none⟩ z) A n c k A4 c4 k6 A6 c6 kept same m := by
  obtain ⟨h4, h6, hm⟩ := hb
  have hg : W.grownBy (((W.setCell ⟨B, 0, none⟩ x).setCell ⟨B, 1, none⟩ y).setCell ⟨B, 2, none⟩ z) (some B) := gb_setCell (gb_setCell (gb_set W B 0 x) 1 y) 2 z
  have ne : ∀ (v : Value), (∀ q, v.ownBlock = some q → q < B) → v.ownBlock = none ∨ v.ownBlock ≠ some B := fun v hv => by
    cases hq : v.ownBlock with
    | none => exact .inl rfl
    | some q => exact .inr fun e => by have := hv q hq; injection e with e; omega
  exact ⟨h.r.kept hg (ne _ h4), h.s.kept hg (ne _ h6), h.m.grown hg (by intro e; injection e with e; omega), h.g.grown hg (by intro e; injection e with e; omega), h.o.grown hg (by intro e; injection e with e; omega),
    h.e.grown hg h.e.size (fun q hq => by injection hq with hq; omega)⟩
/-- a cell of a block made later put -/
theorem TrW.set1 {B : Nat} (h : TrW w W A n c k A4 c4 k6 A6 c6 kept same m) (hB : w.heap.size ≤ B) (hb : (∀ q, (Value.slice A4 k c4).ownBlock = some q → q < B) ∧ (∀ q, (Value.slice A6 k6 c6).ownBlock = some q → q < B) ∧ w.heap.size + 3 < B) (i : Nat) (x : Value) :
    TrW w (W.setCell ⟨B, i, none⟩ x) A n c k A4 c4 k6 A6 c6 kept same m := by
  obtain ⟨h4, h6, hm⟩ := hb
  have hg : W.grownBy (W.setCell ⟨B, i, none⟩ x) (some B) := gb_set W B i x
  have ne : ∀ (v : Value), (∀ q, v.ownBlock = some q → q < B) → v.ownBlock = none ∨ v.ownBlock ≠ some B := fun v hv => by
    cases hq : v.ownBlock with
    | none => exact .inl rfl
    | some q => exact .inr fun e => by have := hv q hq; injection e with e; omega
  exact ⟨h.r.kept hg (ne _ h4), h.s.kept hg (ne _ h6), h.m.grown hg (by intro e; injection e with e; omega), h.g.grown hg (by intro e; injection e with e; omega), h.o.grown hg (by intro e; injection e with e; omega),
    h.e.grown hg h.e.size (fun q hq => by injection hq with hq; omega)⟩
end
set_option maxHeartbeats 4000000 in
set_option maxRecDepth 100000 in
theorem trimmed_any (A : Option Addr) (n c : Nat) (rs : List Fac) (w : World) (hn : n ≤ 1048576) (hr : Rd w w.heap.size A n 3 Fac.cells rs) (hwf : WF rs) :
    Calls Try.prog 53 #[.agg #[.slice A n c]] w (RetG w (trimL rs)) := by
  have hl := Lib.hid hr.len
  have HR := Lib.hid hr; clear hr
  have HWF := Lib.hid hwf; clear hwf
  rcases Nat.eq_zero_or_pos n with hn0 | hn0
  · subst hn0
    have ev := Lib.hid (show trimL rs = [] by unfold trimL; rw [if_pos hl.out])
    go_enter Try.func53, Try.ntmps53
    go_wp2_with fail
    refine bodyPost_ret (v := .agg #[.slice none 0 0]) (by simp [results, Try.results53, go_sem]) rfl ⟨none, 0, by rw [ev.out]; rfl, ?_, ?_⟩
    · rw [ev.out]; exact World.ownsRow_nil _ _ _ _
    · (repeat first | exact Below.refl _ _ | assumption | refine Below.drew ?_ | refine Below.alloc ?_ (by first | exact Nat.le_refl _ | (simp; done) | omega | (simp; omega)) _ | refine Below.setCell ?_ (by first | exact Nat.le_refl _ | (simp; done) | omega | (simp; omega)) _)
  have hn0' : ((n : Int) == 0) = false := by simp; omega
  have hmm := @run_makeMap Try.prog
  go_enter Try.func53, Try.ntmps53
  go_wp2_with fail
  refine named fun w0 H0 => ?_
  have T0 : TrW w w0 A n c 0 (some ⟨w.heap.size + 1 + 1, 0, none⟩) 0 0 (some ⟨w.heap.size + 1 + 1 + 1 + 1, 0, none⟩) 0 [] [] [] := by
    rw [H0.out]
    refine ⟨?_, ?_, ?_, ?_, ?_, by (repeat first | exact Below.refl _ _ | assumption | refine Below.drew ?_ | refine Below.alloc ?_ (by first | exact Nat.le_refl _ | (simp; done) | omega | (simp; omega)) _ | refine Below.setCell ?_ (by first | exact Nat.le_refl _ | (simp; done) | omega | (simp; omega)) _)⟩
    · have h := World.ownsRow_made (base := w.heap.size) (e := 44) (size := 3) ((w.alloc (.cells #[.slice A n c] 24)).alloc (.cells #[.slice none 0 0] 24)) #[] 0 (by simp; omega) (by unfold maxLen; omega) rfl
      simpa using (h.alloc _).alloc _
    · have h := World.ownsRow_made (base := w.heap.size) (e := 2) (size := 1) ((((w.alloc (.cells #[.slice A n c] 24)).alloc (.cells #[.slice none 0 0] 24)).alloc (.cells #[] 44)).alloc (.map #[] 0)) #[] 0 (by simp; omega) (by unfold maxLen; omega) rfl
      simpa using h
    · have h := MapIs.made (((w.alloc (.cells #[.slice A n c] 24)).alloc (.cells #[.slice none 0 0] 24)).alloc (.cells #[] 44)) Fac.val
      simpa using h.alloc _
    · exact ((((Blk.new w _ _).alloc _).alloc _).alloc _).alloc _
    · simpa using (((Blk.new (w.alloc _) _ _).alloc _).alloc _).alloc _
  have T0' := Lib.hid T0
  clear T0 H0 hmm hn0'
  have zr := Try.prog
  clear zr
  go_loopw [4, 6, 30] (fun r_ s_ i_ w' => ∃ (k : Nat) (A4 : Option Addr) (c4 : Nat) (A6 : Option Addr) (c6 : Nat) (kept : List Fac) (same : List Int) (m : List (Fac × Value)), i_ = .int .i64 k ∧ r_ = .slice A4 k c4 ∧ s_ = .slice A6 k c6 ∧ k ≤ n ∧ Hid (TrW w w' A n c k A4 c4 k A6 c6 kept same m) ∧
      Hid (∀ f, mget f m = if f ∈ kept then some (.int .i64 ((kept.idxOf f : Nat) : Int)) else none) ∧ Hid (TrI kept same) ∧ Hid (kept.length = k) ∧ Hid (trK (rs.drop k) kept same = trK rs [] [])) (fun _ _ i_ _ => n - (intOf i_).toNat)
  case atStart => exact ⟨0, _, 0, _, 0, [], [], [], rfl, rfl, rfl, by omega, T0', Lib.hid (fun f => rfl), Lib.hid TrI.nil, Lib.hid rfl, Lib.hid rfl⟩
  case round =>
    obtain ⟨k, A4, c4, A6, c6, kept, same, m, rfl, rfl, rfl, hk, TR, HM, HI, hkl, HK⟩ := hrel
    by_cases hlt : k < n
    · obtain ⟨b, o, x, rfl, hB, gx, c0, c1, c2⟩ := (HR.out.below TR.out.e).fac hlt
      have hBr : b < wr.heap.size := by have := TR.out.e.size; omega
      have Hstep := Lib.hid (trK_take rs gx HK.out)
      have HI2 := Lib.hid (HI.out.step HWF.out (by rw [hkl.out]; exact gx))
      have hsl := Lib.hid (HI.out.len.trans hkl.out)
      have Gx := Lib.hid gx
      clear gx
      obtain ⟨pb, hpb⟩ : ∃ pb, isP x = pb := ⟨_, rfl⟩
      have Hpb := Lib.hid hpb; clear hpb
      go_upto_if 36 with (go_at_call 49; refine (isPair_any x pb _ Hpb.out).mono ?_; rintro e w1 ⟨rfl, hb1'⟩)
      have b1 : Below wr.heap.size wr w1 := ((Below.refl wr.heap.size wr).alloc (Nat.le_refl _) _).trans (hb1'.mono (by simp))
      have TR1 := Lib.hid (TR.out.next b1)
      have BX1 := Lib.hid ((Blk.new wr 44 #[.string x.l, .int .i64 x.a, .int .i64 x.b]).next hb1')
      have zb := b1.size
      go_cut [] (fun wx => Hid (TrW w wx (some ⟨b, o, none⟩) n c k A4 c4 k A6 c6 kept same m) ∧ Hid (Blk wx wr.heap.size 44 #[.string (trR same x).l, .int .i64 (trR same x).a, .int .i64 (trR same x).b]))
      case first =>
        rcases HWF.out k x Gx.out with ⟨h0, ha0, ha1, hb0, hb1⟩ | ⟨cc, hcc, hxl, hxa, hxb⟩
        · obtain rfl : true = pb := by rw [← Hpb.out]; simp [isP, h0]
          have Hy := Lib.hid (show trR same x = ⟨⟨#[]⟩, same.getD x.a.toNat 0, same.getD x.b.toNat 0⟩ by unfold trR; rw [if_pos h0])
          have s1 := HI.out.s x.a.toNat (by have := hkl.out; omega)
          have s2 := HI.out.s x.b.toNat (by have := hkl.out; omega)
          obtain ⟨g6, cp6, hv6, hg60, hg61⟩ := TR1.out.s.form (by omega)
          obtain rfl : A6 = some ⟨g6, 0, none⟩ := by injection hv6
          have va : w1.cell? ⟨g6, x.a.toNat, none⟩ = some (.int .i64 (same.getD x.a.toNat 0)) := by
            have := own_at (sz := 1) (enc := intE) (fun _ _ => rfl) TR1.out.s hsl.out 0 x.a.toNat (by omega) 0 (by omega)
            rw [Nat.mul_one, Nat.add_zero] at this; exact this
          have vb : w1.cell? ⟨g6, x.b.toNat, none⟩ = some (.int .i64 (same.getD x.b.toNat 0)) := by
            have := own_at (sz := 1) (enc := intE) (fun _ _ => rfl) TR1.out.s hsl.out 0 x.b.toNat (by omega) 0 (by omega)
            rw [Nat.mul_one, Nat.add_zero] at this; exact this
          generalize same.getD x.a.toNat 0 = sa at *
          generalize same.getD x.b.toNat 0 = sb at *
          obtain ⟨d0, d1, d2⟩ := BX1.out.three
          have lx := BX1.out.lt
          have i1 : x.a < (k : Int) := ha1
          have i2 : x.b < (k : Int) := hb1
          clear hv6
          go_wp2_with fail
          go_region_with
            (first
              | (go_at_call 29
                 refine (pair64_any sa sb w1.drew (by omega) (by omega)).mono ?_
                 rintro e wm ⟨rfl, hbm⟩
                 have bm : Below w1.heap.size w1 wm := (Below.refl _ _).drew.trans hbm
                 have BXm := Lib.hid (BX1.out.next bm)
                 have fm := BXm.out.frozen
                 have lm := BXm.out.lt
                 obtain ⟨m0, m1, m2⟩ := BXm.out.three)
              | fail)
          all_goals
            go_wp2_with fail
            go_meet
            have BY := ((BXm.out.set_ 0 (.string .empty)).set_ 1 (.int .i64 sa)).set_ 2 (.int .i64 sb)
            have TRm := TR1.out.next bm
            have nb : ∀ q, q < wr.heap.size → q ≠ wr.heap.size := fun q hq => by omega
            refine ⟨Lib.hid (TrW.box3 TRm (by have := TR.out.e.size; omega) (TR.out.bnd) _ _ _), Lib.hid ?_⟩
            rw [Hy.out]; exact BY
        · obtain rfl : false = pb := by rw [← Hpb.out]; unfold isP; rw [hxl]; rfl
          have Hy := Lib.hid (show trR same x = x by unfold trR; rw [if_neg (by rw [hxl]; show (1 : Nat) ≠ 0; omega)])
          go_wp2_with fail
          go_meet
          exact ⟨TR1, by rw [Hy.out]; exact BX1⟩
      case rest =>
        obtain ⟨TR2, BX2⟩ := hcut
        have zmap := Lib.hid (show w.heap.size + 3 < wr.heap.size from TR.out.bnd.2.2)
        have nbR := Lib.hid (show some wr.heap.size ≠ (Value.slice A4 k c4).ownBlock from fun e => by have := TR.out.bnd.1 _ e.symm; omega)
        have nbS := Lib.hid (show some wr.heap.size ≠ (Value.slice A6 k c6).ownBlock from fun e => by have := TR.out.bnd.2.1 _ e.symm; omega)
        clear TR TR1 BX1 Hpb hb1' b1 c0 c1 c2
        generalize trR same x = y at *
        have hyk : k = kept.length := hkl.out.symm
        have Hyk := Lib.hid hyk; clear hyk
        obtain ⟨d0, d1, d2⟩ := BX2.out.three
        have lx := BX2.out.lt
        obtain ⟨kn, hkn⟩ : ∃ kn, (mget y m).isSome = kn := ⟨_, rfl⟩
        obtain ⟨vv, hvv⟩ : ∃ vv, (mget y m).getD (.int .i64 0) = vv := ⟨_, rfl⟩
        have Hkn := Lib.hid hkn
        clear hkn
        go_upto_if 55 with (at_lookup; refine wpList_lookOk rfl _ _ rfl rule_key Try.underlying81 (zero_i64 _) rfl y rfl TR2.out.m ?_; rw [Hkn.out, hvv])
        go_cut [] (fun wx => ∃ m', Hid (TrW w wx (some ⟨b, o, none⟩) n c k A4 c4 k A6 c6 kept same m') ∧ Hid (∀ f, mget f m' = if f ∈ kept ++ [y] then some (.int .i64 (((kept ++ [y]).idxOf f : Nat) : Int)) else none) ∧ Hid (Blk wx wr.heap.size 44 #[.string y.l, .int .i64 y.a, .int .i64 y.b]))
        case first =>
          by_cases hmem : y ∈ kept
          · obtain rfl : true = kn := by rw [← Hkn.out, HM.out, if_pos hmem]; rfl
            go_wp2_with fail
            go_meet
            exact ⟨m, TR2, Lib.hid (map_known HM.out hmem), BX2⟩
          · obtain rfl : false = kn := by rw [← Hkn.out, HM.out, if_neg hmem]; rfl
            go_wp2_with
              (at_mapUpdate
               refine wpList_put (w0 := w) rfl _ _ _ rfl rule_key Try.underlying81 rfl y (.int .i64 (k : Int)) rfl rfl TR2.out.m w.heap.size rfl (by omega) TR2.out.e ?_
               intro w7 hm7 hg7 hb7
               have HM7 := Lib.hid hm7
               have HG7 := Lib.hid hg7
               have HB7 := Lib.hid hb7
               clear hm7 hg7 hb7)
            go_meet
            refine ⟨_, Lib.hid (TrW.put TR2.out HM7.out HG7.out HB7.out), Lib.hid (fun f => ?_), Lib.hid (BX2.out.grown HG7.out (by intro e; injection e with e; have := zmap.out; omega))⟩
            rw [mget_mput, Hyk.out]
            exact map_new HM.out hmem f
        case rest =>
          obtain ⟨m', TR3, HM3, BX3⟩ := hcut
          have hv' := HM3.out y
          rw [if_pos (by simp), idx_app2] at hv'
          have hgk : k ≤ 1048576 := by omega
          have hvb : kept.idxOf y ≤ k := by have := List.idxOf_le_length (a := y) (l := kept); have := hkl.out; omega
          generalize hvz : ((kept.idxOf y : Nat) : Int) = v at *
          have T0 := Lib.hid (TR3.out.drew)
          have T1 := Lib.hid ((TR3.out.alloc (.cells #[.string y.l, .int .i64 y.a, .int .i64 y.b] 44)).drew)
          have T2 := Lib.hid (((TR3.out.alloc (.cells #[.string y.l, .int .i64 y.a, .int .i64 y.b] 44)).alloc (.cells #[.int .i64 v] 2)).drew)
          have T3 := Lib.hid (((TR3.out.alloc (.cells #[.int .i64 v] 2)).alloc (.cells #[.string y.l, .int .i64 y.a, .int .i64 y.b] 44)).drew)
          have T4 := Lib.hid ((TR3.out.alloc (.cells #[.int .i64 v] 2)).drew)
          have lk := fun (W : World) (h : MapIs W (w.heap.size + 3) Fac.val m') => show (Instr.lookup 81 (.map (some (w.heap.size + 1 + 1 + 1))) (.agg #[.string y.l, .int .i64 y.a, .int .i64 y.b]) false).run Try.prog W = .ok (.int .i64 v) W by
            have := h.look rule_key Try.underlying81 (zero_i64 W) y
            rw [hv'] at this
            exact this
          have LK := Lib.hid lk
          have l0 := lk _ T0.out.m
          have l1 := lk _ T1.out.m
          clear lk hv'
          obtain ⟨d0, d1, d2⟩ := BX3.out.three
          have lx := BX3.out.lt
          have X1 := Lib.hid ((BX3.out.alloc (.cells #[.string y.l, .int .i64 y.a, .int .i64 y.b] 44)).drew)
          have X2 := Lib.hid (((BX3.out.alloc (.cells #[.string y.l, .int .i64 y.a, .int .i64 y.b] 44)).alloc (.cells #[.int .i64 v] 2)).drew)
          have X3 := Lib.hid (((BX3.out.alloc (.cells #[.int .i64 v] 2)).alloc (.cells #[.string y.l, .int .i64 y.a, .int .i64 y.b] 44)).drew)
          have X4 := Lib.hid ((BX3.out.alloc (.cells #[.int .i64 v] 2)).drew)
          have P2R := Lib.hid (((Blk.new wc 44 #[.string y.l, .int .i64 y.a, .int .i64 y.b]).alloc (.cells #[.int .i64 v] 2)).drew)
          have P3S := Lib.hid (((Blk.new wc 2 #[.int .i64 v]).alloc (.cells #[.string y.l, .int .i64 y.a, .int .i64 y.b] 44)).drew)
          have P2S := Lib.hid (show Blk ((wc.alloc (.cells #[.string y.l, .int .i64 y.a, .int .i64 y.b] 44)).alloc (.cells #[.int .i64 v] 2)).drew (wc.heap.size + 1) 2 #[.int .i64 v] by
            have h := Blk.new (wc.alloc (.cells #[.string y.l, .int .i64 y.a, .int .i64 y.b] 44)) 2 #[.int .i64 v]
            rw [show (wc.alloc (.cells #[.string y.l, .int .i64 y.a, .int .i64 y.b] 44)).heap.size = wc.heap.size + 1 by simp] at h; exact h.drew)
          have P3R := Lib.hid (show Blk ((wc.alloc (.cells #[.int .i64 v] 2)).alloc (.cells #[.string y.l, .int .i64 y.a, .int .i64 y.b] 44)).drew (wc.heap.size + 1) 44 #[.string y.l, .int .i64 y.a, .int .i64 y.b] by
            have h := Blk.new (wc.alloc (.cells #[.int .i64 v] 2)) 44 #[.string y.l, .int .i64 y.a, .int .i64 y.b]
            rw [show (wc.alloc (.cells #[.int .i64 v] 2)).heap.size = wc.heap.size + 1 by simp] at h; exact h.drew)
          have zk : (k + 1) * 32 ≤ 140737488355328 := by omega
          have zk8 : (k + 1) * 8 ≤ 140737488355328 := by omega
          have zkm : k + 1 ≤ maxLen := by unfold maxLen; omega
          go_wp2_with fail
          go_region_law
            (first
              | (refine step_push (by rfl) _ _ _ (by rfl) w.heap.size 44 3 32 elem_rule Fac.cells A4 k c4 kept (by rfl) (by with_reducible first | exact T1.out.r | exact T2.out.r | exact T3.out.r | exact (tS.alloc _).r | exact tS.r) _ y #[.string y.l, .int .i64 y.a, .int .i64 y.b] 44 (0, 0) (by rfl) (by first | exact heap_alloc_new _ _ | exact P2R.out | exact P3R.out | exact bR) rfl rfl (one_fac _) (by omega) zk zkm (by with_reducible first | exact T1.out.e.size | exact T2.out.e.size | exact T3.out.e.size | exact (tS.alloc _).e.size | exact tS.e.size) ?_
                 intro A8 c8 w8 own8 hg8 old8
                 with_reducible first
                   | (have tR := T1.out.pushR own8 hg8
                      have xx := X1.out.grown hg8 nbR.out)
                   | (have tR := T2.out.pushR own8 hg8
                      have xx := X2.out.grown hg8 nbR.out
                      have bS := P2S.out.grown hg8 (own_blk_ne T2.out.r P2S.out (by decide)))
                   | (have tR := T3.out.pushR own8 hg8
                      have xx := X3.out.grown hg8 nbR.out
                      have bS := P3S.out.grown hg8 (own_blk_ne T3.out.r P3S.out (by decide)))
                   | have tRS := (tS.alloc _).pushR own8 hg8
                   | have tRS := tS.pushR own8 hg8
                 try
                   (have l8 := LK.out _ tR.m
                    obtain ⟨e0, e1, e2⟩ := xx.three
                    have le := xx.lt))
              | (refine step_push (by rfl) _ _ _ (by rfl) w.heap.size 2 1 8 elem_int intE A6 k c6 same (by rfl) (by with_reducible first | exact T4.out.s | exact T2.out.s | exact T3.out.s | exact (tR.alloc _).s | exact tR.s) _ v #[.int .i64 v] 2 (0, 0) (by rfl) (by first | exact heap_alloc_new _ _ | exact P2S.out | exact P3S.out | exact bS) rfl rfl (by simp [intE, Value.oneCell']) (by omega) zk8 zkm (by with_reducible first | exact T4.out.e.size | exact T2.out.e.size | exact T3.out.e.size | exact (tR.alloc _).e.size | exact tR.e.size) ?_
                 intro A9 c9 w9 own9 hg9 old9
                 with_reducible first
                   | (have tS := T4.out.pushS own9 hg9
                      have xx := X4.out.grown hg9 nbS.out)
                   | (have tS := T2.out.pushS own9 hg9
                      have xx := X2.out.grown hg9 nbS.out
                      have bR := P2R.out.grown hg9 (own_blk_ne T2.out.s P2R.out (by decide)))
                   | (have tS := T3.out.pushS own9 hg9
                      have xx := X3.out.grown hg9 nbS.out
                      have bR := P3R.out.grown hg9 (own_blk_ne T3.out.s P3R.out (by decide)))
                   | have tRS := (tR.alloc _).pushS own9 hg9
                   | have tRS := tR.pushS own9 hg9
                 try
                   (obtain ⟨e0, e1, e2⟩ := xx.three
                    have le := xx.lt)))
          all_goals
            go_wp2_with fail
            go_roundw
            case rel =>
              refine ⟨k + 1, _, _, _, _, kept ++ [y], same ++ [v], m', by go_num, rfl, rfl, by omega, Lib.hid tRS, HM3, HI2, Lib.hid (by rw [List.length_append, hkl.out]; rfl), Hstep⟩
            case measure => simp [intOf]; omega
    · obtain rfl : k = n := by omega
      have HA := Lib.hid (trK_all (by rw [hl.out]; omega) HK.out)
      have hI := HI.out
      have sv := hI.s (k - 1) (by have := hkl.out; omega)
      obtain ⟨g6, cp6, hv6, hg60, hg61⟩ := TR.out.s.form (by omega)
      obtain rfl : A6 = some ⟨g6, 0, none⟩ := by injection hv6
      have cs : wr.cell? ⟨g6, k - 1, none⟩ = some (.int .i64 (same.getD (k - 1) 0)) := by
        have := own_at (sz := 1) (enc := intE) (fun _ _ => rfl) TR.out.s (hI.len.trans hkl.out) 0 (k - 1) (by omega) 0 (by omega)
        rw [Nat.mul_one, Nat.add_zero] at this; exact this
      have Hu0 := Lib.hid (show use0 k same = (List.replicate k false).set (same.getD (k - 1) 0).toNat true from rfl)
      generalize same.getD (k - 1) 0 = z at *
      obtain ⟨z0, z1⟩ := sv
      have u1 : IntKind.i64.wrap ((k : Int) - 1) = (k : Int) - 1 := IntWalk.i64_in _ (by omega)
      have z2 : z < (k : Int) := by omega
      have j0 : (0 : Int) ≤ (k : Int) - 1 := by omega
      have j1 : (k : Int) - 1 < (k : Int) := by omega
      have jn : ((k : Int) - 1).toNat = k - 1 := by omega
      have mkB := fun W => makeB k W (by omega)
      have bz := boolA_at (List.replicate k false) (i := z.toNat) (by rw [List.length_replicate]; omega)
      have zk : z.toNat < k := by omega
      clear hv6 hI
      go_wp2_with fail
      refine named fun w2 H2 => ?_
      obtain ⟨g4, cp4, hv4, hg40, hg41⟩ := TR.out.r.form (by omega)
      obtain rfl : A4 = some ⟨g4, 0, none⟩ := by injection hv4
      have TU := Lib.hid (show TrW w w2 A k c k (some ⟨g4, 0, none⟩) c4 k (some ⟨g6, 0, none⟩) c6 kept same m by rw [H2.out]; exact TR.out.alloc _)
      have BU := Lib.hid (show Blk w2 wr.heap.size 4 (boolA (use0 k same)) by rw [H2.out, Hu0.out, ← boolA_set]; exact Blk.new _ _ _)
      have hbd := Lib.hid TR.out.bnd
      have hU : w.heap.size ≤ wr.heap.size := TR.out.e.size
      have hlu : (use0 k same).length = k := by rw [Hu0.out]; simp
      clear H2 HK Hu0 mkB bz cs TR hv4
      generalize wr.heap.size = U at *
      have HI' := HI
      go_loopw [12] (fun j_ w' => ∃ (j : Nat) (u : List Bool) (y : Int), j_ = .int .i64 y ∧ y + 1 = (j : Int) ∧ j ≤ k ∧ Hid (TrW w w' A k c k (some ⟨g4, 0, none⟩) c4 k (some ⟨g6, 0, none⟩) c6 kept same m) ∧ Hid (Blk w' U 4 (boolA u)) ∧ Hid (u.length = k) ∧
        Hid (useT kept j u = useT kept k (use0 k same))) (fun j_ _ => (intOf j_ + 1).toNat)
      case atStart => exact ⟨k, _, _, rfl, by omega, Nat.le_refl _, TU, BU, Lib.hid hlu, Lib.hid rfl⟩
      case round =>
        obtain ⟨j, u, y, rfl, hy, hj, T2, B2, hu, HU⟩ := hrel
        rcases j with _ | i
        · obtain rfl : y = -1 := by omega
          go_wp2_with fail
          have mkN := fun W => makeN k W (by omega)
          have e := HU.out
          rw [show useT kept 0 u = u from rfl] at e
          have HU2 := Lib.hid e
          clear e HU hy hj
          go_cut [14, 15] (fun p_ s_ wx => ∃ (B V X : Nat), p_ = .pointer (some ⟨B, 0, none⟩) ∧ s_ = .slice (some ⟨V, 0, none⟩) k k ∧ Hid (OutW (w.heap.size + 1) w wx (some ⟨g4, 0, none⟩) c4 k kept X U u V (List.replicate k 0) B none 0 0 []))
          case first =>
            go_region
            all_goals
              go_wp2_with fail
              go_meet
              have lo := T2.out.o.lt
              have lu := B2.out.lt
              have n6 : ∀ q, (Value.slice (some ⟨g4, 0, none⟩) k c4).ownBlock = some q → q < wr.heap.size := fun q hq => by have := hbd.out.1 q hq; omega
              first
                | (refine ⟨wr.heap.size + 1, wr.heap.size, wr.heap.size + 2, rfl, rfl, Lib.hid ?_⟩
                   have hb : Below wr.heap.size wr ((wr.alloc (.cells (intA (List.replicate k 0)) 2)).alloc (.cells #[.slice none 0 0] 24)).drew := (((Below.refl _ _).alloc (Nat.le_refl _) _).alloc (by simp) _).drew
                   have T5 := T2.out.next hb
                   refine ⟨T5.r, B2.out.next hb, ((Blk.new wr _ _).alloc _).drew, ?_, T5.o, World.ownsRow_nil _ _ _ _, T5.e, by omega, by omega, by omega, by omega, by omega, by simp, fun q hq => by have := n6 q hq; omega⟩
                   have h := Blk.new (wr.alloc (.cells (intA (List.replicate k 0)) 2)) 24 #[.slice none 0 0]
                   rw [show (wr.alloc (.cells (intA (List.replicate k 0)) 2)).heap.size = wr.heap.size + 1 by simp] at h
                   exact h.drew)
                | (refine ⟨wr.heap.size, wr.heap.size + 1, wr.heap.size + 2, rfl, rfl, Lib.hid ?_⟩
                   have hb : Below wr.heap.size wr ((wr.alloc (.cells #[.slice none 0 0] 24)).alloc (.cells (intA (List.replicate k 0)) 2)).drew := (((Below.refl _ _).alloc (Nat.le_refl _) _).alloc (by simp) _).drew
                   have T5 := T2.out.next hb
                   refine ⟨T5.r, B2.out.next hb, ?_, ((Blk.new wr _ _).alloc _).drew, T5.o, World.ownsRow_nil _ _ _ _, T5.e, by omega, by omega, by omega, by omega, by omega, by simp, fun q hq => by have := n6 q hq; omega⟩
                   have h := Blk.new (wr.alloc (.cells #[.slice none 0 0] 24)) 2 (intA (List.replicate k 0))
                   rw [show (wr.alloc (.cells #[.slice none 0 0] 24)).heap.size = wr.heap.size + 1 by simp] at h
                   exact h.drew)
          case rest =>
            obtain ⟨B, V, X, rfl, rfl, O0⟩ := hcut
            have hul := hu.out
            clear T2 B2 hu mkN TU BU hlu
            have key := Lib.hid (show trimL rs = outT u 0 kept [] (List.replicate k 0) by
              unfold trimL
              rw [← HA.out, hl.out, if_neg (by omega), ← HU2.out])
            have ulen := Lib.hid hul
            clear hul HU2 HA
            go_wp2_with fail
            refine named fun w4 H4 => ?_
            have O1 := Lib.hid (show OutW (w.heap.size + 1) w w4 (some ⟨g4, 0, none⟩) c4 k kept X U u V (List.replicate k 0) B none 0 0 [] by rw [H4.out]; exact O0.out)
            clear O0 H4
            go_loopw [110] (fun i_ w' => ∃ (i nn : Nat) (A7 : Option Addr) (c7 : Nat) (out : List Fac) (at_ : List Int), i_ = .int .i64 i ∧ i ≤ k ∧ nn ≤ i ∧ Hid (OutW (w.heap.size + 1) w w' (some ⟨g4, 0, none⟩) c4 k kept X U u V at_ B A7 nn c7 out) ∧ Hid (out.length = nn) ∧ Hid (at_.length = k) ∧
              Hid (∀ j, 0 ≤ at_.getD j 0 ∧ at_.getD j 0 ≤ 1048576) ∧ Hid (outT u i (kept.drop i) out at_ = outT u 0 kept [] (List.replicate k 0))) (fun i_ _ => k - (intOf i_).toNat)
            case atStart =>
              exact ⟨0, 0, none, 0, [], _, rfl, by omega, by omega, O1, Lib.hid rfl, Lib.hid (by simp), Lib.hid (fun j => by rw [List.getD_eq_getElem?_getD, List.getElem?_replicate]; split <;> simp), Lib.hid rfl⟩
            case round =>
              obtain ⟨i, nn, A7, c7, out, at_, rfl, hi, hnn, O2, hol, hal, har, HO⟩ := hrel
              by_cases hlt : i < k
              · obtain ⟨x, hx⟩ : ∃ x, kept[i]? = some x := ⟨_, List.getElem?_eq_getElem (by have := hkl.out; omega)⟩
                have hxd : kept.getD i default = x := by rw [List.getD_eq_getElem?_getD, hx]; rfl
                have cel := fun (q : Nat) (hq : q < 3) => own_at (sz := 3) (enc := Fac.cells) (fun _ _ => rfl) O2.out.r hkl.out default i (by omega) q hq
                rw [hxd] at cel
                have c0 : wr.cell? ⟨g4, i * 3, none⟩ = some (.string x.l) := cel 0 (by omega)
                have c1 : wr.cell? ⟨g4, i * 3 + 1, none⟩ = some (.int .i64 x.a) := cel 1 (by omega)
                have c2 : wr.cell? ⟨g4, i * 3 + 2, none⟩ = some (.int .i64 x.b) := cel 2 (by omega)
                clear cel hxd
                have bu := O2.out.u.cell i
                rw [boolA_at u (i := i) (by have := ulen.out; omega)] at bu
                have ho := HO.out
                rw [drop_cons hx] at ho
                have HX := Lib.hid hx
                obtain ⟨ub, hub⟩ : ∃ ub, u.getD i false = ub := ⟨_, rfl⟩
                rw [hub] at bu
                have Hub := Lib.hid hub
                clear hub hx
                have lU := O2.out.u.lt
                have a3 : Below wr.heap.size wr (wr.alloc (.cells #[.string x.l, .int .i64 x.a, .int .i64 x.b] 44)) := (Below.refl _ _).alloc (Nat.le_refl _) _
                have O3 := Lib.hid (O2.out.next a3)
                cases ub
                · have e : outT u (i + 1) (kept.drop (i + 1)) out at_ = outT u 0 kept [] (List.replicate k 0) := by
                    rw [← ho, outT, if_neg (by rw [Hub.out]; simp)]
                  have E := Lib.hid e
                  clear e ho
                  go_wp2_with fail
                  go_roundw
                  case rel => exact ⟨i + 1, nn, A7, c7, out, at_, by go_num, by omega, by omega, O3, hol, hal, har, E⟩
                  case measure => first | (simp [intOf]; done) | (simp [intOf]; omega)
                · have e : outT u (i + 1) (kept.drop (i + 1)) (out ++ [trR at_ x]) (at_.set i (nn : Int)) = outT u 0 kept [] (List.replicate k 0) := by
                    rw [← ho, outT, if_pos Hub.out, hol.out]
                  have E := Lib.hid e
                  clear e ho
                  obtain ⟨pb, hpb⟩ : ∃ pb, isP x = pb := ⟨_, rfl⟩
                  have Hpb := Lib.hid hpb; clear hpb
                  go_upto_if 121 with (go_at_call 49; refine (isPair_any x pb _ Hpb.out).mono ?_; rintro e w1 ⟨rfl, hb1'⟩)
                  have O4 := Lib.hid (O3.out.next hb1')
                  have BX1 := Lib.hid ((Blk.new wr 44 #[.string x.l, .int .i64 x.a, .int .i64 x.b]).next hb1')
                  have hsz : wr.heap.size < w1.heap.size := BX1.out.lt
                  go_cut [] (fun wx => Hid (OutW (w.heap.size + 1) w wx (some ⟨g4, 0, none⟩) c4 k kept X U u V at_ B A7 nn c7 out) ∧ Hid (Blk wx wr.heap.size 44 #[.string (trR at_ x).l, .int .i64 (trR at_ x).a, .int .i64 (trR at_ x).b]))
                  case first =>
                    rcases HI.out.k i x HX.out with ⟨h0, ha0, ha1, hb0, hb1⟩ | ⟨cc, hcc, hxl, hxa, hxb⟩
                    · obtain rfl : true = pb := by rw [← Hpb.out]; simp [isP, h0]
                      have Hy := Lib.hid (show trR at_ x = ⟨⟨#[]⟩, at_.getD x.a.toNat 0, at_.getD x.b.toNat 0⟩ by unfold trR; rw [if_pos h0])
                      have s1 := har.out x.a.toNat
                      have s2 := har.out x.b.toNat
                      have va := O4.out.v.cell x.a.toNat
                      rw [intA_at at_ (by have := hal.out; omega)] at va
                      have vb := O4.out.v.cell x.b.toNat
                      rw [intA_at at_ (by have := hal.out; omega)] at vb
                      generalize at_.getD x.a.toNat 0 = sa at *
                      generalize at_.getD x.b.toNat 0 = sb at *
                      obtain ⟨d0, d1, d2⟩ := BX1.out.three
                      have lx := BX1.out.lt
                      have i1 : x.a < (k : Int) := by omega
                      have i2 : x.b < (k : Int) := by omega
                      clear c0 c1 c2 bu
                      go_wp2_with fail
                      go_region_with
                        (first
                          | (go_at_call 29
                             refine (pair64_any sa sb w1.drew (by omega) (by omega)).mono ?_
                             rintro e wm ⟨rfl, hbm⟩
                             have bm : Below w1.heap.size w1 wm := (Below.refl _ _).drew.trans hbm
                             have BXm := Lib.hid (BX1.out.next bm)
                             have fm := BXm.out.frozen
                             have lm := BXm.out.lt
                             obtain ⟨m0, m1, m2⟩ := BXm.out.three)
                          | fail)
                      all_goals
                        go_wp2_with fail
                        go_meet
                        have BY := ((BXm.out.set_ 0 (.string .empty)).set_ 1 (.int .i64 sa)).set_ 2 (.int .i64 sb)
                        have Om := O4.out.next bm
                        have hgm := gb_setCell (gb_setCell (gb_set wm wr.heap.size 0 (.string .empty)) 1 (.int .i64 sa)) 2 (.int .i64 sb)
                        refine ⟨Lib.hid (Om.far hgm (fun e => by have := O2.out.n6 _ e.symm; have := O2.out.n5; omega) (fun e => by have := (O2.out.q.lt _ e.symm).2; omega) (by have := O2.out.u.lt; omega) (by have := O2.out.v.lt; omega) (by have := O2.out.b.lt; omega) (by have := O2.out.o.lt; omega)), Lib.hid ?_⟩
                        rw [Hy.out]; exact BY
                    · obtain rfl : false = pb := by rw [← Hpb.out]; unfold isP; rw [hxl]; rfl
                      have Hy := Lib.hid (show trR at_ x = x by unfold trR; rw [if_neg (by rw [hxl]; show (1 : Nat) ≠ 0; omega)])
                      clear hxl hxa hxb
                      go_wp2_with fail
                      go_meet
                      exact ⟨O4, by rw [Hy.out]; exact BX1⟩
                  case rest =>
                    obtain ⟨O5, BX5⟩ := hcut
                    clear O3 O4 BX1 Hpb c0 c1 c2 bu
                    generalize trR at_ x = y at *
                    have f5 := O5.out.v.frozen
                    have v5 := O5.out.v.cell i
                    rw [intA_at at_ (by have := hal.out; omega)] at v5
                    have b5 := O5.out.b.cell 0
                    have k5 : (i : Int) < (k : Int) := by omega
                    have O6 := Lib.hid (O5.out.tell i (nn : Int))
                    have BX6 := Lib.hid (BX5.out.grown (gb_set wc V i (.int .i64 (nn : Int))) (by intro e; injection e with e; have := O2.out.v.lt; omega))
                    have b6 := O6.out.b.cell 0
                    obtain ⟨e0, e1, e2⟩ := BX6.out.three
                    have O7 := Lib.hid (O6.out.alloc (.cells #[.string y.l, .int .i64 y.a, .int .i64 y.b] 44))
                    have BN := Lib.hid (Blk.new (wc.setCell ⟨V, i, none⟩ (.int .i64 (nn : Int))) 44 #[.string y.l, .int .i64 y.a, .int .i64 y.b])
                    have sz7 : (wc.setCell ⟨V, i, none⟩ (.int .i64 (nn : Int))).heap.size = wc.heap.size := by simp
                    rw [sz7] at BN
                    go_wp2_with
                      (at_builtin
                       refine wpList_app rfl _ _ _ rfl X 44 3 32 elem_rule Fac.cells A7 nn c7 out rfl O7.out.q ⟨wc.heap.size, 0, none⟩ 1 1 [y] rfl rfl (by omega) (news1 BN.out) (fun x _ => fac_len x) (fun x _ => one_fac x) (by omega) (by omega) (by unfold maxLen; omega) O7.out.n5 ?_
                       intro A9 c9 w9 own9 hg9 hat9
                       have O8 := Lib.hid (O7.out.push own9 hg9)
                       have B9 := O7.out.b.grown hg9 (own_blk_ne O7.out.q O7.out.b (by decide))
                       have f9 := B9.frozen
                       have d9 := B9.cell 0
                       have l9 := B9.lt
                       clear own9 B9)
                    go_roundw
                    case rel =>
                      exact ⟨i + 1, nn + 1, A9, c9, out ++ [y], at_.set i (nn : Int), by go_num, by omega, by omega, O8, Lib.hid (by simp [hol.out]), Lib.hid (by simp [hal.out]),
                        Lib.hid (fun j => by
                          have h := har.out j
                          rw [List.getD_eq_getElem?_getD, List.getElem?_set]
                          split
                          · split
                            · simp; omega
                            · simp
                          · rw [← List.getD_eq_getElem?_getD]; exact h), E⟩
                    case measure => first | (simp [intOf]; done) | (simp [intOf]; omega)
              · obtain rfl : i = k := by omega
                have hk2 := Lib.hid (show trimL rs = out by
                  rw [key.out, ← HO.out, List.drop_of_length_le (by rw [hkl.out]; exact Nat.le_refl _)]; rfl)
                have b0 := O2.out.b.cell 0
                have o0 := O2.out.o.cell 0
                have fo := O2.out.o.frozen
                go_wp2_with fail
                have hg := gb_set wr (w.heap.size + 1) 0 (.slice A7 nn c7)
                have x9 := O2.out.o.set_ 0 (.slice A7 nn c7)
                have x10 : (wr.setCell ⟨w.heap.size + 1, 0, none⟩ (.slice A7 nn c7)).cell? ⟨w.heap.size + 1, 0, none⟩ = some (.slice A7 nn c7) := by rw [x9.cell 0]; rfl
                refine bodyPost_ret (v := .agg #[.slice A7 nn c7]) (by simp [results, Try.results53, go_sem, x10]) rfl ⟨A7, c7, by rw [hk2.out, hol.out], ?_, O2.out.e.grown hg O2.out.e.size (fun q hq => by injection hq with hq; omega)⟩
                rw [hk2.out, hol.out]
                exact (O2.out.q.kept hg (.inr fun e => own_blk_ne O2.out.q O2.out.o (by decide) e.symm)).mono (by have := O2.out.n1; have := O2.out.n2; omega)
        · obtain rfl : y = (i : Int) := by omega
          obtain ⟨x, hx⟩ : ∃ x, kept[i]? = some x := ⟨_, List.getElem?_eq_getElem (by have := hkl.out; omega)⟩
          have hxd : kept.getD i default = x := by rw [List.getD_eq_getElem?_getD, hx]; rfl
          have cel := fun (q : Nat) (hq : q < 3) => own_at (sz := 3) (enc := Fac.cells) (fun _ _ => rfl) T2.out.r hkl.out default i (by omega) q hq
          rw [hxd] at cel
          have c0 : wr.cell? ⟨g4, i * 3, none⟩ = some (.string x.l) := cel 0 (by omega)
          have c1 : wr.cell? ⟨g4, i * 3 + 1, none⟩ = some (.int .i64 x.a) := cel 1 (by omega)
          have c2 : wr.cell? ⟨g4, i * 3 + 2, none⟩ = some (.int .i64 x.b) := cel 2 (by omega)
          clear cel
          have bu := B2.out.cell i
          rw [boolA_at u (i := i) (by have := hu.out; omega)] at bu
          have Hus := Lib.hid (show useStep kept i u = if u.getD i false = true ∧ x.l.size = 0 then (u.set x.a.toNat true).set x.b.toNat true else u by unfold useStep; rw [hxd])
          have HU' := Lib.hid (show useT kept i (useStep kept i u) = useT kept k (use0 k same) from HU.out)
          have HX := Lib.hid hx
          clear HU hx hxd
          obtain ⟨ub, hub⟩ : ∃ ub, u.getD i false = ub := ⟨_, rfl⟩
          rw [hub] at bu
          have Hub := Lib.hid hub
          clear hub
          have lU := B2.out.lt
          have u1 : IntKind.i64.wrap ((i : Int) - 1) = (i : Int) - 1 := IntWalk.i64_in _ (by omega)
          have a3 : Below wr.heap.size wr (wr.alloc (.cells #[.string x.l, .int .i64 x.a, .int .i64 x.b] 44)) := (Below.refl _ _).alloc (Nat.le_refl _) _
          have T3 := Lib.hid (T2.out.next a3)
          have B3 := Lib.hid (B2.out.next a3)
          cases ub
          · have e := Hus.out
            rw [Hub.out, if_neg (by simp)] at e
            have E := Lib.hid e
            clear e
            go_wp2_with fail
            go_roundw
            case rel => exact ⟨i, u, _, rfl, by omega, by omega, T3, B3, hu, by rw [E.out] at HU'; exact HU'⟩
            case measure => first | (simp [intOf]; done) | (simp [intOf]; omega)
          · obtain ⟨pb, hpb⟩ : ∃ pb, isP x = pb := ⟨_, rfl⟩
            have Hpb := Lib.hid hpb; clear hpb
            rcases HI.out.k i x HX.out with ⟨h0, ha0, ha1, hb0, hb1⟩ | ⟨cc, hcc, hxl, hxa, hxb⟩
            · obtain rfl : true = pb := by rw [← Hpb.out]; simp [isP, h0]
              have e := Hus.out
              rw [Hub.out, if_pos ⟨rfl, h0⟩] at e
              have E := Lib.hid e
              clear e
              go_wp2_with
                (go_at_call 49
                 refine (isPair_any x true _ Hpb.out).mono ?_
                 rintro e w1 ⟨rfl, hb1'⟩
                 have T4 := Lib.hid (T3.out.next hb1')
                 have B4 := Lib.hid (B3.out.next hb1')
                 have BX := Lib.hid ((Blk.new wr 44 #[.string x.l, .int .i64 x.a, .int .i64 x.b]).next hb1')
                 have lB := BX.out.lt
                 have lU4 := B4.out.lt
                 have fU := B4.out.frozen
                 obtain ⟨m0, m1, m2⟩ := BX.out.three
                 have da := B4.out.cell x.a.toNat
                 rw [boolA_at u (by have := hu.out; omega)] at da
                 have db := B4.out.cell x.b.toNat
                 rw [boolA_at u (by have := hu.out; omega)] at db
                 have B5 := B4.out.set_ x.a.toNat (.bool true)
                 rw [boolA_set] at B5
                 have db2 := B5.cell x.b.toNat
                 rw [boolA_at _ (by have := hu.out; rw [List.length_set]; omega)] at db2
                 clear B5
                 have ab : x.a < (k : Int) := by omega
                 have bb : x.b < (k : Int) := by omega
                 have nU : U ≠ wr.heap.size := by omega)
              go_region
              all_goals
                go_wp2_with fail
                go_roundw
                case rel =>
                  have B6 := (B4.out.set_ x.a.toNat (.bool true)).set_ x.b.toNat (.bool true)
                  rw [boolA_set, boolA_set, ← E.out] at B6
                  exact ⟨i, useStep kept i u, _, rfl, by omega, by omega, Lib.hid (TrW.set1 (TrW.set1 T4.out hU hbd.out _ _) hU hbd.out _ _).drew, Lib.hid B6.drew, Lib.hid (by rw [E.out]; simp [hu.out]), HU'⟩
                case measure => first | (simp [intOf]; done) | (simp [intOf]; omega)
            · obtain rfl : false = pb := by rw [← Hpb.out]; unfold isP; rw [hxl]; rfl
              have e := Hus.out
              rw [if_neg (by rw [hxl]; rintro ⟨-, h⟩; exact absurd h (show (1 : Nat) ≠ 0 by omega))] at e
              have E := Lib.hid e
              clear e hxl hxa hxb
              go_wp2_with
                (go_at_call 49
                 refine (isPair_any x false _ Hpb.out).mono ?_
                 rintro e w1 ⟨rfl, hb1'⟩
                 have T4 := Lib.hid (T3.out.next hb1')
                 have B4 := Lib.hid (B3.out.next hb1'))
              go_roundw
              case rel => exact ⟨i, u, _, rfl, by omega, by omega, T4, B4, hu, by rw [E.out] at HU'; exact HU'⟩
              case measure => first | (simp [intOf]; done) | (simp [intOf]; omega)
end Go.Proofs.Ytikhjoianbndhaa
