/-
  Texts of this claim, merged: Lett TrimS LtrS TrimI Trim OrLim Told Chn PrsS Made PrsP MarkG.
-/
import Derived.Test.YtikhjoianbndhaaP2
import Derived.Deep.RegionHeld3
import Derived.Deep.RegionWith
import Derived.Deep.DeepCutAuto
import Derived.Deep.CutBlock
import Derived.Deep.RegionLaw


/-
  The reference's small functions on letters and numbers.
-/
namespace Go.Proofs.Ytikhjoianbndhaa
open Go.RowKit

theorem l00Max_any (a b : Int) (w : World) : Calls Try.prog 64 #[.int .i64 a, .int .i64 b] w (Ret (.int .i64 (max a b)) w) := by
  go_enter Try.func64, Try.ntmps64
  go_wp2
  all_goals
    go_ret
    exact ⟨ret_int (by omega), by (repeat first | exact Below.refl _ _ | assumption | refine Below.drew ?_ | refine Below.alloc ?_ (by first | exact Nat.le_refl _ | (simp; done) | omega | (simp; omega)) _ | refine Below.setCell ?_ (by first | exact Nat.le_refl _ | (simp; done) | omega | (simp; omega)) _)⟩
theorem l04Letter_any (c : UInt8) (hc : letB c = true) (w : World) : Calls Try.prog 54 #[.int .u8 (c.toNat : Int)] w (Ret (.int .i64 ((c.toNat : Int) - 97)) w) := by
  obtain ⟨h0, h1⟩ := letB_num hc
  clear hc
  go_enter Try.func54, Try.ntmps54
  go_wp2
  go_ret
  exact ⟨ret_int (by omega), by (repeat first | exact Below.refl _ _ | assumption | refine Below.drew ?_ | refine Below.alloc ?_ (by first | exact Nat.le_refl _ | (simp; done) | omega | (simp; omega)) _ | refine Below.setCell ?_ (by first | exact Nat.le_refl _ | (simp; done) | omega | (simp; omega)) _)⟩
end Go.Proofs.Ytikhjoianbndhaa


/-
  A grammar trimmed by the reference.
-/
namespace Go.Proofs.Ytikhjoianbndhaa
open Go.RowKit

/-- the reference's first round under way: what the call has made -/
structure TsW (w W : World) (k : Nat) (A5 : Option Addr) (c5 k6 : Nat) (A4 : Option Addr) (c4 : Nat) (kept : List Fac) (same : List Int) : Prop where
  r : W.ownsRow w.heap.size 44 3 (.slice A5 k c5) k (kept.flatMap Fac.cells)
  s : W.ownsRow w.heap.size 2 1 (.slice A4 k6 c4) k6 (same.flatMap intE)
  o : Blk W w.heap.size 24 #[.slice none 0 0]
  e : Below w.heap.size w W
section
variable {w W W' : World} {k k6 : Nat} {A5 : Option Addr} {c5 : Nat} {A4 : Option Addr} {c4 : Nat} {kept : List Fac} {same : List Int}
theorem TsW.next (h : TsW w W k A5 c5 k6 A4 c4 kept same) (hb : Below W.heap.size W W') : TsW w W' k A5 c5 k6 A4 c4 kept same :=
  ⟨own_next h.r hb, own_next h.s hb, h.o.next hb, h.e.trans (hb.mono h.e.size)⟩
theorem TsW.alloc (h : TsW w W k A5 c5 k6 A4 c4 kept same) (o : Obj) : TsW w (W.alloc o) k A5 c5 k6 A4 c4 kept same := h.next ((Below.refl _ _).alloc (Nat.le_refl _) _)
theorem TsW.drew (h : TsW w W k A5 c5 k6 A4 c4 kept same) : TsW w W.drew k A5 c5 k6 A4 c4 kept same := h.next (Below.refl _ _).drew
theorem TsW.pushR {A8 : Option Addr} {k8 c8 : Nat} {kept' : List Fac} (h : TsW w W k A5 c5 k6 A4 c4 kept same) (ho : W'.ownsRow w.heap.size 44 3 (.slice A8 k8 c8) k8 (kept'.flatMap Fac.cells)) (hg : W.grownBy W' (Value.slice A5 k c5).ownBlock) :
    TsW w W' k8 A8 c8 k6 A4 c4 kept' same :=
  ⟨ho, h.s.kept hg (own_ne h.s h.r (by decide)), h.o.grown hg (own_blk_ne h.r h.o (by decide)), h.e.grown hg h.e.size (own_ge h.r)⟩
theorem TsW.pushS {A8 : Option Addr} {k8 c8 : Nat} {same' : List Int} (h : TsW w W k A5 c5 k6 A4 c4 kept same) (ho : W'.ownsRow w.heap.size 2 1 (.slice A8 k8 c8) k8 (same'.flatMap intE)) (hg : W.grownBy W' (Value.slice A4 k6 c4).ownBlock) :
    TsW w W' k A5 c5 k8 A8 c8 kept same' :=
  ⟨h.r.kept hg (own_ne h.r h.s (by decide)), ho, h.o.grown hg (own_blk_ne h.s h.o (by decide)), h.e.grown hg h.e.size (own_ge h.s)⟩
/-- a block made later put -/
theorem TsW.far {Z : Nat} (h : TsW w W k A5 c5 k6 A4 c4 kept same) (hg : W.grownBy W' (some Z)) (h1 : some Z ≠ (Value.slice A5 k c5).ownBlock) (h2 : some Z ≠ (Value.slice A4 k6 c4).ownBlock) (h3 : w.heap.size < Z) : TsW w W' k A5 c5 k6 A4 c4 kept same :=
  ⟨h.r.kept hg (.inr fun e => h1 e.symm), h.s.kept hg (.inr fun e => h2 e.symm), h.o.grown hg (by intro e; injection e with e; omega), h.e.grown hg h.e.size (fun q hq => by injection hq with hq; omega)⟩
theorem TsW.bnd (h : TsW w W k A5 c5 k6 A4 c4 kept same) : (∀ q, (Value.slice A5 k c5).ownBlock = some q → q < W.heap.size) ∧ (∀ q, (Value.slice A4 k6 c4).ownBlock = some q → q < W.heap.size) ∧ w.heap.size < W.heap.size :=
  ⟨fun q hq => (h.r.lt q hq).2, fun q hq => (h.s.lt q hq).2, h.o.lt⟩
end
theorem trR_set {at_ : List Int} {x : Fac} {i : Nat} {z : Int} (h : x.l.size = 0 → 0 ≤ x.a ∧ x.a < (i : Int) ∧ 0 ≤ x.b ∧ x.b < (i : Int)) : trR (at_.set i z) x = trR at_ x := by
  unfold trR
  by_cases h0 : x.l.size = 0
  · obtain ⟨a0, a1, b0, b1⟩ := h h0
    rw [if_pos h0, if_pos h0]
    simp only [List.getD_eq_getElem?_getD]
    rw [List.getElem?_set_ne (by omega), List.getElem?_set_ne (by omega)]
  · rw [if_neg h0, if_neg h0]
theorem fac_ext {f g : Fac} (h1 : f.l.toList = g.l.toList) (h2 : f.a = g.a) (h3 : f.b = g.b) : f = g := by
  cases f; cases g
  simp only at h1 h2 h3
  rw [tl_inj.1 h1, h2, h3]
theorem news1i {W : World} {g : Nat} {t : TypeId} {v : Int} (h : Blk W g t #[.int .i64 v]) : ∀ j u, ([v].flatMap intE)[j]? = some u → W.cell? ((⟨g, 0, none⟩ : Addr).add j) = some u := by
  intro j u hj
  have e : ((⟨g, 0, none⟩ : Addr).add j) = ⟨g, j, none⟩ := by
    simp only [Addr.add, Nat.zero_add]
    by_cases h0 : j = 0
    · subst h0; rfl
    · simp [h0]
  rw [e, h.cell j]
  simpa [intE] using hj
theorem hs_step {kept : List Fac} {same : List Int} (h : ∀ (j : Nat) (x : Fac), kept[j]? = some x → same.getD j 0 = ((kept.idxOf x : Nat) : Int)) (hl : same.length = kept.length) (y : Fac) :
    ∀ (j : Nat) (x : Fac), (kept ++ [y])[j]? = some x → (same ++ [((kept.idxOf y : Nat) : Int)]).getD j 0 = (((kept ++ [y]).idxOf x : Nat) : Int) := by
  intro j x hx
  by_cases e : j < kept.length
  · rw [List.getElem?_append_left e] at hx
    rw [List.getD_eq_getElem?_getD, List.getElem?_append_left (by omega), ← List.getD_eq_getElem?_getD, h j x hx, idx_app1 (List.mem_of_getElem? hx)]
  · have hj2 := (List.getElem?_eq_some_iff.1 hx).1
    simp only [List.length_append, List.length_singleton] at hj2
    obtain rfl : j = kept.length := by omega
    rw [List.getElem?_append_right (Nat.le_refl _), Nat.sub_self] at hx
    obtain rfl : y = x := by simpa using hx
    rw [List.getD_eq_getElem?_getD, List.getElem?_append_right (by omega), hl, Nat.sub_self, idx_app2]
    rfl
set_option maxHeartbeats 4000000 in
set_option maxRecDepth 100000 in
theorem l02Trim_any (gb : Nat) (A : Option Addr) (n c : Nat) (rs : List Fac) (w : World) (hg : gb < w.heap.size) (hc : w.cell? ⟨gb, 0, none⟩ = some (.slice A n c)) (hn : n ≤ 1048576) (hr : Rd w w.heap.size A n 3 Fac.cells rs) (hwf : WF rs) :
    Calls Try.prog 46 #[.pointer (some ⟨gb, 0, none⟩)] w (RetG w (trimL rs)) := by
  have hl := Lib.hid hr.len
  have HR := Lib.hid hr; clear hr
  have HWF := Lib.hid hwf; clear hwf
  have HC := Lib.hid (fun (W : World) (h : Below w.heap.size w W) => (h.cell (p := ⟨gb, 0, none⟩) hg).trans hc)
  go_enter Try.func46, Try.ntmps46
  go_wp2_with fail
  refine named fun w0 H0 => ?_
  have T0 : TsW w w0 0 (some ⟨w.heap.size + 1 + 1, 0, none⟩) 0 0 (some ⟨w.heap.size + 1, 0, none⟩) 0 [] [] := by
    rw [H0.out]
    refine ⟨?_, ?_, ?_, by (repeat first | exact Below.refl _ _ | assumption | refine Below.drew ?_ | refine Below.alloc ?_ (by first | exact Nat.le_refl _ | (simp; done) | omega | (simp; omega)) _ | refine Below.setCell ?_ (by first | exact Nat.le_refl _ | (simp; done) | omega | (simp; omega)) _)⟩
    · have h := World.ownsRow_made (base := w.heap.size) (e := 44) (size := 3) ((w.alloc (.cells #[.slice none 0 0] 24)).alloc (.cells #[] 2)) #[] 0 (by simp; omega) (by unfold maxLen; omega) rfl
      simpa using h
    · have h := World.ownsRow_made (base := w.heap.size) (e := 2) (size := 1) (w.alloc (.cells #[.slice none 0 0] 24)) #[] 0 (by simp) (by unfold maxLen; omega) rfl
      simpa using h.alloc _
    · exact ((Blk.new w _ _).alloc _).alloc _
  have T0' := Lib.hid T0
  clear T0 H0
  go_loopw [4, 5, 6] (fun s_ r_ i_ w' => ∃ (k : Nat) (A4 : Option Addr) (c4 : Nat) (A5 : Option Addr) (c5 : Nat) (kept : List Fac) (same : List Int), i_ = .int .i64 k ∧ s_ = .slice A4 k c4 ∧ r_ = .slice A5 k c5 ∧ k ≤ n ∧ Hid (TsW w w' k A5 c5 k A4 c4 kept same) ∧
      Hid (∀ (j : Nat) (x : Fac), kept[j]? = some x → same.getD j 0 = ((kept.idxOf x : Nat) : Int)) ∧ Hid (TrI kept same) ∧ Hid (kept.length = k) ∧ Hid (trK (rs.drop k) kept same = trK rs [] [])) (fun _ _ i_ _ => n - (intOf i_).toNat)
  case atStart => exact ⟨0, _, 0, _, 0, [], [], rfl, rfl, rfl, by omega, T0', Lib.hid (fun j x h => by simp at h), Lib.hid TrI.nil, Lib.hid rfl, Lib.hid rfl⟩
  case round =>
    obtain ⟨k, A4, c4, A5, c5, kept, same, rfl, rfl, rfl, hk, TR, HS, HI, hkl, HK⟩ := hrel
    have cg := HC.out wr TR.out.e
    by_cases hlt : k < n
    · obtain ⟨b, o, x, rfl, hB, gx, c0, c1, c2⟩ := (HR.out.below TR.out.e).fac hlt
      have hBr : b < wr.heap.size := by have := TR.out.e.size; omega
      have Hstep := Lib.hid (trK_take rs gx HK.out)
      have HI2 := Lib.hid (HI.out.step HWF.out (by rw [hkl.out]; exact gx))
      have hsl := Lib.hid (HI.out.len.trans hkl.out)
      have Gx := Lib.hid gx
      clear gx
      go_upto_if 37 with fail
      refine named fun w1 H1 => ?_
      have BX1 := Lib.hid (show Blk w1 wr.heap.size 44 #[.string x.l, .int .i64 x.a, .int .i64 x.b] by rw [H1.out]; exact Blk.new wr _ _)
      have TR1 := Lib.hid (show TsW w w1 k A5 c5 k A4 c4 kept same by rw [H1.out]; exact TR.out.alloc _)
      have nbR := Lib.hid (show some wr.heap.size ≠ (Value.slice A5 k c5).ownBlock from fun e => by have := TR.out.bnd.1 _ e.symm; omega)
      have nbS := Lib.hid (show some wr.heap.size ≠ (Value.slice A4 k c4).ownBlock from fun e => by have := TR.out.bnd.2.1 _ e.symm; omega)
      have zZ := TR.out.bnd.2.2
      have cgb : gb < wr.heap.size := by omega
      clear H1 c0 c1 c2
      generalize wr.heap.size = Z at *
      go_cut [] (fun wx => Hid (TsW w wx k A5 c5 k A4 c4 kept same) ∧ Hid (Blk wx Z 44 #[.string (trR same x).l, .int .i64 (trR same x).a, .int .i64 (trR same x).b]))
      case first =>
        rcases HWF.out k x Gx.out with ⟨h0, ha0, ha1, hb0, hb1⟩ | ⟨cc, hcc, hxl, hxa, hxb⟩
        · have e0 := size0 h0
          have he : x.l.toList.isEmpty = true := by rw [size0 h0]; rfl
          have Hy := Lib.hid (show trR same x = ⟨⟨#[]⟩, same.getD x.a.toNat 0, same.getD x.b.toNat 0⟩ by unfold trR; rw [if_pos h0])
          obtain ⟨g4, cp4, hv4, hg40, hg41⟩ := TR1.out.s.form (by omega)
          obtain rfl : A4 = some ⟨g4, 0, none⟩ := by injection hv4
          have va : w1.cell? ⟨g4, x.a.toNat, none⟩ = some (.int .i64 (same.getD x.a.toNat 0)) := by
            have := own_at (sz := 1) (enc := intE) (fun _ _ => rfl) TR1.out.s hsl.out 0 x.a.toNat (by omega) 0 (by omega)
            rw [Nat.mul_one, Nat.add_zero] at this; exact this
          have vb : w1.cell? ⟨g4, x.b.toNat, none⟩ = some (.int .i64 (same.getD x.b.toNat 0)) := by
            have := own_at (sz := 1) (enc := intE) (fun _ _ => rfl) TR1.out.s hsl.out 0 x.b.toNat (by omega) 0 (by omega)
            rw [Nat.mul_one, Nat.add_zero] at this; exact this
          generalize same.getD x.a.toNat 0 = sa at *
          generalize same.getD x.b.toNat 0 = sb at *
          obtain ⟨d0, d1, d2⟩ := BX1.out.three
          have lx := BX1.out.lt
          have fx := BX1.out.frozen
          have i1 : x.a < (k : Int) := ha1
          have i2 : x.b < (k : Int) := hb1
          clear hv4
          simp only [he]
          clear he e0
          go_wp2_with fail
          go_region
          all_goals
            go_wp2_with fail
            go_meet
            have BY := ((BX1.out.set_ 0 (.string .empty)).set_ 1 (.int .i64 sa)).set_ 2 (.int .i64 sb)
            have hgm := gb_setCell (gb_setCell (gb_set w1 Z 0 (.string .empty)) 1 (.int .i64 sa)) 2 (.int .i64 sb)
            refine ⟨Lib.hid (TR1.out.far hgm nbR.out nbS.out (by omega)).drew, Lib.hid ?_⟩
            rw [Hy.out]; exact BY.drew
        · have e0 : x.l.toList ≠ [] := size1 (by rw [hxl]; show (1 : Nat) ≠ 0; omega)
          have he : x.l.toList.isEmpty = false := by rw [List.isEmpty_eq_false_iff]; exact e0
          have Hy := Lib.hid (show trR same x = x by unfold trR; rw [if_neg (by rw [hxl]; show (1 : Nat) ≠ 0; omega)])
          clear hxl hxa hxb
          simp only [he]
          clear he e0
          go_wp2_with fail
          go_meet
          exact ⟨TR1, by rw [Hy.out]; exact BX1⟩
      case rest =>
        obtain ⟨TR2, BX2⟩ := hcut
        clear TR1 BX1
        generalize trR same x = y at *
        have hik : kept.idxOf y ≤ k := by have := List.idxOf_le_length (a := y) (l := kept); have := hkl.out; omega
        go_upto_block 2 with fail
        refine named fun w2 H2 => ?_
        have TR3 := Lib.hid (show TsW w w2 k A5 c5 k A4 c4 kept same by rw [H2.out]; exact TR2.out)
        have BX3 := Lib.hid (show Blk w2 Z 44 #[.string y.l, .int .i64 y.a, .int .i64 y.b] by rw [H2.out]; exact BX2.out)
        clear H2 TR2 BX2
        go_cut [8] (fun o_ wx => o_ = .int .i64 ((kept.idxOf y : Nat) : Int) ∧ Hid (TsW w wx k A5 c5 k A4 c4 kept same) ∧ Hid (Blk wx Z 44 #[.string y.l, .int .i64 y.a, .int .i64 y.b]))
        case first =>
          go_wp2_with fail
          go_loopw [8, 9] (fun o_ j_ w' => ∃ (own j : Nat), o_ = .int .i64 own ∧ j_ = .int .i64 j ∧ j ≤ k ∧ own ≤ k ∧ Hid (TsW w w' k A5 c5 k A4 c4 kept same) ∧ Hid (Blk w' Z 44 #[.string y.l, .int .i64 y.a, .int .i64 y.b]) ∧
            Hid ((own = k ∧ ∀ q, q < j → ¬ (same.getD q 0 = (q : Int) ∧ kept[q]? = some y)) ∨ (own < k ∧ kept[own]? = some y ∧ same.getD own 0 = (own : Int)))) (fun _ j_ _ => k - (intOf j_).toNat)
          case atStart => exact ⟨k, 0, rfl, rfl, by omega, by omega, TR3, BX3, Lib.hid (.inl ⟨rfl, fun q hq => absurd hq (by omega)⟩)⟩
          case round =>
            obtain ⟨own, j, rfl, rfl, hj, how, T4, B4, HQ⟩ := hrel
            by_cases hlt2 : j < k
            · rcases HQ.out with ⟨hok, hno⟩ | ⟨hok, hfo, hsf⟩
              · obtain rfl : k = own := hok.symm
                have HN := Lib.hid hno
                clear hno HQ
                obtain ⟨g4, cp4, hv4, hg40, hg41⟩ := T4.out.s.form (by omega)
                obtain rfl : A4 = some ⟨g4, 0, none⟩ := by injection hv4
                obtain ⟨g5, cp5, hv5, hg50, hg51⟩ := T4.out.r.form (by omega)
                obtain rfl : A5 = some ⟨g5, 0, none⟩ := by injection hv5
                have va : wr.cell? ⟨g4, j, none⟩ = some (.int .i64 (same.getD j 0)) := by
                  have := own_at (sz := 1) (enc := intE) (fun _ _ => rfl) T4.out.s hsl.out 0 j (by omega) 0 (by omega)
                  rw [Nat.mul_one, Nat.add_zero] at this; exact this
                obtain ⟨x', hx'⟩ : ∃ x', kept[j]? = some x' := ⟨_, List.getElem?_eq_getElem (by have := hkl.out; omega)⟩
                have hxd : kept.getD j default = x' := by rw [List.getD_eq_getElem?_getD, hx']; rfl
                have cel := fun (q : Nat) (hq : q < 3) => own_at (sz := 3) (enc := Fac.cells) (fun _ _ => rfl) T4.out.r hkl.out default j (by omega) q hq
                rw [hxd] at cel
                have c0 : wr.cell? ⟨g5, j * 3, none⟩ = some (.string x'.l) := cel 0 (by omega)
                have c1 : wr.cell? ⟨g5, j * 3 + 1, none⟩ = some (.int .i64 x'.a) := cel 1 (by omega)
                have c2 : wr.cell? ⟨g5, j * 3 + 2, none⟩ = some (.int .i64 x'.b) := cel 2 (by omega)
                have HX := Lib.hid hx'
                obtain ⟨e0, e1, e2⟩ := B4.out.three
                clear cel hxd hx' hv4 hv5
                obtain ⟨sj, hsj⟩ : ∃ sj, same.getD j 0 = sj := ⟨_, rfl⟩
                rw [hsj] at va
                have HSJ := Lib.hid hsj
                clear hsj
                by_cases hss : sj = (j : Int)
                · subst hss
                  by_cases hxy : x' = y
                  · subst hxy
                    go_wp2_with fail
                    go_region
                    all_goals
                      go_wp2_with fail
                      go_roundw
                      case rel => exact ⟨j, j + 1, rfl, by go_num, by omega, by omega, Lib.hid T4.out.drew, Lib.hid B4.out.drew, Lib.hid (.inr ⟨hlt2, HX.out, HSJ.out⟩)⟩
                      case measure => first | (simp [intOf]; done) | (simp [intOf]; omega)
                  · have hcase : x'.l.toList ≠ y.l.toList ∨ (x'.l.toList = y.l.toList ∧ x'.a ≠ y.a) ∨ (x'.l.toList = y.l.toList ∧ x'.a = y.a ∧ x'.b ≠ y.b) := by
                      by_cases h1 : x'.l.toList = y.l.toList
                      · by_cases h2 : x'.a = y.a
                        · by_cases h3 : x'.b = y.b
                          · exact absurd (fac_ext h1 h2 h3) hxy
                          · exact .inr (.inr ⟨h1, h2, h3⟩)
                        · exact .inr (.inl ⟨h1, h2⟩)
                      · exact .inl h1
                    have HXY := Lib.hid hxy
                    clear hxy
                    rcases hcase with h1 | ⟨h1, h2⟩ | ⟨h1, h2, h3⟩
                    all_goals
                      go_wp2_with fail
                      go_region
                      all_goals
                        go_wp2_with fail
                        go_roundw
                        case rel =>
                          refine ⟨k, j + 1, rfl, by go_num, by omega, by omega, Lib.hid T4.out.drew, Lib.hid B4.out.drew, Lib.hid (.inl ⟨rfl, fun q hq => ?_⟩)⟩
                          rcases Nat.lt_or_ge q j with h | h
                          · exact HN.out q h
                          · obtain rfl : q = j := by omega
                            rintro ⟨-, hh⟩
                            exact HXY.out (by have := HX.out.symm.trans hh; injection this)
                        case measure => first | (simp [intOf]; done) | (simp [intOf]; omega)
                · have hne : (sj == (j : Int)) = false := by simpa using hss
                  go_wp2_with fail
                  go_region
                  all_goals
                    go_wp2_with fail
                    go_roundw
                    case rel =>
                      refine ⟨k, j + 1, rfl, by go_num, by omega, by omega, Lib.hid T4.out.drew, Lib.hid B4.out.drew, Lib.hid (.inl ⟨rfl, fun q hq => ?_⟩)⟩
                      rcases Nat.lt_or_ge q j with h | h
                      · exact HN.out q h
                      · obtain rfl : q = j := by omega
                        rintro ⟨h1, -⟩
                        exact hss (HSJ.out.symm.trans h1)
                    case measure => first | (simp [intOf]; done) | (simp [intOf]; omega)
              · have hne : ((own : Int) == (k : Int)) = false := by simp; omega
                have hid := HS.out own y hfo
                rw [hsf] at hid
                have HID := Lib.hid hid
                clear hid hfo hsf
                go_wp2_with fail
                go_meet
                exact ⟨by rw [HID.out], T4, B4⟩
            · obtain rfl : k = j := by omega
              rcases HQ.out with ⟨hok, hno⟩ | ⟨hok, hfo, hsf⟩
              · obtain rfl : k = own := hok.symm
                have hnm : y ∉ kept := fun hm => by
                  have h1 : kept.idxOf y < kept.length := List.idxOf_lt_length_iff.2 hm
                  have h2 : kept[kept.idxOf y]? = some y := by rw [List.getElem?_eq_getElem h1, List.getElem_idxOf]
                  exact hno _ (by rw [hkl.out] at h1; exact h1) ⟨HS.out _ _ h2, h2⟩
                have HID := Lib.hid (show kept.idxOf y = k by rw [List.idxOf_eq_length hnm, hkl.out])
                clear hno hnm HQ
                go_wp2_with fail
                go_meet
                exact ⟨by rw [HID.out], T4, B4⟩
              · have hid := HS.out own y hfo
                rw [hsf] at hid
                have HID := Lib.hid hid
                clear hid hfo hsf HQ
                go_wp2_with fail
                go_meet
                exact ⟨by rw [HID.out], T4, B4⟩
        case rest =>
          obtain ⟨rfl, TR2, BX2⟩ := hcut
          have HS2 := Lib.hid (hs_step HS.out HI.out.len y)
          generalize hvz : ((kept.idxOf y : Nat) : Int) = v at *
          have TA := Lib.hid (TR2.out.alloc (.cells #[.int .i64 v] 2))
          have BA := Lib.hid (BX2.out.alloc (.cells #[.int .i64 v] 2))
          go_wp2_with
            (first
              | (at_builtin
                 refine wpList_app rfl _ _ _ rfl w.heap.size 2 1 8 elem_int intE A4 k c4 same rfl TA.out.s ⟨wc.heap.size, 0, none⟩ 1 1 [v] rfl rfl (by omega) (news1i (Blk.new wc 2 #[.int .i64 v])) (fun _ _ => rfl) (by simp [intE, Value.oneCell']) (by omega) (by omega) (by unfold maxLen; omega) TA.out.e.size ?_
                 intro A8 c8 w8 own8 hg8 hat8
                 have TB := Lib.hid (TA.out.pushS own8 hg8)
                 have BB := Lib.hid (BA.out.grown hg8 nbS.out)
                 obtain ⟨d0, d1, d2⟩ := BB.out.three
                 have lx := BB.out.lt
                 have TC := Lib.hid (TB.out.alloc (.cells #[.string y.l, .int .i64 y.a, .int .i64 y.b] 44))
                 clear own8 hg8 hat8)
              | (at_builtin
                 refine wpList_app rfl _ _ _ rfl w.heap.size 44 3 32 elem_rule Fac.cells A5 k c5 kept rfl TC.out.r ⟨w8.heap.size, 0, none⟩ 1 1 [y] rfl rfl (by omega) (news1 (Blk.new w8 44 #[.string y.l, .int .i64 y.a, .int .i64 y.b])) (fun x _ => fac_len x) (fun x _ => one_fac x) (by omega) (by omega) (by unfold maxLen; omega) TC.out.e.size ?_
                 intro A9 c9 w9 own9 hg9 hat9
                 have TD := Lib.hid (TC.out.pushR own9 hg9)
                 clear own9 hg9 hat9))
          go_roundw
          case rel => exact ⟨k + 1, A8, c8, A9, c9, kept ++ [y], same ++ [v], by go_num, rfl, rfl, by omega, TD, HS2, HI2, Lib.hid (by rw [List.length_append, hkl.out]; rfl), Hstep⟩
          case measure => first | (simp [intOf]; done) | (simp [intOf]; omega)
    · obtain rfl : k = n := by omega
      have HA := Lib.hid (trK_all (by rw [hl.out]; omega) HK.out)
      have mkB := fun W => makeB k W (by omega)
      go_upto_if 86 with fail
      refine named fun w2 H2 => ?_
      have TU := Lib.hid (show TsW w w2 k A5 c5 k A4 c4 kept same by rw [H2.out]; exact TR.out.alloc _)
      have BU := Lib.hid (show Blk w2 wr.heap.size 4 (boolA (List.replicate k false)) by rw [H2.out]; exact Blk.new wr _ _)
      have hbd := Lib.hid TR.out.bnd
      clear H2 TR mkB
      generalize wr.heap.size = U at *
      go_cut [] (fun wx => ∃ u, Hid (TsW w wx k A5 c5 k A4 c4 kept same) ∧ Hid (Blk wx U 4 (boolA u)) ∧ Hid (u.length = k) ∧ Hid (trimL rs = outT (useT kept k u) 0 kept [] (List.replicate k 0)))
      case first =>
        rcases Nat.eq_zero_or_pos k with hk0 | hk0
        · have hkey := Lib.hid (show trimL rs = outT (useT kept k (List.replicate k false)) 0 kept [] (List.replicate k 0) by
            unfold trimL
            rw [if_pos (by rw [hl.out]; exact hk0), List.eq_nil_of_length_eq_zero (hkl.out.trans hk0)]
            rfl)
          have hlt0 : ¬ (0 : Int) < (k : Int) := by omega
          clear hk0
          go_wp2_with fail
          go_meet
          exact ⟨_, TU, BU, Lib.hid (by simp), hkey⟩
        · have hI := HI.out
          have sv := hI.s (k - 1) (by have := hkl.out; omega)
          obtain ⟨g4, cp4, hv4, hg40, hg41⟩ := TU.out.s.form (by omega)
          obtain rfl : A4 = some ⟨g4, 0, none⟩ := by injection hv4
          have cs : w2.cell? ⟨g4, k - 1, none⟩ = some (.int .i64 (same.getD (k - 1) 0)) := by
            have := own_at (sz := 1) (enc := intE) (fun _ _ => rfl) TU.out.s (hI.len.trans hkl.out) 0 (k - 1) (by omega) 0 (by omega)
            rw [Nat.mul_one, Nat.add_zero] at this; exact this
          have hkey := Lib.hid (show trimL rs = outT (useT kept k ((List.replicate k false).set (same.getD (k - 1) 0).toNat true)) 0 kept [] (List.replicate k 0) by
            unfold trimL
            rw [← HA.out, hl.out, if_neg (by omega)]
            rfl)
          generalize same.getD (k - 1) 0 = z at *
          obtain ⟨z0, z1⟩ := sv
          have u1 : IntKind.i64.wrap ((k : Int) - 1) = (k : Int) - 1 := IntWalk.i64_in _ (by omega)
          have z2 : z < (k : Int) := by omega
          have j0 : (0 : Int) ≤ (k : Int) - 1 := by omega
          have j1 : (k : Int) - 1 < (k : Int) := by omega
          have jn : ((k : Int) - 1).toNat = k - 1 := by omega
          have bz := BU.out.cell z.toNat
          rw [boolA_at _ (by rw [List.length_replicate]; omega)] at bz
          have fz := BU.out.frozen
          have zk : z.toNat < k := by omega
          have hk1 : (0 : Int) < (k : Int) := by omega
          clear hv4 hI
          go_wp2_with fail
          go_meet
          have B6 := BU.out.set_ z.toNat (.bool true)
          rw [boolA_set] at B6
          refine ⟨(List.replicate k false).set z.toNat true, ?_, Lib.hid B6, Lib.hid (by simp), hkey⟩
          exact (Lib.hid (TU.out.far (gb_set w2 U _ _) (fun e => by have := hbd.out.1 _ e.symm; omega) (fun e => by have := hbd.out.2.1 _ e.symm; omega) hbd.out.2.2))
      case rest =>
        obtain ⟨u0, TV, BV, hu0, key0⟩ := hcut
        clear TU BU
        have u1 : IntKind.i64.wrap ((k : Int) - 1) = (k : Int) - 1 := IntWalk.i64_in _ (by omega)
        go_wp2_with fail
        refine named fun w3 H3 => ?_
        have TW := Lib.hid (show TsW w w3 k A5 c5 k A4 c4 kept same by rw [H3.out]; exact TV.out)
        have BW := Lib.hid (show Blk w3 U 4 (boolA u0) by rw [H3.out]; exact BV.out)
        clear H3 TV BV
        go_loopw [11] (fun j_ w' => ∃ (j : Nat) (u : List Bool) (y : Int), j_ = .int .i64 y ∧ y + 1 = (j : Int) ∧ j ≤ k ∧ Hid (TsW w w' k A5 c5 k A4 c4 kept same) ∧ Hid (Blk w' U 4 (boolA u)) ∧ Hid (u.length = k) ∧
          Hid (useT kept j u = useT kept k u0)) (fun j_ _ => (intOf j_ + 1).toNat)
        case atStart => exact ⟨k, _, _, rfl, by omega, Nat.le_refl _, TW, BW, hu0, Lib.hid rfl⟩
        case round =>
          obtain ⟨j, u, y, rfl, hy, hj, T2, B2, hu, HU⟩ := hrel
          rcases j with _ | i
          · obtain rfl : y = -1 := by omega
            have e := HU.out
            rw [show useT kept 0 u = u from rfl] at e
            have key := Lib.hid (show trimL rs = outT u 0 kept [] (List.replicate k 0) by rw [key0.out, ← e])
            have ulen := hu
            clear e HU hy hj key0
            have mkN := fun W => makeN k W (by omega)
            go_wp2_with fail
            refine named fun w4 H4 => ?_
            have lo := T2.out.o.lt
            have lu := B2.out.lt
            have n6 := T2.out.bnd.1
            have O1 : OutW w.heap.size w w4 A5 c5 k kept (wr.heap.size + 2) U u wr.heap.size (List.replicate k 0) (wr.heap.size + 1) none 0 0 [] := by
              rw [H4.out]
              have hb : Below wr.heap.size wr ((wr.alloc (.cells (intA (List.replicate k 0)) 2)).alloc (.cells #[.slice none 0 0] 24)) := ((Below.refl _ _).alloc (Nat.le_refl _) _).alloc (by simp) _
              have T5 := T2.out.next hb
              refine ⟨T5.r, B2.out.next hb, (Blk.new wr _ _).alloc _, ?_, T5.o, World.ownsRow_nil _ _ _ _, T5.e, Nat.le_refl _, by omega, by omega, by have := T2.out.e.size; have := hbd.out.2.2; omega, by omega, by simp, fun q hq => by have := n6 q hq; omega⟩
              have h := Blk.new (wr.alloc (.cells (intA (List.replicate k 0)) 2)) 24 #[.slice none 0 0]
              rw [show (wr.alloc (.cells (intA (List.replicate k 0)) 2)).heap.size = wr.heap.size + 1 by simp] at h
              exact h
            have O1' := Lib.hid O1
            clear O1 H4 T2 B2 n6 lo lu mkN hbd
            generalize hB : wr.heap.size + 1 = B at *
            have hB' := Lib.hid hB
            clear hB
            generalize wr.heap.size = V at *
            generalize V + 2 = X at *
            go_loopw [14] (fun i_ w' => ∃ (i nn : Nat) (A7 : Option Addr) (c7 : Nat) (out : List Fac) (at_ : List Int), i_ = .int .i64 i ∧ i ≤ k ∧ nn ≤ i ∧ Hid (OutW w.heap.size w w' A5 c5 k kept X U u V at_ B A7 nn c7 out) ∧ Hid (out.length = nn) ∧ Hid (at_.length = k) ∧
              Hid (outT u i (kept.drop i) out at_ = outT u 0 kept [] (List.replicate k 0))) (fun i_ _ => k - (intOf i_).toNat)
            case atStart =>
              exact ⟨0, 0, none, 0, [], _, rfl, by omega, by omega, O1', Lib.hid rfl, Lib.hid (by simp), Lib.hid rfl⟩
            case round =>
              obtain ⟨i, nn, A7, c7, out, at_, rfl, hi, hnn, O2, hol, hal, HO⟩ := hrel
              by_cases hlt : i < k
              · obtain ⟨g5, cp5, hv5, hg50, hg51⟩ := O2.out.r.form (by omega)
                obtain rfl : A5 = some ⟨g5, 0, none⟩ := by injection hv5
                obtain ⟨x, hx⟩ : ∃ x, kept[i]? = some x := ⟨_, List.getElem?_eq_getElem (by have := hkl.out; omega)⟩
                have hxd : kept.getD i default = x := by rw [List.getD_eq_getElem?_getD, hx]; rfl
                have cel := fun (q : Nat) (hq : q < 3) => own_at (sz := 3) (enc := Fac.cells) (fun _ _ => rfl) O2.out.r hkl.out default i (by omega) q hq
                rw [hxd] at cel
                have c0 : wr.cell? ⟨g5, i * 3, none⟩ = some (.string x.l) := cel 0 (by omega)
                have c1 : wr.cell? ⟨g5, i * 3 + 1, none⟩ = some (.int .i64 x.a) := cel 1 (by omega)
                have c2 : wr.cell? ⟨g5, i * 3 + 2, none⟩ = some (.int .i64 x.b) := cel 2 (by omega)
                have nV : V ≠ g5 := fun e => own_blk_ne O2.out.r O2.out.v (by decide) (by rw [e]; rfl)
                have nBV : B ≠ V := by have := hB'.out; omega
                clear cel hxd hv5
                have bu := O2.out.u.cell i
                rw [boolA_at u (i := i) (by have := ulen.out; omega)] at bu
                have ho := HO.out
                rw [drop_cons hx] at ho
                have HX := Lib.hid hx
                obtain ⟨ub, hub⟩ : ∃ ub, u.getD i false = ub := ⟨_, rfl⟩
                rw [hub] at bu
                have Hub := Lib.hid hub
                clear hub hx
                cases ub
                · have e : outT u (i + 1) (kept.drop (i + 1)) out at_ = outT u 0 kept [] (List.replicate k 0) := by
                    rw [← ho, outT, if_neg (by rw [Hub.out]; simp)]
                  have E := Lib.hid e
                  clear e ho
                  go_wp2_with fail
                  go_roundw
                  case rel => exact ⟨i + 1, nn, A7, c7, out, at_, by go_num, by omega, by omega, O2, hol, hal, E⟩
                  case measure => first | (simp [intOf]; done) | (simp [intOf]; omega)
                · have e : outT u (i + 1) (kept.drop (i + 1)) (out ++ [trR at_ x]) (at_.set i (nn : Int)) = outT u 0 kept [] (List.replicate k 0) := by
                    rw [← ho, outT, if_pos Hub.out, hol.out]
                  have E := Lib.hid e
                  clear e ho
                  have Hset := Lib.hid (show trR (at_.set i (nn : Int)) x = trR at_ x from trR_set (fun h0 => by
                    rcases HI.out.k i x HX.out with ⟨_, ha0, ha1, hb0, hb1⟩ | ⟨cc, hcc, hxl, hxa, hxb⟩
                    · exact ⟨ha0, ha1, hb0, hb1⟩
                    · rw [hxl] at h0; exact absurd h0 (show (1 : Nat) ≠ 0 by omega)))
                  have f5 := O2.out.v.frozen
                  have v5 := O2.out.v.cell i
                  rw [intA_at at_ (by have := hal.out; omega)] at v5
                  have b5 := O2.out.b.cell 0
                  go_upto_if 151 with fail
                  refine named fun w1 H1 => ?_
                  have O3 := Lib.hid (show OutW w.heap.size w w1 (some ⟨g5, 0, none⟩) c5 k kept X U u V (at_.set i (nn : Int)) B A7 nn c7 out by rw [H1.out]; exact (O2.out.tell i (nn : Int)).alloc _)
                  have BX1 := Lib.hid (show Blk w1 wr.heap.size 44 #[.string x.l, .int .i64 x.a, .int .i64 x.b] by
                    rw [H1.out]
                    have h := Blk.new (wr.setCell ⟨V, i, none⟩ (.int .i64 (nn : Int))) 44 #[.string x.l, .int .i64 x.a, .int .i64 x.b]
                    rw [show (wr.setCell ⟨V, i, none⟩ (.int .i64 (nn : Int))).heap.size = wr.heap.size by simp] at h
                    exact h)
                  have q1 : some wr.heap.size ≠ (Value.slice (some ⟨g5, 0, none⟩) k c5).ownBlock := fun e => by have := (O2.out.r.lt _ e.symm).2; omega
                  have q2 : some wr.heap.size ≠ (Value.slice A7 nn c7).ownBlock := fun e => by have := (O2.out.q.lt _ e.symm).2; omega
                  have q3 := O2.out.u.lt
                  have q4 := O2.out.v.lt
                  have q5 := O2.out.b.lt
                  have q6 := O2.out.o.lt
                  have Q1 := Lib.hid q1
                  have Q2 := Lib.hid q2
                  clear q1 q2 H1 c0 c1 c2 bu v5 f5 b5
                  generalize wr.heap.size = Z at *
                  go_cut [] (fun wx => Hid (OutW w.heap.size w wx (some ⟨g5, 0, none⟩) c5 k kept X U u V (at_.set i (nn : Int)) B A7 nn c7 out) ∧ Hid (Blk wx Z 44 #[.string (trR at_ x).l, .int .i64 (trR at_ x).a, .int .i64 (trR at_ x).b]))
                  case first =>
                    rcases HI.out.k i x HX.out with ⟨h0, ha0, ha1, hb0, hb1⟩ | ⟨cc, hcc, hxl, hxa, hxb⟩
                    · have e0 := size0 h0
                      have he : x.l.toList.isEmpty = true := by rw [e0]; rfl
                      have Hy := Lib.hid (show trR at_ x = ⟨⟨#[]⟩, (at_.set i (nn : Int)).getD x.a.toNat 0, (at_.set i (nn : Int)).getD x.b.toNat 0⟩ by rw [← Hset.out]; unfold trR; rw [if_pos h0])
                      have va := O3.out.v.cell x.a.toNat
                      rw [intA_at _ (by rw [List.length_set]; have := hal.out; omega)] at va
                      have vb := O3.out.v.cell x.b.toNat
                      rw [intA_at _ (by rw [List.length_set]; have := hal.out; omega)] at vb
                      obtain ⟨sa, hsa⟩ : ∃ sa, (at_.set i (nn : Int)).getD x.a.toNat 0 = sa := ⟨_, rfl⟩
                      obtain ⟨sb, hsb⟩ : ∃ sb, (at_.set i (nn : Int)).getD x.b.toNat 0 = sb := ⟨_, rfl⟩
                      rw [hsa] at va
                      rw [hsb] at vb
                      have Hy2 := Lib.hid (show trR at_ x = ⟨⟨#[]⟩, sa, sb⟩ by rw [Hy.out, hsa, hsb])
                      obtain ⟨d0, d1, d2⟩ := BX1.out.three
                      have lx := BX1.out.lt
                      have fx := BX1.out.frozen
                      have i1 : x.a < (k : Int) := by omega
                      have i2 : x.b < (k : Int) := by omega
                      clear hsa hsb Hy
                      simp only [he]
                      clear he e0
                      go_wp2_with fail
                      go_region
                      all_goals
                        go_wp2_with fail
                        go_meet
                        have BY := ((BX1.out.set_ 0 (.string .empty)).set_ 1 (.int .i64 sa)).set_ 2 (.int .i64 sb)
                        have hgm := gb_setCell (gb_setCell (gb_set w1 Z 0 (.string .empty)) 1 (.int .i64 sa)) 2 (.int .i64 sb)
                        refine ⟨Lib.hid (O3.out.far hgm Q1.out Q2.out (by omega) (by omega) (by omega) (by omega)).drew, Lib.hid ?_⟩
                        rw [Hy2.out]; exact BY.drew
                    · have e0 : x.l.toList ≠ [] := size1 (by rw [hxl]; show (1 : Nat) ≠ 0; omega)
                      have he : x.l.toList.isEmpty = false := by rw [List.isEmpty_eq_false_iff]; exact e0
                      have Hy := Lib.hid (show trR at_ x = x by unfold trR; rw [if_neg (by rw [hxl]; show (1 : Nat) ≠ 0; omega)])
                      clear hxl hxa hxb
                      simp only [he]
                      clear he e0
                      go_wp2_with fail
                      go_meet
                      exact ⟨O3, by rw [Hy.out]; exact BX1⟩
                  case rest =>
                    obtain ⟨O5, BX5⟩ := hcut
                    clear O3 BX1
                    generalize trR at_ x = y at *
                    have b5 := O5.out.b.cell 0
                    obtain ⟨e0, e1, e2⟩ := BX5.out.three
                    have O7 := Lib.hid (O5.out.alloc (.cells #[.string y.l, .int .i64 y.a, .int .i64 y.b] 44))
                    have BN := Lib.hid (Blk.new wc 44 #[.string y.l, .int .i64 y.a, .int .i64 y.b])
                    go_wp2_with
                      (at_builtin
                       refine wpList_app rfl _ _ _ rfl X 44 3 32 elem_rule Fac.cells A7 nn c7 out rfl O7.out.q ⟨wc.heap.size, 0, none⟩ 1 1 [y] rfl rfl (by omega) (news1 BN.out) (fun x _ => fac_len x) (fun x _ => one_fac x) (by omega) (by omega) (by unfold maxLen; omega) O7.out.n5 ?_
                       intro A9 c9 w9 own9 hg9 hat9
                       have O8 := Lib.hid (O7.out.push own9 hg9)
                       have B9 := O7.out.b.grown hg9 (own_blk_ne O7.out.q O7.out.b (by decide))
                       have f9 := B9.frozen
                       have d9 := B9.cell 0
                       have l9 := B9.lt
                       clear own9 B9)
                    go_roundw
                    case rel => exact ⟨i + 1, nn + 1, A9, c9, out ++ [y], at_.set i (nn : Int), by go_num, by omega, by omega, O8, Lib.hid (by simp [hol.out]), Lib.hid (by simp [hal.out]), E⟩
                    case measure => first | (simp [intOf]; done) | (simp [intOf]; omega)
              · obtain rfl : k = i := by omega
                have hk2 := Lib.hid (show trimL rs = out by
                  rw [key.out, ← HO.out, List.drop_of_length_le (by rw [hkl.out]; exact Nat.le_refl _)]; rfl)
                have b0 := O2.out.b.cell 0
                have o0 := O2.out.o.cell 0
                have fo := O2.out.o.frozen
                go_wp2_with fail
                have hg := gb_set wr w.heap.size 0 (.slice A7 nn c7)
                have x9 := O2.out.o.set_ 0 (.slice A7 nn c7)
                have x10 : (wr.setCell ⟨w.heap.size, 0, none⟩ (.slice A7 nn c7)).cell? ⟨w.heap.size, 0, none⟩ = some (.slice A7 nn c7) := by rw [x9.cell 0]; rfl
                refine bodyPost_ret (v := .agg #[.slice A7 nn c7]) (by simp [results, Try.results46, go_sem, x10]) rfl ⟨A7, c7, by rw [hk2.out, hol.out], ?_, O2.out.e.grown hg O2.out.e.size (fun q hq => by injection hq with hq; omega)⟩
                rw [hk2.out, hol.out]
                exact (O2.out.q.kept hg (.inr fun e => own_blk_ne O2.out.q O2.out.o (by decide) e.symm)).mono (by have := O2.out.n1; have := O2.out.n2; omega)
          · obtain rfl : y = (i : Int) := by omega
            obtain ⟨g5, cp5, hv5, hg50, hg51⟩ := T2.out.r.form (by omega)
            obtain rfl : A5 = some ⟨g5, 0, none⟩ := by injection hv5
            obtain ⟨x, hx⟩ : ∃ x, kept[i]? = some x := ⟨_, List.getElem?_eq_getElem (by have := hkl.out; omega)⟩
            have hxd : kept.getD i default = x := by rw [List.getD_eq_getElem?_getD, hx]; rfl
            have cel := fun (q : Nat) (hq : q < 3) => own_at (sz := 3) (enc := Fac.cells) (fun _ _ => rfl) T2.out.r hkl.out default i (by omega) q hq
            rw [hxd] at cel
            have c0 : wr.cell? ⟨g5, i * 3, none⟩ = some (.string x.l) := cel 0 (by omega)
            have c1 : wr.cell? ⟨g5, i * 3 + 1, none⟩ = some (.int .i64 x.a) := cel 1 (by omega)
            have c2 : wr.cell? ⟨g5, i * 3 + 2, none⟩ = some (.int .i64 x.b) := cel 2 (by omega)
            clear cel hv5
            have bu := B2.out.cell i
            rw [boolA_at u (i := i) (by have := hu.out; omega)] at bu
            have Hus := Lib.hid (show useStep kept i u = if u.getD i false = true ∧ x.l.size = 0 then (u.set x.a.toNat true).set x.b.toNat true else u by unfold useStep; rw [hxd])
            have HU' := Lib.hid (show useT kept i (useStep kept i u) = useT kept k u0 from HU.out)
            have HX := Lib.hid hx
            clear HU hx hxd
            obtain ⟨ub, hub⟩ : ∃ ub, u.getD i false = ub := ⟨_, rfl⟩
            rw [hub] at bu
            have Hub := Lib.hid hub
            clear hub
            have u2 : IntKind.i64.wrap ((i : Int) - 1) = (i : Int) - 1 := IntWalk.i64_in _ (by omega)
            cases ub
            · have e := Hus.out
              rw [Hub.out, if_neg (by simp)] at e
              have E := Lib.hid e
              clear e
              go_wp2_with fail
              go_roundw
              case rel => exact ⟨i, u, _, rfl, by omega, by omega, T2, B2, hu, by rw [E.out] at HU'; exact HU'⟩
              case measure => first | (simp [intOf]; done) | (simp [intOf]; omega)
            · rcases HI.out.k i x HX.out with ⟨h0, ha0, ha1, hb0, hb1⟩ | ⟨cc, hcc, hxl, hxa, hxb⟩
              · have e := Hus.out
                rw [Hub.out, if_pos ⟨rfl, h0⟩] at e
                have E := Lib.hid e
                clear e
                have e0 := size0 h0
                have he : x.l.toList.isEmpty = true := by rw [e0]; rfl
                have nU : U ≠ g5 := fun e => by have := hbd.out.1 g5 rfl; omega
                have fU := B2.out.frozen
                have da := B2.out.cell x.a.toNat
                rw [boolA_at u (by have := hu.out; omega)] at da
                have B5 := B2.out.set_ x.a.toNat (.bool true)
                rw [boolA_set] at B5
                have db2 := B5.cell x.b.toNat
                rw [boolA_at _ (by have := hu.out; rw [List.length_set]; omega)] at db2
                have fU5 := B5.frozen
                clear B5
                have ab : x.a < (k : Int) := by omega
                have bb : x.b < (k : Int) := by omega
                go_wp2_with fail
                go_roundw
                case rel =>
                  have B6 := (B2.out.set_ x.a.toNat (.bool true)).set_ x.b.toNat (.bool true)
                  rw [boolA_set, boolA_set, ← E.out] at B6
                  exact ⟨i, useStep kept i u, _, rfl, by omega, by omega, Lib.hid (T2.out.far (gb_setCell (gb_set wr U _ _) _ _) (fun e => by have := hbd.out.1 _ e.symm; omega) (fun e => by have := hbd.out.2.1 _ e.symm; omega) hbd.out.2.2), Lib.hid B6, Lib.hid (by rw [E.out]; simp [hu.out]), HU'⟩
                case measure => first | (simp [intOf]; done) | (simp [intOf]; omega)
              · have e := Hus.out
                rw [if_neg (by rw [hxl]; rintro ⟨-, h⟩; exact absurd h (show (1 : Nat) ≠ 0 by omega))] at e
                have E := Lib.hid e
                have e0 : x.l.toList ≠ [] := size1 (by rw [hxl]; show (1 : Nat) ≠ 0; omega)
                have he : x.l.toList.isEmpty = false := by rw [List.isEmpty_eq_false_iff]; exact e0
                clear e hxl hxa hxb
                go_wp2_with fail
                go_roundw
                case rel => exact ⟨i, u, _, rfl, by omega, by omega, T2, B2, hu, by rw [E.out] at HU'; exact HU'⟩
                case measure => first | (simp [intOf]; done) | (simp [intOf]; omega)
end Go.Proofs.Ytikhjoianbndhaa


/-
  The rules of a word's letters and the numbers of its letters, in the reference.
-/
namespace Go.Proofs.Ytikhjoianbndhaa
open Go.RowKit

theorem take_mem {s : ByteArray} {i : Nat} (u : UInt8) (h : i < s.size) : (u ∈ s.data.toList.take (i + 1)) ↔ (u ∈ s.data.toList.take i ∨ s[i] = u) := by
  have h1 : i < s.data.toList.length := by rw [byte_len]; exact h
  have h2 : s.data.toList[i]'h1 = s[i] := by
    have := at_byte s i h
    rw [List.getElem?_eq_getElem h1] at this
    exact Option.some.inj this
  rw [List.take_succ_eq_append_getElem h1, h2]
  simp [eq_comm]
theorem one_text {s : ByteArray} {i : Nat} (u : UInt8) (h : i < s.size) : ((s.extract i (i + 1)).toList == [u]) = decide (s[i] = u) := by
  have e : s.extract i (i + 1) = ⟨#[s[i]]⟩ := by
    apply ByteArray.ext
    rw [ByteArray.data_extract]
    apply Array.ext'
    rw [Array.toList_extract, List.extract_eq_take_drop, drop_cons (at_byte s i h)]
    simp only [Nat.add_sub_cancel_left, List.take_succ_cons, List.take_zero]
  rw [e, show [u] = (⟨#[u]⟩ : ByteArray).toList by rw [ByteArray.toList_eq], tl_beq]
  simp
/-- 'l06Letters' under way -/
structure LsW (w W : World) (A : Option Addr) (n c : Nat) (rs : List Fac) (at_ : List Int) : Prop where
  q : W.ownsRow w.heap.size 44 3 (.slice A n c) n (rs.flatMap Fac.cells)
  v : Blk W (w.heap.size + 1) 2 (intA at_)
  e : Below w.heap.size w W
section
variable {w W W' : World} {A : Option Addr} {n c : Nat} {rs : List Fac} {at_ : List Int}
theorem LsW.next (h : LsW w W A n c rs at_) (hb : Below W.heap.size W W') : LsW w W' A n c rs at_ := ⟨own_next h.q hb, h.v.next hb, h.e.trans (hb.mono h.e.size)⟩
theorem LsW.alloc (h : LsW w W A n c rs at_) (o : Obj) : LsW w (W.alloc o) A n c rs at_ := h.next ((Below.refl _ _).alloc (Nat.le_refl _) _)
theorem LsW.push {A8 : Option Addr} {k8 c8 : Nat} {rs' : List Fac} (h : LsW w W A n c rs at_) (hq : W'.ownsRow w.heap.size 44 3 (.slice A8 k8 c8) k8 (rs'.flatMap Fac.cells)) (hg : W.grownBy W' (Value.slice A n c).ownBlock) : LsW w W' A8 k8 c8 rs' at_ :=
  ⟨hq, h.v.grown hg (own_blk_ne h.q h.v (by decide)), h.e.grown hg h.e.size (own_ge h.q)⟩
theorem LsW.tell (h : LsW w W A n c rs at_) (i : Nat) (z : Int) : LsW w (W.setCell ⟨w.heap.size + 1, i, none⟩ (.int .i64 z)) A n c rs (at_.set i z) := by
  have := h.v.set_ i (.int .i64 z)
  rw [intA_set] at this
  exact ⟨own_kept' h.q h.v (by decide) _, this, h.e.setCell (by simp) _⟩
end
set_option maxHeartbeats 4000000 in
set_option maxRecDepth 100000 in
theorem l06Letters_any (s : ByteArray) (w : World) (ho : okW s = true) : Calls Try.prog 21 #[.string s] w (RetLt w (lettersP s.data.toList) (numsP s.data.toList) sliceV) := by
  have hs := okW_size ho
  have HL := Lib.hid (fun (i : Nat) (hi : i < s.size) => okW_at ho hi)
  have mkN := fun W => show (Instr.makeSlice 37 (.int .i64 4) (.int .i64 4)).run Try.prog W = .ok (.slice (some ⟨W.heap.size, 0, none⟩) 4 4) (W.alloc (.cells (intA (List.replicate 4 0)) 2)) from makeN 4 W (by omega)
  clear ho
  go_enter Try.func21, Try.ntmps21
  go_wp2_with fail
  refine named fun w0 H0 => ?_
  have P0 := Lib.hid (show LsW w w0 (some ⟨w.heap.size, 0, none⟩) 0 0 [] (List.replicate 4 0) by
    rw [H0.out]
    refine ⟨?_, ?_, by (repeat first | exact Below.refl _ _ | assumption | refine Below.drew ?_ | refine Below.alloc ?_ (by first | exact Nat.le_refl _ | (simp; done) | omega | (simp; omega)) _ | refine Below.setCell ?_ (by first | exact Nat.le_refl _ | (simp; done) | omega | (simp; omega)) _)⟩
    · exact (World.ownsRow_made (base := w.heap.size) (e := 44) (size := 3) w #[] 0 (Nat.le_refl _) (by unfold maxLen; omega) rfl).alloc _
    · simpa using Blk.new (w.alloc (.cells #[] 44)) 2 (intA (List.replicate 4 0)))
  clear H0 mkN
  go_loopw [4, 6] (fun r_ c_ w' => ∃ (k : Nat) (A : Option Addr) (n cp : Nat) (at_ : List Int), r_ = .slice A n cp ∧ c_ = .int .i64 k ∧ k ≤ 4 ∧ n ≤ 4 ∧ Hid ((ksT s.data.toList (97 + k)).length = n) ∧ Hid (LsW w w' A n cp ((ksT s.data.toList (97 + k)).map ruleC) at_) ∧
    Hid (at_.length = 4) ∧ Hid (∀ u : UInt8, letB u = true → (u.toNat : Int) < 97 + k → u ∈ s.data.toList → at_.getD (u.toNat - 97) 0 = atP s.data.toList u)) (fun _ c_ _ => (4 - intOf c_).toNat)
  case atStart => exact ⟨0, _, 0, 0, _, rfl, rfl, by omega, by omega, Lib.hid (by rw [show (97 : Int) + ((0 : Nat) : Int) = 97 from rfl, ksT_first]; rfl), by rw [show (97 : Int) + ((0 : Nat) : Int) = 97 from rfl, ksT_first]; exact P0, Lib.hid rfl, Lib.hid (fun u h1 h2 => by simp [letB] at h1; omega)⟩
  case round =>
    obtain ⟨k, A, n, cp, at_, rfl, rfl, hk4, hn4, hnl, P1, hal, hat⟩ := hrel
    by_cases hlt : k < 4
    · obtain ⟨u, hu⟩ : ∃ u : UInt8, u.toNat = 97 + k := ⟨UInt8.ofNat (97 + k), by simp; omega⟩
      have hlb : letB u = true := by simp [letB]; omega
      have hu' : (u.toNat : Int) = 97 + k := by omega
      have Hst0 := ksT_step s.data.toList u hlb
      rw [hu', show (97 : Int) + (k : Int) + 1 = 97 + ((k + 1 : Nat) : Int) by omega] at Hst0
      have Hst := Lib.hid Hst0
      have Hu := Lib.hid hu'
      have hcv := conv_letter (wr.alloc (.cells #[.int .u8 (97 + (k : Int))] 5)) wr.heap.size 1 u (by rw [hu']; simp)
      have P2 := Lib.hid (P1.out.alloc (.cells #[.int .u8 (97 + (k : Int))] 5))
      have hlb' := Lib.hid hlb
      have hix := Lib.hid (idx_ks s.data.toList u hlb)
      have v0 := P2.out.v.cell k
      rw [intA_at at_ (by rw [hal.out]; exact hlt)] at v0
      have vf := P2.out.v.frozen
      have vl := P2.out.v.lt
      have P3 := Lib.hid (P2.out.tell k (-1))
      have i0 : (0 : Int) ≤ (k : Int) := by omega
      have i1 : (k : Int) < 4 := by omega
      clear Hst0 hu' hlb hu
      go_wp2_with fail
      generalize hwi : (wr.alloc (.cells #[.int .u8 (97 + (k : Int))] 5)).setCell ⟨w.heap.size + 1, k, none⟩ (.int .i64 (-1)) = wi at *
      go_loopw [4, 8] (fun r_ i_ w' => ∃ (i : Nat) (A' : Option Addr) (n' cp' : Nat) (b : Bool), r_ = .slice A' n' cp' ∧ i_ = .int .i64 i ∧ i ≤ s.size ∧ n' = n + (bif b then 1 else 0) ∧ Hid (b = true ↔ u ∈ s.data.toList.take i) ∧
        Hid (LsW w w' A' n' cp' ((ksT s.data.toList (97 + k)).map ruleC ++ (bif b then [ruleC u] else [])) (at_.set k (bif b then (n : Int) else -1)))) (fun _ i_ _ => s.size - (intOf i_).toNat)
      case atStart => exact ⟨0, A, n, cp, false, rfl, rfl, by omega, by simp, Lib.hid (by simp), by simpa using P3⟩
      case round =>
        obtain ⟨i, A', n', cp', b, rfl, rfl, hi, hn', hb, PR⟩ := hrel
        by_cases hlt2 : i < s.size
        · have hcmp := one_text u hlt2
          have htm := Lib.hid (take_mem u hlt2)
          have g0 := PR.out.v.cell k
          rw [intA_at _ (by rw [List.length_set, hal.out]; exact hlt), List.getD_eq_getElem?_getD, List.getElem?_set_self (by rw [hal.out]; exact hlt), Option.getD_some] at g0
          have gf := PR.out.v.frozen
          have gl := PR.out.v.lt
          have j0 : (0 : Int) ≤ (i : Int) := by omega
          have j1 : (i : Int) < (s.size : Int) := by omega
          cases b
          · simp only [cond_false] at g0 hn' PR
            obtain rfl : n' = n := by omega
            clear hn'
            by_cases hc : s[i] = u
            · have hcmp' : ((s.extract i (i + 1)).toList == [u]) = true := by rw [hcmp]; simpa using hc
              have Hc := Lib.hid hc
              have P4 := Lib.hid (PR.out.tell k (n' : Int))
              have P5 := Lib.hid (P4.out.alloc (.cells #[.string ⟨#[u]⟩, .int .i64 0, .int .i64 0] 44))
              have BN0 := Blk.new (wr.setCell ⟨w.heap.size + 1, k, none⟩ (.int .i64 (n' : Int))) 44 #[.string (ruleC u).l, .int .i64 (ruleC u).a, .int .i64 (ruleC u).b]
              have sz4 : (wr.setCell ⟨w.heap.size + 1, k, none⟩ (.int .i64 (n' : Int))).heap.size = wr.heap.size := by simp
              rw [sz4] at BN0
              have BN := Lib.hid BN0
              clear hc BN0 sz4 hcmp
              go_wp2_with
                (at_builtin
                 refine wpList_app rfl _ _ _ rfl w.heap.size 44 3 32 elem_rule Fac.cells A' n' cp' ((ksT s.data.toList (97 + (k : Int))).map ruleC ++ []) rfl P5.out.q ⟨wr.heap.size, 0, none⟩ 1 1 [ruleC u] rfl rfl (by omega) (news1 (y := ruleC u) BN.out) (fun x _ => fac_len x) (fun x _ => one_fac x) (by omega) (by omega) (by unfold maxLen; omega) P5.out.e.size ?_
                 intro A9 c9 w9 own9 hg9 hat9
                 have P6 := Lib.hid (P5.out.push own9 hg9)
                 clear own9)
              go_roundw
              case rel =>
                refine ⟨i + 1, A9, n' + 1, c9, true, rfl, by go_num, by omega, by simp, Lib.hid (by rw [htm.out]; simp [Hc.out]), Lib.hid ?_⟩
                have := P6.out
                rw [List.set_set, List.append_nil] at this
                exact this
              case measure => simp [intOf]; omega
            · have hcmp' : ((s.extract i (i + 1)).toList == [u]) = false := by rw [hcmp]; simpa using hc
              have Hc := Lib.hid hc
              clear hc hcmp
              go_wp2_with fail
              go_roundw
              case rel => exact ⟨i + 1, A', n', cp', false, rfl, by go_num, by omega, by simp, Lib.hid (by rw [htm.out]; simp [Hc.out, ← hb.out]), PR⟩
              case measure => simp [intOf]; omega
          · simp only [cond_true] at g0 hn' PR
            have hn0 : ¬ (n : Int) < 0 := by omega
            have e2 := Lib.hid (htm.out.2 (.inl (hb.out.1 rfl)))
            by_cases hc : s[i] = u
            · have hcmp' : ((s.extract i (i + 1)).toList == [u]) = true := by rw [hcmp]; simpa using hc
              clear hc hcmp
              go_wp2_with fail
              go_roundw
              case rel => exact ⟨i + 1, A', n', cp', true, rfl, by go_num, by omega, hn', Lib.hid ⟨fun _ => e2.out, fun _ => rfl⟩, PR⟩
              case measure => simp [intOf]; omega
            · have hcmp' : ((s.extract i (i + 1)).toList == [u]) = false := by rw [hcmp]; simpa using hc
              clear hc hcmp
              go_wp2_with fail
              go_roundw
              case rel => exact ⟨i + 1, A', n', cp', true, rfl, by go_num, by omega, hn', Lib.hid ⟨fun _ => e2.out, fun _ => rfl⟩, PR⟩
              case measure => simp [intOf]; omega
        · have htk := Lib.hid (show b = true ↔ u ∈ s.data.toList by rw [hb.out, List.take_of_length_le (by rw [byte_len]; omega)])
          go_wp2_with fail
          go_roundw
          case rel =>
            cases b
            · have Hm := Lib.hid (show ¬ u ∈ s.data.toList from fun q => by have := htk.out.2 q; cases this)
              have Hst2 := Lib.hid (show ksT s.data.toList (97 + ((k + 1 : Nat) : Int)) = ksT s.data.toList (97 + (k : Int)) by rw [Hst.out, if_neg Hm.out])
              refine ⟨k + 1, A', n', cp', at_.set k (-1), rfl, by go_num, by omega, by simp at hn'; omega, Lib.hid (by rw [Hst2.out, hnl.out]; simpa using hn'.symm), Lib.hid (by rw [Hst2.out]; have := PR.out; simpa using this), Lib.hid (by rw [List.length_set, hal.out]), Lib.hid (fun u' h1 h2 h3 => ?_)⟩
              by_cases hq : (u'.toNat : Int) < 97 + (k : Int)
              · rw [List.getD_eq_getElem?_getD, List.getElem?_set_ne (by simp [letB] at h1; omega), ← List.getD_eq_getElem?_getD]
                exact hat.out u' h1 hq h3
              · obtain rfl : u' = u := UInt8.toNat_inj.1 (by have := Hu.out; omega)
                exact absurd h3 Hm.out
            · have Hm := Lib.hid (htk.out.1 rfl)
              have Hst2 := Lib.hid (show ksT s.data.toList (97 + ((k + 1 : Nat) : Int)) = ksT s.data.toList (97 + (k : Int)) ++ [u] by rw [Hst.out, if_pos Hm.out])
              have hn4' : n + 1 ≤ 4 := by
                have h1 := ksT_le s.data.toList (97 + ((k + 1 : Nat) : Int))
                rw [Hst2.out, List.length_append, hnl.out] at h1; exact h1
              refine ⟨k + 1, A', n', cp', at_.set k (n : Int), rfl, by go_num, by omega, by simp at hn'; omega, Lib.hid (by rw [Hst2.out, List.length_append, hnl.out]; simpa using hn'.symm), Lib.hid (by rw [Hst2.out, List.map_append]; exact PR.out), Lib.hid (by rw [List.length_set, hal.out]), Lib.hid (fun u' h1 h2 h3 => ?_)⟩
              by_cases hq : (u'.toNat : Int) < 97 + (k : Int)
              · rw [List.getD_eq_getElem?_getD, List.getElem?_set_ne (by simp [letB] at h1; omega), ← List.getD_eq_getElem?_getD]
                exact hat.out u' h1 hq h3
              · obtain rfl : u' = u := UInt8.toNat_inj.1 (by have := Hu.out; omega)
                rw [show u'.toNat - 97 = k by have := Hu.out; omega, List.getD_eq_getElem?_getD, List.getElem?_set_self (by rw [hal.out]; exact hlt)]
                have h5 := hix.out Hm.out
                rw [Hu.out, hnl.out] at h5
                unfold atP
                rw [h5]; rfl
          case measure => simp [intOf]; omega
    · have hk5 : k = 4 := by omega
      have hK := ksT_last s.data.toList
      rw [hk5, show (97 : Int) + ((4 : Nat) : Int) = 101 from rfl, hK] at hnl P1
      clear hK hk5
      have Hat := Lib.hid (fun (j : Nat) (hj : j < s.size) => show at_.getD (s[j].toNat - 97) 0 = atP s.data.toList s[j] from hat.out s[j] (HL.out j hj) (by have := HL.out j hj; simp [letB] at this; omega) (List.mem_of_getElem? (at_byte s j hj)))
      clear hat
      have P2 := Lib.hid (show LsW w wr A n cp (lettersP s.data.toList) at_ from P1.out)
      have hll := Lib.hid (show (lettersP s.data.toList).length = n by rw [← hnl.out]; simp [lettersP])
      clear P1
      go_wp2_with fail
      refine named fun w5 H5 => ?_
      have P5 := Lib.hid (show LsW w w5 A n cp (lettersP s.data.toList) at_ by rw [H5.out]; exact P2.out.alloc _)
      have K5 := Lib.hid (show w5.ownsRow wr.heap.size 2 1 (.slice (some ⟨wr.heap.size, 0, none⟩) 0 0) 0 (([] : List Int).flatMap intE) by
        rw [H5.out]; exact World.ownsRow_made (base := wr.heap.size) (e := 2) (size := 1) wr #[] 0 (Nat.le_refl _) (by unfold maxLen; omega) rfl)
      have hwl : w.heap.size + 1 < wr.heap.size := P2.out.v.lt
      have hw5 : wr.heap.size ≤ w5.heap.size := by rw [H5.out]; simp
      clear H5 P2
      generalize wr.heap.size = L at *
      go_loopw [9, 10] (fun l_ i_ w' => ∃ (i : Nat) (B : Option Addr) (d : Nat) (ks : List Int), l_ = .slice B i d ∧ i_ = .int .i64 i ∧ i ≤ s.size ∧ Hid (ks.length = i) ∧ Hid (ks ++ (s.data.toList.drop i).map (atP s.data.toList) = numsP s.data.toList) ∧
        Hid (LsW w w' A n cp (lettersP s.data.toList) at_) ∧ Hid (w'.ownsRow L 2 1 (.slice B i d) i (ks.flatMap intE)) ∧ L ≤ w'.heap.size) (fun _ i_ _ => s.size - (intOf i_).toNat)
      case atStart => exact ⟨0, _, 0, [], rfl, rfl, by omega, Lib.hid rfl, Lib.hid (by simp [numsP]), P5, K5, hw5⟩
      case round =>
        obtain ⟨i, B, d, ks, rfl, rfl, hi, hkl, HE, PR, KR, hB⟩ := hrel
        by_cases hlt2 : i < s.size
        · have HE2 := Lib.hid (show (ks ++ [atP s.data.toList s[i]]) ++ (s.data.toList.drop (i + 1)).map (atP s.data.toList) = numsP s.data.toList by
            rw [← HE.out, drop_cons (at_byte s i hlt2), List.append_assoc]; rfl)
          have hlb := HL.out i hlt2
          have hat2 := Hat.out i hlt2
          obtain ⟨l0, l1⟩ := letB_num hlb
          have Hlb := Lib.hid hlb
          generalize atP s.data.toList s[i] = v at *
          generalize hcc : s[i] = cc at *
          obtain ⟨q, hq⟩ : ∃ q : Nat, cc.toNat = 97 + q := ⟨cc.toNat - 97, by omega⟩
          have hq4 : q < 4 := by omega
          have hq0 : (0 : Int) ≤ (q : Int) := by omega
          have hq1 : (q : Int) < 4 := by omega
          have j0 : (0 : Int) ≤ (i : Int) := by omega
          have j1 : (i : Int) < (s.size : Int) := by omega
          have LL := Lib.hid (fun W => show Calls Try.prog 54 #[.int .u8 (cc.toNat : Int)] W (Ret (.int .i64 (q : Int)) W) by
            have h := l04Letter_any cc Hlb.out W
            rw [show (cc.toNat : Int) - 97 = (q : Int) by omega] at h; exact h)
          have Hv := Lib.hid (show at_.getD q 0 = v by rw [← hat2]; congr 1; omega)
          clear hlb hat2 hq l0 l1
          go_upto_region 18 with fail
          go_wp2_with
            (first
              | (go_at_call 54
                 refine (LL.out _).mono ?_
                 rintro e w6 ⟨rfl, hb6⟩
                 have P6 := Lib.hid (PR.out.next hb6)
                 have K6 := Lib.hid (own_next KR.out hb6)
                 have hL6 : L ≤ w6.heap.size := Nat.le_trans hB hb6.size
                 have v6 := P6.out.v.cell q
                 rw [intA_at at_ (by rw [hal.out]; exact hq4), Hv.out] at v6
                 have vl6 := P6.out.v.lt
                 have P7 := Lib.hid (P6.out.alloc (.cells #[.int .i64 v] 2))
                 have K7 := Lib.hid (K6.out.alloc (.cells #[.int .i64 v] 2)))
              | (at_builtin; refine stopW ?_))
          unfold Stop
          refine wpList_app rfl _ _ _ rfl L 2 1 8 elem_int intE B i d ks rfl K7.out ⟨w6.heap.size, 0, none⟩ 1 1 [v] rfl rfl (by omega) (news1i (Blk.new w6 2 #[.int .i64 v])) (fun _ _ => rfl) (by simp [intE, Value.oneCell']) (by omega) (by omega) (by unfold maxLen; omega) (by simp; omega) ?_
          intro A8 c8 w8 own8 hg8 hat8
          have P8 := Lib.hid (show LsW w w8 A n cp (lettersP s.data.toList) at_ from ⟨P7.out.q.kept hg8 (own_ne P7.out.q K7.out (by decide)), P7.out.v.grown hg8 (fun e => by have := own_ge K7.out _ e.symm; omega), P7.out.e.grown hg8 P7.out.e.size (fun k hk => by have := own_ge K7.out k hk; omega)⟩)
          have K8 := Lib.hid own8
          have hL8 : L ≤ w8.heap.size := by have h4 := hg8.4; simp only [World.alloc, Array.size_push] at h4; omega
          clear own8 hg8 hat8
          go_wp2_with fail
          go_roundw
          case rel => exact ⟨i + 1, A8, c8, ks ++ [v], rfl, by go_num, by omega, Lib.hid (by rw [List.length_append, hkl.out]; rfl), HE2, P8, K8, hL8⟩
          case measure => simp [intOf]; omega
        · have e := Lib.hid (show numsP s.data.toList = ks by rw [← HE.out, List.drop_of_length_le (by rw [byte_len]; omega)]; simp)
          go_wp2_with fail
          go_ret2
          exact ⟨A, cp, B, d, by rw [hll.out, e.out, hkl.out]; rfl, by rw [hll.out]; exact PR.out.q, by rw [e.out, hkl.out]; exact KR.out.mono (by omega), PR.out.e⟩
end Go.Proofs.Ytikhjoianbndhaa


/-
  A grammar trimmed by the program.
-/
namespace Go.Proofs.Ytikhjoianbndhaa
open Go.RowKit

theorem pair64_any (a b : Int) (w : World) (ha : -9223372036854775808 ≤ a ∧ a ≤ 9223372036854775807) (hb : -9223372036854775808 ≤ b ∧ b ≤ 9223372036854775807) : Calls Try.prog 29 #[.int .i64 a, .int .i64 b] w (Ret (Fac.val ⟨⟨#[]⟩, a, b⟩) w) := by
  have u1 : IntKind.i64.wrap a = a := IntWalk.i64_in _ (by omega)
  have u2 : IntKind.i64.wrap b = b := IntWalk.i64_in _ (by omega)
  go_enter Try.func29, Try.ntmps29
  go_wp2
  refine bodyPost_ret (v := Fac.val ⟨⟨#[]⟩, a, b⟩) (by simp [results, Try.results29, go_sem, Fac.val]; try rfl) rfl ⟨rfl, ?_⟩
  (repeat first | exact Below.refl _ _ | assumption | refine Below.drew ?_ | refine Below.alloc ?_ (by first | exact Nat.le_refl _ | (simp; done) | omega | (simp; omega)) _ | refine Below.setCell ?_ (by first | exact Nat.le_refl _ | (simp; done) | omega | (simp; omega)) _)
/-- the first round of 'trimmed' under way: what the call has made -/
structure TrW (w W : World) (A : Option Addr) (n c k : Nat) (A4 : Option Addr) (c4 k6 : Nat) (A6 : Option Addr) (c6 : Nat) (kept : List Fac) (same : List Int) (m : List (Fac × Value)) : Prop where
  r : W.ownsRow w.heap.size 44 3 (.slice A4 k c4) k (kept.flatMap Fac.cells)
  s : W.ownsRow w.heap.size 2 1 (.slice A6 k6 c6) k6 (same.flatMap intE)
  m : MapIs W (w.heap.size + 3) Fac.val m
  g : Blk W w.heap.size 24 #[.slice A n c]
  o : Blk W (w.heap.size + 1) 24 #[.slice none 0 0]
  e : Below w.heap.size w W
section
variable {w W W' : World} {A : Option Addr} {n c k k6 : Nat} {A4 : Option Addr} {c4 : Nat} {A6 : Option Addr} {c6 : Nat} {kept : List Fac} {same : List Int} {m : List (Fac × Value)}
theorem TrW.next (h : TrW w W A n c k A4 c4 k6 A6 c6 kept same m) (hb : Below W.heap.size W W') : TrW w W' A n c k A4 c4 k6 A6 c6 kept same m :=
  ⟨own_next h.r hb, own_next h.s hb, h.m.next hb, h.g.next hb, h.o.next hb, h.e.trans (hb.mono h.e.size)⟩
theorem TrW.alloc (h : TrW w W A n c k A4 c4 k6 A6 c6 kept same m) (o : Obj) : TrW w (W.alloc o) A n c k A4 c4 k6 A6 c6 kept same m := h.next ((Below.refl _ _).alloc (Nat.le_refl _) _)
theorem TrW.drew (h : TrW w W A n c k A4 c4 k6 A6 c6 kept same m) : TrW w W.drew A n c k A4 c4 k6 A6 c6 kept same m := h.next (Below.refl _ _).drew
/-- all that the call has made so far lies below a block that it makes next -/
theorem TrW.bnd (h : TrW w W A n c k A4 c4 k6 A6 c6 kept same m) : (∀ q, (Value.slice A4 k c4).ownBlock = some q → q < W.heap.size) ∧ (∀ q, (Value.slice A6 k6 c6).ownBlock = some q → q < W.heap.size) ∧ w.heap.size + 3 < W.heap.size :=
  ⟨fun q hq => (h.r.lt q hq).2, fun q hq => (h.s.lt q hq).2, h.m.lt⟩
/-- an entry put into the map -/
theorem TrW.put {m' : List (Fac × Value)} (h : TrW w W A n c k A4 c4 k6 A6 c6 kept same m) (hm : MapIs W' (w.heap.size + 3) Fac.val m') (hg : W.grownBy W' (some (w.heap.size + 3))) (hb : Below w.heap.size w W') : TrW w W' A n c k A4 c4 k6 A6 c6 kept same m' :=
  have ne : ∀ {e sz n : Nat} {v : Value} {xs : List Value}, W.ownsRow w.heap.size e sz v n xs → v.ownBlock = none ∨ v.ownBlock ≠ some (w.heap.size + 3) := fun ho => by
    have := h.m.ne_own ho
    exact .inr fun e => this e.symm
  ⟨h.r.kept hg (ne h.r), h.s.kept hg (ne h.s), hm, h.g.grown hg (by intro e; injection e with e; omega), h.o.grown hg (by intro e; injection e with e; omega), hb⟩
/-- one rule more -/
theorem TrW.pushR {A8 : Option Addr} {k8 c8 : Nat} {kept' : List Fac} (h : TrW w W A n c k A4 c4 k6 A6 c6 kept same m) (ho : W'.ownsRow w.heap.size 44 3 (.slice A8 k8 c8) k8 (kept'.flatMap Fac.cells)) (hg : W.grownBy W' (Value.slice A4 k c4).ownBlock) :
    TrW w W' A n c k8 A8 c8 k6 A6 c6 kept' same m :=
  ⟨ho, h.s.kept hg (own_ne h.s h.r (by decide)), h.m.grown hg (h.m.ne_own h.r), h.g.grown hg (own_blk_ne h.r h.g (by decide)), h.o.grown hg (own_blk_ne h.r h.o (by decide)), h.e.grown hg h.e.size (own_ge h.r)⟩
/-- one number more -/
theorem TrW.pushS {A8 : Option Addr} {k8 c8 : Nat} {same' : List Int} (h : TrW w W A n c k A4 c4 k6 A6 c6 kept same m) (ho : W'.ownsRow w.heap.size 2 1 (.slice A8 k8 c8) k8 (same'.flatMap intE)) (hg : W.grownBy W' (Value.slice A6 k6 c6).ownBlock) :
    TrW w W' A n c k A4 c4 k8 A8 c8 kept same' m :=
  ⟨h.r.kept hg (own_ne h.r h.s (by decide)), ho, h.m.grown hg (h.m.ne_own h.s), h.g.grown hg (own_blk_ne h.s h.g (by decide)), h.o.grown hg (own_blk_ne h.s h.o (by decide)), h.e.grown hg h.e.size (own_ge h.s)⟩
/-- three cells of a block of another kind put -/
theorem TrW.box3 {B : Nat} (h : TrW w W A n c k A4 c4 k6 A6 c6 kept same m) (hB : w.heap.size ≤ B) (hb : (∀ q, (Value.slice A4 k c4).ownBlock = some q → q < B) ∧ (∀ q, (Value.slice A6 k6 c6).ownBlock = some q → q < B) ∧ w.heap.size + 3 < B) (x y z : Value) :
    TrW w (((W.setCell ⟨B, 0, none⟩ x).setCell ⟨B, 1, none⟩ y).setCell ⟨B, 2, none⟩ z) A n c k A4 c4 k6 A6 c6 kept same m := by
  obtain ⟨h4, h6, hm⟩ := hb
  have hg : W.grownBy (((W.setCell ⟨B, 0, none⟩ x).setCell ⟨B, 1, none⟩ y).setCell ⟨B, 2, none⟩ z) (some B) := gb_setCell (gb_setCell (gb_set W B 0 x) 1 y) 2 z
  have ne : ∀ (v : Value), (∀ q, v.ownBlock = some q → q < B) → v.ownBlock = none ∨ v.ownBlock ≠ some B := fun v hv => by
    cases hq : v.ownBlock with
    | none => exact .inl rfl
    | some q => exact .inr fun e => by have := hv q hq; injection e with e; omega
  exact ⟨h.r.kept hg (ne _ h4), h.s.kept hg (ne _ h6), h.m.grown hg (by intro e; injection e with e; omega), h.g.grown hg (by intro e; injection e with e; omega), h.o.grown hg (by intro e; injection e with e; omega),
    h.e.grown hg h.e.size (fun q hq => by injection hq with hq; omega)⟩
/-- a cell of a block made later put -/
theorem TrW.set1 {B : Nat} (h : TrW w W A n c k A4 c4 k6 A6 c6 kept same m) (hB : w.heap.size ≤ B) (hb : (∀ q, (Value.slice A4 k c4).ownBlock = some q → q < B) ∧ (∀ q, (Value.slice A6 k6 c6).ownBlock = some q → q < B) ∧ w.heap.size + 3 < B) (i : Nat) (x : Value) :
    TrW w (W.setCell ⟨B, i, none⟩ x) A n c k A4 c4 k6 A6 c6 kept same m := by
  obtain ⟨h4, h6, hm⟩ := hb
  have hg : W.grownBy (W.setCell ⟨B, i, none⟩ x) (some B) := gb_set W B i x
  have ne : ∀ (v : Value), (∀ q, v.ownBlock = some q → q < B) → v.ownBlock = none ∨ v.ownBlock ≠ some B := fun v hv => by
    cases hq : v.ownBlock with
    | none => exact .inl rfl
    | some q => exact .inr fun e => by have := hv q hq; injection e with e; omega
  exact ⟨h.r.kept hg (ne _ h4), h.s.kept hg (ne _ h6), h.m.grown hg (by intro e; injection e with e; omega), h.g.grown hg (by intro e; injection e with e; omega), h.o.grown hg (by intro e; injection e with e; omega),
    h.e.grown hg h.e.size (fun q hq => by injection hq with hq; omega)⟩
end
set_option maxHeartbeats 4000000 in
set_option maxRecDepth 100000 in
theorem trimmed_any (A : Option Addr) (n c : Nat) (rs : List Fac) (w : World) (hn : n ≤ 1048576) (hr : Rd w w.heap.size A n 3 Fac.cells rs) (hwf : WF rs) :
    Calls Try.prog 53 #[.agg #[.slice A n c]] w (RetG w (trimL rs)) := by
  have hl := Lib.hid hr.len
  have HR := Lib.hid hr; clear hr
  have HWF := Lib.hid hwf; clear hwf
  rcases Nat.eq_zero_or_pos n with hn0 | hn0
  · subst hn0
    have ev := Lib.hid (show trimL rs = [] by unfold trimL; rw [if_pos hl.out])
    go_enter Try.func53, Try.ntmps53
    go_wp2_with fail
    refine bodyPost_ret (v := .agg #[.slice none 0 0]) (by simp [results, Try.results53, go_sem]) rfl ⟨none, 0, by rw [ev.out]; rfl, ?_, ?_⟩
    · rw [ev.out]; exact World.ownsRow_nil _ _ _ _
    · (repeat first | exact Below.refl _ _ | assumption | refine Below.drew ?_ | refine Below.alloc ?_ (by first | exact Nat.le_refl _ | (simp; done) | omega | (simp; omega)) _ | refine Below.setCell ?_ (by first | exact Nat.le_refl _ | (simp; done) | omega | (simp; omega)) _)
  have hn0' : ((n : Int) == 0) = false := by simp; omega
  have hmm := @run_makeMap Try.prog
  go_enter Try.func53, Try.ntmps53
  go_wp2_with fail
  refine named fun w0 H0 => ?_
  have T0 : TrW w w0 A n c 0 (some ⟨w.heap.size + 1 + 1, 0, none⟩) 0 0 (some ⟨w.heap.size + 1 + 1 + 1 + 1, 0, none⟩) 0 [] [] [] := by
    rw [H0.out]
    refine ⟨?_, ?_, ?_, ?_, ?_, by (repeat first | exact Below.refl _ _ | assumption | refine Below.drew ?_ | refine Below.alloc ?_ (by first | exact Nat.le_refl _ | (simp; done) | omega | (simp; omega)) _ | refine Below.setCell ?_ (by first | exact Nat.le_refl _ | (simp; done) | omega | (simp; omega)) _)⟩
    · have h := World.ownsRow_made (base := w.heap.size) (e := 44) (size := 3) ((w.alloc (.cells #[.slice A n c] 24)).alloc (.cells #[.slice none 0 0] 24)) #[] 0 (by simp; omega) (by unfold maxLen; omega) rfl
      simpa using (h.alloc _).alloc _
    · have h := World.ownsRow_made (base := w.heap.size) (e := 2) (size := 1) ((((w.alloc (.cells #[.slice A n c] 24)).alloc (.cells #[.slice none 0 0] 24)).alloc (.cells #[] 44)).alloc (.map #[] 0)) #[] 0 (by simp; omega) (by unfold maxLen; omega) rfl
      simpa using h
    · have h := MapIs.made (((w.alloc (.cells #[.slice A n c] 24)).alloc (.cells #[.slice none 0 0] 24)).alloc (.cells #[] 44)) Fac.val
      simpa using h.alloc _
    · exact ((((Blk.new w _ _).alloc _).alloc _).alloc _).alloc _
    · simpa using (((Blk.new (w.alloc _) _ _).alloc _).alloc _).alloc _
  have T0' := Lib.hid T0
  clear T0 H0 hmm hn0'
  have zr := Try.prog
  clear zr
  go_loopw [4, 6, 30] (fun r_ s_ i_ w' => ∃ (k : Nat) (A4 : Option Addr) (c4 : Nat) (A6 : Option Addr) (c6 : Nat) (kept : List Fac) (same : List Int) (m : List (Fac × Value)), i_ = .int .i64 k ∧ r_ = .slice A4 k c4 ∧ s_ = .slice A6 k c6 ∧ k ≤ n ∧ Hid (TrW w w' A n c k A4 c4 k A6 c6 kept same m) ∧
      Hid (∀ f, mget f m = if f ∈ kept then some (.int .i64 ((kept.idxOf f : Nat) : Int)) else none) ∧ Hid (TrI kept same) ∧ Hid (kept.length = k) ∧ Hid (trK (rs.drop k) kept same = trK rs [] [])) (fun _ _ i_ _ => n - (intOf i_).toNat)
  case atStart => exact ⟨0, _, 0, _, 0, [], [], [], rfl, rfl, rfl, by omega, T0', Lib.hid (fun f => rfl), Lib.hid TrI.nil, Lib.hid rfl, Lib.hid rfl⟩
  case round =>
    obtain ⟨k, A4, c4, A6, c6, kept, same, m, rfl, rfl, rfl, hk, TR, HM, HI, hkl, HK⟩ := hrel
    by_cases hlt : k < n
    · obtain ⟨b, o, x, rfl, hB, gx, c0, c1, c2⟩ := (HR.out.below TR.out.e).fac hlt
      have hBr : b < wr.heap.size := by have := TR.out.e.size; omega
      have Hstep := Lib.hid (trK_take rs gx HK.out)
      have HI2 := Lib.hid (HI.out.step HWF.out (by rw [hkl.out]; exact gx))
      have hsl := Lib.hid (HI.out.len.trans hkl.out)
      have Gx := Lib.hid gx
      clear gx
      obtain ⟨pb, hpb⟩ : ∃ pb, isP x = pb := ⟨_, rfl⟩
      have Hpb := Lib.hid hpb; clear hpb
      go_upto_if 36 with (go_at_call 49; refine (isPair_any x pb _ Hpb.out).mono ?_; rintro e w1 ⟨rfl, hb1'⟩)
      have b1 : Below wr.heap.size wr w1 := ((Below.refl wr.heap.size wr).alloc (Nat.le_refl _) _).trans (hb1'.mono (by simp))
      have TR1 := Lib.hid (TR.out.next b1)
      have BX1 := Lib.hid ((Blk.new wr 44 #[.string x.l, .int .i64 x.a, .int .i64 x.b]).next hb1')
      have zb := b1.size
      go_cut [] (fun wx => Hid (TrW w wx (some ⟨b, o, none⟩) n c k A4 c4 k A6 c6 kept same m) ∧ Hid (Blk wx wr.heap.size 44 #[.string (trR same x).l, .int .i64 (trR same x).a, .int .i64 (trR same x).b]))
      case first =>
        rcases HWF.out k x Gx.out with ⟨h0, ha0, ha1, hb0, hb1⟩ | ⟨cc, hcc, hxl, hxa, hxb⟩
        · obtain rfl : true = pb := by rw [← Hpb.out]; simp [isP, h0]
          have Hy := Lib.hid (show trR same x = ⟨⟨#[]⟩, same.getD x.a.toNat 0, same.getD x.b.toNat 0⟩ by unfold trR; rw [if_pos h0])
          have s1 := HI.out.s x.a.toNat (by have := hkl.out; omega)
          have s2 := HI.out.s x.b.toNat (by have := hkl.out; omega)
          obtain ⟨g6, cp6, hv6, hg60, hg61⟩ := TR1.out.s.form (by omega)
          obtain rfl : A6 = some ⟨g6, 0, none⟩ := by injection hv6
          have va : w1.cell? ⟨g6, x.a.toNat, none⟩ = some (.int .i64 (same.getD x.a.toNat 0)) := by
            have := own_at (sz := 1) (enc := intE) (fun _ _ => rfl) TR1.out.s hsl.out 0 x.a.toNat (by omega) 0 (by omega)
            rw [Nat.mul_one, Nat.add_zero] at this; exact this
          have vb : w1.cell? ⟨g6, x.b.toNat, none⟩ = some (.int .i64 (same.getD x.b.toNat 0)) := by
            have := own_at (sz := 1) (enc := intE) (fun _ _ => rfl) TR1.out.s hsl.out 0 x.b.toNat (by omega) 0 (by omega)
            rw [Nat.mul_one, Nat.add_zero] at this; exact this
          generalize same.getD x.a.toNat 0 = sa at *
          generalize same.getD x.b.toNat 0 = sb at *
          obtain ⟨d0, d1, d2⟩ := BX1.out.three
          have lx := BX1.out.lt
          have i1 : x.a < (k : Int) := ha1
          have i2 : x.b < (k : Int) := hb1
          clear hv6
          go_wp2_with fail
          go_region_with
            (first
              | (go_at_call 29
                 refine (pair64_any sa sb w1.drew (by omega) (by omega)).mono ?_
                 rintro e wm ⟨rfl, hbm⟩
                 have bm : Below w1.heap.size w1 wm := (Below.refl _ _).drew.trans hbm
                 have BXm := Lib.hid (BX1.out.next bm)
                 have fm := BXm.out.frozen
                 have lm := BXm.out.lt
                 obtain ⟨m0, m1, m2⟩ := BXm.out.three)
              | fail)
          all_goals
            go_wp2_with fail
            go_meet
            have BY := ((BXm.out.set_ 0 (.string .empty)).set_ 1 (.int .i64 sa)).set_ 2 (.int .i64 sb)
            have TRm := TR1.out.next bm
            have nb : ∀ q, q < wr.heap.size → q ≠ wr.heap.size := fun q hq => by omega
            refine ⟨Lib.hid (TrW.box3 TRm (by have := TR.out.e.size; omega) (TR.out.bnd) _ _ _), Lib.hid ?_⟩
            rw [Hy.out]; exact BY
        · obtain rfl : false = pb := by rw [← Hpb.out]; unfold isP; rw [hxl]; rfl
          have Hy := Lib.hid (show trR same x = x by unfold trR; rw [if_neg (by rw [hxl]; show (1 : Nat) ≠ 0; omega)])
          go_wp2_with fail
          go_meet
          exact ⟨TR1, by rw [Hy.out]; exact BX1⟩
      case rest =>
        obtain ⟨TR2, BX2⟩ := hcut
        have zmap := Lib.hid (show w.heap.size + 3 < wr.heap.size from TR.out.bnd.2.2)
        have nbR := Lib.hid (show some wr.heap.size ≠ (Value.slice A4 k c4).ownBlock from fun e => by have := TR.out.bnd.1 _ e.symm; omega)
        have nbS := Lib.hid (show some wr.heap.size ≠ (Value.slice A6 k c6).ownBlock from fun e => by have := TR.out.bnd.2.1 _ e.symm; omega)
        clear TR TR1 BX1 Hpb hb1' b1 c0 c1 c2
        generalize trR same x = y at *
        have hyk : k = kept.length := hkl.out.symm
        have Hyk := Lib.hid hyk; clear hyk
        obtain ⟨d0, d1, d2⟩ := BX2.out.three
        have lx := BX2.out.lt
        obtain ⟨kn, hkn⟩ : ∃ kn, (mget y m).isSome = kn := ⟨_, rfl⟩
        obtain ⟨vv, hvv⟩ : ∃ vv, (mget y m).getD (.int .i64 0) = vv := ⟨_, rfl⟩
        have Hkn := Lib.hid hkn
        clear hkn
        go_upto_if 55 with (at_lookup; refine wpList_lookOk rfl _ _ rfl rule_key Try.underlying81 (zero_i64 _) rfl y rfl TR2.out.m ?_; rw [Hkn.out, hvv])
        go_cut [] (fun wx => ∃ m', Hid (TrW w wx (some ⟨b, o, none⟩) n c k A4 c4 k A6 c6 kept same m') ∧ Hid (∀ f, mget f m' = if f ∈ kept ++ [y] then some (.int .i64 (((kept ++ [y]).idxOf f : Nat) : Int)) else none) ∧ Hid (Blk wx wr.heap.size 44 #[.string y.l, .int .i64 y.a, .int .i64 y.b]))
        case first =>
          by_cases hmem : y ∈ kept
          · obtain rfl : true = kn := by rw [← Hkn.out, HM.out, if_pos hmem]; rfl
            go_wp2_with fail
            go_meet
            exact ⟨m, TR2, Lib.hid (map_known HM.out hmem), BX2⟩
          · obtain rfl : false = kn := by rw [← Hkn.out, HM.out, if_neg hmem]; rfl
            go_wp2_with
              (at_mapUpdate
               refine wpList_put (w0 := w) rfl _ _ _ rfl rule_key Try.underlying81 rfl y (.int .i64 (k : Int)) rfl rfl TR2.out.m w.heap.size rfl (by omega) TR2.out.e ?_
               intro w7 hm7 hg7 hb7
               have HM7 := Lib.hid hm7
               have HG7 := Lib.hid hg7
               have HB7 := Lib.hid hb7
               clear hm7 hg7 hb7)
            go_meet
            refine ⟨_, Lib.hid (TrW.put TR2.out HM7.out HG7.out HB7.out), Lib.hid (fun f => ?_), Lib.hid (BX2.out.grown HG7.out (by intro e; injection e with e; have := zmap.out; omega))⟩
            rw [mget_mput, Hyk.out]
            exact map_new HM.out hmem f
        case rest =>
          obtain ⟨m', TR3, HM3, BX3⟩ := hcut
          have hv' := HM3.out y
          rw [if_pos (by simp), idx_app2] at hv'
          have hgk : k ≤ 1048576 := by omega
          have hvb : kept.idxOf y ≤ k := by have := List.idxOf_le_length (a := y) (l := kept); have := hkl.out; omega
          generalize hvz : ((kept.idxOf y : Nat) : Int) = v at *
          have T0 := Lib.hid (TR3.out.drew)
          have T1 := Lib.hid ((TR3.out.alloc (.cells #[.string y.l, .int .i64 y.a, .int .i64 y.b] 44)).drew)
          have T2 := Lib.hid (((TR3.out.alloc (.cells #[.string y.l, .int .i64 y.a, .int .i64 y.b] 44)).alloc (.cells #[.int .i64 v] 2)).drew)
          have T3 := Lib.hid (((TR3.out.alloc (.cells #[.int .i64 v] 2)).alloc (.cells #[.string y.l, .int .i64 y.a, .int .i64 y.b] 44)).drew)
          have T4 := Lib.hid ((TR3.out.alloc (.cells #[.int .i64 v] 2)).drew)
          have lk := fun (W : World) (h : MapIs W (w.heap.size + 3) Fac.val m') => show (Instr.lookup 81 (.map (some (w.heap.size + 1 + 1 + 1))) (.agg #[.string y.l, .int .i64 y.a, .int .i64 y.b]) false).run Try.prog W = .ok (.int .i64 v) W by
            have := h.look rule_key Try.underlying81 (zero_i64 W) y
            rw [hv'] at this
            exact this
          have LK := Lib.hid lk
          have l0 := lk _ T0.out.m
          have l1 := lk _ T1.out.m
          clear lk hv'
          obtain ⟨d0, d1, d2⟩ := BX3.out.three
          have lx := BX3.out.lt
          have X1 := Lib.hid ((BX3.out.alloc (.cells #[.string y.l, .int .i64 y.a, .int .i64 y.b] 44)).drew)
          have X2 := Lib.hid (((BX3.out.alloc (.cells #[.string y.l, .int .i64 y.a, .int .i64 y.b] 44)).alloc (.cells #[.int .i64 v] 2)).drew)
          have X3 := Lib.hid (((BX3.out.alloc (.cells #[.int .i64 v] 2)).alloc (.cells #[.string y.l, .int .i64 y.a, .int .i64 y.b] 44)).drew)
          have X4 := Lib.hid ((BX3.out.alloc (.cells #[.int .i64 v] 2)).drew)
          have P2R := Lib.hid (((Blk.new wc 44 #[.string y.l, .int .i64 y.a, .int .i64 y.b]).alloc (.cells #[.int .i64 v] 2)).drew)
          have P3S := Lib.hid (((Blk.new wc 2 #[.int .i64 v]).alloc (.cells #[.string y.l, .int .i64 y.a, .int .i64 y.b] 44)).drew)
          have P2S := Lib.hid (show Blk ((wc.alloc (.cells #[.string y.l, .int .i64 y.a, .int .i64 y.b] 44)).alloc (.cells #[.int .i64 v] 2)).drew (wc.heap.size + 1) 2 #[.int .i64 v] by
            have h := Blk.new (wc.alloc (.cells #[.string y.l, .int .i64 y.a, .int .i64 y.b] 44)) 2 #[.int .i64 v]
            rw [show (wc.alloc (.cells #[.string y.l, .int .i64 y.a, .int .i64 y.b] 44)).heap.size = wc.heap.size + 1 by simp] at h; exact h.drew)
          have P3R := Lib.hid (show Blk ((wc.alloc (.cells #[.int .i64 v] 2)).alloc (.cells #[.string y.l, .int .i64 y.a, .int .i64 y.b] 44)).drew (wc.heap.size + 1) 44 #[.string y.l, .int .i64 y.a, .int .i64 y.b] by
            have h := Blk.new (wc.alloc (.cells #[.int .i64 v] 2)) 44 #[.string y.l, .int .i64 y.a, .int .i64 y.b]
            rw [show (wc.alloc (.cells #[.int .i64 v] 2)).heap.size = wc.heap.size + 1 by simp] at h; exact h.drew)
          have zk : (k + 1) * 32 ≤ 140737488355328 := by omega
          have zk8 : (k + 1) * 8 ≤ 140737488355328 := by omega
          have zkm : k + 1 ≤ maxLen := by unfold maxLen; omega
          go_wp2_with fail
          go_region_law
            (first
              | (refine step_push (by rfl) _ _ _ (by rfl) w.heap.size 44 3 32 elem_rule Fac.cells A4 k c4 kept (by rfl) (by with_reducible first | exact T1.out.r | exact T2.out.r | exact T3.out.r | exact (tS.alloc _).r | exact tS.r) _ y #[.string y.l, .int .i64 y.a, .int .i64 y.b] 44 (0, 0) (by rfl) (by first | exact heap_alloc_new _ _ | exact P2R.out | exact P3R.out | exact bR) rfl rfl (one_fac _) (by omega) zk zkm (by with_reducible first | exact T1.out.e.size | exact T2.out.e.size | exact T3.out.e.size | exact (tS.alloc _).e.size | exact tS.e.size) ?_
                 intro A8 c8 w8 own8 hg8 old8
                 with_reducible first
                   | (have tR := T1.out.pushR own8 hg8
                      have xx := X1.out.grown hg8 nbR.out)
                   | (have tR := T2.out.pushR own8 hg8
                      have xx := X2.out.grown hg8 nbR.out
                      have bS := P2S.out.grown hg8 (own_blk_ne T2.out.r P2S.out (by decide)))
                   | (have tR := T3.out.pushR own8 hg8
                      have xx := X3.out.grown hg8 nbR.out
                      have bS := P3S.out.grown hg8 (own_blk_ne T3.out.r P3S.out (by decide)))
                   | have tRS := (tS.alloc _).pushR own8 hg8
                   | have tRS := tS.pushR own8 hg8
                 try
                   (have l8 := LK.out _ tR.m
                    obtain ⟨e0, e1, e2⟩ := xx.three
                    have le := xx.lt))
              | (refine step_push (by rfl) _ _ _ (by rfl) w.heap.size 2 1 8 elem_int intE A6 k c6 same (by rfl) (by with_reducible first | exact T4.out.s | exact T2.out.s | exact T3.out.s | exact (tR.alloc _).s | exact tR.s) _ v #[.int .i64 v] 2 (0, 0) (by rfl) (by first | exact heap_alloc_new _ _ | exact P2S.out | exact P3S.out | exact bS) rfl rfl (by simp [intE, Value.oneCell']) (by omega) zk8 zkm (by with_reducible first | exact T4.out.e.size | exact T2.out.e.size | exact T3.out.e.size | exact (tR.alloc _).e.size | exact tR.e.size) ?_
                 intro A9 c9 w9 own9 hg9 old9
                 with_reducible first
                   | (have tS := T4.out.pushS own9 hg9
                      have xx := X4.out.grown hg9 nbS.out)
                   | (have tS := T2.out.pushS own9 hg9
                      have xx := X2.out.grown hg9 nbS.out
                      have bR := P2R.out.grown hg9 (own_blk_ne T2.out.s P2R.out (by decide)))
                   | (have tS := T3.out.pushS own9 hg9
                      have xx := X3.out.grown hg9 nbS.out
                      have bR := P3R.out.grown hg9 (own_blk_ne T3.out.s P3R.out (by decide)))
                   | have tRS := (tR.alloc _).pushS own9 hg9
                   | have tRS := tR.pushS own9 hg9
                 try
                   (obtain ⟨e0, e1, e2⟩ := xx.three
                    have le := xx.lt)))
          all_goals
            go_wp2_with fail
            go_roundw
            case rel =>
              refine ⟨k + 1, _, _, _, _, kept ++ [y], same ++ [v], m', by go_num, rfl, rfl, by omega, Lib.hid tRS, HM3, HI2, Lib.hid (by rw [List.length_append, hkl.out]; rfl), Hstep⟩
            case measure => simp [intOf]; omega
    · obtain rfl : k = n := by omega
      have HA := Lib.hid (trK_all (by rw [hl.out]; omega) HK.out)
      have hI := HI.out
      have sv := hI.s (k - 1) (by have := hkl.out; omega)
      obtain ⟨g6, cp6, hv6, hg60, hg61⟩ := TR.out.s.form (by omega)
      obtain rfl : A6 = some ⟨g6, 0, none⟩ := by injection hv6
      have cs : wr.cell? ⟨g6, k - 1, none⟩ = some (.int .i64 (same.getD (k - 1) 0)) := by
        have := own_at (sz := 1) (enc := intE) (fun _ _ => rfl) TR.out.s (hI.len.trans hkl.out) 0 (k - 1) (by omega) 0 (by omega)
        rw [Nat.mul_one, Nat.add_zero] at this; exact this
      have Hu0 := Lib.hid (show use0 k same = (List.replicate k false).set (same.getD (k - 1) 0).toNat true from rfl)
      generalize same.getD (k - 1) 0 = z at *
      obtain ⟨z0, z1⟩ := sv
      have u1 : IntKind.i64.wrap ((k : Int) - 1) = (k : Int) - 1 := IntWalk.i64_in _ (by omega)
      have z2 : z < (k : Int) := by omega
      have j0 : (0 : Int) ≤ (k : Int) - 1 := by omega
      have j1 : (k : Int) - 1 < (k : Int) := by omega
      have jn : ((k : Int) - 1).toNat = k - 1 := by omega
      have mkB := fun W => makeB k W (by omega)
      have bz := boolA_at (List.replicate k false) (i := z.toNat) (by rw [List.length_replicate]; omega)
      have zk : z.toNat < k := by omega
      clear hv6 hI
      go_wp2_with fail
      refine named fun w2 H2 => ?_
      obtain ⟨g4, cp4, hv4, hg40, hg41⟩ := TR.out.r.form (by omega)
      obtain rfl : A4 = some ⟨g4, 0, none⟩ := by injection hv4
      have TU := Lib.hid (show TrW w w2 A k c k (some ⟨g4, 0, none⟩) c4 k (some ⟨g6, 0, none⟩) c6 kept same m by rw [H2.out]; exact TR.out.alloc _)
      have BU := Lib.hid (show Blk w2 wr.heap.size 4 (boolA (use0 k same)) by rw [H2.out, Hu0.out, ← boolA_set]; exact Blk.new _ _ _)
      have hbd := Lib.hid TR.out.bnd
      have hU : w.heap.size ≤ wr.heap.size := TR.out.e.size
      have hlu : (use0 k same).length = k := by rw [Hu0.out]; simp
      clear H2 HK Hu0 mkB bz cs TR hv4
      generalize wr.heap.size = U at *
      have HI' := HI
      go_loopw [12] (fun j_ w' => ∃ (j : Nat) (u : List Bool) (y : Int), j_ = .int .i64 y ∧ y + 1 = (j : Int) ∧ j ≤ k ∧ Hid (TrW w w' A k c k (some ⟨g4, 0, none⟩) c4 k (some ⟨g6, 0, none⟩) c6 kept same m) ∧ Hid (Blk w' U 4 (boolA u)) ∧ Hid (u.length = k) ∧
        Hid (useT kept j u = useT kept k (use0 k same))) (fun j_ _ => (intOf j_ + 1).toNat)
      case atStart => exact ⟨k, _, _, rfl, by omega, Nat.le_refl _, TU, BU, Lib.hid hlu, Lib.hid rfl⟩
      case round =>
        obtain ⟨j, u, y, rfl, hy, hj, T2, B2, hu, HU⟩ := hrel
        rcases j with _ | i
        · obtain rfl : y = -1 := by omega
          go_wp2_with fail
          have mkN := fun W => makeN k W (by omega)
          have e := HU.out
          rw [show useT kept 0 u = u from rfl] at e
          have HU2 := Lib.hid e
          clear e HU hy hj
          go_cut [14, 15] (fun p_ s_ wx => ∃ (B V X : Nat), p_ = .pointer (some ⟨B, 0, none⟩) ∧ s_ = .slice (some ⟨V, 0, none⟩) k k ∧ Hid (OutW (w.heap.size + 1) w wx (some ⟨g4, 0, none⟩) c4 k kept X U u V (List.replicate k 0) B none 0 0 []))
          case first =>
            go_region
            all_goals
              go_wp2_with fail
              go_meet
              have lo := T2.out.o.lt
              have lu := B2.out.lt
              have n6 : ∀ q, (Value.slice (some ⟨g4, 0, none⟩) k c4).ownBlock = some q → q < wr.heap.size := fun q hq => by have := hbd.out.1 q hq; omega
              first
                | (refine ⟨wr.heap.size + 1, wr.heap.size, wr.heap.size + 2, rfl, rfl, Lib.hid ?_⟩
                   have hb : Below wr.heap.size wr ((wr.alloc (.cells (intA (List.replicate k 0)) 2)).alloc (.cells #[.slice none 0 0] 24)).drew := (((Below.refl _ _).alloc (Nat.le_refl _) _).alloc (by simp) _).drew
                   have T5 := T2.out.next hb
                   refine ⟨T5.r, B2.out.next hb, ((Blk.new wr _ _).alloc _).drew, ?_, T5.o, World.ownsRow_nil _ _ _ _, T5.e, by omega, by omega, by omega, by omega, by omega, by simp, fun q hq => by have := n6 q hq; omega⟩
                   have h := Blk.new (wr.alloc (.cells (intA (List.replicate k 0)) 2)) 24 #[.slice none 0 0]
                   rw [show (wr.alloc (.cells (intA (List.replicate k 0)) 2)).heap.size = wr.heap.size + 1 by simp] at h
                   exact h.drew)
                | (refine ⟨wr.heap.size, wr.heap.size + 1, wr.heap.size + 2, rfl, rfl, Lib.hid ?_⟩
                   have hb : Below wr.heap.size wr ((wr.alloc (.cells #[.slice none 0 0] 24)).alloc (.cells (intA (List.replicate k 0)) 2)).drew := (((Below.refl _ _).alloc (Nat.le_refl _) _).alloc (by simp) _).drew
                   have T5 := T2.out.next hb
                   refine ⟨T5.r, B2.out.next hb, ?_, ((Blk.new wr _ _).alloc _).drew, T5.o, World.ownsRow_nil _ _ _ _, T5.e, by omega, by omega, by omega, by omega, by omega, by simp, fun q hq => by have := n6 q hq; omega⟩
                   have h := Blk.new (wr.alloc (.cells #[.slice none 0 0] 24)) 2 (intA (List.replicate k 0))
                   rw [show (wr.alloc (.cells #[.slice none 0 0] 24)).heap.size = wr.heap.size + 1 by simp] at h
                   exact h.drew)
          case rest =>
            obtain ⟨B, V, X, rfl, rfl, O0⟩ := hcut
            have hul := hu.out
            clear T2 B2 hu mkN TU BU hlu
            have key := Lib.hid (show trimL rs = outT u 0 kept [] (List.replicate k 0) by
              unfold trimL
              rw [← HA.out, hl.out, if_neg (by omega), ← HU2.out])
            have ulen := Lib.hid hul
            clear hul HU2 HA
            go_wp2_with fail
            refine named fun w4 H4 => ?_
            have O1 := Lib.hid (show OutW (w.heap.size + 1) w w4 (some ⟨g4, 0, none⟩) c4 k kept X U u V (List.replicate k 0) B none 0 0 [] by rw [H4.out]; exact O0.out)
            clear O0 H4
            go_loopw [110] (fun i_ w' => ∃ (i nn : Nat) (A7 : Option Addr) (c7 : Nat) (out : List Fac) (at_ : List Int), i_ = .int .i64 i ∧ i ≤ k ∧ nn ≤ i ∧ Hid (OutW (w.heap.size + 1) w w' (some ⟨g4, 0, none⟩) c4 k kept X U u V at_ B A7 nn c7 out) ∧ Hid (out.length = nn) ∧ Hid (at_.length = k) ∧
              Hid (∀ j, 0 ≤ at_.getD j 0 ∧ at_.getD j 0 ≤ 1048576) ∧ Hid (outT u i (kept.drop i) out at_ = outT u 0 kept [] (List.replicate k 0))) (fun i_ _ => k - (intOf i_).toNat)
            case atStart =>
              exact ⟨0, 0, none, 0, [], _, rfl, by omega, by omega, O1, Lib.hid rfl, Lib.hid (by simp), Lib.hid (fun j => by rw [List.getD_eq_getElem?_getD, List.getElem?_replicate]; split <;> simp), Lib.hid rfl⟩
            case round =>
              obtain ⟨i, nn, A7, c7, out, at_, rfl, hi, hnn, O2, hol, hal, har, HO⟩ := hrel
              by_cases hlt : i < k
              · obtain ⟨x, hx⟩ : ∃ x, kept[i]? = some x := ⟨_, List.getElem?_eq_getElem (by have := hkl.out; omega)⟩
                have hxd : kept.getD i default = x := by rw [List.getD_eq_getElem?_getD, hx]; rfl
                have cel := fun (q : Nat) (hq : q < 3) => own_at (sz := 3) (enc := Fac.cells) (fun _ _ => rfl) O2.out.r hkl.out default i (by omega) q hq
                rw [hxd] at cel
                have c0 : wr.cell? ⟨g4, i * 3, none⟩ = some (.string x.l) := cel 0 (by omega)
                have c1 : wr.cell? ⟨g4, i * 3 + 1, none⟩ = some (.int .i64 x.a) := cel 1 (by omega)
                have c2 : wr.cell? ⟨g4, i * 3 + 2, none⟩ = some (.int .i64 x.b) := cel 2 (by omega)
                clear cel hxd
                have bu := O2.out.u.cell i
                rw [boolA_at u (i := i) (by have := ulen.out; omega)] at bu
                have ho := HO.out
                rw [drop_cons hx] at ho
                have HX := Lib.hid hx
                obtain ⟨ub, hub⟩ : ∃ ub, u.getD i false = ub := ⟨_, rfl⟩
                rw [hub] at bu
                have Hub := Lib.hid hub
                clear hub hx
                have lU := O2.out.u.lt
                have a3 : Below wr.heap.size wr (wr.alloc (.cells #[.string x.l, .int .i64 x.a, .int .i64 x.b] 44)) := (Below.refl _ _).alloc (Nat.le_refl _) _
                have O3 := Lib.hid (O2.out.next a3)
                cases ub
                · have e : outT u (i + 1) (kept.drop (i + 1)) out at_ = outT u 0 kept [] (List.replicate k 0) := by
                    rw [← ho, outT, if_neg (by rw [Hub.out]; simp)]
                  have E := Lib.hid e
                  clear e ho
                  go_wp2_with fail
                  go_roundw
                  case rel => exact ⟨i + 1, nn, A7, c7, out, at_, by go_num, by omega, by omega, O3, hol, hal, har, E⟩
                  case measure => first | (simp [intOf]; done) | (simp [intOf]; omega)
                · have e : outT u (i + 1) (kept.drop (i + 1)) (out ++ [trR at_ x]) (at_.set i (nn : Int)) = outT u 0 kept [] (List.replicate k 0) := by
                    rw [← ho, outT, if_pos Hub.out, hol.out]
                  have E := Lib.hid e
                  clear e ho
                  obtain ⟨pb, hpb⟩ : ∃ pb, isP x = pb := ⟨_, rfl⟩
                  have Hpb := Lib.hid hpb; clear hpb
                  go_upto_if 121 with (go_at_call 49; refine (isPair_any x pb _ Hpb.out).mono ?_; rintro e w1 ⟨rfl, hb1'⟩)
                  have O4 := Lib.hid (O3.out.next hb1')
                  have BX1 := Lib.hid ((Blk.new wr 44 #[.string x.l, .int .i64 x.a, .int .i64 x.b]).next hb1')
                  have hsz : wr.heap.size < w1.heap.size := BX1.out.lt
                  go_cut [] (fun wx => Hid (OutW (w.heap.size + 1) w wx (some ⟨g4, 0, none⟩) c4 k kept X U u V at_ B A7 nn c7 out) ∧ Hid (Blk wx wr.heap.size 44 #[.string (trR at_ x).l, .int .i64 (trR at_ x).a, .int .i64 (trR at_ x).b]))
                  case first =>
                    rcases HI.out.k i x HX.out with ⟨h0, ha0, ha1, hb0, hb1⟩ | ⟨cc, hcc, hxl, hxa, hxb⟩
                    · obtain rfl : true = pb := by rw [← Hpb.out]; simp [isP, h0]
                      have Hy := Lib.hid (show trR at_ x = ⟨⟨#[]⟩, at_.getD x.a.toNat 0, at_.getD x.b.toNat 0⟩ by unfold trR; rw [if_pos h0])
                      have s1 := har.out x.a.toNat
                      have s2 := har.out x.b.toNat
                      have va := O4.out.v.cell x.a.toNat
                      rw [intA_at at_ (by have := hal.out; omega)] at va
                      have vb := O4.out.v.cell x.b.toNat
                      rw [intA_at at_ (by have := hal.out; omega)] at vb
                      generalize at_.getD x.a.toNat 0 = sa at *
                      generalize at_.getD x.b.toNat 0 = sb at *
                      obtain ⟨d0, d1, d2⟩ := BX1.out.three
                      have lx := BX1.out.lt
                      have i1 : x.a < (k : Int) := by omega
                      have i2 : x.b < (k : Int) := by omega
                      clear c0 c1 c2 bu
                      go_wp2_with fail
                      go_region_with
                        (first
                          | (go_at_call 29
                             refine (pair64_any sa sb w1.drew (by omega) (by omega)).mono ?_
                             rintro e wm ⟨rfl, hbm⟩
                             have bm : Below w1.heap.size w1 wm := (Below.refl _ _).drew.trans hbm
                             have BXm := Lib.hid (BX1.out.next bm)
                             have fm := BXm.out.frozen
                             have lm := BXm.out.lt
                             obtain ⟨m0, m1, m2⟩ := BXm.out.three)
                          | fail)
                      all_goals
                        go_wp2_with fail
                        go_meet
                        have BY := ((BXm.out.set_ 0 (.string .empty)).set_ 1 (.int .i64 sa)).set_ 2 (.int .i64 sb)
                        have Om := O4.out.next bm
                        have hgm := gb_setCell (gb_setCell (gb_set wm wr.heap.size 0 (.string .empty)) 1 (.int .i64 sa)) 2 (.int .i64 sb)
                        refine ⟨Lib.hid (Om.far hgm (fun e => by have := O2.out.n6 _ e.symm; have := O2.out.n5; omega) (fun e => by have := (O2.out.q.lt _ e.symm).2; omega) (by have := O2.out.u.lt; omega) (by have := O2.out.v.lt; omega) (by have := O2.out.b.lt; omega) (by have := O2.out.o.lt; omega)), Lib.hid ?_⟩
                        rw [Hy.out]; exact BY
                    · obtain rfl : false = pb := by rw [← Hpb.out]; unfold isP; rw [hxl]; rfl
                      have Hy := Lib.hid (show trR at_ x = x by unfold trR; rw [if_neg (by rw [hxl]; show (1 : Nat) ≠ 0; omega)])
                      clear hxl hxa hxb
                      go_wp2_with fail
                      go_meet
                      exact ⟨O4, by rw [Hy.out]; exact BX1⟩
                  case rest =>
                    obtain ⟨O5, BX5⟩ := hcut
                    clear O3 O4 BX1 Hpb c0 c1 c2 bu
                    generalize trR at_ x = y at *
                    have f5 := O5.out.v.frozen
                    have v5 := O5.out.v.cell i
                    rw [intA_at at_ (by have := hal.out; omega)] at v5
                    have b5 := O5.out.b.cell 0
                    have k5 : (i : Int) < (k : Int) := by omega
                    have O6 := Lib.hid (O5.out.tell i (nn : Int))
                    have BX6 := Lib.hid (BX5.out.grown (gb_set wc V i (.int .i64 (nn : Int))) (by intro e; injection e with e; have := O2.out.v.lt; omega))
                    have b6 := O6.out.b.cell 0
                    obtain ⟨e0, e1, e2⟩ := BX6.out.three
                    have O7 := Lib.hid (O6.out.alloc (.cells #[.string y.l, .int .i64 y.a, .int .i64 y.b] 44))
                    have BN := Lib.hid (Blk.new (wc.setCell ⟨V, i, none⟩ (.int .i64 (nn : Int))) 44 #[.string y.l, .int .i64 y.a, .int .i64 y.b])
                    have sz7 : (wc.setCell ⟨V, i, none⟩ (.int .i64 (nn : Int))).heap.size = wc.heap.size := by simp
                    rw [sz7] at BN
                    go_wp2_with
                      (at_builtin
                       refine wpList_app rfl _ _ _ rfl X 44 3 32 elem_rule Fac.cells A7 nn c7 out rfl O7.out.q ⟨wc.heap.size, 0, none⟩ 1 1 [y] rfl rfl (by omega) (news1 BN.out) (fun x _ => fac_len x) (fun x _ => one_fac x) (by omega) (by omega) (by unfold maxLen; omega) O7.out.n5 ?_
                       intro A9 c9 w9 own9 hg9 hat9
                       have O8 := Lib.hid (O7.out.push own9 hg9)
                       have B9 := O7.out.b.grown hg9 (own_blk_ne O7.out.q O7.out.b (by decide))
                       have f9 := B9.frozen
                       have d9 := B9.cell 0
                       have l9 := B9.lt
                       clear own9 B9)
                    go_roundw
                    case rel =>
                      exact ⟨i + 1, nn + 1, A9, c9, out ++ [y], at_.set i (nn : Int), by go_num, by omega, by omega, O8, Lib.hid (by simp [hol.out]), Lib.hid (by simp [hal.out]),
                        Lib.hid (fun j => by
                          have h := har.out j
                          rw [List.getD_eq_getElem?_getD, List.getElem?_set]
                          split
                          · split
                            · simp; omega
                            · simp
                          · rw [← List.getD_eq_getElem?_getD]; exact h), E⟩
                    case measure => first | (simp [intOf]; done) | (simp [intOf]; omega)
              · obtain rfl : i = k := by omega
                have hk2 := Lib.hid (show trimL rs = out by
                  rw [key.out, ← HO.out, List.drop_of_length_le (by rw [hkl.out]; exact Nat.le_refl _)]; rfl)
                have b0 := O2.out.b.cell 0
                have o0 := O2.out.o.cell 0
                have fo := O2.out.o.frozen
                go_wp2_with fail
                have hg := gb_set wr (w.heap.size + 1) 0 (.slice A7 nn c7)
                have x9 := O2.out.o.set_ 0 (.slice A7 nn c7)
                have x10 : (wr.setCell ⟨w.heap.size + 1, 0, none⟩ (.slice A7 nn c7)).cell? ⟨w.heap.size + 1, 0, none⟩ = some (.slice A7 nn c7) := by rw [x9.cell 0]; rfl
                refine bodyPost_ret (v := .agg #[.slice A7 nn c7]) (by simp [results, Try.results53, go_sem, x10]) rfl ⟨A7, c7, by rw [hk2.out, hol.out], ?_, O2.out.e.grown hg O2.out.e.size (fun q hq => by injection hq with hq; omega)⟩
                rw [hk2.out, hol.out]
                exact (O2.out.q.kept hg (.inr fun e => own_blk_ne O2.out.q O2.out.o (by decide) e.symm)).mono (by have := O2.out.n1; have := O2.out.n2; omega)
        · obtain rfl : y = (i : Int) := by omega
          obtain ⟨x, hx⟩ : ∃ x, kept[i]? = some x := ⟨_, List.getElem?_eq_getElem (by have := hkl.out; omega)⟩
          have hxd : kept.getD i default = x := by rw [List.getD_eq_getElem?_getD, hx]; rfl
          have cel := fun (q : Nat) (hq : q < 3) => own_at (sz := 3) (enc := Fac.cells) (fun _ _ => rfl) T2.out.r hkl.out default i (by omega) q hq
          rw [hxd] at cel
          have c0 : wr.cell? ⟨g4, i * 3, none⟩ = some (.string x.l) := cel 0 (by omega)
          have c1 : wr.cell? ⟨g4, i * 3 + 1, none⟩ = some (.int .i64 x.a) := cel 1 (by omega)
          have c2 : wr.cell? ⟨g4, i * 3 + 2, none⟩ = some (.int .i64 x.b) := cel 2 (by omega)
          clear cel
          have bu := B2.out.cell i
          rw [boolA_at u (i := i) (by have := hu.out; omega)] at bu
          have Hus := Lib.hid (show useStep kept i u = if u.getD i false = true ∧ x.l.size = 0 then (u.set x.a.toNat true).set x.b.toNat true else u by unfold useStep; rw [hxd])
          have HU' := Lib.hid (show useT kept i (useStep kept i u) = useT kept k (use0 k same) from HU.out)
          have HX := Lib.hid hx
          clear HU hx hxd
          obtain ⟨ub, hub⟩ : ∃ ub, u.getD i false = ub := ⟨_, rfl⟩
          rw [hub] at bu
          have Hub := Lib.hid hub
          clear hub
          have lU := B2.out.lt
          have u1 : IntKind.i64.wrap ((i : Int) - 1) = (i : Int) - 1 := IntWalk.i64_in _ (by omega)
          have a3 : Below wr.heap.size wr (wr.alloc (.cells #[.string x.l, .int .i64 x.a, .int .i64 x.b] 44)) := (Below.refl _ _).alloc (Nat.le_refl _) _
          have T3 := Lib.hid (T2.out.next a3)
          have B3 := Lib.hid (B2.out.next a3)
          cases ub
          · have e := Hus.out
            rw [Hub.out, if_neg (by simp)] at e
            have E := Lib.hid e
            clear e
            go_wp2_with fail
            go_roundw
            case rel => exact ⟨i, u, _, rfl, by omega, by omega, T3, B3, hu, by rw [E.out] at HU'; exact HU'⟩
            case measure => first | (simp [intOf]; done) | (simp [intOf]; omega)
          · obtain ⟨pb, hpb⟩ : ∃ pb, isP x = pb := ⟨_, rfl⟩
            have Hpb := Lib.hid hpb; clear hpb
            rcases HI.out.k i x HX.out with ⟨h0, ha0, ha1, hb0, hb1⟩ | ⟨cc, hcc, hxl, hxa, hxb⟩
            · obtain rfl : true = pb := by rw [← Hpb.out]; simp [isP, h0]
              have e := Hus.out
              rw [Hub.out, if_pos ⟨rfl, h0⟩] at e
              have E := Lib.hid e
              clear e
              go_wp2_with
                (go_at_call 49
                 refine (isPair_any x true _ Hpb.out).mono ?_
                 rintro e w1 ⟨rfl, hb1'⟩
                 have T4 := Lib.hid (T3.out.next hb1')
                 have B4 := Lib.hid (B3.out.next hb1')
                 have BX := Lib.hid ((Blk.new wr 44 #[.string x.l, .int .i64 x.a, .int .i64 x.b]).next hb1')
                 have lB := BX.out.lt
                 have lU4 := B4.out.lt
                 have fU := B4.out.frozen
                 obtain ⟨m0, m1, m2⟩ := BX.out.three
                 have da := B4.out.cell x.a.toNat
                 rw [boolA_at u (by have := hu.out; omega)] at da
                 have db := B4.out.cell x.b.toNat
                 rw [boolA_at u (by have := hu.out; omega)] at db
                 have B5 := B4.out.set_ x.a.toNat (.bool true)
                 rw [boolA_set] at B5
                 have db2 := B5.cell x.b.toNat
                 rw [boolA_at _ (by have := hu.out; rw [List.length_set]; omega)] at db2
                 clear B5
                 have ab : x.a < (k : Int) := by omega
                 have bb : x.b < (k : Int) := by omega
                 have nU : U ≠ wr.heap.size := by omega)
              go_region
              all_goals
                go_wp2_with fail
                go_roundw
                case rel =>
                  have B6 := (B4.out.set_ x.a.toNat (.bool true)).set_ x.b.toNat (.bool true)
                  rw [boolA_set, boolA_set, ← E.out] at B6
                  exact ⟨i, useStep kept i u, _, rfl, by omega, by omega, Lib.hid (TrW.set1 (TrW.set1 T4.out hU hbd.out _ _) hU hbd.out _ _).drew, Lib.hid B6.drew, Lib.hid (by rw [E.out]; simp [hu.out]), HU'⟩
                case measure => first | (simp [intOf]; done) | (simp [intOf]; omega)
            · obtain rfl : false = pb := by rw [← Hpb.out]; unfold isP; rw [hxl]; rfl
              have e := Hus.out
              rw [if_neg (by rw [hxl]; rintro ⟨-, h⟩; exact absurd h (show (1 : Nat) ≠ 0 by omega))] at e
              have E := Lib.hid e
              clear e hxl hxa hxb
              go_wp2_with
                (go_at_call 49
                 refine (isPair_any x false _ Hpb.out).mono ?_
                 rintro e w1 ⟨rfl, hb1'⟩
                 have T4 := Lib.hid (T3.out.next hb1')
                 have B4 := Lib.hid (B3.out.next hb1'))
              go_roundw
              case rel => exact ⟨i, u, _, rfl, by omega, by omega, T4, B4, hu, by rw [E.out] at HU'; exact HU'⟩
              case measure => first | (simp [intOf]; done) | (simp [intOf]; omega)
end Go.Proofs.Ytikhjoianbndhaa


/-
  TrimGrammar on both sides.
-/
namespace Go.Proofs.Ytikhjoianbndhaa
open Go.RowKit

/-- a grammar in new memory, and a code -/
def RetGC (w0 : World) (xs : List Fac) (k : Int) (e : Ending) (w' : World) : Prop :=
  ∃ A c, e = .returned (.tuple #[.agg #[.slice A xs.length c], .int .i64 k]) ∧ w'.ownsRow w0.heap.size 44 3 (.slice A xs.length c) xs.length (xs.flatMap Fac.cells) ∧ Below w0.heap.size w0 w'
def trimF (rs : List Fac) : List Fac := if (gOk rs).isSome then trimL rs else []
def trimC (rs : List Fac) : Int := if (gOk rs).isSome then 0 else 1
theorem outT_len (used : List Bool) : ∀ (ks : List Fac) (i : Nat) (out : List Fac) (at_ : List Int), (outT used i ks out at_).length ≤ out.length + ks.length
  | [], i, out, at_ => by simp [outT]
  | r :: ks, i, out, at_ => by
    rw [outT]
    split
    · have := outT_len used ks (i + 1) (out ++ [trR at_ r]) (at_.set i (out.length : Int))
      simp only [List.length_append, List.length_singleton] at this
      simp only [List.length_cons]; omega
    · have := outT_len used ks (i + 1) out at_
      simp only [List.length_cons]; omega
theorem trK_len : ∀ (rs kept : List Fac) (same : List Int), (trK rs kept same).1.length = kept.length + rs.length
  | [], kept, same => by simp [trK]
  | r :: rs, kept, same => by
    rw [trK, trK_len rs]; simp; omega
theorem trimF_len (rs : List Fac) : (trimF rs).length ≤ rs.length := by
  unfold trimF
  split
  · unfold trimL
    split
    · simp
    · have h1 := outT_len (useT (trK rs [] []).1 rs.length (use0 rs.length (trK rs [] []).2)) (trK rs [] []).1 0 [] (List.replicate rs.length 0)
      have h2 := trK_len rs [] []
      simp only [List.length_nil, Nat.zero_add] at h1 h2
      omega
  · simp
end Go.Proofs.Ytikhjoianbndhaa


/-
  A grammar, if it is valid: in the program and in the reference.
-/
namespace Go.Proofs.Ytikhjoianbndhaa
open Go.RowKit

/-- a grammar if it is valid, or the word that there is too much -/
def orLim (A : Option Addr) (n c : Nat) (b : Bool) : Value := bif b then .tuple #[.agg #[.slice A n c], .int .i64 0] else .tuple #[.agg #[.slice none 0 0], .int .i64 3]
def limF (rs : List Fac) : List Fac := if (gOk rs).isSome then rs else []
def limC (rs : List Fac) : Int := if (gOk rs).isSome then 0 else 3
theorem orLim_ret {w0 w w' : World} {A : Option Addr} {n c : Nat} {rs : List Fac} (hl : rs.length = n) (ho : w.ownsRow w0.heap.size 44 3 (.slice A n c) n (rs.flatMap Fac.cells)) (h0 : Below w0.heap.size w0 w) (hb : Below w.heap.size w w') :
    RetGC w0 (limF rs) (limC rs) (.returned (orLim A n c (gOk rs).isSome)) w' := by
  have h1 := h0.trans (hb.mono h0.size)
  unfold limF limC orLim
  rcases (gOk rs).isSome with _ | _
  · exact ⟨none, 0, rfl, World.ownsRow_nil _ _ _ _, h1⟩
  · exact ⟨A, c, by simp [hl], by simpa [hl] using own_next ho hb, h1⟩
theorem tuple2_ret {a b : Value} (h : a = b) : Ending.returned a = .returned b := by rw [h]
set_option maxHeartbeats 1000000 in
theorem orLimit_any (A : Option Addr) (n c : Nat) (rs : List Fac) (w : World) (hn : n ≤ 100000000) (hr : Rd w w.heap.size A n 3 Fac.cells rs) (hok : ∀ f ∈ rs, f.l.size ≤ maxLen) :
    Calls Try.prog 41 #[.agg #[.slice A n c]] w (Ret (orLim A n c (gOk rs).isSome) w) := by
  have HR := Lib.hid hr; clear hr
  have HO := Lib.hid hok; clear hok
  obtain ⟨b, hb⟩ : ∃ b, (gOk rs).isSome = b := ⟨_, rfl⟩
  rw [hb]
  have Hb := Lib.hid hb; clear hb
  have hT := Lib.hid (show orLim A n c b = bif b then .tuple #[.agg #[.slice A n c], .int .i64 0] else .tuple #[.agg #[.slice none 0 0], .int .i64 3] from rfl)
  generalize orLim A n c b = T at *
  go_enter Try.func41, Try.ntmps41
  go_wp2_with fail
  refine namedC fun w3 H3 => ?_
  have hb3 : Below w.heap.size w w3 := by rw [H3.out]; (repeat first | exact Below.refl _ _ | assumption | refine Below.drew ?_ | refine Below.alloc ?_ (by first | exact Nat.le_refl _ | (simp; done) | omega | (simp; omega)) _ | refine Below.setCell ?_ (by first | exact Nat.le_refl _ | (simp; done) | omega | (simp; omega)) _)
  have BG := Lib.hid (show Blk w3 w.heap.size 24 #[.slice A n c] by rw [H3.out]; exact (Blk.new _ _ _).alloc _)
  have BC := Lib.hid (show Blk w3 (w.heap.size + 1) 24 #[.slice none 0 0] by rw [H3.out]; simpa using Blk.new (w.alloc (.cells #[.slice A n c] 24)) 24 #[.slice none 0 0])
  clear H3
  refine (validG_any A n c rs w3 hn (HR.out.next hb3) HO.out b Hb.out).mono ?_
  rintro e1 w4 ⟨rfl, hb4⟩
  have b4 := hb3.trans (hb4.mono hb3.size)
  have BC4 := BC.out.next hb4
  have BG4 := BG.out.next hb4
  have d4 := BC4.cell 0
  have f4 := BC4.frozen
  have l4 := BC4.lt
  have g4 := BG4.cell 0
  cases b
  · have B5 := BC4.set_ 0 (.slice none 0 0)
    have x5 : (w4.setCell ⟨w.heap.size + 1, 0, none⟩ (.slice none 0 0)).cell? ⟨w.heap.size + 1, 0, none⟩ = some (.slice none 0 0) := by rw [B5.cell 0]; rfl
    have b5 := b4.setCell (p := ⟨w.heap.size + 1, 0, none⟩) (by simp) (.slice none 0 0)
    clear B5 BC4 BG4
    go_wp2_with fail
    exact bodyPost_ret (v := .tuple #[.agg #[.slice none 0 0], .int .i64 3]) (by simp [results, Try.results41, go_sem, x5]) rfl ⟨by rw [hT.out]; rfl, b5⟩
  · have B5 := BC4.set_ 0 (.slice A n c)
    have x5 : (w4.setCell ⟨w.heap.size + 1, 0, none⟩ (.slice A n c)).cell? ⟨w.heap.size + 1, 0, none⟩ = some (.slice A n c) := by rw [B5.cell 0]; rfl
    have b5 := b4.setCell (p := ⟨w.heap.size + 1, 0, none⟩) (by simp) (.slice A n c)
    clear B5 BC4 BG4
    go_wp2_with fail
    exact bodyPost_ret (v := .tuple #[.agg #[.slice A n c], .int .i64 0]) (by simp [results, Try.results41, go_sem, x5]) rfl ⟨by rw [hT.out]; rfl, b5⟩
theorem orLimit_yes (A : Option Addr) (n c : Nat) (rs : List Fac) (w : World) (hn : n ≤ 100000000) (hr : Rd w w.heap.size A n 3 Fac.cells rs) (hok : ∀ f ∈ rs, f.l.size ≤ maxLen) (h : (gOk rs).isSome = true) :
    Calls Try.prog 41 #[.agg #[.slice A n c]] w (Ret (.tuple #[.agg #[.slice A n c], .int .i64 0]) w) := by
  have := orLimit_any A n c rs w hn hr hok
  rw [h] at this; exact this
theorem orLimit_no (A : Option Addr) (n c : Nat) (rs : List Fac) (w : World) (hn : n ≤ 100000000) (hr : Rd w w.heap.size A n 3 Fac.cells rs) (hok : ∀ f ∈ rs, f.l.size ≤ maxLen) (h : (gOk rs).isSome = false) :
    Calls Try.prog 41 #[.agg #[.slice A n c]] w (Ret (.tuple #[.agg #[.slice none 0 0], .int .i64 3]) w) := by
  have := orLimit_any A n c rs w hn hr hok
  rw [h] at this; exact this
end Go.Proofs.Ytikhjoianbndhaa


/-
  A grammar trimmed, if it has not too many rules before: in the program and in the reference.
-/
namespace Go.Proofs.Ytikhjoianbndhaa
open Go.RowKit

def toldF (rs : List Fac) : List Fac := if 400 < rs.length then [] else trimL rs
def toldC (rs : List Fac) : Int := if 400 < rs.length then 3 else 0
theorem trimL_len (rs : List Fac) : (trimL rs).length ≤ rs.length := by
  unfold trimL
  split
  · simp
  · have h1 := outT_len (useT (trK rs [] []).1 rs.length (use0 rs.length (trK rs [] []).2)) (trK rs [] []).1 0 [] (List.replicate rs.length 0)
    have h2 := trK_len rs [] []
    simp at h1 h2
    omega
theorem toldF_len (rs : List Fac) : (toldF rs).length ≤ 400 := by
  unfold toldF
  split
  · simp
  · have := trimL_len rs; omega
/-- what a rule's word may be -/
def ShortV (rs : List Fac) : Prop := ∀ k, k < rs.length → (full 0 lenF lenG rs).getD k 0 ≤ 1000000000000000
theorem wf_size {rs : List Fac} (h : WF rs) : ∀ f ∈ rs, f.l.size ≤ maxLen := by
  intro f hf
  obtain ⟨k, hk, rfl⟩ := List.getElem_of_mem hf
  rcases h k _ (List.getElem?_eq_getElem hk) with q | ⟨c, _, q, _⟩
  · rw [q.1]; exact Nat.zero_le _
  · rw [q]; show 1 ≤ maxLen; unfold maxLen; omega
theorem told_lim {rs : List Fac} (hwf : WF rs) (hv : ShortV rs) (h : ¬ 400 < rs.length) : WF (trimL rs) ∧ (gOk (trimL rs)).isSome = true := by
  refine ⟨?_, trim_ok hwf hv (by have := trimL_len rs; omega)⟩
  by_cases h0 : rs.length = 0
  · have : trimL rs = [] := by unfold trimL; rw [if_pos h0]
    rw [this]; exact wf_nil
  · exact (trim_val 0 lenF lenG (fun _ _ _ _ => rfl) hwf (by omega)).1
set_option maxHeartbeats 1000000 in
set_option maxRecDepth 100000 in
theorem trimOrLimit_any (A : Option Addr) (n c : Nat) (rs : List Fac) (w : World) (hn : n ≤ 1048576) (hr : Rd w w.heap.size A n 3 Fac.cells rs) (hwf : WF rs) (hv : ShortV rs) :
    Calls Try.prog 31 #[.agg #[.slice A n c]] w (RetGC w (toldF rs) (toldC rs)) := by
  have hl := hr.len
  have HR := Lib.hid hr; clear hr
  have HWF := Lib.hid hwf
  by_cases hbig : 400 < n
  · have e1 := Lib.hid (show toldF rs = [] by unfold toldF; rw [if_pos (by omega)])
    have e2 := Lib.hid (show toldC rs = 3 by unfold toldC; rw [if_pos (by omega)])
    rw [e1.out, e2.out]
    clear e1 e2 hwf hv
    go_enter Try.func31, Try.ntmps31
    go_wp2_with fail
    refine bodyPost_ret (v := .tuple #[.agg #[.slice none 0 0], .int .i64 3]) (by simp [results, Try.results31, go_sem]) rfl ⟨none, 0, rfl, World.ownsRow_nil _ _ _ _, by (repeat first | exact Below.refl _ _ | assumption | refine Below.drew ?_ | refine Below.alloc ?_ (by first | exact Nat.le_refl _ | (simp; done) | omega | (simp; omega)) _ | refine Below.setCell ?_ (by first | exact Nat.le_refl _ | (simp; done) | omega | (simp; omega)) _)⟩
  · have hT := Lib.hid (told_lim hwf hv (by omega))
    have e1 := Lib.hid (show toldF rs = trimL rs by unfold toldF; rw [if_neg (by omega)])
    have e2 := Lib.hid (show toldC rs = 0 by unfold toldC; rw [if_neg (by omega)])
    have e3 := Lib.hid (show (trimL rs).length ≤ 400 by have := trimL_len rs; omega)
    rw [e1.out, e2.out]
    clear e1 e2 hwf hv
    go_enter Try.func31, Try.ntmps31
    go_wp2_with fail
    refine namedC fun w3 H3 => ?_
    have hb3 : Below w.heap.size w w3 := by rw [H3.out]; (repeat first | exact Below.refl _ _ | assumption | refine Below.drew ?_ | refine Below.alloc ?_ (by first | exact Nat.le_refl _ | (simp; done) | omega | (simp; omega)) _ | refine Below.setCell ?_ (by first | exact Nat.le_refl _ | (simp; done) | omega | (simp; omega)) _)
    have BC := Lib.hid (show Blk w3 (w.heap.size + 1) 24 #[.slice none 0 0] by rw [H3.out]; simpa using Blk.new (w.alloc (.cells #[.slice A n c] 24)) 24 #[.slice none 0 0])
    clear H3
    refine (trimmed_any A n c rs w3 hn (HR.out.next hb3) HWF.out).mono ?_
    rintro e w4 ⟨A4, c4, rfl, own4, hb4⟩
    have b4 := hb3.trans (hb4.mono hb3.size)
    have O4 := Lib.hid own4
    clear own4
    generalize trimL rs = T at *
    go_wp2_with fail
    refine (orLimit_yes A4 _ c4 T w4 (by have := e3.out; omega) (Rd.of_own (fun x _ => fac_len x) rfl O4.out) (wf_size hT.out.1) hT.out.2).mono ?_
    rintro e w5 ⟨rfl, hb5⟩
    have b5 := b4.trans (hb5.mono b4.size)
    have B5 := Lib.hid ((BC.out.next hb4).next hb5)
    have O5 := Lib.hid (own_next O4.out hb5)
    have d5 := B5.out.cell 0
    have f5 := B5.out.frozen
    have l5 := B5.out.lt
    have B6 := B5.out.set_ 0 (.slice A4 T.length c4)
    have x6 : (w5.setCell ⟨w.heap.size + 1, 0, none⟩ (.slice A4 T.length c4)).cell? ⟨w.heap.size + 1, 0, none⟩ = some (.slice A4 T.length c4) := by rw [B6.cell 0]; rfl
    have b6 := b5.setCell (p := ⟨w.heap.size + 1, 0, none⟩) (by simp) (.slice A4 T.length c4)
    have O6 := Lib.hid ((own_kept' O5.out B5.out (by decide) (.slice A4 T.length c4) (i := 0)).mono hb3.size)
    clear B6
    go_wp2_with fail
    exact bodyPost_ret (v := .tuple #[.agg #[.slice A4 T.length c4], .int .i64 0]) (by simp [results, Try.results31, go_sem, x6]) rfl ⟨A4, c4, rfl, O6.out, b6⟩
set_option maxHeartbeats 1000000 in
set_option maxRecDepth 100000 in
theorem l06Told_any (A : Option Addr) (n c : Nat) (rs : List Fac) (w : World) (hn : n ≤ 1048576) (hr : Rd w w.heap.size A n 3 Fac.cells rs) (hwf : WF rs) :
    Calls Try.prog 24 #[.slice A n c] w (RetGC w (toldF rs) (toldC rs)) := by
  have hl := hr.len
  have HR := Lib.hid hr; clear hr
  have HWF := Lib.hid hwf
  by_cases hbig : 400 < n
  · have e1 := Lib.hid (show toldF rs = [] by unfold toldF; rw [if_pos (by omega)])
    have e2 := Lib.hid (show toldC rs = 3 by unfold toldC; rw [if_pos (by omega)])
    rw [e1.out, e2.out]
    clear e1 e2 hwf
    go_enter Try.func24, Try.ntmps24
    go_wp2_with fail
    refine bodyPost_ret (v := .tuple #[.agg #[.slice none 0 0], .int .i64 3]) (by simp [results, Try.results24, go_sem]) rfl ⟨none, 0, rfl, World.ownsRow_nil _ _ _ _, by (repeat first | exact Below.refl _ _ | assumption | refine Below.drew ?_ | refine Below.alloc ?_ (by first | exact Nat.le_refl _ | (simp; done) | omega | (simp; omega)) _ | refine Below.setCell ?_ (by first | exact Nat.le_refl _ | (simp; done) | omega | (simp; omega)) _)⟩
  · have e1 := Lib.hid (show toldF rs = trimL rs by unfold toldF; rw [if_neg (by omega)])
    have e2 := Lib.hid (show toldC rs = 0 by unfold toldC; rw [if_neg (by omega)])
    rw [e1.out, e2.out]
    clear e1 e2 hwf
    go_enter Try.func24, Try.ntmps24
    go_wp2_with fail
    refine namedC fun w3 H3 => ?_
    have hb3 : Below w.heap.size w w3 := by rw [H3.out]; (repeat first | exact Below.refl _ _ | assumption | refine Below.drew ?_ | refine Below.alloc ?_ (by first | exact Nat.le_refl _ | (simp; done) | omega | (simp; omega)) _ | refine Below.setCell ?_ (by first | exact Nat.le_refl _ | (simp; done) | omega | (simp; omega)) _)
    have BC := Lib.hid (show Blk w3 w.heap.size 24 #[.slice none 0 0] by rw [H3.out]; exact (Blk.new _ _ _).alloc _)
    have BG := Lib.hid (show Blk w3 (w.heap.size + 1) 24 #[.slice A n c] by rw [H3.out]; simpa using Blk.new (w.alloc (.cells #[.slice none 0 0] 24)) 24 #[.slice A n c])
    clear H3
    refine (l02Trim_any (w.heap.size + 1) A n c rs w3 BG.out.lt (BG.out.cell 0) hn (HR.out.next hb3) HWF.out).mono ?_
    rintro e w4 ⟨A4, c4, rfl, own4, hb4⟩
    have b4 := hb3.trans (hb4.mono hb3.size)
    have O4 := Lib.hid own4
    clear own4
    generalize trimL rs = T at *
    have B5 := Lib.hid (BC.out.next hb4)
    have d5 := B5.out.cell 0
    have f5 := B5.out.frozen
    have l5 := B5.out.lt
    have B6 := B5.out.set_ 0 (.slice A4 T.length c4)
    have x6 : (w4.setCell ⟨w.heap.size, 0, none⟩ (.slice A4 T.length c4)).cell? ⟨w.heap.size, 0, none⟩ = some (.slice A4 T.length c4) := by rw [B6.cell 0]; rfl
    have b6 := b4.setCell (p := ⟨w.heap.size, 0, none⟩) (Nat.le_refl _) (.slice A4 T.length c4)
    have O6 := Lib.hid ((own_kept' O4.out B5.out (by decide) (.slice A4 T.length c4) (i := 0)).mono hb3.size)
    clear B6
    go_wp2_with fail
    exact bodyPost_ret (v := .tuple #[.agg #[.slice A4 T.length c4], .int .i64 0]) (by simp [results, Try.results24, go_sem, x6]) rfl ⟨A4, c4, rfl, O6.out, b6⟩
end Go.Proofs.Ytikhjoianbndhaa


/-
  All rules of a list made one, in the reference.
-/
namespace Go.Proofs.Ytikhjoianbndhaa
open Go.RowKit

/-- the chain under way -/
structure ChI (rs : List Fac) (ks : List Int) (i : Nat) (rs' : List Fac) (b : Int) : Prop where
  len : rs'.length + 1 = rs.length + i
  one : i = 1 → ∀ x, ks[0]? = some x → b = x
  more : i ≠ 1 → b = (rs'.length : Int) - 1
  eq : rs' ++ chF (ks.drop i) b rs'.length = chainL rs ks
theorem ChI.first (rs : List Fac) (ks : List Int) : ∃ b, ChI rs ks 1 rs b := by
  cases ks with
  | nil => exact ⟨0, ⟨rfl, fun _ x h => by simp at h, fun h => absurd rfl h, by simp [chF, chainL]⟩⟩
  | cons k cs => exact ⟨k, ⟨rfl, fun _ x h => by simpa using h, fun h => absurd rfl h, by simp [chainL]⟩⟩
theorem ChI.step {rs : List Fac} {ks : List Int} {i : Nat} {rs' : List Fac} {b c : Int} (h : ChI rs ks i rs' b) (hi : 1 ≤ i) (hc : ks[i]? = some c) : ChI rs ks (i + 1) (rs' ++ [⟨⟨#[]⟩, b, c⟩]) (rs'.length : Int) := by
  refine ⟨by have := h.len; simp; omega, fun h => absurd h (by omega), fun _ => by simp, ?_⟩
  rw [← h.eq, drop_cons hc, List.append_assoc, List.length_append]
  rfl
theorem ChI.last {rs : List Fac} {ks : List Int} {i : Nat} {rs' : List Fac} {b : Int} (h : ChI rs ks i rs' b) (hi : ks.length ≤ i) : chainL rs ks = rs' := by
  rw [← h.eq, List.drop_of_length_le hi]; simp [chF]
set_option maxHeartbeats 1000000 in
set_option maxRecDepth 100000 in
theorem l06Chain_any (w0 : World) (A : Option Addr) (n c : Nat) (B : Option Addr) (m d : Nat) (rs : List Fac) (ks : List Int) (w : World) (hn : n ≤ 100000) (hm : m ≤ 100000) (hl : rs.length = n) (hk : ks.length = m)
    (ho : w.ownsRow w0.heap.size 44 3 (.slice A n c) n (rs.flatMap Fac.cells)) (hq : w.ownsRow w0.heap.size 2 1 (.slice B m d) m (ks.flatMap intE)) (hb : Below w0.heap.size w0 w) :
    Calls Try.prog 25 #[.slice A n c, .slice B m d] w (RetNew w0 44 3 Fac.cells (chainL rs ks)) := by
  have HL := Lib.hid hl; have HK := Lib.hid hk
  have HO := Lib.hid ho; have HQ := Lib.hid hq; have HB := Lib.hid hb
  clear hl hk ho hq hb
  obtain ⟨b0, hI0⟩ := ChI.first rs ks
  go_enter Try.func25, Try.ntmps25
  go_wp2_with fail
  go_loopw [0, 5] (fun r_ i_ w' => ∃ (i : Nat) (A' : Option Addr) (n' c' : Nat) (rs' : List Fac) (b : Int), r_ = .slice A' n' c' ∧ i_ = .int .i64 i ∧ 1 ≤ i ∧ (i ≤ m ∨ i = 1) ∧ n' + 1 = n + i ∧ Hid (rs'.length = n') ∧ Hid (ChI rs ks i rs' b) ∧
    Hid (w'.ownsRow w0.heap.size 44 3 (.slice A' n' c') n' (rs'.flatMap Fac.cells)) ∧ Hid (w'.ownsRow w0.heap.size 2 1 (.slice B m d) m (ks.flatMap intE)) ∧ Hid (Below w0.heap.size w0 w')) (fun _ i_ _ => m - (intOf i_).toNat)
  case atStart => exact ⟨1, A, n, c, rs, b0, rfl, rfl, by omega, by omega, by omega, HL, Lib.hid hI0, HO, HQ, HB⟩
  case round =>
    obtain ⟨i, A', n', c', rs', b, rfl, rfl, hi1, hi2, hn', hrl, HI, O1, Q1, B1⟩ := hrel
    by_cases hlt : i < m
    · have RK := Lib.hid (Rd.of_own (enc := intE) (fun _ _ => rfl) HK.out Q1.out)
      obtain ⟨bb, o, x0, hBe, hB0, g0, c0⟩ := RK.out.int (show 0 < m by omega)
      obtain ⟨bb', o', x, hBe', hB', gx, cx⟩ := RK.out.int hlt
      rw [hBe] at hBe'
      obtain ⟨rfl, rfl⟩ : bb = bb' ∧ o = o' := by injection hBe' with h; injection h with h1 h2 h3; exact ⟨h1, h2⟩
      subst hBe
      have c0 : wr.cell? ⟨bb, o, none⟩ = some (.int .i64 x0) := by simpa using c0
      have HS := Lib.hid (HI.out.step hi1 gx)
      have u1 : IntKind.i64.wrap ((n' : Int) - 1) = (n' : Int) - 1 := IntWalk.i64_in _ (by omega)
      have i0 : (0 : Int) ≤ (i : Int) := by omega
      have i1 : (i : Int) < (m : Int) := by omega
      have hm0 : (0 : Int) < (m : Int) := by omega
      go_upto_if 17 with (fail)
      go_cut [6] (fun b_ wx => b_ = .int .i64 b ∧ wx = wr)
      case first =>
        by_cases h1 : i = 1
        · subst h1
          have hb1 := Lib.hid (HI.out.one rfl x0 g0)
          go_wp2_with fail
          go_meet
          exact ⟨by rw [hb1.out], rfl⟩
        · have hb1 := Lib.hid (HI.out.more h1)
          have h1' : ((i : Int) == 1) = false := by simp; omega
          clear h1
          go_wp2_with fail
          go_meet
          exact ⟨by rw [hb1.out, hrl.out], rfl⟩
      case rest =>
        obtain ⟨rfl, rfl⟩ := hcut
        have O2 := Lib.hid (O1.out.alloc (.cells #[.string ⟨#[]⟩, .int .i64 b, .int .i64 x] 44))
        have Q2 := Lib.hid (Q1.out.alloc (.cells #[.string ⟨#[]⟩, .int .i64 b, .int .i64 x] 44))
        have B2 := Lib.hid (B1.out.alloc B1.out.size (.cells #[.string ⟨#[]⟩, .int .i64 b, .int .i64 x] 44))
        have N2 := Lib.hid (news1 (y := ⟨⟨#[]⟩, b, x⟩) (Blk.new wc 44 #[.string ⟨#[]⟩, .int .i64 b, .int .i64 x]))
        go_wp2_with
          (at_builtin
           refine wpList_app rfl _ _ _ rfl w0.heap.size 44 3 32 elem_rule Fac.cells A' n' c' rs' rfl O2.out ⟨wc.heap.size, 0, none⟩ 1 1 [⟨⟨#[]⟩, b, x⟩] rfl rfl (by omega) N2.out (fun x _ => fac_len x) (fun x _ => one_fac x) (by omega) (by omega) (by unfold maxLen; omega) B2.out.size ?_
           intro A9 c9 w9 own9 hg9 hat9
           have O3 := Lib.hid own9
           have Q3 := Lib.hid (Q2.out.kept hg9 (own_ne Q2.out O2.out (by decide)))
           have B3 := Lib.hid (B2.out.grown hg9 B2.out.size (own_ge O2.out))
           clear own9 hg9 hat9)
        go_roundw
        case rel => exact ⟨i + 1, A9, n' + 1, c9, _, _, by first | rfl | rw [show n + i = n' + 1 by omega], by go_num, by omega, by omega, by omega, Lib.hid (by rw [List.length_append, hrl.out]; rfl), HS, O3, Q3, B3⟩
        case measure => simp [intOf]; omega
    · have e := Lib.hid (HI.out.last (by rw [HK.out]; omega))
      go_wp2_with fail
      go_ret
      rw [e.out]
      refine ⟨A', c', ret_slice (by rw [hrl.out]), ?_, B1.out⟩
      rw [hrl.out]; exact O1.out
end Go.Proofs.Ytikhjoianbndhaa


/-
  PairsGrammar in the reference.
-/
namespace Go.Proofs.Ytikhjoianbndhaa
open Go.RowKit

noncomputable def prF (s : ByteArray) : List Fac := if okW s = true then toldF (prL s) else []
noncomputable def prC (s : ByteArray) : Int := if okW s = true then toldC (prL s) else 1
theorem prF_len (s : ByteArray) : (prF s).length ≤ 1048576 := by
  unfold prF
  split
  · have := toldF_len (prL s); omega
  · simp
theorem prL_short {s : ByteArray} (ho : okW s = true) : ShortV (prL s) := fun k hk => by
  have := (prL_ok ho).2 k hk
  unfold lenV at this
  omega
def slen : Value → Nat
  | .slice _ n _ => n
  | _ => 0
/-- rules and a list under way -/
structure PrW (w W : World) (A : Option Addr) (n c : Nat) (rs : List Fac) (L : Option Addr) (j d : Nat) (ks : List Int) : Prop where
  q : W.ownsRow w.heap.size 44 3 (.slice A n c) n (rs.flatMap Fac.cells)
  k : W.ownsRow w.heap.size 2 1 (.slice L j d) j (ks.flatMap intE)
  e : Below w.heap.size w W
section
variable {w W W' : World} {A : Option Addr} {n c : Nat} {rs : List Fac} {L : Option Addr} {j d : Nat} {ks : List Int}
theorem PrW.next (h : PrW w W A n c rs L j d ks) (hb : Below W.heap.size W W') : PrW w W' A n c rs L j d ks := ⟨own_next h.q hb, own_next h.k hb, h.e.trans (hb.mono h.e.size)⟩
theorem PrW.alloc (h : PrW w W A n c rs L j d ks) (o : Obj) : PrW w (W.alloc o) A n c rs L j d ks := h.next ((Below.refl _ _).alloc (Nat.le_refl _) _)
theorem PrW.push {A8 : Option Addr} {k8 c8 : Nat} {rs' : List Fac} (h : PrW w W A n c rs L j d ks) (hq : W'.ownsRow w.heap.size 44 3 (.slice A8 k8 c8) k8 (rs'.flatMap Fac.cells)) (hg : W.grownBy W' (Value.slice A n c).ownBlock) :
    PrW w W' A8 k8 c8 rs' L j d ks := ⟨hq, h.k.kept hg (own_ne h.k h.q (by decide)), h.e.grown hg h.e.size (own_ge h.q)⟩
end
theorem pr_limit {s : ByteArray} {rs : List Fac} {l : List Int} (ho : okW s = true) (he : pgoL rs l = prR s) (hI : PrI rs l) (hn : 400 ≤ rs.length) (h2 : ¬ (bst (cps false l)).2 < 2) : prF s = [] ∧ prC s = 3 := by
  have h1 : 401 ≤ (prR s).1.length := by
    rw [← he, pgoL_step h2]
    have := (PrI.all (repl (bst (cps false l)).1 rs.length l).length _ _ (hI.step h2)).2
    rw [List.length_append] at this
    unfold pgoL
    simp only [List.length_singleton] at this
    omega
  have h3 : 400 < (prL s).length := by unfold prL; rw [chainL_len]; omega
  unfold prF prC toldF toldC
  rw [if_pos ho, if_pos ho, if_pos h3, if_pos h3]
  exact ⟨rfl, rfl⟩
set_option maxHeartbeats 4000000 in
set_option maxRecDepth 100000 in
theorem specPrs_any (s : ByteArray) (w : World) (hs : s.size ≤ 1048576) : Calls Try.prog 12 #[.string s] w (RetGC w (prF s) (prC s)) := by
  rcases ho : okW s with _ | _
  · have Ho := Lib.hid ho
    have hT := Lib.hid (show prF s = [] by unfold prF; rw [ho]; rfl)
    have hC := Lib.hid (show prC s = 1 by unfold prC; rw [ho]; rfl)
    rw [hT.out, hC.out]
    clear ho hT hC
    go_enter Try.func12, Try.ntmps12
    go_wp2_with fail
    refine (specOk_any s false _ (by unfold maxLen; omega) Ho.out).mono ?_
    rintro e w1 ⟨rfl, hb1⟩
    have B1 := (Blk.new w 24 #[.slice none 0 0]).next hb1
    have b1 : Below w.heap.size w w1 := ((Below.refl w.heap.size w).alloc (Nat.le_refl _) (.cells #[.slice none 0 0] 24)).trans (hb1.mono (by simp))
    have d1 := B1.cell 0
    have f1 := B1.frozen
    have l1 := B1.lt
    have B5 := B1.set_ 0 (.slice none 0 0)
    have x5 : (w1.setCell ⟨w.heap.size, 0, none⟩ (.slice none 0 0)).cell? ⟨w.heap.size, 0, none⟩ = some (.slice none 0 0) := by rw [B5.cell 0]; rfl
    have b5 := b1.setCell (p := ⟨w.heap.size, 0, none⟩) (Nat.le_refl _) (.slice none 0 0)
    clear B5 B1
    go_wp2_with fail
    refine bodyPost_ret (v := .tuple #[.agg #[.slice none 0 0], .int .i64 1]) (by simp [results, Try.results12, go_sem, x5]) rfl ⟨none, 0, rfl, World.ownsRow_nil _ _ _ _, b5⟩
  · have Ho := Lib.hid ho
    have hT := Lib.hid (show prF s = toldF (prL s) by unfold prF; rw [ho]; rfl)
    have hC := Lib.hid (show prC s = toldC (prL s) by unfold prC; rw [ho]; rfl)
    have hs2 := okW_len2 ho
    have hkl := ksP_len s.data.toList
    have HI0 := Lib.hid (prI_start ho)
    have HWF := Lib.hid (prL_ok ho).1
    have hLL := prL_len ho
    clear ho
    go_enter Try.func12, Try.ntmps12
    go_wp2_with fail
    refine namedC fun w1 H1 => ?_
    have hb1 : Below w.heap.size w w1 := by rw [H1.out]; (repeat first | exact Below.refl _ _ | assumption | refine Below.drew ?_ | refine Below.alloc ?_ (by first | exact Nat.le_refl _ | (simp; done) | omega | (simp; omega)) _ | refine Below.setCell ?_ (by first | exact Nat.le_refl _ | (simp; done) | omega | (simp; omega)) _)
    have B1 := Lib.hid (show Blk w1 w.heap.size 24 #[.slice none 0 0] by rw [H1.out]; exact Blk.new _ _ _)
    have hsz : w.heap.size < w1.heap.size := B1.out.lt
    clear H1
    refine (specOk_any s true _ (by unfold maxLen; omega) Ho.out).mono ?_
    rintro e w2 ⟨rfl, hb2⟩
    go_wp2_with fail
    refine (l06Letters_any s w2 Ho.out).mono ?_
    rintro e w3 ⟨A, c, KA, kc, rfl, own3, ownk, hb3⟩
    have b3 : Below w1.heap.size w1 w3 := hb2.trans (hb3.mono hb2.size)
    have P3 := Lib.hid (show PrW w1 w3 A _ c _ KA _ kc _ from ⟨own3.mono hb2.size, ownk.mono hb2.size, b3⟩)
    clear own3 ownk
    obtain ⟨n, hn⟩ : ∃ n, (lettersP s.data.toList).length = n := ⟨_, rfl⟩
    obtain ⟨kn, hkn⟩ : ∃ kn, (numsP s.data.toList).length = kn := ⟨_, rfl⟩
    have hn4 : n ≤ 4 := by rw [← hn]; simp [lettersP]; exact hkl
    have HN := Lib.hid hn
    have HKN := Lib.hid hkn
    rw [hn, hkn] at P3
    simp only [sliceV, hn, hkn]
    clear hn hkn hb3 hb2
    go_wp2_with fail
    go_loopw [4, 5] (fun r_ l_ w' => ∃ (n j : Nat) (A : Option Addr) (c : Nat) (L : Option Addr) (d : Nat) (rs : List Fac) (ks : List Int), r_ = .slice A n c ∧ l_ = .slice L j d ∧ n ≤ 400 ∧ Hid (rs.length = n) ∧ Hid (ks.length = j) ∧ Hid (PrI rs ks) ∧ Hid (pgoL rs ks = prR s) ∧
      Hid (PrW w1 w' A n c rs L j d ks)) (fun _ l_ _ => slen l_)
    case atStart => exact ⟨n, kn, A, c, KA, kc, _, _, rfl, rfl, by omega, HN, HKN, HI0, Lib.hid rfl, P3⟩
    case round =>
      obtain ⟨n, j, A, c, L, d, rs, ks, rfl, rfl, hn, HN, HK, HI, HG, P⟩ := hrel
      clear P3 HI0
      have hsz2 := HI.out.sz
      rw [HN.out, HK.out] at hsz2
      by_cases hend : j ≤ 1 ∨ (bst (cps false ks)).2 < 2
      · have hst := Lib.hid (show prR s = (rs, ks) from by
          rw [← HG.out]
          refine pgoL_stop ?_
          rcases hend with h | h
          · have h1 := HK.out
            match hks : ks, h1 with
            | [], _ => rw [cps_nil, bst_nil]; show 0 < 2; omega
            | [x], _ => rw [cps_one, bst_nil]; show 0 < 2; omega
            | x :: y :: r, h1 => simp at h1; omega
          · exact h)
        have hpl := Lib.hid (show prL s = chainL rs ks by unfold prL; rw [hst.out])
        by_cases h1 : j ≤ 1
        case' pos =>
          have i1 : ¬ (1 : Int) < (j : Int) := by omega
          have P5 := P
          clear hend
          go_wp2_with fail
        case' neg =>
          have hb2 := hend.resolve_left h1
          have i1 : (1 : Int) < (j : Int) := by omega
          have hn0 : 0 < n := by
            have h1 := HK.out
            match hks : ks, h1 with
            | [], h1 => simp at h1; omega
            | x :: r, _ =>
              have := HI.out.rg x (by simp)
              rw [HN.out] at this; omega
          have OF := Lib.hid (l06Often_any L j d n ks wr (by omega) (by omega) hn0 hn (by have := HI.out.rg; rw [HN.out] at this; exact this) (Rd.of_own (fun _ _ => rfl) HK.out P.out.k))
          generalize hbe : bst (cps false ks) = b at *
          obtain ⟨⟨x, y⟩, N⟩ := b
          have hN2 : (N : Int) < 2 := by have : N < 2 := hb2; omega
          clear hend
          go_wp2_with fail
          refine OF.out.mono ?_
          rintro e w5 ⟨rfl, hb5⟩
          have P5 := Lib.hid (P.out.next hb5)
          go_wp2_with fail
        all_goals
          refine (l06Chain_any w1 A n c L j d rs ks _ (by omega) (by omega) HN.out HK.out P5.out.q P5.out.k P5.out.e).mono ?_
          rintro e w6 ⟨A6, c6, rfl, own6, hb6⟩
          rw [← hpl.out] at own6
          simp only [← hpl.out]
          have O6 := Lib.hid own6
          have B6 := Lib.hid (B1.out.next hb6)
          clear own6 hpl P5 P
          obtain ⟨N', hN'⟩ : ∃ N', (prL s).length = N' := ⟨_, rfl⟩
          have HNl := Lib.hid hN'
          rw [hN'] at O6 hLL
          simp only [hN']
          clear hN'
          go_wp2_with fail
          refine (l06Told_any A6 N' c6 (prL s) w6 (by omega) (Rd.of_own (fun x _ => fac_len x) HNl.out O6.out) HWF.out).mono ?_
          rintro e w7 ⟨A7, c7, rfl, own7, hb7⟩
          have b7 : Below w.heap.size w w7 := (hb1.trans (hb6.mono (by omega))).trans (hb7.mono (by have := hb6.size; omega))
          have B7 := Lib.hid (B6.out.next hb7)
          have O7 := Lib.hid (own7.mono (show w.heap.size ≤ w6.heap.size by have := hb6.size; omega))
          clear own7
          rw [← hT.out, ← hC.out]
          rw [← hT.out] at O7
          generalize prF s = T at *
          generalize prC s = TC at *
          have d5 := B7.out.cell 0
          have f5 := B7.out.frozen
          have l5 := B7.out.lt
          have B8 := B7.out.set_ 0 (.slice A7 T.length c7)
          have x6 : (w7.setCell ⟨w.heap.size, 0, none⟩ (.slice A7 T.length c7)).cell? ⟨w.heap.size, 0, none⟩ = some (.slice A7 T.length c7) := by rw [B8.cell 0]; rfl
          have b6 := b7.setCell (p := ⟨w.heap.size, 0, none⟩) (Nat.le_refl _) (.slice A7 T.length c7)
          have O8 := Lib.hid (own_kept' O7.out B7.out (by decide) (.slice A7 T.length c7) (i := 0))
          clear B8
          go_wp2_with fail
          exact bodyPost_ret (v := .tuple #[.agg #[.slice A7 T.length c7], .int .i64 TC]) (by simp [results, Try.results12, go_sem, x6]) rfl ⟨A7, c7, rfl, O8.out, b6⟩
      · have h1 : ¬ j ≤ 1 := fun h => hend (.inl h)
        have hge : ¬ (bst (cps false ks)).2 < 2 := fun h => hend (.inr h)
        have i1 : (1 : Int) < (j : Int) := by omega
        have hn0 : 0 < n := by
          have h1 := HK.out
          match hks : ks, h1 with
          | [], h1 => simp at h1; omega
          | x :: r, _ =>
            have := HI.out.rg x (by simp)
            rw [HN.out] at this; omega
        have OF := Lib.hid (l06Often_any L j d n ks wr (by omega) (by omega) hn0 hn (by have := HI.out.rg; rw [HN.out] at this; exact this) (Rd.of_own (fun _ _ => rfl) HK.out P.out.k))
        by_cases h400 : 400 ≤ n
        · obtain ⟨eF, eC⟩ := pr_limit Ho.out HG.out HI.out (by rw [HN.out]; exact h400) hge
          rw [eF, eC]
          generalize hbe : bst (cps false ks) = b at *
          obtain ⟨⟨x, y⟩, N⟩ := b
          have hN2 : ¬ (N : Int) < 2 := by have : ¬ N < 2 := hge; omega
          have i4 : (400 : Int) ≤ (n : Int) := by omega
          clear hend
          go_wp2_with fail
          refine OF.out.mono ?_
          rintro e w5 ⟨rfl, hb5⟩
          have P5 := Lib.hid (P.out.next hb5)
          have B7 := Lib.hid (B1.out.next P5.out.e)
          have b7 : Below w.heap.size w w5 := hb1.trans (P5.out.e.mono (by omega))
          have d5 := B7.out.cell 0
          have f5 := B7.out.frozen
          have l5 := B7.out.lt
          have B8 := B7.out.set_ 0 (.slice none 0 0)
          have x6 : (w5.setCell ⟨w.heap.size, 0, none⟩ (.slice none 0 0)).cell? ⟨w.heap.size, 0, none⟩ = some (.slice none 0 0) := by rw [B8.cell 0]; rfl
          have b6 := b7.setCell (p := ⟨w.heap.size, 0, none⟩) (Nat.le_refl _) (.slice none 0 0)
          clear B8
          go_wp2_with fail
          exact bodyPost_ret (v := .tuple #[.agg #[.slice none 0 0], .int .i64 3]) (by simp [results, Try.results12, go_sem, x6]) rfl ⟨none, 0, rfl, World.ownsRow_nil _ _ _ _, b6⟩
        · have hst := Lib.hid (pgoL_step (rs := rs) hge)
          have HIs := HI.out.step hge
          have hlt := bst_in hge
          rw [HG.out] at hst
          generalize hbe : bst (cps false ks) = b at *
          obtain ⟨⟨x, y⟩, N⟩ := b
          obtain ⟨la, lb, hle⟩ := hlt
          have hless := repl_less (p := (x, y)) (rs.length : Int) ks la lb hle
          rw [HN.out] at hst HIs hless
          have HI2 := Lib.hid HIs
          have hN2 : ¬ (N : Int) < 2 := by have : ¬ N < 2 := hge; omega
          have i4 : ¬ (400 : Int) ≤ (n : Int) := by omega
          rw [HK.out] at hless
          clear hend hle HIs hge
          go_wp2_with fail
          refine OF.out.mono ?_
          rintro e w5 ⟨rfl, hb5⟩
          have P5 := Lib.hid (P.out.next hb5)
          have RP := Lib.hid (l06Replace_any L j d ks x y (n : Int) w5 (by omega) (Rd.of_own (fun _ _ => rfl) HK.out P5.out.k))
          clear OF
          go_wp2_with fail
          refine RP.out.mono ?_
          rintro e w6 ⟨L6, d6, rfl, own6, hb6⟩
          obtain ⟨j6, hj6⟩ : ∃ j6, (repl (x, y) (n : Int) ks).length = j6 := ⟨_, rfl⟩
          have HK6 := Lib.hid hj6
          have P6 := Lib.hid (show PrW w1 w6 A n c rs L6 j6 d6 (repl (x, y) (n : Int) ks) from ⟨own_next P5.out.q hb6, by rw [← hj6]; exact own6.mono P5.out.e.size, (P5.out.next hb6).e⟩)
          simp only [hj6]
          rw [hj6] at hless
          clear own6 RP hj6 P5 P
          have P7 := Lib.hid (P6.out.alloc (.cells #[.string ⟨#[]⟩, .int .i64 x, .int .i64 y] 44))
          go_wp2_with
            (at_builtin
             refine wpList_push (w0 := w1) rfl _ _ _ rfl w1.heap.size 44 3 32 elem_rule Fac.cells A n c rs rfl P7.out.q w6.heap.size ⟨⟨#[]⟩, x, y⟩ #[.string ⟨#[]⟩, .int .i64 x, .int .i64 y] 44 (0, 0) rfl (heap_alloc_new _ _) rfl rfl (one_fac _) (by omega) (by omega) (by unfold maxLen; omega) rfl P7.out.e ?_
             intro A9 c9 w9 own9 hg9 hat9 hb9
             have P9 := Lib.hid (P7.out.push own9 hg9)
             clear own9 hg9 hat9 hb9)
          go_roundw
          case rel => exact ⟨n + 1, j6, A9, c9, L6, d6, _, _, rfl, rfl, by omega, Lib.hid (by rw [List.length_append, HN.out]; rfl), HK6, HI2, Lib.hid hst.out.symm, P9⟩
          case measure => simp [slen]; omega
end Go.Proofs.Ytikhjoianbndhaa


/-
  All rules of a list made one, in the program (through a pointer to the grammar).
-/
namespace Go.Proofs.Ytikhjoianbndhaa
open Go.RowKit

/-- the grammar at G, the list, and one more grammar's block at T -/
structure MdW (w0 W : World) (G T : Nat) (t : Array Value) (A : Option Addr) (n c : Nat) (rs : List Fac) (B : Option Addr) (m d : Nat) (ks : List Int) : Prop where
  q : W.ownsRow w0.heap.size 44 3 (.slice A n c) n (rs.flatMap Fac.cells)
  k : W.ownsRow w0.heap.size 2 1 (.slice B m d) m (ks.flatMap intE)
  g : Blk W G 24 #[.slice A n c]
  o : Blk W T 24 t
  e : Below w0.heap.size w0 W
  hg : w0.heap.size ≤ G
  hn : G ≠ T
section
variable {w W W' : World} {G T : Nat} {t : Array Value} {A : Option Addr} {n c : Nat} {rs : List Fac} {B : Option Addr} {m d : Nat} {ks : List Int}
theorem MdW.next (h : MdW w W G T t A n c rs B m d ks) (hb : Below W.heap.size W W') : MdW w W' G T t A n c rs B m d ks :=
  ⟨own_next h.q hb, own_next h.k hb, h.g.next hb, h.o.next hb, h.e.trans (hb.mono h.e.size), h.hg, h.hn⟩
theorem MdW.alloc (h : MdW w W G T t A n c rs B m d ks) (o : Obj) : MdW w (W.alloc o) G T t A n c rs B m d ks := h.next ((Below.refl _ _).alloc (Nat.le_refl _) _)
/-- the grammar's cell put -/
theorem MdW.cell (h : MdW w W G T t A n c rs B m d ks) {A8 : Option Addr} {n8 c8 : Nat} {rs' : List Fac} (hq : W.ownsRow w.heap.size 44 3 (.slice A8 n8 c8) n8 (rs'.flatMap Fac.cells)) :
    MdW w (W.setCell ⟨G, 0, none⟩ (.slice A8 n8 c8)) G T t A8 n8 c8 rs' B m d ks := by
  have hg2 := gb_set W G 0 (.slice A8 n8 c8)
  exact ⟨own_kept' hq h.g (by decide) _, own_kept' h.k h.g (by decide) _, h.g.set_ 0 _, h.o.grown hg2 (by intro e; injection e with e; exact h.hn e.symm), h.e.setCell h.hg _, h.hg, h.hn⟩
theorem MdW.push {A8 : Option Addr} {k8 c8 : Nat} {rs' : List Fac} (h : MdW w W G T t A n c rs B m d ks) (hq : W'.ownsRow w.heap.size 44 3 (.slice A8 k8 c8) k8 (rs'.flatMap Fac.cells)) (hg : W.grownBy W' (Value.slice A n c).ownBlock) :
    MdW w (W'.setCell ⟨G, 0, none⟩ (.slice A8 k8 c8)) G T t A8 k8 c8 rs' B m d ks := by
  have ho' := h.o.grown hg (own_blk_ne h.q h.o (by decide))
  have hg' := h.g.grown hg (own_blk_ne h.q h.g (by decide))
  have hk' := h.k.kept hg (own_ne h.k h.q (by decide))
  have he' := h.e.grown hg h.e.size (own_ge h.q)
  have hg2 := gb_set W' G 0 (.slice A8 k8 c8)
  exact ⟨own_kept' hq hg' (by decide) _, own_kept' hk' hg' (by decide) _, hg'.set_ 0 _, ho'.grown hg2 (by intro e; injection e with e; exact h.hn e.symm), he'.setCell h.hg _, h.hg, h.hn⟩
end
/-- what 'made' leaves -/
def MdP (w0 : World) (G T : Nat) (t : Array Value) (rs : List Fac) (B : Option Addr) (m d : Nat) (ks : List Int) (e : Ending) (w' : World) : Prop :=
  e = .returned (.tuple #[]) ∧ ∃ A c, MdW w0 w' G T t A rs.length c rs B m d ks
set_option maxHeartbeats 4000000 in
set_option maxRecDepth 100000 in
theorem made_any (w0 : World) (G T : Nat) (t : Array Value) (A : Option Addr) (n c : Nat) (B : Option Addr) (m d : Nat) (rs : List Fac) (ks : List Int) (w : World) (hn : n ≤ 100000) (hm : m ≤ 100000) (hl : rs.length = n) (hk : ks.length = m)
    (hi : ∀ k ∈ ks, -9223372036854775808 ≤ k ∧ k ≤ 9223372036854775807) (h : MdW w0 w G T t A n c rs B m d ks) :
    Calls Try.prog 30 #[.pointer (some ⟨G, 0, none⟩), .slice B m d] w (MdP w0 G T t (chainL rs ks) B m d ks) := by
  have HL := Lib.hid hl; have HK := Lib.hid hk; have H := Lib.hid h; have HJ := Lib.hid hi
  clear hl hk h hi
  obtain ⟨b0, hI0⟩ := ChI.first rs ks
  go_enter Try.func30, Try.ntmps30
  go_wp2_with fail
  go_loopw [9] (fun i_ w' => ∃ (i : Nat) (A' : Option Addr) (n' c' : Nat) (rs' : List Fac) (b : Int), i_ = .int .i64 i ∧ i ≤ m ∧ n' + 1 = n + (max i 1) ∧ Hid (rs'.length = n') ∧ Hid (ChI rs ks (max i 1) rs' b) ∧
    Hid (MdW w0 w' G T t A' n' c' rs' B m d ks)) (fun i_ _ => m - (intOf i_).toNat)
  case atStart => exact ⟨0, A, n, c, rs, b0, rfl, by omega, by simp, HL, Lib.hid hI0, H⟩
  case round =>
    obtain ⟨i, A', n', c', rs', b, rfl, hi2, hn', hrl, HI, P1⟩ := hrel
    by_cases hlt : i < m
    · have RK := Lib.hid (Rd.of_own (enc := intE) (fun _ _ => rfl) HK.out P1.out.k)
      obtain ⟨bb, o, x0, hBe, hB0, g0, c0⟩ := RK.out.int (show 0 < m by omega)
      obtain ⟨bb', o', x, hBe', hB', gx, cx⟩ := RK.out.int hlt
      rw [hBe] at hBe'
      obtain ⟨rfl, rfl⟩ : bb = bb' ∧ o = o' := by injection hBe' with h; injection h with h1 h2 h3; exact ⟨h1, h2⟩
      subst hBe
      have c0 : wr.cell? ⟨bb, o, none⟩ = some (.int .i64 x0) := by simpa using c0
      have hx := HJ.out x (List.mem_of_getElem? gx)
      have hx0 := HJ.out x0 (List.mem_of_getElem? g0)
      have i0 : (0 : Int) ≤ (i : Int) := by omega
      have i1 : (i : Int) < (m : Int) := by omega
      have hm0 : (0 : Int) < (m : Int) := by omega
      have gl := P1.out.g.lt
      have gc := P1.out.g.cell 0
      by_cases hz : i = 0
      · subst hz
        clear gx g0 i0
        go_wp2_with fail
        go_roundw
        case rel => exact ⟨1, A', n', c', rs', b, by go_num, by omega, by omega, hrl, HI, P1⟩
        case measure => simp [intOf]; omega
      · have hmx : max i 1 = i := by omega
        rw [hmx] at HI hn'
        have hi1 : 1 ≤ i := by omega
        have HS := Lib.hid (HI.out.step hi1 gx)
        have u1 : IntKind.i64.wrap ((n' : Int) - 1) = (n' : Int) - 1 := IntWalk.i64_in _ (by omega)
        have HB := Lib.hid (HI.out.one)
        have HM := Lib.hid (HI.out.more)
        clear HI hmx gx hz
        have hzp : ((i : Int) > 0) := by omega
        go_upto_if 20 with (fail)
        go_cut [6] (fun b_ wx => b_ = .int .i64 b ∧ wx = wr)
        case first =>
          by_cases h1 : i = 1
          · subst h1
            have hb1 := Lib.hid (HB.out rfl x0 g0)
            go_wp2_with fail
            go_meet
            exact ⟨by rw [hb1.out], rfl⟩
          · have hb1 := Lib.hid (HM.out h1)
            have h1' : (1 : Int) < (i : Int) := by omega
            clear h1
            go_wp2_with fail
            go_meet
            exact ⟨by rw [hb1.out, hrl.out], rfl⟩
        case rest =>
          obtain ⟨rfl, rfl⟩ := hcut
          have hbb : -9223372036854775808 ≤ b ∧ b ≤ 9223372036854775807 := by
            by_cases h1 : i = 1
            · have := HB.out h1 x0 g0; omega
            · have := HM.out h1; have := hrl.out; omega
          have LC := Lib.hid (fun W => pair64_any b x W hbb hx)
          obtain ⟨y, hy⟩ : ∃ y : Fac, ⟨⟨#[]⟩, b, x⟩ = y := ⟨_, rfl⟩
          rw [hy] at LC HS
          clear hy
          have P3 := Lib.hid (P1.out.next (Below.refl _ _).drew)
          have zk : (n' + 1) * 32 ≤ 140737488355328 := by omega
          have zkm : n' + 1 ≤ maxLen := by unfold maxLen; omega
          clear c0 cx g0
          go_wp2_with fail
          go_region_law
            (first
              | (refine step_push (by rfl) _ _ _ (by rfl) w0.heap.size 44 3 32 elem_rule Fac.cells A' n' c' rs' (by rfl) P6.out.q _ y #[.string y.l, .int .i64 y.a, .int .i64 y.b] 44 (0, 0) (by rfl) (heap_alloc_new _ _) rfl rfl (one_fac _) (by omega) zk zkm P6.out.e.size ?_
                 intro A8 c8 w8 own8 hg8 old8
                 have P5 := Lib.hid (P6.out.push own8 hg8)
                 have B5 := P6.out.g.grown hg8 (own_blk_ne P6.out.q P6.out.g (by decide))
                 have d5 := B5.cell 0
                 have f5 := B5.frozen
                 have l5 := B5.lt)
              | (go_simp
                 go_wp2_with (go_at_call 29; refine (LC.out _).mono ?_; rintro e w4 ⟨rfl, hb4⟩)
                 have P4 := Lib.hid (P3.out.next hb4)
                 have P6 := Lib.hid (P4.out.alloc (.cells #[.string y.l, .int .i64 y.a, .int .i64 y.b] 44))
                 have d4 := P4.out.g.cell 0
                 have l4 := P4.out.g.lt))
          all_goals
            go_wp2_with fail
            go_roundw
            case rel => exact ⟨i + 1, A8, n' + 1, c8, rs' ++ [y], _, by go_num, by omega, by omega, Lib.hid (by rw [List.length_append, hrl.out]; rfl), by rw [show max (i + 1) 1 = i + 1 by omega]; exact HS, by rw [show n + i = n' + 1 by omega]; exact P5⟩
            case measure => simp [intOf]; omega
    · have e := Lib.hid (HI.out.last (by rw [HK.out]; omega))
      go_wp2_with fail
      refine bodyPost_ret (v := .tuple #[]) (by simp [results, Try.results30, go_sem]) rfl ⟨rfl, A', c', ?_⟩
      rw [e.out, hrl.out]; exact P1.out
end Go.Proofs.Ytikhjoianbndhaa


/-
  PairsGrammar in the program.
-/
namespace Go.Proofs.Ytikhjoianbndhaa
open Go.RowKit

/-- the pair's replacing, under way -/
structure PrJ (w W : World) (G X : Nat) (A : Option Addr) (n c : Nat) (rs : List Fac) (L : Option Addr) (j d : Nat) (ks : List Int) (E : Option Addr) (m e : Nat) (out : List Int) (p : PI) : Prop where
  g : MdW w W G w.heap.size #[.slice none 0 0] A n c rs L j d ks
  x : Blk W X 58 #[.int .i64 p.1, .int .i64 p.2]
  o : W.ownsRow w.heap.size 2 1 (.slice E m e) m (out.flatMap intE)
  ne : ∀ q, (Value.slice E m e).ownBlock = some q → (Value.slice L j d).ownBlock ≠ some q
section
variable {w W W' : World} {G X : Nat} {A : Option Addr} {n c : Nat} {rs : List Fac} {L : Option Addr} {j d : Nat} {ks : List Int} {E : Option Addr} {m e : Nat} {out : List Int} {p : PI}
theorem PrJ.next (h : PrJ w W G X A n c rs L j d ks E m e out p) (hb : Below W.heap.size W W') : PrJ w W' G X A n c rs L j d ks E m e out p := ⟨h.g.next hb, h.x.next hb, own_next h.o hb, h.ne⟩
theorem PrJ.alloc (h : PrJ w W G X A n c rs L j d ks E m e out p) (o : Obj) : PrJ w (W.alloc o) G X A n c rs L j d ks E m e out p := h.next ((Below.refl _ _).alloc (Nat.le_refl _) o)
theorem PrJ.drew (h : PrJ w W G X A n c rs L j d ks E m e out p) : PrJ w W.drew G X A n c rs L j d ks E m e out p := h.next (Below.refl _ _).drew
theorem PrJ.push {E8 : Option Addr} {m8 e8 : Nat} {out' : List Int} (h : PrJ w W G X A n c rs L j d ks E m e out p) (ho : W'.ownsRow w.heap.size 2 1 (.slice E8 m8 e8) m8 (out'.flatMap intE)) (hg : W.grownBy W' (Value.slice E m e).ownBlock)
    (hat : (Value.slice E8 m8 e8).ownBlock = (Value.slice E m e).ownBlock ∨ (Value.slice E8 m8 e8).ownBlock = some W.heap.size) : PrJ w W' G X A n c rs L j d ks E8 m8 e8 out' p := by
  have hk : (Value.slice L j d).ownBlock = none ∨ (Value.slice L j d).ownBlock ≠ (Value.slice E m e).ownBlock := by
    cases hv : (Value.slice E m e).ownBlock with
    | none =>
      cases hw : (Value.slice L j d).ownBlock with
      | none => exact .inl rfl
      | some q => exact .inr (by intro e; cases e)
    | some q => exact .inr (h.ne q hv)
  refine ⟨⟨h.g.q.kept hg (own_ne h.g.q h.o (by decide)), h.g.k.kept hg hk, h.g.g.grown hg (own_blk_ne h.o h.g.g (by decide)), h.g.o.grown hg (own_blk_ne h.o h.g.o (by decide)), h.g.e.grown hg h.g.e.size (own_ge h.o), h.g.hg, h.g.hn⟩,
    h.x.grown hg (own_blk_ne h.o h.x (by decide)), ho, fun q hq => ?_⟩
  rcases hat with e | e
  · exact h.ne q (e.symm.trans hq)
  · intro h2
    have := (h.g.k.lt q h2).2
    rw [hq] at e
    injection e with e
    omega
end
set_option maxHeartbeats 8000000 in
set_option maxRecDepth 100000 in
theorem implPrs_any (s : ByteArray) (w : World) (hs : s.size ≤ 1048576) : Calls Try.prog 13 #[.string s] w (RetGC w (prF s) (prC s)) := by
  rcases ho : okW s with _ | _
  · have Ho := Lib.hid ho
    have hT := Lib.hid (show prF s = [] by unfold prF; rw [ho]; rfl)
    have hC := Lib.hid (show prC s = 1 by unfold prC; rw [ho]; rfl)
    rw [hT.out, hC.out]
    clear ho hT hC
    go_enter Try.func13, Try.ntmps13
    go_wp2_with fail
    refine (validWord_any s false _ (by unfold maxLen; omega) Ho.out).mono ?_
    rintro e w1 ⟨rfl, hb1⟩
    have B1 := (Blk.new w 24 #[.slice none 0 0]).next hb1
    have b1 : Below w.heap.size w w1 := ((Below.refl w.heap.size w).alloc (Nat.le_refl _) (.cells #[.slice none 0 0] 24)).trans (hb1.mono (by simp))
    have d1 := B1.cell 0
    have f1 := B1.frozen
    have l1 := B1.lt
    have B5 := B1.set_ 0 (.slice none 0 0)
    have x5 : (w1.setCell ⟨w.heap.size, 0, none⟩ (.slice none 0 0)).cell? ⟨w.heap.size, 0, none⟩ = some (.slice none 0 0) := by rw [B5.cell 0]; rfl
    have b5 := b1.setCell (p := ⟨w.heap.size, 0, none⟩) (Nat.le_refl _) (.slice none 0 0)
    clear B5 B1
    go_wp2_with fail
    refine bodyPost_ret (v := .tuple #[.agg #[.slice none 0 0], .int .i64 1]) (by simp [results, Try.results13, go_sem, x5]) rfl ⟨none, 0, rfl, World.ownsRow_nil _ _ _ _, b5⟩
  · have Ho := Lib.hid ho
    have hT := Lib.hid (show prF s = toldF (prL s) by unfold prF; rw [ho]; rfl)
    have hC := Lib.hid (show prC s = toldC (prL s) by unfold prC; rw [ho]; rfl)
    have hs2 := okW_len2 ho
    have hkl := ksP_len s.data.toList
    have HI0 := Lib.hid (prI_start ho)
    have HW := Lib.hid (prL_ok ho).1
    have HV := Lib.hid (prL_short ho)
    have hLL := prL_len ho
    have HOne := Lib.hid (fun (k : Int) (h : (prR s).2 = [k]) => pr_one ho h)
    clear ho
    go_enter Try.func13, Try.ntmps13
    go_wp2_with fail
    refine (validWord_any s true _ (by unfold maxLen; omega) Ho.out).mono ?_
    rintro e w1 ⟨rfl, hb1⟩
    have b1 : Below w.heap.size w w1 := ((Below.refl w.heap.size w).alloc (Nat.le_refl _) (.cells #[.slice none 0 0] 24)).trans (hb1.mono (by simp))
    have B1 := Lib.hid ((Blk.new w 24 #[.slice none 0 0]).next hb1)
    go_wp2_with fail
    refine (letters_any s w1 Ho.out).mono ?_
    rintro e w2 ⟨A, c, BB, dd, rfl, own2, ownk, hb2⟩
    have b2 : Below w.heap.size w w2 := b1.trans (hb2.mono b1.size)
    have B2 := Lib.hid (B1.out.next hb2)
    have O2 := Lib.hid (own2.mono b1.size)
    have K2 := Lib.hid (ownk.mono b1.size)
    clear own2 ownk
    obtain ⟨n, hn⟩ : ∃ n, (lettersP s.data.toList).length = n := ⟨_, rfl⟩
    obtain ⟨kn, hkn⟩ : ∃ kn, (numsP s.data.toList).length = kn := ⟨_, rfl⟩
    have hn4 : n ≤ 4 := by rw [← hn]; simp [lettersP]; exact hkl
    have HN := Lib.hid hn
    have HKN := Lib.hid hkn
    rw [hn] at O2
    rw [hkn] at K2
    simp only [gramV, hn, hkn]
    clear hn hkn
    go_wp2_with fail
    refine named fun w3 H3 => ?_
    have P3 := Lib.hid (show MdW w w3 w2.heap.size w.heap.size #[.slice none 0 0] A n c (lettersP s.data.toList) BB kn dd (numsP s.data.toList) by
      rw [H3.out]
      refine ⟨?_, ?_, ?_, ?_, ?_, b2.size, ?_⟩
      · exact own_next O2.out (by (repeat first | exact Below.refl _ _ | assumption | refine Below.drew ?_ | refine Below.alloc ?_ (by first | exact Nat.le_refl _ | (simp; done) | omega | (simp; omega)) _ | refine Below.setCell ?_ (by first | exact Nat.le_refl _ | (simp; done) | omega | (simp; omega)) _))
      · exact own_next K2.out (by (repeat first | exact Below.refl _ _ | assumption | refine Below.drew ?_ | refine Below.alloc ?_ (by first | exact Nat.le_refl _ | (simp; done) | omega | (simp; omega)) _ | refine Below.setCell ?_ (by first | exact Nat.le_refl _ | (simp; done) | omega | (simp; omega)) _))
      · exact Blk.new w2 _ _
      · exact B2.out.alloc _
      · exact b2.trans (Below.mono (by (repeat first | exact Below.refl _ _ | assumption | refine Below.drew ?_ | refine Below.alloc ?_ (by first | exact Nat.le_refl _ | (simp; done) | omega | (simp; omega)) _ | refine Below.setCell ?_ (by first | exact Nat.le_refl _ | (simp; done) | omega | (simp; omega)) _)) b2.size)
      · have := B2.out.lt; omega)
    have hG : w.heap.size < w2.heap.size := B2.out.lt
    clear H3 hb1 hb2 b1 b2 B1 B2 O2 K2
    generalize w2.heap.size = G at *
    go_loopw [5] (fun l_ w' => ∃ (n j : Nat) (A : Option Addr) (c : Nat) (L : Option Addr) (d : Nat) (rs : List Fac) (ks : List Int), l_ = .slice L j d ∧ Hid (rs.length = n) ∧ Hid (ks.length = j) ∧ Hid (PrI rs ks) ∧ Hid (pgoL rs ks = prR s) ∧
      Hid (MdW w w' G w.heap.size #[.slice none 0 0] A n c rs L j d ks)) (fun l_ _ => slen l_)
    case atStart => exact ⟨n, kn, A, c, BB, dd, _, _, rfl, HN, HKN, HI0, Lib.hid rfl, P3⟩
    case round =>
      obtain ⟨n, j, A, c, L, d, rs, ks, rfl, HSn, HSp, HI, HG, P⟩ := hrel
      clear P3 HI0
      have hsz2 := HI.out.sz
      rw [HSn.out, HSp.out] at hsz2
      have FQ := frequent_any L j d ks wr (by omega) (Rd.of_own (fun _ _ => rfl) HSp.out P.out.k)
      have hstop := Lib.hid (fun h => pgoL_stop (rs := rs) (l := ks) h)
      have hstep := Lib.hid (fun h => pgoL_step (rs := rs) (l := ks) h)
      have hIs := Lib.hid (fun h => HI.out.step h)
      have hbin := Lib.hid (fun h => bst_in (l := ks) h)
      generalize hbe : bst (cps false ks) = bb at *
      obtain ⟨⟨x, y⟩, N⟩ := bb
      have FQ2 := Lib.hid (show Calls Try.prog 37 #[.slice L j d] wr (Ret (.tuple #[.agg #[.int .i64 x, .int .i64 y], .int .i64 (N : Int)]) wr) from FQ)
      clear FQ hbe
      go_wp2_with fail
      refine FQ2.out.mono ?_
      rintro e w4 ⟨rfl, hb4⟩
      have P4 := Lib.hid ((P.out.next hb4).alloc (.cells #[.int .i64 x, .int .i64 y] 58))
      have BX := Lib.hid (Blk.new w4 58 #[.int .i64 x, .int .i64 y])
      have hGX : G < w4.heap.size := (P.out.next hb4).g.lt
      clear FQ2 P hb4
      by_cases hN : N < 2
      · have hN2 : (N : Int) < 2 := by omega
        have hst := hstop.out hN
        rw [HG.out] at hst
        have HLe := Lib.hid (show prL s = chainL rs ks by unfold prL; rw [hst])
        have hcl : (prL s).length = n + (j - 1) := by rw [HLe.out, chainL_len, HSn.out, HSp.out]
        have HRg := Lib.hid (show ∀ k ∈ ks, -9223372036854775808 ≤ k ∧ k ≤ 9223372036854775807 from fun k hk => by
          have := HI.out.rg k hk
          rw [HSn.out] at this
          omega)
        have HOn2 := Lib.hid (show ∀ k, ks = [k] → rs.length = 1 ∧ k = 0 from fun k hk => by
          have := HOne.out k (by rw [hst]; exact hk)
          rw [hst] at this; exact this)
        clear hst hstop hstep hIs hbin BX
        go_wp2_with fail
        refine (made_any w G w.heap.size #[.slice none 0 0] A n c L j d rs ks _ (by omega) (by omega) HSn.out HSp.out HRg.out P4.out).mono ?_
        rintro e w5 ⟨rfl, A5, c5, M5⟩
        rw [← HLe.out] at M5
        have HM5 := Lib.hid M5
        clear M5 P4 HRg HLe
        obtain ⟨N, hN⟩ : ∃ N, (prL s).length = N := ⟨_, rfl⟩
        have HNl := Lib.hid hN
        rw [hN] at HM5 hcl hLL
        have HCL := Lib.hid hcl
        clear hN hcl
        have gl := HM5.out.g.lt
        have gc := HM5.out.g.cell 0
        have gf := HM5.out.g.frozen
        go_upto_if 88 with fail
        go_cut [] (fun wx => Hid (MdW w wx G w.heap.size #[.slice none 0 0] A5 N c5 (prL s) L j d ks))
        case first =>
          by_cases h1 : j = 1
          · subst h1
            obtain ⟨lb, lo, x0, rfl, hlB, g0, lc⟩ := (Rd.of_own (enc := intE) (fun _ _ => rfl) HSp.out HM5.out.k).int (show 0 < 1 by omega)
            have hpl : ks = [x0] := by
              obtain ⟨z, hz⟩ := List.length_eq_one_iff.1 HSp.out
              rw [hz] at g0 ⊢
              simp at g0; rw [g0]
            obtain ⟨hr1, rfl⟩ := HOn2.out x0 hpl
            obtain rfl : N = 1 := by have := HSn.out; have := HCL.out; omega
            have lc' : w5.cell? ⟨lb, lo, none⟩ = some (.int .i64 0) := by simpa using lc
            obtain ⟨g5, cp5, hv5, hb5, hlt5⟩ := HM5.out.q.form (by omega)
            have hcap : 1 ≤ c5 := by
              rcases HM5.out.q.2 with ⟨_, h0⟩ | ⟨g, cap, cur, hv, _, _, hc, _⟩
              · omega
              · injection hv with _ _ e3; omega
            injection hv5 with e1 e2 e3
            subst e1
            subst e3
            have M6 := Lib.hid (MdW.cell HM5.out HM5.out.q)
            have hc1 : (1 : Int) ≤ (c5 : Int) := by omega
            clear hpl hr1 g0 lc hn4 hLL
            go_wp2_with fail
            go_region
            all_goals
              go_wp2_with fail
              go_meet
              exact Lib.hid (M6.out.next (Below.refl _ _).drew)
          · have h1' : ¬ (j : Int) = 1 := by omega
            go_wp2_with fail
            go_meet
            exact HM5
        case rest =>
          have M6 := hcut
          clear gc gl gf HM5
          have gl := M6.out.g.lt
          have gc := M6.out.g.cell 0
          go_wp2_with fail
          refine (trimOrLimit_any A5 N c5 (prL s) _ (by omega) (Rd.of_own (fun x _ => fac_len x) HNl.out M6.out.q) HW.out HV.out).mono ?_
          rintro e w7 ⟨A7, c7, rfl, own7, hb7⟩
          have b7 := M6.out.e.trans (hb7.mono M6.out.e.size)
          have B7 := Lib.hid (M6.out.o.next hb7)
          have O7 := Lib.hid (own7.mono M6.out.e.size)
          clear own7
          rw [← hT.out, ← hC.out]
          rw [← hT.out] at O7
          generalize prF s = T at *
          generalize prC s = TC at *
          have d5 := B7.out.cell 0
          have f5 := B7.out.frozen
          have l5 := B7.out.lt
          have B6 := B7.out.set_ 0 (.slice A7 T.length c7)
          have x6 : (w7.setCell ⟨w.heap.size, 0, none⟩ (.slice A7 T.length c7)).cell? ⟨w.heap.size, 0, none⟩ = some (.slice A7 T.length c7) := by rw [B6.cell 0]; rfl
          have b6 := b7.setCell (p := ⟨w.heap.size, 0, none⟩) (Nat.le_refl _) (.slice A7 T.length c7)
          have O6 := Lib.hid (own_kept' O7.out B7.out (by decide) (.slice A7 T.length c7) (i := 0))
          clear B6
          go_wp2_with fail
          exact bodyPost_ret (v := .tuple #[.agg #[.slice A7 T.length c7], .int .i64 TC]) (by simp [results, Try.results13, go_sem, x6]) rfl ⟨A7, c7, rfl, O6.out, b6⟩
      · have hN2 : ¬ (N : Int) < 2 := by omega
        obtain ⟨la, lb, hle⟩ := hbin.out hN
        have hst := hstep.out hN
        have hIs2 := hIs.out hN
        have hx := HI.out.rg x (by rw [hle]; simp)
        have hy := HI.out.rg y (by rw [hle]; simp)
        rw [HSn.out] at hx hy hst hIs2
        rw [HG.out] at hst
        have hless := repl_less (p := (x, y)) (n : Int) ks la lb hle
        rw [HSp.out] at hless
        have HSt := Lib.hid hst
        have HI2 := Lib.hid hIs2
        have LC := Lib.hid (fun W => pair64_any x y W (by omega) (by omega))
        obtain ⟨yf, hyf⟩ : ∃ yf : Fac, ⟨⟨#[]⟩, x, y⟩ = yf := ⟨_, rfl⟩
        rw [hyf] at LC HSt HI2
        go_upto_region 6 with fail
        have P3 := Lib.hid (P4.out.next (Below.refl _ _).drew)
        have X3 := Lib.hid BX.out.drew
        generalize hw5 : w4.alloc (.cells #[.int .i64 x, .int .i64 y] 58) = w5 at *
        generalize w4.heap.size = X at *
        have gl := P4.out.g.lt
        have gc := P4.out.g.cell 0
        have d3 := P3.out.g.cell 0
        have x0 : w5.cell? ⟨X, 0, none⟩ = some (.int .i64 x) := by rw [BX.out.cell 0]; rfl
        have x1 : w5.cell? ⟨X, 1, none⟩ = some (.int .i64 y) := by rw [BX.out.cell 1]; rfl
        have z0 : w5.drew.cell? ⟨X, 0, none⟩ = some (.int .i64 x) := x0
        have z1 : w5.drew.cell? ⟨X, 1, none⟩ = some (.int .i64 y) := x1
        have zk : (n + 1) * 32 ≤ 140737488355328 := by omega
        have zkm : n + 1 ≤ maxLen := by unfold maxLen; omega
        clear hst hIs2 hle hstop hstep hIs hbin hw5 HI HG hyf
        go_cut [] (fun wx => ∃ A8 c8, Hid (MdW w wx G w.heap.size #[.slice none 0 0] A8 (n + 1) c8 (rs ++ [yf]) L j d ks) ∧ Hid (Blk wx X 58 #[.int .i64 x, .int .i64 y]))
        case first =>
          go_region_law
            (first
              | (refine step_push (by rfl) _ _ _ (by rfl) w.heap.size 44 3 32 elem_rule Fac.cells A n c rs (by rfl) P6.out.q _ yf #[.string yf.l, .int .i64 yf.a, .int .i64 yf.b] 44 (0, 0) (by rfl) (heap_alloc_new _ _) rfl rfl (one_fac _) (by omega) zk zkm P6.out.e.size ?_
                 intro A8 c8 w8 own8 hg8 old8
                 have P7 := Lib.hid (P6.out.push own8 hg8)
                 have B5 := P6.out.g.grown hg8 (own_blk_ne P6.out.q P6.out.g (by decide))
                 have d5 := B5.cell 0
                 have f5 := B5.frozen
                 have l5 := B5.lt
                 have X7 := Lib.hid (X6.out.grown hg8 (own_blk_ne P6.out.q X6.out (by decide))))
              | (go_simp
                 go_wp2_with (go_at_call 29; refine (LC.out _).mono ?_; rintro e w6 ⟨rfl, hb6⟩)
                 have P5 := Lib.hid (P3.out.next hb6)
                 have P6 := Lib.hid (P5.out.alloc (.cells #[.string yf.l, .int .i64 yf.a, .int .i64 yf.b] 44))
                 have X6 := Lib.hid ((X3.out.next hb6).alloc (.cells #[.string yf.l, .int .i64 yf.a, .int .i64 yf.b] 44))
                 have d4 := P5.out.g.cell 0
                 have l4 := P5.out.g.lt))
          all_goals
            go_wp2_with fail
            go_meet
            exact ⟨A8, c8, P7, Lib.hid (X7.out.far (p := ⟨G, 0, none⟩) (by show X ≠ G; omega) _)⟩
        case rest =>
          obtain ⟨A8, c8, P7, X7⟩ := hcut
          clear P4 BX P3 X3 gl gc d3 x0 x1 z0 z1 LC
          go_wp2_with fail
          have J0 := Lib.hid (show PrJ w (wc.alloc (.cells #[] 2)) G X A8 (n + 1) c8 (rs ++ [yf]) L j d ks (some ⟨wc.heap.size, 0, none⟩) 0 0 [] (x, y) from
            ⟨P7.out.alloc _, X7.out.alloc _, World.ownsRow_made wc #[] 0 P7.out.e.size (by unfold maxLen; omega) rfl, fun q hq h2 => by
              have h3 := (P7.out.k.lt q h2).2
              have h4 : wc.heap.size = q := by injection hq
              omega⟩)
          clear P7 X7
          go_loopw [8, 9] (fun o_ i_ w' => ∃ (i q : Nat) (E : Option Addr) (e : Nat) (D : List Int), o_ = .slice E q e ∧ i_ = .int .i64 i ∧ i ≤ j ∧ q ≤ i ∧ Hid (D.length = q) ∧ Hid (D ++ repl (x, y) (n : Int) (ks.drop i) = repl (x, y) (n : Int) ks) ∧
            Hid (PrJ w w' G X A8 (n + 1) c8 (rs ++ [yf]) L j d ks E q e D (x, y))) (fun _ i_ _ => j - (intOf i_).toNat)
          case atStart => exact ⟨0, 0, _, 0, [], rfl, rfl, by omega, by omega, Lib.hid rfl, Lib.hid rfl, J0⟩
          case round =>
            obtain ⟨i, q, E, e, D, rfl, rfl, hi, hqi, hD, HE, J⟩ := hrel
            clear J0
            have i0 : (0 : Int) ≤ (i : Int) := by omega
            by_cases hlt : i < j
            · have i1 : (i : Int) < (j : Int) := by omega
              have u1 : IntKind.i64.wrap ((i : Int) + 1) = (i : Int) + 1 := IntWalk.i64_in _ (by omega)
              have un : IntKind.i64.wrap ((n : Int) + 1 - 1) = (n : Int) := by rw [IntWalk.i64_in _ (by omega)]; omega
              have RK := Rd.of_own (enc := intE) (fun _ _ => rfl) HSp.out J.out.g.k
              obtain ⟨b, o, z, rfl, hB, gz, cz⟩ := RK.int hlt
              have P2 := Lib.hid (fun (v : Int) => (J.out.drew.alloc (.cells #[.int .i64 v] 2)))
              have xx0 : wr.cell? ⟨X, 0, none⟩ = some (.int .i64 x) := by rw [J.out.x.cell 0]; rfl
              have xx1 : wr.cell? ⟨X, 1, none⟩ = some (.int .i64 y) := by rw [J.out.x.cell 1]; rfl
              have gg : wr.cell? ⟨G, 0, none⟩ = some (.slice A8 (n + 1) c8) := J.out.g.g.cell 0
              have gg' : wr.drew.cell? ⟨G, 0, none⟩ = some (.slice A8 (n + 1) c8) := gg
              have cz' : wr.drew.cell? ⟨b, o + i, none⟩ = some (.int .i64 z) := cz
              by_cases hlt2 : i + 1 < j
              · obtain ⟨b', o', z2, hA, hB', gz2, cz2⟩ := RK.int hlt2
                obtain ⟨rfl, rfl⟩ : b = b' ∧ o = o' := by injection hA with h; injection h with h1 h2 h3; exact ⟨h1, h2⟩
                have i2 : (i : Int) + 1 < (j : Int) := by omega
                have i3 : (0 : Int) ≤ (i : Int) + 1 := by omega
                by_cases hz : z = x
                · subst hz
                  by_cases hy : z2 = y
                  · subst hy
                    have HS := Lib.hid (repl_hit (p := (z, z2)) (k := (n : Int)) gz gz2)
                    have HE2 := Lib.hid (show (D ++ [(n : Int)]) ++ repl (z, z2) (n : Int) (ks.drop (i + 2)) = repl (z, z2) (n : Int) ks by rw [← HE.out, HS.out, List.append_assoc]; rfl)
                    clear gz gz2 hA HE HS RK J
                    go_wp2_with fail
                    go_region
                    go_wp2_with
                      (at_builtin
                       refine wpList_pushG rfl _ _ _ rfl w.heap.size 2 1 8 elem_int intE E q e D rfl (P2.out (n : Int)).o _ (n : Int) #[.int .i64 (n : Int)] 2 (0, 0) rfl (heap_alloc_new _ _) rfl rfl (by simp [intE, Value.oneCell']) (by omega) (by omega) (by unfold maxLen; omega) (P2.out (n : Int)).g.e.size ?_
                       intro E9 e9 w9 own9 hg9 hat9
                       have P9 := Lib.hid ((P2.out (n : Int)).push own9 hg9 hat9)
                       clear own9 hg9 hat9)
                    go_roundw
                    case rel => exact ⟨i + 2, q + 1, E9, e9, D ++ [(n : Int)], rfl, by go_num, by omega, by omega, Lib.hid (by rw [List.length_append, hD.out]; rfl), HE2, P9⟩
                    case measure => simp [intOf]; omega
                  · have HS := Lib.hid (repl_miss (p := (z, y)) (k := (n : Int)) gz gz2 (fun h => hy h.2))
                    have HE2 := Lib.hid (show (D ++ [z]) ++ repl (z, y) (n : Int) (ks.drop (i + 1)) = repl (z, y) (n : Int) ks by rw [← HE.out, HS.out, List.append_assoc]; rfl)
                    clear gz gz2 hA HE HS RK J
                    go_wp2_with fail
                    go_region
                    go_wp2_with
                      (at_builtin
                       refine wpList_pushG rfl _ _ _ rfl w.heap.size 2 1 8 elem_int intE E q e D rfl (P2.out z).o _ z #[.int .i64 z] 2 (0, 0) rfl (heap_alloc_new _ _) rfl rfl (by simp [intE, Value.oneCell']) (by omega) (by omega) (by unfold maxLen; omega) (P2.out z).g.e.size ?_
                       intro E9 e9 w9 own9 hg9 hat9
                       have P9 := Lib.hid ((P2.out z).push own9 hg9 hat9)
                       clear own9 hg9 hat9)
                    go_roundw
                    case rel => exact ⟨i + 1, q + 1, E9, e9, D ++ [z], rfl, by go_num, by omega, by omega, Lib.hid (by rw [List.length_append, hD.out]; rfl), HE2, P9⟩
                    case measure => simp [intOf]; omega
                · have HS := Lib.hid (repl_miss (p := (x, y)) (k := (n : Int)) gz gz2 (fun h => hz h.1))
                  have HE2 := Lib.hid (show (D ++ [z]) ++ repl (x, y) (n : Int) (ks.drop (i + 1)) = repl (x, y) (n : Int) ks by rw [← HE.out, HS.out, List.append_assoc]; rfl)
                  have hzb : (z == x) = false := by rw [beq_eq_false_iff_ne]; exact hz
                  clear gz gz2 hA HE HS RK J
                  go_wp2_with fail
                  go_region
                  go_wp2_with
                    (at_builtin
                     refine wpList_pushG rfl _ _ _ rfl w.heap.size 2 1 8 elem_int intE E q e D rfl (P2.out z).o _ z #[.int .i64 z] 2 (0, 0) rfl (heap_alloc_new _ _) rfl rfl (by simp [intE, Value.oneCell']) (by omega) (by omega) (by unfold maxLen; omega) (P2.out z).g.e.size ?_
                     intro E9 e9 w9 own9 hg9 hat9
                     have P9 := Lib.hid ((P2.out z).push own9 hg9 hat9)
                     clear own9 hg9 hat9)
                  go_roundw
                  case rel => exact ⟨i + 1, q + 1, E9, e9, D ++ [z], rfl, by go_num, by omega, by omega, Lib.hid (by rw [List.length_append, hD.out]; rfl), HE2, P9⟩
                  case measure => simp [intOf]; omega
              · have i2 : ¬ (i : Int) + 1 < (j : Int) := by omega
                have HS := Lib.hid (repl_end (p := (x, y)) (k := (n : Int)) gz (by have := HSp.out; omega))
                have HE2 := Lib.hid (show (D ++ [z]) ++ repl (x, y) (n : Int) (ks.drop (i + 1)) = repl (x, y) (n : Int) ks by rw [← HE.out, HS.out, List.append_assoc]; rfl)
                have i2b : decide ((i : Int) + 1 < (j : Int)) = false := by simp; omega
                clear gz HE HS RK J
                go_wp2_with fail
                go_region
                go_wp2_with
                  (at_builtin
                   refine wpList_pushG rfl _ _ _ rfl w.heap.size 2 1 8 elem_int intE E q e D rfl (P2.out z).o _ z #[.int .i64 z] 2 (0, 0) rfl (heap_alloc_new _ _) rfl rfl (by simp [intE, Value.oneCell']) (by omega) (by omega) (by unfold maxLen; omega) (P2.out z).g.e.size ?_
                   intro E9 e9 w9 own9 hg9 hat9
                   have P9 := Lib.hid ((P2.out z).push own9 hg9 hat9)
                   clear own9 hg9 hat9)
                go_roundw
                case rel => exact ⟨i + 1, q + 1, E9, e9, D ++ [z], rfl, by go_num, by omega, by omega, Lib.hid (by rw [List.length_append, hD.out]; rfl), HE2, P9⟩
                case measure => simp [intOf]; omega
            · have i1 : ¬ (i : Int) < (j : Int) := by omega
              have HS := Lib.hid (show D = repl (x, y) (n : Int) ks by rw [← HE.out, repl_done (by have := HSp.out; omega), List.append_nil])
              have hq : q < j := by
                have := hD.out
                rw [HS.out] at this
                omega
              have P9 := Lib.hid (show MdW w wr G w.heap.size #[.slice none 0 0] A8 (n + 1) c8 (rs ++ [yf]) E q e D from ⟨J.out.g.q, J.out.o, J.out.g.g, J.out.g.o, J.out.g.e, J.out.g.hg, J.out.g.hn⟩)
              rw [← HS.out] at HI2 HSt
              clear J HE
              go_wp2_with fail
              go_roundw
              case rel => exact ⟨n + 1, q, A8, c8, E, e, rs ++ [yf], D, rfl, Lib.hid (by rw [List.length_append, HSn.out]; rfl), hD, HI2, Lib.hid HSt.out.symm, P9⟩
              case measure => simp [slen]; omega
end Go.Proofs.Ytikhjoianbndhaa


/-
  Grammars that a call has made: marked, held.
-/
namespace Go.Proofs.Ytikhjoianbndhaa
open Go.RowKit

def markF (k i : Nat) : Fac := ⟨mt (k + 3 * i), ((k + 3 * i + 1 : Nat) : Int), ((k + 3 * i + 2 : Nat) : Int)⟩
/-- the marks of n rules from k on -/
def marksR (k n : Nat) : List Fac := (List.range n).map (markF k)
theorem marksR_len (k n : Nat) : (marksR k n).length = n := by simp [marksR]
theorem marksR_at {k n i : Nat} (h : i < n) : (marksR k n)[i]? = some (markF k i) := by
  unfold marksR; rw [List.getElem?_map, List.getElem?_range h]; rfl
theorem flat_set3 : ∀ (l : List Fac) (i : Nat) (y : Fac), i < l.length →
    (((l.flatMap Fac.cells).set (i * 3) (.string y.l)).set (i * 3 + 1) (.int .i64 y.a)).set (i * 3 + 2) (.int .i64 y.b) = (l.set i y).flatMap Fac.cells
  | [], _, _, h => by simp at h
  | x :: r, 0, y, _ => by simp [Fac.cells]
  | x :: r, i + 1, y, h => by
    have ih := flat_set3 r i y (by simpa using h)
    rw [show (i + 1) * 3 = i * 3 + 3 by omega]
    simp only [List.flatMap_cons, List.set_cons_succ, Fac.cells, List.cons_append, List.nil_append]
    rw [ih]
theorem set_marks {k n i : Nat} {l : List Fac} (hl : l.length = n) (h : ∀ j, j < i → l[j]? = some (markF k j)) (hi : i < n) : (l.set i (markF k i)).length = n ∧ ∀ j, j < i + 1 → (l.set i (markF k i))[j]? = some (markF k j) := by
  refine ⟨by simpa using hl, fun j hj => ?_⟩
  by_cases e : i = j
  · subst e; rw [List.getElem?_set_self (by omega)]
  · rw [List.getElem?_set_ne e]; exact h j (by omega)
theorem marks_end {k n : Nat} {l : List Fac} (hl : l.length = n) (h : ∀ j, j < n → l[j]? = some (markF k j)) : l = marksR k n := by
  refine List.ext_getElem? fun j => ?_
  by_cases hj : j < n
  · rw [h j hj, marksR_at hj]
  · rw [List.getElem?_eq_none (by omega), List.getElem?_eq_none (by rw [marksR_len]; omega)]
set_option maxHeartbeats 2000000 in
theorem markRuleSC_any (A : Option Addr) (n c : Nat) (base : Nat) (xs : List Fac) (k : Nat) (w : World) (hn : n ≤ 1048576) (hk : k ≤ 1048576) (hx : xs.length = n)
    (hown : w.ownsRow base 44 3 (.slice A n c) n (xs.flatMap Fac.cells)) :
    Calls Try.prog 33 #[.slice A n c, .int .i64 (k : Int)] w fun e w' => e = .returned (.int .i64 ((k + 3 * n : Nat) : Int)) ∧ w'.ownsRow base 44 3 (.slice A n c) n ((marksR k n).flatMap Fac.cells) ∧ w.grownBy w' (Value.slice A n c).ownBlock := by
  go_enter Try.func33, Try.ntmps33
  go_wp2
  go_loopw [1, 5] (fun k_ i_ w' => ∃ (i : Nat) (l : List Fac), i_ = .int .i64 i ∧ k_ = .int .i64 ((k : Int) + 3 * (i : Int)) ∧ i ≤ n ∧ Hid (w'.ownsRow base 44 3 (.slice A n c) n (l.flatMap Fac.cells)) ∧
      Hid (l.length = n) ∧ Hid (∀ j, j < i → l[j]? = some (markF k j)) ∧ Hid (w.grownBy w' (Value.slice A n c).ownBlock)) (fun _ i_ _ => n - (intOf i_).toNat)
  case atStart => exact ⟨0, xs, rfl, by go_num, by omega, Lib.hid hown, Lib.hid hx, Lib.hid (fun j hj => absurd hj (by omega)), Lib.hid (World.grownBy.refl _ _)⟩
  case round =>
    obtain ⟨i, l, rfl, rfl, hi, ho, hll, hmk, hg⟩ := hrel
    by_cases hlt : i < n
    · obtain ⟨g, cap, hv, hgb, hgs⟩ := ho.out.form (by omega)
      injection hv with hA _ hc
      subst hA
      clear hc
      have hc1 := Lib.hid ho.out.1
      go_wp2_with fail
      refine (markText_eq _ (k + 3 * i) wr (by omega) (by omega) (by omega)).mono ?_
      rintro e w1 ⟨rfl, hb1⟩
      have ho1 := Lib.hid (own_next ho.out hb1)
      have c0 := (ho1.out.cellAt (i * 3) (by omega)).trans (List.getElem?_eq_getElem (by rw [hc1.out]; omega))
      have c1 := (ho1.out.cellAt (i * 3 + 1) (by omega)).trans (List.getElem?_eq_getElem (by rw [hc1.out]; omega))
      have c2 := (ho1.out.cellAt (i * 3 + 2) (by omega)).trans (List.getElem?_eq_getElem (by rw [hc1.out]; omega))
      have f0 := ho1.out.frozenAt
      have G1 := Lib.hid (gb_trans hg.out (gb_below hb1 (r := (Value.slice (some ⟨g, 0, none⟩) n c).ownBlock)))
      have hS := Lib.hid (set_marks hll.out hmk.out hlt)
      have hO := Lib.hid (own_setI (own_setI (own_setI ho1.out (i * 3) (.string (mt (k + 3 * i)))) (i * 3 + 1) (.int .i64 ((k + 3 * i + 1 : Nat) : Int))) (i * 3 + 2) (.int .i64 ((k + 3 * i + 2 : Nat) : Int)))
      have hfs : (((l.flatMap Fac.cells).set (i * 3) (.string (mt (k + 3 * i)))).set (i * 3 + 1) (.int .i64 ((k + 3 * i + 1 : Nat) : Int))).set (i * 3 + 2) (.int .i64 ((k + 3 * i + 2 : Nat) : Int)) = (l.set i (markF k i)).flatMap Fac.cells := flat_set3 l i (markF k i) (by rw [hll.out]; exact hlt)
      have hO2 := hO.out
      rw [hfs] at hO2
      have q1 : ((k + 3 * i + 1 : Nat) : Int) = (k : Int) + 3 * (i : Int) + 1 := by omega
      have q2 : ((k + 3 * i + 2 : Nat) : Int) = (k : Int) + 3 * (i : Int) + 1 + 1 := by omega
      rw [q1, q2] at hO2
      have HO2 := Lib.hid hO2
      clear hO hO2 hfs
      generalize mt (k + 3 * i) = tx at *
      go_wp2_with fail
      go_roundw
      case rel =>
        exact ⟨i + 1, _, by go_num, by go_num, by omega, HO2, Lib.hid hS.out.1, Lib.hid hS.out.2, Lib.hid (gb_setCell (gb_setCell (gb_setCell G1.out (i * 3) _) (i * 3 + 1) _) (i * 3 + 2) _)⟩
      case measure => simp [intOf]; omega
    · have hin : n = i := by omega
      subst hin
      have hE := Lib.hid (marks_end hll.out hmk.out)
      go_wp2
      go_ret
      refine ⟨ret_int (by omega), ?_, hg.out⟩
      rw [← hE.out]; exact ho.out
theorem markGrammarC_any (A : Option Addr) (n c : Nat) (base : Nat) (xs : List Fac) (k : Nat) (w : World) (hn : n ≤ 1048576) (hk : k ≤ 1048576) (hx : xs.length = n)
    (hown : w.ownsRow base 44 3 (.slice A n c) n (xs.flatMap Fac.cells)) :
    Calls Try.prog 10 #[.agg #[.slice A n c], .int .i64 (k : Int)] w fun e w' => e = .returned (.int .i64 ((k + 3 * n : Nat) : Int)) ∧ w'.ownsRow base 44 3 (.slice A n c) n ((marksR k n).flatMap Fac.cells) ∧ w.grownBy w' (Value.slice A n c).ownBlock := by
  have Ho := Lib.hid hown; clear hown
  have hb0 : Below w.heap.size w (w.alloc (.cells #[.slice A n c] 24)) := by (repeat first | exact Below.refl _ _ | assumption | refine Below.drew ?_ | refine Below.alloc ?_ (by first | exact Nat.le_refl _ | (simp; done) | omega | (simp; omega)) _ | refine Below.setCell ?_ (by first | exact Nat.le_refl _ | (simp; done) | omega | (simp; omega)) _)
  go_enter Try.func10, Try.ntmps10
  go_wp2_with fail
  refine (markRuleSC_any A n c base xs k _ hn hk hx (own_next Ho.out hb0)).mono ?_
  rintro e w1 ⟨rfl, ho1, hg1⟩
  have O1 := Lib.hid ho1; clear ho1
  go_wp2_with fail
  go_ret
  exact ⟨rfl, O1.out, gb_trans (gb_below hb0) hg1⟩
set_option maxHeartbeats 2000000 in
theorem heldRuleS_any (A : Option Addr) (n c : Nat) (k : Nat) (w : World) (hn : n ≤ 1048576) (hk : k ≤ 1048576) (hr : Rd w w.heap.size A n 3 Fac.cells (marksR k n)) :
    Calls Try.prog 34 #[.slice A n c, .int .i64 (k : Int)] w (Ret (.int .i64 ((k + 3 * n : Nat) : Int)) w) := by
  go_enter Try.func34, Try.ntmps34
  go_wp2
  go_loopw [1, 5] (fun k_ i_ w' => ∃ (i : Nat), i_ = .int .i64 i ∧ k_ = .int .i64 ((k : Int) + 3 * (i : Int)) ∧ i ≤ n ∧ Below w.heap.size w w') (fun _ i_ _ => n - (intOf i_).toNat)
  case atStart => exact ⟨0, rfl, by go_num, by omega, Below.refl _ _⟩
  case round =>
    obtain ⟨i, rfl, rfl, hi, hb⟩ := hrel
    by_cases hlt : i < n
    · obtain ⟨b, o, x, rfl, hB, gx, c0, c1, c2⟩ := (hr.next hb).fac hlt
      obtain rfl : markF k i = x := by
        rw [marksR_at hlt] at gx
        exact Option.some.inj gx
      clear gx
      have c1' : wr.cell? ⟨b, o + i * 3 + 1, none⟩ = some (.int .i64 ((k : Int) + 3 * (i : Int) + 1)) := c1.trans (by show some (Value.int .i64 ((k + 3 * i + 1 : Nat) : Int)) = _; congr 2 <;> omega)
      have c2' : wr.cell? ⟨b, o + i * 3 + 2, none⟩ = some (.int .i64 ((k : Int) + 3 * (i : Int) + 1 + 1)) := c2.trans (by show some (Value.int .i64 ((k + 3 * i + 2 : Nat) : Int)) = _; congr 2 <;> omega)
      have c0' : wr.cell? ⟨b, o + i * 3, none⟩ = some (.string (mt (k + 3 * i))) := c0
      clear c0 c1 c2
      have hM := Lib.hid (fun (w' : World) => markText_eq ((k : Int) + 3 * (i : Int)) (k + 3 * i) w' (by omega) (by omega) (by omega))
      generalize mt (k + 3 * i) = tx at *
      have hup := upc wr.heap.size wr
      have i0 : (0 : Int) ≤ (i : Int) := by omega
      have i1 : (i : Int) < (n : Int) := by omega
      go_wp2_with fail
      refine wp_region_up wr.heap.size (by kernel_rfl) (by kernel_rfl) ?_
      repeat (go_big_quiet_step (((go_at_call 60; exact Calls.up (Nat.le_refl _) (hM.out _)))))
      refine wpQuiet_nil ?_
      intro w2 hup_w2
      have hb2 := up_of hup_w2
      have d1 := (hb2.cell (p := ⟨b, o + i * 3 + 1, none⟩) hB).trans c1'
      have d2 := (hb2.cell (p := ⟨b, o + i * 3 + 2, none⟩) hB).trans c2'
      go_wp2
      go_roundw
      case rel => exact ⟨i + 1, by go_num, by go_num, by omega, hb.trans (hb2.mono hb.size)⟩
      case measure => simp [intOf]; omega
    · go_wp2
      go_ret
      exact ⟨ret_int (by omega), hb⟩
theorem heldGrammar_any (A : Option Addr) (n c : Nat) (k : Nat) (w : World) (hn : n ≤ 1048576) (hk : k ≤ 1048576) (hr : Rd w w.heap.size A n 3 Fac.cells (marksR k n)) :
    Calls Try.prog 11 #[.agg #[.slice A n c], .int .i64 (k : Int)] w (Ret (.int .i64 ((k + 3 * n : Nat) : Int)) w) := by
  have HR := Lib.hid hr; clear hr
  have hb0 : Below w.heap.size w (w.alloc (.cells #[.slice A n c] 24)) := by (repeat first | exact Below.refl _ _ | assumption | refine Below.drew ?_ | refine Below.alloc ?_ (by first | exact Nat.le_refl _ | (simp; done) | omega | (simp; omega)) _ | refine Below.setCell ?_ (by first | exact Nat.le_refl _ | (simp; done) | omega | (simp; omega)) _)
  go_enter Try.func11, Try.ntmps11
  go_wp2_with fail
  refine (heldRuleS_any A n c k _ hn hk (HR.out.next hb0)).mono ?_
  rintro e w1 ⟨rfl, hb1⟩
  go_wp2_with fail
  go_ret
  exact ⟨rfl, hb0.trans (hb1.mono hb0.size)⟩
end Go.Proofs.Ytikhjoianbndhaa
