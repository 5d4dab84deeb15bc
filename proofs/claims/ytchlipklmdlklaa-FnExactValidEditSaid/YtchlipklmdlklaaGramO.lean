/-
  Is a grammar valid: in the reference, at a pointer into the middle of a block.
-/
import Derived.Test.YtchlipklmdlklaaGramL
namespace Go.Proofs.Ytchlipklmdlklaa
open Go.RowKit

set_option maxHeartbeats 4000000 in
set_option maxRecDepth 100000 in
theorem l02SizesO_any (gb go : Nat) (A : Option Addr) (n c : Nat) (rs : List Fac) (w : World) (hg : gb < w.heap.size) (hc : w.cell? ⟨gb, go, none⟩ = some (.slice A n c)) (hn : n ≤ 100000000) (hr : Rd w w.heap.size A n 3 Fac.cells rs) (hok : ∀ f ∈ rs, f.l.size ≤ maxLen) :
    Calls Try.prog 74 #[.pointer (some ⟨gb, go, none⟩)] w (SizesPost rs w) := by
  have hl := Lib.hid hr.len
  go_enter Try.func74, Try.ntmps74
  go_wp2
  go_loopw [4, 5] (fun o_ i_ w' => ∃ (k : Nat) (out : List Int) (A' : Option Addr) (c' : Nat), i_ = .int .i64 k ∧ o_ = .slice A' k c' ∧ k ≤ n ∧ Hid (out.length = k) ∧
      Hid (w'.ownsRow w.heap.size 2 1 (.slice A' k c') k (out.flatMap intE)) ∧ Hid (∀ x ∈ out, 1 ≤ x ∧ x ≤ 1000000000000000) ∧
      Below w.heap.size w w' ∧ Hid (gLens (rs.drop k) out = gLens rs [])) (fun _ i_ _ => n - (intOf i_).toNat)
  case atStart =>
    exact ⟨0, [], _, 0, rfl, rfl, by omega, Lib.hid rfl, Lib.hid (by simpa using World.ownsRow_made (base := w.heap.size) (e := 2) (size := 1) w #[] 0 (Nat.le_refl _) (by unfold maxLen; omega) rfl), Lib.hid (by simp), by (repeat first | exact Below.refl _ _ | assumption | refine Below.drew ?_ | refine Below.alloc ?_ (by first | exact Nat.le_refl _ | (simp; done) | omega | (simp; omega)) _ | refine Below.setCell ?_ (by first | exact Nat.le_refl _ | (simp; done) | omega | (simp; omega)) _), Lib.hid rfl⟩
  case round =>
    obtain ⟨k, out, A', c', rfl, rfl, hk, ho, hown, hbd, hb, H⟩ := hrel
    have hc1 := (hb.cell (p := ⟨gb, go, none⟩) hg).trans hc
    have hgr : gb < wr.heap.size := by have := hb.size; omega
    by_cases hlt : k < n
    · obtain ⟨b, o, x, rfl, hB, gx, c0, c1, c2⟩ := (hr.next hb).fac hlt
      have hxm : x.l.size ≤ maxLen := hok x (List.mem_of_getElem? gx)
      have H' := Lib.hid (show ((gStep out x).bind fun m => gLens (rs.drop (k + 1)) (out ++ [m])) = gLens rs [] by rw [← H.out, drop_cons gx]; rfl)
      clear gx H
      rcases hgr2 : gRight x k with _ | _
      · have Hgr := Lib.hid hgr2; clear hgr2
        go_wp2_with (go_at_call 82; refine (l02Rule_any b (o + k * 3) x k false _ hB c0 c1 c2 hxm (by omega) (by omega) Hgr.out).mono ?_; rintro e w2 ⟨rfl, hb2⟩)
        go_ret2
        exact SizesPost.no (by rw [← H'.out, gRight_no (by rw [ho.out]; exact Hgr.out)]; rfl) (hb.trans (hb2.mono hb.size))
      · have Hgr := Lib.hid hgr2; clear hgr2
        by_cases h0 : x.l.size = 0
        · have e0 := size0 h0
          have hpr := gRight_pair (out := out) h0 (by rw [ho.out]; exact Hgr.out)
          rw [ho.out] at hpr
          obtain ⟨ha, hbb⟩ := hpr
          have ha' : 0 ≤ x.a ∧ x.a ≤ (k : Int) - 1 := by simpa [inB] using ha
          have hb' : 0 ≤ x.b ∧ x.b ≤ (k : Int) - 1 := by simpa [inB] using hbb
          have ha0 := ha'.1; have ha1 := ha'.2; have hb0 := hb'.1; have hb1' := hb'.2; clear ha' hb'
          have Ha := Lib.hid ha; clear ha
          have Hb := Lib.hid hbb; clear hbb
          have h0' := Lib.hid h0; clear h0
          go_wp2_with fail
          refine (l02Rule_any b (o + k * 3) x k true _ hB c0 c1 c2 hxm (by omega) (by omega) Hgr.out).mono ?_
          rintro e w2 ⟨rfl, hb2⟩
          have b2 := hb.trans (hb2.mono hb.size)
          have d0 := (hb2.cell (p := ⟨b, o + k * 3, none⟩) hB).trans c0
          have d1 := (hb2.cell (p := ⟨b, o + k * 3 + 1, none⟩) hB).trans c1
          have d2 := (hb2.cell (p := ⟨b, o + k * 3 + 2, none⟩) hB).trans c2
          clear c0 c1 c2 hc1
          have own2 := Lib.hid (own_next hown.out hb2)
          obtain ⟨g, rfl, hg0, hg1, e1⟩ := own_int own2.out ho.out x.a ha0 (by omega)
          obtain ⟨g', hgg, _, _, e2⟩ := own_int own2.out ho.out x.b hb0 (by omega)
          obtain rfl : g = g' := by injection hgg with hgg; injection hgg
          clear hgg
          have bd1 := hbd.out (out.getD x.a.toNat 0) (by rw [List.getD_eq_getElem?_getD, List.getElem?_eq_getElem (by rw [ho.out]; omega)]; simp)
          have bd2 := hbd.out (out.getD x.b.toNat 0) (by rw [List.getD_eq_getElem?_getD, List.getElem?_eq_getElem (by rw [ho.out]; omega)]; simp)
          have Hc := Lib.hid (fun h => gStep_no_c (out := out) (x := x) h0'.out h)
          have Hp := Lib.hid (fun h => gStep_pair (out := out) (x := x) h0'.out (by rw [ho.out]; exact Ha.out) (by rw [ho.out]; exact Hb.out) h)
          generalize out.getD x.a.toNat 0 = y1 at *
          generalize out.getD x.b.toNat 0 = y2 at *
          have hup := upc w2.heap.size w2
          have hbz : b < w2.heap.size := by have := hb2.size; omega
          have i1 : x.a < (k : Int) := by omega
          have i2 : x.b < (k : Int) := by omega
          have bd10 := bd1.1; have bd11 := bd1.2; have bd20 := bd2.1; have bd21 := bd2.2
          clear bd1 bd2
          go_wp2_with fail
          refine wp_region_up w2.heap.size (by kernel_rfl) (by kernel_rfl) ?_
          repeat (go_big_quiet_step (fail))
          refine wpQuiet_nil ?_
          intro w4 hup_w4
          have hb4 := up_of hup_w4
          have b4 := b2.trans (hb4.mono b2.size)
          have own4 := Lib.hid (own_next own2.out hb4)
          by_cases hc : 1000000000000000 < y1 + y2
          · go_wp2_with fail
            go_ret2
            exact SizesPost.no (by rw [← H'.out, Hc.out hc]; rfl) b4
          · go_wp2_with
            (at_builtin
             refine wpList_push (w0 := w) rfl _ _ _ rfl w.heap.size 2 1 8 elem_int intE _ k c' out rfl (own4.out.alloc _) w4.heap.size (y1 + y2) #[.int .i64 (y1 + y2)] 2 (0, 0) rfl (heap_alloc_new _ _) rfl rfl (by simp [intE, Value.oneCell']) (by omega) (by omega) (by unfold maxLen; omega) rfl (b4.alloc b4.size _) ?_
             intro A9 c9 w9 own9 hg9 hat9 hb9
             have O9 := Lib.hid own9; clear own9)
            go_roundw
            case rel => exact ⟨k + 1, out ++ [y1 + y2], A9, c9, by go_num, rfl, by omega, Lib.hid (by rw [List.length_append, ho.out]; rfl), O9, Lib.hid (fun z hz => by
              rcases List.mem_append.1 hz with hz | hz
              · exact hbd.out z hz
              · simp at hz; omega), hb9, Lib.hid (by rw [← H'.out, Hp.out (by omega)]; rfl)⟩
            case measure => simp [intOf]; omega
        · have e0 := size1 h0
          have e0' := size1' h0
          have Hp := Lib.hid (gRight_let (out := out) h0 (by rw [ho.out]; exact Hgr.out))
          have H0 := Lib.hid h0; clear h0
          go_wp2_with fail
          refine (l02Rule_any b (o + k * 3) x k true _ hB c0 c1 c2 hxm (by omega) (by omega) Hgr.out).mono ?_
          rintro e w2 ⟨rfl, hb2⟩
          have b2 := hb.trans (hb2.mono hb.size)
          have d0 := (hb2.cell (p := ⟨b, o + k * 3, none⟩) hB).trans c0
          clear c0 c1 c2 hc1
          have own2 := Lib.hid (own_next hown.out hb2)
          go_wp2_with
            (at_builtin
             refine wpList_push (w0 := w) rfl _ _ _ rfl w.heap.size 2 1 8 elem_int intE _ k c' out rfl (own2.out.alloc _) w2.heap.size 1 #[.int .i64 1] 2 (0, 0) rfl (heap_alloc_new _ _) rfl rfl (by simp [intE, Value.oneCell']) (by omega) (by omega) (by unfold maxLen; omega) rfl (b2.alloc b2.size _) ?_
             intro A9 c9 w9 own9 hg9 hat9 hb9
             have O9 := Lib.hid own9; clear own9)
          go_roundw
          case rel => exact ⟨k + 1, out ++ [1], A9, c9, by go_num, rfl, by omega, Lib.hid (by rw [List.length_append, ho.out]; rfl), O9, Lib.hid (fun z hz => by
            rcases List.mem_append.1 hz with hz | hz
            · exact hbd.out z hz
            · simp at hz; omega), hb9, Lib.hid (by rw [← H'.out, Hp.out]; rfl)⟩
          case measure => simp [intOf]; omega
    · have hfin := Lib.hid (show gLens rs [] = some out by rw [← H.out, List.drop_of_length_le (by rw [hl.out]; omega)]; rfl)
      go_wp2_with fail
      go_ret2
      refine ⟨hb, .inl ⟨out, A', c', hfin.out, ret_sliceB ho.out.symm, ?_⟩⟩
      rw [ho.out]
      exact hown.out
section
variable (gb go : Nat) (A : Option Addr) (n c : Nat) (rs : List Fac) (w : World) (hg : gb < w.heap.size) (hc : w.cell? ⟨gb, go, none⟩ = some (.slice A n c)) (hn : n ≤ 100000000) (hr : Rd w w.heap.size A n 3 Fac.cells rs) (hok : ∀ f ∈ rs, f.l.size ≤ maxLen)
include hg hc hn hr hok
set_option maxHeartbeats 400000 in
theorem l02LengthsO_any : Calls Try.prog 52 #[.pointer (some ⟨gb, go, none⟩)] w (LenPost rs w) := by
  have hl := Lib.hid hr.len
  by_cases h4 : 400 < n
  · have e := Lib.hid (show gOk rs = none by unfold gOk; rw [hl.out, if_pos h4])
    go_enter Try.func52, Try.ntmps52
    go_wp2_with fail
    go_ret2
    exact LenPost.no e.out (by (repeat first | exact Below.refl _ _ | assumption | refine Below.drew ?_ | refine Below.alloc ?_ (by first | exact Nat.le_refl _ | (simp; done) | omega | (simp; omega)) _ | refine Below.setCell ?_ (by first | exact Nat.le_refl _ | (simp; done) | omega | (simp; omega)) _))
  · have e := Lib.hid (show gOk rs = gLens rs [] by unfold gOk; rw [hl.out, if_neg h4])
    go_enter Try.func52, Try.ntmps52
    go_wp2_with fail
    refine (l02SizesO_any gb go A n c rs _ hg hc hn hr hok).mono ?_
    rintro e' w1 ⟨hb1, ⟨ls, A', c', hgl, rfl, hown⟩ | ⟨hgl, A', n', c', rfl⟩⟩
    · have Hgl := Lib.hid hgl; clear hgl
      go_wp2_with fail
      go_ret2
      exact ⟨hb1, .inl ⟨ls, A', c', e.out.trans Hgl.out, rfl, hown⟩⟩
    · have Hgl := Lib.hid hgl; clear hgl
      go_wp2_with fail
      go_ret2
      exact LenPost.no (e.out.trans Hgl.out) hb1
theorem l02OkO_any (b : Bool) (hb : (gOk rs).isSome = b) : Calls Try.prog 30 #[.pointer (some ⟨gb, go, none⟩)] w (Ret (.bool b) w) := by
  have Hb := Lib.hid hb; clear hb
  go_enter Try.func30, Try.ntmps30
  go_wp2_with fail
  refine (l02LengthsO_any gb go A n c rs _ hg hc hn hr hok).mono ?_
  rintro e w1 ⟨hb1, ⟨ls, A', c', hg, rfl, hown⟩ | ⟨hg, A', n', c', rfl⟩⟩
  · have e1 := Lib.hid (show true = b by rw [← Hb.out, hg]; rfl)
    clear hg
    go_wp2_with fail
    go_ret
    exact ⟨ret_bool e1.out, hb1⟩
  · have e1 := Lib.hid (show false = b by rw [← Hb.out, hg]; rfl)
    clear hg
    go_wp2_with fail
    go_ret
    exact ⟨ret_bool e1.out, hb1⟩
end
end Go.Proofs.Ytchlipklmdlklaa
