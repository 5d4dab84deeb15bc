/-
  Rules and lengths in the reference.
-/
import Derived.Test.YtikhjoianbndhaaGram
namespace Go.Proofs.Ytikhjoianbndhaa
open Go.RowKit

theorem specIn_any (n lo hi : Int) (b : Bool) (w : World) (hb : inB n lo hi = b) :
    Calls Try.prog 78 #[.int .i64 n, .int .i64 lo, .int .i64 hi] w (Ret (.bool b) w) := by
  by_cases h1 : lo ≤ n
  · by_cases h2 : n ≤ hi
    all_goals
      have e := Lib.hid (show inB n lo hi = decide (n ≤ hi) by simp [inB, h1])
      have Hb := Lib.hid hb; clear hb
      go_enter Try.func78, Try.ntmps78
      go_wp2
      go_ret
      exact ⟨ret_bool (by rw [← Hb.out, e.out]; simp; omega), Below.refl _ _⟩
  · have e := Lib.hid (show inB n lo hi = false by simp [inB, h1])
    have Hb := Lib.hid hb; clear hb
    go_enter Try.func78, Try.ntmps78
    go_wp2
    go_ret
    exact ⟨ret_bool (by rw [← Hb.out, e.out]), Below.refl _ _⟩
/-- is a rule right at a place? -/
def gRight (x : Fac) (k : Int) : Bool := if x.l.size = 0 then inB x.a 0 (k - 1) && inB x.b 0 (k - 1) else letT x.l && decide (x.a = 0) && decide (x.b = 0)
theorem gRight_no {out : List Int} {x : Fac} (h : gRight x out.length = false) : gStep out x = none := by
  unfold gRight at h
  split at h
  · rename_i h0
    by_cases ha : inB x.a 0 ((out.length : Int) - 1) = true
    · exact gStep_no_b h0 (by simpa [ha] using h)
    · exact gStep_no_a h0 (by simpa using ha)
  · rename_i h0
    exact gStep_no_l h0 (fun q => by simp [q.1, q.2.1, q.2.2] at h)
theorem gRight_pair {out : List Int} {x : Fac} (h0 : x.l.size = 0) (h : gRight x out.length = true) : inB x.a 0 ((out.length : Int) - 1) = true ∧ inB x.b 0 ((out.length : Int) - 1) = true := by
  unfold gRight at h
  rw [if_pos h0] at h
  simpa using h
theorem gRight_let {out : List Int} {x : Fac} (h0 : x.l.size ≠ 0) (h : gRight x out.length = true) : gStep out x = some 1 := by
  unfold gRight at h
  rw [if_neg h0] at h
  exact gStep_let h0 (by simpa [and_assoc] using h)

set_option maxHeartbeats 400000 in
theorem l02Rule_any (b o : Nat) (x : Fac) (k : Int) (v : Bool) (w : World) (hB : b < w.heap.size) (c0 : w.cell? ⟨b, o, none⟩ = some (.string x.l)) (c1 : w.cell? ⟨b, o + 1, none⟩ = some (.int .i64 x.a)) (c2 : w.cell? ⟨b, o + 2, none⟩ = some (.int .i64 x.b))
    (hx : x.l.size ≤ maxLen) (hk0 : 0 ≤ k) (hk : k ≤ 100000000) (hv : gRight x k = v) :
    Calls Try.prog 77 #[.pointer (some ⟨b, o, none⟩), .int .i64 k] w (Ret (.bool v) w) := by
  by_cases h0 : x.l.size = 0
  · have e0 := size0 h0
    have hv' := Lib.hid (show (inB x.a 0 (k - 1) && inB x.b 0 (k - 1)) = v by rw [← hv]; unfold gRight; rw [if_pos h0])
    clear hv h0
    rcases ha : inB x.a 0 (k - 1) with _ | _
    · have Ha := Lib.hid ha; clear ha
      go_enter Try.func77, Try.ntmps77
      go_wp2_with (go_at_call 78; refine (specIn_any _ _ _ false _ Ha.out).mono ?_; rintro e w2 ⟨rfl, hb2⟩)
      go_ret
      exact ⟨ret_bool (by rw [← hv'.out, Ha.out]; rfl), hb2⟩
    · have Ha := Lib.hid ha; clear ha
      rcases hb : inB x.b 0 (k - 1) with _ | _
      all_goals
        have Hb := Lib.hid hb; clear hb
        go_enter Try.func77, Try.ntmps77
        go_wp2_with fail
        refine (specIn_any _ _ _ true _ Ha.out).mono ?_
        rintro e w2 ⟨rfl, hb2⟩
        obtain ⟨hc2, _⟩ := bcell hb2
        go_wp2_with fail
        refine (specIn_any _ _ _ _ _ Hb.out).mono ?_
        rintro e w3 ⟨rfl, hb3⟩
        go_wp2_with fail
        go_ret
        exact ⟨ret_bool (by rw [← hv'.out, Ha.out, Hb.out]; rfl), hb2.trans (hb3.mono hb2.size)⟩
  · have e1 := size1 h0
    have e2 := size1' h0
    by_cases hs1 : x.l.size = 1
    · obtain ⟨cc, hcc⟩ := one_byte hs1
      obtain ⟨xl, xa, xb⟩ := x
      simp only at hcc c0 c1 c2 hs1 h0 hx e1 e2
      subst hcc
      have hv' := Lib.hid (show (letB cc && decide (xa = 0) && decide (xb = 0)) = v by rw [← hv]; unfold gRight; rw [if_neg h0]; rfl)
      clear hv h0 hs1
      rcases hl : letB cc with _ | _
      · have Hl := Lib.hid hl; clear hl
        go_enter Try.func77, Try.ntmps77
        go_wp2_with fail
        refine (specOk_any _ false _ hx (by rw [okW_one]; exact Hl.out)).mono ?_
        rintro e w2 ⟨rfl, hb2⟩
        go_wp2_with fail
        go_ret
        exact ⟨ret_bool (by rw [← hv'.out, Hl.out]; rfl), hb2⟩
      · have Hl := Lib.hid hl; clear hl
        by_cases ha : xa = 0
        · have ha' : (xa == 0) = true := by simp [ha]
          have Ha := Lib.hid ha; clear ha
          go_enter Try.func77, Try.ntmps77
          go_wp2_with fail
          refine (specOk_any _ true _ hx (by rw [okW_one]; exact Hl.out)).mono ?_
          rintro e w2 ⟨rfl, hb2⟩
          obtain ⟨hc2, _⟩ := bcell hb2
          go_wp2_with fail
          go_ret
          exact ⟨ret_bool (by rw [← hv'.out, Hl.out, Ha.out, Bool.eq_iff_iff]; simp), hb2⟩
        · have ha' : (xa == 0) = false := by simp [ha]
          have Ha := Lib.hid ha; clear ha
          go_enter Try.func77, Try.ntmps77
          go_wp2_with fail
          refine (specOk_any _ true _ hx (by rw [okW_one]; exact Hl.out)).mono ?_
          rintro e w2 ⟨rfl, hb2⟩
          obtain ⟨hc2, _⟩ := bcell hb2
          go_wp2_with fail
          go_ret
          exact ⟨ret_bool (by rw [← hv'.out, decide_eq_false Ha.out]; simp), hb2⟩
    · have hs2 : ((x.l.size : Int) == 1) = false := by simp; omega
      have hv' := Lib.hid (show false = v by rw [← hv]; unfold gRight; rw [if_neg h0, letT_not hs1]; rfl)
      clear hv h0 hs1
      go_enter Try.func77, Try.ntmps77
      go_wp2_with fail
      go_ret
      exact ⟨ret_bool hv'.out, Below.refl _ _⟩
/-- what 'l02Sizes' leaves -/
def SizesPost (rs : List Fac) (w : World) (e : Ending) (w' : World) : Prop :=
  Below w.heap.size w w' ∧ ((∃ ls A c, gLens rs [] = some ls ∧ e = .returned (.tuple #[.slice A ls.length c, .bool true]) ∧ w'.ownsRow w.heap.size 2 1 (.slice A ls.length c) ls.length (ls.flatMap intE)) ∨
    (gLens rs [] = none ∧ ∃ A n c, e = .returned (.tuple #[.slice A n c, .bool false])))
theorem SizesPost.no {rs : List Fac} {w w' : World} {A : Option Addr} {n c : Nat} (h : gLens rs [] = none) (hb : Below w.heap.size w w') : SizesPost rs w (.returned (.tuple #[.slice A n c, .bool false])) w' :=
  ⟨hb, .inr ⟨h, A, n, c, rfl⟩⟩
set_option maxHeartbeats 4000000 in
set_option maxRecDepth 100000 in
theorem l02Sizes_any (gb : Nat) (A : Option Addr) (n c : Nat) (rs : List Fac) (w : World) (hg : gb < w.heap.size) (hc : w.cell? ⟨gb, 0, none⟩ = some (.slice A n c)) (hn : n ≤ 100000000) (hr : Rd w w.heap.size A n 3 Fac.cells rs) (hok : ∀ f ∈ rs, f.l.size ≤ maxLen) :
    Calls Try.prog 73 #[.pointer (some ⟨gb, 0, none⟩)] w (SizesPost rs w) := by
  have hl := Lib.hid hr.len
  go_enter Try.func73, Try.ntmps73
  go_wp2
  go_loopw [4, 5] (fun o_ i_ w' => ∃ (k : Nat) (out : List Int) (A' : Option Addr) (c' : Nat), i_ = .int .i64 k ∧ o_ = .slice A' k c' ∧ k ≤ n ∧ Hid (out.length = k) ∧
      Hid (w'.ownsRow w.heap.size 2 1 (.slice A' k c') k (out.flatMap intE)) ∧ Hid (∀ x ∈ out, 1 ≤ x ∧ x ≤ 1000000000000000) ∧
      Below w.heap.size w w' ∧ Hid (gLens (rs.drop k) out = gLens rs [])) (fun _ i_ _ => n - (intOf i_).toNat)
  case atStart =>
    exact ⟨0, [], _, 0, rfl, rfl, by omega, Lib.hid rfl, Lib.hid (by simpa using World.ownsRow_made (base := w.heap.size) (e := 2) (size := 1) w #[] 0 (Nat.le_refl _) (by unfold maxLen; omega) rfl), Lib.hid (by simp), by (repeat first | exact Below.refl _ _ | assumption | refine Below.drew ?_ | refine Below.alloc ?_ (by first | exact Nat.le_refl _ | (simp; done) | omega | (simp; omega)) _ | refine Below.setCell ?_ (by first | exact Nat.le_refl _ | (simp; done) | omega | (simp; omega)) _), Lib.hid rfl⟩
  case round =>
    obtain ⟨k, out, A', c', rfl, rfl, hk, ho, hown, hbd, hb, H⟩ := hrel
    have hc1 := (hb.cell (p := ⟨gb, 0, none⟩) hg).trans hc
    have hgr : gb < wr.heap.size := by have := hb.size; omega
    by_cases hlt : k < n
    · obtain ⟨b, o, x, rfl, hB, gx, c0, c1, c2⟩ := (hr.next hb).fac hlt
      have hxm : x.l.size ≤ maxLen := hok x (List.mem_of_getElem? gx)
      have H' := Lib.hid (show ((gStep out x).bind fun m => gLens (rs.drop (k + 1)) (out ++ [m])) = gLens rs [] by rw [← H.out, drop_cons gx]; rfl)
      clear gx H
      rcases hgr2 : gRight x k with _ | _
      · have Hgr := Lib.hid hgr2; clear hgr2
        go_wp2_with (go_at_call 77; refine (l02Rule_any b (o + k * 3) x k false _ hB c0 c1 c2 hxm (by omega) (by omega) Hgr.out).mono ?_; rintro e w2 ⟨rfl, hb2⟩)
        go_ret2
        exact SizesPost.no (by rw [← H'.out, gRight_no (by rw [ho.out]; exact Hgr.out)]; rfl) (hb.trans (hb2.mono hb.size))
      · have Hgr := Lib.hid hgr2; clear hgr2
        by_cases h0 : x.l.size = 0
        · have e0 := size0 h0
          have hpr := gRight_pair (out := out) h0 (by rw [ho.out]; exact Hgr.out)
          rw [ho.out] at hpr
          obtain ⟨ha, hbb⟩ := hpr
          have ha' : 0 ≤ x.a ∧ x.a ≤ (k : Int) - 1 := by simpa [inB] using ha
          have hb' : 0 ≤ x.b ∧ x.b ≤ (k : Int) - 1 := by simpa [inB] using hbb
          have ha0 := ha'.1; have ha1 := ha'.2; have hb0 := hb'.1; have hb1' := hb'.2; clear ha' hb'
          have Ha := Lib.hid ha; clear ha
          have Hb := Lib.hid hbb; clear hbb
          have h0' := Lib.hid h0; clear h0
          go_wp2_with fail
          refine (l02Rule_any b (o + k * 3) x k true _ hB c0 c1 c2 hxm (by omega) (by omega) Hgr.out).mono ?_
          rintro e w2 ⟨rfl, hb2⟩
          have b2 := hb.trans (hb2.mono hb.size)
          have d0 := (hb2.cell (p := ⟨b, o + k * 3, none⟩) hB).trans c0
          have d1 := (hb2.cell (p := ⟨b, o + k * 3 + 1, none⟩) hB).trans c1
          have d2 := (hb2.cell (p := ⟨b, o + k * 3 + 2, none⟩) hB).trans c2
          clear c0 c1 c2 hc1
          have own2 := Lib.hid (own_next hown.out hb2)
          obtain ⟨g, rfl, hg0, hg1, e1⟩ := own_int own2.out ho.out x.a ha0 (by omega)
          obtain ⟨g', hgg, _, _, e2⟩ := own_int own2.out ho.out x.b hb0 (by omega)
          obtain rfl : g = g' := by injection hgg with hgg; injection hgg
          clear hgg
          have bd1 := hbd.out (out.getD x.a.toNat 0) (by rw [List.getD_eq_getElem?_getD, List.getElem?_eq_getElem (by rw [ho.out]; omega)]; simp)
          have bd2 := hbd.out (out.getD x.b.toNat 0) (by rw [List.getD_eq_getElem?_getD, List.getElem?_eq_getElem (by rw [ho.out]; omega)]; simp)
          have Hc := Lib.hid (fun h => gStep_no_c (out := out) (x := x) h0'.out h)
          have Hp := Lib.hid (fun h => gStep_pair (out := out) (x := x) h0'.out (by rw [ho.out]; exact Ha.out) (by rw [ho.out]; exact Hb.out) h)
          generalize out.getD x.a.toNat 0 = y1 at *
          generalize out.getD x.b.toNat 0 = y2 at *
          have hup := upc w2.heap.size w2
          have hbz : b < w2.heap.size := by have := hb2.size; omega
          have i1 : x.a < (k : Int) := by omega
          have i2 : x.b < (k : Int) := by omega
          have bd10 := bd1.1; have bd11 := bd1.2; have bd20 := bd2.1; have bd21 := bd2.2
          clear bd1 bd2
          go_wp2_with fail
          refine wp_region_up w2.heap.size (by kernel_rfl) (by kernel_rfl) ?_
          repeat (go_big_quiet_step (fail))
          refine wpQuiet_nil ?_
          intro w4 hup_w4
          have hb4 := up_of hup_w4
          have b4 := b2.trans (hb4.mono b2.size)
          have own4 := Lib.hid (own_next own2.out hb4)
          by_cases hc : 1000000000000000 < y1 + y2
          · go_wp2_with fail
            go_ret2
            exact SizesPost.no (by rw [← H'.out, Hc.out hc]; rfl) b4
          · go_wp2_with
            (at_builtin
             refine wpList_push (w0 := w) rfl _ _ _ rfl w.heap.size 2 1 8 elem_int intE _ k c' out rfl (own4.out.alloc _) w4.heap.size (y1 + y2) #[.int .i64 (y1 + y2)] 2 (0, 0) rfl (heap_alloc_new _ _) rfl rfl (by simp [intE, Value.oneCell']) (by omega) (by omega) (by unfold maxLen; omega) rfl (b4.alloc b4.size _) ?_
             intro A9 c9 w9 own9 hg9 hat9 hb9
             have O9 := Lib.hid own9; clear own9)
            go_roundw
            case rel => exact ⟨k + 1, out ++ [y1 + y2], A9, c9, by go_num, rfl, by omega, Lib.hid (by rw [List.length_append, ho.out]; rfl), O9, Lib.hid (fun z hz => by
              rcases List.mem_append.1 hz with hz | hz
              · exact hbd.out z hz
              · simp at hz; omega), hb9, Lib.hid (by rw [← H'.out, Hp.out (by omega)]; rfl)⟩
            case measure => simp [intOf]; omega
        · have e0 := size1 h0
          have e0' := size1' h0
          have Hp := Lib.hid (gRight_let (out := out) h0 (by rw [ho.out]; exact Hgr.out))
          have H0 := Lib.hid h0; clear h0
          go_wp2_with fail
          refine (l02Rule_any b (o + k * 3) x k true _ hB c0 c1 c2 hxm (by omega) (by omega) Hgr.out).mono ?_
          rintro e w2 ⟨rfl, hb2⟩
          have b2 := hb.trans (hb2.mono hb.size)
          have d0 := (hb2.cell (p := ⟨b, o + k * 3, none⟩) hB).trans c0
          clear c0 c1 c2 hc1
          have own2 := Lib.hid (own_next hown.out hb2)
          go_wp2_with
            (at_builtin
             refine wpList_push (w0 := w) rfl _ _ _ rfl w.heap.size 2 1 8 elem_int intE _ k c' out rfl (own2.out.alloc _) w2.heap.size 1 #[.int .i64 1] 2 (0, 0) rfl (heap_alloc_new _ _) rfl rfl (by simp [intE, Value.oneCell']) (by omega) (by omega) (by unfold maxLen; omega) rfl (b2.alloc b2.size _) ?_
             intro A9 c9 w9 own9 hg9 hat9 hb9
             have O9 := Lib.hid own9; clear own9)
          go_roundw
          case rel => exact ⟨k + 1, out ++ [1], A9, c9, by go_num, rfl, by omega, Lib.hid (by rw [List.length_append, ho.out]; rfl), O9, Lib.hid (fun z hz => by
            rcases List.mem_append.1 hz with hz | hz
            · exact hbd.out z hz
            · simp at hz; omega), hb9, Lib.hid (by rw [← H'.out, Hp.out]; rfl)⟩
          case measure => simp [intOf]; omega
    · have hfin := Lib.hid (show gLens rs [] = some out by rw [← H.out, List.drop_of_length_le (by rw [hl.out]; omega)]; rfl)
      go_wp2_with fail
      go_ret2
      refine ⟨hb, .inl ⟨out, A', c', hfin.out, ret_sliceB ho.out.symm, ?_⟩⟩
      rw [ho.out]
      exact hown.out
end Go.Proofs.Ytikhjoianbndhaa
