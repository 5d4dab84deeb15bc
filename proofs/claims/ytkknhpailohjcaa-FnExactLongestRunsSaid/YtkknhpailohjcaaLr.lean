/-
  LongestRuns in the reference.
-/
import Derived.Test.YtkknhpailohjcaaLrS
import Derived.Test.YtkknhpailohjcaaLrK
import Derived.Test.YtkknhpailohjcaaMake
import Derived.Deep.RegionWith
namespace Go.Proofs.Ytkknhpailohjcaa
open Go.RowKit

def lrV (rs : List Fac) (l : Nat) : List Int := (lrTop rs).take l ++ List.replicate (4 - l) 0
theorem lrV_set (rs : List Fac) {l : Nat} (h : l < 4) (v : Int) (hv : (lrTop rs)[l]? = some v) : (((lrV rs l).map (Value.int .i64)).toArray).setIfInBounds l (.int .i64 v) = ((lrV rs (l + 1)).map (Value.int .i64)).toArray := by
  have hl := lrTop_len rs
  obtain ⟨a, b, c, d, e⟩ : ∃ a b c d, lrTop rs = [a, b, c, d] := by
    rcases ht : lrTop rs with _ | ⟨a, _ | ⟨b, _ | ⟨c, _ | ⟨d, _ | ⟨f, t⟩⟩⟩⟩⟩ <;> rw [ht] at hl <;> simp at hl
    exact ⟨a, b, c, d, rfl⟩
  unfold lrV
  rw [e] at hv ⊢
  match l, h with
  | 0, _ => simp at hv; subst hv; rfl
  | 1, _ => simp at hv; subst hv; rfl
  | 2, _ => simp at hv; subst hv; rfl
  | 3, _ => simp at hv; subst hv; rfl
theorem lrV_nil {l : Nat} (h : l ≤ 4) : lrV [] l = lrTop [] := by
  match l, h with
  | 0, _ => rfl
  | 1, _ => rfl
  | 2, _ => rfl
  | 3, _ => rfl
  | 4, _ => rfl
theorem lrV_size (rs : List Fac) {l : Nat} (h : l ≤ 4) : (((lrV rs l).map (Value.int .i64)).toArray).size = 4 := by
  have hl := lrTop_len rs
  simp [lrV, hl]; omega
set_option maxHeartbeats 4000000 in
set_option maxRecDepth 100000 in
theorem specLr_any (A : Option Addr) (n c : Nat) (rs : List Fac) (w : World) (hn : n ≤ 1048576) (hr : Rd w w.heap.size A n 3 Fac.cells rs) (hok : ∀ f ∈ rs, f.l.size ≤ maxLen) :
    Calls Try.prog 10 #[.agg #[.slice A n c]] w (RetNewC w 2 1 intE (lrL rs) (lrC rs)) := by
  have hb0 : Below w.heap.size w (w.alloc (.cells #[.slice A n c] 31)) := by (repeat first | exact Below.refl _ _ | assumption | refine Below.drew ?_ | refine Below.alloc ?_ (by first | exact Nat.le_refl _ | (simp; done) | omega | (simp; omega)) _ | refine Below.setCell ?_ (by first | exact Nat.le_refl _ | (simp; done) | omega | (simp; omega)) _)
  have hB0 := Lib.hid (Blk.new w 31 #[.slice A n c])
  have hl := Lib.hid hr.len
  have HR := Lib.hid hr; clear hr
  have HO := Lib.hid hok; clear hok
  rcases hg : gOk rs with _ | ls
  · have e1 := Lib.hid (show lrL rs = [] by unfold lrL; rw [hg]; rfl)
    have e2 := Lib.hid (show lrC rs = 1 by unfold lrC; rw [hg]; rfl)
    have HG := Lib.hid (show (gOk rs).isSome = false by rw [hg]; rfl)
    clear hg
    go_enter Try.func10, Try.ntmps10
    go_wp2_with fail
    refine (l02Ok_any w.heap.size A n c rs _ hB0.out.lt (hB0.out.cell 0) (by omega) (HR.out.next hb0) HO.out false HG.out).mono ?_
    rintro e w1 ⟨rfl, hb1⟩
    go_wp2_with fail
    go_ret2
    refine ⟨some ⟨w1.heap.size, 0, none⟩, 0, by rw [e1.out, e2.out]; rfl, ?_, ?_⟩
    · rw [e1.out]
      simpa using World.ownsRow_made (base := w.heap.size) (e := 2) (size := 1) w1 #[] 0 (hb0.trans (hb1.mono hb0.size)).size (by unfold maxLen; omega) rfl
    · exact (hb0.trans (hb1.mono hb0.size)).alloc (hb0.trans (hb1.mono hb0.size)).size _
  have e1 := Lib.hid (show lrL rs = lrTop rs by unfold lrL; rw [hg]; rfl)
  have e2 := Lib.hid (show lrC rs = 0 by unfold lrC; rw [hg]; rfl)
  have HG := Lib.hid (show (gOk rs).isSome = true by rw [hg]; rfl)
  have HGo := Lib.hid hg
  have HL := Lib.hid (gOk_lens hg).1
  have hll := Lib.hid ((gOk_lens hg).2.2.trans hl.out)
  have hn4 : n ≤ 400 := by have := (gOk_lens hg).2.1; have := hl.out; omega
  clear hg
  have mk := make4
  go_enter Try.func10, Try.ntmps10
  go_wp2_with fail
  refine (l02Ok_any w.heap.size A n c rs _ hB0.out.lt (hB0.out.cell 0) (by omega) (HR.out.next hb0) HO.out true HG.out).mono ?_
  rintro e w1 ⟨rfl, hb1⟩
  have b1 := hb0.trans (hb1.mono hb0.size)
  have B1 := Lib.hid (hB0.out.next hb1)
  go_wp2_with fail
  refine namedC fun w2 H2 => ?_
  have hb2 : Below w1.heap.size w1 w2 := by rw [H2.out]; (repeat first | exact Below.refl _ _ | assumption | refine Below.drew ?_ | refine Below.alloc ?_ (by first | exact Nat.le_refl _ | (simp; done) | omega | (simp; omega)) _ | refine Below.setCell ?_ (by first | exact Nat.le_refl _ | (simp; done) | omega | (simp; omega)) _)
  have BO2 := Lib.hid (show Blk w2 w1.heap.size 2 ((lrV rs 0).map (Value.int .i64)).toArray by rw [H2.out]; exact Blk.new _ _ _)
  have b2 := b1.trans (hb2.mono b1.size)
  have B2 := Lib.hid (B1.out.next hb2)
  have z1 := b1.size
  clear H2 mk
  refine (l02Lengths_any w.heap.size A n c rs w2 B2.out.lt (B2.out.cell 0) (by omega) (HR.out.next b2) HO.out).mono ?_
  rintro e1' w3 ⟨hb3, ⟨ls', A3, c3, hg3, rfl, hown3⟩ | ⟨hg3, _⟩⟩
  case inr => exact absurd (hg3.symm.trans HGo.out) (by simp)
  obtain rfl : ls' = ls := Option.some.inj (hg3.symm.trans HGo.out)
  rw [hll.out] at hown3 ⊢
  have r3 := Lib.hid hown3
  have b3 := b2.trans (hb3.mono b2.size)
  have B3 := Lib.hid (B2.out.next hb3)
  have BO3 := Lib.hid (BO2.out.next hb3)
  have z3 := hb3.size
  have z2 := hb2.size
  have h12 := BO2.out.lt
  clear hown3 hg3
  go_wp2_with fail
  go_loopw [7] (fun l_ w' => ∃ (l : Nat), l_ = .int .i64 l ∧ l ≤ 4 ∧ Below w.heap.size w w' ∧ Hid (Blk w' w.heap.size 31 #[.slice A n c]) ∧ Hid (Blk w' w1.heap.size 2 ((lrV rs l).map (Value.int .i64)).toArray) ∧ Hid (w'.ownsRow w2.heap.size 2 1 (.slice A3 n c3) n (ls'.flatMap intE))) (fun l_ _ => 4 - (intOf l_).toNat)
  case atStart => exact ⟨0, rfl, by omega, b3, B3, BO3, r3⟩
  case round =>
    obtain ⟨l, rfl, hl4, hb, hB, hO, ho3⟩ := hrel
    have hr3 := Lib.hid (Rd.of_own (enc := intE) (fun _ _ => rfl) hll.out ho3.out)
    have gB := hB.out.cell 0
    have lB := hB.out.lt
    have lO := hO.out.lt
    have zb := hb.size
    have zlt : w.heap.size < w1.heap.size := B1.out.lt
    have KZ := Lib.hid (fun (W : World) (i : Nat) (u : Value) (h : W.cell? ⟨w.heap.size, 0, none⟩ = some (.slice A n c)) => show (W.setCell ⟨w1.heap.size, i, none⟩ u).cell? ⟨w.heap.size, 0, none⟩ = some (.slice A n c) from
      (((Below.refl w1.heap.size W).setCell (p := ⟨w1.heap.size, i, none⟩) (Nat.le_refl _) u).cell (p := ⟨w.heap.size, 0, none⟩) zlt).trans h)
    rcases Nat.eq_zero_or_pos n with hn0 | hn0
    · subst hn0
      have hrs : rs = [] := List.eq_nil_of_length_eq_zero hl.out
      have ev := Lib.hid (show lrTop rs = lrV rs l by subst hrs; exact (lrV_nil hl4).symm)
      clear hrs
      by_cases hlt : l < 4
      all_goals
        go_wp2_with fail
        go_ret2
        refine ⟨some ⟨w1.heap.size, 0, none⟩, 4, by rw [e1.out, e2.out, lrTop_len]; rfl, ?_, hb⟩
        rw [e1.out, lrTop_len, ev.out]
        exact own_of_blk (sz := 1) (enc := intE) hO.out z1 (lrV_size rs hl4) (by rw [← ev.out]; exact lrTop_len rs) (by unfold maxLen; omega) (fun _ _ => rfl) (fun k x hx j hj => by
          obtain rfl : j = 0 := by omega
          simp [hx, intE])
    have hn0' : (0 : Int) < (n : Int) := by omega
    by_cases hlt : l < 4
    · have hN : (srAll ls' l rs).length = n := (full_len Sr.nil (srF l) (srG ls') (rs := rs)).trans hl.out
      have hv := Lib.hid (show (lrTop rs)[l]? = some ((srAll ls' l rs).getD (n - 1) Sr.nil).m by
        rw [lrTop_at rs hlt, if_neg (by rw [hl.out]; omega), lr_sr HL.out hlt _ (by rw [hl.out]; omega), hl.out])
      have HLo := Lib.hid (l05Longest_any w.heap.size A n c rs A3 c3 ls' l wr.drew lB gB hn (HR.out.next (hb.drew)) HL.out hlt hr3.out)
      have u1 : IntKind.i64.wrap ((n : Int) - 1) = (n : Int) - 1 := IntWalk.i64_in _ (by omega)
      have f0 : (0 : Int) ≤ (l : Int) := by omega
      have f1 : (l : Int) < 4 := by omega
      have f2 : (0 : Int) ≤ (n : Int) - 1 := by omega
      have f3 : (n : Int) - 1 < (n : Int) := by omega
      have hs := Lib.hid (lrV_set rs hlt _ hv.out)
      have KS := Lib.hid (fun (W : World) (h : Below wr.heap.size wr W) => show W.cell? ⟨w.heap.size, 0, none⟩ = some (.slice A n c) from (h.cell (p := ⟨w.heap.size, 0, none⟩) lB).trans gB)
      generalize hm : ((srAll ls' l rs).getD (n - 1) Sr.nil) = y at *
      have Hm := Lib.hid hm
      clear hm
      go_wp2_with fail
      go_region_with
        (first
          | (go_at_call 39
             refine HLo.out.mono ?_
             rintro e w8 ⟨A8, c8, rfl, own8, hb8⟩
             rw [hN] at own8 ⊢
             have bk : Below wr.heap.size wr w8 := (Below.refl _ _).drew.trans hb8
             obtain ⟨g8, cp8, hv8, _, lg8⟩ := own8.form hn0
             obtain rfl : A8 = some ⟨g8, 0, none⟩ := by injection hv8
             have cy0 := own_at (sz := 3) (enc := encSr) (fun y _ => lenSr y) own8 hN Sr.nil (n - 1) (by omega) 2 (by omega)
             rw [Hm.out] at cy0
             have cy : w8.cell? ⟨g8, (n - 1) * 3 + 2, none⟩ = some (.int .i64 y.m) := cy0
             clear cy0
             have O8 := Lib.hid (hO.out.next bk)
             have fo := O8.out.frozen
             have lo := O8.out.lt
             have co := (O8.out.cell l).trans (Array.getElem?_eq_getElem (by rw [lrV_size rs hl4]; omega))
             have gk := KS.out _ bk
             clear own8 hv8)
          | fail)
      all_goals
        go_wp2_with fail
        go_roundw
        case rel =>
          refine ⟨l + 1, by go_num, by omega, (hb.trans (bk.mono zb)).setCell (p := ⟨w1.heap.size, l, none⟩) z1 _, Lib.hid ((hB.out.next bk).far (p := ⟨w1.heap.size, l, none⟩) (by show w.heap.size ≠ w1.heap.size; omega) _), Lib.hid ?_, Lib.hid ?_⟩
          · rw [← hs.out]; exact O8.out.set_ l _
          · exact own_kept (own_next ho3.out bk) (gb_set _ _ _ _) h12
        case measure => simp [intOf]; omega
    · obtain rfl : l = 4 := by omega
      have ev := Lib.hid (show lrTop rs = lrV rs 4 by unfold lrV; rw [List.take_of_length_le (by rw [lrTop_len]; omega)]; simp)
      go_wp2_with fail
      go_ret2
      refine ⟨some ⟨w1.heap.size, 0, none⟩, 4, by rw [e1.out, e2.out, lrTop_len]; rfl, ?_, hb⟩
      rw [e1.out, lrTop_len, ev.out]
      exact own_of_blk (sz := 1) (enc := intE) hO.out z1 (lrV_size rs hl4) (by rw [← ev.out]; exact lrTop_len rs) (by unfold maxLen; omega) (fun _ _ => rfl) (fun k x hx j hj => by
        obtain rfl : j = 0 := by omega
        simp [hx, intE])
end Go.Proofs.Ytkknhpailohjcaa
