/-
  Texts of this claim, merged: Join P6Word P6G Huge P6H PartW ClimbA ClW Sel ModC Inv Use Letg UseI.
-/
import Derived.Test.YtgdbpkpaacbhhaaP5
import Derived.Deep.RegionHeld3


/-
  The join of two grammars in the reference.
-/
namespace Go.Proofs.Ytgdbpkpaacbhhaa
open Go.RowKit

set_option maxHeartbeats 4000000 in
set_option maxRecDepth 100000 in
theorem l02Join_any (gb hb : Nat) (A : Option Addr) (n c : Nat) (gs : List Fac) (Ah : Option Addr) (m ch : Nat) (hs : List Fac) (w : World) (hgb : gb < w.heap.size) (hgc : w.cell? ⟨gb, 0, none⟩ = some (.slice A n c)) (hhb : hb < w.heap.size) (hhc : w.cell? ⟨hb, 0, none⟩ = some (.slice Ah m ch))
    (hn0 : 0 < n) (hn : n ≤ 400) (hm0 : 0 < m) (hm : m ≤ 400) (hr : Rd w w.heap.size A n 3 Fac.cells gs) (hr2 : Rd w w.heap.size Ah m 3 Fac.cells hs) (hwf : WF hs) :
    Calls Try.prog 40 #[.pointer (some ⟨gb, 0, none⟩), .pointer (some ⟨hb, 0, none⟩)] w (RetG w (joinL gs hs)) := by
  have HL := Lib.hid hr.len
  have HM := Lib.hid hr2.len
  have HR := Lib.hid hr; clear hr
  have H2 := Lib.hid hr2; clear hr2
  have HW := Lib.hid hwf; clear hwf
  have HJ := Lib.hid (show joinL gs hs = (gs ++ raiseL gs.length hs) ++ [⟨⟨#[]⟩, (gs.length : Int) - 1, (gs.length : Int) + hs.length - 1⟩] by unfold joinL; rw [if_neg (by rw [HL.out]; omega), if_neg (by rw [HM.out]; omega)])
  have HC := Lib.hid (fun (W : World) (h : Below w.heap.size w W) => show W.cell? ⟨gb, 0, none⟩ = some (.slice A n c) ∧ W.cell? ⟨hb, 0, none⟩ = some (.slice Ah m ch) ∧ gb < W.heap.size ∧ hb < W.heap.size from ⟨(h.cell (p := ⟨gb, 0, none⟩) hgb).trans hgc, (h.cell (p := ⟨hb, 0, none⟩) hhb).trans hhc, by have := h.size; omega, by have := h.size; omega⟩)
  have n1 : ((n : Int) == 0) = false := by simp; omega
  have m1 : ((m : Int) == 0) = false := by simp; omega
  rw [HL.out, HM.out] at HJ
  go_enter Try.func40, Try.ntmps40
  have b1 : Below w.heap.size w (w.alloc (.cells #[.slice none 0 0] 26)) := by (repeat first | exact Below.refl _ _ | assumption | refine Below.drew ?_ | refine Below.alloc ?_ (by first | exact Nat.le_refl _ | (simp; done) | omega | (simp; omega)) _ | refine Below.setCell ?_ (by first | exact Nat.le_refl _ | (simp; done) | omega | (simp; omega)) _)
  have B1 := Lib.hid (Blk.new w 26 #[.slice none 0 0])
  obtain ⟨q0, q1, q2, q3⟩ := HC.out _ b1
  clear hgc hhc
  go_wp2_with fail
  refine (l02Own_any gb A n c gs _ q2 q0 (by omega) hn0 (HR.out.next b1)).mono ?_
  rintro e w4 ⟨A4, c4, rfl, own4, hb4⟩
  rw [HL.out] at own4 ⊢
  have b4 := Lib.hid (b1.trans (hb4.mono b1.size))
  have O4 := Lib.hid (own4.mono b1.size)
  have B4 := Lib.hid (B1.out.next hb4)
  clear own4 hb4 q0 q1 q2 q3 b1
  have P5 := Lib.hid (show PwW w (w4.alloc (.cells #[.slice A4 n c4] 26)) w.heap.size w4.heap.size A4 n c4 gs from
    ⟨O4.out.alloc _, B4.out.alloc _, Blk.new _ _ _, b4.out.alloc b4.out.size _, Nat.le_refl _, B4.out.lt⟩)
  obtain ⟨q0, q1, q2, q3⟩ := HC.out _ P5.out.e
  have b4 := b4.out
  obtain ⟨p0, p1, p2, p3⟩ := HC.out _ b4
  go_wp2_with fail
  clear q0 q1 q2 q3 p0 p1 p2 p3 B1 B4 O4 b4
  generalize w4.heap.size = G at *
  go_loopw [7] (fun j_ w' => ∃ (j : Nat) (A1 : Option Addr) (n1 c1 : Nat) (cur : List Fac), j_ = .int .i64 j ∧ j ≤ m ∧ Hid (n1 = n + j) ∧ Hid (gs ++ raiseL n (hs.take j) = cur) ∧ Hid (cur.length = n1) ∧ Hid (PwW w w' w.heap.size G A1 n1 c1 cur)) (fun j_ _ => m - (intOf j_).toNat)
  case atStart => exact ⟨0, A4, n, c4, gs, rfl, by omega, Lib.hid rfl, Lib.hid (by simp [raiseL]), HL, P5⟩
  case round =>
    obtain ⟨j, A1, n1, c1, cur, rfl, hj, hn1, hcur, hcl, P⟩ := hrel
    clear P5
    have n1b : n1 ≤ 800 := by have := hn1.out; omega
    obtain ⟨q0, q1, q2, q3⟩ := HC.out _ P.out.e
    by_cases hlt : j < m
    · obtain ⟨bh, oh, y, hAh, hBr, hy, c0, c1', c2'⟩ := H2.out.fac hlt
      subst hAh
      have hyw := HW.out j y hy
      have Hrt := Lib.hid (raise_take hy (n : Int))
      have LC := Lib.hid (fun W => l02Raised_any y (n : Int) W (fun h0 => by
        rcases hyw with ⟨_, a0, a1, b0, b1⟩ | ⟨cc, _, hxl, _⟩
        · exact ⟨a0, by omega, b0, by omega⟩
        · rw [hxl] at h0; exact absurd h0 (show ¬ (1 : Nat) = 0 by omega)) (by omega) (by omega))
      have j0 : (0 : Int) ≤ (j : Int) := by omega
      have j1 : (j : Int) < (m : Int) := by omega
      obtain ⟨z, hz⟩ : ∃ z, rsF (n : Int) y = z := ⟨_, rfl⟩
      rw [hz] at LC Hrt
      have HS2 := Lib.hid (fun (W : World) (M : Blk W G 26 #[.slice A1 n1 c1]) (he : Below w.heap.size w W) =>
        show W.cell? ⟨G, 0, none⟩ = some (.slice A1 n1 c1) ∧ W.cell? ⟨hb, 0, none⟩ = some (.slice (some ⟨bh, oh, none⟩) m ch) ∧ W.cell? ⟨bh, oh + j * 3, none⟩ = some (.string y.l) ∧ W.cell? ⟨bh, oh + j * 3 + 1, none⟩ = some (.int .i64 y.a) ∧ W.cell? ⟨bh, oh + j * 3 + 2, none⟩ = some (.int .i64 y.b) from
        ⟨M.cell 0, (HC.out W he).2.1, (he.cell (p := ⟨bh, oh + j * 3, none⟩) hBr).trans c0, (he.cell (p := ⟨bh, oh + j * 3 + 1, none⟩) hBr).trans c1', (he.cell (p := ⟨bh, oh + j * 3 + 2, none⟩) hBr).trans c2'⟩)
      have hS0 := HS2.out wr.drew P.out.drew.x P.out.drew.e
      clear hy hyw hz c0 c1' c2'
      go_wp2_with fail
      clear q0 q1 q2 q3
      refine wp_region_N (fun W => W.cell? ⟨G, 0, none⟩ = some (.slice A1 n1 c1) ∧ W.cell? ⟨hb, 0, none⟩ = some (.slice (some ⟨bh, oh, none⟩) m ch) ∧ W.cell? ⟨bh, oh + j * 3, none⟩ = some (.string y.l) ∧ W.cell? ⟨bh, oh + j * 3 + 1, none⟩ = some (.int .i64 y.a) ∧ W.cell? ⟨bh, oh + j * 3 + 2, none⟩ = some (.int .i64 y.b)) [14] (by kernel_rfl) ?_
      refine wpAnyN_take (i := 0) (v := ?_) rfl (by kernel_rfl) (fun _ _ _ h => h) (by rfl) (fun W hW => ?_) hS0 ?_
      rotate_left
      · obtain ⟨z0, z1, z2, z3, z4⟩ := hW
        go_simp
        try with_reducible rfl
      try simp only [List.getElem_toArray, List.getElem_cons_zero, List.getElem_cons_succ, Act.put, List.setIfInBounds_toArray, List.set_cons_zero, List.set_cons_succ]
      refine wpAnyN_take (i := 1) (v := ?_) rfl (by kernel_rfl) (fun _ _ _ h => h) (by rfl) (fun W hW => ?_) hS0 ?_
      rotate_left
      · obtain ⟨z0, z1, z2, z3, z4⟩ := hW
        go_simp
        try with_reducible rfl
      try simp only [List.getElem_toArray, List.getElem_cons_zero, List.getElem_cons_succ, Act.put, List.setIfInBounds_toArray, List.set_cons_zero, List.set_cons_succ]
      refine wpAnyN_take (i := 2) (v := ?_) rfl (by kernel_rfl) (fun _ _ _ h => h) (by rfl) (fun W hW => ?_) hS0 ?_
      rotate_left
      · obtain ⟨z0, z1, z2, z3, z4⟩ := hW
        go_simp
        try with_reducible rfl
      try simp only [List.getElem_toArray, List.getElem_cons_zero, List.getElem_cons_succ, Act.put, List.setIfInBounds_toArray, List.set_cons_zero, List.set_cons_succ]
      refine wpAnyN_take (i := 3) (v := ?_) rfl (by kernel_rfl) (fun _ _ _ h => h) (by rfl) (fun W hW => ?_) hS0 ?_
      rotate_left
      · obtain ⟨z0, z1, z2, z3, z4⟩ := hW
        go_simp
        try with_reducible rfl
      try simp only [List.getElem_toArray, List.getElem_cons_zero, List.getElem_cons_succ, Act.put, List.setIfInBounds_toArray, List.set_cons_zero, List.set_cons_succ]
      refine wpAnyN_take (i := 4) (v := ?_) rfl (by kernel_rfl) (fun _ _ _ h => h) (by rfl) (fun W hW => ?_) hS0 ?_
      rotate_left
      · obtain ⟨z0, z1, z2, z3, z4⟩ := hW
        go_simp
        try with_reducible rfl
      try simp only [List.getElem_toArray, List.getElem_cons_zero, List.getElem_cons_succ, Act.put, List.setIfInBounds_toArray, List.set_cons_zero, List.set_cons_succ]
      refine wpAnyN_take (i := 5) (v := ?_) rfl (by kernel_rfl) (fun _ _ _ h => h) (by rfl) (fun W hW => ?_) hS0 ?_
      rotate_left
      · obtain ⟨z0, z1, z2, z3, z4⟩ := hW
        go_simp
        try with_reducible rfl
      try simp only [List.getElem_toArray, List.getElem_cons_zero, List.getElem_cons_succ, Act.put, List.setIfInBounds_toArray, List.set_cons_zero, List.set_cons_succ]
      refine wpAnyN_take (i := 6) (v := ?_) rfl (by kernel_rfl) (fun _ _ _ h => h) (by rfl) (fun W hW => ?_) hS0 ?_
      rotate_left
      · obtain ⟨z0, z1, z2, z3, z4⟩ := hW
        go_simp
        try with_reducible rfl
      try simp only [List.getElem_toArray, List.getElem_cons_zero, List.getElem_cons_succ, Act.put, List.setIfInBounds_toArray, List.set_cons_zero, List.set_cons_succ]
      refine wpAnyN_take (i := 7) (v := ?_) rfl (by kernel_rfl) (fun _ _ _ h => h) (by rfl) (fun W hW => ?_) hS0 ?_
      rotate_left
      · obtain ⟨z0, z1, z2, z3, z4⟩ := hW
        go_simp
        try with_reducible rfl
      try simp only [List.getElem_toArray, List.getElem_cons_zero, List.getElem_cons_succ, Act.put, List.setIfInBounds_toArray, List.set_cons_zero, List.set_cons_succ]
      refine wpAnyN_take (i := 8) (v := ?_) rfl (by kernel_rfl) (fun _ _ _ h => h) (by rfl) (fun W hW => ?_) hS0 ?_
      rotate_left
      · obtain ⟨z0, z1, z2, z3, z4⟩ := hW
        go_simp
        try with_reducible rfl
      try simp only [List.getElem_toArray, List.getElem_cons_zero, List.getElem_cons_succ, Act.put, List.setIfInBounds_toArray, List.set_cons_zero, List.set_cons_succ]
      refine wpAnyN_take (i := 9) (v := ?_) rfl (by kernel_rfl) (fun _ _ _ h => h) (by rfl) (fun W hW => ?_) hS0 ?_
      rotate_left
      · obtain ⟨z0, z1, z2, z3, z4⟩ := hW
        go_simp
        try with_reducible rfl
      try simp only [List.getElem_toArray, List.getElem_cons_zero, List.getElem_cons_succ, Act.put, List.setIfInBounds_toArray, List.set_cons_zero, List.set_cons_succ]
      refine wpAnyN_next (i := 10) rfl (by kernel_rfl) (fun K hK => ?_)
      go_simp
      go_wp2_with (go_at_call 82; refine (LC.out _).mono ?_; rintro e w10 ⟨rfl, hb10⟩)
      have bm : Below wr.heap.size wr w10 := (Below.refl _ _).drew.trans hb10
      have M10 := Lib.hid (P.out.next bm)
      have M11 := Lib.hid (M10.out.alloc (.cells #[.string z.l, .int .i64 z.a, .int .i64 z.b] 82))
      refine hK.out _ _ (fun _ => HS2.out _ M10.out.x M10.out.e) ?_
      clear hK K
      try simp only [List.getElem_toArray, List.getElem_cons_zero, List.getElem_cons_succ, Act.put, List.setIfInBounds_toArray, List.set_cons_zero, List.set_cons_succ]
      refine wpAnyN_next (i := 11) rfl (by kernel_rfl) (fun K hK => ?_)
      go_simp
      refine hK.out _ _ (fun _ => HS2.out _ M11.out.x M11.out.e) ?_
      clear hK K hS0
      try simp only [List.getElem_toArray, List.getElem_cons_zero, List.getElem_cons_succ, Act.put, List.setIfInBounds_toArray, List.set_cons_zero, List.set_cons_succ]
      refine wpAnyN_next (i := 12) rfl (by kernel_rfl) (fun K hK => ?_)
      refine step_pushH (by rfl) _ _ _ (by rfl) w.heap.size 82 3 32 elem_rule Fac.cells A1 n1 c1 cur (by rfl) M11.out.q _ z #[.string z.l, .int .i64 z.a, .int .i64 z.b] 82 (0, 0) (by rfl) (heap_alloc_new _ _) rfl rfl (one_fac _) (by omega) (by omega) (by unfold maxLen; omega) M11.out.e.size ?_
      intro A8 c8 w8 own8 hg8 hat8
      have M12 := Lib.hid (M11.out.app own8 hg8)
      have M13 := Lib.hid (M11.out.push own8 hg8)
      have d8 := M12.out.2.2.1.cell 0
      have f8 := M12.out.2.2.1.frozen
      have l8 := M12.out.2.2.1.lt
      have hS1 := HS2.out _ M12.out.2.2.1 M12.out.2.2.2
      refine hK.out _ _ (fun _ => hS1) ?_
      clear hK K own8 hg8 hat8
      try simp only [List.getElem_toArray, List.getElem_cons_zero, List.getElem_cons_succ, Act.put, List.setIfInBounds_toArray, List.set_cons_zero, List.set_cons_succ]
      refine wpAnyN_next (i := 13) rfl (by kernel_rfl) (fun K hK => ?_)
      go_simp
      refine hK.out _ _ (fun _ => hS1) ?_
      clear hK K hS1
      try simp only [List.getElem_toArray, List.getElem_cons_zero, List.getElem_cons_succ, Act.put, List.setIfInBounds_toArray, List.set_cons_zero, List.set_cons_succ]
      refine wpAnyN_next (i := 14) rfl (by kernel_rfl) (fun K hK => ?_)
      go_simp
      refine hK.out _ _ (fun h => absurd h (by decide)) ?_
      clear hK K
      refine wpAnyN_done (by kernel_rfl) ?_ _
      clear d8 f8 l8
      go_wp2_with fail
      go_roundw
      case rel => exact ⟨j + 1, A8, n1 + 1, c8, cur ++ [z], by go_num, by omega, Lib.hid (by have := hn1.out; omega), Lib.hid (by rw [Hrt.out, ← List.append_assoc, hcur.out]), Lib.hid (by rw [List.length_append, hcl.out]; rfl), M13⟩
      case measure => simp [intOf]; omega
    · have hjm : j = m := by omega
      have hcur' := hcur.out
      rw [hjm, show hs.take m = hs from List.take_of_length_le (by rw [HM.out]; omega)] at hcur'
      clear hcur hjm
      have hcur := Lib.hid hcur'
      clear hcur'
      have HS2 := Lib.hid (fun (W : World) (M : Blk W G 26 #[.slice A1 n1 c1]) (he : Below w.heap.size w W) =>
        show W.cell? ⟨G, 0, none⟩ = some (.slice A1 n1 c1) ∧ W.cell? ⟨hb, 0, none⟩ = some (.slice Ah m ch) from ⟨M.cell 0, (HC.out W he).2.1⟩)
      have hS0 := HS2.out wr.drew P.out.drew.x P.out.drew.e
      have u1 : IntKind.i64.wrap ((n : Int) - 1) = (n : Int) - 1 := by rw [IntWalk.i64_in _ (by omega)]
      have u2 : IntKind.i64.wrap ((n : Int) + m) = (n : Int) + m := by rw [IntWalk.i64_in _ (by omega)]
      have u3 : IntKind.i64.wrap ((n : Int) + m - 1) = (n : Int) + m - 1 := by rw [IntWalk.i64_in _ (by omega)]
      go_wp2_with fail
      clear q0 q1 q2 q3
      refine wp_region_N (fun W => W.cell? ⟨G, 0, none⟩ = some (.slice A1 n1 c1) ∧ W.cell? ⟨hb, 0, none⟩ = some (.slice Ah m ch)) [16] (by kernel_rfl) ?_
      refine wpAnyN_take (i := 0) (v := ?_) rfl (by kernel_rfl) (fun _ _ _ h => h) (by rfl) (fun W hW => ?_) hS0 ?_
      rotate_left
      · obtain ⟨z0, z1⟩ := hW
        go_simp
        try with_reducible rfl
      try simp only [List.getElem_toArray, List.getElem_cons_zero, List.getElem_cons_succ, Act.put, List.setIfInBounds_toArray, List.set_cons_zero, List.set_cons_succ]
      refine wpAnyN_take (i := 1) (v := ?_) rfl (by kernel_rfl) (fun _ _ _ h => h) (by rfl) (fun W hW => ?_) hS0 ?_
      rotate_left
      · obtain ⟨z0, z1⟩ := hW
        go_simp
        try with_reducible rfl
      try simp only [List.getElem_toArray, List.getElem_cons_zero, List.getElem_cons_succ, Act.put, List.setIfInBounds_toArray, List.set_cons_zero, List.set_cons_succ]
      refine wpAnyN_take (i := 2) (v := ?_) rfl (by kernel_rfl) (fun _ _ _ h => h) (by rfl) (fun W hW => ?_) hS0 ?_
      rotate_left
      · obtain ⟨z0, z1⟩ := hW
        go_simp
        try with_reducible rfl
      try simp only [List.getElem_toArray, List.getElem_cons_zero, List.getElem_cons_succ, Act.put, List.setIfInBounds_toArray, List.set_cons_zero, List.set_cons_succ]
      refine wpAnyN_take (i := 3) (v := ?_) rfl (by kernel_rfl) (fun _ _ _ h => h) (by rfl) (fun W hW => ?_) hS0 ?_
      rotate_left
      · obtain ⟨z0, z1⟩ := hW
        go_simp
        try with_reducible rfl
      try simp only [List.getElem_toArray, List.getElem_cons_zero, List.getElem_cons_succ, Act.put, List.setIfInBounds_toArray, List.set_cons_zero, List.set_cons_succ]
      refine wpAnyN_take (i := 4) (v := ?_) rfl (by kernel_rfl) (fun _ _ _ h => h) (by rfl) (fun W hW => ?_) hS0 ?_
      rotate_left
      · obtain ⟨z0, z1⟩ := hW
        go_simp
        try with_reducible rfl
      try simp only [List.getElem_toArray, List.getElem_cons_zero, List.getElem_cons_succ, Act.put, List.setIfInBounds_toArray, List.set_cons_zero, List.set_cons_succ]
      refine wpAnyN_take (i := 5) (v := ?_) rfl (by kernel_rfl) (fun _ _ _ h => h) (by rfl) (fun W hW => ?_) hS0 ?_
      rotate_left
      · obtain ⟨z0, z1⟩ := hW
        go_simp
        try with_reducible rfl
      try simp only [List.getElem_toArray, List.getElem_cons_zero, List.getElem_cons_succ, Act.put, List.setIfInBounds_toArray, List.set_cons_zero, List.set_cons_succ]
      refine wpAnyN_take (i := 6) (v := ?_) rfl (by kernel_rfl) (fun _ _ _ h => h) (by rfl) (fun W hW => ?_) hS0 ?_
      rotate_left
      · obtain ⟨z0, z1⟩ := hW
        go_simp
        try with_reducible rfl
      try simp only [List.getElem_toArray, List.getElem_cons_zero, List.getElem_cons_succ, Act.put, List.setIfInBounds_toArray, List.set_cons_zero, List.set_cons_succ]
      refine wpAnyN_take (i := 7) (v := ?_) rfl (by kernel_rfl) (fun _ _ _ h => h) (by rfl) (fun W hW => ?_) hS0 ?_
      rotate_left
      · obtain ⟨z0, z1⟩ := hW
        go_simp
        try with_reducible rfl
      try simp only [List.getElem_toArray, List.getElem_cons_zero, List.getElem_cons_succ, Act.put, List.setIfInBounds_toArray, List.set_cons_zero, List.set_cons_succ]
      refine wpAnyN_take (i := 8) (v := ?_) rfl (by kernel_rfl) (fun _ _ _ h => h) (by rfl) (fun W hW => ?_) hS0 ?_
      rotate_left
      · obtain ⟨z0, z1⟩ := hW
        go_simp
        try with_reducible rfl
      try simp only [List.getElem_toArray, List.getElem_cons_zero, List.getElem_cons_succ, Act.put, List.setIfInBounds_toArray, List.set_cons_zero, List.set_cons_succ]
      refine wpAnyN_take (i := 9) (v := ?_) rfl (by kernel_rfl) (fun _ _ _ h => h) (by rfl) (fun W hW => ?_) hS0 ?_
      rotate_left
      · obtain ⟨z0, z1⟩ := hW
        go_simp
        try with_reducible rfl
      try simp only [List.getElem_toArray, List.getElem_cons_zero, List.getElem_cons_succ, Act.put, List.setIfInBounds_toArray, List.set_cons_zero, List.set_cons_succ]
      refine wpAnyN_take (i := 10) (v := ?_) rfl (by kernel_rfl) (fun _ _ _ h => h) (by rfl) (fun W hW => ?_) hS0 ?_
      rotate_left
      · obtain ⟨z0, z1⟩ := hW
        go_simp
        try with_reducible rfl
      try simp only [List.getElem_toArray, List.getElem_cons_zero, List.getElem_cons_succ, Act.put, List.setIfInBounds_toArray, List.set_cons_zero, List.set_cons_succ]
      refine wpAnyN_take (i := 11) (v := ?_) rfl (by kernel_rfl) (fun _ _ _ h => h) (by rfl) (fun W hW => ?_) hS0 ?_
      rotate_left
      · obtain ⟨z0, z1⟩ := hW
        go_simp
        try with_reducible rfl
      try simp only [List.getElem_toArray, List.getElem_cons_zero, List.getElem_cons_succ, Act.put, List.setIfInBounds_toArray, List.set_cons_zero, List.set_cons_succ]
      refine wpAnyN_take (i := 12) (v := ?_) rfl (by kernel_rfl) (fun _ _ _ h => h) (by rfl) (fun W hW => ?_) hS0 ?_
      rotate_left
      · obtain ⟨z0, z1⟩ := hW
        go_simp
        try with_reducible rfl
      try simp only [List.getElem_toArray, List.getElem_cons_zero, List.getElem_cons_succ, Act.put, List.setIfInBounds_toArray, List.set_cons_zero, List.set_cons_succ]
      refine wpAnyN_next (i := 13) rfl (by kernel_rfl) (fun K hK => ?_)
      go_simp
      have M11 := Lib.hid (P.out.drew.alloc (.cells #[.string ⟨#[]⟩, .int .i64 ((n : Int) - 1), .int .i64 ((n : Int) + m - 1)] 82))
      refine hK.out _ _ (fun _ => HS2.out _ M11.out.x M11.out.e) ?_
      clear hK K hS0
      try simp only [List.getElem_toArray, List.getElem_cons_zero, List.getElem_cons_succ, Act.put, List.setIfInBounds_toArray, List.set_cons_zero, List.set_cons_succ]
      refine wpAnyN_next (i := 14) rfl (by kernel_rfl) (fun K hK => ?_)
      refine step_pushH (by rfl) _ _ _ (by rfl) w.heap.size 82 3 32 elem_rule Fac.cells A1 n1 c1 cur (by rfl) M11.out.q _ ⟨⟨#[]⟩, (n : Int) - 1, (n : Int) + m - 1⟩ #[.string ⟨#[]⟩, .int .i64 ((n : Int) - 1), .int .i64 ((n : Int) + m - 1)] 82 (0, 0) (by rfl) (heap_alloc_new _ _) rfl rfl (one_fac _) (by omega) (by omega) (by unfold maxLen; omega) M11.out.e.size ?_
      intro A8 c8 w8 own8 hg8 hat8
      have M12 := Lib.hid (M11.out.app own8 hg8)
      have M13 := Lib.hid (M11.out.push own8 hg8)
      have d8 := M12.out.2.2.1.cell 0
      have f8 := M12.out.2.2.1.frozen
      have l8 := M12.out.2.2.1.lt
      have hS1 := HS2.out _ M12.out.2.2.1 M12.out.2.2.2
      refine hK.out _ _ (fun _ => hS1) ?_
      clear hK K own8 hg8 hat8
      try simp only [List.getElem_toArray, List.getElem_cons_zero, List.getElem_cons_succ, Act.put, List.setIfInBounds_toArray, List.set_cons_zero, List.set_cons_succ]
      refine wpAnyN_next (i := 15) rfl (by kernel_rfl) (fun K hK => ?_)
      go_simp
      refine hK.out _ _ (fun _ => hS1) ?_
      clear hK K hS1
      try simp only [List.getElem_toArray, List.getElem_cons_zero, List.getElem_cons_succ, Act.put, List.setIfInBounds_toArray, List.set_cons_zero, List.set_cons_succ]
      refine wpAnyN_next (i := 16) rfl (by kernel_rfl) (fun K hK => ?_)
      go_simp
      refine hK.out _ _ (fun h => absurd h (by decide)) ?_
      clear hK K
      refine wpAnyN_done (by kernel_rfl) ?_ _
      clear d8 f8 l8
      generalize hw13 : w8.setCell ⟨G, 0, none⟩ (.slice A8 (n1 + 1) c8) = w13 at *
      have r7 := M13.out.r.cell 0
      have f7 := M13.out.r.frozen
      have l7 := M13.out.r.lt
      have g7 := M13.out.x.cell 0
      have B8 := M13.out.r.set_ 0 (.slice A8 (n1 + 1) c8)
      have x8 : (w13.setCell ⟨w.heap.size, 0, none⟩ (.slice A8 (n1 + 1) c8)).cell? ⟨w.heap.size, 0, none⟩ = some (.slice A8 (n1 + 1) c8) := by rw [B8.cell 0]; rfl
      have b8 := M13.out.e.setCell (p := ⟨w.heap.size, 0, none⟩) (Nat.le_refl _) (.slice A8 (n1 + 1) c8)
      have O8 := Lib.hid (own_kept' (i := 0) M13.out.q M13.out.r (by decide) (.slice A8 (n1 + 1) c8))
      clear B8 hw13
      go_wp2_with fail
      refine bodyPost_ret (v := .agg #[.slice A8 (n1 + 1) c8]) (by simp [results, Try.results40, go_sem, x8]) rfl (show RetG w (joinL gs hs) _ _ from ⟨A8, c8, ?_, ?_, b8⟩)
      · rw [HJ.out, hcur.out, List.length_append, hcl.out]; rfl
      · rw [HJ.out, hcur.out, List.length_append, hcl.out]; exact O8.out
theorem join_sz {gs hs : List Fac} (hg : WF gs) (hh : WF hs) : ∀ f ∈ joinL gs hs, f.l.size ≤ maxLen := wf_sz (join_wf hg hh)
theorem join_len {gs hs : List Fac} (h0 : gs.length ≤ 400) (h1 : hs.length ≤ 400) : (joinL gs hs).length ≤ 801 := by
  unfold joinL
  split
  · omega
  · split
    · omega
    · simp only [List.length_append, raiseL_len, List.length_singleton]; omega
theorem join_pos {gs hs : List Fac} (h0 : 0 < gs.length) : 0 < (joinL gs hs).length := by
  unfold joinL
  split
  · omega
  · split
    · omega
    · simp only [List.length_append, List.length_singleton]; omega
set_option maxHeartbeats 4000000 in
set_option maxRecDepth 100000 in
theorem joinG_any (A : Option Addr) (n c : Nat) (gs : List Fac) (Ah : Option Addr) (m ch : Nat) (hs : List Fac) (w : World)
    (hn0 : 0 < n) (hm0 : 0 < m) (hr : Rd w w.heap.size A n 3 Fac.cells gs) (hr2 : Rd w w.heap.size Ah m 3 Fac.cells hs) (hg : WF gs) (hh : WF hs) (h1 : (gOk gs).isSome = true) (h2 : (gOk hs).isSome = true) :
    Calls Try.prog 12 #[.agg #[.slice A n c], .agg #[.slice Ah m ch]] w (RetGC w (limF (joinL gs hs)) (limC (joinL gs hs))) := by
  have hl1 := hr.len
  have hl2 := hr2.len
  have hn : n ≤ 400 := by obtain ⟨ls, hls⟩ := Option.isSome_iff_exists.1 h1; have := (gOk_lens hls).2.1; omega
  have hm : m ≤ 400 := by obtain ⟨ls, hls⟩ := Option.isSome_iff_exists.1 h2; have := (gOk_lens hls).2.1; omega
  have HR := Lib.hid hr; have H2 := Lib.hid hr2
  have HWg := Lib.hid hg; have HWh := Lib.hid hh
  have HS := Lib.hid (join_sz hg hh)
  have Hjl := Lib.hid (join_len (gs := gs) (hs := hs) (by omega) (by omega))
  have HO1 := Lib.hid h1; have HO2 := Lib.hid h2
  have Z1 := Lib.hid (wf_sz hg); have Z2 := Lib.hid (wf_sz hh)
  clear hr hr2 hl1 hl2 hg hh h1 h2
  go_enter Try.func12, Try.ntmps12
  go_wp2_with fail
  refine namedC fun w1 H1 => ?_
  have hb1 : Below w.heap.size w w1 := by rw [H1.out]; (repeat first | exact Below.refl _ _ | assumption | refine Below.drew ?_ | refine Below.alloc ?_ (by first | exact Nat.le_refl _ | (simp; done) | omega | (simp; omega)) _ | refine Below.setCell ?_ (by first | exact Nat.le_refl _ | (simp; done) | omega | (simp; omega)) _)
  have BG := Lib.hid (show Blk w1 w.heap.size 26 #[.slice A n c] by rw [H1.out]; exact ((Blk.new _ _ _).alloc _).alloc _)
  have BH := Lib.hid (show Blk w1 (w.heap.size + 1) 26 #[.slice Ah m ch] by rw [H1.out]; simpa using (Blk.new (w.alloc (.cells #[.slice A n c] 26)) 26 #[.slice Ah m ch]).alloc (.cells #[.slice none 0 0] 26))
  have BR := Lib.hid (show Blk w1 (w.heap.size + 2) 26 #[.slice none 0 0] by rw [H1.out]; simpa using Blk.new ((w.alloc (.cells #[.slice A n c] 26)).alloc (.cells #[.slice Ah m ch] 26)) 26 #[.slice none 0 0])
  clear H1
  refine (l02Ok_any w.heap.size A n c gs w1 BG.out.lt (BG.out.cell 0) (by omega) (HR.out.next hb1) Z1.out true HO1.out).mono ?_
  rintro e w2 ⟨rfl, hb2⟩
  have b2 := Lib.hid (hb1.trans (hb2.mono hb1.size))
  have BG2 := Lib.hid (BG.out.next hb2)
  have BH2 := Lib.hid (BH.out.next hb2)
  have BR2 := Lib.hid (BR.out.next hb2)
  clear BG BH BR hb1 hb2
  go_wp2_with fail
  refine (l02Ok_any (w.heap.size + 1) Ah m ch hs w2 BH2.out.lt (BH2.out.cell 0) (by omega) (H2.out.next b2.out) Z2.out true HO2.out).mono ?_
  rintro e w3 ⟨rfl, hb3⟩
  have b3 := Lib.hid (b2.out.trans (hb3.mono b2.out.size))
  have BG3 := Lib.hid (BG2.out.next hb3)
  have BH3 := Lib.hid (BH2.out.next hb3)
  have BR3 := Lib.hid (BR2.out.next hb3)
  clear BG2 BH2 BR2 hb3 b2
  go_wp2_with fail
  refine (l02Join_any w.heap.size (w.heap.size + 1) A n c gs Ah m ch hs w3 BG3.out.lt (BG3.out.cell 0) BH3.out.lt (BH3.out.cell 0) hn0 hn hm0 hm (HR.out.next b3.out) (H2.out.next b3.out) HWh.out).mono ?_
  generalize joinL gs hs = J at *
  rintro e w4 ⟨A4, c4, rfl, own4, hb4⟩
  have b4 := Lib.hid (b3.out.trans (hb4.mono b3.out.size))
  have O4 := Lib.hid (own4.mono b3.out.size)
  have BR4 := Lib.hid (BR3.out.next hb4)
  clear own4 hb4 b3 BG3 BH3 BR3
  rcases hok : (gOk J).isSome with _ | _
  · have Hok := Lib.hid hok
    have HF := Lib.hid (show limF J = [] by unfold limF; rw [hok]; rfl)
    have HC := Lib.hid (show limC J = 3 by unfold limC; rw [hok]; rfl)
    clear hok
    go_wp2_with fail
    refine (l02Told_no A4 J.length c4 J w4 (by have := Hjl.out; omega) (Rd.of_own (fun x _ => fac_len x) rfl O4.out) HS.out Hok.out).mono ?_
    rintro e w7 ⟨rfl, hb7⟩
    have B7 := BR4.out.next hb7
    have b7 := b4.out.trans (hb7.mono b4.out.size)
    have r7 := B7.cell 0
    have f7 := B7.frozen
    have l7 := B7.lt
    have x8 : (w7.setCell ⟨w.heap.size + 2, 0, none⟩ (.slice none 0 0)).cell? ⟨w.heap.size + 2, 0, none⟩ = some (.slice none 0 0) := by rw [(B7.set_ 0 (.slice none 0 0)).cell 0]; rfl
    have b8 := b7.setCell (p := ⟨w.heap.size + 2, 0, none⟩) (by simp) (.slice none 0 0)
    clear B7
    go_wp2_with fail
    exact bodyPost_ret (v := .tuple #[.agg #[.slice none 0 0], .int .i64 3]) (by simp [results, Try.results12, go_sem, x8]) rfl ⟨none, 0, by rw [HF.out, HC.out]; rfl, by rw [HF.out]; exact World.ownsRow_nil _ _ _ _, b8⟩
  · have Hok := Lib.hid hok
    have HF := Lib.hid (show limF J = J by unfold limF; rw [hok]; rfl)
    have HC := Lib.hid (show limC J = 0 by unfold limC; rw [hok]; rfl)
    clear hok
    go_wp2_with fail
    refine (l02Told_yes A4 J.length c4 J w4 (by have := Hjl.out; omega) (Rd.of_own (fun x _ => fac_len x) rfl O4.out) HS.out Hok.out).mono ?_
    rintro e w7 ⟨rfl, hb7⟩
    have B7 := Lib.hid (BR4.out.next hb7)
    have b7 := b4.out.trans (hb7.mono b4.out.size)
    have O7 := Lib.hid (own_next O4.out hb7)
    have r7 := B7.out.cell 0
    have f7 := B7.out.frozen
    have l7 := B7.out.lt
    have x8 : (w7.setCell ⟨w.heap.size + 2, 0, none⟩ (.slice A4 J.length c4)).cell? ⟨w.heap.size + 2, 0, none⟩ = some (.slice A4 J.length c4) := by rw [(B7.out.set_ 0 (.slice A4 J.length c4)).cell 0]; rfl
    have b8 := b7.setCell (p := ⟨w.heap.size + 2, 0, none⟩) (by simp) (.slice A4 J.length c4)
    have O8 := Lib.hid (own_kept' (i := 0) O7.out B7.out (by decide) (.slice A4 J.length c4))
    go_wp2_with fail
    exact bodyPost_ret (v := .tuple #[.agg #[.slice A4 J.length c4], .int .i64 0]) (by simp [results, Try.results12, go_sem, x8]) rfl ⟨A4, c4, by rw [HF.out, HC.out], by rw [HF.out]; exact O8.out, b8⟩
end Go.Proofs.Ytgdbpkpaacbhhaa


/-
  The words that a law draws.
-/
namespace Go.Proofs.Ytgdbpkpaacbhhaa
open Go.RowKit

/-- a list of bytes, as the walk reads it -/
theorem Rd.bytes {w : World} {B n : Nat} {A : Option Addr} {zs : List Int} (h : Rd w B A n 1 (fun z => [.int .u8 z]) zs) (ok : ∀ z ∈ zs, 0 ≤ z ∧ z < 256) : Rd w B A n 1 byteE (zs.map fun z => UInt8.ofNat z.toNat) := by
  refine ⟨by rw [List.length_map]; exact h.len, fun hn => ?_⟩
  obtain ⟨b, o, hA, hb, hc⟩ := h.2 hn
  refine ⟨b, o, hA, hb, fun k x hx j v hv => ?_⟩
  rw [List.getElem?_map] at hx
  obtain ⟨z, hz, rfl⟩ := Option.map_eq_some_iff.1 hx
  obtain ⟨h0, h1⟩ := ok z (List.mem_of_getElem? hz)
  obtain ⟨m, rfl⟩ := Int.eq_ofNat_of_zero_le h0
  have e : (UInt8.ofNat m).toNat = m := by rw [UInt8.toNat_ofNat']; omega
  have := hc k _ hz j v (by
    rcases j with _ | j
    · simpa [byteE, e] using hv
    · simp [byteE] at hv)
  exact this

theorem f6big_any (A : Option Addr) (n c : Nat) (w : World) (hn : n ≤ maxLen) (b : Bool) (hb : decide (4096 < n) = b) :
    Calls Try.prog 6 #[.slice A n c] w (Ret (.bool b) w) := by
  unfold maxLen at hn
  have e := Lib.hid (show decide ((4096 : Int) < (n : Int)) = b by rw [← hb, decide_eq_decide]; omega)
  clear hb
  go_enter Try.func6, Try.ntmps6
  go_wp2
  go_ret
  exact ⟨ret_bool e.out, Below.refl _ _⟩
def SrcNew (w : World) (e : Ending) (w' : World) : Prop := ∃ g, e = .returned (.pointer (some ⟨g, 0, none⟩)) ∧ w.heap.size ≤ g ∧ Src w' g 0 ∧ Below w.heap.size w w'
theorem l00From_any (A : Option Addr) (n c : Nat) (bs : List UInt8) (w : World) (hn : n ≤ 4096) (hr : Rd w w.heap.size A n 1 byteE bs) :
    Calls Try.prog 32 #[.slice A n c] w (SrcNew w) := by
  go_enter Try.func32, Try.ntmps32
  go_wp2_with fail
  go_ret
  exact ⟨w.heap.size, rfl, Nat.le_refl _, ⟨A, n, c, 0, bs, 0, Nat.le_refl _, hn, ⟨by omega, by omega⟩, Blk.new _ _ _, hr.below (by (repeat first | exact Below.refl _ _ | assumption | refine Below.drew ?_ | refine Below.alloc ?_ (by first | exact Nat.le_refl _ | (simp; done) | omega | (simp; omega)) _ | refine Below.setCell ?_ (by first | exact Nat.le_refl _ | (simp; done) | omega | (simp; omega)) _))⟩, by (repeat first | exact Below.refl _ _ | assumption | refine Below.drew ?_ | refine Below.alloc ?_ (by first | exact Nat.le_refl _ | (simp; done) | omega | (simp; omega)) _ | refine Below.setCell ?_ (by first | exact Nat.le_refl _ | (simp; done) | omega | (simp; omega)) _)⟩
/-- what a drawn word leaves -/
def WordPost (w : World) (most : Int) (e : Ending) (w' : World) : Prop := ∃ s : ByteArray, e = .returned (.string s) ∧ (s.size : Int) ≤ most ∧ s.data.toList.all letB = true ∧ Below w.heap.size w w'
end Go.Proofs.Ytgdbpkpaacbhhaa


/-
  The grammars that a law draws.
-/
namespace Go.Proofs.Ytgdbpkpaacbhhaa
open Go.RowKit

/-- a grammar that is drawn, in memory of its own -/
def GrNew (w : World) (most : Int) (e : Ending) (w' : World) : Prop :=
  ∃ A c rs, e = .returned (.agg #[.slice A rs.length c]) ∧ DgOk rs most ∧ w'.ownsRow w.heap.size 82 3 (.slice A rs.length c) rs.length (rs.flatMap Fac.cells) ∧ Below w.heap.size w w'
theorem DgOk.gok {rs : List Fac} {most : Int} (h : DgOk rs most) : (gOk rs).isSome = true := small_ok h.wf (by have := h.few; omega)
set_option maxHeartbeats 1000000 in
theorem p6Grammar_any (A : Option Addr) (n c : Nat) (bs : List UInt8) (w : World) (hn : n ≤ 4096) (hr : Rd w w.heap.size A n 1 byteE bs) :
    Calls Try.prog 7 #[.slice A n c] w (GrNew w 8) := by
  have HR := Lib.hid hr; clear hr
  go_enter Try.func7, Try.ntmps7
  go_wp2_with fail
  refine namedC fun w0 H0 => ?_
  have hb0 : Below w.heap.size w w0 := by rw [H0.out]; (repeat first | exact Below.refl _ _ | assumption | refine Below.drew ?_ | refine Below.alloc ?_ (by first | exact Nat.le_refl _ | (simp; done) | omega | (simp; omega)) _ | refine Below.setCell ?_ (by first | exact Nat.le_refl _ | (simp; done) | omega | (simp; omega)) _)
  have B0 := Lib.hid (show Blk w0 w.heap.size 26 #[.slice none 0 0] by rw [H0.out]; exact Blk.new _ _ _)
  clear H0
  refine (l00From_any A n c bs w0 hn (HR.out.next hb0)).mono ?_
  rintro e w1 ⟨g, rfl, hg, s1, hb1⟩
  have b1 := hb0.trans (hb1.mono hb0.size)
  have B1 := Lib.hid (B0.out.next hb1)
  have hlt := B0.out.lt
  go_wp2_with fail
  refine (l02Drawn_any g 0 8 w1 s1 (by omega) (by omega) (by omega)).mono ?_
  rintro e w2 ⟨A2, c2, rs, rfl, ok, own2, s2, g2⟩
  have B2 := Lib.hid (B1.out.grown g2 (by intro e; injection e with e; omega))
  have b2 := Lib.hid (b1.grown g2 b1.size (fun k e => by injection e; omega))
  have O2 := Lib.hid (own_kept' (i := 0) (own2.mono b1.size) B2.out (by decide) (.slice A2 rs.length c2))
  have Ok := Lib.hid ok
  have r0 := B2.out.cell 0
  have rf := B2.out.frozen
  have rl := B2.out.lt
  have x5 := (B2.out.set_ 0 (.slice A2 rs.length c2)).cell 0
  have b3 := Lib.hid (b2.out.setCell (p := ⟨w.heap.size, 0, none⟩) (Nat.le_refl _) (.slice A2 rs.length c2))
  clear own2 s2 g2 ok
  go_wp2_with fail
  refine bodyPost_ret (v := .agg #[.slice A2 rs.length c2]) (by simp [results, Try.results7, go_sem]; rw [x5]; rfl) rfl ?_
  exact ⟨A2, c2, rs, rfl, Ok.out, O2.out, b3.out⟩
end Go.Proofs.Ytgdbpkpaacbhhaa


/-
  The draw of a grammar of a long word: it is valid, and its word is not too long.
-/
namespace Go.Proofs.Ytgdbpkpaacbhhaa
open Go.RowKit

/-- a slice value holds a grammar that is right -/
def GrAt (w : World) (B : Nat) (V : Value) : Prop := ∃ A c rs, V = .slice A rs.length c ∧ GrIn w B A c rs
theorem GrIn.next {w w' : World} {B : Nat} {A : Option Addr} {c : Nat} {rs : List Fac} (h : GrIn w B A c rs) (hb : Below w.heap.size w w') : GrIn w' B A c rs := ⟨h.wf, h.pos, h.ok, own_next h.own hb⟩
theorem GrIn.mono {w : World} {B B' : Nat} {A : Option Addr} {c : Nat} {rs : List Fac} (h : GrIn w B A c rs) (hB : B' ≤ B) : GrIn w B' A c rs := ⟨h.wf, h.pos, h.ok, h.own.mono hB⟩
theorem GrAt.mono {w : World} {B B' : Nat} {V : Value} (h : GrAt w B V) (hB : B' ≤ B) : GrAt w B' V := by obtain ⟨A, c, rs, e, h⟩ := h; exact ⟨A, c, rs, e, h.mono hB⟩
theorem GrAt.next {w w' : World} {B : Nat} {V : Value} (h : GrAt w B V) (hb : Below w.heap.size w w') : GrAt w' B V := by obtain ⟨A, c, rs, e, h⟩ := h; exact ⟨A, c, rs, e, h.next hb⟩
theorem GrAt.alloc {w : World} {B : Nat} {V : Value} (h : GrAt w B V) (o : Obj) : GrAt (w.alloc o) B V := h.next ((Below.refl _ _).alloc (Nat.le_refl _) _)
theorem GrAt.keep {w : World} {B g : Nat} {V : Value} {cs : Array Value} (h : GrAt w B V) (hB : Blk w g 26 cs) (u : Value) : GrAt (w.setCell ⟨g, 0, none⟩ u) B V := by
  obtain ⟨A, c, rs, e, h⟩ := h
  exact ⟨A, c, rs, e, h.wf, h.pos, h.ok, own_kept' (i := 0) h.own hB (by decide) u⟩
theorem GrAt.draw {w w' : World} {B g : Nat} {V : Value} (h : GrAt w B V) (hg : w.grownBy w' (some g)) (hlt : g < B) : GrAt w' B V := by
  obtain ⟨A, c, rs, e, h⟩ := h
  exact ⟨A, c, rs, e, h.wf, h.pos, h.ok, own_kept h.own hg hlt⟩
theorem GrCode.cut {w w' : World} {e : Ending} (h : GrCode w e w') : ∃ (A2 : Option Addr) (n2 c2 : Nat) (k : Int), e = .returned (.tuple #[.agg #[.slice A2 n2 c2], .int .i64 k]) ∧ Below w.heap.size w w' ∧ (k = 0 → GrAt w' w.heap.size (.slice A2 n2 c2)) := by
  rcases h with ⟨A, c, rs, rfl, h, hb⟩ | ⟨rfl, hb⟩
  · exact ⟨_, _, _, 0, rfl, hb, fun _ => ⟨A, c, rs, rfl, h⟩⟩
  · exact ⟨_, _, _, 3, rfl, hb, fun h => absurd h (by decide)⟩
/-- the draw of a long word under way -/
structure HuW (w W : World) (g K X : Nat) (A : Option Addr) (n c : Nat) (rs : List Fac) : Prop where
  q : W.ownsRow w.heap.size 82 3 (.slice A n c) n (rs.flatMap Fac.cells)
  r : Blk W w.heap.size 26 #[.slice none 0 0]
  x : Blk W X 26 #[.slice A n c]
  s : Src W g K
  e : w.grownBy W (some g)
  hg : g < w.heap.size
  hx : w.heap.size < X
section
variable {w W W' : World} {g K X : Nat} {A : Option Addr} {n c : Nat} {rs : List Fac}
theorem HuW.next (h : HuW w W g K X A n c rs) (hb : Below W.heap.size W W') : HuW w W' g K X A n c rs := ⟨own_next h.q hb, h.r.next hb, h.x.next hb, h.s.next hb, gb_next h.e hb, h.hg, h.hx⟩
theorem HuW.alloc (h : HuW w W g K X A n c rs) (o : Obj) : HuW w (W.alloc o) g K X A n c rs := h.next ((Below.refl _ _).alloc (Nat.le_refl _) _)
theorem HuW.drew (h : HuW w W g K X A n c rs) : HuW w W.drew g K X A n c rs := h.next (Below.refl _ _).drew
theorem HuW.pick {K' : Nat} (h : HuW w W g K X A n c rs) (hs : Src W' g K') (hg : W.grownBy W' (some g)) : HuW w W' g K' X A n c rs :=
  ⟨own_kept h.q hg h.hg, h.r.grown hg (by intro e; injection e with e; have := h.hg; omega), h.x.grown hg (by intro e; injection e with e; have := h.hg; have := h.hx; omega), hs, gb_trans h.e hg, h.hg, h.hx⟩
theorem HuW.far {b : Nat} {cs : Array Value} (h : HuW w W g K X A n c rs) (V : Value) (hB : Blk W b 26 cs) (hb : X < b) : HuW w (W.setCell ⟨b, 0, none⟩ V) g K X A n c rs := by
  have hg := gb_set W b 0 V
  have h1 := h.hg; have h2 := h.hx
  exact ⟨own_kept' (i := 0) h.q hB (by decide) V, h.r.grown hg (by intro e; injection e with e; omega), h.x.grown hg (by intro e; injection e with e; omega), h.s.grown hg (fun k e => by injection e with e; omega), gb_weak h.e hg (by omega), h1, h2⟩
end
theorem mul_pick {a b : Int} (a0 : 0 ≤ a) (a1 : a < 1000000) (b0 : 0 ≤ b) (b1 : b < 100000) : 0 ≤ a * b ∧ a * b ≤ 100000000000 :=
  ⟨Int.mul_nonneg a0 b0, Int.le_trans (Int.mul_le_mul (show a ≤ 1000000 by omega) (show b ≤ 100000 by omega) b0 (by decide)) (by decide)⟩
/-- what the draw of a long word leaves -/
def HuDraw (w : World) (g K : Nat) (e : Ending) (w' : World) : Prop :=
  ∃ A c rs, e = .returned (.agg #[.slice A rs.length c]) ∧ GrIn w' w.heap.size A c rs ∧ Src w' g K ∧ w.grownBy w' (some g)
theorem join_cut {w w' : World} {J : List Fac} {e : Ending} (h : RetGC w (limF J) (limC J) e w') (hw : WF J) (hp : 0 < J.length) :
    ∃ (A2 : Option Addr) (n2 c2 : Nat) (k : Int), e = .returned (.tuple #[.agg #[.slice A2 n2 c2], .int .i64 k]) ∧ Below w.heap.size w w' ∧ (k = 0 → GrAt w' w.heap.size (.slice A2 n2 c2)) := by
  obtain ⟨A, c, rfl, own, hb⟩ := h
  refine ⟨A, _, c, _, rfl, hb, fun hk => ?_⟩
  unfold limC at hk
  split at hk
  · rename_i h1
    have e : limF J = J := by unfold limF; rw [if_pos h1]
    rw [e] at own ⊢
    exact ⟨A, c, J, rfl, hw, hp, h1, own⟩
  · cases hk
theorem HuW.tell {w W : World} {g K K' X : Nat} {A A2 : Option Addr} {n c n2 c2 : Nat} {rs : List Fac} (h : HuW w W g K X A n c rs) (hG : GrAt W w.heap.size (.slice A2 n2 c2)) (hK : K ≤ K') :
    HuDraw w g K' (.returned (.agg #[.slice A2 n2 c2])) (W.setCell ⟨w.heap.size, 0, none⟩ (.slice A2 n2 c2)) := by
  have hg := gb_set W w.heap.size 0 (.slice A2 n2 c2)
  have h1 := h.hg
  obtain ⟨A', c', rs', hv, hi⟩ := hG
  injection hv with h1 h2 h3
  subst h1; subst h2; subst h3
  exact ⟨A2, c2, rs', rfl, ⟨hi.wf, hi.pos, hi.ok, own_kept' (i := 0) hi.own h.r (by decide) _⟩, (h.s.grown hg (fun k e => by injection e with e; omega)).mono hK, gb_weak h.e hg (Nat.le_refl _)⟩
theorem HuW.x8 {w W : World} {g K X : Nat} {A : Option Addr} {n c : Nat} {rs : List Fac} (h : HuW w W g K X A n c rs) (v : Value) : (W.setCell ⟨w.heap.size, 0, none⟩ v).cell? ⟨w.heap.size, 0, none⟩ = some v := by rw [(h.r.set_ 0 v).cell 0]; rfl
set_option maxHeartbeats 4000000 in
set_option maxRecDepth 100000 in
theorem l02Huge_any (g K : Nat) (w : World) (h : Src w g K) (hK : K ≤ 1000000) :
    Calls Try.prog 33 #[.pointer (some ⟨g, 0, none⟩)] w (HuDraw w g (K + 3000)) := by
  have HG := h.lt
  have H := Lib.hid h; clear h
  go_enter Try.func33, Try.ntmps33
  go_wp2_with fail
  refine namedC fun w1 H1 => ?_
  have hb1 : Below w.heap.size w w1 := by rw [H1.out]; (repeat first | exact Below.refl _ _ | assumption | refine Below.drew ?_ | refine Below.alloc ?_ (by first | exact Nat.le_refl _ | (simp; done) | omega | (simp; omega)) _ | refine Below.setCell ?_ (by first | exact Nat.le_refl _ | (simp; done) | omega | (simp; omega)) _)
  have BR := Lib.hid (show Blk w1 w.heap.size 26 #[.slice none 0 0] by rw [H1.out]; exact Blk.new _ _ _)
  clear H1
  refine (l02Drawn_any g K 1000 w1 (H.out.next hb1) (by omega) (by omega) (by omega)).mono ?_
  rintro e w2 ⟨A, c, rs, rfl, ok, own2, s2, g2⟩
  have HOk := Lib.hid ok
  obtain ⟨n, hn⟩ : ∃ n, rs.length = n := ⟨_, rfl⟩
  have hn0 : 0 < n := by have := ok.pos; omega
  have hn1 : n ≤ 400 := by have := ok.few; omega
  have HLn := Lib.hid hn
  rw [hn] at own2 ⊢
  have O2 := Lib.hid (own2.mono hb1.size)
  have BR2 := Lib.hid (BR.out.grown g2 (by intro e; injection e with e; omega))
  have E2 := Lib.hid (gb_trans (gb_below (r := some g) hb1) g2)
  have S2 := Lib.hid s2
  have hX : w.heap.size < w2.heap.size := BR2.out.lt
  clear ok own2 s2 g2 hn BR hb1 H
  go_upto_region 2 with fail
  refine named fun w3 H3 => ?_
  have P := Lib.hid (show HuW w w3 g (K + 1000) w2.heap.size A n c rs by
    rw [H3.out]
    exact ⟨O2.out.alloc _, BR2.out.alloc _, Blk.new _ _ _, S2.out.next ((Below.refl _ _).alloc (Nat.le_refl _) _), gb_next E2.out ((Below.refl _ _).alloc (Nat.le_refl _) _), HG, hX⟩)
  clear H3 O2 BR2 E2 S2
  generalize hK1 : K + 1000 = K1 at *
  go_cut [4, 5] from 6 (fun p_ k_ wx => ∃ (a4 : Nat) (A2 : Option Addr) (n2 c2 : Nat) (k : Int), p_ = .pointer (some ⟨a4, 0, none⟩) ∧ k_ = .int .i64 k ∧ Hid (HuW w wx g (K1 + 2 + 2) w2.heap.size A n c rs) ∧ Hid (Blk wx a4 26 #[.slice A2 n2 c2]) ∧ Hid (k = 0 → GrAt wx w.heap.size (.slice A2 n2 c2)) ∧ Hid (w2.heap.size < a4))
  case first =>
    refine wp_region_N (fun W => W.cell? ⟨w2.heap.size, 0, none⟩ = some (.slice A n c)) [] (by kernel_rfl) ?_
    have P_0 := Lib.hid P.out.drew
    have hS0 := P_0.out.x.cell 0
    refine wpAnyN_take (i := 0) (v := ?_) rfl (by kernel_rfl) (fun _ _ _ h => h) (by rfl) (fun W hW => ?_) hS0 ?_
    rotate_left
    · have z0 := hW
      go_simp
      try with_reducible rfl
    try simp only [List.getElem_toArray, List.getElem_cons_zero, List.getElem_cons_succ, Act.put, List.setIfInBounds_toArray, List.set_cons_zero, List.set_cons_succ]
    refine wpAnyN_take (i := 1) (v := ?_) rfl (by kernel_rfl) (fun _ _ _ h => h) (by rfl) (fun W hW => ?_) hS0 ?_
    rotate_left
    · have z0 := hW
      go_simp
      try with_reducible rfl
    try simp only [List.getElem_toArray, List.getElem_cons_zero, List.getElem_cons_succ, Act.put, List.setIfInBounds_toArray, List.set_cons_zero, List.set_cons_succ]
    refine wpAnyN_take (i := 3) (v := ?_) rfl (by kernel_rfl) (fun _ _ _ h => h) (by rfl) (fun W hW => ?_) hS0 ?_
    rotate_left
    · have z0 := hW
      go_simp
      try with_reducible rfl
    try simp only [List.getElem_toArray, List.getElem_cons_zero, List.getElem_cons_succ, Act.put, List.setIfInBounds_toArray, List.set_cons_zero, List.set_cons_succ]
    clear hS0
    clear P
    generalize w3.drew = wd at *
    refine wpAnyN_2 (i := 2) (j := 11) rfl rfl (by kernel_rfl) ?_ ?_
    · intro Kc hK
      go_simp
      go_wp2_with (go_at_call 36; refine (pick_any g K1 1000000 1000000 _ P_0.out.s (by omega) (by omega) (by omega)).mono ?_; rintro e x1 ⟨v1, rfl, v10, v11, s2, g2⟩)
      have P_1 := Lib.hid (P_0.out.pick s2 g2)
      refine hK.out _ _ (fun _ => P_1.out.x.cell 0) ?_
      clear hK Kc s2 g2 P_0
      try simp only [List.getElem_toArray, List.getElem_cons_zero, List.getElem_cons_succ, Act.put, List.setIfInBounds_toArray, List.set_cons_zero, List.set_cons_succ]
      refine wpAnyN_2 (i := 4) (j := 11) rfl rfl (by kernel_rfl) ?_ ?_
      · intro Kc hK
        go_simp
        go_wp2_with (go_at_call 36; refine (pick_any g (K1 + 2) 100000 100000 _ P_1.out.s (by omega) (by omega) (by omega)).mono ?_; rintro e x2 ⟨v2, rfl, v20, v21, s2, g2⟩)
        have P_2 := Lib.hid (P_1.out.pick s2 g2)
        refine hK.out _ _ (fun _ => P_2.out.x.cell 0) ?_
        clear hK Kc s2 g2 P_1
        try simp only [List.getElem_toArray, List.getElem_cons_zero, List.getElem_cons_succ, Act.put, List.setIfInBounds_toArray, List.set_cons_zero, List.set_cons_succ]
        have hm := mul_pick v10 v11 v20 v21
        have um1 : IntKind.i64.wrap (v1 * v2) = v1 * v2 := by rw [IntWalk.i64_in _ (by omega)]
        have um2 : IntKind.i64.wrap (1 + v1 * v2) = 1 + v1 * v2 := by rw [IntWalk.i64_in _ (by omega)]
        have hS0 := P_2.out.x.cell 0
        refine wpAnyN_take (i := 5) (v := ?_) rfl (by kernel_rfl) (fun _ _ _ h => h) (by rfl) (fun W hW => ?_) hS0 ?_
        rotate_left
        · have z0 := hW
          go_simp
          try with_reducible rfl
        try simp only [List.getElem_toArray, List.getElem_cons_zero, List.getElem_cons_succ, Act.put, List.setIfInBounds_toArray, List.set_cons_zero, List.set_cons_succ]
        refine wpAnyN_take (i := 6) (v := ?_) rfl (by kernel_rfl) (fun _ _ _ h => h) (by rfl) (fun W hW => ?_) hS0 ?_
        rotate_left
        · have z0 := hW
          go_simp
          try with_reducible rfl
        try simp only [List.getElem_toArray, List.getElem_cons_zero, List.getElem_cons_succ, Act.put, List.setIfInBounds_toArray, List.set_cons_zero, List.set_cons_succ]
        clear hS0
        clear um1 um2
        generalize v1 * v2 = t at *
        refine wpAnyN_2 (i := 7) (j := 11) rfl rfl (by kernel_rfl) ?_ ?_
        · intro Kc hK
          go_simp
          go_wp2_with (go_at_call 79; refine (powerG_any A n c rs (1 + t) _ hn0 hn1 (Rd.of_own (fun x _ => fac_len x) HLn.out P_2.out.q) HOk.out.wf HOk.out.gok (by omega) (by omega)).mono ?_; rintro e x3 hpost; obtain ⟨A2, n2, c2, k, rfl, hbl, HPk⟩ := hpost.cut)
          have P_3 := Lib.hid (P_2.out.next hbl)
          have HP := Lib.hid (fun h => (HPk h).mono P_2.out.e.size)
          refine hK.out _ _ (fun _ => P_3.out.x.cell 0) ?_
          clear hK Kc hpost hbl HPk P_2
          try simp only [List.getElem_toArray, List.getElem_cons_zero, List.getElem_cons_succ, Act.put, List.setIfInBounds_toArray, List.set_cons_zero, List.set_cons_succ]
          have hS0 := P_3.out.x.cell 0
          refine wpAnyN_take (i := 8) (v := ?_) rfl (by kernel_rfl) (fun _ _ _ h => h) (by rfl) (fun W hW => ?_) hS0 ?_
          rotate_left
          · have z0 := hW
            go_simp
            try with_reducible rfl
          try simp only [List.getElem_toArray, List.getElem_cons_zero, List.getElem_cons_succ, Act.put, List.setIfInBounds_toArray, List.set_cons_zero, List.set_cons_succ]
          refine wpAnyN_take (i := 9) (v := ?_) rfl (by kernel_rfl) (fun _ _ _ h => h) (by rfl) (fun W hW => ?_) hS0 ?_
          rotate_left
          · have z0 := hW
            go_simp
            try with_reducible rfl
          try simp only [List.getElem_toArray, List.getElem_cons_zero, List.getElem_cons_succ, Act.put, List.setIfInBounds_toArray, List.set_cons_zero, List.set_cons_succ]
          refine wpAnyN_take (i := 10) (v := ?_) rfl (by kernel_rfl) (fun _ _ _ h => h) (by rfl) (fun W hW => ?_) hS0 ?_
          rotate_left
          · have z0 := hW
            go_simp
            try with_reducible rfl
          try simp only [List.getElem_toArray, List.getElem_cons_zero, List.getElem_cons_succ, Act.put, List.setIfInBounds_toArray, List.set_cons_zero, List.set_cons_succ]
          clear hS0
          refine wpAnyN_next (i := 11) rfl (by kernel_rfl) (fun Kc hK => ?_)
          go_simp
          have P_4 := Lib.hid (P_3.out.alloc (.cells #[.slice none 0 0] 26))
          have B_4 := Lib.hid (Blk.new x3 26 #[.slice none 0 0])
          have ha4 : w2.heap.size < x3.heap.size := P_3.out.x.lt
          have HP := Lib.hid (fun h => (HP.out h).alloc (.cells #[.slice none 0 0] 26))
          refine hK.out _ _ (fun _ => P_4.out.x.cell 0) ?_
          clear hK Kc
          try simp only [List.getElem_toArray, List.getElem_cons_zero, List.getElem_cons_succ, Act.put, List.setIfInBounds_toArray, List.set_cons_zero, List.set_cons_succ]
          generalize x3.heap.size = a4 at *
          generalize x3.alloc (.cells #[.slice none 0 0] 26) = x4 at *
          clear P_3
          have BZ0 := B_4
          refine wpAnyN_next (i := 12) rfl (by kernel_rfl) (fun Kc hK => ?_)
          have b9c := B_4.out.cell 0
          have b9f := B_4.out.frozen
          have b9l := B_4.out.lt
          go_simp
          have PZ := Lib.hid (P_4.out.far (.slice A2 n2 c2) B_4.out ha4)
          have BZ := Lib.hid (B_4.out.set_ 0 (.slice A2 n2 c2))
          have OZ := Lib.hid (fun h => (HP.out h).keep BZ0.out (.slice A2 n2 c2))
          refine hK.out _ _ (fun _ => PZ.out.x.cell 0) ?_
          clear hK Kc b9c b9f b9l
          try simp only [List.getElem_toArray, List.getElem_cons_zero, List.getElem_cons_succ, Act.put, List.setIfInBounds_toArray, List.set_cons_zero, List.set_cons_succ]
          refine wpAnyN_next (i := 13) rfl (by kernel_rfl) (fun Kc hK => ?_)
          go_simp
          refine hK.out _ _ (fun _ => PZ.out.x.cell 0) ?_
          clear hK Kc
          refine wpAnyN_done (by kernel_rfl) ?_ _
          go_wp2_with fail
          go_meet
          exact ⟨a4, A2, n2, c2, k, rfl, rfl, PZ, BZ, OZ, Lib.hid (by omega)⟩
        · intro Kc hK
          go_simp
          have P_5 := Lib.hid (P_2.out.alloc (.cells #[.slice none 0 0] 26))
          have B_5 := Lib.hid (Blk.new x2 26 #[.slice none 0 0])
          have ha4 : w2.heap.size < x2.heap.size := P_2.out.x.lt
          refine hK.out _ _ (fun _ => P_5.out.x.cell 0) ?_
          clear hK Kc
          try simp only [List.getElem_toArray, List.getElem_cons_zero, List.getElem_cons_succ, Act.put, List.setIfInBounds_toArray, List.set_cons_zero, List.set_cons_succ]
          generalize x2.heap.size = a4 at *
          generalize x2.alloc (.cells #[.slice none 0 0] 26) = x5 at *
          clear P_2
          refine wpAnyN_next (i := 7) rfl (by kernel_rfl) (fun Kc hK => ?_)
          go_simp
          go_wp2_with (go_at_call 79; refine (powerG_any A n c rs (1 + t) _ hn0 hn1 (Rd.of_own (fun x _ => fac_len x) HLn.out P_5.out.q) HOk.out.wf HOk.out.gok (by omega) (by omega)).mono ?_; rintro e x6 hpost; obtain ⟨A2, n2, c2, k, rfl, hbl, HPk⟩ := hpost.cut)
          have P_6 := Lib.hid (P_5.out.next hbl)
          have HP := Lib.hid (fun h => (HPk h).mono P_5.out.e.size)
          have B_6 := Lib.hid (B_5.out.next hbl)
          refine hK.out _ _ (fun _ => P_6.out.x.cell 0) ?_
          clear hK Kc hpost hbl HPk P_5
          try simp only [List.getElem_toArray, List.getElem_cons_zero, List.getElem_cons_succ, Act.put, List.setIfInBounds_toArray, List.set_cons_zero, List.set_cons_succ]
          clear B_5
          have hS0 := P_6.out.x.cell 0
          refine wpAnyN_take (i := 8) (v := ?_) rfl (by kernel_rfl) (fun _ _ _ h => h) (by rfl) (fun W hW => ?_) hS0 ?_
          rotate_left
          · have z0 := hW
            go_simp
            try with_reducible rfl
          try simp only [List.getElem_toArray, List.getElem_cons_zero, List.getElem_cons_succ, Act.put, List.setIfInBounds_toArray, List.set_cons_zero, List.set_cons_succ]
          refine wpAnyN_take (i := 9) (v := ?_) rfl (by kernel_rfl) (fun _ _ _ h => h) (by rfl) (fun W hW => ?_) hS0 ?_
          rotate_left
          · have z0 := hW
            go_simp
            try with_reducible rfl
          try simp only [List.getElem_toArray, List.getElem_cons_zero, List.getElem_cons_succ, Act.put, List.setIfInBounds_toArray, List.set_cons_zero, List.set_cons_succ]
          refine wpAnyN_take (i := 10) (v := ?_) rfl (by kernel_rfl) (fun _ _ _ h => h) (by rfl) (fun W hW => ?_) hS0 ?_
          rotate_left
          · have z0 := hW
            go_simp
            try with_reducible rfl
          try simp only [List.getElem_toArray, List.getElem_cons_zero, List.getElem_cons_succ, Act.put, List.setIfInBounds_toArray, List.set_cons_zero, List.set_cons_succ]
          clear hS0
          have BZ0 := B_6
          refine wpAnyN_next (i := 12) rfl (by kernel_rfl) (fun Kc hK => ?_)
          have b9c := B_6.out.cell 0
          have b9f := B_6.out.frozen
          have b9l := B_6.out.lt
          go_simp
          have PZ := Lib.hid (P_6.out.far (.slice A2 n2 c2) B_6.out ha4)
          have BZ := Lib.hid (B_6.out.set_ 0 (.slice A2 n2 c2))
          have OZ := Lib.hid (fun h => (HP.out h).keep BZ0.out (.slice A2 n2 c2))
          refine hK.out _ _ (fun _ => PZ.out.x.cell 0) ?_
          clear hK Kc b9c b9f b9l
          try simp only [List.getElem_toArray, List.getElem_cons_zero, List.getElem_cons_succ, Act.put, List.setIfInBounds_toArray, List.set_cons_zero, List.set_cons_succ]
          refine wpAnyN_next (i := 13) rfl (by kernel_rfl) (fun Kc hK => ?_)
          go_simp
          refine hK.out _ _ (fun _ => PZ.out.x.cell 0) ?_
          clear hK Kc
          refine wpAnyN_done (by kernel_rfl) ?_ _
          go_wp2_with fail
          go_meet
          exact ⟨a4, A2, n2, c2, k, rfl, rfl, PZ, BZ, OZ, Lib.hid (by omega)⟩
      · intro Kc hK
        go_simp
        have P_7 := Lib.hid (P_1.out.alloc (.cells #[.slice none 0 0] 26))
        have B_7 := Lib.hid (Blk.new x1 26 #[.slice none 0 0])
        have ha4 : w2.heap.size < x1.heap.size := P_1.out.x.lt
        refine hK.out _ _ (fun _ => P_7.out.x.cell 0) ?_
        clear hK Kc
        try simp only [List.getElem_toArray, List.getElem_cons_zero, List.getElem_cons_succ, Act.put, List.setIfInBounds_toArray, List.set_cons_zero, List.set_cons_succ]
        generalize x1.heap.size = a4 at *
        generalize x1.alloc (.cells #[.slice none 0 0] 26) = x7 at *
        clear P_1
        refine wpAnyN_next (i := 4) rfl (by kernel_rfl) (fun Kc hK => ?_)
        go_simp
        go_wp2_with (go_at_call 36; refine (pick_any g (K1 + 2) 100000 100000 _ P_7.out.s (by omega) (by omega) (by omega)).mono ?_; rintro e x8 ⟨v2, rfl, v20, v21, s2, g2⟩)
        have P_8 := Lib.hid (P_7.out.pick s2 g2)
        have B_8 := Lib.hid (B_7.out.grown g2 (by intro e; injection e with e; have := HG; omega))
        refine hK.out _ _ (fun _ => P_8.out.x.cell 0) ?_
        clear hK Kc s2 g2 P_7
        try simp only [List.getElem_toArray, List.getElem_cons_zero, List.getElem_cons_succ, Act.put, List.setIfInBounds_toArray, List.set_cons_zero, List.set_cons_succ]
        clear B_7
        have hm := mul_pick v10 v11 v20 v21
        have um1 : IntKind.i64.wrap (v1 * v2) = v1 * v2 := by rw [IntWalk.i64_in _ (by omega)]
        have um2 : IntKind.i64.wrap (1 + v1 * v2) = 1 + v1 * v2 := by rw [IntWalk.i64_in _ (by omega)]
        have hS0 := P_8.out.x.cell 0
        refine wpAnyN_take (i := 5) (v := ?_) rfl (by kernel_rfl) (fun _ _ _ h => h) (by rfl) (fun W hW => ?_) hS0 ?_
        rotate_left
        · have z0 := hW
          go_simp
          try with_reducible rfl
        try simp only [List.getElem_toArray, List.getElem_cons_zero, List.getElem_cons_succ, Act.put, List.setIfInBounds_toArray, List.set_cons_zero, List.set_cons_succ]
        refine wpAnyN_take (i := 6) (v := ?_) rfl (by kernel_rfl) (fun _ _ _ h => h) (by rfl) (fun W hW => ?_) hS0 ?_
        rotate_left
        · have z0 := hW
          go_simp
          try with_reducible rfl
        try simp only [List.getElem_toArray, List.getElem_cons_zero, List.getElem_cons_succ, Act.put, List.setIfInBounds_toArray, List.set_cons_zero, List.set_cons_succ]
        clear hS0
        clear um1 um2
        generalize v1 * v2 = t at *
        refine wpAnyN_next (i := 7) rfl (by kernel_rfl) (fun Kc hK => ?_)
        go_simp
        go_wp2_with (go_at_call 79; refine (powerG_any A n c rs (1 + t) _ hn0 hn1 (Rd.of_own (fun x _ => fac_len x) HLn.out P_8.out.q) HOk.out.wf HOk.out.gok (by omega) (by omega)).mono ?_; rintro e x9 hpost; obtain ⟨A2, n2, c2, k, rfl, hbl, HPk⟩ := hpost.cut)
        have P_9 := Lib.hid (P_8.out.next hbl)
        have HP := Lib.hid (fun h => (HPk h).mono P_8.out.e.size)
        have B_9 := Lib.hid (B_8.out.next hbl)
        refine hK.out _ _ (fun _ => P_9.out.x.cell 0) ?_
        clear hK Kc hpost hbl HPk P_8
        try simp only [List.getElem_toArray, List.getElem_cons_zero, List.getElem_cons_succ, Act.put, List.setIfInBounds_toArray, List.set_cons_zero, List.set_cons_succ]
        clear B_8
        have hS0 := P_9.out.x.cell 0
        refine wpAnyN_take (i := 8) (v := ?_) rfl (by kernel_rfl) (fun _ _ _ h => h) (by rfl) (fun W hW => ?_) hS0 ?_
        rotate_left
        · have z0 := hW
          go_simp
          try with_reducible rfl
        try simp only [List.getElem_toArray, List.getElem_cons_zero, List.getElem_cons_succ, Act.put, List.setIfInBounds_toArray, List.set_cons_zero, List.set_cons_succ]
        refine wpAnyN_take (i := 9) (v := ?_) rfl (by kernel_rfl) (fun _ _ _ h => h) (by rfl) (fun W hW => ?_) hS0 ?_
        rotate_left
        · have z0 := hW
          go_simp
          try with_reducible rfl
        try simp only [List.getElem_toArray, List.getElem_cons_zero, List.getElem_cons_succ, Act.put, List.setIfInBounds_toArray, List.set_cons_zero, List.set_cons_succ]
        refine wpAnyN_take (i := 10) (v := ?_) rfl (by kernel_rfl) (fun _ _ _ h => h) (by rfl) (fun W hW => ?_) hS0 ?_
        rotate_left
        · have z0 := hW
          go_simp
          try with_reducible rfl
        try simp only [List.getElem_toArray, List.getElem_cons_zero, List.getElem_cons_succ, Act.put, List.setIfInBounds_toArray, List.set_cons_zero, List.set_cons_succ]
        clear hS0
        have BZ0 := B_9
        refine wpAnyN_next (i := 12) rfl (by kernel_rfl) (fun Kc hK => ?_)
        have b9c := B_9.out.cell 0
        have b9f := B_9.out.frozen
        have b9l := B_9.out.lt
        go_simp
        have PZ := Lib.hid (P_9.out.far (.slice A2 n2 c2) B_9.out ha4)
        have BZ := Lib.hid (B_9.out.set_ 0 (.slice A2 n2 c2))
        have OZ := Lib.hid (fun h => (HP.out h).keep BZ0.out (.slice A2 n2 c2))
        refine hK.out _ _ (fun _ => PZ.out.x.cell 0) ?_
        clear hK Kc b9c b9f b9l
        try simp only [List.getElem_toArray, List.getElem_cons_zero, List.getElem_cons_succ, Act.put, List.setIfInBounds_toArray, List.set_cons_zero, List.set_cons_succ]
        refine wpAnyN_next (i := 13) rfl (by kernel_rfl) (fun Kc hK => ?_)
        go_simp
        refine hK.out _ _ (fun _ => PZ.out.x.cell 0) ?_
        clear hK Kc
        refine wpAnyN_done (by kernel_rfl) ?_ _
        go_wp2_with fail
        go_meet
        exact ⟨a4, A2, n2, c2, k, rfl, rfl, PZ, BZ, OZ, Lib.hid (by omega)⟩
    · intro Kc hK
      go_simp
      have P_10 := Lib.hid (P_0.out.alloc (.cells #[.slice none 0 0] 26))
      have B_10 := Lib.hid (Blk.new wd 26 #[.slice none 0 0])
      have ha4 : w2.heap.size < wd.heap.size := P_0.out.x.lt
      refine hK.out _ _ (fun _ => P_10.out.x.cell 0) ?_
      clear hK Kc
      try simp only [List.getElem_toArray, List.getElem_cons_zero, List.getElem_cons_succ, Act.put, List.setIfInBounds_toArray, List.set_cons_zero, List.set_cons_succ]
      generalize wd.heap.size = a4 at *
      generalize wd.alloc (.cells #[.slice none 0 0] 26) = x10 at *
      clear P_0
      refine wpAnyN_next (i := 2) rfl (by kernel_rfl) (fun Kc hK => ?_)
      go_simp
      go_wp2_with (go_at_call 36; refine (pick_any g K1 1000000 1000000 _ P_10.out.s (by omega) (by omega) (by omega)).mono ?_; rintro e x11 ⟨v1, rfl, v10, v11, s2, g2⟩)
      have P_11 := Lib.hid (P_10.out.pick s2 g2)
      have B_11 := Lib.hid (B_10.out.grown g2 (by intro e; injection e with e; have := HG; omega))
      refine hK.out _ _ (fun _ => P_11.out.x.cell 0) ?_
      clear hK Kc s2 g2 P_10
      try simp only [List.getElem_toArray, List.getElem_cons_zero, List.getElem_cons_succ, Act.put, List.setIfInBounds_toArray, List.set_cons_zero, List.set_cons_succ]
      clear B_10
      refine wpAnyN_next (i := 4) rfl (by kernel_rfl) (fun Kc hK => ?_)
      go_simp
      go_wp2_with (go_at_call 36; refine (pick_any g (K1 + 2) 100000 100000 _ P_11.out.s (by omega) (by omega) (by omega)).mono ?_; rintro e x12 ⟨v2, rfl, v20, v21, s2, g2⟩)
      have P_12 := Lib.hid (P_11.out.pick s2 g2)
      have B_12 := Lib.hid (B_11.out.grown g2 (by intro e; injection e with e; have := HG; omega))
      refine hK.out _ _ (fun _ => P_12.out.x.cell 0) ?_
      clear hK Kc s2 g2 P_11
      try simp only [List.getElem_toArray, List.getElem_cons_zero, List.getElem_cons_succ, Act.put, List.setIfInBounds_toArray, List.set_cons_zero, List.set_cons_succ]
      clear B_11
      have hm := mul_pick v10 v11 v20 v21
      have um1 : IntKind.i64.wrap (v1 * v2) = v1 * v2 := by rw [IntWalk.i64_in _ (by omega)]
      have um2 : IntKind.i64.wrap (1 + v1 * v2) = 1 + v1 * v2 := by rw [IntWalk.i64_in _ (by omega)]
      have hS0 := P_12.out.x.cell 0
      refine wpAnyN_take (i := 5) (v := ?_) rfl (by kernel_rfl) (fun _ _ _ h => h) (by rfl) (fun W hW => ?_) hS0 ?_
      rotate_left
      · have z0 := hW
        go_simp
        try with_reducible rfl
      try simp only [List.getElem_toArray, List.getElem_cons_zero, List.getElem_cons_succ, Act.put, List.setIfInBounds_toArray, List.set_cons_zero, List.set_cons_succ]
      refine wpAnyN_take (i := 6) (v := ?_) rfl (by kernel_rfl) (fun _ _ _ h => h) (by rfl) (fun W hW => ?_) hS0 ?_
      rotate_left
      · have z0 := hW
        go_simp
        try with_reducible rfl
      try simp only [List.getElem_toArray, List.getElem_cons_zero, List.getElem_cons_succ, Act.put, List.setIfInBounds_toArray, List.set_cons_zero, List.set_cons_succ]
      clear hS0
      clear um1 um2
      generalize v1 * v2 = t at *
      refine wpAnyN_next (i := 7) rfl (by kernel_rfl) (fun Kc hK => ?_)
      go_simp
      go_wp2_with (go_at_call 79; refine (powerG_any A n c rs (1 + t) _ hn0 hn1 (Rd.of_own (fun x _ => fac_len x) HLn.out P_12.out.q) HOk.out.wf HOk.out.gok (by omega) (by omega)).mono ?_; rintro e x13 hpost; obtain ⟨A2, n2, c2, k, rfl, hbl, HPk⟩ := hpost.cut)
      have P_13 := Lib.hid (P_12.out.next hbl)
      have HP := Lib.hid (fun h => (HPk h).mono P_12.out.e.size)
      have B_13 := Lib.hid (B_12.out.next hbl)
      refine hK.out _ _ (fun _ => P_13.out.x.cell 0) ?_
      clear hK Kc hpost hbl HPk P_12
      try simp only [List.getElem_toArray, List.getElem_cons_zero, List.getElem_cons_succ, Act.put, List.setIfInBounds_toArray, List.set_cons_zero, List.set_cons_succ]
      clear B_12
      have hS0 := P_13.out.x.cell 0
      refine wpAnyN_take (i := 8) (v := ?_) rfl (by kernel_rfl) (fun _ _ _ h => h) (by rfl) (fun W hW => ?_) hS0 ?_
      rotate_left
      · have z0 := hW
        go_simp
        try with_reducible rfl
      try simp only [List.getElem_toArray, List.getElem_cons_zero, List.getElem_cons_succ, Act.put, List.setIfInBounds_toArray, List.set_cons_zero, List.set_cons_succ]
      refine wpAnyN_take (i := 9) (v := ?_) rfl (by kernel_rfl) (fun _ _ _ h => h) (by rfl) (fun W hW => ?_) hS0 ?_
      rotate_left
      · have z0 := hW
        go_simp
        try with_reducible rfl
      try simp only [List.getElem_toArray, List.getElem_cons_zero, List.getElem_cons_succ, Act.put, List.setIfInBounds_toArray, List.set_cons_zero, List.set_cons_succ]
      refine wpAnyN_take (i := 10) (v := ?_) rfl (by kernel_rfl) (fun _ _ _ h => h) (by rfl) (fun W hW => ?_) hS0 ?_
      rotate_left
      · have z0 := hW
        go_simp
        try with_reducible rfl
      try simp only [List.getElem_toArray, List.getElem_cons_zero, List.getElem_cons_succ, Act.put, List.setIfInBounds_toArray, List.set_cons_zero, List.set_cons_succ]
      clear hS0
      have BZ0 := B_13
      refine wpAnyN_next (i := 12) rfl (by kernel_rfl) (fun Kc hK => ?_)
      have b9c := B_13.out.cell 0
      have b9f := B_13.out.frozen
      have b9l := B_13.out.lt
      go_simp
      have PZ := Lib.hid (P_13.out.far (.slice A2 n2 c2) B_13.out ha4)
      have BZ := Lib.hid (B_13.out.set_ 0 (.slice A2 n2 c2))
      have OZ := Lib.hid (fun h => (HP.out h).keep BZ0.out (.slice A2 n2 c2))
      refine hK.out _ _ (fun _ => PZ.out.x.cell 0) ?_
      clear hK Kc b9c b9f b9l
      try simp only [List.getElem_toArray, List.getElem_cons_zero, List.getElem_cons_succ, Act.put, List.setIfInBounds_toArray, List.set_cons_zero, List.set_cons_succ]
      refine wpAnyN_next (i := 13) rfl (by kernel_rfl) (fun Kc hK => ?_)
      go_simp
      refine hK.out _ _ (fun _ => PZ.out.x.cell 0) ?_
      clear hK Kc
      refine wpAnyN_done (by kernel_rfl) ?_ _
      go_wp2_with fail
      go_meet
      exact ⟨a4, A2, n2, c2, k, rfl, rfl, PZ, BZ, OZ, Lib.hid (by omega)⟩
  case rest =>
    obtain ⟨a4, A2, n2, c2, k, rfl, rfl, P2, B2, O2, hX4⟩ := hcut
    clear P
    have x0 := P2.out.x.cell 0
    have xl := P2.out.x.lt
    have y0 := B2.out.cell 0
    have yl := B2.out.lt
    have r0 := P2.out.r.cell 0
    have rf := P2.out.r.frozen
    have rl := P2.out.r.lt
    by_cases hk0 : k = 0
    · subst hk0
      have G2 := O2.out rfl
      go_wp2_with fail
      refine (one_any g (K1 + 2 + 2) 2 wc P2.out.s (by omega) (by omega)).mono ?_
      rintro e w3 ⟨b, rfl, s3, g3⟩
      have P3 := Lib.hid (P2.out.pick s3 g3)
      have B3 := Lib.hid (B2.out.grown g3 (by intro e; injection e with e; have := hX4.out; omega))
      have G3 := Lib.hid (G2.draw g3 HG)
      clear P2 B2 G2 O2 s3 g3 x0 xl y0 yl r0 rf rl
      have x0 := P3.out.x.cell 0
      have xl := P3.out.x.lt
      have y0 := B3.out.cell 0
      have yl := B3.out.lt
      have r0 := P3.out.r.cell 0
      have rf := P3.out.r.frozen
      have rl := P3.out.r.lt
      cases b
      · go_wp2_with fail
        have x8 := HuW.x8 P3.out (.slice A2 n2 c2)
        exact bodyPost_ret (v := .agg #[.slice A2 n2 c2]) (by simp [results, Try.results33, go_sem, x8]) rfl (HuW.tell P3.out G3.out (by omega))
      · obtain ⟨A2', c2', rs2, hv, Gi⟩ := G3.out
        injection hv with ha hb hc
        subst ha; subst hb; subst hc
        go_upto_region 6 with fail
        go_cut [4, 5] from 6 (fun p_ k_ wx => ∃ (A2 : Option Addr) (n2 c2 : Nat) (k : Int), p_ = .pointer (some ⟨a4, 0, none⟩) ∧ k_ = .int .i64 k ∧ Hid (HuW w wx g (K1 + 2 + 2 + 2 + 1000) w2.heap.size A n c rs) ∧ Hid (Blk wx a4 26 #[.slice A2 n2 c2]) ∧ Hid (k = 0 → GrAt wx w.heap.size (.slice A2 n2 c2)))
        case first =>
          refine wp_region_N (fun W => W.cell? ⟨a4, 0, none⟩ = some (.slice A2 rs2.length c2)) [6, 7, 8] (by kernel_rfl) ?_
          have P_0 := Lib.hid P3.out.drew
          have B_0 := Lib.hid B3.out.drew
          have Gi_0 := Lib.hid (Gi.next (Below.refl _ _).drew)
          have hS0 := B_0.out.cell 0
          refine wpAnyN_take (i := 0) (v := ?_) rfl (by kernel_rfl) (fun _ _ _ h => h) (by rfl) (fun W hW => ?_) hS0 ?_
          rotate_left
          · have z0 := hW
            go_simp
            try with_reducible rfl
          try simp only [List.getElem_toArray, List.getElem_cons_zero, List.getElem_cons_succ, Act.put, List.setIfInBounds_toArray, List.set_cons_zero, List.set_cons_succ]
          refine wpAnyN_take (i := 1) (v := ?_) rfl (by kernel_rfl) (fun _ _ _ h => h) (by rfl) (fun W hW => ?_) hS0 ?_
          rotate_left
          · have z0 := hW
            go_simp
            try with_reducible rfl
          try simp only [List.getElem_toArray, List.getElem_cons_zero, List.getElem_cons_succ, Act.put, List.setIfInBounds_toArray, List.set_cons_zero, List.set_cons_succ]
          clear hS0 P3 B3 Gi x0 xl y0 yl r0 rf rl
          generalize w3.drew = wd at *
          refine wpAnyN_next (i := 2) rfl (by kernel_rfl) (fun Kc hK => ?_)
          go_simp
          go_wp2_with (go_at_call 31; refine (l02Drawn_any g (K1 + 2 + 2 + 2) 100 wd P_0.out.s (by omega) (by omega) (by omega)).mono ?_; rintro e x1 ⟨A3, c3, rs3, rfl, ok3, own3, s3, g3⟩)
          have P_1 := Lib.hid (P_0.out.pick s3 g3)
          have B_1 := Lib.hid (B_0.out.grown g3 (by intro e; injection e with e; have := hX4.out; omega))
          have Gi_1 := Lib.hid (show GrIn x1 w.heap.size A2 c2 rs2 from ⟨Gi_0.out.wf, Gi_0.out.pos, Gi_0.out.ok, own_kept Gi_0.out.own g3 HG⟩)
          have O3 := Lib.hid own3
          have Ok3 := Lib.hid ok3
          refine hK.out _ _ (fun _ => B_1.out.cell 0) ?_
          clear hK Kc s3 g3 own3 ok3 P_0 B_0 Gi_0
          try simp only [List.getElem_toArray, List.getElem_cons_zero, List.getElem_cons_succ, Act.put, List.setIfInBounds_toArray, List.set_cons_zero, List.set_cons_succ]
          have hp3 := Ok3.out.pos
          have hp2 := Gi_1.out.pos
          refine wpAnyN_next (i := 3) rfl (by kernel_rfl) (fun Kc hK => ?_)
          go_simp
          go_wp2_with (go_at_call 12; refine (joinG_any A2 rs2.length c2 rs2 A3 rs3.length c3 rs3 x1 hp2 hp3 (Rd.of_own (fun x _ => fac_len x) rfl Gi_1.out.own) (Rd.of_own (fun x _ => fac_len x) rfl O3.out) Gi_1.out.wf Ok3.out.wf Gi_1.out.ok Ok3.out.gok).mono ?_; rintro e x2 hpost; obtain ⟨A9, n9, c9, k9, rfl, hbl, HPk⟩ := join_cut hpost (join_wf Gi_1.out.wf Ok3.out.wf) (join_pos hp2))
          have P_2 := Lib.hid (P_1.out.next hbl)
          have B_2 := Lib.hid (B_1.out.next hbl)
          have H9 := Lib.hid (fun h => (HPk h).mono P_1.out.e.size)
          refine hK.out _ _ (fun _ => B_2.out.cell 0) ?_
          clear hK Kc hpost hbl HPk P_1 B_1
          try simp only [List.getElem_toArray, List.getElem_cons_zero, List.getElem_cons_succ, Act.put, List.setIfInBounds_toArray, List.set_cons_zero, List.set_cons_succ]
          have hS0 := B_2.out.cell 0
          refine wpAnyN_take (i := 4) (v := ?_) rfl (by kernel_rfl) (fun _ _ _ h => h) (by rfl) (fun W hW => ?_) hS0 ?_
          rotate_left
          · have z0 := hW
            go_simp
            try with_reducible rfl
          try simp only [List.getElem_toArray, List.getElem_cons_zero, List.getElem_cons_succ, Act.put, List.setIfInBounds_toArray, List.set_cons_zero, List.set_cons_succ]
          refine wpAnyN_2 (i := 5) (j := 6) rfl rfl (by kernel_rfl) ?_ ?_
          · intro Kc hK
            go_simp
            refine hK.out _ _ (fun _ => hS0) ?_
            clear hK Kc
            try simp only [List.getElem_toArray, List.getElem_cons_zero, List.getElem_cons_succ, Act.put, List.setIfInBounds_toArray, List.set_cons_zero, List.set_cons_succ]
            refine wpAnyN_2 (i := 6) (j := 7) rfl rfl (by kernel_rfl) ?_ ?_
            · intro Kc hK
              go_simp
              refine hK.out _ _ (fun h => absurd h (by decide)) ?_
              clear hK Kc
              try simp only [List.getElem_toArray, List.getElem_cons_zero, List.getElem_cons_succ, Act.put, List.setIfInBounds_toArray, List.set_cons_zero, List.set_cons_succ]
              refine wpAnyN_next (i := 7) rfl (by kernel_rfl) (fun Kc hK => ?_)
              have b9c := B_2.out.cell 0
              have b9f := B_2.out.frozen
              have b9l := B_2.out.lt
              go_simp
              have PZ := Lib.hid (P_2.out.far (.slice A9 n9 c9) B_2.out hX4.out)
              have BZ := Lib.hid (B_2.out.set_ 0 (.slice A9 n9 c9))
              have HZ := Lib.hid (fun h => (H9.out h).keep B_2.out (.slice A9 n9 c9))
              refine hK.out _ _ (fun h => absurd h (by decide)) ?_
              clear hK Kc b9c b9f b9l hS0
              try simp only [List.getElem_toArray, List.getElem_cons_zero, List.getElem_cons_succ, Act.put, List.setIfInBounds_toArray, List.set_cons_zero, List.set_cons_succ]
              refine wpAnyN_next (i := 8) rfl (by kernel_rfl) (fun Kc hK => ?_)
              go_simp
              refine hK.out _ _ (fun h => absurd h (by decide)) ?_
              clear hK Kc
              refine wpAnyN_done (by kernel_rfl) ?_ _
              go_wp2_with fail
              go_meet
              exact ⟨A9, n9, c9, k9, rfl, rfl, PZ, BZ, HZ⟩
            · intro Kc hK
              have b9c := B_2.out.cell 0
              have b9f := B_2.out.frozen
              have b9l := B_2.out.lt
              go_simp
              have PZ := Lib.hid (P_2.out.far (.slice A9 n9 c9) B_2.out hX4.out)
              have BZ := Lib.hid (B_2.out.set_ 0 (.slice A9 n9 c9))
              have HZ := Lib.hid (fun h => (H9.out h).keep B_2.out (.slice A9 n9 c9))
              refine hK.out _ _ (fun h => absurd h (by decide)) ?_
              clear hK Kc b9c b9f b9l hS0
              try simp only [List.getElem_toArray, List.getElem_cons_zero, List.getElem_cons_succ, Act.put, List.setIfInBounds_toArray, List.set_cons_zero, List.set_cons_succ]
              refine wpAnyN_next (i := 6) rfl (by kernel_rfl) (fun Kc hK => ?_)
              go_simp
              refine hK.out _ _ (fun h => absurd h (by decide)) ?_
              clear hK Kc
              try simp only [List.getElem_toArray, List.getElem_cons_zero, List.getElem_cons_succ, Act.put, List.setIfInBounds_toArray, List.set_cons_zero, List.set_cons_succ]
              refine wpAnyN_next (i := 8) rfl (by kernel_rfl) (fun Kc hK => ?_)
              go_simp
              refine hK.out _ _ (fun h => absurd h (by decide)) ?_
              clear hK Kc
              refine wpAnyN_done (by kernel_rfl) ?_ _
              go_wp2_with fail
              go_meet
              exact ⟨A9, n9, c9, k9, rfl, rfl, PZ, BZ, HZ⟩
          · intro Kc hK
            go_simp
            refine hK.out _ _ (fun h => absurd h (by decide)) ?_
            clear hK Kc
            try simp only [List.getElem_toArray, List.getElem_cons_zero, List.getElem_cons_succ, Act.put, List.setIfInBounds_toArray, List.set_cons_zero, List.set_cons_succ]
            refine wpAnyN_next (i := 5) rfl (by kernel_rfl) (fun Kc hK => ?_)
            go_simp
            refine hK.out _ _ (fun _ => hS0) ?_
            clear hK Kc
            try simp only [List.getElem_toArray, List.getElem_cons_zero, List.getElem_cons_succ, Act.put, List.setIfInBounds_toArray, List.set_cons_zero, List.set_cons_succ]
            refine wpAnyN_next (i := 7) rfl (by kernel_rfl) (fun Kc hK => ?_)
            have b9c := B_2.out.cell 0
            have b9f := B_2.out.frozen
            have b9l := B_2.out.lt
            go_simp
            have PZ := Lib.hid (P_2.out.far (.slice A9 n9 c9) B_2.out hX4.out)
            have BZ := Lib.hid (B_2.out.set_ 0 (.slice A9 n9 c9))
            have HZ := Lib.hid (fun h => (H9.out h).keep B_2.out (.slice A9 n9 c9))
            refine hK.out _ _ (fun h => absurd h (by decide)) ?_
            clear hK Kc b9c b9f b9l hS0
            try simp only [List.getElem_toArray, List.getElem_cons_zero, List.getElem_cons_succ, Act.put, List.setIfInBounds_toArray, List.set_cons_zero, List.set_cons_succ]
            refine wpAnyN_next (i := 8) rfl (by kernel_rfl) (fun Kc hK => ?_)
            go_simp
            refine hK.out _ _ (fun h => absurd h (by decide)) ?_
            clear hK Kc
            refine wpAnyN_done (by kernel_rfl) ?_ _
            go_wp2_with fail
            go_meet
            exact ⟨A9, n9, c9, k9, rfl, rfl, PZ, BZ, HZ⟩
        case rest =>
          obtain ⟨A9, n9, c9, k, rfl, rfl, P4, B4, G4⟩ := hcut
          clear P3 B3 G3 Gi x0 xl y0 yl r0 rf rl
          have x0 := P4.out.x.cell 0
          have xl := P4.out.x.lt
          have y0 := B4.out.cell 0
          have yl := B4.out.lt
          have r0 := P4.out.r.cell 0
          have rf := P4.out.r.frozen
          have rl := P4.out.r.lt
          by_cases hk0 : k = 0
          · subst hk0
            have G5 := G4.out rfl
            go_wp2_with fail
            have x8 := HuW.x8 P4.out (.slice A9 n9 c9)
            exact bodyPost_ret (v := .agg #[.slice A9 n9 c9]) (by simp [results, Try.results33, go_sem, x8]) rfl (HuW.tell P4.out G5 (by omega))
          · have hk1 : (k == 0) = false := by simpa using hk0
            go_wp2_with fail
            have x8 := HuW.x8 P4.out (.slice A n c)
            exact bodyPost_ret (v := .agg #[.slice A n c]) (by simp [results, Try.results33, go_sem, x8]) rfl (HuW.tell P4.out ⟨A, c, rs, by rw [HLn.out], HOk.out.wf, by rw [HLn.out]; exact hn0, HOk.out.gok, by rw [HLn.out]; exact P4.out.q⟩ (by omega))
    · have hk1 : (k == 0) = false := by simpa using hk0
      go_wp2_with fail
      have x8 := HuW.x8 P2.out (.slice A n c)
      exact bodyPost_ret (v := .agg #[.slice A n c]) (by simp [results, Try.results33, go_sem, x8]) rfl (HuW.tell P2.out ⟨A, c, rs, by rw [HLn.out], HOk.out.wf, by rw [HLn.out]; exact hn0, HOk.out.gok, by rw [HLn.out]; exact P2.out.q⟩ (by omega))
end Go.Proofs.Ytgdbpkpaacbhhaa


/-
  What laws draw: a long word's grammar, a number, a letter.
-/
namespace Go.Proofs.Ytgdbpkpaacbhhaa
open Go.RowKit

/-- a grammar that is drawn, whose word has at most a quarter of the most letters -/
def HgNew (w : World) (e : Ending) (w' : World) : Prop :=
  ∃ A c rs, e = .returned (.agg #[.slice A rs.length c]) ∧ GrIn w' w.heap.size A c rs ∧ (wdN rs).length ≤ 250000000000000 ∧ Below w.heap.size w w'
theorem big_lens {rs : List Fac} (h : (gOk rs).isSome = true) : ∃ ls, gLens rs [] = some ls ∧ rs.length ≤ 400 ∧ ls.length = rs.length := by
  obtain ⟨ls, hls⟩ := Option.isSome_iff_exists.1 h
  exact ⟨ls, (gOk_lens hls).1, (gOk_lens hls).2.1, (gOk_lens hls).2.2⟩
set_option maxHeartbeats 2000000 in
set_option maxRecDepth 100000 in
theorem p6Huge_any (A : Option Addr) (n c : Nat) (bs : List UInt8) (w : World) (hn : n ≤ 4096) (hr : Rd w w.heap.size A n 1 byteE bs) :
    Calls Try.prog 8 #[.slice A n c] w (HgNew w) := by
  have HR := Lib.hid hr; clear hr
  go_enter Try.func8, Try.ntmps8
  go_wp2_with fail
  refine namedC fun w0 H0 => ?_
  have hb0 : Below w.heap.size w w0 := by rw [H0.out]; (repeat first | exact Below.refl _ _ | assumption | refine Below.drew ?_ | refine Below.alloc ?_ (by first | exact Nat.le_refl _ | (simp; done) | omega | (simp; omega)) _ | refine Below.setCell ?_ (by first | exact Nat.le_refl _ | (simp; done) | omega | (simp; omega)) _)
  have B0 := Lib.hid (show Blk w0 w.heap.size 26 #[.slice none 0 0] by rw [H0.out]; exact Blk.new _ _ _)
  clear H0
  refine (l00From_any A n c bs w0 hn (HR.out.next hb0)).mono ?_
  rintro e w1 ⟨g, rfl, hg, s1, hb1⟩
  have b1 := Lib.hid (hb0.trans (hb1.mono hb0.size))
  have B1 := Lib.hid (B0.out.next hb1)
  have hg2 : w.heap.size < g := by have := B0.out.lt; omega
  have S1 := Lib.hid s1
  clear s1 hb1 hb0 B0
  go_wp2_with fail
  go_loopw [4] (fun i_ w' => ∃ i : Nat, i_ = .int .i64 i ∧ i ≤ 3 ∧ Hid (Src w' g (3000 * i)) ∧ Hid (Below w.heap.size w w') ∧ Hid (Blk w' w.heap.size 26 #[.slice none 0 0])) (fun i_ _ => 3 - (intOf i_).toNat)
  case atStart => exact ⟨0, rfl, by omega, S1, b1, B1⟩
  case round =>
    obtain ⟨i, rfl, hi, S2, b2, B2⟩ := hrel
    clear S1 b1 B1
    by_cases hlt : i < 3
    · have i1 : (i : Int) < 3 := by omega
      go_wp2_with fail
      refine (l02Huge_any g (3000 * i) wr S2.out (by omega)).mono ?_
      rintro e w3 ⟨A3, c3, rs, rfl, gi, s3, g3⟩
      have S3 := Lib.hid (s3.next ((Below.refl _ _).alloc (Nat.le_refl _) (.cells #[.slice A3 rs.length c3] 26)))
      have b3 := Lib.hid ((b2.out.grown g3 b2.out.size (fun k e => by injection e; omega)).alloc (Nat.le_trans b2.out.size g3.size) (.cells #[.slice A3 rs.length c3] 26))
      have B3 := Lib.hid ((B2.out.grown g3 (by intro e; injection e with e; omega)).alloc (.cells #[.slice A3 rs.length c3] 26))
      have G3 := Lib.hid ((gi.mono b2.out.size).next ((Below.refl _ _).alloc (Nat.le_refl _) (.cells #[.slice A3 rs.length c3] 26)))
      have X3 := Lib.hid (Blk.new w3 26 #[.slice A3 rs.length c3])
      have hxx : w.heap.size < w3.heap.size := by have := g3.size; have := B2.out.lt; omega
      clear S2 b2 B2 s3 g3 gi
      generalize hw4 : w3.alloc (.cells #[.slice A3 rs.length c3] 26) = w4 at *
      obtain ⟨ls, hls, hlen, hll⟩ := big_lens G3.out.ok
      have HLS := Lib.hid hls
      have hlast := last_word hls
      have Z3 := Lib.hid (wf_sz G3.out.wf)
      have R3 := Lib.hid (Rd.of_own (fun x _ => fac_len x) rfl G3.out.own)
      have OK3 := Lib.hid G3.out.ok
      obtain ⟨v, hv⟩ : ∃ v, lastI ls = v := ⟨_, rfl⟩
      have Hv := Lib.hid hv
      clear hls
      go_wp2_with fail
      refine (l02Ok_any w3.heap.size A3 rs.length c3 rs w4 X3.out.lt (X3.out.cell 0) (by omega) R3.out Z3.out true OK3.out).mono ?_
      rintro e w5 ⟨rfl, hb5⟩
      have S5 := Lib.hid (S3.out.next hb5)
      have b5 := Lib.hid (b3.out.trans (hb5.mono b3.out.size))
      have B5 := Lib.hid (B3.out.next hb5)
      have G5 := Lib.hid (G3.out.next hb5)
      have X5 := Lib.hid (X3.out.next hb5)
      have R5 := Lib.hid (Rd.of_own (fun x _ => fac_len x) rfl G5.out.own)
      clear S3 b3 B3 G3 X3 hb5 hw4 R3
      go_wp2_with fail
      refine (l02Length_any w3.heap.size A3 rs.length c3 rs w5 X5.out.lt (X5.out.cell 0) (by omega) R5.out Z3.out ls HLS.out).mono ?_
      rintro e w6 ⟨rfl, hb6⟩
      have S6 := Lib.hid (S5.out.next hb6)
      have b6 := Lib.hid (b5.out.trans (hb6.mono b5.out.size))
      have B6 := Lib.hid (B5.out.next hb6)
      have G6 := Lib.hid (G5.out.next hb6)
      have X6 := Lib.hid (X5.out.next hb6)
      clear S5 b5 B5 G5 X5 hb6 R5
      rw [Hv.out]
      by_cases hle : v ≤ 250000000000000
      · have hle1 := decide_eq_true hle
        have x0 := X6.out.cell 0
        have xl := X6.out.lt
        have r0 := B6.out.cell 0
        have rf := B6.out.frozen
        have rl := B6.out.lt
        have x8 : (w6.setCell ⟨w.heap.size, 0, none⟩ (.slice A3 rs.length c3)).cell? ⟨w.heap.size, 0, none⟩ = some (.slice A3 rs.length c3) := by rw [(B6.out.set_ 0 (.slice A3 rs.length c3)).cell 0]; rfl
        have b8 := Lib.hid (b6.out.setCell (p := ⟨w.heap.size, 0, none⟩) (Nat.le_refl _) (.slice A3 rs.length c3))
        have O8 := Lib.hid (own_kept' (i := 0) G6.out.own B6.out (by decide) (.slice A3 rs.length c3))
        go_wp2_with fail
        refine bodyPost_ret (v := .agg #[.slice A3 rs.length c3]) (by simp [results, Try.results8, go_sem, x8]) rfl ?_
        exact ⟨A3, c3, rs, rfl, ⟨G6.out.wf, G6.out.pos, G6.out.ok, O8.out⟩, by omega, b8.out⟩
      · have hle1 := decide_eq_false hle
        go_wp2_with fail
        go_roundw
        case rel => exact ⟨i + 1, by go_num, by omega, Lib.hid (S6.out.mono (by omega)), b6, B6⟩
        case measure => simp [intOf]; omega
    · have i1 : ¬ ((i : Int) < 3) := by omega
      go_wp2_with fail
      refine (l02Drawn_any g (3000 * i) 8 wr S2.out (by omega) (by omega) (by omega)).mono ?_
      rintro e w3 ⟨A3, c3, rs, rfl, ok, own3, s3, g3⟩
      have B3 := Lib.hid (B2.out.grown g3 (by intro e; injection e with e; omega))
      have b3 := Lib.hid (b2.out.grown g3 b2.out.size (fun k e => by injection e; omega))
      have O3 := Lib.hid (own_kept' (i := 0) (own3.mono b2.out.size) B3.out (by decide) (.slice A3 rs.length c3))
      have Ok := Lib.hid ok
      have r0 := B3.out.cell 0
      have rf := B3.out.frozen
      have rl := B3.out.lt
      have x8 : (w3.setCell ⟨w.heap.size, 0, none⟩ (.slice A3 rs.length c3)).cell? ⟨w.heap.size, 0, none⟩ = some (.slice A3 rs.length c3) := by rw [(B3.out.set_ 0 (.slice A3 rs.length c3)).cell 0]; rfl
      have b8 := Lib.hid (b3.out.setCell (p := ⟨w.heap.size, 0, none⟩) (Nat.le_refl _) (.slice A3 rs.length c3))
      clear own3 s3 g3 ok
      go_wp2_with fail
      refine bodyPost_ret (v := .agg #[.slice A3 rs.length c3]) (by simp [results, Try.results8, go_sem, x8]) rfl ?_
      exact ⟨A3, c3, rs, rfl, ⟨Ok.out.wf, Ok.out.pos, Ok.out.gok, O3.out⟩, by have := Ok.out.len; omega, b8.out⟩
theorem p6Pick_any (A : Option Addr) (n c : Nat) (bs : List UInt8) (m k : Int) (w : World) (hn : n ≤ 4096) (hr : Rd w w.heap.size A n 1 byteE bs) (hm : m ≤ k) (hk : 1 ≤ k) :
    Calls Try.prog 9 #[.slice A n c, .int .i64 m] w (fun e w' => ∃ v : Int, e = .returned (.int .i64 v) ∧ 0 ≤ v ∧ v < k ∧ Below w.heap.size w w') := by
  go_enter Try.func9, Try.ntmps9
  go_wp2_with fail
  refine (l00From_any A n c bs w hn hr).mono ?_
  rintro e w1 ⟨g, rfl, hg, s1, hb1⟩
  go_wp2_with fail
  refine (pick_any g 0 m k w1 s1 (by omega) hm hk).mono ?_
  rintro e w2 ⟨v, rfl, v0, v1, s2, g2⟩
  go_wp2_with fail
  go_ret
  exact ⟨v, rfl, v0, v1, hb1.grown g2 hb1.size (fun k e => by injection e with e; omega)⟩
/-- the text of one letter -/
def lt1 (l : Nat) : ByteArray := ⟨#[UInt8.ofNat (97 + l)]⟩
set_option maxHeartbeats 1000000 in
theorem text_any (g K X : Nat) (ts : List ByteArray) (n : Nat) (w : World) (h : Src w g K) (hK : K ≤ 10000000) (hX : Blk w X 9 (ts.map Value.string).toArray) (hl : ts.length = n) (h0 : 0 < n) (h1 : n ≤ 200) (hg : g < X) :
    Calls Try.prog 59 #[.pointer (some ⟨g, 0, none⟩), .slice (some ⟨X, 0, none⟩) n n] w (fun e w' => ∃ s : ByteArray, s ∈ ts ∧ e = .returned (.string s) ∧ Src w' g (K + 2) ∧ w.grownBy w' (some g)) := by
  have HX := Lib.hid hX; clear hX
  have HL := Lib.hid hl; clear hl
  go_enter Try.func59, Try.ntmps59
  go_wp2_with fail
  refine (pick_any g K n n w h (by omega) (by omega) (by omega)).mono ?_
  rintro e w1 ⟨v, rfl, v0, v1, s1, g1⟩
  obtain ⟨k, rfl⟩ := Int.eq_ofNat_of_zero_le v0
  have hk : k < ts.length := by rw [HL.out]; omega
  have c0 := (HX.out.grown g1 (by intro e; injection e with e; omega)).cell k
  rw [show (ts.map Value.string).toArray[k]? = some (.string ts[k]) by simp [List.getElem?_eq_getElem hk]] at c0
  have k0 : (0 : Int) ≤ (k : Int) := by omega
  have k1 : (k : Int) < (n : Int) := v1
  go_wp2_with fail
  go_ret
  exact ⟨ts[k], List.getElem_mem hk, rfl, s1, g1⟩
end Go.Proofs.Ytgdbpkpaacbhhaa


/-
  The grammar of a part, in the reference.
-/
namespace Go.Proofs.Ytgdbpkpaacbhhaa
open Go.RowKit

set_option maxHeartbeats 1000000 in
theorem l02Part_any (gb : Nat) (A : Option Addr) (n c : Nat) (rs : List Fac) (i j : Int) (w : World) (hg : gb < w.heap.size) (hc : w.cell? ⟨gb, 0, none⟩ = some (.slice A n c)) (hn : n ≤ 100000000) (hr : Rd w w.heap.size A n 3 Fac.cells rs) (hok : (gOk rs).isSome = true)
    (hi : 0 ≤ i) (hij : i ≤ j) (hj : j ≤ (wdN rs).length) : Calls Try.prog 42 #[.pointer (some ⟨gb, 0, none⟩), .int .i64 i, .int .i64 j] w (Ret (.int .i64 0) w) := by
  obtain ⟨ls, hls, _, _⟩ := big_lens hok
  have hlast := last_word hls
  have HZ := Lib.hid (wf_sz (wf_of hls))
  have HL := Lib.hid (fun W (hb : Below w.heap.size w W) => l02Length_any gb A n c rs W (by have := hb.size; omega) ((hb.cell (p := ⟨gb, 0, none⟩) hg).trans hc) hn (hr.next hb) HZ.out ls hls)
  have HK := Lib.hid (l02Ok_any gb A n c rs w hg hc hn hr HZ.out true hok)
  rw [hlast] at HL
  generalize ((wdN rs).length : Int) = L at *
  have i1 : decide (i < 0) = false := decide_eq_false (by omega)
  have i2 : decide (j < i) = false := decide_eq_false (by omega)
  have i3 : decide (L < j) = false := decide_eq_false (by omega)
  clear hls hlast hok hr hg hc
  go_enter Try.func42, Try.ntmps42
  go_wp2_with fail
  refine HK.out.mono ?_
  rintro e w1 ⟨rfl, hb1⟩
  go_wp2_with fail
  refine (HL.out w1 hb1).mono ?_
  rintro e w2 ⟨rfl, hb2⟩
  go_wp2_with fail
  go_ret
  exact ⟨rfl, hb1.trans (hb2.mono hb1.size)⟩
set_option maxHeartbeats 1000000 in
theorem l02Cut0_any (p : Value) (i : Int) (w : World) : Calls Try.prog 43 #[p, .int .i64 i, .int .i64 i] w (RetG w []) := by
  go_enter Try.func43, Try.ntmps43
  go_wp2_with fail
  exact bodyPost_ret (v := .agg #[.slice none 0 0]) (by simp [results, Try.results43, go_sem]) rfl ⟨none, 0, rfl, World.ownsRow_nil _ _ _ _, by (repeat first | exact Below.refl _ _ | assumption | refine Below.drew ?_ | refine Below.alloc ?_ (by first | exact Nat.le_refl _ | (simp; done) | omega | (simp; omega)) _ | refine Below.setCell ?_ (by first | exact Nat.le_refl _ | (simp; done) | omega | (simp; omega)) _)⟩
set_option maxHeartbeats 2000000 in
set_option maxRecDepth 100000 in
theorem partG_any (A : Option Addr) (n c : Nat) (rs : List Fac) (i j : Int) (w : World) (hr : Rd w w.heap.size A n 3 Fac.cells rs) (hcap : n ≤ c) (hok : (gOk rs).isSome = true)
    (hi : 0 ≤ i) (hij : i ≤ j) (hj : j ≤ (wdN rs).length) : Calls Try.prog 14 #[.agg #[.slice A n c], .int .i64 i, .int .i64 j] w (RetGC w (limF (ptL rs i j)) (limC (ptL rs i j))) := by
  obtain ⟨ls0, hls0⟩ := Option.isSome_iff_exists.1 hok
  obtain ⟨ls, hls, h400, hll⟩ := big_lens hok
  have hlast := last_word hls
  have hn : n ≤ 400 := by have := hr.len; omega
  have HZ := Lib.hid (wf_sz (wf_of hls))
  have HR := Lib.hid hr; clear hr
  obtain ⟨ptw, _, pl⟩ := pt_word hok hi hij hj
  have PW := Lib.hid (wf_sz ptw)
  -- the cut
  obtain ⟨C, hC, hCw, hCl, hpt⟩ : ∃ C, (∀ (W : World), Below w.heap.size w W → Blk W w.heap.size 26 #[.slice A n c] → Calls Try.prog 43 #[.pointer (some ⟨w.heap.size, 0, none⟩), .int .i64 i, .int .i64 j] W (RetG W C)) ∧ WF C ∧ C.length ≤ 1200 ∧ ptL rs i j = trimL C := by
    by_cases h : i < j
    · have hjl : j ≤ lastI ls := by omega
      have hb : lastI ls ≤ 1000000000000000 := by
        unfold lastI
        by_cases h0 : rs.length = 0
        · rw [List.eq_nil_of_length_eq_zero (hll.trans h0)]; show (0 : Int) ≤ _; omega
        · exact (lens_bound hls (i := ls.length - 1) (by omega)).2
      obtain ⟨w1, w2, _⟩ := cut_word hls hll hi h hjl (by omega)
      obtain ⟨hp, k1, k2, _⟩ := covT_ok hls hll hi h hjl
      have hcl := cut_len (rs := rs) (covT ls rs i j) k1
      refine ⟨cutL rs (covT ls rs i j), fun W hb hB => ?_, w1, by omega, by unfold ptL; rw [if_pos h, hls]; rfl⟩
      have e : gOk rs = some ls := by rw [hls0]; congr 1; have := (gOk_lens hls0).1; rw [hls] at this; exact (Option.some.inj this).symm
      exact l02Cut_any w.heap.size A n c rs i j ls W hB.lt (hB.cell 0) (HR.out.next hb) HZ.out hcap e hi h hjl
    · obtain rfl : i = j := by omega
      refine ⟨[], fun W hb hB => l02Cut0_any _ i W, fun k r hr => by simp at hr, by simp, by unfold ptL; rw [if_neg h]; rfl⟩
  rw [hpt] at PW ⊢
  have HC := Lib.hid hC
  have HCW := Lib.hid hCw
  have PT := Lib.hid (fun W (h : Below w.heap.size w W) (hB : Blk W w.heap.size 26 #[.slice A n c]) => l02Part_any w.heap.size A n c rs i j W hB.lt (hB.cell 0) (by omega) (HR.out.next h) hok hi hij hj)
  have hTl : (trimL C).length ≤ 1200 := by rw [← hpt]; exact pl
  clear hC hCw hpt pl ptw hls0 hls hlast hok
  go_enter Try.func14, Try.ntmps14
  go_wp2_with fail
  refine namedC fun w1 H1 => ?_
  have c1 := Lib.hid (show Below w.heap.size w w1 by rw [H1.out]; (repeat first | exact Below.refl _ _ | assumption | refine Below.drew ?_ | refine Below.alloc ?_ (by first | exact Nat.le_refl _ | (simp; done) | omega | (simp; omega)) _ | refine Below.setCell ?_ (by first | exact Nat.le_refl _ | (simp; done) | omega | (simp; omega)) _))
  have BG := Lib.hid (show Blk w1 w.heap.size 26 #[.slice A n c] by rw [H1.out]; exact (Blk.new _ _ _).alloc _)
  have BR := Lib.hid (show Blk w1 (w.heap.size + 1) 26 #[.slice none 0 0] by rw [H1.out]; simpa using Blk.new (w.alloc (.cells #[.slice A n c] 26)) 26 #[.slice none 0 0])
  clear H1
  refine (PT.out w1 c1.out BG.out).mono ?_
  rintro e w2 ⟨rfl, hb2⟩
  have c2 := Lib.hid (c1.out.trans (hb2.mono c1.out.size))
  have BG2 := Lib.hid (BG.out.next hb2)
  have BR2 := Lib.hid (BR.out.next hb2)
  clear c1 BG BR hb2
  go_wp2_with fail
  refine (HC.out w2 c2.out BG2.out).mono ?_
  rintro e w3 ⟨A3, c3, rfl, own3, hb3⟩
  have c3' := Lib.hid (c2.out.trans (hb3.mono c2.out.size))
  have BR3 := Lib.hid (BR2.out.next hb3)
  have O3 := Lib.hid own3
  clear c2 BG2 BR2 own3 hb3
  go_wp2_with fail
  refine namedC fun w4 H4 => ?_
  have c4 := Lib.hid (show Below w.heap.size w w4 by rw [H4.out]; exact c3'.out.alloc c3'.out.size _)
  have BR4 := Lib.hid (show Blk w4 (w.heap.size + 1) 26 #[.slice none 0 0] by rw [H4.out]; exact BR3.out.alloc _)
  have BX4 := Lib.hid (show Blk w4 w3.heap.size 26 #[.slice A3 C.length c3] by rw [H4.out]; exact Blk.new _ _ _)
  have O4 := Lib.hid (show w4.ownsRow w2.heap.size 82 3 (.slice A3 C.length c3) C.length (C.flatMap Fac.cells) by rw [H4.out]; exact O3.out.alloc _)
  clear H4 c3' BR3 O3
  refine (l02Trim_any w3.heap.size A3 C.length c3 C w4 BX4.out.lt (BX4.out.cell 0) (by omega) (Rd.of_own (fun x _ => fac_len x) rfl O4.out) HCW.out).mono ?_
  rintro e w5 ⟨A5, c5, rfl, own5, hb5⟩
  have c5' := Lib.hid (c4.out.trans (hb5.mono c4.out.size))
  have BR5 := Lib.hid (BR4.out.next hb5)
  have O5 := Lib.hid (own5.mono c4.out.size)
  clear c4 BR4 BX4 O4 own5 hb5
  generalize trimL C = J at *
  rcases hok : (gOk J).isSome with _ | _
  · have Hok := Lib.hid hok
    have HF := Lib.hid (show limF J = [] by unfold limF; rw [hok]; rfl)
    have HCc := Lib.hid (show limC J = 3 by unfold limC; rw [hok]; rfl)
    clear hok
    go_wp2_with fail
    refine (l02Told_no A5 J.length c5 J w5 (by omega) (Rd.of_own (fun x _ => fac_len x) rfl O5.out) PW.out Hok.out).mono ?_
    rintro e w7 ⟨rfl, hb7⟩
    have B7 := BR5.out.next hb7
    have b7 := c5'.out.trans (hb7.mono c5'.out.size)
    have r7 := B7.cell 0
    have f7 := B7.frozen
    have l7 := B7.lt
    have x8 : (w7.setCell ⟨w.heap.size + 1, 0, none⟩ (.slice none 0 0)).cell? ⟨w.heap.size + 1, 0, none⟩ = some (.slice none 0 0) := by rw [(B7.set_ 0 (.slice none 0 0)).cell 0]; rfl
    have b8 := b7.setCell (p := ⟨w.heap.size + 1, 0, none⟩) (by simp) (.slice none 0 0)
    clear B7
    go_wp2_with fail
    exact bodyPost_ret (v := .tuple #[.agg #[.slice none 0 0], .int .i64 3]) (by simp [results, Try.results14, go_sem, x8]) rfl ⟨none, 0, by rw [HF.out, HCc.out]; rfl, by rw [HF.out]; exact World.ownsRow_nil _ _ _ _, b8⟩
  · have Hok := Lib.hid hok
    have HF := Lib.hid (show limF J = J by unfold limF; rw [hok]; rfl)
    have HCc := Lib.hid (show limC J = 0 by unfold limC; rw [hok]; rfl)
    clear hok
    go_wp2_with fail
    refine (l02Told_yes A5 J.length c5 J w5 (by omega) (Rd.of_own (fun x _ => fac_len x) rfl O5.out) PW.out Hok.out).mono ?_
    rintro e w7 ⟨rfl, hb7⟩
    have B7 := Lib.hid (BR5.out.next hb7)
    have b7 := c5'.out.trans (hb7.mono c5'.out.size)
    have O7 := Lib.hid (own_next O5.out hb7)
    have r7 := B7.out.cell 0
    have f7 := B7.out.frozen
    have l7 := B7.out.lt
    have x8 : (w7.setCell ⟨w.heap.size + 1, 0, none⟩ (.slice A5 J.length c5)).cell? ⟨w.heap.size + 1, 0, none⟩ = some (.slice A5 J.length c5) := by rw [(B7.out.set_ 0 (.slice A5 J.length c5)).cell 0]; rfl
    have b8 := b7.setCell (p := ⟨w.heap.size + 1, 0, none⟩) (by simp) (.slice A5 J.length c5)
    have O8 := Lib.hid (own_kept' (i := 0) O7.out B7.out (by decide) (.slice A5 J.length c5))
    go_wp2_with fail
    exact bodyPost_ret (v := .tuple #[.agg #[.slice A5 J.length c5], .int .i64 0]) (by simp [results, Try.results14, go_sem, x8]) rfl ⟨A5, c5, by rw [HF.out, HCc.out], by rw [HF.out]; exact O8.out, b8⟩
set_option maxHeartbeats 1000000 in
set_option maxRecDepth 100000 in
theorem p6Weights_any (D : Option Addr) (m d : Nat) (bs : List UInt8) (w : World) (hm : m ≤ 4096) (hd : Rd w w.heap.size D m 1 byteE bs) :
    Calls Try.prog 24 #[.slice D m d] w (fun e w' => ∃ (A : Option Addr) (c : Nat) (zs : List Int), e = .returned (.slice A 4 c) ∧ zs.length = 4 ∧ (∀ z ∈ zs, (-3 : Int) ≤ z ∧ z ≤ 3) ∧ w'.ownsRow w.heap.size 2 1 (.slice A 4 c) 4 (zs.flatMap intE) ∧ Below w.heap.size w w') := by
  go_enter Try.func24, Try.ntmps24
  go_wp2_with fail
  refine (l00From_any D m d bs w hm hd).mono ?_
  rintro e w1 ⟨g, rfl, hg, s1, hb1⟩
  have hg1 := s1.lt
  have O1 := Lib.hid (World.ownsRow_made (base := w1.heap.size) (e := 2) (size := 1) w1 #[] 0 (Nat.le_refl _) (by unfold maxLen; omega) rfl)
  have S1 := Lib.hid (s1.next ((Below.refl _ _).alloc (Nat.le_refl _) (.cells #[] 2)))
  have b1 := Lib.hid (hb1.alloc hb1.size (.cells #[] 2))
  have hz1 := hb1.size
  clear s1
  go_wp2_with fail
  go_loopw [4, 5] (fun o_ k_ w' => ∃ (k : Nat) (A : Option Addr) (c : Nat) (zs : List Int), k_ = .int .i64 k ∧ o_ = .slice A k c ∧ k ≤ 4 ∧ Hid (zs.length = k) ∧ Hid (∀ z ∈ zs, (-3 : Int) ≤ z ∧ z ≤ 3) ∧
      Hid (w'.ownsRow w1.heap.size 2 1 (.slice A k c) k (zs.flatMap intE)) ∧ Hid (Src w' g (2 * k)) ∧ Hid (Below w.heap.size w w') ∧ Hid (w1.heap.size ≤ w'.heap.size)) (fun _ k_ _ => 4 - (intOf k_).toNat)
  case atStart => exact ⟨0, _, 0, [], rfl, rfl, by omega, Lib.hid rfl, Lib.hid (by simp), Lib.hid (by simpa using O1.out), S1, b1, Lib.hid (by simp)⟩
  case round =>
    obtain ⟨k, A, c, zs, rfl, rfl, hk, hzl, hz3, O, S, b, hsz⟩ := hrel
    clear O1 S1 b1
    by_cases hlt : k < 4
    · have k1 : (k : Int) < 4 := by omega
      go_wp2_with fail
      refine (pick_any g (2 * k) 7 7 wr S.out (by omega) (by omega) (by omega)).mono ?_
      rintro e w3 ⟨v, rfl, v0, v1, s3, g3⟩
      have O3 := Lib.hid (own_kept O.out g3 (by omega))
      have S3 := Lib.hid (s3.next ((Below.refl _ _).alloc (Nat.le_refl _) (.cells #[.int .i64 (v - 3)] 2)))
      have b3 := Lib.hid (b.out.grown g3 b.out.size (fun k e => by injection e with e; omega))
      have hs3 := g3.size
      have hsz' := hsz.out
      have uv : IntKind.i64.wrap (v - 3) = v - 3 := IntWalk.i64_in _ (by omega)
      clear s3 g3
      go_wp2_with
        (at_builtin
         refine wpList_pushG rfl _ _ _ rfl w1.heap.size 2 1 8 elem_int intE A k c zs rfl (O3.out.alloc _) w3.heap.size (v - 3) #[.int .i64 (v - 3)] 2 (0, 0) rfl (heap_alloc_new _ _) rfl rfl (by simp [intE, Value.oneCell']) (by omega) (by omega) (by unfold maxLen; omega) (by simp; omega) ?_
         intro A9 c9 w9 own9 hg9 hat9
         have O9 := Lib.hid own9
         have S9 := Lib.hid (S3.out.grown hg9 (fun q hq => by have := own_ge O3.out q hq; omega))
         have b9 := Lib.hid ((b3.out.alloc b3.out.size (.cells #[.int .i64 (v - 3)] 2)).grown hg9 (by have := b3.out.size; simp; omega) (fun q hq => by have := own_ge O3.out q hq; omega))
         have h9 := hg9.size
         clear own9 hg9 hat9)
      go_roundw
      case rel => exact ⟨k + 1, A9, c9, zs ++ [v - 3], by go_num, rfl, by omega, Lib.hid (by rw [List.length_append, hzl.out]; rfl), Lib.hid (fun z hz => by
        rcases List.mem_append.1 hz with hz | hz
        · exact hz3.out z hz
        · rw [List.mem_singleton.1 hz]; omega), O9, Lib.hid (S9.out.mono (by omega)), b9, Lib.hid (by simp at h9; omega)⟩
      case measure => simp [intOf]; omega
    · obtain rfl : k = 4 := by omega
      go_wp2_with fail
      go_ret
      exact ⟨A, c, zs, rfl, hzl.out, hz3.out, O.out.mono hz1, b.out⟩
end Go.Proofs.Ytgdbpkpaacbhhaa


/-
  ClimbAt in the program and in the reference.
-/
namespace Go.Proofs.Ytgdbpkpaacbhhaa
open Go.RowKit

theorem Rd.clt {w : World} {B n : Nat} {A : Option Addr} {xs : List Cl} {k : Nat} (h : Rd w B A n 3 encCl xs) (hk : k < n) :
    ∃ b o, A = some ⟨b, o, none⟩ ∧ b < B ∧ w.cell? ⟨b, o + k * 3, none⟩ = some (.int .i64 (xs.getD k Cl.nil).t) := by
  obtain ⟨b, o, hA, hb, x, hx, hc⟩ := h.at_ hk
  refine ⟨b, o, hA, hb, ?_⟩
  rw [show xs.getD k Cl.nil = x by rw [List.getD_eq_getElem?_getD, hx]; rfl]
  exact hc 0 _ rfl
set_option maxHeartbeats 1000000 in
set_option maxRecDepth 100000 in
theorem climbAt1_any (k : Nat) (o : Int) (ob lb : Nat) (A3 : Option Addr) (n3 c3 : Nat) (cs : List Cl) (w : World) (hob : Blk w ob 2 #[.int .i64 o]) (hlb : Blk w lb 100 #[.slice A3 n3 c3])
    (hC : Rd w w.heap.size A3 n3 3 encCl cs) (hk : k < n3) :
    Calls Try.prog 74 #[.int .i64 (k : Int), .pointer (some ⟨ob, 0, none⟩), .pointer (some ⟨lb, 0, none⟩)] w (fun e w' => e = .returned (.tuple #[]) ∧ w.grownBy w' (some ob) ∧ Blk w' ob 2 #[.int .i64 (wrap64 (o + (cs.getD k Cl.nil).t))]) := by
  obtain ⟨p3, o3, rfl, hB3, e3⟩ := hC.clt (k := k) (by omega)
  have d0 := hob.cell 0
  have z0 := hob.lt
  have f0 := hob.frozen 0
  have d1 := hlb.cell 0
  have z1 := hlb.lt
  generalize (cs.getD k Cl.nil).t = v at *
  have i2 : (0 : Int) ≤ (k : Int) := by omega
  have i3 : (k : Int) < n3 := by omega
  have HB := Lib.hid hob
  clear hob hlb hC
  go_enter Try.func74, Try.ntmps74
  go_wp2_with fail
  go_region
  generalize hW : (w.setCell ⟨ob, 0, none⟩ (.int .i64 (wrap64 (o + v)))).drew = w8
  have H8 := Lib.hid hW.symm; clear hW
  go_wp2_with fail
  go_end0
  refine ⟨rfl, ?_, ?_⟩
  · rw [H8.out]; exact gb_trans (gb_set w ob 0 _) (gb_below (Below.refl _ _).drew)
  · rw [H8.out]; exact HB.out.set_ 0 _
set_option maxHeartbeats 2000000 in
set_option maxRecDepth 100000 in
theorem implClimbA_any (A : Option Addr) (n c : Nat) (rs : List Fac) (D : Option Addr) (m d : Nat) (zs : List Int) (z : Int) (w : World) (hn : n ≤ 1048576) (hr : Rd w w.heap.size A n 3 Fac.cells rs)
    (hok : ∀ f ∈ rs, f.l.size ≤ maxLen) (hm : m ≤ 1048576) (hd : Rd w w.heap.size D m 1 intE zs) (_hz : -9223372036854775808 ≤ z ∧ z ≤ 9223372036854775807) :
    Calls Try.prog 27 #[.agg #[.slice A n c], .slice D m d, .int .i64 z] w (Ret (claV rs zs z) w) := by
  have hb0 : Below w.heap.size w (w.alloc (.cells #[.slice A n c] 26)) := by (repeat first | exact Below.refl _ _ | assumption | refine Below.drew ?_ | refine Below.alloc ?_ (by first | exact Nat.le_refl _ | (simp; done) | omega | (simp; omega)) _ | refine Below.setCell ?_ (by first | exact Nat.le_refl _ | (simp; done) | omega | (simp; omega)) _)
  have hB0 := Lib.hid (Blk.new w 26 #[.slice A n c])
  have hl := Lib.hid hr.len
  have HR := Lib.hid hr; clear hr
  have HD := Lib.hid hd; clear hd
  have HO := Lib.hid hok; clear hok
  have HC := Lib.hid (wsC_cases rs zs)
  go_enter Try.func27, Try.ntmps27
  go_wp2_with fail
  refine (climbCode_any A n c rs D m d zs _ hn (HR.out.next hb0) HO.out hm (HD.out.next hb0)).mono ?_
  rintro e1 w1 ⟨rfl, hb1⟩
  have b1 := hb0.trans (hb1.mono hb0.size)
  have B1 := Lib.hid (hB0.out.next hb1)
  have cg1 := B1.out.cell 0
  have lg1 := B1.out.lt
  go_wp2_with fail
  refine (lengths_any A n c rs w1 (by have := hl.out; omega) (HR.out.next b1) HO.out).mono ?_
  rintro e w2 ⟨hb2, hpost⟩
  have b2 := b1.trans (hb2.mono b1.size)
  have B2 := Lib.hid (B1.out.next hb2)
  clear cg1 lg1
  rcases HC.out with ⟨h1, h2⟩ | ⟨h1, h2, h3, h4⟩
  · have e0 : (wsC rs zs != 0) = true := by simpa using h1
    have e0' : (wsC rs zs == 0) = false := by simpa using h1
    have e := Lib.hid (claV1 (m := z) h1)
    generalize wsC rs zs = k at *
    clear h1 h2 HC
    rcases hpost with ⟨ls', A2, c2, hg2, rfl, hown2⟩ | ⟨hg2, A', n', c', rfl⟩
    all_goals
      clear hg2
      try clear hown2
      go_wp2_with fail
      go_ret2
      exact ⟨by rw [e.out]; rfl, b2⟩
  have H1 := Lib.hid h1
  obtain ⟨ls, hls⟩ := Option.isSome_iff_exists.1 h2
  have Hk := Lib.hid hls
  have HL := Lib.hid (gOk_lens hls).1
  have hll := Lib.hid ((gOk_lens hls).2.2.trans hl.out)
  have hlb := lastI_bound (gOk_lens hls).1 (gOk_lens hls).2.2
  have hn4 : n ≤ 400 := by have := (gOk_lens hls).2.1; have := hl.out; omega
  have HWs := Lib.hid h3
  rw [h1]
  obtain rfl : m = 4 := by have := h3.1; have := HD.out.len; omega
  clear h1 h2 h3 h4 HC hls
  rcases hpost with ⟨ls', A2, c2, hg2, rfl, hown2⟩ | ⟨hg2, _⟩
  case inr => exact absurd (hg2.symm.trans Hk.out) (by simp)
  obtain rfl : ls' = ls := Option.some.inj (hg2.symm.trans Hk.out)
  have r2 := Lib.hid (Rd.of_own (enc := intE) (fun _ _ => rfl) rfl hown2)
  rw [hll.out] at r2 ⊢
  clear hown2 hg2
  go_wp2_with fail
  refine (last_any A2 n c2 ls' w2 (by omega) r2.out).mono ?_
  rintro e w3 ⟨rfl, hb3⟩
  have b3 := b2.trans (hb3.mono b2.size)
  rcases h3 : inB z 0 (lastI ls') with _ | _
  · have e := Lib.hid (claV2 HL.out H1.out h3)
    have H3 := Lib.hid h3; clear h3
    go_wp2_with fail
    refine (within_any z 0 (lastI ls') false _ H3.out).mono ?_
    rintro e1 w5 ⟨rfl, hb5⟩
    go_wp2_with fail
    go_ret2
    exact ⟨by rw [e.out]; rfl, b3.trans (hb5.mono b3.size)⟩
  have e := Lib.hid (claV3 HL.out H1.out h3)
  have hm' : 0 ≤ z ∧ z ≤ lastI ls' := by simpa [inB] using h3
  obtain ⟨n1, n2⟩ := hm'
  have H3 := Lib.hid h3; clear h3
  go_wp2_with fail
  refine (within_any z 0 (lastI ls') true _ H3.out).mono ?_
  rintro e1 w5 ⟨rfl, hb5⟩
  have hb25 := hb3.trans (hb5.mono hb3.size)
  have b5 := b3.trans (hb5.mono b3.size)
  have B5 := Lib.hid (B2.out.next hb25)
  have cg5 := B5.out.cell 0
  have lg5 := B5.out.lt
  go_wp2_with fail
  refine (climbs_any A n c rs D d zs ls' w5 hn (HR.out.next b5) HL.out HWs.out (HD.out.next b5)).mono ?_
  rintro e1 w6 ⟨A6, c6, rfl, own6, hb6⟩
  have b6 := b5.trans (hb6.mono b5.size)
  have hb26 := hb25.trans (hb6.mono hb25.size)
  have r6 := Lib.hid (Rd.of_own (fun y _ => lenCl y) rfl own6)
  generalize hN : (foldAll Cl.nil (climF zs) climG Cl.nil rs).length = N at *
  have HN := Lib.hid hN; clear hN own6
  have cg6 := (B5.out.next hb6).cell 0
  have lg6 := (B5.out.next hb6).lt
  clear cg5 lg5
  go_wp2_with fail
  refine namedC fun w7 H7 => ?_
  have hb7 : Below w6.heap.size w6 w7 := by rw [H7.out]; (repeat first | exact Below.refl _ _ | assumption | refine Below.drew ?_ | refine Below.alloc ?_ (by first | exact Nat.le_refl _ | (simp; done) | omega | (simp; omega)) _ | refine Below.setCell ?_ (by first | exact Nat.le_refl _ | (simp; done) | omega | (simp; omega)) _)
  have BL := Lib.hid (show Blk w7 w6.heap.size 100 #[.slice A6 N c6] by rw [H7.out]; exact (Blk.new w6 _ _).alloc _)
  have BO := Lib.hid (show Blk w7 (w6.heap.size + 1) 2 #[.int .i64 0] by rw [H7.out]; simpa using Blk.new (w6.alloc _) _ _)
  clear H7
  have hfw := Lib.hid (fold_pcsT HL.out n1 (by omega) (clV_bound HL.out HWs.out) (by omega))
  have hp := pieces_any (fun (s : Int) (w' : World) => Blk w' (w6.heap.size + 1) 2 #[.int .i64 s] ∧ Blk w' w6.heap.size 100 #[.slice A6 N c6] ∧ Rd w' w6.heap.size A6 N 3 encCl (foldAll Cl.nil (climF zs) climG Cl.nil rs))
    (fun s k => wrap64 (s + clV zs rs k)) (fun s wa wb h hb => ⟨h.1.next hb, h.2.1.next hb, h.2.2.next' (by have := h.2.1.lt; omega) hb⟩)
    w6.heap.size (w6.heap.size + 1) w7.heap.size (by omega) BO.out.lt A n c rs A2 c2 ls' 0 z 74 (enterOk Try.func74 (by kernel_rfl) (by kernel_rfl)) #[.pointer (some ⟨w6.heap.size + 1, 0, none⟩), .pointer (some ⟨w6.heap.size, 0, none⟩)] hn HL.out
    (fun s k wa hk h => by
      have hfa := foldAll_pos Cl.nil (climF zs) climG Cl.nil (rs := rs) (by have := hl.out; omega)
      have hNn : N = n := by rw [← HN.out, hfa, full_len]; exact hl.out
      have hr3 := h.2.2.more (B' := wa.heap.size) (by have := h.2.1.lt; omega)
      rw [hfa] at hr3
      have hc := climbAt1_any k s (w6.heap.size + 1) w6.heap.size A6 N c6 (clim zs rs) wa h.1 h.2.1 hr3 (by omega)
      refine (by simpa using hc : Calls _ _ _ _ _).mono ?_
      rintro e w' ⟨rfl, hg, hB⟩
      refine ⟨rfl, hg, hB, h.2.1.grown hg (by intro e; injection e with e; omega), h.2.2.grown (by have := h.2.1.lt; omega) hg (fun k hk => by injection hk with hk; omega)⟩)
    0 w7 rfl ((HR.out.next b6).below hb7) ((r2.out.next hb26).below hb7) ⟨BO.out, BL.out, r6.out.below hb7⟩
  refine hp.mono ?_
  rintro e w8 ⟨rfl, hg8, hB1, hB2, hB3⟩
  rw [hfw.out] at hB1
  generalize rkT (clV zs rs) ls' rs z = y at *
  have d0 := hB1.cell 0
  have z0 := hB1.lt
  have G8 := Lib.hid hg8
  clear hg8 hB1 hB2 hB3 hp
  go_wp2_with fail
  go_ret2
  have b7 := b6.trans (hb7.mono b6.size)
  have hz6 := b6.size
  exact ⟨by rw [e.out]; rfl, b7.grown G8.out b7.size (fun k hk => by injection hk with hk; omega)⟩
def clS (ws : List Int) (ls : List Int) (rs : List Fac) (z : Int) : Nat → Int
  | 0 => 0
  | l + 1 => clS ws ls rs z l + ws.getD l 0 * rkT (rkV rs l) ls rs z
theorem clS_four (ws : List Int) {ls : List Int} {rs : List Fac} (hls : gLens rs [] = some ls) (z : Int) : rkT (clV ws rs) ls rs z = clS ws ls rs z 4 := by
  rw [rkT_clim ws hls z]
  simp only [clS, Int.zero_add]
theorem rkT_b' {rs : List Fac} {ls : List Int} (hls : gLens rs [] = some ls) (l : Nat) {m : Int} (hm : 0 ≤ m) : -m ≤ rkT (rkV rs l) ls rs m ∧ rkT (rkV rs l) ls rs m ≤ m := by
  unfold rkT
  by_cases h0 : rs.length = 0
  · rw [if_pos h0]; omega
  rw [if_neg h0]
  have a := rk_bound hls (c := 1) (by omega) (rkV_bound hls l) rs.length (rs.length - 1) m (by omega) hm
  omega
theorem mul9 {a b m : Int} (h0 : -9 ≤ a) (h1 : a ≤ 9) (h2 : -m ≤ b) (h3 : b ≤ m) : -(9 * m) ≤ a * b ∧ a * b ≤ 9 * m := by
  rcases (show a = -9 ∨ a = -8 ∨ a = -7 ∨ a = -6 ∨ a = -5 ∨ a = -4 ∨ a = -3 ∨ a = -2 ∨ a = -1 ∨ a = 0 ∨ a = 1 ∨ a = 2 ∨ a = 3 ∨ a = 4 ∨ a = 5 ∨ a = 6 ∨ a = 7 ∨ a = 8 ∨ a = 9 by omega) with rfl | rfl | rfl | rfl | rfl | rfl | rfl | rfl | rfl | rfl | rfl | rfl | rfl | rfl | rfl | rfl | rfl | rfl | rfl <;> omega
theorem clS_b {ws : List Int} {ls : List Int} {rs : List Fac} (hls : gLens rs [] = some ls) (hws : WsOk ws) {z : Int} (hz : 0 ≤ z) : ∀ l, l ≤ 4 → -(9 * z) * l ≤ clS ws ls rs z l ∧ clS ws ls rs z l ≤ 9 * z * l
  | 0, _ => by simp [clS]
  | l + 1, h => by
    have i1 := clS_b hls hws hz l (by omega)
    have i2 := hws.at_ l (by omega)
    have i3 := rkT_b' hls l hz
    have i4 := mul9 i2.1 i2.2 i3.1 i3.2
    rw [show ((l + 1 : Nat) : Int) = (l : Int) + 1 by omega, Int.mul_add, Int.mul_add]
    unfold clS
    omega
set_option maxHeartbeats 4000000 in
set_option maxRecDepth 100000 in
theorem specClimbA_any (A : Option Addr) (n c : Nat) (rs : List Fac) (D : Option Addr) (m d : Nat) (zs : List Int) (z : Int) (w : World) (hn : n ≤ 1048576) (hr : Rd w w.heap.size A n 3 Fac.cells rs)
    (hok : ∀ f ∈ rs, f.l.size ≤ maxLen) (hm : m ≤ 1048576) (hd : Rd w w.heap.size D m 1 intE zs) (_hz : -9223372036854775808 ≤ z ∧ z ≤ 9223372036854775807) :
    Calls Try.prog 28 #[.agg #[.slice A n c], .slice D m d, .int .i64 z] w (Ret (claV rs zs z) w) := by
  have hb0 : Below w.heap.size w (w.alloc (.cells #[.slice A n c] 26)) := by (repeat first | exact Below.refl _ _ | assumption | refine Below.drew ?_ | refine Below.alloc ?_ (by first | exact Nat.le_refl _ | (simp; done) | omega | (simp; omega)) _ | refine Below.setCell ?_ (by first | exact Nat.le_refl _ | (simp; done) | omega | (simp; omega)) _)
  have hB0 := Lib.hid (Blk.new w 26 #[.slice A n c])
  have hl := Lib.hid hr.len
  have HR := Lib.hid hr; clear hr
  have HD := Lib.hid hd; clear hd
  have HO := Lib.hid hok; clear hok
  have HC := Lib.hid (wsC_cases rs zs)
  go_enter Try.func28, Try.ntmps28
  go_wp2_with fail
  refine (l05Weights_any w.heap.size A n c rs D m d zs _ hB0.out.lt (hB0.out.cell 0) hn (HR.out.next hb0) HO.out hm (HD.out.next hb0)).mono ?_
  rintro e1 w1 ⟨rfl, hb1⟩
  have b1 := hb0.trans (hb1.mono hb0.size)
  have B1 := Lib.hid (hB0.out.next hb1)
  rcases HC.out with ⟨h1, h2⟩ | ⟨h1, h2, h3, h4⟩
  · have e0 : (wsC rs zs != 0) = true := by simpa using h1
    have e := Lib.hid (claV1 (m := z) h1)
    generalize wsC rs zs = k at *
    clear h1 h2 HC
    go_wp2_with fail
    go_ret2
    exact ⟨by rw [e.out]; rfl, b1⟩
  have H1 := Lib.hid h1
  obtain ⟨ls, hls⟩ := Option.isSome_iff_exists.1 h2
  have Hk := Lib.hid hls
  have HL := Lib.hid (gOk_lens hls).1
  have hll0 := Lib.hid (gOk_lens hls).2.2
  have hll := Lib.hid ((gOk_lens hls).2.2.trans hl.out)
  have hlb := lastI_bound (gOk_lens hls).1 (gOk_lens hls).2.2
  have hn4 : n ≤ 400 := by have := (gOk_lens hls).2.1; have := hl.out; omega
  have HWs := Lib.hid h3
  rw [h1]
  obtain rfl : m = 4 := by have := h3.1; have := HD.out.len; omega
  clear h1 h2 h3 h4 HC hls
  go_wp2_with fail
  refine (l02Length_any w.heap.size A n c rs w1 B1.out.lt (B1.out.cell 0) (by omega) (HR.out.next b1) HO.out ls HL.out).mono ?_
  rintro e1 w4 ⟨rfl, hb4⟩
  have b4 := b1.trans (hb4.mono b1.size)
  have B4 := Lib.hid (B1.out.next hb4)
  rcases h3 : inB z 0 (lastI ls) with _ | _
  · have e := Lib.hid (claV2 HL.out H1.out h3)
    have H3 := Lib.hid h3; clear h3
    go_wp2_with fail
    refine (specIn_any z 0 (lastI ls) false _ H3.out).mono ?_
    rintro e1 w5 ⟨rfl, hb5⟩
    go_wp2_with fail
    go_ret2
    exact ⟨by rw [e.out]; rfl, b4.trans (hb5.mono b4.size)⟩
  have e := Lib.hid ((claV3 HL.out H1.out h3).trans (congrArg (fun t => tup2 t 0) (clS_four zs HL.out z)))
  have hm' : 0 ≤ z ∧ z ≤ lastI ls := by simpa [inB] using h3
  obtain ⟨n1, n2⟩ := hm'
  have H3 := Lib.hid h3; clear h3
  go_wp2_with fail
  refine (specIn_any z 0 (lastI ls) true _ H3.out).mono ?_
  rintro e1 w5 ⟨rfl, hb5⟩
  have b5 := b4.trans (hb5.mono b4.size)
  have B5 := Lib.hid (B4.out.next hb5)
  have cg5 := B5.out.cell 0
  have lg5 := B5.out.lt
  go_wp2_with fail
  refine (l02Lengths_any w.heap.size A n c rs w5 lg5 cg5 (by omega) (HR.out.next b5) HO.out).mono ?_
  rintro e1 w8 ⟨hb8, ⟨ls', A2, c2, hg2, rfl, hown2⟩ | ⟨hg2, _⟩⟩
  case inr => exact absurd (hg2.symm.trans Hk.out) (by simp)
  obtain rfl : ls' = ls := Option.some.inj (hg2.symm.trans Hk.out)
  have r8 := Lib.hid (Rd.of_own (enc := intE) (fun _ _ => rfl) rfl hown2)
  rw [hll.out] at r8 ⊢
  have b8 := b5.trans (hb8.mono b5.size)
  have B8 := Lib.hid (B5.out.next hb8)
  have cg8 := B8.out.cell 0
  have lg8 := B8.out.lt
  clear cg5 lg5 hown2 hg2
  go_wp2_with fail
  refine (l05Counts_any w.heap.size A n c rs ls' w8 lg8 cg8 hn (HR.out.next b8) HL.out).mono ?_
  rintro e1 w9 ⟨A5, c5, gs, rfl, own5, rows5, hb9⟩
  have hcl := Lib.hid ((full_len Q4.nil cntF cntG (rs := rs)).trans hl.out)
  rw [hcl.out] at own5 ⊢
  have T9 := Lib.hid (Tab.of hcl.out own5 rows5)
  have b9 := b8.trans (hb9.mono b8.size)
  have B9 := Lib.hid (B8.out.next hb9)
  have r9 := Lib.hid (r8.out.next hb9)
  have R9 := Lib.hid (HR.out.next b9)
  have D9 := Lib.hid (HD.out.next b9)
  clear cg8 lg8 own5 rows5
  go_wp2_with fail
  go_loopw [12, 13] (fun s_ l_ w' => ∃ (l : Nat), l_ = .int .i64 l ∧ s_ = .int .i64 (clS zs ls' rs z l) ∧ l ≤ 4 ∧ Below w9.heap.size w9 w') (fun _ l_ _ => 4 - (intOf l_).toNat)
  case atStart => exact ⟨0, rfl, rfl, by omega, Below.refl _ _⟩
  case round =>
    obtain ⟨l, rfl, rfl, hl4, hb⟩ := hrel
    by_cases hlt : l < 4
    · have hd : Below wr.heap.size wr wr.drew := (Below.refl _ _).drew
      have hbd := hb.trans (hd.mono hb.size)
      have hrnk := Lib.hid (l05Rank_any w.heap.size A n c rs A2 c2 A5 c5 ls' l z wr.drew (B9.out.next hbd).lt ((B9.out.next hbd).cell 0) hn (R9.out.next hbd) HL.out hll0.out (r9.out.next hbd) (T9.out.next hbd) hlt n1 n2)
      obtain ⟨p, o, rfl, hp, c0⟩ := (D9.out.next hb).i64 (k := l) (by omega)
      have eS := Lib.hid (show clS zs ls' rs z (l + 1) = clS zs ls' rs z l + zs.getD l 0 * rkT (rkV rs l) ls' rs z from rfl)
      have i1 := clS_b HL.out HWs.out n1 l (by omega)
      have i2 := HWs.out.at_ l hlt
      have i3 := rkT_b' HL.out l n1
      have i4 := mul9 i2.1 i2.2 i3.1 i3.2
      have i5 := clS_b HL.out HWs.out n1 (l + 1) (by omega)
      rw [eS.out] at i5
      have j1 : -(9 * z) * (l : Int) = -(9 * z * l) := Int.neg_mul _ _
      have j2 : -(9 * z) * ((l + 1 : Nat) : Int) = -(9 * z * ((l + 1 : Nat) : Int)) := Int.neg_mul _ _
      have j3 : 9 * z * ((l + 1 : Nat) : Int) ≤ 36000000000000000 := by
        rcases (show l = 0 ∨ l = 1 ∨ l = 2 ∨ l = 3 by omega) with rfl | rfl | rfl | rfl <;> omega
      rw [j2] at i5
      generalize 9 * z * ((l + 1 : Nat) : Int) = bnd at *
      generalize zs.getD l 0 = u at *
      generalize clS zs ls' rs z l = acc at *
      generalize rkT (rkV rs l) ls' rs z = y at *
      have u1 : IntKind.i64.wrap (u * y) = u * y := IntWalk.i64_in _ (by clear i1 j1; omega)
      have u2 : IntKind.i64.wrap (acc + u * y) = acc + u * y := IntWalk.i64_in _ (by clear i1 j1 u1; omega)
      have k1 : (0 : Int) ≤ (l : Int) := by omega
      have k2 : (l : Int) < 4 := by omega
      clear i1 i2 i3 i4 i5 j1 j2 j3
      go_wp2_with fail
      go_region_held3 (fun w' => w'.cell? ⟨p, o + l, none⟩ = some (.int .i64 u))
        (first | exact s0 | exact c0 | go_keep)
        (first
          | (go_at_call 77
             refine hrnk.out.mono ?_
             rintro e2 w10 ⟨rfl, hb10⟩
             have b10 : Below wr.heap.size wr w10 := hd.trans (hb10.mono hd.size)
             have s0 : w10.cell? ⟨p, o + l, none⟩ = some (.int .i64 u) := (b10.cell (p := ⟨p, o + l, none⟩) hp).trans c0)
          | fail)
      all_goals
        clear u1 u2
        go_wp2_with fail
        go_roundw
        case rel => exact ⟨l + 1, by go_num, by rw [eS.out], by omega, hb.trans (b10.mono hb.size)⟩
        case measure => simp [intOf]; omega
    · obtain rfl : l = 4 := by omega
      go_wp2_with fail
      go_ret2
      exact ⟨by rw [e.out]; rfl, b9.trans (hb.mono b9.size)⟩
end Go.Proofs.Ytgdbpkpaacbhhaa


/-
  Heights: what is told of them, and the least height of a beginning.
-/
namespace Go.Proofs.Ytgdbpkpaacbhhaa
open Go.RowKit

theorem ht_b {ws : List Int} (hw : ∀ z ∈ ws, (-3 : Int) ≤ z ∧ z ≤ 3) : ∀ u : List Nat, -(3 * (u.length : Int)) ≤ ht ws u ∧ ht ws u ≤ 3 * u.length
  | [] => by rw [ht_nil]; simp
  | x :: r => by
    have ih := ht_b hw r
    have e : ht ws (x :: r) = ht ws [x] + ht ws r := by rw [show x :: r = [x] ++ r from rfl, ht_app]
    have e2 : ht ws [x] = ws.getD x 0 := by unfold ht; rw [climL_one]; rfl
    have e3 : (-3 : Int) ≤ ws.getD x 0 ∧ ws.getD x 0 ≤ 3 := by
      rw [List.getD_eq_getElem?_getD]
      cases h : ws[x]? with
      | none => simp
      | some z => exact hw z (List.mem_of_getElem? h)
    rw [e, e2, List.length_cons]
    omega
theorem lo_b {ws : List Int} (hw : ∀ z ∈ ws, (-3 : Int) ≤ z ∧ z ≤ 3) (u : List Nat) : -(3 * (u.length : Int)) ≤ lo ws u ∧ lo ws u ≤ 0 := by
  refine ⟨?_, (climL_ok ws u).l0⟩
  have h := lo_ge ws u (z := -(3 * (u.length : Int))) u.length (Nat.le_refl _) (fun i hi => by
    have := (ht_b hw (u.take i)).1
    rw [List.length_take] at this
    omega)
  rwa [List.take_length] at h
theorem ws_ok {ws : List Int} (hl : ws.length = 4) (hw : ∀ z ∈ ws, (-3 : Int) ≤ z ∧ z ≤ 3) {rs : List Fac} (hg : (gOk rs).isSome = true) : wsC rs ws = 0 := by
  unfold wsC
  have hb : wsB ws = true := by
    unfold wsB
    rw [hl]
    simp only [decide_true, Bool.true_and, List.all_eq_true]
    intro z hz
    have := hw z hz
    unfold inB; simp; omega
  rw [if_neg (by rw [hg]; decide), if_neg (by rw [hb]; decide)]
section
variable {rs : List Fac} {ws : List Int}
theorem cloV_word (hg : (gOk rs).isSome = true) (hw : wsC rs ws = 0) : cloV rs ws = .tuple #[.agg #[.int .i64 (ht ws (wdN rs)), .int .i64 (lo ws (wdN rs)), .int .i64 (climL ws (wdN rs)).h], .int .i64 0] := by
  obtain ⟨ls, hls, _, _⟩ := big_lens hg
  unfold cloV cloT
  rw [hw, if_pos rfl, climT_word (wf_of hls)]; rfl
theorem claV_word (hg : (gOk rs).isSome = true) (hw : wsC rs ws = 0) {m : Int} (h0 : 0 ≤ m) (h1 : m ≤ (wdN rs).length) : claV rs ws m = tup2 (ht ws ((wdN rs).take m.toNat)) 0 := by
  obtain ⟨ls, hls, _, _⟩ := big_lens hg
  have hlast := last_word hls
  rw [claV3 hls hw (by unfold inB; rw [hlast]; simp; omega), cla_word hls]
/-- the first place below a bound -/
theorem belV_word (hg : (gOk rs).isSome = true) (hw : wsC rs ws = 0) {z : Int} (h : lo ws (wdN rs) < z) :
    ∃ j : Nat, belV rs ws z = tup2 (j : Int) 0 ∧ j ≤ (wdN rs).length ∧ ht ws ((wdN rs).take j) < z ∧ ∀ i, i < j → z ≤ ht ws ((wdN rs).take i) := by
  unfold belV
  rw [if_pos hw]
  by_cases h0 : 0 < z
  · rw [if_pos h0]
    exact ⟨0, rfl, by omega, by rw [List.take_zero, ht_nil]; exact h0, fun i hi => by omega⟩
  · obtain ⟨ls, hls, _, _⟩ := big_lens hg
    rw [if_neg h0, if_neg (by rw [climT_word (wf_of hls)]; show ¬ z ≤ lo ws (wdN rs); omega)]
    obtain ⟨j, e1, _, e3, e4, e5⟩ := bel_word hg (ws := ws) (z := z) (by omega) h
    exact ⟨j, by rw [e1], e3, e4, e5⟩
theorem belV_none (hg : (gOk rs).isSome = true) (hw : wsC rs ws = 0) : belV rs ws (lo ws (wdN rs)) = tup2 0 6 := by
  obtain ⟨ls, hls, _, _⟩ := big_lens hg
  have h0 := (climL_ok ws (wdN rs)).l0
  unfold belV
  rw [if_pos hw, if_neg (by show ¬ 0 < lo ws (wdN rs); unfold lo; omega), if_pos (by rw [climT_word (wf_of hls)]; exact Int.le_refl _)]
end
set_option maxHeartbeats 2000000 in
set_option maxRecDepth 100000 in
theorem f6low_any (A : Option Addr) (n c : Nat) (rs : List Fac) (Aw : Option Addr) (cw : Nat) (zs : List Int) (j : Nat) (z : Int) (w : World) (hr : Rd w w.heap.size A n 3 Fac.cells rs) (hcap : n ≤ c) (hok : (gOk rs).isSome = true)
    (hw : Rd w w.heap.size Aw 4 1 intE zs) (hl : zs.length = 4) (hz : ∀ z ∈ zs, (-3 : Int) ≤ z ∧ z ≤ 3) (j0 : 0 < j) (hj : j ≤ (wdN rs).length) (hmin : ∀ i, i < j → z ≤ ht zs ((wdN rs).take i)) (hzb : z ≤ 1000000000000000000) :
    Calls Try.prog 30 #[.agg #[.slice A n c], .slice Aw 4 cw, .int .i64 (j : Int)] w (fun e w' => ∃ r : Int, e = .returned (.int .i64 r) ∧ z ≤ r ∧ Below w.heap.size w w') := by
  have hlo : z ≤ lo zs (((wdN rs).take ((j : Int) - 1).toNat).drop (0 : Int).toNat) := by
    have h := lo_ge zs (wdN rs) (z := z) (j - 1) (by omega) (fun i hi => hmin i (by omega))
    rw [show ((j : Int) - 1).toNat = j - 1 by omega]
    exact h
  have hjl : (j : Int) ≤ 1000000000000000 := by
    obtain ⟨ls, hls, _, hll⟩ := big_lens hok
    have := last_word hls
    have : lastI ls ≤ 1000000000000000 := by
      unfold lastI
      by_cases h0 : rs.length = 0
      · rw [List.eq_nil_of_length_eq_zero (hll.trans h0)]; show (0 : Int) ≤ _; omega
      · exact (lens_bound hls (i := ls.length - 1) (by omega)).2
    omega
  have PA := Lib.hid (fun W (h : Below w.heap.size w W) => partG_any A n c rs 0 ((j : Int) - 1) W (hr.next h) hcap hok (by omega) (by omega) (by omega))
  obtain ⟨ptw, ptu, ptl⟩ := pt_word hok (i := 0) (j := (j : Int) - 1) (by omega) (by omega) (by omega)
  rw [← ptu] at hlo
  have HW := Lib.hid (fun W (h : Below w.heap.size w W) => hw.next h)
  have HT := Lib.hid ptw
  unfold RetGC at PA
  have uj : IntKind.i64.wrap ((j : Int) - 1) = (j : Int) - 1 := IntWalk.i64_in _ (by omega)
  clear hr hw ptu hmin hj
  generalize ptL rs 0 ((j : Int) - 1) = T at *
  have CO := Lib.hid (fun (T' : List Fac) (A' : Option Addr) (c' : Nat) W (h : Below w.heap.size w W) (hT : T'.length ≤ 1048576) (hr : Rd W W.heap.size A' T'.length 3 Fac.cells T') (hwf : WF T') => specClimbO_any A' T'.length c' T' Aw 4 cw zs W hT hr (wf_sz hwf) (by omega) (HW.out W h))
  rcases hg : (gOk T).isSome with _ | _
  · have hF : limF T = [] := by unfold limF; rw [hg]; rfl
    have hC : limC T = 3 := by unfold limC; rw [hg]; rfl
    rw [hF, hC] at PA
    have e0 : (gOk ([] : List Fac)).isSome = true := rfl
    have CV := Lib.hid (cloV_word (rs := []) (ws := zs) e0 (ws_ok hl hz e0))
    clear hF hC hg hlo
    go_enter Try.func30, Try.ntmps30
    go_wp2_with fail
    refine (PA.out _ ((Below.refl _ _).alloc (Nat.le_refl _) _)).mono ?_
    rintro e w1 ⟨A1, c1, rfl, own1, hb1⟩
    have b1 := Lib.hid (((Below.refl w.heap.size w).alloc (Nat.le_refl _) (.cells #[.slice A n c] 26)).trans (hb1.mono (by simp)))
    have O1 := Lib.hid own1
    clear own1 hb1
    go_wp2_with fail
    refine namedC fun w2 H2 => ?_
    have b2 := Lib.hid (show Below w.heap.size w w2 by rw [H2.out]; exact b1.out.alloc b1.out.size _)
    have O2 := Lib.hid (Rd.of_own (fun x _ => fac_len x) rfl (show w2.ownsRow _ 82 3 (.slice A1 ([] : List Fac).length c1) ([] : List Fac).length (([] : List Fac).flatMap Fac.cells) by rw [H2.out]; exact O1.out.alloc _))
    clear H2 O1 b1
    have CC := CO.out [] A1 c1 w2 b2.out (by simp) O2.out (fun k r hr => by simp at hr)
    rw [CV.out] at CC
    have CH := Lib.hid CC
    clear CC
    refine CH.out.mono ?_
    rintro e w3 ⟨rfl, hb3⟩
    have b3 := Lib.hid (b2.out.trans (hb3.mono b2.out.size))
    go_wp2_with fail
    go_ret
    exact ⟨_, rfl, by omega, b3.out.alloc b3.out.size _⟩
  · have hF : limF T = T := by unfold limF; rw [hg]; rfl
    have hC : limC T = 0 := by unfold limC; rw [hg]; rfl
    rw [hF, hC] at PA
    have CV := Lib.hid (cloV_word (rs := T) (ws := zs) hg (ws_ok hl hz hg))
    clear hF hC hg
    generalize ht zs (wdN T) = vt at *
    generalize lo zs (wdN T) = vl at *
    generalize (climL zs (wdN T)).h = vh at *
    go_enter Try.func30, Try.ntmps30
    go_wp2_with fail
    refine (PA.out _ ((Below.refl _ _).alloc (Nat.le_refl _) _)).mono ?_
    rintro e w1 ⟨A1, c1, rfl, own1, hb1⟩
    have b1 := Lib.hid (((Below.refl w.heap.size w).alloc (Nat.le_refl _) (.cells #[.slice A n c] 26)).trans (hb1.mono (by simp)))
    have O1 := Lib.hid own1
    clear own1 hb1
    go_wp2_with fail
    refine namedC fun w2 H2 => ?_
    have b2 := Lib.hid (show Below w.heap.size w w2 by rw [H2.out]; exact b1.out.alloc b1.out.size _)
    have O2 := Lib.hid (Rd.of_own (fun x _ => fac_len x) rfl (show w2.ownsRow _ 82 3 (.slice A1 T.length c1) T.length (T.flatMap Fac.cells) by rw [H2.out]; exact O1.out.alloc _))
    clear H2 O1 b1
    have CC := CO.out T A1 c1 w2 b2.out (by omega) O2.out HT.out
    rw [CV.out] at CC
    have CH := Lib.hid CC
    clear CC
    refine CH.out.mono ?_
    rintro e w3 ⟨rfl, hb3⟩
    have b3 := Lib.hid (b2.out.trans (hb3.mono b2.out.size))
    go_wp2_with fail
    go_ret
    exact ⟨_, rfl, hlo, b3.out.alloc b3.out.size _⟩
end Go.Proofs.Ytgdbpkpaacbhhaa


/-
  SelectOf in the program and in the reference.
-/
namespace Go.Proofs.Ytgdbpkpaacbhhaa
open Go.RowKit

def selGo (cs : List Q4) (ls : List Int) (rs : List Fac) (l : Nat) : Nat → Nat → Int → Int → Int
  | 0, _, _, n => n
  | f + 1, r, k, n =>
    match rs[r]? with
    | none => n
    | some x => if x.l.size = 0 then (if k < (cs.getD x.a.toNat Q4.nil).at_ l then selGo cs ls rs l f x.a.toNat k n else selGo cs ls rs l f x.b.toNat (k - (cs.getD x.a.toNat Q4.nil).at_ l) (n + ls.getD x.a.toNat 0)) else n
theorem selGo_step {cs : List Q4} {ls : List Int} {rs : List Fac} {l : Nat} {f r : Nat} {k n : Int} {x : Fac} (hf : r < f) (hx : rs[r]? = some x) (h0 : x.l.size = 0) :
    selGo cs ls rs l f r k n = if k < (cs.getD x.a.toNat Q4.nil).at_ l then selGo cs ls rs l (f - 1) x.a.toNat k n else selGo cs ls rs l (f - 1) x.b.toNat (k - (cs.getD x.a.toNat Q4.nil).at_ l) (n + ls.getD x.a.toNat 0) := by
  obtain ⟨g, rfl⟩ : ∃ g, f = g + 1 := ⟨f - 1, by omega⟩
  rw [selGo, hx]
  simp only [if_pos h0, Nat.add_sub_cancel]
theorem selGo_stop {cs : List Q4} {ls : List Int} {rs : List Fac} {l : Nat} {f r : Nat} {k n : Int} {x : Fac} (hf : r < f) (hx : rs[r]? = some x) (h0 : x.l.size ≠ 0) : selGo cs ls rs l f r k n = n := by
  obtain ⟨g, rfl⟩ : ∃ g, f = g + 1 := ⟨f - 1, by omega⟩
  rw [selGo, hx]
  simp only [if_neg h0]
def topQ (rs : List Fac) : Q4 := if rs.length = 0 then Q4.nil else (cnts rs).getD (rs.length - 1) Q4.nil
theorem top_topQ (rs : List Fac) : (foldAll Q4.nil cntF cntG Q4.nil rs).getD ((foldAll Q4.nil cntF cntG Q4.nil rs).length - 1) Q4.nil = topQ rs := foldAll_top _ _ _ _ rs
def selV (rs : List Fac) (s : ByteArray) (k : Int) : Value :=
  if (gOk rs).isSome = false then tup2 0 1 else if letT s = false then tup2 0 1 else if k < 0 then tup2 0 2
  else if (topQ rs).at_ (letN s) ≤ k then tup2 0 6 else tup2 (selGo (cnts rs) ((gLens rs []).getD []) rs (letN s) rs.length (rs.length - 1) k 0) 0
theorem selV_form (rs : List Fac) (s : ByteArray) (k : Int) : ∃ b j, selV rs s k = .tuple #[.int .i64 b, .int .i64 j] := by
  unfold selV
  split
  · exact ⟨_, _, rfl⟩
  split
  · exact ⟨_, _, rfl⟩
  split
  · exact ⟨_, _, rfl⟩
  split
  · exact ⟨_, _, rfl⟩
  · exact ⟨_, _, rfl⟩
theorem selV1 {rs : List Fac} {s : ByteArray} {k : Int} (h : (gOk rs).isSome = false) : selV rs s k = tup2 0 1 := by unfold selV; rw [if_pos h]
theorem selV2 {rs : List Fac} {s : ByteArray} {k : Int} (h : (gOk rs).isSome = true) (h2 : letT s = false) : selV rs s k = tup2 0 1 := by unfold selV; rw [if_neg (by rw [h]; decide), if_pos h2]
theorem selV3 {rs : List Fac} {s : ByteArray} {k : Int} (h : (gOk rs).isSome = true) (h2 : letT s = true) (h3 : k < 0) : selV rs s k = tup2 0 2 := by unfold selV; rw [if_neg (by rw [h]; decide), if_neg (by rw [h2]; decide), if_pos h3]
theorem selV4 {rs : List Fac} {s : ByteArray} {k : Int} (h : (gOk rs).isSome = true) (h2 : letT s = true) (h3 : 0 ≤ k) (h4 : (topQ rs).at_ (letN s) ≤ k) : selV rs s k = tup2 0 6 := by
  unfold selV; rw [if_neg (by rw [h]; decide), if_neg (by rw [h2]; decide), if_neg (by omega), if_pos h4]
theorem selV5 {rs : List Fac} {ls : List Int} {s : ByteArray} {k : Int} (hls : gLens rs [] = some ls) (h : (gOk rs).isSome = true) (h2 : letT s = true) (h3 : 0 ≤ k) (h4 : k < (topQ rs).at_ (letN s)) : selV rs s k = tup2 (selGo (cnts rs) ls rs (letN s) rs.length (rs.length - 1) k 0) 0 := by
  unfold selV; rw [if_neg (by rw [h]; decide), if_neg (by rw [h2]; decide), if_neg (by omega), if_neg (by omega), hls]; rfl
end Go.Proofs.Ytgdbpkpaacbhhaa


/-
  The code of a grammar, a plain word and a modulus.
-/
namespace Go.Proofs.Ytgdbpkpaacbhhaa
open Go.RowKit

def modC (rs : List Fac) (p : ByteArray) (m : Int) : Int := if (gOk rs).isSome = false then 1 else if okW p = false then 1 else if inB m 1 1000000000 = false then 2 else 0
theorem l05Mod_any (gb : Nat) (A : Option Addr) (n c : Nat) (rs : List Fac) (p : ByteArray) (m : Int) (w : World) (hg : gb < w.heap.size) (hc : w.cell? ⟨gb, 0, none⟩ = some (.slice A n c)) (hn : n ≤ 1048576) (hr : Rd w w.heap.size A n 3 Fac.cells rs)
    (hok : ∀ f ∈ rs, f.l.size ≤ maxLen) (hp : p.size ≤ maxLen) : Calls Try.prog 63 #[.pointer (some ⟨gb, 0, none⟩), .string p, .int .i64 m] w (Ret (.int .i64 (modC rs p m)) w) := by
  have HR := Lib.hid hr; clear hr
  have HO := Lib.hid hok; clear hok
  rcases hgk : (gOk rs).isSome with _ | _
  · have Hg := Lib.hid hgk; clear hgk
    have e := Lib.hid (show modC rs p m = 1 by unfold modC; rw [if_pos Hg.out])
    go_enter Try.func63, Try.ntmps63
    go_wp2_with fail
    refine (l02Ok_any gb A n c rs _ hg hc (by omega) HR.out HO.out false Hg.out).mono ?_
    rintro e1 w1 ⟨rfl, hb1⟩
    go_wp2_with fail
    go_ret
    exact ⟨ret_int e.out.symm, hb1⟩
  have Hg := Lib.hid hgk; clear hgk
  rcases h2 : okW p with _ | _
  · have H2 := Lib.hid h2; clear h2
    have e := Lib.hid (show modC rs p m = 1 by unfold modC; rw [if_neg (by rw [Hg.out]; decide), if_pos H2.out])
    go_enter Try.func63, Try.ntmps63
    go_wp2_with fail
    refine (l02Ok_any gb A n c rs _ hg hc (by omega) HR.out HO.out true Hg.out).mono ?_
    rintro e1 w1 ⟨rfl, hb1⟩
    go_wp2_with fail
    refine (specOk_any p false _ hp H2.out).mono ?_
    rintro e1 w2 ⟨rfl, hb2⟩
    go_wp2_with fail
    go_ret
    exact ⟨ret_int e.out.symm, hb1.trans (hb2.mono hb1.size)⟩
  have H2 := Lib.hid h2; clear h2
  rcases h3 : inB m 1 1000000000 with _ | _
  all_goals
    have H3 := Lib.hid h3; clear h3
    have e := Lib.hid (show modC rs p m = if inB m 1 1000000000 = false then 2 else 0 by unfold modC; rw [if_neg (by rw [Hg.out]; decide), if_neg (by rw [H2.out]; decide)])
    rw [H3.out] at e
    go_enter Try.func63, Try.ntmps63
    go_wp2_with fail
    refine (l02Ok_any gb A n c rs _ hg hc (by omega) HR.out HO.out true Hg.out).mono ?_
    rintro e1 w1 ⟨rfl, hb1⟩
    go_wp2_with fail
    refine (specOk_any p true _ hp H2.out).mono ?_
    rintro e1 w2 ⟨rfl, hb2⟩
    go_wp2_with fail
    refine (specIn_any m 1 1000000000 _ _ H3.out).mono ?_
    rintro e1 w3 ⟨rfl, hb3⟩
    go_wp2_with fail
    go_ret
    exact ⟨ret_int e.out.symm, hb1.trans ((hb2.trans (hb3.mono hb2.size)).mono hb1.size)⟩
end Go.Proofs.Ytgdbpkpaacbhhaa


/-
  InversionCount in the program and in the reference.
-/
namespace Go.Proofs.Ytgdbpkpaacbhhaa
open Go.RowKit

def invP (p q : Q4) (m : Int) (k l : Nat) : Int := p.at_ k % m * (q.at_ l % m)
def invT (p q : Q4) (m : Int) (k : Nat) : Nat → Int
  | 0 => 0
  | l + 1 => invT p q m k l + (if l < k then invP p q m k l % m else 0)
def invS (p q : Q4) (m : Int) : Nat → Int
  | 0 => 0
  | k + 1 => invS p q m k + invT p q m k 4
def invG (cs : List Q4) (m : Int) (x y : Int) (r : Fac) : Int := (x + y + invS (cs.getD r.a.toNat Q4.nil) (cs.getD r.b.toNat Q4.nil) m 4) % m
theorem invT_b (p q : Q4) {m : Int} (h1 : 1 ≤ m) (h2 : m ≤ 1000000000) (k : Nat) : ∀ l : Nat, 0 ≤ invT p q m k l ∧ invT p q m k l ≤ 1000000000 * l
  | 0 => by simp [invT]
  | l + 1 => by
    have := invT_b p q h1 h2 k l
    have e := emod_b (a := invP p q m k l) (m := m) (by omega)
    unfold invT
    split <;> omega
theorem invS_b (p q : Q4) {m : Int} (h1 : 1 ≤ m) (h2 : m ≤ 1000000000) : ∀ k : Nat, 0 ≤ invS p q m k ∧ invS p q m k ≤ 4000000000 * k
  | 0 => by simp [invS]
  | k + 1 => by
    have := invS_b p q h1 h2 k
    have := invT_b p q h1 h2 k 4
    unfold invS
    omega
theorem invT_stop (p q : Q4) (m : Int) (k : Nat) : ∀ d : Nat, invT p q m k (k + d) = invT p q m k k
  | 0 => rfl
  | d + 1 => by
    rw [show k + (d + 1) = (k + d) + 1 by omega, invT, if_neg (by omega), invT_stop p q m k d]; omega
theorem invT_four (p q : Q4) (m : Int) {k : Nat} (h : k ≤ 4) : invT p q m k 4 = invT p q m k k := by
  rw [show 4 = k + (4 - k) by omega, invT_stop]
theorem inv_mod (a p m : Int) : (a % m + p) % m = (a + p % m) % m := by
  rw [Int.emod_add_emod, Int.add_emod_emod]
theorem inv_bound {rs : List Fac} {ls : List Int} (hls : gLens rs [] = some ls) {m : Int} (h1 : 1 ≤ m) (h2 : m ≤ 1000000000) {k : Nat} (hk : k < rs.length) :
    0 ≤ (full 0 plF (invG (cnts rs) m) rs).getD k 0 ∧ (full 0 plF (invG (cnts rs) m) rs).getD k 0 ≤ 1000000000 := by
  refine full_ind 0 plF (invG (cnts rs) m) (wf_of hls) (fun _ x => 0 ≤ x ∧ x ≤ 1000000000) (fun k r _ _ => ?_) (fun k r a b hr h0 ha0 ha1 hb0 hb1 ha hb => ?_) k hk
  · show (0 : Int) ≤ 0 ∧ (0 : Int) ≤ 1000000000
    omega
  · have q := emod_b (a := a + b + invS ((cnts rs).getD r.a.toNat Q4.nil) ((cnts rs).getD r.b.toNat Q4.nil) m 4) (m := m) (by omega)
    exact ⟨q.1, by show (a + b + _) % m ≤ _; omega⟩
def invV (rs : List Fac) (m : Int) : Value :=
  if (gOk rs).isSome = false then tup2 0 1 else if inB m 1 1000000000 = false then tup2 0 2 else tup2 (topI plF (invG (cnts rs) m) rs) 0
theorem invV_form (rs : List Fac) (m : Int) : ∃ b k, invV rs m = .tuple #[.int .i64 b, .int .i64 k] := by
  unfold invV
  split
  · exact ⟨_, _, rfl⟩
  split
  · exact ⟨_, _, rfl⟩
  · exact ⟨_, _, rfl⟩
theorem invV1 {rs : List Fac} {m : Int} (h : (gOk rs).isSome = false) : invV rs m = tup2 0 1 := by unfold invV; rw [if_pos h]
theorem invV3 {rs : List Fac} {m : Int} (h : (gOk rs).isSome = true) (h3 : inB m 1 1000000000 = false) : invV rs m = tup2 0 2 := by unfold invV; rw [if_neg (by rw [h]; decide), if_pos h3]
theorem invV4 {rs : List Fac} {m : Int} (h : (gOk rs).isSome = true) (h3 : inB m 1 1000000000 = true) : invV rs m = tup2 (topI plF (invG (cnts rs) m) rs) 0 := by
  unfold invV; rw [if_neg (by rw [h]; decide), if_neg (by rw [h3]; decide)]
theorem Rd.q4c {w : World} {B n : Nat} {A : Option Addr} {xs : List Q4} {k : Nat} (h : Rd w B A n 4 encQ4 xs) (hk : k < n) :
    ∃ b o x, A = some ⟨b, o, none⟩ ∧ b < B ∧ xs.getD k Q4.nil = x ∧ w.cell? ⟨b, o + k * 4, none⟩ = some (.int .i64 x.a) ∧ w.cell? ⟨b, o + k * 4 + 1, none⟩ = some (.int .i64 x.b) ∧
      w.cell? ⟨b, o + k * 4 + 2, none⟩ = some (.int .i64 x.c) ∧ w.cell? ⟨b, o + k * 4 + 3, none⟩ = some (.int .i64 x.d) := by
  obtain ⟨b, o, hA, hb, x, hx, hc⟩ := h.at_ hk
  exact ⟨b, o, x, hA, hb, by rw [List.getD_eq_getElem?_getD, hx]; rfl, hc 0 _ rfl, hc 1 _ rfl, hc 2 _ rfl, hc 3 _ rfl⟩
end Go.Proofs.Ytgdbpkpaacbhhaa


/-
  How often each rule is met: the plain part.
-/
namespace Go.Proofs.Ytgdbpkpaacbhhaa

def sumTo (f : Nat → Int) : Nat → Int
  | 0 => 0
  | i + 1 => sumTo f i + f i
theorem sumTo_congr {f g : Nat → Int} : ∀ {i : Nat}, (∀ j, j < i → f j = g j) → sumTo f i = sumTo g i
  | 0, _ => rfl
  | i + 1, h => by
    show sumTo f i + f i = sumTo g i + g i
    rw [sumTo_congr (fun j hj => h j (by omega)), h i (by omega)]
theorem sumTo_upd {f g : Nat → Int} (a : Nat) : ∀ {i : Nat}, a < i → (∀ j, j < i → j ≠ a → f j = g j) → sumTo f i = sumTo g i + (f a - g a)
  | 0, h, _ => absurd h (by omega)
  | i + 1, h, hj => by
    show sumTo f i + f i = sumTo g i + g i + (f a - g a)
    by_cases he : a = i
    · subst he
      rw [sumTo_congr (i := a) (fun j h' => hj j (by omega) (by omega))]
      omega
    · rw [sumTo_upd a (i := i) (by omega) (fun j h1 h2 => hj j (by omega) h2), hj i (by omega) (fun e => he e.symm)]
      omega
theorem sumTo_diff {f g : Nat → Int} {i : Nat} : ∀ {n : Nat}, i ≤ n → (∀ j, i ≤ j → j < n → f j = g j) → sumTo f n - sumTo f i = sumTo g n - sumTo g i
  | 0, h, _ => by
    obtain rfl : i = 0 := by omega
    omega
  | n + 1, h, hj => by
    by_cases he : i = n + 1
    · subst he; omega
    · have := sumTo_diff (f := f) (g := g) (i := i) (n := n) (by omega) (fun j h1 h2 => hj j h1 (by omega))
      have h2 := hj n (by omega) (by omega)
      show sumTo f n + f n - sumTo f i = sumTo g n + g n - sumTo g i
      omega
theorem sumTo_add (f g : Nat → Int) : ∀ i, sumTo (fun j => f j + g j) i = sumTo f i + sumTo g i
  | 0 => rfl
  | i + 1 => by
    show sumTo (fun j => f j + g j) i + (f i + g i) = sumTo f i + f i + (sumTo g i + g i)
    rw [sumTo_add f g i]; omega
theorem sumTo_zero : ∀ {f : Nat → Int} {i : Nat}, (∀ j, j < i → f j = 0) → sumTo f i = 0
  | f, 0, _ => rfl
  | f, i + 1, h => by
    show sumTo f i + f i = 0
    rw [sumTo_zero (fun j hj => h j (by omega)), h i (by omega)]; rfl
theorem sumTo_mem {f : Nat → Int} : ∀ {i : Nat}, (∀ j, j < i → 0 ≤ f j) → 0 ≤ sumTo f i ∧ ∀ j, j < i → f j ≤ sumTo f i
  | 0, _ => ⟨by simp [sumTo], fun j hj => absurd hj (by omega)⟩
  | i + 1, h => by
    have ih := sumTo_mem (f := f) (i := i) (fun j hj => h j (by omega))
    have h1 := h i (by omega)
    refine ⟨by show 0 ≤ sumTo f i + f i; omega, fun j hj => ?_⟩
    show f j ≤ sumTo f i + f i
    by_cases he : j = i
    · subst he; omega
    · have := ih.2 j (by omega); omega

def usePair (us : List Int) (a b i : Nat) : List Int :=
  (us.set a (us.getD a 0 + us.getD i 0)).set b ((us.set a (us.getD a 0 + us.getD i 0)).getD b 0 + us.getD i 0)
def usStep (rs : List Fac) (us : List Int) (i : Nat) : List Int := if (rs.getD i default).l.size = 0 then usePair us (rs.getD i default).a.toNat (rs.getD i default).b.toNat i else us
def useGo (rs : List Fac) : Nat → List Int → List Int
  | 0, us => us
  | i + 1, us => useGo rs i (usStep rs us i)
def us0 (n : Nat) : List Int := (List.replicate n 0).set (n - 1) 1
/-- how often each rule is met -/
def usesOf (rs : List Fac) : List Int := useGo rs rs.length (us0 rs.length)

theorem getD_set (us : List Int) (a j : Nat) (v : Int) (ha : a < us.length) : (us.set a v).getD j 0 = if j = a then v else us.getD j 0 := by
  rw [List.getD_eq_getElem?_getD, List.getD_eq_getElem?_getD, List.getElem?_set]
  by_cases h : a = j
  · subst h; simp [ha]
  · rw [if_neg h, if_neg (fun e => h e.symm)]
theorem use0_at (n j : Nat) (hn : 0 < n) : (us0 n).getD j 0 = if j = n - 1 then 1 else 0 := by
  unfold us0
  rw [getD_set _ _ _ _ (by simp; omega)]
  congr 1
  rw [List.getD_eq_getElem?_getD, List.getElem?_replicate]
  split <;> rfl
/-- a letter's part, a pair's part -/
def useL (rs : List Fac) (us : List Int) (j : Nat) : Int := if (rs.getD j default).l.size = 0 then 0 else us.getD j 0
def useP (rs : List Fac) (us : List Int) (j : Nat) : Int := if (rs.getD j default).l.size = 0 then us.getD j 0 else 0
theorem ite0_mul (c : Prop) [Decidable c] (x y : Int) : (if c then x else 0) * y = if c then x * y else 0 := by split <;> simp
structure UInv (rs : List Fac) (ls : List Int) (m : Nat) (us : List Int) : Prop where
  len : us.length = rs.length
  le : m ≤ rs.length
  nn : ∀ j, 0 ≤ us.getD j 0
  bd : ∀ j, us.getD j 0 ≤ 1000000000000000
  w : sumTo (fun j => us.getD j 0 * ls.getD j 0) m + (sumTo (useL rs us) rs.length - sumTo (useL rs us) m) = lastI ls
  c : sumTo (fun j => us.getD j 0) m + (sumTo (useL rs us) rs.length - sumTo (useL rs us) m) = 1 + (sumTo (useP rs us) rs.length - sumTo (useP rs us) m)
theorem fac_getD {rs : List Fac} {i : Nat} {r : Fac} (h : rs[i]? = some r) : rs.getD i default = r := by rw [List.getD_eq_getElem?_getD, h]; rfl
theorem usePair_len (us : List Int) (a b i : Nat) : (usePair us a b i).length = us.length := by unfold usePair; simp
theorem usePair_at {us : List Int} {a b i : Nat} (ha : a < us.length) (hb : b < us.length) (j : Nat) :
    (usePair us a b i).getD j 0 = us.getD j 0 + (if j = a then us.getD i 0 else 0) + (if j = b then us.getD i 0 else 0) := by
  unfold usePair
  rw [getD_set _ _ _ _ (by simpa using hb)]
  have q := fun j => getD_set us a j (us.getD a 0 + us.getD i 0) ha
  rw [q, q]
  by_cases h1 : j = b
  · by_cases h2 : j = a
    · rw [if_pos h1, if_pos h1, if_pos h2, ← h1, if_pos h2, h2]
    · rw [if_pos h1, if_pos h1, if_neg h2, ← h1, if_neg h2]; omega
  · by_cases h2 : j = a
    · rw [if_neg h1, if_neg h1, if_pos h2, if_pos h2, h2]; omega
    · rw [if_neg h1, if_neg h1, if_neg h2, if_neg h2]; omega
theorem uinv_start {rs : List Fac} {ls : List Int} (hll : ls.length = rs.length) (h0 : 0 < rs.length) : UInv rs ls rs.length (us0 rs.length) := by
  have h := fun j => use0_at rs.length j h0
  have z : ∀ (f : Nat → Int), sumTo (fun j => if j = rs.length - 1 then f j else 0) rs.length = f (rs.length - 1) := fun f => by
    rw [sumTo_upd (g := fun _ => 0) (rs.length - 1) (by omega) (fun j _ hne => by simp [hne]), sumTo_zero (fun _ _ => rfl)]
    simp
  refine ⟨by simp [us0], Nat.le_refl _, fun j => ?_, fun j => ?_, ?_, ?_⟩
  · rw [h]; split <;> omega
  · rw [h]; split <;> omega
  · have e : sumTo (fun j => (us0 rs.length).getD j 0 * ls.getD j 0) rs.length = lastI ls := by
      rw [sumTo_congr (g := fun j => if j = rs.length - 1 then ls.getD j 0 else 0) (fun j _ => by rw [h]; split <;> simp), z]
      unfold lastI; rw [hll]
    omega
  · have e : sumTo (fun j => (us0 rs.length).getD j 0) rs.length = 1 := by
      rw [sumTo_congr (g := fun j => if j = rs.length - 1 then (fun _ => (1 : Int)) j else 0) (fun j _ => by rw [h]), z]
    omega
theorem lens_last_le {ls : List Int} {rs : List Fac} (hls : gLens rs [] = some ls) (h0 : 0 < rs.length) (hll : ls.length = rs.length) : lastI ls ≤ 1000000000000000 := by
  unfold lastI
  have := lens_bound hls (i := ls.length - 1) (by omega)
  omega
theorem UInv.step {rs : List Fac} {ls : List Int} {i : Nat} {us : List Int} (hls : gLens rs [] = some ls) (hll : ls.length = rs.length) (h : UInv rs ls (i + 1) us) : UInv rs ls i (usStep rs us i) := by
  have hi : i < rs.length := h.le
  obtain ⟨r, hr⟩ : ∃ r, rs[i]? = some r := ⟨_, List.getElem?_eq_getElem hi⟩
  have hd := fac_getD hr
  have hlast := lens_last_le hls (by omega) hll
  have lnn : ∀ j, 0 ≤ useL rs us j := fun j => by unfold useL; split <;> first | omega | exact h.nn j
  unfold usStep
  rw [hd]
  have w := h.w
  have c := h.c
  have w1 : sumTo (fun j => us.getD j 0 * ls.getD j 0) (i + 1) = sumTo (fun j => us.getD j 0 * ls.getD j 0) i + us.getD i 0 * ls.getD i 0 := rfl
  have c1 : sumTo (fun j => us.getD j 0) (i + 1) = sumTo (fun j => us.getD j 0) i + us.getD i 0 := rfl
  have l1 : sumTo (useL rs us) (i + 1) = sumTo (useL rs us) i + useL rs us i := rfl
  have p1 : sumTo (useP rs us) (i + 1) = sumTo (useP rs us) i + useP rs us i := rfl
  by_cases h0 : r.l.size = 0
  · rw [if_pos h0]
    have lp := lens_pair hls hr h0
    rcases wf_of hls i r hr with ⟨_, ha0, ha1, hb0, hb1⟩ | ⟨cc, _, hxl, _⟩
    case inr => rw [hxl] at h0; exact absurd h0 (show ¬ (1 : Nat) = 0 by omega)
    have ha : r.a.toNat < us.length := by have := h.len; omega
    have hb : r.b.toNat < us.length := by have := h.len; omega
    have at_ := usePair_at (i := i) ha hb
    have eL : useL rs us i = 0 := by unfold useL; rw [hd, if_pos h0]
    have eP : useP rs us i = us.getD i 0 := by unfold useP; rw [hd, if_pos h0]
    -- what is left below i
    have wa : ∀ (f : Nat → Int), sumTo (fun j => (us.getD j 0 + (if j = r.a.toNat then us.getD i 0 else 0) + (if j = r.b.toNat then us.getD i 0 else 0)) * f j) i = sumTo (fun j => us.getD j 0 * f j) i + us.getD i 0 * f r.a.toNat + us.getD i 0 * f r.b.toNat := by
      intro f
      rw [sumTo_congr (g := fun j => (us.getD j 0 * f j + (if j = r.a.toNat then us.getD i 0 * f j else 0)) + (if j = r.b.toNat then us.getD i 0 * f j else 0)) (fun j _ => by
        rw [Int.add_mul, Int.add_mul, ite0_mul, ite0_mul])]
      rw [sumTo_add, sumTo_add]
      have z : ∀ a, a < i → sumTo (fun j => if j = a then us.getD i 0 * f j else 0) i = us.getD i 0 * f a := fun a ha => by
        rw [sumTo_upd (g := fun _ => 0) a ha (fun j _ hne => by simp [hne]), sumTo_zero (fun _ _ => rfl)]
        simp
      rw [z _ (by omega), z _ (by omega)]
    have wf := wa (fun j => ls.getD j 0)
    have wc := wa (fun _ => 1)
    simp only [Int.mul_one] at wc
    have ee : ∀ j, i ≤ j → (usePair us r.a.toNat r.b.toNat i).getD j 0 = us.getD j 0 := fun j hj => by rw [at_, if_neg (by omega), if_neg (by omega)]; simp
    have dl : sumTo (useL rs (usePair us r.a.toNat r.b.toNat i)) rs.length - sumTo (useL rs (usePair us r.a.toNat r.b.toNat i)) i = sumTo (useL rs us) rs.length - sumTo (useL rs us) i :=
      sumTo_diff (by omega) (fun j h1 _ => by unfold useL; rw [ee j h1])
    have dp : sumTo (useP rs (usePair us r.a.toNat r.b.toNat i)) rs.length - sumTo (useP rs (usePair us r.a.toNat r.b.toNat i)) i = sumTo (useP rs us) rs.length - sumTo (useP rs us) i :=
      sumTo_diff (by omega) (fun j h1 _ => by unfold useP; rw [ee j h1])
    have nn' : ∀ j, 0 ≤ (usePair us r.a.toNat r.b.toNat i).getD j 0 := fun j => by
      rw [at_]
      have := h.nn j; have := h.nn i
      split <;> split <;> omega
    have W : sumTo (fun j => (usePair us r.a.toNat r.b.toNat i).getD j 0 * ls.getD j 0) i + (sumTo (useL rs (usePair us r.a.toNat r.b.toNat i)) rs.length - sumTo (useL rs (usePair us r.a.toNat r.b.toNat i)) i) = lastI ls := by
      rw [dl, sumTo_congr (fun j _ => by rw [at_]), wf]
      rw [lp, Int.mul_add] at w1
      omega
    refine ⟨by rw [usePair_len]; exact h.len, by omega, nn', fun j => ?_, W, ?_⟩
    · by_cases hj : j < i
      · have hm := (sumTo_mem (f := fun j => (usePair us r.a.toNat r.b.toNat i).getD j 0 * ls.getD j 0) (i := i) (fun j hj => Int.mul_nonneg (nn' j) (by have := lens_bound hls (i := j) (by omega); omega))).2 j hj
        have hd2 := sumTo_mem (f := useL rs us) (i := rs.length) (fun j _ => lnn j)
        have hd3 : 0 ≤ sumTo (useL rs us) rs.length - sumTo (useL rs us) i := by
          have e : sumTo (useL rs us) rs.length - sumTo (useL rs us) i = sumTo (fun j => if j < i then 0 else useL rs us j) rs.length - sumTo (fun j => if j < i then 0 else useL rs us j) i :=
            sumTo_diff (by omega) (fun j h1 h2 => by rw [if_neg (by omega)])
          rw [e, sumTo_zero (i := i) (fun j hj => by rw [if_pos hj])]
          have := (sumTo_mem (f := fun j => if j < i then 0 else useL rs us j) (i := rs.length) (fun j _ => by split <;> first | omega | exact lnn j)).1
          omega
        have hb := lens_bound hls (i := j) (by omega)
        have hn := nn' j
        have hle : (usePair us r.a.toNat r.b.toNat i).getD j 0 ≤ (usePair us r.a.toNat r.b.toNat i).getD j 0 * ls.getD j 0 := by
          have := Int.mul_le_mul_of_nonneg_left hb.1 hn
          omega
        rw [dl] at W
        omega
      · rw [ee j (by omega)]
        exact h.bd j
    · rw [dl, dp, sumTo_congr (g := fun j => us.getD j 0 + (if j = r.a.toNat then us.getD i 0 else 0) + (if j = r.b.toNat then us.getD i 0 else 0)) (fun j _ => at_ j), wc]
      omega
  · rw [if_neg h0]
    have lt := lens_let hls hr h0
    have eL : useL rs us i = us.getD i 0 := by unfold useL; rw [hd, if_neg h0]
    have eP : useP rs us i = 0 := by unfold useP; rw [hd, if_neg h0]
    rw [lt, Int.mul_one] at w1
    exact ⟨h.len, by omega, h.nn, h.bd, by omega, by omega⟩
theorem useGo_inv {rs : List Fac} {ls : List Int} (hls : gLens rs [] = some ls) (hll : ls.length = rs.length) : ∀ (m : Nat) (us : List Int), UInv rs ls m us → UInv rs ls 0 (useGo rs m us)
  | 0, _, h => h
  | m + 1, us, h => useGo_inv hls hll m _ (h.step hls hll)
theorem uses_inv {rs : List Fac} {ls : List Int} (hls : gLens rs [] = some ls) (hll : ls.length = rs.length) (h0 : 0 < rs.length) : UInv rs ls 0 (usesOf rs) := useGo_inv hls hll _ _ (uinv_start hll h0)
/-- all pairs together are met once less than there are letters -/
theorem uses_pairs {rs : List Fac} {ls : List Int} (hls : gLens rs [] = some ls) (hll : ls.length = rs.length) (h0 : 0 < rs.length) : sumTo (useP rs (usesOf rs)) rs.length = lastI ls - 1 := by
  have h := uses_inv hls hll h0
  have w := h.w
  have c := h.c
  simp only [sumTo] at w c
  omega
end Go.Proofs.Ytgdbpkpaacbhhaa


/-
  Rows of numbers that are filled one by one; the bytes of a plain word.
-/
namespace Go.Proofs.Ytgdbpkpaacbhhaa
open Go.RowKit

theorem okW_b {p : ByteArray} (h : okW p = true) : p.size ≤ 2000 ∧ ∀ i (hi : i < p.size), letB (p[i]'hi) = true := by
  simp only [okW, Bool.and_eq_true, decide_eq_true_eq, List.all_eq_true] at h
  refine ⟨h.1, fun i hi => h.2 _ ?_⟩
  exact List.mem_of_getElem? (at_byte p i hi)
theorem made_at {n j : Nat} (h : j < n) : (madeCells (Value.int .i64 0).cells (n * 1))[j]? = some (.int .i64 0) := by
  rw [Array.getElem?_eq_getElem (by rw [size_madeCells]; simpa [Value.cells] using h)]
  simp [madeCells, Value.cells, Nat.mod_one]
theorem fillc {f : Nat → Int} {cs : Array Value} {n k : Nat} (hs : cs.size = n) (hk : k < n) (hc : ∀ j, j < n → cs[j]? = some (.int .i64 (if j < k then f j else 0))) (v : Int) (hv : f k = v) :
    (cs.setIfInBounds k (.int .i64 v)).size = n ∧ ∀ j, j < n → (cs.setIfInBounds k (.int .i64 v))[j]? = some (.int .i64 (if j < k + 1 then f j else 0)) := by
  refine ⟨by simpa using hs, fun j hj => ?_⟩
  by_cases h : j = k
  · subst h
    rw [Array.getElem?_setIfInBounds_self_of_lt (by omega), if_pos (by omega), hv]
  · rw [Array.getElem?_setIfInBounds_ne (by omega), hc j hj]
    by_cases h2 : j < k
    · rw [if_pos h2, if_pos (by omega)]
    · rw [if_neg h2, if_neg (by omega)]
theorem keepc {f : Nat → Int} {cs : Array Value} {n k : Nat} (hk : k < n) (hc : ∀ j, j < n → cs[j]? = some (.int .i64 (if j < k then f j else 0))) (hv : f k = 0) :
    ∀ j, j < n → cs[j]? = some (.int .i64 (if j < k + 1 then f j else 0)) := by
  intro j hj
  rw [hc j hj]
  by_cases h : j = k
  · subst h
    rw [if_neg (by omega), if_pos (by omega), hv]
  · by_cases h2 : j < k
    · rw [if_pos h2, if_pos (by omega)]
    · rw [if_neg h2, if_neg (by omega)]
theorem Rd.n64 {w : World} {B n : Nat} {A : Option Addr} {xs : List Int} {k : Nat} (h : Rd w B A n 1 intE xs) (hk : k < n) :
    ∃ b o, A = some ⟨b, o, none⟩ ∧ b < B ∧ w.cell? ⟨b, o + k, none⟩ = some (.int .i64 (xs.getD k 0)) := by
  obtain ⟨b, o, hA, hb, x, hx, hc⟩ := h.at_ hk
  refine ⟨b, o, hA, hb, ?_⟩
  have := hc 0 _ rfl
  rw [List.getD_eq_getElem?_getD, hx]
  simpa using this
end Go.Proofs.Ytgdbpkpaacbhhaa


/-
  How often each rule is met: in the program and in the reference.
-/
namespace Go.Proofs.Ytgdbpkpaacbhhaa
open Go.RowKit

def arrI (us : List Int) : Array Value := (us.map fun z => Value.int .i64 z).toArray
theorem arrI_size (us : List Int) : (arrI us).size = us.length := by simp [arrI]
theorem arrI_at {us : List Int} {j : Nat} (h : j < us.length) : (arrI us)[j]? = some (.int .i64 (us.getD j 0)) := by
  simp [arrI, List.getElem?_eq_getElem h, List.getD_eq_getElem?_getD]
theorem arrI_set (us : List Int) (a : Nat) (v : Int) : (arrI us).setIfInBounds a (.int .i64 v) = arrI (us.set a v) := by
  simp [arrI, List.map_set]
theorem made_arrI (n : Nat) : madeCells #[Value.int .i64 0] n = arrI (List.replicate n 0) := by
  apply Array.ext_getElem?
  intro i
  by_cases h : i < n
  · rw [arrI_at (by simpa using h)]
    have := made_at (n := n) (j := i) h
    rw [Nat.mul_one] at this
    rw [show (Value.int IntKind.i64 0).cells = #[Value.int .i64 0] from rfl] at this
    rw [this, List.getD_eq_getElem?_getD, List.getElem?_replicate, if_pos h]; rfl
  · rw [Array.getElem?_eq_none (by rw [size_madeCells]; omega), Array.getElem?_eq_none (by rw [arrI_size]; simp; omega)]
theorem arrI_own {w : World} {base g : Nat} {us : List Int} (hB : Blk w g 2 (arrI us)) (hg : base ≤ g) (hm : us.length ≤ maxLen) : w.ownsRow base 2 1 (.slice (some ⟨g, 0, none⟩) us.length us.length) us.length (us.flatMap intE) :=
  own_of_blk hB hg (by rw [arrI_size, Nat.mul_one]) rfl hm (fun _ _ => rfl) (fun k x hx j hj => by
    obtain rfl : j = 0 := by omega
    have hk : k < us.length := (List.getElem?_eq_some_iff.1 hx).1
    rw [Nat.mul_one, Nat.add_zero, arrI_at hk, List.getD_eq_getElem?_getD, hx]; rfl)
theorem useStep_pair {rs : List Fac} {i : Nat} {r : Fac} (h : rs[i]? = some r) (h0 : r.l.size = 0) (us : List Int) : usStep rs us i = usePair us r.a.toNat r.b.toNat i := by
  unfold usStep; rw [fac_getD h, if_pos h0]
theorem useStep_let {rs : List Fac} {i : Nat} {r : Fac} (h : rs[i]? = some r) (h0 : r.l.size ≠ 0) (us : List Int) : usStep rs us i = us := by
  unfold usStep; rw [fac_getD h, if_neg h0]
end Go.Proofs.Ytgdbpkpaacbhhaa
