/-
  What the laws' helpers on lists of rules do: sizes, copies and equality.
-/
import Derived.Test.YtikhjoianbndhaaFacM
namespace Go.Proofs.Ytikhjoianbndhaa
open Go.RowKit

set_option maxHeartbeats 400000 in
theorem szRule_any (f : Fac) (left : Int) (w : World) (h0 : 0 ≤ left) (h1 : left ≤ 1048576) (hs : f.l.size ≤ maxLen) :
    Calls Try.prog 62 #[f.val, .int .i64 left] w (Ret (.int .i64 (szFac left f)) w) := by
  unfold maxLen at hs
  unfold Fac.val
  by_cases h : left < f.l.size
  all_goals
    have e := Lib.hid (show szFac left f = if left < f.l.size then -1 else left - f.l.size from rfl)
    go_enter Try.func62, Try.ntmps62
    go_wp2
    go_ret
    refine ⟨ret_int ?_, (Below.refl _ _).alloc (Nat.le_refl _) _⟩
    rw [e.out]
    first | rw [if_pos (by assumption)] | rw [if_neg (by omega)]

set_option maxHeartbeats 400000 in
theorem szRuleS_any (A : Option Addr) (n c : Nat) (fs : List Fac) (left : Int) (w : World) (h0 : 0 ≤ left) (h1 : left ≤ 1048576) (hn : n ≤ maxLen)
    (hr : Rd w w.heap.size A n 3 Fac.cells fs) (hs : ∀ f ∈ fs, f.l.size ≤ maxLen) :
    Calls Try.prog 42 #[.slice A n c, .int .i64 left] w (Ret (.int .i64 (szFacAll left fs)) w) := by
  have hl := Lib.hid hr.len
  unfold maxLen at hn
  by_cases h : left < n
  · have e := Lib.hid (show szFacAll left fs = -1 by unfold szFacAll; rw [hl.out, if_pos h])
    go_enter Try.func42, Try.ntmps42
    go_wp2
    go_ret
    exact ⟨ret_int e.out.symm, Below.refl _ _⟩
  · have HR := Lib.hid (show szFacs (left - n) (fs.drop 0) = szFacAll left fs by unfold szFacAll; rw [hl.out, if_neg h]; rfl)
    go_enter Try.func42, Try.ntmps42
    go_wp2
    go_loopw [1, 5] (fun l i w' => ∃ k : Nat, ∃ z : Int, i = .int .i64 k ∧ l = .int .i64 z ∧ k ≤ n ∧ 0 ≤ z ∧ z ≤ 1048576 ∧ Below w.heap.size w w' ∧ Hid (szFacs z (fs.drop k) = szFacAll left fs)) (fun _ i _ => n - (intOf i).toNat)
    case atStart => exact ⟨0, _, rfl, rfl, by omega, by omega, by omega, Below.refl _ _, HR⟩
    case round =>
      obtain ⟨k, z, rfl, rfl, hk, hz0, hz1, hb, H⟩ := hrel
      by_cases hlt : k < n
      · obtain ⟨b, o, x, rfl, hB, hx, c0, c1, c2⟩ := (hr.next hb).fac hlt
        have hxm : x.l.size ≤ maxLen := hs x (List.mem_of_getElem? hx)
        have hz2 := szFac_le z x hz0 hz1
        have H' := Lib.hid (show (if szFac z x < 0 then -1 else szFacs (szFac z x) (fs.drop (k + 1))) = szFacAll left fs by
          rw [← H.out, List.drop_eq_getElem?_toList_append (i := k), hx]; rfl)
        have Hx := Lib.hid hx; clear hx H
        by_cases hc : szFac z x < 0
        · go_wp2_with (go_at_call 62; refine (szRule_any x z _ hz0 hz1 hxm).mono ?_; rintro e w1 ⟨rfl, hb1⟩)
          go_ret
          exact ⟨ret_int (by rw [← H'.out, if_pos hc]), hb.trans (hb1.mono hb.size)⟩
        · go_wp2_with (go_at_call 62; refine (szRule_any x z _ hz0 hz1 hxm).mono ?_; rintro e w1 ⟨rfl, hb1⟩)
          go_roundw
          case rel => exact ⟨k + 1, _, by go_num, rfl, by omega, by omega, by omega, hb.trans (hb1.mono hb.size), by rw [← H'.out, if_neg (Int.not_lt.2 hc)]; exact Lib.hid rfl⟩
          case measure => simp [intOf]; omega
      · go_wp2
        go_ret
        exact ⟨ret_int (by rw [← H.out, List.drop_of_length_le (by rw [hl.out]; omega)]; rfl), hb⟩

set_option maxHeartbeats 400000 in
theorem toRule_any (f : Fac) (w : World) :
    Calls Try.prog 68 #[f.val] w (Ret f.val w) := by
  unfold Fac.val
  go_enter Try.func68, Try.ntmps68
  go_wp2
  refine bodyPost_ret (v := .agg #[.string f.l, .int .i64 f.a, .int .i64 f.b]) (by simp [results, Try.results68, go_sem]) rfl ⟨rfl, ?_⟩
  (repeat first | exact Below.refl _ _ | assumption | refine Below.drew ?_ | refine Below.alloc ?_ (by first | exact Nat.le_refl _ | (simp; done) | omega | (simp; omega)) _ | refine Below.setCell ?_ (by first | exact Nat.le_refl _ | (simp; done) | omega | (simp; omega)) _)

set_option maxHeartbeats 400000 in
theorem eqRule_any (f g : Fac) (w : World) :
    Calls Try.prog 59 #[f.val, g.val] w (Ret (.bool (decide (f = g))) w) := by
  have e := Lib.hid (eq_fac f g)
  unfold Fac.val
  go_enter Try.func59, Try.ntmps59
  go_wp2
  all_goals go_ret
  all_goals refine ⟨ret_bool ?_, by (repeat first | exact Below.refl _ _ | assumption | refine Below.drew ?_ | refine Below.alloc ?_ (by first | exact Nat.le_refl _ | (simp; done) | omega | (simp; omega)) _ | refine Below.setCell ?_ (by first | exact Nat.le_refl _ | (simp; done) | omega | (simp; omega)) _)⟩
  all_goals (rw [e.out]; simp_all [tl_inj])

theorem neq_rule (f g : Fac) (W : World) : (binOp .neq 44 (.agg #[.string f.l, .int .i64 f.a, .int .i64 f.b]) (.agg #[.string g.l, .int .i64 g.a, .int .i64 g.b])).run Try.prog W = .ok (.bool (!decide (f = g))) W := by
  rw [eq_fac]
  simp [go_sem, tl_inj]
  by_cases h1 : f.l = g.l <;> by_cases h2 : f.a = g.a <;> by_cases h3 : f.b = g.b <;> simp [h1, h2, h3]

set_option maxHeartbeats 400000 in
theorem eqRuleS_any (A D : Option Addr) (n c m d : Nat) (xs ys : List Fac) (w : World) (hn : n ≤ maxLen) (hm : m ≤ maxLen)
    (hx : Rd w w.heap.size A n 3 Fac.cells xs) (hy : Rd w w.heap.size D m 3 Fac.cells ys) :
    Calls Try.prog 32 #[.slice A n c, .slice D m d] w (Ret (.bool (decide (xs = ys))) w) := by
  have hl := Lib.hid hx.len
  have hl' := Lib.hid hy.len
  unfold maxLen at hn hm
  by_cases h : n = m
  · obtain rfl := h
    have HR := Lib.hid (show eqFacs (xs.drop 0) (ys.drop 0) = decide (xs = ys) from eqFacs_eq _ _ (by rw [List.drop_zero, List.drop_zero, hl.out, hl'.out]))
    go_enter Try.func32, Try.ntmps32
    go_wp2
    go_loopw [5] (fun i w' => ∃ k : Nat, i = .int .i64 k ∧ k ≤ n ∧ Below w.heap.size w w' ∧ Hid (eqFacs (xs.drop k) (ys.drop k) = decide (xs = ys))) (fun i _ => n - (intOf i).toNat)
    case atStart => exact ⟨0, rfl, by omega, Below.refl _ _, HR⟩
    case round =>
      obtain ⟨k, rfl, hk, hb, H⟩ := hrel
      by_cases hlt : k < n
      · obtain ⟨b, o, x, rfl, hB, gx, c0, c1, c2⟩ := (hx.next hb).fac hlt
        obtain ⟨b', o', y, rfl, hB', gy, d0, d1, d2⟩ := (hy.next hb).fac hlt
        have H' := Lib.hid (show (decide (x = y) && eqFacs (xs.drop (k + 1)) (ys.drop (k + 1))) = decide (xs = ys) by
          rw [← H.out, drop_cons gx, drop_cons gy]; rfl)
        clear gx gy H hx hy HR
        have hup := upc wr.heap.size wr
        have i0 : (0 : Int) ≤ (k : Int) := by omega
        have i1 : (k : Int) < (n : Int) := by omega
        by_cases he : x = y
        · have he' := Lib.hid (show decide (x = y) = true by simpa using he)
          clear he
          go_wp2_with fail
          refine wp_region_up wr.heap.size (by kernel_rfl) (by kernel_rfl) ?_
          repeat (go_big_quiet_step ((go_at_call 59; exact Calls.up (Nat.le_refl _) (he'.out ▸ eqRule_any x y _))))
          refine wpQuiet_nil ?_
          intro w2 hw2
          have hb2 := up_of hw2
          go_wp2
          go_roundw
          case rel => exact ⟨k + 1, by go_num, by omega, hb.trans (hb2.mono hb.size), by rw [← H'.out, he'.out, Bool.true_and]; exact Lib.hid rfl⟩
          case measure => simp [intOf]; omega
        · have he' := Lib.hid (show decide (x = y) = false by simpa using he)
          clear he
          go_wp2_with fail
          refine wp_region_up wr.heap.size (by kernel_rfl) (by kernel_rfl) ?_
          repeat (go_big_quiet_step ((go_at_call 59; exact Calls.up (Nat.le_refl _) (he'.out ▸ eqRule_any x y _))))
          refine wpQuiet_nil ?_
          intro w2 hw2
          have hb2 := up_of hw2
          go_wp2
          go_ret
          exact ⟨ret_bool (by rw [← H'.out, he'.out, Bool.false_and]), hb.trans (hb2.mono hb.size)⟩
      · go_wp2
        go_ret
        exact ⟨ret_bool (by rw [← H.out, List.drop_of_length_le (by rw [hl.out]; omega)]; rfl), hb⟩
  · have e := Lib.hid (show decide (xs = ys) = false by simp; rintro rfl; exact h (hl.out.symm.trans hl'.out))
    go_enter Try.func32, Try.ntmps32
    go_wp2
    go_ret
    exact ⟨ret_bool e.out.symm, Below.refl _ _⟩
theorem info_iRule : (Try.prog.info? 44).map (fun i => (i.zero, i.size, i.bytes)) = some (some (.agg #[.string .empty, .int .i64 0, .int .i64 0]), 3, 32) := by kernel_rfl
set_option maxHeartbeats 400000 in
theorem toRuleS_any (A : Option Addr) (n c : Nat) (fs : List Fac) (w : World) (hn : n ≤ 1048576)
    (hr : Rd w w.heap.size A n 3 Fac.cells fs) :
    Calls Try.prog 47 #[.slice A n c] w (RetNew w 44 3 Fac.cells fs) := by
  obtain ⟨i0, hi, hz0, hz1, hz2⟩ := info_parts info_iRule
  have hl := Lib.hid hr.len
  have hmk := fun W => run_make_rowN (P := Try.prog) 22 44 i0 _ Try.underlying22 hi hz0 .i64 .i64 n n (Nat.le_refl _) (by rw [hz2]; omega) (by omega) W
  rw [hz1] at hmk
  go_enter Try.func47, Try.ntmps47
  go_wp2
  go_loopw [4] (fun i w' => ∃ (k : Nat) (cs : Array Value), i = .int .i64 k ∧ k ≤ n ∧ Below w.heap.size w w' ∧ Hid (Blk w' w.heap.size 44 cs) ∧ Hid (cs.size = n * 3) ∧
      Hid (∀ i y, i < k → fs[i]? = some y → ∀ j, j < 3 → cs[i * 3 + j]? = y.cells[j]?)) (fun i _ => n - (intOf i).toNat)
  case atStart => exact ⟨0, _, rfl, by omega, (Below.refl _ _).alloc (Nat.le_refl _) _, Lib.hid (Blk.new _ _ _), Lib.hid (size_madeCells _ _), Lib.hid (fun i y h => absurd h (by omega))⟩
  case round =>
    obtain ⟨k, cs, rfl, hk, hb, hB, hs, hc⟩ := hrel
    by_cases hlt : k < n
    · obtain ⟨b, o, x, rfl, hB', gx, c0, c1, c2⟩ := (hr.below hb).fac hlt
      have Gx := Lib.hid gx; clear gx
      have hsz := hB.out.lt
      go_wp2_with fail
      refine (toRule_any x _).mono ?_
      rintro e w1 ⟨rfl, hb1⟩
      have hB1 := hB.out.next hb1
      have hlt1 : k * 3 + 2 < cs.size := by rw [hs.out]; omega
      have s0 := (hB1.cell (k * 3)).trans (Array.getElem?_eq_getElem (by omega))
      have s1 := (hB1.cell (k * 3 + 1)).trans (Array.getElem?_eq_getElem (by omega))
      have s2 := (hB1.cell (k * 3 + 2)).trans (Array.getElem?_eq_getElem (by omega))
      have f0 := hB1.frozen
      have HB1 := Lib.hid hB1; clear hB1
      go_wp2
      go_roundw
      case rel =>
        obtain ⟨q1, q2⟩ := fill3 hs.out hlt Gx.out hc.out
        exact ⟨k + 1, _, by go_num, by omega, (((hb.trans (hb1.mono hb.size)).setCell (Nat.le_refl _) _).setCell (Nat.le_refl _) _).setCell (Nat.le_refl _) _,
          Lib.hid (((HB1.out.set_ _ _).set_ _ _).set_ _ _), Lib.hid q1, Lib.hid q2⟩
      case measure => simp [intOf]; omega
    · go_wp2
      go_ret
      refine ⟨some ⟨w.heap.size, 0, none⟩, n, ret_slice hl.out.symm, ?_, hb⟩
      rw [hl.out]
      exact own_of_blk hB.out (Nat.le_refl _) hs.out hl.out (by unfold maxLen; omega) (fun _ _ => rfl) (fun i y hy j hj => hc.out i y (by have := (List.getElem?_eq_some_iff.1 hy).1; rw [hl.out] at this; omega) hy j hj)
end Go.Proofs.Ytikhjoianbndhaa
