
/-
  Whether an automaton is valid, on both sides.
-/
import Derived.Test.YtcpofhjoblgmgaaDoorAuM
namespace Go.Proofs.YtcpofhjoblgmgaaDoor
open Go.RowKit

/-- the number ahead of a place -/
def prvA (l : List Int) (k : Nat) : Option Int := if k = 0 then none else some (l.getD (k - 1) 0)
theorem prv_next {l : List Int} {k : Nat} {x : Int} (h : l[k]? = some x) : prvA l (k + 1) = some x := by
  unfold prvA
  rw [if_neg (by omega), Nat.add_sub_cancel, List.getD_eq_getElem?_getD, h]; rfl
theorem ris_step {hi : Int} {l : List Int} {k : Nat} {x : Int} (h : l[k]? = some x) : risB hi (prvA l k) (l.drop k) = ((inB x 0 hi && (match prvA l k with | none => true | some y => decide (y < x))) && risB hi (prvA l (k + 1)) (l.drop (k + 1))) := by
  rw [prv_next h, drop_cons h]; rfl
set_option maxHeartbeats 1000000 in
set_option maxRecDepth 100000 in
theorem validAuto_any (S q : Int) (F : Option Addr) (nf cf : Nat) (fin : List Int) (A : Option Addr) (n c : Nat) (hs : List RowH) (nx : List (List Int)) (w : World) (hnf : nf ≤ 1048576) (hn : n ≤ 1048576) (hf : Rd w w.heap.size F nf 1 intE fin)
    (hr : RdT w w.heap.size A n intE hs nx) (hsz : ∀ r ∈ nx, r.length ≤ 1048576) (b : Bool) (hb : auB ⟨S, q, fin, nx⟩ = b) :
    Calls Tryd.prog 15 #[.agg #[.int .i64 S, .int .i64 q, .slice F nf cf, .slice A n c]] w (Ret (.bool b) w) := by
  have HF := Lib.hid hf
  have hlen := hf.len
  have HR := Lib.hid hr
  have Hb := Lib.hid (show (mchB S q nx && risB (w1 S) (prvA fin 0) (fin.drop 0)) = b from hb)
  have HM := Lib.hid (fun W (h : Below w.heap.size w W) => isMachine_any S q A n c hs nx W hn (HR.out.next h) hsz _ rfl)
  clear hf hr hb HR
  generalize mchB S q nx = M at *
  have ew : IntKind.i64.wrap (S - 1) = w1 S := rfl
  generalize w1 S = S1 at *
  have B0 := Lib.hid (Blk.new w 25 #[.int .i64 S, .int .i64 q, .slice F nf cf, .slice A n c])
  have b0 := Lib.hid (show Below w.heap.size w (w.alloc (.cells #[.int .i64 S, .int .i64 q, .slice F nf cf, .slice A n c] 25)) from by (repeat first | exact Below.refl _ _ | assumption | refine Below.drew ?_ | refine Below.alloc ?_ (by first | exact Nat.le_refl _ | (simp; done) | omega | (simp; omega)) _ | refine Below.setCell ?_ (by first | exact Nat.le_refl _ | (simp; done) | omega | (simp; omega)) _))
  go_enter Tryd.func15, Tryd.ntmps15
  go_wp2_with fail
  refine named fun w0 H0 => ?_
  have B1 := Lib.hid (show Blk w0 w.heap.size 25 #[.int .i64 S, .int .i64 q, .slice F nf cf, .slice A n c] by rw [H0.out]; exact B0.out)
  have b1 := Lib.hid (show Below w.heap.size w w0 by rw [H0.out]; exact b0.out)
  clear H0 B0 b0
  go_loopw [8] (fun i_ w' => ∃ k : Nat, i_ = .int .i64 k ∧ k ≤ nf ∧ Hid (Below w.heap.size w w') ∧ Hid (Blk w' w.heap.size 25 #[.int .i64 S, .int .i64 q, .slice F nf cf, .slice A n c]) ∧ Hid ((M && risB S1 (prvA fin k) (fin.drop k)) = b)) (fun i_ _ => nf - (intOf i_).toNat)
  case atStart => exact ⟨0, rfl, by omega, b1, B1, Hb⟩
  case round =>
    obtain ⟨k, rfl, hk, hb, B, H⟩ := hrel
    clear B1 b1 Hb
    have z0 := B.out.cell 0
    have z1 := B.out.cell 1
    have z2 := B.out.cell 2
    have z3 := B.out.cell 3
    have zl := B.out.lt
    by_cases hlt : k < nf
    · obtain ⟨p, o, x, rfl, hB, gx, c0⟩ := (show Rd _ _ F nf 1 (fun s => [.int .i64 s]) fin from HF.out.next hb.out).int hlt
      have H' := Lib.hid (show (M && ((inB x 0 S1 && (match prvA fin k with | none => true | some y => decide (y < x))) && risB S1 (prvA fin (k + 1)) (fin.drop (k + 1)))) = b by rw [← ris_step gx]; exact H.out)
      have W1 := Lib.hid (fun W => within_any x 0 S1 (inB x 0 S1) W rfl)
      have i0 : (0 : Int) ≤ (k : Int) := by omega
      have i1 : (k : Int) < (nf : Int) := by omega
      generalize inB x 0 S1 = bx at *
      clear H gx
      rcases bx with _ | _
      · go_wp2_with fail
        refine (W1.out _).mono ?_
        rintro e w2 ⟨rfl, hb2⟩
        go_wp2_with fail
        go_ret
        exact ⟨ret_bool (by rw [← H'.out]; cases M <;> rfl), hb.out.trans (hb2.mono hb.out.size)⟩
      rcases Nat.eq_zero_or_pos k with hk0 | hk0
      · have hp0 : prvA fin k = none := if_pos hk0
        have HX := Lib.hid (show (M && risB S1 (prvA fin (k + 1)) (fin.drop (k + 1))) = b by rw [← H'.out, hp0]; rfl)
        have n0 : ¬ (0 : Int) < (k : Int) := by omega
        clear H' hp0 hk0
        go_wp2_with fail
        refine (W1.out _).mono ?_
        rintro e w2 ⟨rfl, hb2⟩
        have b2 := Lib.hid (hb.out.trans (hb2.mono hb.out.size))
        have B2 := Lib.hid (B.out.next hb2)
        go_wp2_with fail
        go_roundw
        case rel => exact ⟨k + 1, by go_num, by omega, b2, B2, HX⟩
        case measure => simp [intOf]; omega
      · obtain ⟨j, rfl⟩ : ∃ j, k = j + 1 := ⟨k - 1, by omega⟩
        obtain ⟨p', o', y, hA, hB', gy, d0⟩ := (show Rd _ _ (some ⟨p, o, none⟩) nf 1 (fun s => [.int .i64 s]) fin from HF.out.next hb.out).int (k := j) (by omega)
        obtain ⟨rfl, rfl⟩ : p = p' ∧ o = o' := by injection hA with hA; injection hA with h1 h2; exact ⟨h1, h2⟩
        have hp := prv_next gy
        have H2 := Lib.hid (show (M && (decide (y < x) && risB S1 (prvA fin (j + 1 + 1)) (fin.drop (j + 1 + 1)))) = b by rw [← H'.out, hp]; rfl)
        have e1 : ((j + 1 : Nat) : Int) = (j : Int) + 1 := by omega
        have u1 : IntKind.i64.wrap ((j : Int) + 1 - 1) = (j : Int) := by rw [IntWalk.i64_in _ (by omega)]; omega
        have k1 : (0 : Int) < (j : Int) + 1 := by omega
        have j0 : (0 : Int) ≤ (j : Int) := by omega
        have j1 : (j : Int) < (nf : Int) := by omega
        have c0 : wr.cell? ⟨p, o + (j + 1), none⟩ = some (.int .i64 x) := c0
        clear gy hp H' hA
        by_cases hyx : y < x
        · have HX := Lib.hid (show (M && risB S1 (prvA fin (j + 1 + 1)) (fin.drop (j + 1 + 1))) = b by rw [← H2.out, decide_eq_true hyx]; rfl)
          have n1 : ¬ x ≤ y := by omega
          clear H2
          go_wp2_with fail
          refine (W1.out _).mono ?_
          rintro e w2 ⟨rfl, hb2⟩
          have b2 := Lib.hid (hb.out.trans (hb2.mono hb.out.size))
          have B2 := Lib.hid (B.out.next hb2)
          have z2 := B2.out.cell 2
          have zl := B2.out.lt
          have d1 : w2.cell? ⟨p, o + j, none⟩ = some (.int .i64 y) := (hb2.cell (p := ⟨p, o + j, none⟩) hB).trans d0
          have hB2 : p < w2.heap.size := Nat.lt_of_lt_of_le hB hb2.size
          clear z0 z1 z3 d0 c0
          go_wp2_with fail
          go_roundw
          case rel => exact ⟨j + 1 + 1, by go_num, by omega, b2, B2, HX⟩
          case measure => simp [intOf]; omega
        · have HX := Lib.hid (show (false : Bool) = b by rw [← H2.out, decide_eq_false hyx]; cases M <;> rfl)
          have n1 : x ≤ y := by omega
          clear H2
          go_wp2_with fail
          refine (W1.out _).mono ?_
          rintro e w2 ⟨rfl, hb2⟩
          have b2 := Lib.hid (hb.out.trans (hb2.mono hb.out.size))
          have B2 := Lib.hid (B.out.next hb2)
          have z2 := B2.out.cell 2
          have zl := B2.out.lt
          have d1 : w2.cell? ⟨p, o + j, none⟩ = some (.int .i64 y) := (hb2.cell (p := ⟨p, o + j, none⟩) hB).trans d0
          have hB2 : p < w2.heap.size := Nat.lt_of_lt_of_le hB hb2.size
          clear z0 z1 z3 d0 c0
          go_wp2_with fail
          go_ret
          exact ⟨ret_bool HX.out, b2.out⟩
    · have ht : fin.drop k = [] := List.drop_of_length_le (by omega)
      have HX := Lib.hid (show M = b by rw [← H.out, ht]; cases M <;> rfl)
      have i1 : ¬ (k : Int) < (nf : Int) := by omega
      have HM1 := Lib.hid (HM.out wr hb.out)
      go_wp2_with fail
      refine HM1.out.mono ?_
      rintro e w2 ⟨rfl, hb2⟩
      go_wp2_with fail
      go_ret
      exact ⟨ret_bool HX.out, hb.out.trans (hb2.mono hb.out.size)⟩
set_option maxHeartbeats 1000000 in
set_option maxRecDepth 100000 in
theorem l00Rises_any (hi : Int) (F : Option Addr) (nf cf : Nat) (fin : List Int) (w : World) (hnf : nf ≤ 1048576) (hf : Rd w w.heap.size F nf 1 intE fin) (b : Bool) (hb : risB hi none fin = b) :
    Calls Tryd.prog 25 #[.slice F nf cf, .int .i64 0, .int .i64 hi] w (Ret (.bool b) w) := by
  have HF := Lib.hid hf
  have hlen := hf.len
  have Hb := Lib.hid (show risB hi (prvA fin 0) (fin.drop 0) = b from hb)
  clear hf hb
  go_enter Tryd.func25, Tryd.ntmps25
  go_wp2_with fail
  go_loopw [7] (fun i_ w' => ∃ k : Nat, i_ = .int .i64 k ∧ k ≤ nf ∧ Hid (Below w.heap.size w w') ∧ Hid (risB hi (prvA fin k) (fin.drop k) = b)) (fun i_ _ => nf - (intOf i_).toNat)
  case atStart => exact ⟨0, rfl, by omega, Lib.hid (Below.refl _ _), Hb⟩
  case round =>
    obtain ⟨k, rfl, hk, hb, H⟩ := hrel
    clear Hb
    by_cases hlt : k < nf
    · obtain ⟨p, o, x, rfl, hB, gx, c0⟩ := (show Rd _ _ F nf 1 (fun s => [.int .i64 s]) fin from HF.out.next hb.out).int hlt
      have H' := Lib.hid (show ((inB x 0 hi && (match prvA fin k with | none => true | some y => decide (y < x))) && risB hi (prvA fin (k + 1)) (fin.drop (k + 1))) = b by rw [← ris_step gx]; exact H.out)
      have W1 := Lib.hid (fun W => specIn_any x 0 hi (inB x 0 hi) W rfl)
      have i0 : (0 : Int) ≤ (k : Int) := by omega
      have i1 : (k : Int) < (nf : Int) := by omega
      generalize inB x 0 hi = bx at *
      clear H gx
      have hup := upc wr.heap.size wr
      rcases bx with _ | _
      · go_upto_region 4 with fail
        refine wp_region_up wr.heap.size (by kernel_rfl) (by kernel_rfl) ?_
        repeat (go_big_quiet_step ((go_at_call 24; with_reducible exact Calls.upR (Nat.le_refl _) (W1.out _))))
        refine wpQuiet_nil ?_
        intro w3 hup_w3
        have hb3 := up_of hup_w3
        go_wp2_with fail
        go_ret
        exact ⟨ret_bool (by rw [← H'.out]; rfl), hb.out.trans (hb3.mono hb.out.size)⟩
      rcases Nat.eq_zero_or_pos k with hk0 | hk0
      · have hp0 : prvA fin k = none := if_pos hk0
        have HX := Lib.hid (show risB hi (prvA fin (k + 1)) (fin.drop (k + 1)) = b by rw [← H'.out, hp0]; rfl)
        have n0 : ¬ (0 : Int) < (k : Int) := by omega
        have n00 : ¬ 0 < k := by omega
        have n01 : decide ((0 : Int) < (k : Int)) = false := decide_eq_false n0
        clear H' hp0 hk0
        go_upto_region 4 with fail
        refine wp_region_up wr.heap.size (by kernel_rfl) (by kernel_rfl) ?_
        repeat (go_big_quiet_step ((go_at_call 24; with_reducible exact Calls.upR (Nat.le_refl _) (W1.out _))))
        refine wpQuiet_nil ?_
        intro w3 hup_w3
        have hb3 := up_of hup_w3
        go_wp2_with fail
        go_roundw
        case rel => exact ⟨k + 1, by go_num, by omega, Lib.hid (hb.out.trans (hb3.mono hb.out.size)), HX⟩
        case measure => simp [intOf]; omega
      · obtain ⟨j, rfl⟩ : ∃ j, k = j + 1 := ⟨k - 1, by omega⟩
        obtain ⟨p', o', y, hA, hB', gy, d0⟩ := (show Rd _ _ (some ⟨p, o, none⟩) nf 1 (fun s => [.int .i64 s]) fin from HF.out.next hb.out).int (k := j) (by omega)
        obtain ⟨rfl, rfl⟩ : p = p' ∧ o = o' := by injection hA with hA; injection hA with h1 h2; exact ⟨h1, h2⟩
        have hp := prv_next gy
        have H2 := Lib.hid (show (decide (y < x) && risB hi (prvA fin (j + 1 + 1)) (fin.drop (j + 1 + 1))) = b by rw [← H'.out, hp]; rfl)
        have e1 : ((j + 1 : Nat) : Int) = (j : Int) + 1 := by omega
        have u1 : IntKind.i64.wrap ((j : Int) + 1 - 1) = (j : Int) := by rw [IntWalk.i64_in _ (by omega)]; omega
        have k1 : (0 : Int) < (j : Int) + 1 := by omega
        have j0 : (0 : Int) ≤ (j : Int) := by omega
        have j1 : (j : Int) < (nf : Int) := by omega
        have j2 : (j : Int) + 1 < (nf : Int) := by omega
        have c0 : wr.cell? ⟨p, o + (j + 1), none⟩ = some (.int .i64 x) := c0
        clear gy hp H' hA
        by_cases hyx : y < x
        · have HX := Lib.hid (show risB hi (prvA fin (j + 1 + 1)) (fin.drop (j + 1 + 1)) = b by rw [← H2.out, decide_eq_true hyx]; rfl)
          have n1 : ¬ x ≤ y := by omega
          clear H2
          go_upto_region 4 with fail
          refine wp_region_up wr.heap.size (by kernel_rfl) (by kernel_rfl) ?_
          repeat (go_big_quiet_step ((go_at_call 24; with_reducible exact Calls.upR (Nat.le_refl _) (W1.out _))))
          refine wpQuiet_nil ?_
          intro w3 hup_w3
          have hb3 := up_of hup_w3
          go_wp2_with fail
          go_roundw
          case rel => exact ⟨j + 1 + 1, by go_num, by omega, Lib.hid (hb.out.trans (hb3.mono hb.out.size)), HX⟩
          case measure => simp [intOf]; omega
        · have HX := Lib.hid (show (false : Bool) = b by rw [← H2.out, decide_eq_false hyx]; rfl)
          have n1 : x ≤ y := by omega
          clear H2
          go_upto_region 4 with fail
          refine wp_region_up wr.heap.size (by kernel_rfl) (by kernel_rfl) ?_
          repeat (go_big_quiet_step ((go_at_call 24; with_reducible exact Calls.upR (Nat.le_refl _) (W1.out _))))
          refine wpQuiet_nil ?_
          intro w3 hup_w3
          have hb3 := up_of hup_w3
          go_wp2_with fail
          go_ret
          exact ⟨ret_bool HX.out, hb.out.trans (hb3.mono hb.out.size)⟩
    · have ht : fin.drop k = [] := List.drop_of_length_le (by omega)
      have HX := Lib.hid (show true = b by rw [← H.out, ht]; rfl)
      have i1 : ¬ (k : Int) < (nf : Int) := by omega
      go_wp2_with fail
      go_ret
      exact ⟨ret_bool HX.out, hb.out⟩
end Go.Proofs.YtcpofhjoblgmgaaDoor
