/-
  Scattered words, counted: the reference.
-/
import Derived.Test.YtkknhpailohjcaaScatL
import Derived.Deep.RegionHeld3
namespace Go.Proofs.Ytkknhpailohjcaa
open Go.RowKit

def scId (m : Int) : Tb := fun a b => if b = a then 1 % m else 0
set_option maxHeartbeats 2000000 in
set_option maxRecDepth 100000 in
theorem l05Table_any (q : Nat) (m : Int) (w : World) (hq : q ≤ 8) (hm : 1 ≤ m) (hm2 : m ≤ 1000000000) :
    Calls Try.prog 90 #[.int .i64 (q : Int), .int .i64 m] w (RetRep (TabN (q + 1) w.heap.size) (scId m) w) := by
  obtain ⟨i0, hi, hz0, hz1, hz2⟩ := info_parts info_i64
  have hmk := run_make_rowN (P := Try.prog) 26 2 i0 _ Try.underlying26 hi hz0 .i64 .i64 (q + 1) (q + 1) (Nat.le_refl _) (by rw [hz2]; omega) (by omega)
  rw [hz1] at hmk
  have hm0 : ¬ m = 0 := by omega
  have re := emod_inT (a := 1) hm
  obtain ⟨re0, re1⟩ := re
  have u1 : IntKind.i64.wrap (1 % m) = 1 % m := IntWalk.i64_in _ (by omega)
  have v1 : (1 : Int).tmod m = 1 % m := Int.tmod_eq_emod_of_nonneg (by omega)
  have hqN : (q : Int) + 1 = ((q + 1 : Nat) : Int) := by omega
  generalize hN : q + 1 = N at *
  have HN := Lib.hid hN; clear hN
  have HqN := Lib.hid hqN
  go_enter Try.func90, Try.ntmps90
  go_wp2_with fail
  go_loopw [5, 6] (fun o_ i_ w' => ∃ (k : Nat) (A' : Option Addr) (c' : Nat) (gs : List Nat), i_ = .int .i64 k ∧ o_ = .slice A' k c' ∧ k ≤ N ∧ Below w.heap.size w w' ∧
      Hid (TabJ w' w.heap.size A' k c' N gs (tabL N (scId m)))) (fun _ i_ _ => N - (intOf i_).toNat)
  case atStart => exact ⟨0, _, 0, [], rfl, rfl, by omega, by (repeat first | exact Below.refl _ _ | assumption | refine Below.drew ?_ | refine Below.alloc ?_ (by first | exact Nat.le_refl _ | (simp; done) | omega | (simp; omega)) _ | refine Below.setCell ?_ (by first | exact Nat.le_refl _ | (simp; done) | omega | (simp; omega)) _), Lib.hid (made_nil' w w.heap.size N _ (Nat.le_refl _))⟩
  case round =>
    obtain ⟨k, A', c', gs, rfl, rfl, hk, hb, hT⟩ := hrel
    have sw := hb.size
    by_cases hlt : k < N
    · have mk0 := made_at (n := N) (j := k) hlt
      rw [← madeN] at mk0
      have hN9 : N ≤ 9 := by have := HN.out; omega
      have hkq : (k : Int) ≤ (q : Int) := by have := HN.out; omega
      have HTr := Lib.hid (fun (cs : Array Value) (A9 : Option Addr) (c9 : Nat) (w9 : World) => TabJ.row (w9 := w9) (A9 := A9) (c9 := c9) (cs := cs) hT.out hlt sw (by unfold maxLen; omega))
      have cs1 := Lib.hid (cs_one hlt (1 % m))
      go_wp2_with
        (at_builtin
         refine wpList_push (w0 := w) rfl _ _ _ rfl w.heap.size 26 1 24 elemSl (encH N) _ k c' gs rfl ((hT.out.o.alloc _).alloc _) (wr.heap.size + 1) wr.heap.size #[.slice (some ⟨wr.heap.size, 0, none⟩) N N] 26 (0, 0) rfl (by simpa using heap_alloc_new (wr.alloc _) _) rfl rfl (one_encH _ _) (by omega) (by omega) (by unfold maxLen; omega) rfl ((hb.alloc sw _).alloc (by simp; omega) _) ?_
         intro A9 c9 w9 own9 hg9 hat9 hb9
         have T9 := Lib.hid (HTr.out _ _ _ _ (by rw [madeN]; exact cs1.out.1) (by rw [madeN]; exact fun j hj => cs1.out.2 j hj) _ own9 hg9)
         clear own9 hat9 hg9)
      go_roundw
      case rel => exact ⟨k + 1, A9, c9, gs ++ [wr.heap.size], by go_num, rfl, by omega, hb9, T9⟩
      case measure => simp [intOf]; omega
    · have hkN : N = k := by omega
      subst hkN
      have hkq : ¬ ((N : Int) ≤ (q : Int)) := by have := HN.out; omega
      go_wp2_with fail
      go_ret
      exact ret_rep ⟨A', c', gs, rfl, hT.out⟩ hb
end Go.Proofs.Ytkknhpailohjcaa
