/-
  All places of a word at which another one begins, in the reference.
-/
import Derived.Test.YtkknhpailohjcaaLet
import Derived.Test.YtkknhpailohjcaaOwn
import Derived.Test.YtkknhpailohjcaaFoldM
namespace Go.Proofs.Ytkknhpailohjcaa
open Go.RowKit

/-- the places before one at which a word begins -/
def fndT (p s : ByteArray) (k : Nat) : List Int := ((List.range k).filter (fun i => decide (s.extract i (i + p.size) = p))).map (fun (i : Nat) => (i : Int))
def fndL (p s : ByteArray) : List Int := fndT p s (s.size + 1 - p.size)
theorem fndT_yes {p s : ByteArray} {k : Nat} (h : s.extract k (k + p.size) = p) : fndT p s (k + 1) = fndT p s k ++ [(k : Int)] := by
  simp [fndT, List.range_succ, h]
theorem fndT_no {p s : ByteArray} {k : Nat} (h : ¬ s.extract k (k + p.size) = p) : fndT p s (k + 1) = fndT p s k := by
  simp [fndT, List.range_succ, h]
theorem fndT_len (p s : ByteArray) (k : Nat) : (fndT p s k).length ≤ k := by
  unfold fndT
  rw [List.length_map]
  exact Nat.le_trans (List.length_filter_le _ _) (by simp)
set_option maxHeartbeats 1000000 in
set_option maxRecDepth 100000 in
theorem l01Found_any (p s : ByteArray) (w : World) (hp : p.size ≤ 1048576) (hs : s.size ≤ 1048576) :
    Calls Try.prog 101 #[.string p, .string s] w (RetNew w 2 1 intE (fndL p s)) := by
  go_enter Try.func101, Try.ntmps101
  go_wp2_with fail
  go_loopw [5, 6] (fun o_ i_ w' => ∃ (k n : Nat) (A' : Option Addr) (c' : Nat), i_ = .int .i64 k ∧ o_ = .slice A' n c' ∧ k ≤ s.size + 1 - p.size ∧ n ≤ k ∧ Hid ((fndT p s k).length = n) ∧
      Hid (w'.ownsRow w.heap.size 2 1 (.slice A' n c') n ((fndT p s k).flatMap intE)) ∧ Below w.heap.size w w') (fun _ i_ _ => s.size + 1 - (intOf i_).toNat)
  case atStart =>
    exact ⟨0, 0, _, 0, rfl, rfl, by omega, by omega, Lib.hid rfl, Lib.hid (by simpa [fndT] using World.ownsRow_made (base := w.heap.size) (e := 2) (size := 1) w #[] 0 (by simp) (by unfold maxLen; omega) rfl), by (repeat first | exact Below.refl _ _ | assumption | refine Below.drew ?_ | refine Below.alloc ?_ (by first | exact Nat.le_refl _ | (simp; done) | omega | (simp; omega)) _ | refine Below.setCell ?_ (by first | exact Nat.le_refl _ | (simp; done) | omega | (simp; omega)) _)⟩
  case round =>
    obtain ⟨k, n, A', c', rfl, rfl, hk, hn, hl, hown, hb⟩ := hrel
    by_cases hlt : k + p.size ≤ s.size
    · by_cases he : s.extract k (k + p.size) = p
      · have hst := Lib.hid (fndT_yes he)
        have hq : ((s.extract k (k + p.size)).toList == p.toList) = true := by rw [tl_beq]; simpa using he
        clear he
        go_wp2_with
          (at_builtin
           refine wpList_push (w0 := w) rfl _ _ _ rfl w.heap.size 2 1 8 elem_int intE _ n c' (fndT p s k) rfl (hown.out.alloc _) wr.heap.size (k : Int) #[.int .i64 (k : Int)] 2 (0, 0) rfl (heap_alloc_new _ _) rfl rfl (by simp [intE, Value.oneCell']) (by omega) (by omega) (by unfold maxLen; omega) rfl (hb.alloc hb.size _) ?_
           intro A9 c9 w9 own9 hg9 hat9 hb9
           have O9 := Lib.hid own9; clear own9)
        go_roundw
        case rel => exact ⟨k + 1, n + 1, A9, c9, by go_num, rfl, by omega, by omega, Lib.hid (by rw [hst.out, List.length_append, hl.out]; rfl), Lib.hid (by rw [hst.out]; exact O9.out), hb9⟩
        case measure => simp [intOf]; omega
      · have hst := Lib.hid (fndT_no he)
        have hq : ((s.extract k (k + p.size)).toList == p.toList) = false := by rw [tl_beq]; simpa using he
        clear he
        go_wp2_with fail
        go_roundw
        case rel => exact ⟨k + 1, n, A', c', by go_num, rfl, by omega, by omega, Lib.hid (by rw [hst.out]; exact hl.out), Lib.hid (by rw [hst.out]; exact hown.out), hb⟩
        case measure => simp [intOf]; omega
    · have hkk : k = s.size + 1 - p.size := by omega
      have e := Lib.hid (show fndL p s = fndT p s k by unfold fndL; rw [hkk])
      clear hkk
      go_wp2_with fail
      go_ret
      refine ⟨A', c', ret_slice (by rw [e.out, hl.out]), ?_, hb⟩
      rw [e.out, hl.out]
      exact hown.out
end Go.Proofs.Ytkknhpailohjcaa
