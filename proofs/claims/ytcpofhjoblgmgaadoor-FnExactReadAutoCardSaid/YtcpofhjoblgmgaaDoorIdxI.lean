
/-
  slices.ContainsFunc over numbers, by the contract of the function that it is handed.
-/
import Derived.Test.YtcpofhjoblgmgaaDoorIdxR
import Derived.Test.YtcpofhjoblgmgaaDoorInts
namespace Go.Proofs.YtcpofhjoblgmgaaDoor
open Go.RowKit

set_option maxHeartbeats 1000000 in
theorem indexInt_any (fp : Nat) (ep : EnterOk fp) (cp : Array Value) (p : Int → Bool) (A : Option Addr) (n c : Nat) (zs : List Int) (w : World) (hn : n ≤ 1048576) (hr : Rd w w.heap.size A n 1 intE zs)
    (hP : ∀ (k : Nat) (x : Int), zs[k]? = some x → ∀ w', Below w.heap.size w w' → Calls Tryd.prog fp (#[.int .i64 x] ++ cp) w' (Ret (.bool (p x)) w')) :
    Calls Tryd.prog 54 #[.slice A n c, .func (.func fp) #[] cp] w (Ret (.int .i64 (findI p zs 0)) w) := by
  have hl := Lib.hid hr.len
  have HP := Lib.hid hP; clear hP
  unfold EnterOk at ep
  go_enter Tryd.func54, Tryd.ntmps54
  go_wp2_with fail
  go_loopw [8] (fun i_ w' => ∃ k : Nat, i_ = .int .i64 k ∧ k ≤ n ∧ Below w.heap.size w w' ∧ Hid (findI p (zs.drop k) k = findI p zs 0)) (fun i_ _ => n - (intOf i_).toNat)
  case atStart => exact ⟨0, rfl, by omega, Below.refl _ _, Lib.hid rfl⟩
  case round =>
    obtain ⟨k, rfl, hk, hb, H⟩ := hrel
    by_cases hlt : k < n
    · obtain ⟨b, o, x, rfl, hB, gx, c0⟩ := (show Rd wr wr.heap.size A n 1 (fun s => [.int .i64 s]) zs from hr.next hb).int hlt
      have H' := Lib.hid (show (if p x = true then (k : Int) else findI p (zs.drop (k + 1)) (k + 1)) = findI p zs 0 by rw [← H.out, drop_cons gx]; rfl)
      have hc := HP.out k x gx wr hb
      clear gx H
      rcases hp : p x with _ | _
      all_goals
        rw [hp] at hc
        have Hp := Lib.hid hp; clear hp
        have Hc := Lib.hid hc; clear hc
        go_wp2_with fail
        refine Hc.out.mono ?_
        rintro e w1 ⟨rfl, hb1⟩
        go_wp2_with fail
        first
          | (go_ret
             exact ⟨ret_int (by rw [← H'.out, Hp.out]; rfl), hb.trans (hb1.mono hb.size)⟩)
          | (go_roundw
             case rel => exact ⟨k + 1, by go_num, by omega, hb.trans (hb1.mono hb.size), Lib.hid (by rw [← H'.out, Hp.out]; rfl)⟩
             case measure => simp [intOf]; omega)
    · go_wp2_with fail
      go_ret
      exact ⟨ret_int (by rw [← H.out, List.drop_of_length_le (by rw [hl.out]; omega)]; rfl), hb⟩
theorem containsInt_any (fp : Nat) (ep : EnterOk fp) (cp : Array Value) (p : Int → Bool) (A : Option Addr) (n c : Nat) (zs : List Int) (w : World) (hn : n ≤ 1048576) (hr : Rd w w.heap.size A n 1 intE zs)
    (hP : ∀ (k : Nat) (x : Int), zs[k]? = some x → ∀ w', Below w.heap.size w w' → Calls Tryd.prog fp (#[.int .i64 x] ++ cp) w' (Ret (.bool (p x)) w')) :
    Calls Tryd.prog 41 #[.slice A n c, .func (.func fp) #[] cp] w (Ret (.bool (zs.any p)) w) := by
  have e := Lib.hid (findI_any p zs 0 (by omega))
  have Hc := Lib.hid (indexInt_any fp ep cp p A n c zs w hn hr hP)
  clear hP hr
  go_enter Tryd.func41, Tryd.ntmps41
  go_wp2_with fail
  refine Hc.out.mono ?_
  rintro e1 w1 ⟨rfl, hb1⟩
  go_wp2_with fail
  go_ret
  exact ⟨ret_bool e.out, hb1⟩
end Go.Proofs.YtcpofhjoblgmgaaDoor
