
/-
  slices.ContainsFunc over rows of numbers and of texts, by the contract of the function that it is handed.
-/
import Derived.Test.YtcpofhjoblgmgaaDoorIdxR
import Derived.Test.YtcpofhjoblgmgaaDoorInts
import Derived.Test.YtcpofhjoblgmgaaDoorRag
namespace Go.Proofs.YtcpofhjoblgmgaaDoor
open Go.RowKit

set_option maxHeartbeats 1000000 in
theorem indexRowI_any (fp : Nat) (ep : EnterOk fp) (cp : Array Value) (p : List Int → Bool) (A : Option Addr) (n c : Nat) (hs : List RowH) (zs : List (List Int)) (w : World) (hn : n ≤ 1048576) (hr : RdT w w.heap.size A n intE hs zs)
    (hP : ∀ (k : Nat) (q : RowH) (x : List Int), zs[k]? = some x → hs[k]? = some q → ∀ w', Below w.heap.size w w' → Rd w' w'.heap.size q.A q.n 1 intE x → Calls Tryd.prog fp (#[.slice q.A q.n q.c] ++ cp) w' (Ret (.bool (p x)) w')) :
    Calls Tryd.prog 53 #[.slice A n c, .func (.func fp) #[] cp] w (Ret (.int .i64 (findI p zs 0)) w) := by
  have hl := Lib.hid hr.len
  have HP := Lib.hid hP; clear hP
  have HR := Lib.hid hr; clear hr
  unfold EnterOk at ep
  go_enter Tryd.func53, Tryd.ntmps53
  go_wp2_with fail
  go_loopw [8] (fun i_ w' => ∃ k : Nat, i_ = .int .i64 k ∧ k ≤ n ∧ Below w.heap.size w w' ∧ Hid (findI p (zs.drop k) k = findI p zs 0)) (fun i_ _ => n - (intOf i_).toNat)
  case atStart => exact ⟨0, rfl, by omega, Below.refl _ _, Lib.hid rfl⟩
  case round =>
    obtain ⟨k, rfl, hk, hb, H⟩ := hrel
    by_cases hlt : k < n
    · obtain ⟨b, o, q, x, rfl, hB, gq, gx, c0, rx⟩ := (HR.out.next hb).at_ hlt
      have H' := Lib.hid (show (if p x = true then (k : Int) else findI p (zs.drop (k + 1)) (k + 1)) = findI p zs 0 by rw [← H.out, drop_cons gx]; rfl)
      have hc := HP.out k q x gx gq wr hb rx
      clear gx gq H rx
      rcases hp : p x with _ | _
      all_goals
        rw [hp] at hc
        have Hp := Lib.hid hp; clear hp
        have Hc := Lib.hid hc; clear hc
        go_wp2_with fail
        refine Hc.out.mono ?_
        rintro e w1 ⟨rfl, hb1⟩
        go_wp2_with fail
        first
          | (go_ret
             exact ⟨ret_int (by rw [← H'.out, Hp.out]; rfl), hb.trans (hb1.mono hb.size)⟩)
          | (go_roundw
             case rel => exact ⟨k + 1, by go_num, by omega, hb.trans (hb1.mono hb.size), Lib.hid (by rw [← H'.out, Hp.out]; rfl)⟩
             case measure => simp [intOf]; omega)
    · go_wp2_with fail
      go_ret
      exact ⟨ret_int (by rw [← H.out, List.drop_of_length_le (by rw [hl.out]; omega)]; rfl), hb⟩
theorem containsRowI_any (fp : Nat) (ep : EnterOk fp) (cp : Array Value) (p : List Int → Bool) (A : Option Addr) (n c : Nat) (hs : List RowH) (zs : List (List Int)) (w : World) (hn : n ≤ 1048576) (hr : RdT w w.heap.size A n intE hs zs)
    (hP : ∀ (k : Nat) (q : RowH) (x : List Int), zs[k]? = some x → hs[k]? = some q → ∀ w', Below w.heap.size w w' → Rd w' w'.heap.size q.A q.n 1 intE x → Calls Tryd.prog fp (#[.slice q.A q.n q.c] ++ cp) w' (Ret (.bool (p x)) w')) :
    Calls Tryd.prog 39 #[.slice A n c, .func (.func fp) #[] cp] w (Ret (.bool (zs.any p)) w) := by
  have e := Lib.hid (findI_any p zs 0 (by omega))
  have Hc := Lib.hid (indexRowI_any fp ep cp p A n c hs zs w hn hr hP)
  clear hP hr
  go_enter Tryd.func39, Tryd.ntmps39
  go_wp2_with fail
  refine Hc.out.mono ?_
  rintro e1 w1 ⟨rfl, hb1⟩
  go_wp2_with fail
  go_ret
  exact ⟨ret_bool e.out, hb1⟩
end Go.Proofs.YtcpofhjoblgmgaaDoor
