/-
  slices.IndexFunc and slices.ContainsFunc over rules, by the contract of the function that they are handed.
-/
import Derived.Test.YtpkhkippdigcjaaFoldI
namespace Go.Proofs.Ytpkhkippdigcjaa
open Go.RowKit

def findI {α : Type} (p : α → Bool) : List α → Int → Int
  | [], _ => -1
  | x :: r, i => if p x = true then i else findI p r (i + 1)
theorem findI_any {α : Type} (p : α → Bool) : ∀ (xs : List α) (i : Int), 0 ≤ i → (decide (0 ≤ findI p xs i) = xs.any p)
  | [], i, _ => rfl
  | x :: r, i, h => by
    unfold findI
    by_cases hp : p x = true
    · rw [if_pos hp]; simp [hp, h]
    · rw [if_neg hp, findI_any p r (i + 1) (by omega)]; simp [hp]

set_option maxHeartbeats 1000000 in
theorem indexRule_any (fp : Nat) (ep : EnterOk fp) (cp : Array Value) (p : Fac → Bool) (A : Option Addr) (n c : Nat) (rs : List Fac) (w : World) (hn : n ≤ 1048576) (hr : Rd w w.heap.size A n 3 Fac.cells rs)
    (hP : ∀ (k : Nat) (x : Fac), rs[k]? = some x → ∀ w', Below w.heap.size w w' → Calls Try.prog fp (#[x.val] ++ cp) w' (Ret (.bool (p x)) w')) :
    Calls Try.prog 78 #[.slice A n c, .func (.func fp) #[] cp] w (Ret (.int .i64 (findI p rs 0)) w) := by
  have hl := Lib.hid hr.len
  have HP := Lib.hid hP; clear hP
  unfold EnterOk at ep
  go_enter Try.func78, Try.ntmps78
  go_wp2_with fail
  go_loopw [8] (fun i_ w' => ∃ k : Nat, i_ = .int .i64 k ∧ k ≤ n ∧ Below w.heap.size w w' ∧ Hid (findI p (rs.drop k) k = findI p rs 0)) (fun i_ _ => n - (intOf i_).toNat)
  case atStart => exact ⟨0, rfl, by omega, Below.refl _ _, Lib.hid rfl⟩
  case round =>
    obtain ⟨k, rfl, hk, hb, H⟩ := hrel
    by_cases hlt : k < n
    · obtain ⟨b, o, x, rfl, hB, gx, c0, c1, c2⟩ := (hr.next hb).fac hlt
      have H' := Lib.hid (show (if p x = true then (k : Int) else findI p (rs.drop (k + 1)) (k + 1)) = findI p rs 0 by rw [← H.out, drop_cons gx]; rfl)
      have hc := HP.out k x gx wr hb
      clear gx H
      rcases hp : p x with _ | _
      all_goals
        rw [hp] at hc
        have Hp := Lib.hid hp; clear hp
        have Hc := Lib.hid hc; clear hc
        go_wp2_with fail
        refine Hc.out.mono ?_
        rintro e w1 ⟨rfl, hb1⟩
        go_wp2_with fail
        first
          | (go_ret
             exact ⟨ret_int (by rw [← H'.out, Hp.out]; rfl), hb.trans (hb1.mono hb.size)⟩)
          | (go_roundw
             case rel => exact ⟨k + 1, by go_num, by omega, hb.trans (hb1.mono hb.size), Lib.hid (by rw [← H'.out, Hp.out]; rfl)⟩
             case measure => simp [intOf]; omega)
    · go_wp2_with fail
      go_ret
      exact ⟨ret_int (by rw [← H.out, List.drop_of_length_le (by rw [hl.out]; omega)]; rfl), hb⟩
theorem containsRule_any (fp : Nat) (ep : EnterOk fp) (cp : Array Value) (p : Fac → Bool) (A : Option Addr) (n c : Nat) (rs : List Fac) (w : World) (hn : n ≤ 1048576) (hr : Rd w w.heap.size A n 3 Fac.cells rs)
    (hP : ∀ (k : Nat) (x : Fac), rs[k]? = some x → ∀ w', Below w.heap.size w w' → Calls Try.prog fp (#[x.val] ++ cp) w' (Ret (.bool (p x)) w')) :
    Calls Try.prog 40 #[.slice A n c, .func (.func fp) #[] cp] w (Ret (.bool (rs.any p)) w) := by
  have e := Lib.hid (findI_any p rs 0 (by omega))
  have Hc := Lib.hid (indexRule_any fp ep cp p A n c rs w hn hr hP)
  clear hP hr
  go_enter Try.func40, Try.ntmps40
  go_wp2_with fail
  refine Hc.out.mono ?_
  rintro e1 w1 ⟨rfl, hb1⟩
  go_wp2_with fail
  go_ret
  exact ⟨ret_bool e.out, hb1⟩
end Go.Proofs.Ytpkhkippdigcjaa
