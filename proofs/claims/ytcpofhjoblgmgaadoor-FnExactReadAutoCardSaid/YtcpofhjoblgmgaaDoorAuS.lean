
/-
  Numbers behind a line's first word, texts of numbers and of an automaton, whether one is valid, in the reference.
-/
import Derived.Test.YtcpofhjoblgmgaaDoorAuT
import Derived.Test.YtcpofhjoblgmgaaDoorDec
namespace Go.Proofs.YtcpofhjoblgmgaaDoor
open Go.RowKit

def n18 (l : List UInt8) : Value := match num18 l with | none => .tuple #[.int .i64 0, .bool false] | some n => .tuple #[.int .i64 n, .bool true]
set_option maxHeartbeats 1000000 in
set_option maxRecDepth 100000 in
theorem number18_any (s : ByteArray) (w : World) (hs : s.size ≤ 4000) : Calls Tryd.prog 23 #[.string s] w (Ret (n18 s.data.toList) w) := by
  by_cases h1 : s.size < 1
  · have e := Lib.hid (show n18 s.data.toList = .tuple #[.int .i64 0, .bool false] by unfold n18 num18; rw [len_byteR, if_pos (.inl (by omega))])
    have i1 : (s.size : Int) < 1 := by omega
    go_enter Tryd.func23, Tryd.ntmps23
    go_wp2_with fail
    rw [e.out]
    go_ret2
    exact ⟨rfl, Below.refl _ _⟩
  by_cases h2 : 18 < s.size
  · have e := Lib.hid (show n18 s.data.toList = .tuple #[.int .i64 0, .bool false] by unfold n18 num18; rw [len_byteR, if_pos (.inr (.inl (by omega)))])
    have i1 : ¬ (s.size : Int) < 1 := by omega
    have i2 : (18 : Int) < (s.size : Int) := by omega
    go_enter Tryd.func23, Tryd.ntmps23
    go_wp2_with fail
    rw [e.out]
    go_ret2
    exact ⟨rfl, Below.refl _ _⟩
  have hlt0 : 0 < s.size := by omega
  have hx0 := at_byteR s 0 hlt0
  have i1 : ¬ (s.size : Int) < 1 := by omega
  have i2 : ¬ (18 : Int) < (s.size : Int) := by omega
  have i3 : (0 : Int) < (s.size : Int) := by omega
  have hg0 : s.data.toList.getD 0 0 = s[0]'hlt0 := by rw [List.getD_eq_getElem?_getD, hx0]; rfl
  by_cases h3 : s[0]'hlt0 = 48 ∧ 1 < s.size
  · have e := Lib.hid (show n18 s.data.toList = .tuple #[.int .i64 0, .bool false] by unfold n18 num18; rw [len_byteR, if_pos (.inr (.inr ⟨by rw [hg0]; exact h3.1, h3.2⟩))])
    have j1 : (((s[0]'hlt0).toNat : Int) == 48) = true := by rw [h3.1]; rfl
    have j2 : (1 : Int) < (s.size : Int) := by omega
    clear h3 hg0 hx0
    go_enter Tryd.func23, Tryd.ntmps23
    go_wp2_with fail
    rw [e.out]
    go_ret2
    exact ⟨rfl, Below.refl _ _⟩
  have e := Lib.hid (show n18 s.data.toList = if nuS 0 s.data.toList = -1 then .tuple #[.int .i64 0, .bool false] else .tuple #[.int .i64 (nuS 0 s.data.toList), .bool true] by
    unfold n18 num18
    rw [len_byteR, if_neg (by rw [hg0]; rintro (h | h | ⟨ha, hb⟩); omega; omega; exact h3 ⟨ha, hb⟩)]
    split <;> rename_i h
    · rw [if_pos]; by_cases q : nuS 0 s.data.toList = -1
      · exact q
      · rw [if_neg q] at h; cases h
    · by_cases q : nuS 0 s.data.toList = -1
      · rw [if_pos q] at h; cases h
      · rw [if_neg q] at h ⊢
        injection h with h
        rw [h])
  have j1 : ((((s[0]'hlt0).toNat : Int) == 48) && decide ((1 : Int) < (s.size : Int))) = false := by
    by_cases q : s[0]'hlt0 = 48
    · rw [decide_eq_false (by have : ¬ 1 < s.size := fun h => h3 ⟨q, h⟩; omega), Bool.and_false]
    · have : ¬ ((s[0]'hlt0).toNat : Int) = 48 := fun h => q (UInt8.toNat_inj.1 (by have : (48 : UInt8).toNat = 48 := rfl; omega))
      rw [beq_eq_false_iff_ne.2 this, Bool.false_and]
  have hb : ∃ b1 : Bool, (((s[0]'hlt0).toNat : Int) == 48) = b1 := ⟨_, rfl⟩
  obtain ⟨b1, hb1⟩ := hb
  rw [hb1] at j1
  have hb2 : b1 = false ∨ (b1 = true ∧ ¬ (1 : Int) < (s.size : Int)) := by
    cases b1
    · exact .inl rfl
    · right; exact ⟨rfl, by simpa using j1⟩
  clear j1 h3 hg0 hx0
  generalize hc0 : s[0]'hlt0 = c0 at hb1
  have key : ∀ w' : World, True → True := fun _ _ => trivial
  clear key
  rcases hb2 with rfl | ⟨rfl, hsz⟩
  all_goals
    go_enter Tryd.func23, Tryd.ntmps23
    go_wp2_with fail
    go_loopw [4, 5] (fun n_ i_ w' => ∃ (k n : Nat), i_ = .int .i64 k ∧ n_ = .int .i64 n ∧ k ≤ s.size ∧ Hid (n < 10 ^ k) ∧ Hid (nuS (n : Int) (s.data.toList.drop k) = nuS 0 s.data.toList) ∧ Hid (Below w.heap.size w w')) (fun _ i_ _ => s.size - (intOf i_).toNat)
    case atStart => exact ⟨0, 0, rfl, rfl, by omega, Lib.hid (by decide), Lib.hid rfl, Lib.hid (Below.refl _ _)⟩
    case round =>
      obtain ⟨k, n, rfl, rfl, hk, hn, HE, HB⟩ := hrel
      by_cases hlt : k < s.size
      · have hx := at_byteR s k hlt
        have HS := Lib.hid (nuS_step (acc := (n : Int)) hx)
        rw [HE.out] at HS
        have k0 : (0 : Int) ≤ (k : Int) := by omega
        have k1 : (k : Int) < (s.size : Int) := by omega
        have p16 : n * 10 + 9 < 10 ^ 18 := by
          have h1 := hn.out
          have h2 : 10 ^ (k + 1) ≤ 10 ^ 18 := Nat.pow_le_pow_right (by decide) (by omega)
          rw [Nat.pow_succ] at h2; omega
        clear hx HE
        generalize hxb : s[k]'hlt = x at *
        by_cases c1 : x.toNat < 48
        · have E := Lib.hid (show n18 s.data.toList = .tuple #[.int .i64 0, .bool false] by rw [e.out, if_pos (by rw [HS.out, if_pos (.inl c1)])])
          have d1 : (x.toNat : Int) < 48 := by omega
          go_wp2_with fail
          rw [E.out]
          go_ret2
          exact ⟨rfl, HB.out⟩
        by_cases c2 : 57 < x.toNat
        · have E := Lib.hid (show n18 s.data.toList = .tuple #[.int .i64 0, .bool false] by rw [e.out, if_pos (by rw [HS.out, if_pos (.inr c2)])])
          have d1 : ¬ (x.toNat : Int) < 48 := by omega
          have d2 : (57 : Int) < (x.toNat : Int) := by omega
          go_wp2_with fail
          rw [E.out]
          go_ret2
          exact ⟨rfl, HB.out⟩
        · obtain ⟨d, hd⟩ : ∃ d, x.toNat - 48 = d := ⟨_, rfl⟩
          have E := Lib.hid (show nuS ((n * 10 + d : Nat) : Int) (s.data.toList.drop (k + 1)) = nuS 0 s.data.toList by
            rw [HS.out, if_neg (by omega)]
            congr 1; omega)
          have d1 : ¬ (x.toNat : Int) < 48 := by omega
          have d2 : ¬ (57 : Int) < (x.toNat : Int) := by omega
          have u1 : IntKind.u8.wrap ((x.toNat : Int) - 48) = (d : Int) := by rw [IntKind.wrap_u8]; omega
          have u2 : IntKind.i64.wrap ((n : Int) * 10) = (n : Int) * 10 := IntWalk.i64_in _ (by omega)
          have u3 : IntKind.i64.wrap ((n : Int) * 10 + (d : Int)) = ((n * 10 + d : Nat) : Int) := by rw [IntWalk.i64_in _ (by omega)]; omega
          have hd9 : d ≤ 9 := by omega
          have N2 := Lib.hid (show n * 10 + d < 10 ^ (k + 1) by have := hn.out; rw [Nat.pow_succ]; omega)
          clear hd hn HS
          go_wp2_with fail
          go_roundw
          case rel => exact ⟨k + 1, n * 10 + d, by go_num, by rw [show ((n * 10 + d : Nat) : Int) = (n : Int) * 10 + (d : Int) by omega], by omega, N2, E, HB⟩
          case measure => simp [intOf]; omega
      · have E := Lib.hid (show n18 s.data.toList = .tuple #[.int .i64 (n : Int), .bool true] by
          have h : nuS 0 s.data.toList = n := by rw [← HE.out, List.drop_of_length_le (by rw [len_byteR]; omega)]; rfl
          rw [e.out, h, if_neg (by omega)])
        have k1 : ¬ (k : Int) < (s.size : Int) := by omega
        go_wp2_with fail
        rw [E.out]
        go_ret2
        exact ⟨rfl, HB.out⟩
end Go.Proofs.YtcpofhjoblgmgaaDoor
