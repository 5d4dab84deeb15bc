/-
  The phrases of a word, in the reference.
-/
import Derived.Test.YtikhjoianbndhaaPhr
namespace Go.Proofs.Ytikhjoianbndhaa
open Go.RowKit

/-- the index of a text in a list, from i on; -1 if it is not there -/
def findS (t : ByteArray) : List ByteArray → Int → Int
  | [], _ => -1
  | x :: r, i => if x = t then i else findS t r (i + 1)
theorem findS_mem (t : ByteArray) : ∀ (ss : List ByteArray) (i : Int), 0 ≤ i → (0 ≤ findS t ss i ↔ memS t ss = true)
  | [], i, _ => by simp [findS, memS]
  | x :: r, i, h => by
    unfold findS
    have := findS_mem t r (i + 1) (by omega)
    by_cases hx : x = t
    · rw [if_pos hx]; simp [memS, hx, h]
    · rw [if_neg hx, this]; simp [memS, Ne.symm hx]

set_option maxHeartbeats 400000 in
theorem specFind_any (A : Option Addr) (n c : Nat) (ss : List ByteArray) (t : ByteArray) (w : World) (hn : n ≤ maxLen) (hr : Rd w w.heap.size A n 1 strE ss) :
    Calls Try.prog 23 #[.slice A n c, .string t] w (Ret (.int .i64 (findS t ss 0)) w) := by
  have hl := Lib.hid hr.len
  unfold maxLen at hn
  have HR := Lib.hid (show findS t (ss.drop 0) 0 = findS t ss 0 from rfl)
  go_enter Try.func23, Try.ntmps23
  go_wp2
  go_loopw [5] (fun i w' => ∃ k : Nat, i = .int .i64 k ∧ k ≤ n ∧ Below w.heap.size w w' ∧ Hid (findS t (ss.drop k) k = findS t ss 0)) (fun i _ => n - (intOf i).toNat)
  case atStart => exact ⟨0, rfl, by omega, Below.refl _ _, HR⟩
  case round =>
    obtain ⟨k, rfl, hk, hb, H⟩ := hrel
    by_cases hlt : k < n
    · obtain ⟨b, o, x, rfl, hB, gx, c0⟩ := (show Rd w w.heap.size A n 1 (fun s => [.string s]) ss from hr).below hb |>.str hlt
      have H' := Lib.hid (show (if x = t then (k : Int) else findS t (ss.drop (k + 1)) (k + 1)) = findS t ss 0 by rw [← H.out, drop_cons gx]; rfl)
      clear gx H
      by_cases hx : x = t
      · obtain rfl := hx
        go_wp2
        go_ret
        exact ⟨ret_int (by rw [← H'.out]; simp), hb⟩
      · have hx' : (x.toList == t.toList) = false := by rw [tl_beq]; simpa using hx
        have hx2 : ¬ x.toList = t.toList := by rw [tl_inj]; exact hx
        have Hx := Lib.hid hx; clear hx
        go_wp2
        go_roundw
        case rel => exact ⟨k + 1, by go_num, by omega, hb, Lib.hid (by rw [← H'.out, if_neg Hx.out]; rfl)⟩
        case measure => simp [intOf]; omega
    · go_wp2
      go_ret
      exact ⟨ret_int (by rw [← H.out, List.drop_of_length_le (by rw [hl.out]; omega)]; rfl), hb⟩

set_option maxHeartbeats 1000000 in
set_option maxRecDepth 100000 in
theorem specPhrases_any (s : ByteArray) (w : World) (hs : s.size ≤ 2000) :
    Calls Try.prog 22 #[.string s] w (RetNew w 9 1 strE (phr s 0 [])) := by
  go_enter Try.func22, Try.ntmps22
  go_wp2
  go_loopw [3, 4, 5] (fun o_ a_ _ w' => ∃ (at_ : Nat) (out : List ByteArray) (A : Option Addr) (n c : Nat), a_ = .int .i64 at_ ∧ o_ = .slice A n c ∧
      at_ ≤ s.size ∧ n ≤ at_ ∧ Hid (out.length = n) ∧ Hid (w'.ownsRow w.heap.size 9 1 (.slice A n c) n (out.flatMap strE)) ∧
      Below w.heap.size w w' ∧ Hid (phr s at_ out = phr s 0 [])) (fun _ a_ _ _ => s.size - (intOf a_).toNat)
  case atStart =>
    exact ⟨0, [], _, 0, 0, rfl, rfl, by omega, by omega, Lib.hid rfl,
      Lib.hid (World.ownsRow_made w #[] 0 (Nat.le_refl _) (by unfold maxLen; omega) rfl), (Below.refl _ _).alloc (Nat.le_refl _) _, Lib.hid rfl⟩
  case round =>
    obtain ⟨at_, out, A, n, c, rfl, rfl, hat, hn, hl, hown, hb, H⟩ := hrel
    by_cases h0 : s.size = at_
    · have e := Lib.hid (show out = phr s 0 [] by rw [← H.out, phr, if_neg (by omega)])
      have h1 : s.size ≤ at_ := by omega
      clear h0
      go_wp2
      go_ret
      refine ⟨A, c, ret_slice (by rw [← e.out]; exact hl.out.symm), ?_, hb⟩
      rw [← e.out, hl.out]
      exact hown.out
    · have h1 : at_ < s.size := by omega
      have HP := Lib.hid (Rd.of_own (enc := strE) (fun _ _ => rfl) hl.out hown.out)
      clear h0
      go_wp2_with fail
      obtain ⟨wo, rfl⟩ : ∃ wo : World, wo = wr := ⟨_, rfl⟩
      go_loopw [5] (fun n_ w' => ∃ k : Nat, n_ = .int .i64 k ∧ 1 ≤ k ∧ at_ + k ≤ s.size ∧ Hid (plen s out at_ k = plen s out at_ 1) ∧ Below wo.heap.size wo w') (fun n_ _ => s.size - (intOf n_).toNat)
      case atStart => exact ⟨1, rfl, by omega, by omega, Lib.hid rfl, Below.refl _ _⟩
      case round =>
        obtain ⟨k, rfl, hk1, hk2, hp, hbo⟩ := hrel
        have HF := Lib.hid (specFind_any A n c out (s.extract at_ (at_ + k)) wr (by unfold maxLen; omega) (HP.out.next hbo))
        by_cases hgo : at_ + k < s.size ∧ memS (s.extract at_ (at_ + k)) out = true
        · obtain ⟨hlt, hm⟩ := hgo
          have h4 := (findS_mem (s.extract at_ (at_ + k)) out 0 (by omega)).2 hm
          have hp' := Lib.hid (show plen s out at_ (k + 1) = plen s out at_ 1 by
            rw [← hp.out]; conv => rhs; rw [plen]
            rw [if_pos ⟨by omega, hm⟩])
          clear hm hp
          go_wp2_with fail
          refine HF.out.mono ?_
          rintro e w1 ⟨rfl, hb1⟩
          go_wp2_with fail
          go_roundw
          case rel => exact ⟨k + 1, by go_num, by omega, by omega, hp', hbo.trans (hb1.mono hbo.size)⟩
          case measure => simp [intOf]; omega
        · have hpe : plen s out at_ k = k := by rw [plen, if_neg hgo]
          have hK : plen s out at_ 1 = k := hp.out.symm.trans hpe
          have Hnx := Lib.hid (show phr s (at_ + k) (out ++ [s.extract at_ (at_ + k)]) = phr s 0 [] by
            rw [← H.out]; conv => rhs; rw [phr]
            rw [if_pos (by omega), hK])
          have h4 : at_ + k < s.size → findS (s.extract at_ (at_ + k)) out 0 < 0 := fun h => by
            rcases Int.lt_or_le (findS (s.extract at_ (at_ + k)) out 0) 0 with q | q
            · exact q
            · exact absurd ⟨h, (findS_mem _ out 0 (by omega)).1 q⟩ hgo
          have H4 := Lib.hid h4
          clear hpe hK hgo hp h4
          by_cases hlt : at_ + k < s.size
          · have h5 := H4.out hlt
            go_wp2_with fail
            refine HF.out.mono ?_
            rintro e w1 ⟨rfl, hb1⟩
            have b1 := hb.trans ((hbo.trans (hb1.mono hbo.size)).mono hb.size)
            have Own0 := Lib.hid (own_next hown.out (hbo.trans (hb1.mono hbo.size)))
            go_wp2_with
              (at_builtin
               refine wpList_push (w0 := w) rfl _ _ _ rfl w.heap.size 9 1 16 elem_str strE A n c out rfl (Own0.out.alloc _) w1.heap.size (s.extract at_ (at_ + k)) #[.string (s.extract at_ (at_ + k))] 9 (0, 0) rfl (heap_alloc_new _ _) rfl rfl (by simp [strE, Value.oneCell']) (by omega) (by omega) (by unfold maxLen; omega) rfl (b1.alloc b1.size _) ?_
               intro A' c' w2 own2 hg2 hat2 hb2
               have Own2 := Lib.hid own2; clear own2)
            go_roundw
            case rel =>
              exact ⟨at_ + k, out ++ [s.extract at_ (at_ + k)], A', n + 1, c', by go_num, rfl, by omega, by omega, Lib.hid (by rw [List.length_append, hl.out]; rfl), Own2, hb2, Hnx⟩
            case measure => simp [intOf]; omega
          · have b1 := hb.trans (hbo.mono hb.size)
            have Own0 := Lib.hid (own_next hown.out hbo)
            go_wp2_with
              (at_builtin
               refine wpList_push (w0 := w) rfl _ _ _ rfl w.heap.size 9 1 16 elem_str strE A n c out rfl (Own0.out.alloc _) wr.heap.size (s.extract at_ (at_ + k)) #[.string (s.extract at_ (at_ + k))] 9 (0, 0) rfl (heap_alloc_new _ _) rfl rfl (by simp [strE, Value.oneCell']) (by omega) (by omega) (by unfold maxLen; omega) rfl (b1.alloc b1.size _) ?_
               intro A' c' w2 own2 hg2 hat2 hb2
               have Own2 := Lib.hid own2; clear own2)
            go_roundw
            case rel =>
              exact ⟨at_ + k, out ++ [s.extract at_ (at_ + k)], A', n + 1, c', by go_num, rfl, by omega, by omega, Lib.hid (by rw [List.length_append, hl.out]; rfl), Own2, hb2, Hnx⟩
            case measure => simp [intOf]; omega
end Go.Proofs.Ytikhjoianbndhaa
