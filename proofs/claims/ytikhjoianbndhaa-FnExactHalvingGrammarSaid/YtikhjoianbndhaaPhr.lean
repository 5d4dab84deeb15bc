/-
  The phrases of a word, in the program and in the reference.
-/
import Derived.Test.YtikhjoianbndhaaLet
import Derived.Test.YtikhjoianbndhaaOwn
namespace Go.Proofs.Ytikhjoianbndhaa
open Go.RowKit

def strE (s : ByteArray) : List Value := [.string s]
def memS (x : ByteArray) (out : List ByteArray) : Bool := out.any fun y => decide (x = y)
/-- how long the phrase is that begins at a place -/
def plen (s : ByteArray) (out : List ByteArray) (at_ n : Nat) : Nat :=
  if at_ + n < s.size ∧ memS (s.extract at_ (at_ + n)) out = true then plen s out at_ (n + 1) else n
termination_by s.size - (at_ + n)
decreasing_by omega
theorem plen_ge (s : ByteArray) (out : List ByteArray) (at_ n : Nat) : n ≤ plen s out at_ n := by
  rw [plen]
  split
  · rename_i h
    have := plen_ge s out at_ (n + 1)
    omega
  · exact Nat.le_refl _
termination_by s.size - (at_ + n)
decreasing_by omega
theorem plen_le (s : ByteArray) (out : List ByteArray) (at_ n : Nat) (h : at_ + n ≤ s.size) : at_ + plen s out at_ n ≤ s.size := by
  rw [plen]
  split
  · rename_i h1
    exact plen_le s out at_ (n + 1) (by omega)
  · exact h
termination_by s.size - (at_ + n)
decreasing_by omega
def phr (s : ByteArray) (at_ : Nat) (out : List ByteArray) : List ByteArray :=
  if at_ < s.size then phr s (at_ + plen s out at_ 1) (out ++ [s.extract at_ (at_ + plen s out at_ 1)]) else out
termination_by s.size - at_
decreasing_by have := plen_ge s out at_ 1; omega

theorem elem_str : Elem Try.prog 40 9 1 16 := Elem.mk' (z := .string .empty) Try.underlying40 (by kernel_rfl) rfl
theorem zero_bool (w : World) : (zeroValue 4).run Try.prog w = .ok (.bool false) w := by kernel_rfl

set_option maxHeartbeats 1000000 in
set_option maxRecDepth 100000 in
theorem implPhrases_any (s : ByteArray) (w : World) (hs : s.size ≤ 2000) :
    Calls Try.prog 28 #[.string s] w (RetNew w 9 1 strE (phr s 0 [])) := by
  have hmm := @run_makeMap Try.prog
  go_enter Try.func28, Try.ntmps28
  go_wp2
  go_loopw [0, 3, 5] (fun r_ o_ _ w' => ∃ (at_ : Nat) (r : ByteArray) (out : List ByteArray) (A : Option Addr) (n c : Nat) (m : List (ByteArray × Value)), r_ = .string r ∧ o_ = .slice A n c ∧
      at_ ≤ s.size ∧ r.size + at_ ≤ s.size ∧ s.size ≤ r.size + at_ ∧ n ≤ at_ ∧ Hid (r = s.extract at_ s.size) ∧ Hid (out.length = n) ∧ Hid (w'.ownsRow w.heap.size 9 1 (.slice A n c) n (out.flatMap strE)) ∧
      Hid (MapIs w' (w.heap.size + 1) strK m) ∧ Hid (∀ x, (mget x m).getD (.bool false) = .bool (memS x out)) ∧ Below w.heap.size w w' ∧ Hid (phr s at_ out = phr s 0 [])) (fun r_ _ _ _ => strLen r_)
  case atStart =>
    exact ⟨0, s, [], _, 0, 0, [], rfl, rfl, by omega, by omega, by omega, by omega, Lib.hid (by simp), Lib.hid rfl,
      Lib.hid ((World.ownsRow_made w #[] 0 (Nat.le_refl _) (by unfold maxLen; omega) rfl).alloc _), Lib.hid (by simpa using MapIs.made (w.alloc (.cells #[] 9)) strK), Lib.hid (fun x => rfl),
      ((Below.refl _ _).alloc (Nat.le_refl _) _).alloc (by simp) _, Lib.hid rfl⟩
  case round =>
    obtain ⟨at_, r, out, A, n, c, m, rfl, rfl, hat, hr0, hr1, hn, hr, hl, hown, hmap, hget, hb, H⟩ := hrel
    by_cases h0 : r.size = 0
    · have e0 := size0 h0
      have e := Lib.hid (show out = phr s 0 [] by rw [← H.out, phr, if_neg (by omega)])
      clear h0
      go_wp2
      go_ret
      refine ⟨A, c, ret_slice (by rw [← e.out]; exact hl.out.symm), ?_, hb⟩
      rw [← e.out, hl.out]
      exact hown.out
    · have e0 := size1 h0
      have e1 := size1' h0
      go_wp2_with fail
      go_loop [5] (fun n_ => ∃ k : Nat, n_ = .int .i64 k ∧ 1 ≤ k ∧ k ≤ r.size ∧ Hid (plen s out at_ k = plen s out at_ 1)) (fun n_ => r.size - (intOf n_).toNat)
      case atStart => exact ⟨1, rfl, by omega, by omega, Lib.hid rfl⟩
      case round =>
        obtain ⟨k, rfl, hk1, hk2, hp⟩ := hrel
        have hlk : ∀ x : ByteArray, (Instr.lookup 93 (.map (some (w.heap.size + 1))) (.string x) false).run Try.prog wr = .ok (.bool (memS x out)) wr := fun x => by
          rw [← hget.out x]; exact hmap.out.look (str_ok Try.underlying9) Try.underlying93 (zero_bool _) x
        have hex : r.extract 0 k = s.extract at_ (at_ + k) := by
          rw [hr.out, ByteArray.extract_extract]; congr 1; omega
        by_cases hgo : k < r.size ∧ memS (r.extract 0 k) out = true
        · obtain ⟨hlt, hm⟩ := hgo
          have hlk1 := (hlk (r.extract 0 k)).trans (by rw [hm])
          have hp' := Lib.hid (show plen s out at_ (k + 1) = plen s out at_ 1 by
            rw [← hp.out]; conv => rhs; rw [plen]
            rw [if_pos ⟨by omega, by rw [← hex]; exact hm⟩])
          clear hlk hex hm hp
          go_wp2_with fail
          go_round
          case rel => exact ⟨k + 1, by go_num, by omega, by omega, hp'⟩
          case measure => simp [intOf]; omega
        · have hpe : plen s out at_ k = k := by rw [plen, if_neg]; rw [← hex]; exact fun q => hgo ⟨by omega, q.2⟩
          have hK : plen s out at_ 1 = k := hp.out.symm.trans hpe
          have hlk0 : k < r.size → (Instr.lookup 93 (.map (some (w.heap.size + 1))) (.string (r.extract 0 k)) false).run Try.prog wr = .ok (.bool false) wr := fun h => by
            rw [hlk (r.extract 0 k)]
            have : memS (r.extract 0 k) out = false := by simpa [h] using hgo
            rw [this]
          have Hlk := Lib.hid hlk0
          have Hnx := Lib.hid (show phr s (at_ + k) (out ++ [r.extract 0 k]) = phr s 0 [] by
            rw [← H.out]; conv => rhs; rw [phr]
            rw [if_pos (by omega), hK, hex])
          have Hr2 := Lib.hid (show r.extract k r.size = s.extract (at_ + k) s.size by rw [hr.out, ByteArray.extract_extract]; congr 1 <;> simp <;> omega)
          clear hlk hex hpe hK hlk0 hgo hp
          by_cases hlt : k < r.size
          all_goals
            try have hlk1 := Hlk.out hlt
            go_wp2_with (first
              | (at_builtin
                 refine wpList_push (w0 := w) rfl _ _ _ rfl w.heap.size 9 1 16 elem_str strE A n c out rfl (hown.out.alloc _) wr.heap.size (r.extract 0 k) #[.string (r.extract 0 k)] 9 (0, 0) rfl (heap_alloc_new _ _) rfl rfl (by simp [strE, Value.oneCell']) (by omega) (by omega) (by unfold maxLen; omega) rfl (hb.alloc hb.size _) ?_
                 intro A' c' w1 own1 hg1 hat1 hb1
                 have hm1 := (hmap.out.alloc _).grown hg1 (hmap.out.ne_own hown.out)
                 have Own1 := Lib.hid own1; clear own1
                 have Hm1 := Lib.hid hm1; clear hm1)
              | (at_mapUpdate
                 refine wpList_put (w0 := w) rfl _ _ _ rfl (str_ok Try.underlying9) Try.underlying93 rfl (r.extract 0 k) (.bool true) rfl rfl Hm1.out w.heap.size rfl (by omega) hb1 ?_
                 intro w2 hm2 hg2 hb2))
            go_roundw
            case rel =>
              exact ⟨at_ + k, r.extract k r.size, out ++ [r.extract 0 k], A', n + 1, c', _, rfl, rfl, by omega, by simp; omega, by simp; omega, by omega, Hr2, Lib.hid (by rw [List.length_append, hl.out]; rfl),
                Lib.hid (Own1.out.kept hg2 (.inr (Ne.symm (Hm1.out.ne_own Own1.out)))), Lib.hid hm2, Lib.hid (fun x => by
                  rw [mget_mput]
                  by_cases hx : x = r.extract 0 k
                  · rw [if_pos hx]; simp [memS, hx]
                  · rw [if_neg hx, hget.out x]; simp [memS, hx]), hb2, Hnx⟩
            case measure => simp [strLen]; omega
end Go.Proofs.Ytikhjoianbndhaa
