/-
  slices.IndexFunc and slices.ContainsFunc over texts; lists of texts measured and copied.
-/
import Derived.Test.YtkknhpailohjcaaIdxR
import Derived.Test.YtkknhpailohjcaaInts
import Derived.Test.YtkknhpailohjcaaStrS
namespace Go.Proofs.Ytkknhpailohjcaa
open Go.RowKit

set_option maxHeartbeats 1000000 in
theorem indexStr_any (fp : Nat) (ep : EnterOk fp) (cp : Array Value) (p : ByteArray → Bool) (A : Option Addr) (n c : Nat) (zs : List ByteArray) (w : World) (hn : n ≤ 1048576) (hr : Rd w w.heap.size A n 1 strEM zs)
    (hP : ∀ (k : Nat) (x : ByteArray), zs[k]? = some x → ∀ w', Below w.heap.size w w' → Calls Try.prog fp (#[.string x] ++ cp) w' (Ret (.bool (p x)) w')) :
    Calls Try.prog 107 #[.slice A n c, .func (.func fp) #[] cp] w (Ret (.int .i64 (findI p zs 0)) w) := by
  have hl := Lib.hid hr.len
  have HP := Lib.hid hP; clear hP
  unfold EnterOk at ep
  go_enter Try.func107, Try.ntmps107
  go_wp2_with fail
  go_loopw [8] (fun i_ w' => ∃ k : Nat, i_ = .int .i64 k ∧ k ≤ n ∧ Below w.heap.size w w' ∧ Hid (findI p (zs.drop k) k = findI p zs 0)) (fun i_ _ => n - (intOf i_).toNat)
  case atStart => exact ⟨0, rfl, by omega, Below.refl _ _, Lib.hid rfl⟩
  case round =>
    obtain ⟨k, rfl, hk, hb, H⟩ := hrel
    by_cases hlt : k < n
    · obtain ⟨b, o, x, rfl, hB, gx, c0⟩ := (show Rd wr wr.heap.size A n 1 (fun s => [.string s]) zs from hr.next hb).str hlt
      have H' := Lib.hid (show (if p x = true then (k : Int) else findI p (zs.drop (k + 1)) (k + 1)) = findI p zs 0 by rw [← H.out, drop_cons gx]; rfl)
      have hc := HP.out k x gx wr hb
      clear gx H
      rcases hp : p x with _ | _
      all_goals
        rw [hp] at hc
        have Hp := Lib.hid hp; clear hp
        have Hc := Lib.hid hc; clear hc
        go_wp2_with fail
        refine Hc.out.mono ?_
        rintro e w1 ⟨rfl, hb1⟩
        go_wp2_with fail
        first
          | (go_ret
             exact ⟨ret_int (by rw [← H'.out, Hp.out]; rfl), hb.trans (hb1.mono hb.size)⟩)
          | (go_roundw
             case rel => exact ⟨k + 1, by go_num, by omega, hb.trans (hb1.mono hb.size), Lib.hid (by rw [← H'.out, Hp.out]; rfl)⟩
             case measure => simp [intOf]; omega)
    · go_wp2_with fail
      go_ret
      exact ⟨ret_int (by rw [← H.out, List.drop_of_length_le (by rw [hl.out]; omega)]; rfl), hb⟩
theorem containsStr_any (fp : Nat) (ep : EnterOk fp) (cp : Array Value) (p : ByteArray → Bool) (A : Option Addr) (n c : Nat) (zs : List ByteArray) (w : World) (hn : n ≤ 1048576) (hr : Rd w w.heap.size A n 1 strEM zs)
    (hP : ∀ (k : Nat) (x : ByteArray), zs[k]? = some x → ∀ w', Below w.heap.size w w' → Calls Try.prog fp (#[.string x] ++ cp) w' (Ret (.bool (p x)) w')) :
    Calls Try.prog 78 #[.slice A n c, .func (.func fp) #[] cp] w (Ret (.bool (zs.any p)) w) := by
  have e := Lib.hid (findI_any p zs 0 (by omega))
  have Hc := Lib.hid (indexStr_any fp ep cp p A n c zs w hn hr hP)
  clear hP hr
  go_enter Try.func78, Try.ntmps78
  go_wp2_with fail
  refine Hc.out.mono ?_
  rintro e1 w1 ⟨rfl, hb1⟩
  go_wp2_with fail
  go_ret
  exact ⟨ret_bool e.out, hb1⟩
theorem info_str : (Try.prog.info? 9).map (fun i => (i.zero, i.size, i.bytes)) = some (some (.string .empty), 1, 16) := by kernel_rfl
set_option maxHeartbeats 400000 in
theorem toStringS_any (A : Option Addr) (n c : Nat) (zs : List ByteArray) (w : World) (hn : n ≤ 1048576)
    (hr : Rd w w.heap.size A n 1 strEM zs) :
    Calls Try.prog 32 #[.slice A n c] w (RetNew w 9 1 strEM zs) := by
  obtain ⟨i0, hi, hz0, hz1, hz2⟩ := info_parts info_str
  have hl := Lib.hid hr.len
  have hmk := fun W => run_make_rowN (P := Try.prog) 51 9 i0 _ Try.underlying51 hi hz0 .i64 .i64 n n (Nat.le_refl _) (by rw [hz2]; omega) (by omega) W
  rw [hz1] at hmk
  go_enter Try.func32, Try.ntmps32
  go_wp2
  go_loopw [4] (fun i w' => ∃ (k : Nat) (cs : Array Value), i = .int .i64 k ∧ k ≤ n ∧ Below w.heap.size w w' ∧ Hid (Blk w' w.heap.size 9 cs) ∧ Hid (cs.size = n * 1) ∧
      Hid (∀ i y, i < k → zs[i]? = some y → ∀ j, j < 1 → cs[i * 1 + j]? = (strEM y)[j]?)) (fun i _ => n - (intOf i).toNat)
  case atStart => exact ⟨0, _, rfl, by omega, (Below.refl _ _).alloc (Nat.le_refl _) _, Lib.hid (Blk.new _ _ _), Lib.hid ((size_madeCells _ _).trans (Nat.mul_one n).symm), Lib.hid (fun i y h => absurd h (by omega))⟩
  case round =>
    obtain ⟨k, cs, rfl, hk, hb, hB, hs, hc⟩ := hrel
    by_cases hlt : k < n
    · obtain ⟨b, o, x, rfl, hB', gx, c0⟩ := (show Rd wr w.heap.size A n 1 (fun s => [.string s]) zs from hr.below hb).str hlt
      have Gx := Lib.hid gx; clear gx
      have hsz := hB.out.lt
      have s0 := (hB.out.cell k).trans (Array.getElem?_eq_getElem (by have := hs.out; omega))
      have f0 := hB.out.frozen
      go_wp2
      go_roundw
      case rel =>
        obtain ⟨q1, q2⟩ := fill1 (v := .string x) hs.out hlt Gx.out rfl hc.out
        exact ⟨k + 1, _, by go_num, by omega, hb.setCell (Nat.le_refl _) _, Lib.hid (hB.out.set_ _ _), Lib.hid q1, Lib.hid q2⟩
      case measure => simp [intOf]; omega
    · go_wp2
      go_ret
      refine ⟨some ⟨w.heap.size, 0, none⟩, n, ret_slice hl.out.symm, ?_, hb⟩
      rw [hl.out]
      exact own_of_blk hB.out (Nat.le_refl _) hs.out hl.out (by unfold maxLen; omega) (fun _ _ => rfl) (fun i y hy j hj => hc.out i y (by have := (List.getElem?_eq_some_iff.1 hy).1; rw [hl.out] at this; omega) hy j hj)
/-- the rest of the measure of texts -/
def szStrs : Int → List ByteArray → Int
  | left, [] => left
  | left, s :: r => if left - s.size < 0 then -1 else szStrs (left - s.size) r
def szStrAll (left : Int) (ss : List ByteArray) : Int := if left < ss.length then -1 else szStrs (left - ss.length) ss
theorem szStrs_le : ∀ (ss : List ByteArray) (left : Int), 0 ≤ szStrs left ss → szStrs left ss ≤ left ∧ ∀ s ∈ ss, (s.size : Int) ≤ left
  | [], left, h => ⟨Int.le_refl _, by simp⟩
  | s :: r, left, h => by
    unfold szStrs at h ⊢
    split
    · rename_i h1; rw [if_pos h1] at h; omega
    · rename_i h1
      rw [if_neg h1] at h
      have ⟨h2, h3⟩ := szStrs_le r _ h
      refine ⟨by omega, fun x hx => ?_⟩
      rcases List.mem_cons.1 hx with rfl | hx
      · omega
      · have := h3 x hx; omega
theorem szStrAll_le {left : Int} {ss : List ByteArray} (h : 0 ≤ szStrAll left ss) : szStrAll left ss ≤ left ∧ (ss.length : Int) ≤ left ∧ ∀ s ∈ ss, (s.size : Int) ≤ left := by
  unfold szStrAll at h ⊢
  split
  · rename_i h1; rw [if_pos h1] at h; omega
  · rename_i h1
    rw [if_neg h1] at h
    have ⟨h2, h3⟩ := szStrs_le ss _ h
    exact ⟨by omega, by omega, fun s hs => by have := h3 s hs; omega⟩
set_option maxHeartbeats 400000 in
theorem szStringS_any (A : Option Addr) (n c : Nat) (ss : List ByteArray) (left : Int) (w : World) (h0 : 0 ≤ left) (h1 : left ≤ 1048576) (hn : n ≤ maxLen)
    (hr : Rd w w.heap.size A n 1 strEM ss) (hs : ∀ s ∈ ss, s.size ≤ maxLen) :
    Calls Try.prog 30 #[.slice A n c, .int .i64 left] w (Ret (.int .i64 (szStrAll left ss)) w) := by
  have hl := Lib.hid hr.len
  have HS := Lib.hid hs; clear hs
  unfold maxLen at hn
  by_cases h : left < n
  · have e := Lib.hid (show szStrAll left ss = -1 by unfold szStrAll; rw [hl.out, if_pos h])
    go_enter Try.func30, Try.ntmps30
    go_wp2
    go_ret
    exact ⟨ret_int e.out.symm, Below.refl _ _⟩
  · have HR := Lib.hid (show szStrs (left - n) (ss.drop 0) = szStrAll left ss by unfold szStrAll; rw [hl.out, if_neg h]; rfl)
    go_enter Try.func30, Try.ntmps30
    go_wp2
    go_loopw [1, 5] (fun l i w' => ∃ k : Nat, ∃ z : Int, i = .int .i64 k ∧ l = .int .i64 z ∧ k ≤ n ∧ 0 ≤ z ∧ z ≤ 1048576 ∧ Below w.heap.size w w' ∧ Hid (szStrs z (ss.drop k) = szStrAll left ss)) (fun _ i _ => n - (intOf i).toNat)
    case atStart => exact ⟨0, _, rfl, rfl, by omega, by omega, by omega, Below.refl _ _, HR⟩
    case round =>
      obtain ⟨k, z, rfl, rfl, hk, hz0, hz1, hb, H⟩ := hrel
      by_cases hlt : k < n
      · obtain ⟨b, o, x, rfl, hB', gx, c0⟩ := (show Rd wr wr.heap.size A n 1 (fun s => [.string s]) ss from hr.next hb).str hlt
        have hxm : x.size ≤ maxLen := HS.out x (List.mem_of_getElem? gx)
        unfold maxLen at hxm
        have H' := Lib.hid (show (if z - x.size < 0 then -1 else szStrs (z - x.size) (ss.drop (k + 1))) = szStrAll left ss by
          rw [← H.out, drop_cons gx]; rfl)
        clear gx H
        by_cases hc : z - x.size < 0
        · go_wp2
          go_ret
          exact ⟨ret_int (by rw [← H'.out, if_pos hc]), hb⟩
        · go_wp2
          go_roundw
          case rel => exact ⟨k + 1, _, by go_num, rfl, by omega, by omega, by omega, hb, Lib.hid (by rw [← H'.out, if_neg hc])⟩
          case measure => simp [intOf]; omega
      · go_wp2
        go_ret
        exact ⟨ret_int (by rw [← H.out, List.drop_of_length_le (by rw [hl.out]; omega)]; rfl), hb⟩
end Go.Proofs.Ytkknhpailohjcaa
