
/-
  Lists of numbers copied and compared.
-/
import Derived.Test.YtcpofhjoblgmgaaDoorMake
namespace Go.Proofs.YtcpofhjoblgmgaaDoor
open Go.RowKit

theorem fill1 {α : Type} {enc : α → List Value} {cs : Array Value} {n k : Nat} {xs : List α} {x : α} {v : Value} (hs : cs.size = n * 1) (hk : k < n) (hx : xs[k]? = some x) (he : enc x = [v])
    (hc : ∀ i y, i < k → xs[i]? = some y → ∀ j, j < 1 → cs[i * 1 + j]? = (enc y)[j]?) :
    (cs.setIfInBounds k v).size = n * 1 ∧ ∀ i y, i < k + 1 → xs[i]? = some y → ∀ j, j < 1 → (cs.setIfInBounds k v)[i * 1 + j]? = (enc y)[j]? := by
  refine ⟨by simpa using hs, fun i y hi hy j hj => ?_⟩
  obtain rfl : j = 0 := by omega
  by_cases h : i = k
  · subst h
    obtain rfl : x = y := by rw [hx] at hy; exact Option.some.inj hy
    rw [he]
    have : i < cs.size := by omega
    simp [this]
  · rw [← hc i y (by omega) hy 0 hj]
    rw [Array.getElem?_setIfInBounds_ne (by omega)]

def eqInts : List Int → List Int → Bool
  | x :: r, y :: s => decide (x = y) && eqInts r s
  | _, _ => true
theorem eqInts_eq : ∀ (a b : List Int), a.length = b.length → eqInts a b = decide (a = b)
  | [], [], _ => rfl
  | x :: r, y :: s, h => by
    rw [eqInts, eqInts_eq r s (by simpa using h)]
    by_cases h1 : x = y <;> by_cases h2 : r = s <;> simp [h1, h2]
set_option maxHeartbeats 400000 in
theorem eqInt64S_any (A D : Option Addr) (n c m d : Nat) (xs ys : List Int) (w : World) (hn : n ≤ maxLen) (hm : m ≤ maxLen)
    (hx : Rd w w.heap.size A n 1 intE xs) (hy : Rd w w.heap.size D m 1 intE ys) :
    Calls Tryd.prog 17 #[.slice A n c, .slice D m d] w (Ret (.bool (decide (xs = ys))) w) := by
  have hl := Lib.hid hx.len
  have hl' := Lib.hid hy.len
  unfold maxLen at hn hm
  by_cases h : n = m
  · obtain rfl := h
    have HR := Lib.hid (show eqInts (xs.drop 0) (ys.drop 0) = decide (xs = ys) from eqInts_eq _ _ (by rw [List.drop_zero, List.drop_zero, hl.out, hl'.out]))
    go_enter Tryd.func17, Tryd.ntmps17
    go_wp2
    go_loopw [5] (fun i w' => ∃ k : Nat, i = .int .i64 k ∧ k ≤ n ∧ Below w.heap.size w w' ∧ Hid (eqInts (xs.drop k) (ys.drop k) = decide (xs = ys))) (fun i _ => n - (intOf i).toNat)
    case atStart => exact ⟨0, rfl, by omega, Below.refl _ _, HR⟩
    case round =>
      obtain ⟨k, rfl, hk, hb, H⟩ := hrel
      by_cases hlt : k < n
      · obtain ⟨b, o, x, rfl, hB, gx, c0⟩ := (show Rd wr wr.heap.size A n 1 (fun s => [.int .i64 s]) xs from hx.next hb).int hlt
        obtain ⟨b', o', y, rfl, hB', gy, d0⟩ := (show Rd wr wr.heap.size D n 1 (fun s => [.int .i64 s]) ys from hy.next hb).int hlt
        have H' := Lib.hid (show (decide (x = y) && eqInts (xs.drop (k + 1)) (ys.drop (k + 1))) = decide (xs = ys) by
          rw [← H.out, drop_cons gx, drop_cons gy]; rfl)
        clear gx gy H hx hy HR
        have hup := upc wr.heap.size wr
        have i0 : (0 : Int) ≤ (k : Int) := by omega
        have i1 : (k : Int) < (n : Int) := by omega
        by_cases he : x = y
        · have he' := Lib.hid (show decide (x = y) = true by simpa using he)
          subst he
          go_wp2_with fail
          refine wp_region_up wr.heap.size (by kernel_rfl) (by kernel_rfl) ?_
          repeat (go_big_quiet_step (fail))
          refine wpQuiet_nil ?_
          intro w2 hup_w2
          have hb2 := up_of hup_w2
          go_wp2
          go_roundw
          case rel => exact ⟨k + 1, by go_num, by omega, hb.trans (hb2.mono hb.size), Lib.hid (by rw [← H'.out]; simp)⟩
          case measure => simp [intOf]; omega
        · have he' := Lib.hid (show decide (x = y) = false by simpa using he)
          go_wp2_with fail
          refine wp_region_up wr.heap.size (by kernel_rfl) (by kernel_rfl) ?_
          repeat (go_big_quiet_step (fail))
          refine wpQuiet_nil ?_
          intro w2 hup_w2
          have hb2 := up_of hup_w2
          go_wp2
          go_ret
          exact ⟨ret_bool (by rw [← H'.out, he'.out, Bool.false_and]), hb.trans (hb2.mono hb.size)⟩
      · go_wp2
        go_ret
        exact ⟨ret_bool (by rw [← H.out, List.drop_of_length_le (by rw [hl.out]; omega)]; rfl), hb⟩
  · have e := Lib.hid (show decide (xs = ys) = false by simp; rintro rfl; exact h (hl.out.symm.trans hl'.out))
    go_enter Tryd.func17, Tryd.ntmps17
    go_wp2
    go_ret
    exact ⟨ret_bool e.out.symm, Below.refl _ _⟩
end Go.Proofs.YtcpofhjoblgmgaaDoor
