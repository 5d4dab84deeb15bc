/-
  The copy of a list of factors: a new slice that holds the same factors.
-/
import Derived.Test.YtmfgmkahifcgpaaDoorFac
namespace Go.Proofs.YtmfgmkahifcgpaaDoor
open Go.RowKit

theorem info_iFactor : (Tryd.prog.info? 33).map (fun i => (i.zero, i.size, i.bytes)) = some (some (.agg #[.string .empty, .int .i64 0, .int .i64 0]), 3, 32) := by kernel_rfl

theorem fac_len (f : Fac) : f.cells.length = 3 := rfl
/-- one element more of a block that is being filled -/
theorem fill3 {cs : Array Value} {n k : Nat} {fs : List Fac} {x : Fac} (hs : cs.size = n * 3) (hk : k < n) (hx : fs[k]? = some x)
    (hc : ∀ i y, i < k → fs[i]? = some y → ∀ j, j < 3 → cs[i * 3 + j]? = y.cells[j]?) :
    ((((cs.setIfInBounds (k * 3) (.string x.l)).setIfInBounds (k * 3 + 1) (.int .i64 x.a)).setIfInBounds (k * 3 + 2) (.int .i64 x.b)).size = n * 3) ∧
    ∀ i y, i < k + 1 → fs[i]? = some y → ∀ j, j < 3 → (((cs.setIfInBounds (k * 3) (.string x.l)).setIfInBounds (k * 3 + 1) (.int .i64 x.a)).setIfInBounds (k * 3 + 2) (.int .i64 x.b))[i * 3 + j]? = y.cells[j]? := by
  refine ⟨by simpa using hs, fun i y hi hy j hj => ?_⟩
  by_cases he : i = k
  · subst he
    obtain rfl : x = y := by rw [hx] at hy; exact Option.some.inj hy
    rcases j with _ | _ | _ | j
    · simp [Array.getElem?_setIfInBounds, Fac.cells]; omega
    · simp [Array.getElem?_setIfInBounds, Fac.cells]; omega
    · simp [Array.getElem?_setIfInBounds, Fac.cells]; omega
    · omega
  · rw [Array.getElem?_setIfInBounds_ne (by omega), Array.getElem?_setIfInBounds_ne (by omega), Array.getElem?_setIfInBounds_ne (by omega)]
    exact hc i y (by omega) hy j hj

set_option maxHeartbeats 400000 in
theorem toFactorS_any (A : Option Addr) (n c : Nat) (fs : List Fac) (w : World) (hn : n ≤ 1048576)
    (hr : Rd w w.heap.size A n 3 Fac.cells fs) :
    Calls Tryd.prog 6 #[.slice A n c] w (RetNew w 33 3 Fac.cells fs) := by
  obtain ⟨i0, hi, hz0, hz1, hz2⟩ := info_parts info_iFactor
  have hl := Lib.hid hr.len
  have hmk := fun W => run_make_rowN (P := Tryd.prog) 25 33 i0 _ Tryd.underlying25 hi hz0 .i64 .i64 n n (Nat.le_refl _) (by rw [hz2]; omega) (by omega) W
  rw [hz1] at hmk
  go_enter Tryd.func6, Tryd.ntmps6
  go_wp2
  go_loopw [4] (fun i w' => ∃ (k : Nat) (cs : Array Value), i = .int .i64 k ∧ k ≤ n ∧ Below w.heap.size w w' ∧ Hid (Blk w' w.heap.size 33 cs) ∧ Hid (cs.size = n * 3) ∧
      Hid (∀ i y, i < k → fs[i]? = some y → ∀ j, j < 3 → cs[i * 3 + j]? = y.cells[j]?)) (fun i _ => n - (intOf i).toNat)
  case atStart => exact ⟨0, _, rfl, by omega, (Below.refl _ _).alloc (Nat.le_refl _) _, Lib.hid (Blk.new _ _ _), Lib.hid (size_madeCells _ _), Lib.hid (fun i y h => absurd h (by omega))⟩
  case round =>
    obtain ⟨k, cs, rfl, hk, hb, hB, hs, hc⟩ := hrel
    by_cases hlt : k < n
    · obtain ⟨b, o, x, rfl, hB', gx, c0, c1, c2⟩ := (hr.below hb).fac hlt
      have Gx := Lib.hid gx; clear gx
      have hsz := hB.out.lt
      go_wp2_with fail
      refine (toFactor_any x _).mono ?_
      rintro e w1 ⟨rfl, hb1⟩
      have hB1 := hB.out.next hb1
      have hlt1 : k * 3 + 2 < cs.size := by rw [hs.out]; omega
      have s0 := (hB1.cell (k * 3)).trans (Array.getElem?_eq_getElem (by omega))
      have s1 := (hB1.cell (k * 3 + 1)).trans (Array.getElem?_eq_getElem (by omega))
      have s2 := (hB1.cell (k * 3 + 2)).trans (Array.getElem?_eq_getElem (by omega))
      have f0 := hB1.frozen
      have HB1 := Lib.hid hB1; clear hB1
      go_wp2
      go_roundw
      case rel =>
        obtain ⟨q1, q2⟩ := fill3 hs.out hlt Gx.out hc.out
        exact ⟨k + 1, _, by go_num, by omega, (((hb.trans (hb1.mono hb.size)).setCell (Nat.le_refl _) _).setCell (Nat.le_refl _) _).setCell (Nat.le_refl _) _,
          Lib.hid (((HB1.out.set_ _ _).set_ _ _).set_ _ _), Lib.hid q1, Lib.hid q2⟩
      case measure => simp [intOf]; omega
    · go_wp2
      go_ret
      refine ⟨some ⟨w.heap.size, 0, none⟩, n, ret_slice hl.out.symm, ?_, hb⟩
      rw [hl.out]
      exact own_of_blk hB.out (Nat.le_refl _) hs.out hl.out (by unfold maxLen; omega) (fun _ _ => rfl) (fun i y hy j hj => hc.out i y (by have := (List.getElem?_eq_some_iff.1 hy).1; rw [hl.out] at this; omega) hy j hj)
end Go.Proofs.YtmfgmkahifcgpaaDoor
