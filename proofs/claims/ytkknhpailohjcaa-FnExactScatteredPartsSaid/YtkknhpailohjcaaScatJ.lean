/-
  Scattered words, counted: the table of two words in a row, in the program.
-/
import Derived.Test.YtkknhpailohjcaaScatI
namespace Go.Proofs.Ytkknhpailohjcaa
open Go.RowKit

theorem mul_b9s {x y m : Int} (x0 : 0 ≤ x) (x1 : x < m) (y0 : 0 ≤ y) (y1 : y < m) (hm : m ≤ 1000000000) : 0 ≤ x * y ∧ x * y ≤ 1000000000000000000 := by
  refine ⟨Int.mul_nonneg x0 y0, ?_⟩
  have := Int.mul_le_mul (show x ≤ 1000000000 by omega) (show y ≤ 1000000000 by omega) y0 (by omega : (0 : Int) ≤ 1000000000)
  omega
theorem TabJ.mono {w : World} {base b' n c m : Nat} {A : Option Addr} {gs : List Nat} {xss : List (List Int)} (h : TabJ w base A n c m gs xss) (hb : b' ≤ base) : TabJ w b' A n c m gs xss :=
  ⟨h.o.mono hb, h.lg, fun i g hg => (h.r i g hg).mono hb, h.m, h.d⟩
theorem TabN.mono {N base b' : Nat} {w : World} {v : Value} {Y : Tb} (h : TabN N base w v Y) (hb : b' ≤ base) : TabN N b' w v Y := by
  obtain ⟨A, c, gs, e, hT⟩ := h
  exact ⟨A, c, gs, e, hT.mono hb⟩
theorem TabN.next {N base : Nat} {w w' : World} {v : Value} {Y : Tb} (h : TabN N base w v Y) (hb : Below w.heap.size w w') : TabN N base w' v Y := by
  obtain ⟨A, c, gs, e, hT⟩ := h
  exact ⟨A, c, gs, e, hT.next hb⟩
/-- one number of a row turned -/
theorem cs_put {N : Nat} {cs : Array Value} {f : Nat → Int} (hs : cs.size = N) (hc : ∀ b, b < N → cs[b]? = some (.int .i64 (f b))) {j : Nat} (hj : j < N) (v : Int) {f' : Nat → Int} (hv : f' j = v) (hf : ∀ b, b ≠ j → f' b = f b) :
    (cs.setIfInBounds j (.int .i64 v)).size = N ∧ ∀ b, b < N → (cs.setIfInBounds j (.int .i64 v))[b]? = some (.int .i64 (f' b)) := by
  refine ⟨by simpa using hs, fun b hb => ?_⟩
  by_cases h : b = j
  · subst h
    rw [Array.getElem?_setIfInBounds_self_of_lt (by omega), hv]
  · rw [Array.getElem?_setIfInBounds_ne (by omega), hc b hb, hf b h]
/-- row k under way: the numbers before j are done, number j is at step c -/
def scRow (m : Int) (X Y : Tb) (r : Fac) (k j c : Nat) : Nat → Int := fun b => if b < j then scG m X Y r k b else if b = j then scDot m X Y k j c else 0
theorem scRow_start (m : Int) (X Y : Tb) (r : Fac) (k : Nat) (b : Nat) : scRow m X Y r k k 0 b = 0 := by
  unfold scRow
  by_cases h : b < k
  · rw [if_pos h]; unfold scG; rw [if_pos h]
  · rw [if_neg h]; split <;> rfl
theorem scRow_next (m : Int) (X Y : Tb) (r : Fac) {k j : Nat} (h : k ≤ j) (b : Nat) : scRow m X Y r k j (j + 1 - k) b = scRow m X Y r k (j + 1) 0 b := by
  unfold scRow
  by_cases h1 : b < j
  · rw [if_pos h1, if_pos (by omega)]
  · by_cases h2 : b = j
    · subst h2
      rw [if_neg h1, if_pos rfl, if_pos (by omega)]
      unfold scG; rw [if_neg (by omega), show b + 1 - k = b - k + 1 by omega]
    · rw [if_neg h1, if_neg h2, if_neg (by omega)]; split <;> rfl
theorem scRow_end (m : Int) (X Y : Tb) (r : Fac) (k N : Nat) {b : Nat} (h : b < N) : scRow m X Y r k N 0 b = scG m X Y r k b := by unfold scRow; rw [if_pos h]
theorem scRow_at (m : Int) (X Y : Tb) (r : Fac) (k j c : Nat) : scRow m X Y r k j c j = scDot m X Y k j c := by unfold scRow; rw [if_neg (by omega), if_pos rfl]
theorem scRow_else (m : Int) (X Y : Tb) (r : Fac) (k j c c' : Nat) {b : Nat} (h : b ≠ j) : scRow m X Y r k j c' b = scRow m X Y r k j c b := by unfold scRow; rw [if_neg h, if_neg h]
set_option maxHeartbeats 4000000 in
set_option maxRecDepth 100000 in
theorem scat2_any (X Y : Tb) (va vb : Value) (r : Fac) (m : Int) (N nb mb B0 : Nat) (w : World) (hnb : nb < w.heap.size) (hmb : mb < w.heap.size) (dn : w.cell? ⟨nb, 0, none⟩ = some (.int .i64 (N : Int))) (dm : w.cell? ⟨mb, 0, none⟩ = some (.int .i64 m))
    (hN9 : N ≤ 9) (hm : 1 ≤ m) (hm2 : m ≤ 1000000000) (rx : TabN N B0 w va X) (ry : TabN N B0 w vb Y) (ix : InT N m X) (iy : InT N m Y) :
    Calls Try.prog 95 #[va, vb, r.val, .pointer (some ⟨nb, 0, none⟩), .pointer (some ⟨mb, 0, none⟩)] w (RetRep (TabN N w.heap.size) (scG m X Y r) w) := by
  obtain ⟨i0, hi, hz0, hz1, hz2⟩ := info_parts info_i64
  have hmk := run_make_rowN (P := Try.prog) 26 2 i0 _ Try.underlying26 hi hz0 .i64 .i64 N N (Nat.le_refl _) (by rw [hz2]; omega) (by omega)
  rw [hz1] at hmk
  obtain ⟨A1, c1, gs1, rfl, hx⟩ := rx
  obtain ⟨A2, c2, gs2, rfl, hy⟩ := ry
  have HX := Lib.hid hx; have HY := Lib.hid hy
  have IX := Lib.hid ix; have IY := Lib.hid iy
  clear hx hy ix iy
  have hm0 : ¬ m = 0 := by omega
  unfold Fac.val
  go_enter Try.func95, Try.ntmps95
  go_wp2_with fail
  go_loopw [9, 16] (fun o_ i_ w' => ∃ (k : Nat) (A' : Option Addr) (c' : Nat) (gs : List Nat), i_ = .int .i64 k ∧ o_ = .slice A' k c' ∧ k ≤ N ∧ Below w.heap.size w w' ∧
      Hid (TabJ w' w.heap.size A' k c' N gs (tabL N (scG m X Y r)))) (fun _ i_ _ => N - (intOf i_).toNat)
  case atStart => exact ⟨0, _, 0, [], rfl, rfl, by omega, by (repeat first | exact Below.refl _ _ | assumption | refine Below.drew ?_ | refine Below.alloc ?_ (by first | exact Nat.le_refl _ | (simp; done) | omega | (simp; omega)) _ | refine Below.setCell ?_ (by first | exact Nat.le_refl _ | (simp; done) | omega | (simp; omega)) _), Lib.hid (by simpa using made_nil' (w.alloc (.cells #[.string r.l, .int .i64 r.a, .int .i64 r.b] 75)) w.heap.size N _ (by simp))⟩
  case round =>
    obtain ⟨k, A', c', gs, rfl, rfl, hk, hb, hT⟩ := hrel
    have sw := hb.size
    have en := (hb.cell (p := ⟨nb, 0, none⟩) hnb).trans dn
    have em := (hb.cell (p := ⟨mb, 0, none⟩) hmb).trans dm
    have ln : nb < wr.heap.size := by omega
    have lm : mb < wr.heap.size := by omega
    by_cases hlt : k < N
    · rename World => wo
      go_wp2_with fail
      go_loopw [12] (fun j_ w' => ∃ (j : Nat) (cs : Array Value), j_ = .int .i64 j ∧ k ≤ j ∧ j ≤ N ∧ Below wo.heap.size wo w' ∧ Hid (Blk w' wo.heap.size 2 cs) ∧ Hid (cs.size = N) ∧ Hid (∀ b, b < N → cs[b]? = some (.int .i64 (scRow m X Y r k j 0 b)))) (fun j_ _ => N - (intOf j_).toNat)
      case atStart =>
        refine ⟨k, _, rfl, Nat.le_refl _, by omega, (Below.refl _ _).alloc (Nat.le_refl _) _, Lib.hid (Blk.new _ _ _), Lib.hid ?_, Lib.hid (fun b hb => ?_)⟩
        · rw [madeN]; simp [size_madeCells, Value.cells]
        · rw [madeN, made_at hb, scRow_start]
      case round =>
        obtain ⟨j, cs, rfl, hkj, hj, hbj, hB, hcs, hcc⟩ := hrel
        have swj := hbj.size
        have en2 := (hbj.cell (p := ⟨nb, 0, none⟩) ln).trans en
        have ln2 : nb < wr.heap.size := by omega
        by_cases hltj : j < N
        · rename World => wj
          go_wp2_with fail
          go_loopw [13] (fun c_ w' => ∃ (c : Nat) (cs : Array Value), c_ = .int .i64 c ∧ k ≤ c ∧ c ≤ j + 1 ∧ Below wo.heap.size wo w' ∧ Hid (Blk w' wo.heap.size 2 cs) ∧ Hid (cs.size = N) ∧ Hid (∀ b, b < N → cs[b]? = some (.int .i64 (scRow m X Y r k j (c - k) b)))) (fun c_ _ => j + 1 - (intOf c_).toNat)
          case atStart =>
            exact ⟨k, cs, rfl, Nat.le_refl _, by omega, hbj, hB, hcs, by rw [Nat.sub_self]; exact hcc⟩
          case round =>
            obtain ⟨c, cs3, rfl, hkc, hcj, hb3, hB3, hcs3, hcc3⟩ := hrel
            by_cases hltc : c ≤ j
            · have hbw := hb.trans (hb3.mono hb.size)
              have sw3 := hbw.size
              obtain ⟨p1, g1, rfl, hp1, _, hg1, s1, q1⟩ := (HX.out.next hbw).num (Nat.le_refl _) (i := k) (j := c) hlt (by omega)
              obtain ⟨p2, g2, rfl, hp2, _, hg2, s2, q2⟩ := (HY.out.next hbw).num (Nat.le_refl _) (i := c) (j := j) (by omega) hltj
              have em3 := (hb3.cell (p := ⟨mb, 0, none⟩) lm).trans em
              have lm3 : mb < wr.heap.size := by have := hb3.size; omega
              have f3 := hB3.out.frozen
              have l3 := hB3.out.lt
              have d3 : wr.cell? ⟨wo.heap.size, j, none⟩ = some (.int .i64 (scDot m X Y k j (c - k))) := (hB3.out.cell j).trans ((hcc3.out j hltj).trans (by rw [scRow_at]))
              obtain ⟨x0, x1⟩ := IX.out k c hlt (by omega)
              obtain ⟨y0, y1⟩ := IY.out c j (by omega) hltj
              obtain ⟨t0, t1⟩ := scDot_in hm X Y k j (c - k)
              have eN := Lib.hid (show scDot m X Y k j (c + 1 - k) = (scDot m X Y k j (c - k) + X k c * Y c j) % m by
                rw [show c + 1 - k = (c - k) + 1 by omega]
                show (_ + X k (k + (c - k)) * Y (k + (c - k)) j) % m = _
                rw [show k + (c - k) = c by omega])
              have mq := mul_b9s x0 x1 y0 y1 hm2
              generalize X k c = x at *
              generalize Y c j = y at *
              generalize scDot m X Y k j (c - k) = t at *
              obtain ⟨mq0, mq1⟩ := mq
              have re := emod_inT (a := t + x * y) hm
              obtain ⟨re0, re1⟩ := re
              have u1 : IntKind.i64.wrap (x * y) = x * y := IntWalk.i64_in _ (by omega)
              have u2 : IntKind.i64.wrap (t + x * y) = t + x * y := IntWalk.i64_in _ (by clear u1; omega)
              have u3 : IntKind.i64.wrap ((t + x * y) % m) = (t + x * y) % m := IntWalk.i64_in _ (by clear u1 u2; omega)
              have v1 : (t + x * y).tmod m = (t + x * y) % m := Int.tmod_eq_emod_of_nonneg (by omega)
              have hN := Lib.hid (cs_put hcs3.out hcc3.out hltj ((t + x * y) % m) (f' := scRow m X Y r k j (c + 1 - k)) (by rw [scRow_at, eN.out]) (fun b hb => scRow_else _ _ _ _ _ _ _ _ hb))
              have i1 : (c : Int) ≤ (j : Int) := by omega
              have i2 : (j : Int) < (N : Int) := by omega
              have i3 : (c : Int) < (N : Int) := by omega
              have i4 : (k : Int) < (N : Int) := by omega
              go_wp2_with fail
              go_region
              generalize hW : World.drew _ = w8
              have H8 := Lib.hid hW.symm; clear hW
              have B8 := Lib.hid (show Blk w8 wo.heap.size 2 (cs3.setIfInBounds j (.int .i64 ((t + x * y) % m))) by rw [H8.out]; exact (hB3.out.set_ j _).drew)
              have b8 : Below wo.heap.size wo w8 := by rw [H8.out]; exact (hb3.setCell (Nat.le_refl _) _).drew
              clear H8 s1 s2 q1 q2 em3 f3 d3 u1 u2 u3 v1
              go_wp2_with fail
              go_roundw
              case rel => exact ⟨c + 1, _, by go_num, by omega, by omega, b8, B8, Lib.hid hN.out.1, Lib.hid hN.out.2⟩
              case measure => simp [intOf]; omega
            · obtain rfl : c = j + 1 := by omega
              go_wp2_with fail
              go_roundw
              case rel => exact ⟨j + 1, cs3, by go_num, by omega, by omega, hb3, hB3, hcs3, Lib.hid (fun b hb => by rw [hcc3.out b hb, scRow_next _ _ _ _ hkj])⟩
              case measure => simp [intOf]; omega
        · have hjN : N = j := by omega
          subst hjN
          have hbw := hb.trans (hbj.mono hb.size)
          have Tj := Lib.hid (hT.out.next hbj)
          go_wp2_with
            (at_builtin
             refine wpList_push (w0 := w) rfl _ _ _ rfl w.heap.size 26 1 24 elemSl (encH N) _ k c' gs rfl (Tj.out.o.alloc _) wr.heap.size wo.heap.size #[.slice (some ⟨wo.heap.size, 0, none⟩) N N] 26 (0, 0) rfl (heap_alloc_new _ _) rfl rfl (one_encH _ _) (by omega) (by omega) (by unfold maxLen; omega) rfl (hbw.alloc hbw.size _) ?_
             intro A9 c9 w9 own9 hg9 hat9 hb9
             have T9 := Lib.hid (TabJ.push hT.out Tj.out (Nat.le_refl _) (by
               rw [tabL_at _ hlt, rowL_ext (g := scRow m X Y r k N 0) (fun b hb => (scRow_end m X Y r k N hb).symm)]
               exact own_of_row hB.out hcs.out hcc.out sw (by unfold maxLen; omega)) (by rw [tabL_at _ hlt, rowL_len]) _ own9 hg9)
             clear own9 hat9 hg9)
          go_roundw
          case rel => exact ⟨k + 1, A9, c9, gs ++ [wo.heap.size], by go_num, rfl, by omega, hb9, T9⟩
          case measure => simp [intOf]; omega
    · obtain rfl : k = N := by omega
      go_wp2_with fail
      go_ret
      exact ret_rep ⟨A', c', gs, rfl, hT.out⟩ hb
end Go.Proofs.Ytkknhpailohjcaa
