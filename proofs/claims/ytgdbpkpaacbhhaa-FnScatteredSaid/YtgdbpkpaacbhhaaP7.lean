/-
  Texts of this claim, merged: ScatJ ScatK ScatL ScatS ScatT Scat ScatW LtC Turn Law.
-/
import Derived.Test.YtgdbpkpaacbhhaaP6
import Derived.Deep.RegionHeld3
import Derived.ProofKit
import Derived.OpenShut
import Derived.JoinedCond
import Derived.Carry
import Derived.Deep.Slices
import Derived.Deep.Fields
import Derived.ChangeSame
import Derived.ChangeSlices
import Derived.SliceStrings
import Derived.Lib.SmallJoins


/-
  Scattered words, counted: the table of two words in a row, in the program.
-/
namespace Go.Proofs.Ytgdbpkpaacbhhaa
open Go.RowKit

theorem mul_b9s {x y m : Int} (x0 : 0 ≤ x) (x1 : x < m) (y0 : 0 ≤ y) (y1 : y < m) (hm : m ≤ 1000000000) : 0 ≤ x * y ∧ x * y ≤ 1000000000000000000 := by
  refine ⟨Int.mul_nonneg x0 y0, ?_⟩
  have := Int.mul_le_mul (show x ≤ 1000000000 by omega) (show y ≤ 1000000000 by omega) y0 (by omega : (0 : Int) ≤ 1000000000)
  omega
theorem TabJ.mono {w : World} {base b' n c m : Nat} {A : Option Addr} {gs : List Nat} {xss : List (List Int)} (h : TabJ w base A n c m gs xss) (hb : b' ≤ base) : TabJ w b' A n c m gs xss :=
  ⟨h.o.mono hb, h.lg, fun i g hg => (h.r i g hg).mono hb, h.m, h.d⟩
theorem TabN.mono {N base b' : Nat} {w : World} {v : Value} {Y : Tb} (h : TabN N base w v Y) (hb : b' ≤ base) : TabN N b' w v Y := by
  obtain ⟨A, c, gs, e, hT⟩ := h
  exact ⟨A, c, gs, e, hT.mono hb⟩
theorem TabN.next {N base : Nat} {w w' : World} {v : Value} {Y : Tb} (h : TabN N base w v Y) (hb : Below w.heap.size w w') : TabN N base w' v Y := by
  obtain ⟨A, c, gs, e, hT⟩ := h
  exact ⟨A, c, gs, e, hT.next hb⟩
/-- one number of a row turned -/
theorem cs_put {N : Nat} {cs : Array Value} {f : Nat → Int} (hs : cs.size = N) (hc : ∀ b, b < N → cs[b]? = some (.int .i64 (f b))) {j : Nat} (hj : j < N) (v : Int) {f' : Nat → Int} (hv : f' j = v) (hf : ∀ b, b ≠ j → f' b = f b) :
    (cs.setIfInBounds j (.int .i64 v)).size = N ∧ ∀ b, b < N → (cs.setIfInBounds j (.int .i64 v))[b]? = some (.int .i64 (f' b)) := by
  refine ⟨by simpa using hs, fun b hb => ?_⟩
  by_cases h : b = j
  · subst h
    rw [Array.getElem?_setIfInBounds_self_of_lt (by omega), hv]
  · rw [Array.getElem?_setIfInBounds_ne (by omega), hc b hb, hf b h]
/-- row k under way: the numbers before j are done, number j is at step c -/
def scRow (m : Int) (X Y : Tb) (r : Fac) (k j c : Nat) : Nat → Int := fun b => if b < j then scG m X Y r k b else if b = j then scDot m X Y k j c else 0
theorem scRow_start (m : Int) (X Y : Tb) (r : Fac) (k : Nat) (b : Nat) : scRow m X Y r k k 0 b = 0 := by
  unfold scRow
  by_cases h : b < k
  · rw [if_pos h]; unfold scG; rw [if_pos h]
  · rw [if_neg h]; split <;> rfl
theorem scRow_next (m : Int) (X Y : Tb) (r : Fac) {k j : Nat} (h : k ≤ j) (b : Nat) : scRow m X Y r k j (j + 1 - k) b = scRow m X Y r k (j + 1) 0 b := by
  unfold scRow
  by_cases h1 : b < j
  · rw [if_pos h1, if_pos (by omega)]
  · by_cases h2 : b = j
    · subst h2
      rw [if_neg h1, if_pos rfl, if_pos (by omega)]
      unfold scG; rw [if_neg (by omega), show b + 1 - k = b - k + 1 by omega]
    · rw [if_neg h1, if_neg h2, if_neg (by omega)]; split <;> rfl
theorem scRow_end (m : Int) (X Y : Tb) (r : Fac) (k N : Nat) {b : Nat} (h : b < N) : scRow m X Y r k N 0 b = scG m X Y r k b := by unfold scRow; rw [if_pos h]
theorem scRow_at (m : Int) (X Y : Tb) (r : Fac) (k j c : Nat) : scRow m X Y r k j c j = scDot m X Y k j c := by unfold scRow; rw [if_neg (by omega), if_pos rfl]
theorem scRow_else (m : Int) (X Y : Tb) (r : Fac) (k j c c' : Nat) {b : Nat} (h : b ≠ j) : scRow m X Y r k j c' b = scRow m X Y r k j c b := by unfold scRow; rw [if_neg h, if_neg h]
set_option maxHeartbeats 4000000 in
set_option maxRecDepth 100000 in
theorem scat2_any (X Y : Tb) (va vb : Value) (r : Fac) (m : Int) (N nb mb B0 : Nat) (w : World) (hnb : nb < w.heap.size) (hmb : mb < w.heap.size) (dn : w.cell? ⟨nb, 0, none⟩ = some (.int .i64 (N : Int))) (dm : w.cell? ⟨mb, 0, none⟩ = some (.int .i64 m))
    (hN9 : N ≤ 9) (hm : 1 ≤ m) (hm2 : m ≤ 1000000000) (rx : TabN N B0 w va X) (ry : TabN N B0 w vb Y) (ix : InT N m X) (iy : InT N m Y) :
    Calls Try.prog 89 #[va, vb, r.val, .pointer (some ⟨nb, 0, none⟩), .pointer (some ⟨mb, 0, none⟩)] w (RetRep (TabN N w.heap.size) (scG m X Y r) w) := by
  obtain ⟨i0, hi, hz0, hz1, hz2⟩ := info_parts info_i64
  have hmk := run_make_rowN (P := Try.prog) 46 2 i0 _ Try.underlying46 hi hz0 .i64 .i64 N N (Nat.le_refl _) (by rw [hz2]; omega) (by omega)
  rw [hz1] at hmk
  obtain ⟨A1, c1, gs1, rfl, hx⟩ := rx
  obtain ⟨A2, c2, gs2, rfl, hy⟩ := ry
  have HX := Lib.hid hx; have HY := Lib.hid hy
  have IX := Lib.hid ix; have IY := Lib.hid iy
  clear hx hy ix iy
  have hm0 : ¬ m = 0 := by omega
  unfold Fac.val
  go_enter Try.func89, Try.ntmps89
  go_wp2_with fail
  go_loopw [9, 16] (fun o_ i_ w' => ∃ (k : Nat) (A' : Option Addr) (c' : Nat) (gs : List Nat), i_ = .int .i64 k ∧ o_ = .slice A' k c' ∧ k ≤ N ∧ Below w.heap.size w w' ∧
      Hid (TabJ w' w.heap.size A' k c' N gs (tabL N (scG m X Y r)))) (fun _ i_ _ => N - (intOf i_).toNat)
  case atStart => exact ⟨0, _, 0, [], rfl, rfl, by omega, by (repeat first | exact Below.refl _ _ | assumption | refine Below.drew ?_ | refine Below.alloc ?_ (by first | exact Nat.le_refl _ | (simp; done) | omega | (simp; omega)) _ | refine Below.setCell ?_ (by first | exact Nat.le_refl _ | (simp; done) | omega | (simp; omega)) _), Lib.hid (by simpa using made_nil' (w.alloc (.cells #[.string r.l, .int .i64 r.a, .int .i64 r.b] 82)) w.heap.size N _ (by simp))⟩
  case round =>
    obtain ⟨k, A', c', gs, rfl, rfl, hk, hb, hT⟩ := hrel
    have sw := hb.size
    have en := (hb.cell (p := ⟨nb, 0, none⟩) hnb).trans dn
    have em := (hb.cell (p := ⟨mb, 0, none⟩) hmb).trans dm
    have ln : nb < wr.heap.size := by omega
    have lm : mb < wr.heap.size := by omega
    by_cases hlt : k < N
    · rename World => wo
      go_wp2_with fail
      go_loopw [12] (fun j_ w' => ∃ (j : Nat) (cs : Array Value), j_ = .int .i64 j ∧ k ≤ j ∧ j ≤ N ∧ Below wo.heap.size wo w' ∧ Hid (Blk w' wo.heap.size 2 cs) ∧ Hid (cs.size = N) ∧ Hid (∀ b, b < N → cs[b]? = some (.int .i64 (scRow m X Y r k j 0 b)))) (fun j_ _ => N - (intOf j_).toNat)
      case atStart =>
        refine ⟨k, _, rfl, Nat.le_refl _, by omega, (Below.refl _ _).alloc (Nat.le_refl _) _, Lib.hid (Blk.new _ _ _), Lib.hid ?_, Lib.hid (fun b hb => ?_)⟩
        · rw [madeN]; simp [size_madeCells, Value.cells]
        · rw [madeN, made_at hb, scRow_start]
      case round =>
        obtain ⟨j, cs, rfl, hkj, hj, hbj, hB, hcs, hcc⟩ := hrel
        have swj := hbj.size
        have en2 := (hbj.cell (p := ⟨nb, 0, none⟩) ln).trans en
        have ln2 : nb < wr.heap.size := by omega
        by_cases hltj : j < N
        · rename World => wj
          go_wp2_with fail
          go_loopw [13] (fun c_ w' => ∃ (c : Nat) (cs : Array Value), c_ = .int .i64 c ∧ k ≤ c ∧ c ≤ j + 1 ∧ Below wo.heap.size wo w' ∧ Hid (Blk w' wo.heap.size 2 cs) ∧ Hid (cs.size = N) ∧ Hid (∀ b, b < N → cs[b]? = some (.int .i64 (scRow m X Y r k j (c - k) b)))) (fun c_ _ => j + 1 - (intOf c_).toNat)
          case atStart =>
            exact ⟨k, cs, rfl, Nat.le_refl _, by omega, hbj, hB, hcs, by rw [Nat.sub_self]; exact hcc⟩
          case round =>
            obtain ⟨c, cs3, rfl, hkc, hcj, hb3, hB3, hcs3, hcc3⟩ := hrel
            by_cases hltc : c ≤ j
            · have hbw := hb.trans (hb3.mono hb.size)
              have sw3 := hbw.size
              obtain ⟨p1, g1, rfl, hp1, _, hg1, s1, q1⟩ := (HX.out.next hbw).num (Nat.le_refl _) (i := k) (j := c) hlt (by omega)
              obtain ⟨p2, g2, rfl, hp2, _, hg2, s2, q2⟩ := (HY.out.next hbw).num (Nat.le_refl _) (i := c) (j := j) (by omega) hltj
              have em3 := (hb3.cell (p := ⟨mb, 0, none⟩) lm).trans em
              have lm3 : mb < wr.heap.size := by have := hb3.size; omega
              have f3 := hB3.out.frozen
              have l3 := hB3.out.lt
              have d3 : wr.cell? ⟨wo.heap.size, j, none⟩ = some (.int .i64 (scDot m X Y k j (c - k))) := (hB3.out.cell j).trans ((hcc3.out j hltj).trans (by rw [scRow_at]))
              obtain ⟨x0, x1⟩ := IX.out k c hlt (by omega)
              obtain ⟨y0, y1⟩ := IY.out c j (by omega) hltj
              obtain ⟨t0, t1⟩ := scDot_in hm X Y k j (c - k)
              have eN := Lib.hid (show scDot m X Y k j (c + 1 - k) = (scDot m X Y k j (c - k) + X k c * Y c j) % m by
                rw [show c + 1 - k = (c - k) + 1 by omega]
                show (_ + X k (k + (c - k)) * Y (k + (c - k)) j) % m = _
                rw [show k + (c - k) = c by omega])
              have mq := mul_b9s x0 x1 y0 y1 hm2
              generalize X k c = x at *
              generalize Y c j = y at *
              generalize scDot m X Y k j (c - k) = t at *
              obtain ⟨mq0, mq1⟩ := mq
              have re := emod_inT (a := t + x * y) hm
              obtain ⟨re0, re1⟩ := re
              have u1 : IntKind.i64.wrap (x * y) = x * y := IntWalk.i64_in _ (by omega)
              have u2 : IntKind.i64.wrap (t + x * y) = t + x * y := IntWalk.i64_in _ (by clear u1; omega)
              have u3 : IntKind.i64.wrap ((t + x * y) % m) = (t + x * y) % m := IntWalk.i64_in _ (by clear u1 u2; omega)
              have v1 : (t + x * y).tmod m = (t + x * y) % m := Int.tmod_eq_emod_of_nonneg (by omega)
              have hN := Lib.hid (cs_put hcs3.out hcc3.out hltj ((t + x * y) % m) (f' := scRow m X Y r k j (c + 1 - k)) (by rw [scRow_at, eN.out]) (fun b hb => scRow_else _ _ _ _ _ _ _ _ hb))
              have i1 : (c : Int) ≤ (j : Int) := by omega
              have i2 : (j : Int) < (N : Int) := by omega
              have i3 : (c : Int) < (N : Int) := by omega
              have i4 : (k : Int) < (N : Int) := by omega
              go_wp2_with fail
              go_region
              generalize hW : World.drew _ = w8
              have H8 := Lib.hid hW.symm; clear hW
              have B8 := Lib.hid (show Blk w8 wo.heap.size 2 (cs3.setIfInBounds j (.int .i64 ((t + x * y) % m))) by rw [H8.out]; exact (hB3.out.set_ j _).drew)
              have b8 : Below wo.heap.size wo w8 := by rw [H8.out]; exact (hb3.setCell (Nat.le_refl _) _).drew
              clear H8 s1 s2 q1 q2 em3 f3 d3 u1 u2 u3 v1
              go_wp2_with fail
              go_roundw
              case rel => exact ⟨c + 1, _, by go_num, by omega, by omega, b8, B8, Lib.hid hN.out.1, Lib.hid hN.out.2⟩
              case measure => simp [intOf]; omega
            · obtain rfl : c = j + 1 := by omega
              go_wp2_with fail
              go_roundw
              case rel => exact ⟨j + 1, cs3, by go_num, by omega, by omega, hb3, hB3, hcs3, Lib.hid (fun b hb => by rw [hcc3.out b hb, scRow_next _ _ _ _ hkj])⟩
              case measure => simp [intOf]; omega
        · have hjN : N = j := by omega
          subst hjN
          have hbw := hb.trans (hbj.mono hb.size)
          have Tj := Lib.hid (hT.out.next hbj)
          go_wp2_with
            (at_builtin
             refine wpList_push (w0 := w) rfl _ _ _ rfl w.heap.size 46 1 24 elemSl (encH N) _ k c' gs rfl (Tj.out.o.alloc _) wr.heap.size wo.heap.size #[.slice (some ⟨wo.heap.size, 0, none⟩) N N] 46 (0, 0) rfl (heap_alloc_new _ _) rfl rfl (one_encH _ _) (by omega) (by omega) (by unfold maxLen; omega) rfl (hbw.alloc hbw.size _) ?_
             intro A9 c9 w9 own9 hg9 hat9 hb9
             have T9 := Lib.hid (TabJ.push hT.out Tj.out (Nat.le_refl _) (by
               rw [tabL_at _ hlt, rowL_ext (g := scRow m X Y r k N 0) (fun b hb => (scRow_end m X Y r k N hb).symm)]
               exact own_of_row hB.out hcs.out hcc.out sw (by unfold maxLen; omega)) (by rw [tabL_at _ hlt, rowL_len]) _ own9 hg9)
             clear own9 hat9 hg9)
          go_roundw
          case rel => exact ⟨k + 1, A9, c9, gs ++ [wo.heap.size], by go_num, rfl, by omega, hb9, T9⟩
          case measure => simp [intOf]; omega
    · obtain rfl : k = N := by omega
      go_wp2_with fail
      go_ret
      exact ret_rep ⟨A', c', gs, rfl, hT.out⟩ hb
end Go.Proofs.Ytgdbpkpaacbhhaa


/-
  Scattered words, counted: the table of a word, in the program.
-/
namespace Go.Proofs.Ytgdbpkpaacbhhaa
open Go.RowKit

theorem topW_any (A : Option Addr) (n c : Nat) (v : Value) (w : World) (hn : n ≤ 1048577) (h0 : 0 < n) (b : Nat) (hA : A = some ⟨b, 0, none⟩) (hb : b < w.heap.size) (hc : w.cell? ⟨b, n - 1, none⟩ = some v) (hv : ∃ p m d, v = .slice p m d) :
    Calls Try.prog 87 #[.slice A n c] w (Ret v w) := by
  subst hA
  obtain ⟨p, m, d, rfl⟩ := hv
  go_enter Try.func87, Try.ntmps87
  go_wp2_with fail
  go_ret
  exact ⟨rfl, Below.refl _ _⟩
theorem scat_last {N base B0 c : Nat} {A : Option Addr} {w : World} {vs : List Value} {ys : List Tb} {E : Tb} (own : w.ownsRow B0 41 1 (.slice A ys.length c) ys.length (vs.flatMap encV)) (reps : Reps scNil (TabN N base) w vs ys) (h0 : 0 < ys.length) (hE : ys.getD (ys.length - 1) scNil = E) :
    ∃ g v, A = some ⟨g, 0, none⟩ ∧ g < w.heap.size ∧ w.cell? ⟨g, ys.length - 1, none⟩ = some v ∧ (∃ p m d, v = .slice p m d) ∧ TabN N base w v E := by
  obtain ⟨g, cap, hv, hg0, hg1⟩ := own.form h0
  obtain rfl : A = some ⟨g, 0, none⟩ := by injection hv
  have hR := reps.at_ undef (i := ys.length - 1) (by rw [reps.1]; omega)
  rw [hE] at hR
  have cv := own_at (enc := encV) (sz := 1) (fun _ _ => rfl) own reps.1 undef (ys.length - 1) (by omega) 0 Nat.zero_lt_one
  refine ⟨g, _, rfl, hg1, by simpa [encV] using cv, ?_, hR⟩
  obtain ⟨A1, c1, gs, e, _⟩ := hR
  exact ⟨_, _, _, e⟩
set_option maxHeartbeats 4000000 in
set_option maxRecDepth 100000 in
theorem implScatT_any (A : Option Addr) (n c : Nat) (rs : List Fac) (p : ByteArray) (m : Int) (w : World) (hn : n ≤ 1048576) (hr : Rd w w.heap.size A n 3 Fac.cells rs) {ls : List Int} (hls : gLens rs [] = some ls)
    (hp : okW p = true) (hp8 : p.size ≤ 8) (hm : 1 ≤ m) (hm2 : m ≤ 1000000000) :
    Calls Try.prog 62 #[.agg #[.slice A n c], .string p, .int .i64 m] w (RetRep (TabN (p.size + 1) w.heap.size) (scTop rs p m) w) := by
  have hl := Lib.hid hr.len
  have HR := Lib.hid hr; clear hr
  have HL := Lib.hid hls; clear hls
  have HP := Lib.hid hp; clear hp
  go_enter Try.func62, Try.ntmps62
  go_wp2_with fail
  refine named fun w0 H0 => ?_
  have b0 : Below w.heap.size w w0 := by rw [H0.out]; (repeat first | exact Below.refl _ _ | assumption | refine Below.drew ?_ | refine Below.alloc ?_ (by first | exact Nat.le_refl _ | (simp; done) | omega | (simp; omega)) _ | refine Below.setCell ?_ (by first | exact Nat.le_refl _ | (simp; done) | omega | (simp; omega)) _)
  have BG := Lib.hid (show Blk w0 w.heap.size 26 #[.slice A n c] by rw [H0.out]; simpa using (((Blk.new w _ _).alloc _).alloc _).alloc _)
  have BP := Lib.hid (show Blk w0 (w.heap.size + 1) 9 #[.string p] by rw [H0.out]; simpa using ((Blk.new (w.alloc _) _ _).alloc _).alloc _)
  have BM := Lib.hid (show Blk w0 (w.heap.size + 1 + 1) 2 #[.int .i64 m] by rw [H0.out]; simpa using (Blk.new ((w.alloc _).alloc _) _ _).alloc _)
  have BN := Lib.hid (show Blk w0 (w.heap.size + 1 + 1 + 1) 3 #[.int .i64 ((p.size + 1 : Nat) : Int)] by rw [H0.out]; simpa using Blk.new (((w.alloc _).alloc _).alloc _) _ _)
  clear H0
  have c0 := BG.out.cell 0
  have l0 := BG.out.lt
  have HC1 := Lib.hid (fun (l : Int) (hl0 : -1 ≤ l) (hl4 : l < 4) (w' : World) (h : Below w0.heap.size w0 w') =>
    scat1_any l m (w.heap.size + 1 + 1 + 1) (w.heap.size + 1 + 1) (w.heap.size + 1) p w' (BN.out.next h).lt (BM.out.next h).lt (BP.out.next h).lt ((BN.out.next h).cell 0) ((BM.out.next h).cell 0) ((BP.out.next h).cell 0) HP.out hp8 hm hm2 hl0 hl4)
  have HC2 := Lib.hid (fun (w' : World) (v : Value) (h : Below w0.heap.size w0 w') (hv : TabN (p.size + 1) w0.heap.size w' v (scU p m (-1))) =>
    foldW_any scNil (TabN (p.size + 1) w0.heap.size) (tabN_ok _ _ (by decide) (by decide)) 86 89 (enterOk Try.func86 (by kernel_rfl) (by kernel_rfl)) (enterOk Try.func89 (by kernel_rfl) (by kernel_rfl))
      #[.pointer (some ⟨w.heap.size + 1 + 1 + 1, 0, none⟩), .pointer (some ⟨w.heap.size + 1 + 1, 0, none⟩), .pointer (some ⟨w.heap.size + 1, 0, none⟩)] #[.pointer (some ⟨w.heap.size + 1 + 1 + 1, 0, none⟩), .pointer (some ⟨w.heap.size + 1 + 1, 0, none⟩)]
      (fun l => scU p m (l : Int)) (scG m) (scU p m (-1)) v A n c rs w' hn (HR.out.next (b0.trans (h.mono b0.size))) (wf_of HL.out) hv
      (fun k r hr h0 w2 hb2 => by
        have hB := h.trans (hb2.mono h.size)
        rcases wf_of HL.out k r hr with ⟨h0', _⟩ | ⟨cc, hcc, hxl, _⟩
        · exact absurd h0' h0
        · have h4 : letN r.l < 4 := letN_lt (by rw [hxl]; exact hcc)
          have hc := HC1.out ((letN r.l : Nat) : Int) (by omega) (by omega) w2 hB
          refine (by simpa using hc : Calls _ _ _ _ _).mono ?_
          rintro e w3 ⟨v3, rfl, hv3, hb3⟩
          exact ⟨v3, rfl, hv3.mono hB.size, hb3⟩)
      (fun k r hr h0 w2 va vb hb2 ha hb => by
        have hB := h.trans (hb2.mono h.size)
        have hk : k < rs.length := (List.getElem?_eq_some_iff.1 hr).1
        rcases wf_of HL.out k r hr with ⟨_, ha0, ha1, hb0, hb1⟩ | ⟨cc, _, hxl, _⟩
        · rw [outs_full scNil (fun l => scU p m (l : Int)) (scG m) (k := k) (i := r.a.toNat) (by omega) (by omega)] at ha ⊢
          rw [outs_full scNil (fun l => scU p m (l : Int)) (scG m) (k := k) (i := r.b.toNat) (by omega) (by omega)] at hb ⊢
          have hc := scat2_any _ _ va vb r m (p.size + 1) (w.heap.size + 1 + 1 + 1) (w.heap.size + 1 + 1) w0.heap.size w2 (BN.out.next hB).lt (BM.out.next hB).lt ((BN.out.next hB).cell 0) ((BM.out.next hB).cell 0) (by omega) hm hm2 ha hb (sc_in HL.out hm p _ (k := r.a.toNat) (by omega)) (sc_in HL.out hm p _ (k := r.b.toNat) (by omega))
          refine (by simpa using hc : Calls _ _ _ _ _).mono ?_
          rintro e w3 ⟨v3, rfl, hv3, hb3⟩
          exact ⟨v3, rfl, hv3.mono hB.size, hb3⟩
        · rw [hxl] at h0; exact absurd h0 (show ¬ (1 : Nat) = 0 by omega)))
  have et1 := enterOk Try.func86 (by kernel_rfl) (by kernel_rfl)
  unfold EnterOk at et1
  go_region_held3 (fun w' => w'.cell? ⟨w.heap.size, 0, none⟩ = some (.slice A n c))
    (first | exact s0 | go_keep)
    (first
      | (go_at_call 86
         refine (HC1.out (-1) (by omega) (by omega) _ (Below.refl _ _).drew).mono ?_
         rintro e5 w1 ⟨v1, rfl, hv1, hb1⟩
         have b01 : Below w0.heap.size w0 w1 := (Below.refl _ _).drew.trans hb1
         have t1 := Lib.hid hv1
         have s0 := (BG.out.next b01).cell 0)
      | (go_at_call 88
         refine (HC2.out w1 v1 b01 hv1).mono ?_
         rintro e6 w2 ⟨A2, c2, vs, rfl, own2, reps2, hb2⟩
         have b02 : Below w0.heap.size w0 w2 := b01.trans (hb2.mono b01.size)
         have s0 := (BG.out.next b02).cell 0
         have HT := Lib.hid (scat_last (E := scTop rs p m) own2 reps2 (foldAll_len scNil (fun l => scU p m (l : Int)) (scG m) (scU p m (-1)) rs).1 (by rw [scTop_eq]))
         have hL := (foldAll_len scNil (fun l => scU p m (l : Int)) (scG m) (scU p m (-1)) rs)
         clear own2 reps2)
      | (go_at_call 87
         obtain ⟨g, v, eA, hg, hcv, hv, hTN⟩ := HT.out
         refine (topW_any _ _ c2 v w2 (by have := hl.out; omega) hL.1 g eA hg hcv hv).mono ?_
         rintro e7 w3 ⟨rfl, hb3⟩
         have b03 : Below w0.heap.size w0 w3 := b02.trans (hb3.mono b02.size)
         have T3 := Lib.hid (hTN.next hb3)
         have s0 := (BG.out.next b03).cell 0)
      | fail)
  all_goals
    have b3 := Lib.hid (b0.trans (b03.mono b0.size))
    have T9 := Lib.hid (T3.out.mono b0.size)
    clear hv hTN hcv T3 hv1 t1 hb1 hb2 hb3 b01 b02 b03 s0
    go_wp2_with fail
    go_ret
    exact ret_rep T9.out b3.out
end Go.Proofs.Ytgdbpkpaacbhhaa


/-
  Scattered words, counted: ScatteredParts and ScatteredCount in the program.
-/
namespace Go.Proofs.Ytgdbpkpaacbhhaa
open Go.RowKit

def scCode (rs : List Fac) (s : ByteArray) (m : Int) : Int := if modC rs s m ≠ 0 then modC rs s m else if 8 < s.size then 3 else 0
def scLen (rs : List Fac) (s : ByteArray) (m : Int) : Nat := if scCode rs s m = 0 then s.size + 1 else 0
theorem scCode_cases (rs : List Fac) (s : ByteArray) (m : Int) :
    ((gOk rs).isSome = false ∧ scCode rs s m = 1) ∨ ((gOk rs).isSome = true ∧ okW s = false ∧ scCode rs s m = 1) ∨ ((gOk rs).isSome = true ∧ okW s = true ∧ inB m 1 1000000000 = false ∧ scCode rs s m = 2) ∨
    ((gOk rs).isSome = true ∧ okW s = true ∧ inB m 1 1000000000 = true ∧ 8 < s.size ∧ scCode rs s m = 3) ∨ ((gOk rs).isSome = true ∧ okW s = true ∧ inB m 1 1000000000 = true ∧ s.size ≤ 8 ∧ scCode rs s m = 0) := by
  rcases hg : (gOk rs).isSome with _ | _
  · left; refine ⟨rfl, ?_⟩
    have h : modC rs s m = 1 := by unfold modC; rw [if_pos hg]
    unfold scCode; rw [h]; rfl
  right
  rcases hp : okW s with _ | _
  · left; refine ⟨rfl, rfl, ?_⟩
    have h : modC rs s m = 1 := by unfold modC; rw [if_neg (by rw [hg]; decide), if_pos hp]
    unfold scCode; rw [h]; rfl
  right
  rcases hm : inB m 1 1000000000 with _ | _
  · left; refine ⟨rfl, rfl, rfl, ?_⟩
    have h : modC rs s m = 2 := by unfold modC; rw [if_neg (by rw [hg]; decide), if_neg (by rw [hp]; decide), if_pos hm]
    unfold scCode; rw [h]; rfl
  right
  have h : modC rs s m = 0 := by unfold modC; rw [if_neg (by rw [hg]; decide), if_neg (by rw [hp]; decide), if_neg (by rw [hm]; decide)]
  by_cases h8 : 8 < s.size
  · left; refine ⟨rfl, rfl, rfl, h8, ?_⟩
    unfold scCode; rw [h, if_neg (by decide), if_pos h8]
  · right; refine ⟨rfl, rfl, rfl, by omega, ?_⟩
    unfold scCode; rw [h, if_neg (by decide), if_neg h8]
/-- what is told: a table with a code -/
abbrev RetScat (rs : List Fac) (s : ByteArray) (m : Int) (w : World) : Ending → World → Prop := RetTabC w (scLen rs s m) (s.size + 1) (tabL (s.size + 1) (scTop rs s m)) (scCode rs s m)
theorem retScat_no {rs : List Fac} {s : ByteArray} {m k : Int} {w w' : World} (hk : scCode rs s m = k) (h0 : k ≠ 0) (hb : Below w.heap.size w w') : RetScat rs s m w (.returned (.tuple #[.slice none 0 0, .int .i64 k])) w' := by
  have e : scLen rs s m = 0 := by unfold scLen; rw [if_neg (by rw [hk]; exact h0)]
  refine ⟨none, 0, [], by rw [e, hk], ?_, hb⟩
  rw [e]
  exact ⟨⟨rfl, .inl ⟨rfl, rfl⟩⟩, rfl, fun i g hg => by simp at hg, fun i hi => absurd hi (by omega), fun i j g hi => by simp at hi⟩
theorem retScat_ok {rs : List Fac} {s : ByteArray} {m : Int} {w w' : World} {v : Value} (hk : scCode rs s m = 0) (hT : TabN (s.size + 1) w.heap.size w' v (scTop rs s m)) (hb : Below w.heap.size w w') : RetScat rs s m w (.returned (.tuple #[v, .int .i64 0])) w' := by
  have e : scLen rs s m = s.size + 1 := by unfold scLen; rw [if_pos hk]
  obtain ⟨A, c, gs, rfl, hT⟩ := hT
  exact ⟨A, c, gs, by rw [e, hk], by rw [e]; exact hT, hb⟩
set_option maxHeartbeats 2000000 in
set_option maxRecDepth 100000 in
theorem implScatP_any (A : Option Addr) (n c : Nat) (rs : List Fac) (s : ByteArray) (m : Int) (w : World) (hn : n ≤ 1048576) (hr : Rd w w.heap.size A n 3 Fac.cells rs) (hok : ∀ f ∈ rs, f.l.size ≤ maxLen) (hs : s.size ≤ maxLen) (_hm : -9223372036854775808 ≤ m ∧ m ≤ 9223372036854775807) :
    Calls Try.prog 18 #[.agg #[.slice A n c], .string s, .int .i64 m] w (RetScat rs s m w) := by
  have hb0 : Below w.heap.size w (w.alloc (.cells #[.slice A n c] 26)) := by (repeat first | exact Below.refl _ _ | assumption | refine Below.drew ?_ | refine Below.alloc ?_ (by first | exact Nat.le_refl _ | (simp; done) | omega | (simp; omega)) _ | refine Below.setCell ?_ (by first | exact Nat.le_refl _ | (simp; done) | omega | (simp; omega)) _)
  have hB0 := Lib.hid (Blk.new w 26 #[.slice A n c])
  have hl := Lib.hid hr.len
  have HR := Lib.hid hr; clear hr
  have HO := Lib.hid hok; clear hok
  rcases scCode_cases rs s m with ⟨hg, hc⟩ | ⟨hg, hp, hc⟩ | ⟨hg, hp, hm, hc⟩ | ⟨hg, hp, hm, h8, hc⟩ | ⟨hg, hp, hm, h8, hc⟩
  all_goals
    have HG := Lib.hid hg
    have HC := Lib.hid hc
    clear hg hc
    try have HP := Lib.hid hp
    try clear hp
    try have HM := Lib.hid hm
    try clear hm
    go_enter Try.func18, Try.ntmps18
    go_wp2_with fail
    refine (validG_any A n c rs _ (by omega) (HR.out.next hb0) HO.out _ HG.out).mono ?_
    rintro e1 w1 ⟨rfl, hb1⟩
    have b1 := hb0.trans (hb1.mono hb0.size)
    have B1 := Lib.hid (hB0.out.next hb1)
    go_wp2_with fail
  · go_ret2
    exact retScat_no HC.out (by decide) b1
  · refine (validWord_any s _ w1 hs HP.out).mono ?_
    rintro e2 w2 ⟨rfl, hb2⟩
    go_wp2_with fail
    go_ret2
    exact retScat_no HC.out (by decide) (b1.trans (hb2.mono b1.size))
  all_goals
    refine (validWord_any s _ w1 hs HP.out).mono ?_
    rintro e2 w2 ⟨rfl, hb2⟩
    have b2 := b1.trans (hb2.mono b1.size)
    have B2 := Lib.hid (B1.out.next hb2)
    go_wp2_with fail
    refine (isMod_any m _ w2 HM.out).mono ?_
    rintro e3 w3 ⟨rfl, hb3⟩
    have b3 := b2.trans (hb3.mono b2.size)
    have B3 := Lib.hid (B2.out.next hb3)
    have c3 := B3.out.cell 0
    have l3 := B3.out.lt
    go_wp2_with fail
  · go_ret2
    exact retScat_no HC.out (by decide) b3
  · go_ret2
    exact retScat_no HC.out (by decide) b3
  · have hm := HM.out
    have hm' : 1 ≤ m ∧ m ≤ 1000000000 := by simpa [inB] using hm
    obtain ⟨ls, hls⟩ := Option.isSome_iff_exists.1 HG.out
    refine (implScatT_any A n c rs s m w3 hn (HR.out.next b3) (gOk_lens hls).1 HP.out h8 hm'.1 hm'.2).mono ?_
    rintro e4 w4 ⟨v, rfl, hT, hb4⟩
    have T4 := Lib.hid (hT.mono b3.size)
    obtain ⟨A5, c5, gs5, rfl, _⟩ := hT
    clear hm hm' hls
    go_wp2_with fail
    go_ret2
    exact retScat_ok HC.out T4.out (b3.trans (hb4.mono b3.size))
def scatV (rs : List Fac) (s : ByteArray) (m : Int) : Value := if scCode rs s m = 0 then tup2 (scTop rs s m 0 s.size) 0 else tup2 0 (scCode rs s m)
theorem scatV_form (rs : List Fac) (s : ByteArray) (m : Int) : ∃ b k, scatV rs s m = .tuple #[.int .i64 b, .int .i64 k] := by
  unfold scatV
  split
  · exact ⟨_, _, rfl⟩
  · exact ⟨_, _, rfl⟩
/-- the number in the corner of the table that is told -/
theorem retScat_num {rs : List Fac} {s : ByteArray} {m : Int} {w w' : World} {e : Ending} (h : RetScat rs s m w e w') : Below w.heap.size w w' ∧ ((scCode rs s m ≠ 0 ∧ ∃ A c, e = .returned (.tuple #[.slice A 0 c, .int .i64 (scCode rs s m)])) ∨
    (scCode rs s m = 0 ∧ ∃ p g c, e = .returned (.tuple #[.slice (some ⟨p, 0, none⟩) (s.size + 1) c, .int .i64 0]) ∧ p < w'.heap.size ∧ g < w'.heap.size ∧ w'.cell? ⟨p, 0, none⟩ = some (.slice (some ⟨g, 0, none⟩) (s.size + 1) (s.size + 1)) ∧ w'.cell? ⟨g, s.size, none⟩ = some (.int .i64 (scTop rs s m 0 s.size)))) := by
  obtain ⟨A, c, gs, rfl, hT, hb⟩ := h
  refine ⟨hb, ?_⟩
  by_cases h0 : scCode rs s m = 0
  · right
    have e : scLen rs s m = s.size + 1 := by unfold scLen; rw [if_pos h0]
    rw [e] at hT ⊢
    obtain ⟨p, g, rfl, hp, _, hg, s1, s2⟩ := hT.num (Nat.le_refl _) (i := 0) (j := s.size) (by omega) (by omega)
    exact ⟨h0, p, g, c, by rw [h0], hp, hg, s1, s2⟩
  · left
    have e : scLen rs s m = 0 := by unfold scLen; rw [if_neg h0]
    rw [e]
    exact ⟨h0, A, c, rfl⟩
set_option maxHeartbeats 2000000 in
set_option maxRecDepth 100000 in
theorem implScat_any (A : Option Addr) (n c : Nat) (rs : List Fac) (s : ByteArray) (m : Int) (w : World) (hn : n ≤ 1048576) (hr : Rd w w.heap.size A n 3 Fac.cells rs) (hok : ∀ f ∈ rs, f.l.size ≤ maxLen) (hs : s.size ≤ maxLen) (hm : -9223372036854775808 ≤ m ∧ m ≤ 9223372036854775807) :
    Calls Try.prog 17 #[.agg #[.slice A n c], .string s, .int .i64 m] w (Ret (scatV rs s m) w) := by
  have hb0 : Below w.heap.size w (w.alloc (.cells #[.slice A n c] 26)) := by (repeat first | exact Below.refl _ _ | assumption | refine Below.drew ?_ | refine Below.alloc ?_ (by first | exact Nat.le_refl _ | (simp; done) | omega | (simp; omega)) _ | refine Below.setCell ?_ (by first | exact Nat.le_refl _ | (simp; done) | omega | (simp; omega)) _)
  have HR := Lib.hid hr; clear hr
  go_enter Try.func17, Try.ntmps17
  go_wp2_with fail
  refine (implScatP_any A n c rs s m _ hn (HR.out.next hb0) hok hs hm).mono ?_
  intro e w1 hq
  obtain ⟨hb1, ⟨h0, A5, c5, rfl⟩ | ⟨h0, p, g, c5, rfl, hp, hg, s1, s2⟩⟩ := retScat_num hq
  · have b1 := hb0.trans (hb1.mono hb0.size)
    have e := Lib.hid (show scatV rs s m = tup2 0 (scCode rs s m) by unfold scatV; rw [if_neg h0])
    have e0 : (scCode rs s m != 0) = true := by simpa using h0
    clear hq
    generalize scCode rs s m = k at *
    clear h0
    go_wp2_with fail
    go_ret2
    exact ⟨by rw [e.out]; rfl, b1⟩
  · have b1 := hb0.trans (hb1.mono hb0.size)
    have e := Lib.hid (show scatV rs s m = tup2 (scTop rs s m 0 s.size) 0 by unfold scatV; rw [if_pos h0])
    have h8 : s.size ≤ 8 := by
      rcases scCode_cases rs s m with ⟨_, h⟩ | ⟨_, _, h⟩ | ⟨_, _, _, h⟩ | ⟨_, _, _, _, h⟩ | ⟨_, _, _, h, _⟩
      · omega
      · omega
      · omega
      · omega
      · exact h
    generalize scTop rs s m 0 s.size = y at *
    clear hq h0
    go_wp2_with fail
    go_ret2
    exact ⟨by rw [e.out]; rfl, b1⟩
end Go.Proofs.Ytgdbpkpaacbhhaa


/-
  Scattered words, counted: the reference.
-/
namespace Go.Proofs.Ytgdbpkpaacbhhaa
open Go.RowKit

def scId (m : Int) : Tb := fun a b => if b = a then 1 % m else 0
set_option maxHeartbeats 2000000 in
set_option maxRecDepth 100000 in
theorem l05Table_any (q : Nat) (m : Int) (w : World) (hq : q ≤ 8) (hm : 1 ≤ m) (hm2 : m ≤ 1000000000) :
    Calls Try.prog 90 #[.int .i64 (q : Int), .int .i64 m] w (RetRep (TabN (q + 1) w.heap.size) (scId m) w) := by
  obtain ⟨i0, hi, hz0, hz1, hz2⟩ := info_parts info_i64
  have hmk := run_make_rowN (P := Try.prog) 46 2 i0 _ Try.underlying46 hi hz0 .i64 .i64 (q + 1) (q + 1) (Nat.le_refl _) (by rw [hz2]; omega) (by omega)
  rw [hz1] at hmk
  have hm0 : ¬ m = 0 := by omega
  have re := emod_inT (a := 1) hm
  obtain ⟨re0, re1⟩ := re
  have u1 : IntKind.i64.wrap (1 % m) = 1 % m := IntWalk.i64_in _ (by omega)
  have v1 : (1 : Int).tmod m = 1 % m := Int.tmod_eq_emod_of_nonneg (by omega)
  have hqN : (q : Int) + 1 = ((q + 1 : Nat) : Int) := by omega
  generalize hN : q + 1 = N at *
  have HN := Lib.hid hN; clear hN
  have HqN := Lib.hid hqN
  go_enter Try.func90, Try.ntmps90
  go_wp2_with fail
  go_loopw [5, 6] (fun o_ i_ w' => ∃ (k : Nat) (A' : Option Addr) (c' : Nat) (gs : List Nat), i_ = .int .i64 k ∧ o_ = .slice A' k c' ∧ k ≤ N ∧ Below w.heap.size w w' ∧
      Hid (TabJ w' w.heap.size A' k c' N gs (tabL N (scId m)))) (fun _ i_ _ => N - (intOf i_).toNat)
  case atStart => exact ⟨0, _, 0, [], rfl, rfl, by omega, by (repeat first | exact Below.refl _ _ | assumption | refine Below.drew ?_ | refine Below.alloc ?_ (by first | exact Nat.le_refl _ | (simp; done) | omega | (simp; omega)) _ | refine Below.setCell ?_ (by first | exact Nat.le_refl _ | (simp; done) | omega | (simp; omega)) _), Lib.hid (made_nil' w w.heap.size N _ (Nat.le_refl _))⟩
  case round =>
    obtain ⟨k, A', c', gs, rfl, rfl, hk, hb, hT⟩ := hrel
    have sw := hb.size
    by_cases hlt : k < N
    · have mk0 := made_at (n := N) (j := k) hlt
      rw [← madeN] at mk0
      have hN9 : N ≤ 9 := by have := HN.out; omega
      have hkq : (k : Int) ≤ (q : Int) := by have := HN.out; omega
      have HTr := Lib.hid (fun (cs : Array Value) (A9 : Option Addr) (c9 : Nat) (w9 : World) => TabJ.row (w9 := w9) (A9 := A9) (c9 := c9) (cs := cs) hT.out hlt sw (by unfold maxLen; omega))
      have cs1 := Lib.hid (cs_one hlt (1 % m))
      go_wp2_with
        (at_builtin
         refine wpList_push (w0 := w) rfl _ _ _ rfl w.heap.size 46 1 24 elemSl (encH N) _ k c' gs rfl ((hT.out.o.alloc _).alloc _) (wr.heap.size + 1) wr.heap.size #[.slice (some ⟨wr.heap.size, 0, none⟩) N N] 46 (0, 0) rfl (by simpa using heap_alloc_new (wr.alloc _) _) rfl rfl (one_encH _ _) (by omega) (by omega) (by unfold maxLen; omega) rfl ((hb.alloc sw _).alloc (by simp; omega) _) ?_
         intro A9 c9 w9 own9 hg9 hat9 hb9
         have T9 := Lib.hid (HTr.out _ _ _ _ (by rw [madeN]; exact cs1.out.1) (by rw [madeN]; exact fun j hj => cs1.out.2 j hj) _ own9 hg9)
         clear own9 hat9 hg9)
      go_roundw
      case rel => exact ⟨k + 1, A9, c9, gs ++ [wr.heap.size], by go_num, rfl, by omega, hb9, T9⟩
      case measure => simp [intOf]; omega
    · have hkN : N = k := by omega
      subst hkN
      have hkq : ¬ ((N : Int) ≤ (q : Int)) := by have := HN.out; omega
      go_wp2_with fail
      go_ret
      exact ret_rep ⟨A', c', gs, rfl, hT.out⟩ hb
end Go.Proofs.Ytgdbpkpaacbhhaa


/-
  Scattered words, counted: the table of a word, in the reference.
-/
namespace Go.Proofs.Ytgdbpkpaacbhhaa
open Go.RowKit

/-- a table under way: rows before i are done, row i up to j -/
def Part (N : Nat) (m : Int) (fin : Tb) (i j : Nat) (Y : Tb) : Prop := ∀ a b, a < N → b < N → Y a b = if a < i ∨ (a = i ∧ b < j) then fin a b else scId m a b
theorem Part.row {N : Nat} {m : Int} {fin : Tb} {i : Nat} {Y : Tb} (h : Part N m fin i 0 Y) (hf : ∀ b, b < i → b < N → i < N → fin i b = 0) : Part N m fin i i Y := fun a b ha hb => by
  rw [h a b ha hb]
  by_cases h1 : a < i
  · rw [if_pos (.inl h1), if_pos (.inl h1)]
  · by_cases h2 : a = i ∧ b < i
    · obtain ⟨rfl, h3⟩ := h2
      rw [if_neg (by omega), if_pos (.inr ⟨rfl, h3⟩), hf b h3 hb ha]
      unfold scId; rw [if_neg (by omega)]
    · rw [if_neg (by omega), if_neg (by omega)]
theorem Part.over {N : Nat} {m : Int} {fin : Tb} {i : Nat} {Y : Tb} (h : Part N m fin i N Y) : Part N m fin (i + 1) 0 Y := fun a b ha hb => by
  rw [h a b ha hb]
  by_cases h1 : a < i ∨ a = i ∧ b < N
  · rw [if_pos h1, if_pos (by omega)]
  · rw [if_neg h1, if_neg (by omega)]
theorem Part.keep {N : Nat} {m : Int} {fin : Tb} {i j : Nat} {Y : Tb} (h : Part N m fin i j Y) (hf : fin i j = scId m i j) : Part N m fin i (j + 1) Y := fun a b ha hb => by
  rw [h a b ha hb]
  by_cases h1 : a < i ∨ a = i ∧ b < j
  · rw [if_pos h1, if_pos (by omega)]
  · by_cases h2 : a = i ∧ b = j
    · obtain ⟨rfl, rfl⟩ := h2
      rw [if_neg h1, if_pos (by omega), hf]
    · rw [if_neg h1, if_neg (by omega)]
theorem Part.put {N : Nat} {m : Int} {fin : Tb} {i j : Nat} {Y : Tb} (h : Part N m fin i j Y) {v : Int} (hf : fin i j = v) : Part N m fin i (j + 1) (fun a b => if a = i ∧ b = j then v else Y a b) := fun a b ha hb => by
  show (if a = i ∧ b = j then v else Y a b) = _
  by_cases h2 : a = i ∧ b = j
  · rw [if_pos h2, if_pos (by omega)]; rw [h2.1, h2.2, hf]
  · rw [if_neg h2, h a b ha hb]
    by_cases h1 : a < i ∨ a = i ∧ b < j
    · rw [if_pos h1, if_pos (by omega)]
    · rw [if_neg h1, if_neg (by omega)]
theorem Part.done {N : Nat} {m : Int} {fin : Tb} {Y : Tb} (h : Part N m fin N 0 Y) : tabL N Y = tabL N fin := tabL_ext fun a b ha hb => by rw [h a b ha hb, if_pos (.inl ha)]
theorem Part.start (N : Nat) (m : Int) (fin : Tb) : Part N m fin 0 0 (scId m) := fun a b _ _ => by rw [if_neg (by omega)]
theorem TabJ.frz {w : World} {base n c m : Nat} {A : Option Addr} {gs : List Nat} {xss : List (List Int)} (h : TabJ w base A n c m gs xss) {i g : Nat} (hg : gs[i]? = some g) (j : Nat) : w.frozen? ⟨g, j, none⟩ = false := by
  rcases (h.r i g hg).2 with ⟨h0, _⟩ | ⟨g', cap, cur, hv, _, hh, _⟩
  · cases h0
  · obtain rfl : g = g' := by injection hv with e; injection e with e; injection e
    exact (show Blk w g 2 cur from hh).frozen j
theorem ext_oneS {s : ByteArray} {q : Nat} (h : q < s.size) : s.extract q (q + 1) = ⟨#[s[q]]⟩ := by
  apply ByteArray.ext
  rw [ByteArray.data_extract]
  apply Array.ext'
  rw [Array.toList_extract, List.extract_eq_take_drop]
  rw [show q + 1 - q = 1 by omega]
  have := drop_cons (at_byte s q h)
  rw [this]; rfl
set_option maxHeartbeats 8000000 in
set_option maxRecDepth 100000 in
theorem l05Scattered_any (gb : Nat) (A : Option Addr) (n c : Nat) (rs : List Fac) (p : ByteArray) (m : Int) (w : World) (hg : gb < w.heap.size) (hc : w.cell? ⟨gb, 0, none⟩ = some (.slice A n c)) (hn : n ≤ 1048576) (hr : Rd w w.heap.size A n 3 Fac.cells rs) {ls : List Int} (hls : gLens rs [] = some ls)
    (hp : okW p = true) (hp8 : p.size ≤ 8) (hm : 1 ≤ m) (hm2 : m ≤ 1000000000) :
    Calls Try.prog 64 #[.pointer (some ⟨gb, 0, none⟩), .string p, .int .i64 m] w (RetRep (TabN (p.size + 1) w.heap.size) (scTop rs p m) w) := by
  have hl := Lib.hid hr.len
  have HR := Lib.hid hr; clear hr
  have HL := Lib.hid hls; clear hls
  have HP := Lib.hid hp; clear hp
  have HW := Lib.hid (wf_of HL.out)
  have hm0 : ¬ m = 0 := by omega
  generalize hN : p.size + 1 = N at *
  have HN := Lib.hid hN
  have HT := Lib.hid (fun (w' : World) => show Calls Try.prog 90 #[.int .i64 (p.size : Int), .int .i64 m] w' (RetRep (TabN N w'.heap.size) (scId m) w') by rw [← hN]; exact l05Table_any p.size m w' hp8 hm hm2)
  have hNq : (N : Int) = (p.size : Int) + 1 := by omega
  clear hN
  have RO := tabN_ok N w.heap.size (E := 41) (by decide) (by decide)
  go_enter Try.func64, Try.ntmps64
  go_wp2_with fail
  go_loopw [8, 9] (fun o_ i_ w' => ∃ (k : Nat) (A' : Option Addr) (c' : Nat) (vs : List Value), i_ = .int .i64 k ∧ o_ = .slice A' k c' ∧ k ≤ n ∧
      Hid (w'.ownsRow w.heap.size 41 1 (.slice A' k c') k (vs.flatMap encV)) ∧ Hid (Reps scNil (TabN N w.heap.size) w' vs (outs scNil (fun l => scU p m (l : Int)) (scG m) rs k)) ∧ Below w.heap.size w w') (fun _ i_ _ => n - (intOf i_).toNat)
  case atStart =>
    exact ⟨0, _, 0, [], rfl, rfl, by omega, Lib.hid (by simpa using World.ownsRow_made (base := w.heap.size) (e := 41) (size := 1) w #[] 0 (by simp) (by unfold maxLen; omega) rfl), Lib.hid ⟨by simp [outs, foldG], by simp⟩, by (repeat first | exact Below.refl _ _ | assumption | refine Below.drew ?_ | refine Below.alloc ?_ (by first | exact Nat.le_refl _ | (simp; done) | omega | (simp; omega)) _ | refine Below.setCell ?_ (by first | exact Nat.le_refl _ | (simp; done) | omega | (simp; omega)) _)⟩
  case round =>
    obtain ⟨k, A', c', vs, rfl, rfl, hk, hown, hrep, hb⟩ := hrel
    rename World => wo
    have cg := (hb.cell (p := ⟨gb, 0, none⟩) hg).trans hc
    have lg : gb < wo.heap.size := by have := hb.size; omega
    by_cases hlt : k < n
    · obtain ⟨b, o, x, rfl, hB, gx, c0, c1, c2⟩ := (HR.out.next hb).fac hlt
      have Hst := Lib.hid (outs_step scNil (fun l => scU p m (l : Int)) (scG m) gx)
      have Hol := Lib.hid (outs_len scNil (fun l => scU p m (l : Int)) (scG m) rs k (by rw [hl.out]; exact hk))
      have Gx := Lib.hid gx; clear gx
      go_wp2_with fail
      refine namedC fun w3 H3 => ?_
      have hb3 : Below wo.heap.size wo w3 := by rw [H3.out]; (repeat first | exact Below.refl _ _ | assumption | refine Below.drew ?_ | refine Below.alloc ?_ (by first | exact Nat.le_refl _ | (simp; done) | omega | (simp; omega)) _ | refine Below.setCell ?_ (by first | exact Nat.le_refl _ | (simp; done) | omega | (simp; omega)) _)
      have BX := Lib.hid (show Blk w3 wo.heap.size 82 #[.string x.l, .int .i64 x.a, .int .i64 x.b] by rw [H3.out]; exact Blk.new wo _ _)
      clear H3 cg lg c0 c1 c2
      have own3 := Lib.hid (own_next hown.out hb3)
      have rep3 := Lib.hid (hrep.out.next RO hb3)
      have lX := BX.out.lt
      refine (HT.out w3).mono ?_
      rintro e4 w4 ⟨v4, rfl, hT4, hb4⟩
      obtain ⟨A4, c4, gs4, rfl, hT4⟩ := hT4
      have T4 := Lib.hid hT4; clear hT4
      generalize hfn : fStep scNil (fun l => scU p m (l : Int)) (scG m) (outs scNil (fun l => scU p m (l : Int)) (scG m) rs k) x = fin at *
      have Hfn := Lib.hid hfn; clear hfn
      have h0fin : Hid (∀ i b, b < i → fin i b = 0) := by
        refine Lib.hid (fun i b hb => ?_)
        rw [← Hfn.out]; unfold fStep
        split
        · unfold scG; rw [if_pos hb]
        · show scU p m (letN x.l) i b = 0
          unfold scU; rw [if_neg (by omega), if_neg (by omega)]
      go_wp2_with fail
      go_loopw [12] (fun i_ w' => ∃ (i : Nat) (Y : Tb), i_ = .int .i64 i ∧ i ≤ N ∧ Hid (TabJ w' w3.heap.size A4 N c4 N gs4 (tabL N Y)) ∧ Hid (Part N m fin i 0 Y) ∧ Below w3.heap.size w3 w') (fun i_ _ => N - (intOf i_).toNat)
      case atStart => exact ⟨0, _, rfl, by omega, T4, Lib.hid (Part.start N m fin), hb4⟩
      case round =>
        obtain ⟨i, Y, rfl, hi, hT, hY, hbi⟩ := hrel
        by_cases hlti : i < N
        · have hip : (i : Int) ≤ (p.size : Int) := by omega
          go_wp2_with fail
          go_loopw [13] (fun j_ w' => ∃ (j : Nat) (Y : Tb), j_ = .int .i64 j ∧ i ≤ j ∧ j ≤ N ∧ Hid (TabJ w' w3.heap.size A4 N c4 N gs4 (tabL N Y)) ∧ Hid (Part N m fin i j Y) ∧ Below w3.heap.size w3 w') (fun j_ _ => N - (intOf j_).toNat)
          case atStart => exact ⟨i, Y, rfl, Nat.le_refl _, hi, hT, Lib.hid (hY.out.row (fun b h1 _ _ => h0fin.out i b h1)), hbi⟩
          case round =>
            clear hT hY
            obtain ⟨j, Y, rfl, hij, hj, hT, hY, hbj⟩ := hrel
            by_cases hltj : j < N
            · have hjp : (j : Int) ≤ (p.size : Int) := by omega
              obtain ⟨d0, d1, d2⟩ := (BX.out.next hbj).three
              have lx : wo.heap.size < wr.heap.size := by have := hbj.size; omega
              rcases HW.out k x Gx.out with ⟨h0, ha0, ha1, hb0', hb1'⟩ | ⟨cc, hcc, hxl, hxa, hxb⟩
              · have e0 := size0 h0
                have hkr : k ≤ rs.length := by rw [hl.out]; exact hk
                obtain ⟨g, cap, hv, hg0, hg1⟩ := own3.out.form (by omega)
                obtain rfl : A' = some ⟨g, 0, none⟩ := by injection hv
                clear hv
                have hvl := Lib.hid (rep3.out.1.trans Hol.out)
                have va := own_at (enc := encV) (sz := 1) (fun _ _ => rfl) own3.out hvl.out undef x.a.toNat (by omega) 0 Nat.zero_lt_one
                have vb := own_at (enc := encV) (sz := 1) (fun _ _ => rfl) own3.out hvl.out undef x.b.toNat (by omega) 0 Nat.zero_lt_one
                have ra := rep3.out.at_ undef (show x.a.toNat < vs.length by rw [hvl.out]; omega)
                have rb := rep3.out.at_ undef (show x.b.toNat < vs.length by rw [hvl.out]; omega)
                have sa := sc_in HL.out hm p N (k := x.a.toNat) (by omega)
                have sb := sc_in HL.out hm p N (k := x.b.toNat) (by omega)
                rw [← outs_full scNil (fun l => scU p m (l : Int)) (scG m) (k := k) (i := x.a.toNat) (by omega) hkr] at sa
                rw [← outs_full scNil (fun l => scU p m (l : Int)) (scG m) (k := k) (i := x.b.toNat) (by omega) hkr] at sb
                have hf : fin = scG m ((outs scNil (fun l => scU p m (l : Int)) (scG m) rs k).getD x.a.toNat scNil) ((outs scNil (fun l => scU p m (l : Int)) (scG m) rs k).getD x.b.toNat scNil) x := by
                  rw [← Hfn.out]; unfold fStep; rw [if_pos h0]
                generalize (outs scNil (fun l => scU p m (l : Int)) (scG m) rs k).getD x.a.toNat scNil = X at *
                generalize (outs scNil (fun l => scU p m (l : Int)) (scG m) rs k).getD x.b.toNat scNil = Z at *
                obtain ⟨A1, n1, gs1, ea, hTa⟩ := ra
                obtain ⟨A2, n2, gs2, eb, hTb⟩ := rb
                have va' : w3.cell? ⟨g, x.a.toNat, none⟩ = some (.slice A1 N n1) := by rw [← ea]; simpa [encV] using va
                have vb' : w3.cell? ⟨g, x.b.toNat, none⟩ = some (.slice A2 N n2) := by rw [← eb]; simpa [encV] using vb
                have HF := Lib.hid (show fin i j = scDot m X Z i j (j + 1 - i) by rw [hf]; unfold scG; rw [if_neg (by omega), show j - i + 1 = j + 1 - i by omega])
                have HTa := Lib.hid hTa; have HTb := Lib.hid hTb
                have SA := Lib.hid sa; have SB := Lib.hid sb
                have Va := Lib.hid va'; have Vb := Lib.hid vb'
                have i1 : x.a < (k : Int) := ha1
                have i2 : x.b < (k : Int) := hb1'
                clear va vb ea eb hTa hTb sa sb va' vb' hf h0
                rename World => wj
                go_wp2_with fail
                go_loopw [14, 15] (fun s_ c_ w' => ∃ (q : Nat), c_ = .int .i64 q ∧ s_ = .int .i64 (scDot m X Z i j (q - i)) ∧ i ≤ q ∧ q ≤ j + 1 ∧ Below wj.heap.size wj w') (fun _ c_ _ => j + 1 - (intOf c_).toNat)
                case atStart => exact ⟨i, rfl, by rw [Nat.sub_self]; rfl, Nat.le_refl _, by omega, Below.refl _ _⟩
                case round =>
                  obtain ⟨q, rfl, rfl, hiq, hqj, hbq⟩ := hrel
                  have hbW := hbj.trans (hbq.mono hbj.size)
                  by_cases hltq : q ≤ j
                  · obtain ⟨f0, f1, f2⟩ := (BX.out.next hbW).three
                    have lx2 : wo.heap.size < wr.heap.size := by have := hbW.size; omega
                    have ca := (hbW.cell (p := ⟨g, x.a.toNat, none⟩) hg1).trans Va.out
                    have cb := (hbW.cell (p := ⟨g, x.b.toNat, none⟩) hg1).trans Vb.out
                    obtain ⟨p1, g1, rfl, hp1, _, hg1', s1, q1⟩ := (HTa.out.next hbW).num (Nat.le_refl _) (i := i) (j := q) hlti (by omega)
                    obtain ⟨p2, g2, rfl, hp2, _, hg2', s2, q2⟩ := (HTb.out.next hbW).num (Nat.le_refl _) (i := q) (j := j) (by omega) hltj
                    obtain ⟨x0, x1⟩ := SA.out i q hlti (by omega)
                    obtain ⟨y0, y1⟩ := SB.out q j (by omega) hltj
                    obtain ⟨t0, t1⟩ := scDot_in hm X Z i j (q - i)
                    have eN := Lib.hid (show scDot m X Z i j (q + 1 - i) = (scDot m X Z i j (q - i) + X i q * Z q j) % m by
                      rw [show q + 1 - i = (q - i) + 1 by omega]
                      show (_ + X i (i + (q - i)) * Z (i + (q - i)) j) % m = _
                      rw [show i + (q - i) = q by omega])
                    have mq := mul_b9s x0 x1 y0 y1 hm2
                    generalize X i q = xv at *
                    generalize Z q j = yv at *
                    generalize scDot m X Z i j (q - i) = t at *
                    obtain ⟨mq0, mq1⟩ := mq
                    have re := emod_inT (a := t + xv * yv) hm
                    obtain ⟨re0, re1⟩ := re
                    have u1 : IntKind.i64.wrap (xv * yv) = xv * yv := IntWalk.i64_in _ (by omega)
                    have u2 : IntKind.i64.wrap (t + xv * yv) = t + xv * yv := IntWalk.i64_in _ (by clear u1; omega)
                    have u3 : IntKind.i64.wrap ((t + xv * yv) % m) = (t + xv * yv) % m := IntWalk.i64_in _ (by clear u1 u2; omega)
                    have v1 : (t + xv * yv).tmod m = (t + xv * yv) % m := Int.tmod_eq_emod_of_nonneg (by omega)
                    have j1 : (q : Int) ≤ (j : Int) := by omega
                    have j2 : (j : Int) < (N : Int) := by omega
                    have j3 : (q : Int) < (N : Int) := by omega
                    have j4 : (i : Int) < (N : Int) := by omega
                    go_wp2_with fail
                    go_region
                    clear u1 u2 u3 v1 s1 s2 q1 q2 ca cb f0 f1 f2
                    go_wp2_with fail
                    go_roundw
                    case rel => exact ⟨q + 1, by go_num, by rw [eN.out], by omega, by omega, hbq.drew⟩
                    case measure => simp [intOf]; omega
                  · obtain rfl : q = j + 1 := by omega
                    have T := Lib.hid (hT.out.next hbq)
                    obtain ⟨p4, g4, rfl, hp4, hgs, hg4, s4, q4⟩ := T.out.num (Nat.le_refl _) (i := i) (j := j) hlti hltj
                    have f4 := T.out.frz hgs j
                    have hset := Lib.hid (T.out.set (Y' := fun a b => if a = i ∧ b = j then scDot m X Z i j (j + 1 - i) else Y a b) (Nat.le_refl _) hlti hltj hgs (scDot m X Z i j (j + 1 - i)) (by simp) (fun a b h => by simp only [h, if_false]))
                    have hput := Lib.hid (hY.out.put HF.out)
                    have hlo := (T.out.lt hgs).1
                    have hbs := Lib.hid (hbW.setCell (p := ⟨g4, j, none⟩) hlo (.int .i64 (scDot m X Z i j (j + 1 - i))))
                    clear hgs hY
                    generalize scDot m X Z i j (j + 1 - i) = v at *
                    have j2 : (j : Int) < (N : Int) := by omega
                    have j4 : (i : Int) < (N : Int) := by omega
                    go_wp2_with fail
                    go_roundw
                    case rel => exact ⟨j + 1, _, by go_num, by omega, by omega, hset, hput, hbs.out⟩
                    case measure => simp [intOf]; omega
              · obtain ⟨xl, xa, xb⟩ := x
                simp only at hxl hxa hxb
                subst hxl hxa hxb
                have e1 := size1 (s := ⟨#[cc]⟩) (show (1 : Nat) ≠ 0 by omega)
                have e2 := size1' (s := ⟨#[cc]⟩) (show (1 : Nat) ≠ 0 by omega)
                have hf : fin = scU p m ((letN ⟨#[cc]⟩ : Nat) : Int) := by
                  rw [← Hfn.out]; rfl
                have re := emod_inT (a := 1) hm
                obtain ⟨re0, re1⟩ := re
                have u1 : IntKind.i64.wrap (1 % m) = 1 % m := IntWalk.i64_in _ (by omega)
                have v1 : (1 : Int).tmod m = 1 % m := Int.tmod_eq_emod_of_nonneg (by omega)
                have l97 : 97 ≤ cc.toNat := by have := (letB_num hcc).1; omega
                by_cases hj1 : j = i + 1
                · have hips : i < p.size := by have := HN.out; omega
                  have k1 : ((j : Int) == (i : Int) + 1) = true := by simp; omega
                  have k2 : (j : Int) ≤ (p.size : Int) := by omega
                  have k3 : (i : Int) < (N : Int) := by omega
                  have k4 : (j : Int) < (N : Int) := by omega
                  obtain ⟨p4, g4, rfl, hp4, hgs, hg4, s4, q4⟩ := hT.out.num (Nat.le_refl _) (i := i) (j := j) hlti hltj
                  have f4 := hT.out.frz hgs j
                  have hlo := Lib.hid (hT.out.lt hgs).1
                  have Hgs := Lib.hid hgs
                  have Hj1 := Lib.hid hj1
                  clear hgs
                  have i3 : (i : Int) ≤ (j : Int) := by omega
                  have hx1 := Lib.hid (ext_oneS hips)
                  by_cases hcp : p[i]'hips = cc
                  · have hex : p.extract i j = ⟨#[cc]⟩ := by rw [hj1, hx1.out, hcp]
                    have HF := Lib.hid (show fin i j = 1 % m by
                      rw [hf]; unfold scU
                      rw [if_neg (by omega), if_pos ?_]
                      refine ⟨hj1, hips, by omega, ?_⟩
                      rw [letN_one, List.getD_eq_getElem?_getD, at_byte p i hips]
                      show ((p[i]'hips).toNat : Int) - 97 = _
                      rw [hcp]; omega)
                    have hset := Lib.hid (hT.out.set (Y' := fun a b => if a = i ∧ b = j then 1 % m else Y a b) (Nat.le_refl _) hlti hltj Hgs.out (1 % m) (by simp) (fun a b h => by simp only [h, if_false]))
                    have hput := Lib.hid (hY.out.put HF.out)
                    have hbs := Lib.hid (hbj.setCell (p := ⟨g4, j, none⟩) hlo.out (.int .i64 (1 % m)))
                    clear hcp hj1 hf hY
                    generalize 1 % m = v at *
                    go_wp2_with fail
                    go_region
                    go_wp2_with fail
                    go_region
                    generalize hW : World.drew _ = w8
                    have H8 := Lib.hid hW.symm; clear hW
                    have T8 := Lib.hid (show TabJ w8 w3.heap.size (some ⟨p4, 0, none⟩) N c4 N gs4 (tabL N (fun a b => if a = i ∧ b = j then v else Y a b)) by rw [H8.out]; exact hset.out.next (Below.refl _ _).drew.drew)
                    have b8 : Below w3.heap.size w3 w8 := by rw [H8.out]; exact hbs.out.drew.drew
                    clear H8 hset hbs u1 v1 s4 q4 f4
                    go_wp2_with fail
                    go_roundw
                    case rel => exact ⟨j + 1, _, by go_num, by omega, by omega, T8, hput, b8⟩
                    case measure => simp [intOf]; omega
                  · have hex : p.extract i j = ⟨#[p[i]'hips]⟩ := by rw [hj1, hx1.out]
                    have HF := Lib.hid (show fin i j = scId m i j by
                      rw [hf]; unfold scU scId
                      rw [if_neg (by omega), if_neg ?_, if_neg (by omega)]
                      rintro ⟨_, _, _, h⟩
                      rw [letN_one, List.getD_eq_getElem?_getD, at_byte p i hips] at h
                      have h' : ((p[i]'hips).toNat : Int) - 97 = ((cc.toNat - 97 : Nat) : Int) := h
                      have b97 := (letB_num ((okW_b HP.out).2 i hips)).1
                      exact hcp (UInt8.toNat_inj.1 (by omega)))
                    have hk := Lib.hid (hY.out.keep HF.out)
                    generalize p[i]'hips = cd at *
                    have hbe : (cd == cc) = false := by simpa using hcp
                    clear hf hY hj1 s4 q4 f4 hlo
                    go_wp2_with fail
                    go_region
                    clear u1 v1
                    go_wp2_with fail
                    go_roundw
                    case rel => exact ⟨j + 1, Y, by go_num, by omega, by omega, hT.out.next (Below.refl _ _).drew, hk, hbj.drew⟩
                    case measure => simp [intOf]; omega
                · have k1 : ((j : Int) == (i : Int) + 1) = false := by simp; omega
                  have hk := Lib.hid (hY.out.keep (show fin i j = scId m i j by
                    rw [hf]; unfold scU scId
                    by_cases h1 : j = i
                    · rw [if_pos h1, if_pos h1]
                    · rw [if_neg h1, if_neg h1, if_neg (by omega)]))
                  clear hf hY
                  go_wp2_with fail
                  go_region
                  clear u1 v1
                  go_wp2_with fail
                  go_roundw
                  case rel => exact ⟨j + 1, Y, by go_num, by omega, by omega, hT.out.next (Below.refl _ _).drew, hk, hbj.drew⟩
                  case measure => simp [intOf]; omega
            · have hjN : N = j := by omega
              subst hjN
              have hjp : ¬ ((N : Int) ≤ (p.size : Int)) := by omega
              go_wp2_with fail
              go_roundw
              case rel => exact ⟨i + 1, Y, by go_num, by omega, hT, Lib.hid hY.out.over, hbj⟩
              case measure => simp [intOf]; omega
        · have hiN : N = i := by omega
          subst hiN
          have hip : ¬ ((N : Int) ≤ (p.size : Int)) := by omega
          have sw := hb.size
          have TF := Lib.hid (show TabN N w.heap.size wr (.slice A4 N c4) fin from ⟨A4, c4, gs4, rfl, by rw [← hY.out.done]; exact hT.out.mono (Nat.le_trans sw hb3.size)⟩)
          have hbr := Lib.hid (hb3.trans (hbi.mono hb3.size))
          have ownr := Lib.hid (own_next own3.out hbi)
          have repr := Lib.hid (rep3.out.next RO hbi)
          have bw := hb.trans (hbr.out.mono sw)
          go_wp2_with
            (at_builtin
             refine wpList_push (w0 := w) rfl _ _ _ rfl w.heap.size 41 1 24 elemW encV _ k c' vs rfl (ownr.out.alloc _) wr.heap.size (.slice A4 N c4) #[.slice A4 N c4] 41 (0, 0) rfl (heap_alloc_new _ _) rfl rfl (by simp [encV, Value.oneCell']) (by omega) (by omega) (by unfold maxLen; omega) rfl (bw.alloc bw.size _) ?_
             intro A9 c9 w9 own9 hg9 hat9 hb9
             have R9 := Lib.hid (repr.out.push RO ownr.out TF.out _ hg9)
             have O9 := Lib.hid own9
             clear own9 hat9 hg9)
          go_roundw
          case rel =>
            refine ⟨k + 1, A9, c9, _, by go_num, rfl, by omega, O9, Lib.hid ?_, hb9⟩
            rw [Hst.out]; exact R9.out
          case measure => simp [intOf]; omega
    · have hkn : n = k := by omega
      subst hkn
      have sw := hb.size
      have hol := outs_len scNil (fun l => scU p m (l : Int)) (scG m) rs n (by rw [hl.out]; exact Nat.le_refl _)
      have hoa := outs_all scNil (fun l => scU p m (l : Int)) (scG m) rs n (by rw [hl.out]; exact Nat.le_refl _)
      by_cases h0 : n = 0
      · have eT := Lib.hid (show scTop rs p m = scId m by
          unfold scTop; rw [if_pos (by rw [hl.out]; exact h0)]
          funext a b
          unfold scU scId
          by_cases h1 : b = a
          · rw [if_pos h1, if_pos h1]
          · rw [if_neg h1, if_neg h1, if_neg (by omega)])
        have e9 : ((n : Int) == 0) = true := by simpa using h0
        clear h0 hol hoa
        go_wp2_with fail
        refine (HT.out wo).mono ?_
        rintro e5 w5 ⟨v5, rfl, hT5, hb5⟩
        have T5 := Lib.hid (hT5.mono sw)
        obtain ⟨A5, c5, gs5, rfl, _⟩ := hT5
        go_wp2_with fail
        go_ret
        rw [eT.out]
        exact ret_rep T5.out (hb.trans (hb5.mono sw))
      · have e9 : ((n : Int) == 0) = false := by simpa using h0
        have hlr := hl.out
        obtain ⟨g, v, eA, hgl, hcv, hv, hTN⟩ := scat_last (ys := outs scNil (fun l => scU p m (l : Int)) (scG m) rs n) (E := scTop rs p m) (by rw [hol]; exact hown.out) hrep.out (by rw [hol]; omega) (by
          rw [hol, hoa]; unfold scTop; rw [if_neg (by omega), hlr])
        rw [hol] at hcv
        subst eA
        have T5 := Lib.hid hTN
        obtain ⟨A5, n5, c5, rfl⟩ := hv
        have q1 : (1 : Int) ≤ (n : Int) := by omega
        have q2 : (n : Int) - 1 < (n : Int) := by omega
        clear hol hoa hTN h0
        go_wp2_with fail
        go_ret
        exact ret_rep T5.out hb
end Go.Proofs.Ytgdbpkpaacbhhaa


/-
  ScatteredParts and ScatteredCount in the reference.
-/
namespace Go.Proofs.Ytgdbpkpaacbhhaa
open Go.RowKit

theorem retScat_none {rs : List Fac} {s : ByteArray} {m k : Int} {w w' : World} {p : Nat} (hk : scCode rs s m = k) (h0 : k ≠ 0) (hT : TabJ w' w.heap.size (some ⟨p, 0, none⟩) 0 0 (s.size + 1) [] (tabL (s.size + 1) (scTop rs s m))) (hb : Below w.heap.size w w') :
    RetScat rs s m w (.returned (.tuple #[.slice (some ⟨p, 0, none⟩) 0 0, .int .i64 k])) w' := by
  have e : scLen rs s m = 0 := by unfold scLen; rw [if_neg (by rw [hk]; exact h0)]
  exact ⟨_, 0, [], by rw [e, hk], by rw [e]; exact hT, hb⟩
theorem mod_of_code {rs : List Fac} {s : ByteArray} {m : Int} (h : scCode rs s m = 3 ∨ scCode rs s m = 0) : modC rs s m = 0 := by
  by_cases h0 : modC rs s m = 0
  · exact h0
  · exfalso
    have e : scCode rs s m = modC rs s m := by unfold scCode; rw [if_pos h0]
    have hc : modC rs s m = 1 ∨ modC rs s m = 2 ∨ modC rs s m = 0 := by
      unfold modC
      split
      · exact .inl rfl
      split
      · exact .inl rfl
      split
      · exact .inr (.inl rfl)
      · exact .inr (.inr rfl)
    omega
theorem mod_of_code' {rs : List Fac} {s : ByteArray} {m : Int} (h : scCode rs s m = 1 ∨ scCode rs s m = 2) : modC rs s m = scCode rs s m := by
  by_cases h0 : modC rs s m = 0
  · exfalso
    have e : scCode rs s m = if 8 < s.size then 3 else 0 := by unfold scCode; rw [if_neg (by rw [h0]; decide)]
    split at e <;> omega
  · unfold scCode; rw [if_pos h0]
set_option maxHeartbeats 2000000 in
set_option maxRecDepth 100000 in
theorem specScatP_any (A : Option Addr) (n c : Nat) (rs : List Fac) (s : ByteArray) (m : Int) (w : World) (hn : n ≤ 1048576) (hr : Rd w w.heap.size A n 3 Fac.cells rs) (hok : ∀ f ∈ rs, f.l.size ≤ maxLen) (hs : s.size ≤ maxLen) (_hm : -9223372036854775808 ≤ m ∧ m ≤ 9223372036854775807) :
    Calls Try.prog 19 #[.agg #[.slice A n c], .string s, .int .i64 m] w (RetScat rs s m w) := by
  have hb0 : Below w.heap.size w (w.alloc (.cells #[.slice A n c] 26)) := by (repeat first | exact Below.refl _ _ | assumption | refine Below.drew ?_ | refine Below.alloc ?_ (by first | exact Nat.le_refl _ | (simp; done) | omega | (simp; omega)) _ | refine Below.setCell ?_ (by first | exact Nat.le_refl _ | (simp; done) | omega | (simp; omega)) _)
  have hB0 := Lib.hid (Blk.new w 26 #[.slice A n c])
  have hl := Lib.hid hr.len
  have HR := Lib.hid hr; clear hr
  have HO := Lib.hid hok; clear hok
  have HC := Lib.hid (scCode_cases rs s m)
  go_enter Try.func19, Try.ntmps19
  go_wp2_with fail
  refine (l05Mod_any w.heap.size A n c rs s m _ hB0.out.lt (hB0.out.cell 0) hn (HR.out.next hb0) HO.out hs).mono ?_
  rintro e1 w1 ⟨rfl, hb1⟩
  have b1 := hb0.trans (hb1.mono hb0.size)
  have B1 := Lib.hid (hB0.out.next hb1)
  by_cases h12 : scCode rs s m = 1 ∨ scCode rs s m = 2
  · have hk := mod_of_code' h12
    rw [hk]
    have HK := Lib.hid (show ∀ k, scCode rs s m = k → k ≠ 0 from fun k hk => by omega)
    have e0 : (scCode rs s m != 0) = true := by simp; omega
    generalize hkk : scCode rs s m = k at *
    have Hk := Lib.hid hkk
    clear hk h12 hkk
    go_wp2_with fail
    go_ret2
    exact retScat_none Hk.out (HK.out k rfl) (made_nil' w1 w.heap.size _ _ b1.size) (b1.alloc b1.size _)
  have h30 : scCode rs s m = 3 ∨ scCode rs s m = 0 := by
    rcases HC.out with ⟨_, h⟩ | ⟨_, _, h⟩ | ⟨_, _, _, h⟩ | ⟨_, _, _, _, h⟩ | ⟨_, _, _, _, h⟩ <;> omega
  rw [mod_of_code h30]
  by_cases h8 : 8 < s.size
  · have hk : scCode rs s m = 3 := by
      rcases HC.out with ⟨_, h⟩ | ⟨_, _, h⟩ | ⟨_, _, _, h⟩ | ⟨_, _, _, _, h⟩ | ⟨_, _, _, h', _⟩ <;> omega
    have Hk := Lib.hid hk
    have h8' : (8 : Int) < (s.size : Int) := by omega
    clear h12 h30 hk
    go_wp2_with fail
    go_ret2
    exact retScat_none Hk.out (by decide) (made_nil' w1 w.heap.size _ _ b1.size) (b1.alloc b1.size _)
  · obtain ⟨hg, hp, hm, _, hk⟩ : (gOk rs).isSome = true ∧ okW s = true ∧ inB m 1 1000000000 = true ∧ s.size ≤ 8 ∧ scCode rs s m = 0 := by
      rcases HC.out with ⟨_, h⟩ | ⟨_, _, h⟩ | ⟨_, _, _, h⟩ | ⟨_, _, _, h', h⟩ | h
      · omega
      · omega
      · omega
      · omega
      · exact h
    have Hk := Lib.hid hk
    have hm' : 1 ≤ m ∧ m ≤ 1000000000 := by simpa [inB] using hm
    obtain ⟨m0, m1⟩ := hm'
    obtain ⟨ls, hls⟩ := Option.isSome_iff_exists.1 hg
    have HL := Lib.hid (gOk_lens hls).1
    have HP := Lib.hid hp
    have h8' : ¬ ((8 : Int) < (s.size : Int)) := by omega
    have h8n : s.size ≤ 8 := by omega
    clear hg hm hp h12 h30 hk hls HC
    go_wp2_with fail
    refine (l05Scattered_any w.heap.size A n c rs s m w1 B1.out.lt (B1.out.cell 0) hn (HR.out.next b1) HL.out HP.out h8n m0 m1).mono ?_
    rintro e4 w4 ⟨v, rfl, hT, hb4⟩
    have T4 := Lib.hid (hT.mono b1.size)
    obtain ⟨A5, c5, gs5, rfl, _⟩ := hT
    go_wp2_with fail
    go_ret2
    exact retScat_ok Hk.out T4.out (b1.trans (hb4.mono b1.size))
end Go.Proofs.Ytgdbpkpaacbhhaa


/-
  ScatteredParts on both sides: what is told, with rows of no width where there is no table.
-/
namespace Go.Proofs.Ytgdbpkpaacbhhaa
open Go.RowKit

def scW (rs : List Fac) (s : ByteArray) (m : Int) : Nat := if scCode rs s m = 0 then s.size + 1 else 0
theorem scW_le (rs : List Fac) (s : ByteArray) (m : Int) : scW rs s m ≤ 9 := by
  unfold scW
  rcases scCode_cases rs s m with ⟨_, h⟩ | ⟨_, _, h⟩ | ⟨_, _, _, h⟩ | ⟨_, _, _, _, h⟩ | ⟨_, _, _, h8, h⟩
  · rw [if_neg (by omega)]; omega
  · rw [if_neg (by omega)]; omega
  · rw [if_neg (by omega)]; omega
  · rw [if_neg (by omega)]; omega
  · rw [if_pos h]; omega
theorem scLen_le (rs : List Fac) (s : ByteArray) (m : Int) : scLen rs s m ≤ 9 := by
  have := scW_le rs s m
  unfold scLen
  unfold scW at this
  exact this
abbrev scwT (rs : List Fac) (s : ByteArray) (m : Int) : List (List Int) := tabL (s.size + 1) (scTop rs s m)
theorem retScat_w {rs : List Fac} {s : ByteArray} {m : Int} {w w' : World} {e : Ending} (h : RetScat rs s m w e w') : RetTabC w (scLen rs s m) (scW rs s m) (scwT rs s m) (scCode rs s m) e w' := by
  obtain ⟨A, c, gs, he, hT, hb⟩ := h
  refine ⟨A, c, gs, he, ?_, hb⟩
  by_cases h0 : scCode rs s m = 0
  · have e1 : scW rs s m = s.size + 1 := by unfold scW; rw [if_pos h0]
    rw [e1]; exact hT
  · have e1 : scLen rs s m = 0 := by unfold scLen; rw [if_neg h0]
    rw [e1] at hT ⊢
    obtain ⟨o, lg, r, m, d⟩ := hT
    obtain rfl : gs = [] := List.eq_nil_of_length_eq_zero lg
    exact ⟨o, rfl, fun i g hg => by simp at hg, fun i hi => absurd hi (by omega), fun i j g hg => by simp at hg⟩
theorem specScatW_any (A : Option Addr) (n c : Nat) (rs : List Fac) (s : ByteArray) (m : Int) (w : World) (hn : n ≤ 1048576) (hr : Rd w w.heap.size A n 3 Fac.cells rs) (hok : ∀ f ∈ rs, f.l.size ≤ maxLen) (hs : s.size ≤ maxLen) (hm : -9223372036854775808 ≤ m ∧ m ≤ 9223372036854775807) :
    Calls Try.prog 19 #[.agg #[.slice A n c], .string s, .int .i64 m] w (RetTabC w (scLen rs s m) (scW rs s m) (scwT rs s m) (scCode rs s m)) :=
  (specScatP_any A n c rs s m w hn hr hok hs hm).mono fun _ _ h => retScat_w h
theorem implScatW_any (A : Option Addr) (n c : Nat) (rs : List Fac) (s : ByteArray) (m : Int) (w : World) (hn : n ≤ 1048576) (hr : Rd w w.heap.size A n 3 Fac.cells rs) (hok : ∀ f ∈ rs, f.l.size ≤ maxLen) (hs : s.size ≤ maxLen) (hm : -9223372036854775808 ≤ m ∧ m ≤ 9223372036854775807) :
    Calls Try.prog 18 #[.agg #[.slice A n c], .string s, .int .i64 m] w (RetTabC w (scLen rs s m) (scW rs s m) (scwT rs s m) (scCode rs s m)) :=
  (implScatP_any A n c rs s m w hn hr hok hs hm).mono fun _ _ h => retScat_w h
end Go.Proofs.Ytgdbpkpaacbhhaa


/-
  How often letters occur, and the length of a word: on both sides.
-/
namespace Go.Proofs.Ytgdbpkpaacbhhaa
open Go.RowKit

def ct4 (u : List Nat) : List Int := (List.range 4).map fun l => cn l u
theorem ct4_len (u : List Nat) : (ct4 u).length = 4 := rfl
theorem ct4_at (u : List Nat) {l : Nat} (h : l < 4) : (ct4 u).getD l 0 = cn l u := by
  unfold ct4
  rw [List.getD_eq_getElem?_getD, List.getElem?_map, List.getElem?_range h]; rfl
theorem lcL_len (rs : List Fac) (i : Nat) : (lcL rs i).length = 4 := rfl
theorem lcL_at (rs : List Fac) (i : Nat) {l : Nat} (h : l < 4) : (lcL rs i).getD l 0 = sumTo (fun j => (usesOf rs).getD j 0 * lcD rs l j) i := by
  unfold lcL
  rw [List.getD_eq_getElem?_getD, List.getElem?_map, List.getElem?_range h]; rfl
theorem lcL_pair {rs : List Fac} {i : Nat} {x : Fac} (hx : rs[i]? = some x) (h0 : x.l.size = 0) : lcL rs (i + 1) = lcL rs i := by
  unfold lcL
  refine List.map_congr_left fun l _ => ?_
  show sumTo _ i + (usesOf rs).getD i 0 * lcD rs l i = _
  unfold lcD
  rw [fac_getD hx, if_pos h0]; simp
theorem lcL_let {rs : List Fac} {i l : Nat} {x : Fac} (hx : rs[i]? = some x) (h0 : x.l.size ≠ 0) (hl : letN x.l = l) (h4 : l < 4) : lcL rs (i + 1) = (lcL rs i).set l ((lcL rs i).getD l 0 + (usesOf rs).getD i 0) := by
  apply List.ext_getElem?
  intro j
  have e : ∀ j, sumTo (fun k => (usesOf rs).getD k 0 * lcD rs j k) (i + 1) = sumTo (fun k => (usesOf rs).getD k 0 * lcD rs j k) i + if j = l then (usesOf rs).getD i 0 else 0 := fun j => by
    show sumTo _ i + (usesOf rs).getD i 0 * lcD rs j i = _
    unfold lcD
    rw [fac_getD hx, if_neg h0, hl]
    by_cases h : j = l
    · rw [if_pos h.symm, if_pos h]; simp
    · rw [if_neg (fun e => h e.symm), if_neg h]; simp
  rw [List.getElem?_set, lcL_at rs i h4]
  by_cases hj : l = j
  · subst hj
    rw [if_pos rfl, if_pos (by rw [lcL_len]; exact h4)]
    unfold lcL
    rw [List.getElem?_map, List.getElem?_range h4]
    simp only [Option.map_some]
    rw [e, if_pos rfl]
  · rw [if_neg hj]
    unfold lcL
    rw [List.getElem?_map, List.getElem?_map]
    by_cases h4j : j < 4
    · rw [List.getElem?_range h4j]
      simp only [Option.map_some]
      rw [e, if_neg (fun q => hj q.symm)]; simp
    · rw [List.getElem?_eq_none (by simp; omega)]; rfl
theorem lc_b {rs : List Fac} {ls : List Int} (hls : gLens rs [] = some ls) (hll : ls.length = rs.length) (h0 : 0 < rs.length) {l : Nat} (h4 : l < 4) : ∀ i, i ≤ rs.length → 0 ≤ (lcL rs i).getD l 0 ∧ (lcL rs i).getD l 0 ≤ 1000000000000000 := by
  intro i hi
  have U := uses_inv hls hll h0
  have nn : ∀ j, 0 ≤ (usesOf rs).getD j 0 * lcD rs l j := fun j => Int.mul_nonneg (U.nn j) (by unfold lcD; split <;> (try split) <;> omega)
  have mono : ∀ d i, sumTo (fun j => (usesOf rs).getD j 0 * lcD rs l j) i ≤ sumTo (fun j => (usesOf rs).getD j 0 * lcD rs l j) (i + d) := by
    intro d
    induction d with
    | zero => intro i; exact Int.le_refl _
    | succ d ih =>
      intro i
      have h1 := ih i
      have h2 : sumTo (fun j => (usesOf rs).getD j 0 * lcD rs l j) (i + (d + 1)) = sumTo (fun j => (usesOf rs).getD j 0 * lcD rs l j) (i + d) + (usesOf rs).getD (i + d) 0 * lcD rs l (i + d) := rfl
      have := nn (i + d)
      omega
  have a0 := mono i 0
  have a1 := mono (rs.length - i) i
  rw [show i + (rs.length - i) = rs.length by omega] at a1
  rw [Nat.zero_add] at a0
  have e0 : sumTo (fun j => (usesOf rs).getD j 0 * lcD rs l j) 0 = 0 := rfl
  have e1 := lcL_at rs rs.length h4
  rw [lcL_all (wf_of hls)] at e1
  have e2 : ((List.range 4).map fun l => cn l (wdN rs)).getD l 0 = cn l (wdN rs) := ct4_at (wdN rs) h4
  rw [e2] at e1
  have := cn_le l (wdN rs)
  have := lens_last_le hls h0 hll
  have := last_word hls
  rw [lcL_at rs i h4]
  omega
/-- four numbers and the code 0 -/
def Ret4 (w : World) (xs : List Int) (e : Ending) (w' : World) : Prop := ∃ b, e = .returned (.tuple #[.slice (some ⟨b, 0, none⟩) 4 4, .int .i64 0]) ∧ w.heap.size ≤ b ∧ Blk w' b 2 (intA xs) ∧ Below w.heap.size w w'
/-- letters being counted -/
structure LcW (w W : World) (A : Option Addr) (n c b5 : Nat) (A2 : Option Addr) (c2 : Nat) (us xs : List Int) : Prop where
  g : Blk W w.heap.size 26 #[.slice A n c]
  u : W.ownsRow w.heap.size 2 1 (.slice A2 n c2) n (us.flatMap intE)
  x : Blk W b5 2 (intA xs)
  e : Below w.heap.size w W
  hu : ∀ k, (Value.slice A2 n c2).ownBlock = some k → k < b5
  h5 : w.heap.size < b5
theorem LcW.next {w W W' : World} {A A2 : Option Addr} {n c b5 c2 : Nat} {us xs : List Int} (h : LcW w W A n c b5 A2 c2 us xs) (hb : Below W.heap.size W W') : LcW w W' A n c b5 A2 c2 us xs := ⟨h.g.next hb, own_next h.u hb, h.x.next hb, h.e.trans (hb.mono h.e.size), h.hu, h.h5⟩
theorem LcW.put {w W : World} {A A2 : Option Addr} {n c b5 c2 : Nat} {us xs : List Int} (h : LcW w W A n c b5 A2 c2 us xs) (l : Nat) (v : Int) : LcW w (W.setCell ⟨b5, l, none⟩ (.int .i64 v)) A n c b5 A2 c2 us (xs.set l v) := by
  have hg := gb_set W b5 l (.int .i64 v)
  have h5 := h.h5
  have hx := h.x.set_ l (.int .i64 v)
  rw [intA_set] at hx
  refine ⟨h.g.grown hg (by intro e; injection e with e; omega), h.u.kept hg ?_, hx, h.e.setCell (by show w.heap.size ≤ b5; omega) _, h.hu, h5⟩
  cases hv : (Value.slice A2 n c2).ownBlock with
  | none => exact .inl rfl
  | some q => exact .inr fun e => by have := h.hu q hv; injection e with e; omega
theorem lengthOf_any (A : Option Addr) (n c : Nat) (rs : List Fac) (w : World) (hr : Rd w w.heap.size A n 3 Fac.cells rs) (hg : (gOk rs).isSome = true) :
    Calls Try.prog 41 #[.agg #[.slice A n c]] w (Ret (.tuple #[.int .i64 ((wdN rs).length : Int), .int .i64 0]) w) := by
  obtain ⟨ls, hls, hlen, hll⟩ := big_lens hg
  have hl := hr.len
  have hn : n ≤ 400 := by omega
  have HR := Lib.hid hr
  have HG := Lib.hid hg
  have HLS := Lib.hid hls
  have HO := Lib.hid (wf_sz (wf_of hls))
  have hlast := last_word hls
  generalize hv : lastI ls = v at *
  have HV := Lib.hid hv
  rw [← hlast]
  clear hr hg hls hlen hll hl hlast hv
  go_enter Try.func41, Try.ntmps41
  go_wp2_with fail
  refine namedC fun w1 H1 => ?_
  have hb1 : Below w.heap.size w w1 := by rw [H1.out]; (repeat first | exact Below.refl _ _ | assumption | refine Below.drew ?_ | refine Below.alloc ?_ (by first | exact Nat.le_refl _ | (simp; done) | omega | (simp; omega)) _ | refine Below.setCell ?_ (by first | exact Nat.le_refl _ | (simp; done) | omega | (simp; omega)) _)
  have BG := Lib.hid (show Blk w1 w.heap.size 26 #[.slice A n c] by rw [H1.out]; exact Blk.new _ _ _)
  clear H1
  refine (l02Ok_any w.heap.size A n c rs w1 BG.out.lt (BG.out.cell 0) (by omega) (HR.out.next hb1) HO.out true HG.out).mono ?_
  rintro e w3 ⟨rfl, hb3⟩
  have b3 := Lib.hid (hb1.trans (hb3.mono hb1.size))
  have BG3 := Lib.hid (BG.out.next hb3)
  clear BG hb1 hb3
  go_wp2_with fail
  refine (l02Length_any w.heap.size A n c rs w3 BG3.out.lt (BG3.out.cell 0) (by omega) (HR.out.next b3.out) HO.out ls HLS.out).mono ?_
  rintro e w4 ⟨rfl, hb4⟩
  rw [HV.out]
  go_wp2_with fail
  go_ret2
  exact ⟨rfl, b3.out.trans (hb4.mono b3.out.size)⟩
theorem f6length_any (A : Option Addr) (n c : Nat) (rs : List Fac) (w : World) (hr : Rd w w.heap.size A n 3 Fac.cells rs) (hg : (gOk rs).isSome = true) :
    Calls Try.prog 13 #[.agg #[.slice A n c]] w (Ret (.int .i64 ((wdN rs).length : Int)) w) := by
  have HR := Lib.hid hr; clear hr
  have HG := Lib.hid hg; clear hg
  generalize hv : ((wdN rs).length : Int) = v at *
  have HV := Lib.hid hv; clear hv
  go_enter Try.func13, Try.ntmps13
  go_wp2_with fail
  refine (lengthOf_any A n c rs _ (HR.out.next ((Below.refl _ _).alloc (Nat.le_refl _) _)) HG.out).mono ?_
  rintro e w1 ⟨rfl, hb1⟩
  rw [HV.out]
  go_wp2_with fail
  go_ret
  exact ⟨rfl, ((Below.refl _ _).alloc (Nat.le_refl _) _).trans (hb1.mono (by simp))⟩
end Go.Proofs.Ytgdbpkpaacbhhaa


/-
  The turned grammar in the reference.
-/
namespace Go.Proofs.Ytgdbpkpaacbhhaa
open Go.RowKit

theorem flat_swap : ∀ (xs : List Fac) (i : Nat) (f : Fac), xs[i]? = some f → ((xs.flatMap Fac.cells).set (i * 3 + 1) (.int .i64 f.b)).set (i * 3 + 2) (.int .i64 f.a) = (xs.set i ⟨f.l, f.b, f.a⟩).flatMap Fac.cells
  | [], i, f, h => by simp at h
  | x :: r, 0, f, h => by
    obtain rfl : x = f := by simpa using h
    simp [Fac.cells]
  | x :: r, i + 1, f, h => by
    have ih := flat_swap r i f (by simpa using h)
    have hl : (Fac.cells x).length = 3 := rfl
    rw [List.flatMap_cons, List.set_append_right _ _ (by omega), List.set_append_right _ _ (by omega), hl, show (i + 1) * 3 + 1 - 3 = i * 3 + 1 by omega, show (i + 1) * 3 + 2 - 3 = i * 3 + 2 by omega, ih, List.set_cons_succ, List.flatMap_cons]
/-- the first rules turned -/
def tnL (rs : List Fac) (i : Nat) : List Fac := (turnL rs).take i ++ rs.drop i
theorem tnL_len (rs : List Fac) (i : Nat) (h : i ≤ rs.length) : (tnL rs i).length = rs.length := by simp [tnL, turn_len]; omega
theorem tnL_at {rs : List Fac} {i : Nat} {y : Fac} (h : rs[i]? = some y) : (tnL rs i)[i]? = some y := by
  have hi := (List.getElem?_eq_some_iff.1 h).1
  unfold tnL
  rw [List.getElem?_append_right (by simp [turn_len]; omega), List.length_take, turn_len, List.getElem?_drop]
  rw [show i + (i - min i rs.length) = i by omega]; exact h
theorem tnL_step {rs : List Fac} {i : Nat} {y : Fac} (h : rs[i]? = some y) : tnL rs (i + 1) = (tnL rs i).set i ⟨y.l, y.b, y.a⟩ := by
  have hi := (List.getElem?_eq_some_iff.1 h).1
  have ht := turn_at h
  unfold tnL
  rw [take_succ_at ht, List.set_append_right _ _ (by simp [turn_len]; omega), List.length_take, turn_len, show i - min i rs.length = 0 by omega, List.drop_eq_getElem_cons hi, List.set_cons_zero, List.append_assoc]
  rfl
theorem tnL_all (rs : List Fac) : tnL rs rs.length = turnL rs := by
  unfold tnL
  rw [List.drop_length, List.append_nil, List.take_of_length_le (by rw [turn_len]; omega)]
/-- the rules being turned -/
structure TnW (w W : World) (R G ga n c : Nat) (ys : List Value) : Prop where
  q : W.ownsRow w.heap.size 82 3 (.slice (some ⟨ga, 0, none⟩) n c) n ys
  r : Blk W R 26 #[.slice none 0 0]
  x : Blk W G 26 #[.slice (some ⟨ga, 0, none⟩) n c]
  e : Below w.heap.size w W
  h0 : w.heap.size ≤ R
  h1 : R < ga
  h2 : ga < G
theorem TnW.next {w W W' : World} {R G ga n c : Nat} {ys : List Value} (h : TnW w W R G ga n c ys) (hb : Below W.heap.size W W') : TnW w W' R G ga n c ys := ⟨own_next h.q hb, h.r.next hb, h.x.next hb, h.e.trans (hb.mono h.e.size), h.h0, h.h1, h.h2⟩
theorem TnW.put {w W : World} {R G ga n c : Nat} {ys : List Value} (h : TnW w W R G ga n c ys) (i : Nat) (u : Value) : TnW w (W.setCell ⟨ga, i, none⟩ u) R G ga n c (ys.set i u) := by
  have hg := gb_set W ga i u
  have h0 := h.h0; have h1 := h.h1; have h2 := h.h2
  exact ⟨own_set h.q i u, h.r.grown hg (by intro e; injection e with e; omega), h.x.grown hg (by intro e; injection e with e; omega), h.e.setCell (by show w.heap.size ≤ ga; omega) _, h0, h1, h2⟩
set_option maxHeartbeats 4000000 in
set_option maxRecDepth 100000 in
theorem turnG_any (A : Option Addr) (n c : Nat) (rs : List Fac) (w : World) (hn0 : 0 < n) (hn : n ≤ 400) (hr : Rd w w.heap.size A n 3 Fac.cells rs) (hwf : WF rs) (hg : (gOk rs).isSome = true) :
    Calls Try.prog 22 #[.agg #[.slice A n c]] w (RetGC w (turnL rs) 0) := by
  have HL := Lib.hid hr.len
  have HR := Lib.hid hr; clear hr
  have HG := Lib.hid hg; clear hg
  have HO := Lib.hid (wf_sz hwf); clear hwf
  have n1 : ((n : Int) == 0) = false := by simp; omega
  go_enter Try.func22, Try.ntmps22
  go_wp2_with fail
  refine namedC fun w1 H1 => ?_
  have hb1 : Below w.heap.size w w1 := by rw [H1.out]; (repeat first | exact Below.refl _ _ | assumption | refine Below.drew ?_ | refine Below.alloc ?_ (by first | exact Nat.le_refl _ | (simp; done) | omega | (simp; omega)) _ | refine Below.setCell ?_ (by first | exact Nat.le_refl _ | (simp; done) | omega | (simp; omega)) _)
  have BG := Lib.hid (show Blk w1 w.heap.size 26 #[.slice A n c] by rw [H1.out]; exact (Blk.new _ _ _).alloc _)
  have BR := Lib.hid (show Blk w1 (w.heap.size + 1) 26 #[.slice none 0 0] by rw [H1.out]; simpa using Blk.new (w.alloc (.cells #[.slice A n c] 26)) 26 #[.slice none 0 0])
  clear H1
  refine (l02Ok_any w.heap.size A n c rs w1 BG.out.lt (BG.out.cell 0) (by omega) (HR.out.next hb1) HO.out true HG.out).mono ?_
  rintro e w3 ⟨rfl, hb3⟩
  have b3 := Lib.hid (hb1.trans (hb3.mono hb1.size))
  have BG3 := Lib.hid (BG.out.next hb3)
  have BR3 := Lib.hid (BR.out.next hb3)
  have g3 := BG3.out.cell 0
  have l3 := BG3.out.lt
  clear BG BR hb1 hb3
  go_wp2_with fail
  refine (l02Own_any w.heap.size A n c rs w3 l3 g3 (by omega) hn0 (HR.out.next b3.out)).mono ?_
  rintro e w4 ⟨A4, c4, rfl, own4, hb4⟩
  rw [HL.out] at own4 ⊢
  have b4 := Lib.hid (b3.out.trans (hb4.mono b3.out.size))
  obtain ⟨ga, cp4, hv4, hga0, hga1⟩ := own4.form (by omega)
  obtain rfl : A4 = some ⟨ga, 0, none⟩ := by injection hv4
  have hga2 : w.heap.size + 1 < ga := by have := BR3.out.lt; omega
  have O4 := Lib.hid (own4.mono b3.out.size)
  have BR4 := Lib.hid (BR3.out.next hb4)
  have P5 := Lib.hid (show TnW w (w4.alloc (.cells #[.slice (some ⟨ga, 0, none⟩) n c4] 26)) (w.heap.size + 1) w4.heap.size ga n c4 ((tnL rs 0).flatMap Fac.cells) from
    ⟨O4.out.alloc _, BR4.out.alloc _, Blk.new _ _ _, b4.out.alloc b4.out.size _, by omega, hga2, hga1⟩)
  clear own4 hb4 b3 BG3 BR3 g3 l3 hv4 O4 BR4 b4
  go_wp2_with fail
  generalize w4.heap.size = G at *
  go_loopw [5] (fun i_ w' => ∃ i : Nat, i_ = .int .i64 i ∧ i ≤ n ∧ Hid (TnW w w' (w.heap.size + 1) G ga n c4 ((tnL rs i).flatMap Fac.cells))) (fun i_ _ => n - (intOf i_).toNat)
  case atStart => exact ⟨0, rfl, by omega, P5⟩
  case round =>
    obtain ⟨i, rfl, hi, P⟩ := hrel
    clear P5
    have g0 := P.out.x.cell 0
    have gl := P.out.x.lt
    by_cases hlt : i < n
    · obtain ⟨y, hy⟩ : ∃ y, rs[i]? = some y := ⟨_, List.getElem?_eq_getElem (by rw [HL.out]; exact hlt)⟩
      have hyl := tnL_at hy
      have i0 : (0 : Int) ≤ (i : Int) := by omega
      have i1 : (i : Int) < (n : Int) := by omega
      have hln : (tnL rs i).length = n := by rw [tnL_len _ _ (by rw [HL.out]; omega)]; exact HL.out
      have hc := fun q (hq : q < 3) => own_at (sz := 3) (enc := Fac.cells) (fun _ _ => rfl) P.out.q hln default i hlt q hq
      rw [show (tnL rs i).getD i default = y by rw [List.getD_eq_getElem?_getD, hyl]; rfl] at hc
      have c1 : wr.cell? ⟨ga, i * 3 + 1, none⟩ = some (.int .i64 y.a) := hc 1 (by omega)
      have c2 : wr.cell? ⟨ga, i * 3 + 2, none⟩ = some (.int .i64 y.b) := hc 2 (by omega)
      have fz := P.out.q.frozenAt
      have gal : ga < wr.heap.size := by have := P.out.h2; omega
      have hst := Lib.hid (show (((tnL rs i).flatMap Fac.cells).set (i * 3 + 1) (.int .i64 y.b)).set (i * 3 + 2) (.int .i64 y.a) = (tnL rs (i + 1)).flatMap Fac.cells by rw [flat_swap _ _ _ hyl, ← tnL_step hy])
      clear hc hyl hy hln
      go_upto_region 8 with fail
      refine wp_region_N (fun W => W.cell? ⟨G, 0, none⟩ = some (.slice (some ⟨ga, 0, none⟩) n c4) ∧ W.cell? ⟨ga, i * 3 + 2, none⟩ = some (.int .i64 y.b)) [11] (by kernel_rfl) ?_
      have hS0 : wr.drew.cell? ⟨G, 0, none⟩ = some (.slice (some ⟨ga, 0, none⟩) n c4) ∧ wr.drew.cell? ⟨ga, i * 3 + 2, none⟩ = some (.int .i64 y.b) := ⟨g0, c2⟩
      refine wpAnyN_take (i := 0) (v := ?_) rfl (by kernel_rfl) (fun _ _ _ h => h) (by rfl) (fun W hW => ?_) hS0 ?_
      rotate_left
      · obtain ⟨z0, z1⟩ := hW
        go_simp
        try with_reducible rfl
      try simp only [List.getElem_toArray, List.getElem_cons_zero, List.getElem_cons_succ, Act.put, List.setIfInBounds_toArray, List.set_cons_zero, List.set_cons_succ]
      refine wpAnyN_take (i := 1) (v := ?_) rfl (by kernel_rfl) (fun _ _ _ h => h) (by rfl) (fun W hW => ?_) hS0 ?_
      rotate_left
      · obtain ⟨z0, z1⟩ := hW
        go_simp
        try with_reducible rfl
      try simp only [List.getElem_toArray, List.getElem_cons_zero, List.getElem_cons_succ, Act.put, List.setIfInBounds_toArray, List.set_cons_zero, List.set_cons_succ]
      refine wpAnyN_take (i := 2) (v := ?_) rfl (by kernel_rfl) (fun _ _ _ h => h) (by rfl) (fun W hW => ?_) hS0 ?_
      rotate_left
      · obtain ⟨z0, z1⟩ := hW
        go_simp
        try with_reducible rfl
      try simp only [List.getElem_toArray, List.getElem_cons_zero, List.getElem_cons_succ, Act.put, List.setIfInBounds_toArray, List.set_cons_zero, List.set_cons_succ]
      refine wpAnyN_take (i := 3) (v := ?_) rfl (by kernel_rfl) (fun _ _ _ h => h) (by rfl) (fun W hW => ?_) hS0 ?_
      rotate_left
      · obtain ⟨z0, z1⟩ := hW
        go_simp
        try with_reducible rfl
      try simp only [List.getElem_toArray, List.getElem_cons_zero, List.getElem_cons_succ, Act.put, List.setIfInBounds_toArray, List.set_cons_zero, List.set_cons_succ]
      refine wpAnyN_take (i := 4) (v := ?_) rfl (by kernel_rfl) (fun _ _ _ h => h) (by rfl) (fun W hW => ?_) hS0 ?_
      rotate_left
      · obtain ⟨z0, z1⟩ := hW
        go_simp
        try with_reducible rfl
      try simp only [List.getElem_toArray, List.getElem_cons_zero, List.getElem_cons_succ, Act.put, List.setIfInBounds_toArray, List.set_cons_zero, List.set_cons_succ]
      refine wpAnyN_take (i := 5) (v := ?_) rfl (by kernel_rfl) (fun _ _ _ h => h) (by rfl) (fun W hW => ?_) hS0 ?_
      rotate_left
      · obtain ⟨z0, z1⟩ := hW
        go_simp
        try with_reducible rfl
      try simp only [List.getElem_toArray, List.getElem_cons_zero, List.getElem_cons_succ, Act.put, List.setIfInBounds_toArray, List.set_cons_zero, List.set_cons_succ]
      refine wpAnyN_take (i := 6) (v := ?_) rfl (by kernel_rfl) (fun _ _ _ h => h) (by rfl) (fun W hW => ?_) hS0 ?_
      rotate_left
      · obtain ⟨z0, z1⟩ := hW
        go_simp
        try with_reducible rfl
      try simp only [List.getElem_toArray, List.getElem_cons_zero, List.getElem_cons_succ, Act.put, List.setIfInBounds_toArray, List.set_cons_zero, List.set_cons_succ]
      refine wpAnyN_take (i := 7) (v := ?_) rfl (by kernel_rfl) (fun _ _ _ h => h) (by rfl) (fun W hW => ?_) hS0 ?_
      rotate_left
      · obtain ⟨z0, z1⟩ := hW
        go_simp
        try with_reducible rfl
      try simp only [List.getElem_toArray, List.getElem_cons_zero, List.getElem_cons_succ, Act.put, List.setIfInBounds_toArray, List.set_cons_zero, List.set_cons_succ]
      refine wpAnyN_take (i := 8) (v := ?_) rfl (by kernel_rfl) (fun _ _ _ h => h) (by rfl) (fun W hW => ?_) hS0 ?_
      rotate_left
      · obtain ⟨z0, z1⟩ := hW
        go_simp
        try with_reducible rfl
      try simp only [List.getElem_toArray, List.getElem_cons_zero, List.getElem_cons_succ, Act.put, List.setIfInBounds_toArray, List.set_cons_zero, List.set_cons_succ]
      refine wpAnyN_take (i := 9) (v := ?_) rfl (by kernel_rfl) (fun _ _ _ h => h) (by rfl) (fun W hW => ?_) hS0 ?_
      rotate_left
      · obtain ⟨z0, z1⟩ := hW
        go_simp
        try with_reducible rfl
      try simp only [List.getElem_toArray, List.getElem_cons_zero, List.getElem_cons_succ, Act.put, List.setIfInBounds_toArray, List.set_cons_zero, List.set_cons_succ]
      refine wpAnyN_take (i := 10) (v := ?_) rfl (by kernel_rfl) (fun _ _ _ h => h) (by rfl) (fun W hW => ?_) hS0 ?_
      rotate_left
      · obtain ⟨z0, z1⟩ := hW
        go_simp
        try with_reducible rfl
      try simp only [List.getElem_toArray, List.getElem_cons_zero, List.getElem_cons_succ, Act.put, List.setIfInBounds_toArray, List.set_cons_zero, List.set_cons_succ]
      refine wpAnyN_next (i := 11) rfl (by kernel_rfl) (fun K hK => ?_)
      go_simp
      refine hK.out _ _ (fun h => absurd h (by decide)) ?_
      clear hK K hS0
      refine wpAnyN_done (by kernel_rfl) ?_ _
      have Q1 := Lib.hid ((P.out.next (Below.refl _ _).drew).put (i * 3 + 1) (.int .i64 y.b))
      have g0' := Q1.out.x.cell 0
      have gl' := Q1.out.x.lt
      have fz' := Q1.out.q.frozenAt
      have gal' : ga < (wr.drew.setCell ⟨ga, i * 3 + 1, none⟩ (.int .i64 y.b)).heap.size := by have := Q1.out.h2; omega
      have Q2 := Lib.hid (Q1.out.put (i * 3 + 2) (.int .i64 y.a))
      rw [hst.out] at Q2
      go_wp2_with fail
      go_roundw
      case rel => exact ⟨i + 1, by go_num, by omega, Q2⟩
      case measure => simp [intOf]; omega
    · obtain rfl : i = n := by omega
      have hq := P.out.q
      rw [show tnL rs i = turnL rs by rw [← tnL_all, HL.out]] at hq
      have Hq := Lib.hid hq
      have r7 := P.out.r.cell 0
      have f7 := P.out.r.frozen
      have l7 := P.out.r.lt
      have x8 : (wr.setCell ⟨w.heap.size + 1, 0, none⟩ (.slice (some ⟨ga, 0, none⟩) i c4)).cell? ⟨w.heap.size + 1, 0, none⟩ = some (.slice (some ⟨ga, 0, none⟩) i c4) := by rw [(P.out.r.set_ 0 (.slice (some ⟨ga, 0, none⟩) i c4)).cell 0]; rfl
      have b8 := P.out.e.setCell (p := ⟨w.heap.size + 1, 0, none⟩) (by simp) (.slice (some ⟨ga, 0, none⟩) i c4)
      have O8 := Lib.hid (own_kept' (i := 0) Hq.out P.out.r (by decide) (.slice (some ⟨ga, 0, none⟩) i c4))
      have tl : (turnL rs).length = i := by rw [turn_len]; exact HL.out
      go_wp2_with fail
      refine bodyPost_ret (v := .tuple #[.agg #[.slice (some ⟨ga, 0, none⟩) i c4], .int .i64 0]) (by simp [results, Try.results22, go_sem, x8]) rfl ⟨some ⟨ga, 0, none⟩, c4, by rw [tl], by rw [tl]; exact O8.out, b8⟩
end Go.Proofs.Ytgdbpkpaacbhhaa


/-
  How a law's statement follows from its walk: the arguments opened to plain data; behind the walk they read as they did.
-/
namespace Go.Proofs.Ytgdbpkpaacbhhaa
open Go.ChangeShapes Go.WideShapes Go.ChangeAt Go.RowKit Go.Deep

theorem own : ownKnob Try.prog.godebug = none := by kernel_rfl
theorem laidOut : laidOutB Try.prog = true := by kernel_rfl
theorem mapsRowed' : mapsRowed Try.prog = true := by kernel_rfl
theorem heard' : Try.prog.stopsHeard = true := by kernel_rfl
theorem mayEnter' : Try.prog.mayEnter = true := by kernel_rfl
theorem lifts' : (Rows.fnPrintsRow.lifted == Try.prog.liftsFinal) = true := by kernel_rfl
theorem make' : (Try.prog.make == some Rows.fnPrintsRow.make) = true := by kernel_rfl
theorem plainKeys' : (Rows.fnPrintsRow.plainKeys == Try.prog.plainKeys) = true := by kernel_rfl
/-- a row's closed facts, one by one: so that the kernel gives its memory back behind each -/
theorem joined_mk {P : Program} {f : FuncId} {fn : Func} {s : ChangeSpec} {c : OpenClaim} (h1 : c.wf (OpenSpec.ofChange s) = true) (h2 : laidOutB P = true) (h3 : mapsRowed P = true)
    (h4 : (fn.params.all (P.readableRec ·) && namedTie P c.named s.vars && (c.stops == []) && (P.stops == []) && (c.knobs == []) && (P.stopKnobs == [])) = true)
    (h5 : (c.inPlace == P.inPlace f) = true) (h6 : (c.unfollowed == P.unfollowed f) = true) (h7 : (c.recurses == P.recurses f) = true) (h8 : (c.named == P.varsNamed f) = true)
    (h9 : ((c.maps == (fn.params.toList ++ s.plain.varTypes P).any (P.mapsRec ·)) && (c.ifaces == (fn.params.toList ++ s.plain.varTypes P).any (P.ifacesRec ·)) && (c.mapsOut == P.mapsAmong fn.resultTypes.toList) &&
      (c.loops == (fn.params.toList ++ s.plain.varTypes P).any (P.loopsFrom ·)) && (c.wideKeys == (fn.params.toList ++ s.plain.varTypes P ++ fn.resultTypes.toList).any (P.wideKeysFrom ·)) &&
      s.vars.all (P.varReadable ·) && fn.resultTypes.all (fun t => P.readableRec t && decide (t < P.types.size)) && (c.ifacesOut == fn.resultTypes.toList.any (P.ifacesRec ·)) && (c.loopsOut == fn.resultTypes.toList.any (P.loopsFrom ·))) = true)
    (h10 : (c.plainKeys == P.plainKeys) = true) (h11 : c.shortTexts.isNone = true) (h12 : P.stopsHeard = true) (h13 : P.mayEnter = true) (h14 : (c.lifted == P.liftsFinal) = true) (h15 : (P.make == some c.make) = true)
    (h16 : ((c.kinds == (if c.domain.isEmpty then [] else fn.params.toList.map fun t => match P.underlying t with | some (.int k) => some k | _ => none)) && (c.pinned == c.pinnedBy) &&
      (c.veiled == (fn.params.toList ++ s.plain.varTypes P ++ fn.resultTypes.toList).any (P.veiledRec ·)) && c.veiledFits P fn.params.toList (fn.params.toList ++ s.plain.varTypes P ++ fn.resultTypes.toList)) = true) :
    joinedFacts P f fn s c = true := by
  simp only [Bool.and_eq_true] at h4 h9 h16
  simp only [joinedFacts, Bool.and_eq_true]
  simp only [h1, h2, h3, h4, h5, h6, h7, h8, h9, h10, h11, h12, h13, h14, h15, h16, and_self]
  exact ⟨⟨⟨⟨trivial, h16.1.1.1⟩, trivial⟩, trivial⟩, trivial⟩

section
variable {H : Type} {enc : TypeId × Value → H} {P : Program}
/-- the arguments read as they did, where nothing old has turned -/
theorem args_below (hl : laidOutB P = true) {W W' : World} (hb : Below W.heap.size W W') : ∀ {ts : List TypeId} {vs : List Value} {ds : List (DataW H)} {ps : List MemPlace},
    (∀ t ∈ ts, P.readableRec t = true ∧ t < P.types.size) → DataW.TrodAll enc P W 0 (fun _ => true) true ts vs ds ps → (∀ p ∈ ps, p.block < W.heap.size) →
    ∀ sp : Nat → Bool, (∀ p ∈ ps, sp p.block = true) → DataW.TrodAll enc P W' 0 sp true ts vs ds ps
  | [], [], [], _, _, h, _, _, _ => h
  | t :: ts, v :: vs, d :: ds, ps, ht, h, hlt, sp, hsp => by
    obtain ⟨p, q, h1, h2, rfl⟩ := h
    obtain ⟨hr, hrow⟩ := ht t (by simp)
    exact ⟨p, q, WideElems.Trod_stays hl hr hrow h1 (fun x hx => hb.same (hlt x (by simp [hx]))) (fun x hx => hsp x (by simp [hx])),
      args_below hl hb (fun t' h' => ht t' (by simp [h'])) h2 (fun x hx => hlt x (by simp [hx])) sp (fun x hx => hsp x (by simp [hx])), rfl⟩
  | [], _ :: _, _, _, _, h, _, _, _ => by cases h
  | [], [], _ :: _, _, _, h, _, _, _ => by cases h
  | _ :: _, [], _, _, _, h, _, _, _ => by cases h
  | _ :: _, _ :: _, [], _, _, h, _, _, _ => by cases h

/-- a law's last step: it has returned true, and nothing old has turned -/
theorem law_post {f : Func} {s : ChangeSpec} {W W' : World} {args : Array Value} {ds gs : List (DataW H)} {before : List MemPlace} (hl : laidOutB P = true)
    (hW : DataW.Whole enc P f.params.toList s.vars false W args.toList ds gs before) (hv : s.vars = []) (b : TypeId) (hbool : P.underlying b = some .bool) (hrt : f.resultTypes = #[b])
    (hts : ∀ t ∈ f.params.toList, P.readableRec t = true ∧ t < P.types.size)
    (hsp : s.fn H (ds ++ gs) = { results := [.lit (.bool true)], args := ds }) (hb : Below W.heap.size W W') : s.post enc P f false true false false W args (.bool true) W' := by
  have hW0 := hW
  have hlt : ∀ p ∈ before, p.block < W.heap.size := fun p hp => hW.lt p hp
  obtain ⟨p, q, hA, hV, hpq, hz, hn⟩ := hW
  rw [hv] at hV
  obtain ⟨hg, hq⟩ := trodVars_none hV
  subst hg hq
  rw [List.append_nil] at hpq
  subst hpq
  have hargs := args_below hl hb hts hA hlt
  refine ⟨ds, [], before, [], before, [], hW0, ?_, ?_, ?_, World.keptBut_mono (fun p hp => ⟨hp, Or.inr (Or.inl hp)⟩) (hb.frame (· ∈ before)), fun h => by cases h⟩
  · rw [hsp, hrt]
    exact trodAll_mk1 (shut_bool hbool _)
  · rw [hsp]
    exact hargs _ (fun p hp => by simpa using hlt p hp)
  · rw [hsp, hv]
    exact rfl
end

def I64 (x : Int) : Prop := -9223372036854775808 ≤ x ∧ x ≤ 9223372036854775807
def Fac.ok (f : Fac) : Prop := f.l.size ≤ maxLen ∧ I64 f.a ∧ I64 f.b

theorem cell_spot {w : World} {a : Addr} {v : Value} (h : w.cell? a = some v) : a = ⟨a.block, a.off, none⟩ := by
  obtain ⟨b, o, s⟩ := a
  cases s with
  | none => rfl
  | some x =>
    exfalso
    unfold World.cell? at h
    split at h <;> simp at h

section
variable {H : Type} {enc : TypeId × Value → H} {P : Program} {w : World} {base : Nat} {spare : Nat → Bool} {held : Bool}
/-- a list of structs of a string and two numbers, as it reads -/
theorem facs_of_trod {t e : TypeId} {f0 f1 f2 : Field} {fuel : Nat} {cs0 : List Value} {x0 : DataW H × List MemPlace} (ht : P.underlying t = some (.slice e)) (he : P.underlying e = some (.struct #[f0, f1, f2]))
    (hone : oneCellFields P #[f0, f1, f2] = true) (hC : P.cellsOf e = 3) (t0 : P.underlying f0.type = some .string) (t1 : P.underlying f1.type = some (.int .i64)) (t2 : P.underlying f2.type = some (.int .i64))
    (hf : DataW.trod enc P w base spare held fuel t cs0 = some x0) :
    ∃ A n c fs, cs0 = [.slice A n c] ∧ n ≤ maxLen ∧ Rd w w.heap.size A n 3 Fac.cells fs ∧ ∀ f ∈ fs, Fac.ok f := by
  rcases open_slice ht hf with ⟨hcs, hx⟩ | ⟨a, len, cap, m, n, D, Pl, hcs, _, hl, hm, hmm, hx, hi⟩
  · exact ⟨none, 0, 0, [], hcs, by omega, Rd.none_, by simp⟩
  · subst hcs
    have hlm : len ≤ m := by rw [hmm]; split <;> omega
    have key : ∀ i, i < len → ∃ f : Fac, Fac.ok f ∧ w.cell? (a.add (i * 3)) = some (.string f.l) ∧ w.cell? ((a.add (i * 3)).add 1) = some (.int .i64 f.a) ∧ w.cell? ((a.add (i * 3)).add 2) = some (.int .i64 f.b) := by
      intro i hil
      obtain ⟨cs', hc, ht'⟩ := hi i (by omega)
      rw [hC] at hc
      obtain ⟨ys, n', hn', hy, hlen, hyl, hfld⟩ := DataW.trod_struct he ht'
      obtain ⟨_, hcl, hat⟩ := World.cells?_some hc
      obtain ⟨o0, k0⟩ := hone_of hone 0 f0 rfl
      obtain ⟨o1, k1⟩ := hone_of hone 1 f1 rfl
      obtain ⟨o2, k2⟩ := hone_of hone 2 f2 rfl
      rw [hC] at hlen
      match cs', hlen with
      | [x0, x1, x2], _ =>
        have q0 := hfld 0 f0 rfl
        have q1 := hfld 1 f1 rfl
        have q2 := hfld 2 f2 rfl
        match ys, hyl with
        | [y0, y1, y2], _ =>
          simp only [o0, k0, o1, k1, o2, k2] at q0 q1 q2
          obtain ⟨s, e0, _, hs⟩ := DataW.trod_string t0 (x := y0) (by simpa using q0)
          obtain ⟨z1, e1, _, w1⟩ := DataW.trod_int t1 (x := y1) (by simpa using q1)
          obtain ⟨z2, e2, _, w2⟩ := DataW.trod_int t2 (x := y2) (by simpa using q2)
          simp at e0 e1 e2
          subst e0 e1 e2
          refine ⟨⟨s, z1, z2⟩, ⟨hs, ?_, ?_⟩, ?_, ?_, ?_⟩
          · simpa [I64, Lit.wf, IntKind.min, IntKind.max, IntKind.signed, IntKind.bits] using w1
          · simpa [I64, Lit.wf, IntKind.min, IntKind.max, IntKind.signed, IntKind.bits] using w2
          · simpa [Addr.add] using hat 0 (by omega)
          · simpa using hat 1 (by omega)
          · simpa using hat 2 (by omega)
    obtain ⟨F, hF⟩ := choose_lt (α := Fac) (p := fun i f => Fac.ok f ∧ w.cell? (a.add (i * 3)) = some (.string f.l) ∧ w.cell? ((a.add (i * 3)).add 1) = some (.int .i64 f.a) ∧ w.cell? ((a.add (i * 3)).add 2) = some (.int .i64 f.b)) key
    refine ⟨some a, len, cap, (List.range len).map F, rfl, by omega, ⟨by simp, fun hp => ?_⟩, ?_⟩
    · have h0 := (hF 0 hp).2.1
      have ha : a = ⟨a.block, a.off, none⟩ := by
        have : a.add (0 * 3) = a := by simp [Addr.add]
        rw [this] at h0
        exact cell_spot h0
      refine ⟨a.block, a.off, by rw [← ha], ?_, ?_⟩
      · have := World.block_lt_of_cell? w _ h0
        simpa [Addr.add] using this
      · intro k x hx j u hu
        have hk : k < len := by
          have := (List.getElem?_eq_some_iff.1 hx).1
          simpa using this
        obtain rfl : F k = x := by simpa [hk] using hx
        obtain ⟨_, g0, g1, g2⟩ := hF k hk
        rw [ha] at g0 g1 g2
        simp only [Addr.add_lit] at g0 g1 g2
        rcases j with _ | _ | _ | j
        · simp [Fac.cells] at hu; subst hu; simpa using g0
        · simp [Fac.cells] at hu; subst hu; simpa using g1
        · simp [Fac.cells] at hu; subst hu; simpa using g2
        · simp [Fac.cells] at hu
    · intro f hf
      simp only [List.mem_map, List.mem_range] at hf
      obtain ⟨i, hil, rfl⟩ := hf
      exact (hF i hil).1
/-- an argument that is a list of structs of a string and two numbers -/
theorem open_facs {t e : TypeId} {f0 f1 f2 : Field} {r : Reach} {b0 : Nat} {v : Value} {d : DataW H} {p : List MemPlace} (ht : P.underlying t = some (.slice e)) (he : P.underlying e = some (.struct #[f0, f1, f2]))
    (hone : oneCellFields P #[f0, f1, f2] = true) (hC : P.cellsOf e = 3) (t0 : P.underlying f0.type = some .string) (t1 : P.underlying f1.type = some (.int .i64)) (t2 : P.underlying f2.type = some (.int .i64))
    (hv : Value.okWide P w r b0 t v) (h : DataW.Trod enc P w base spare held t v d p) :
    ∃ A n c fs, v = .slice A n c ∧ n ≤ maxLen ∧ Rd w w.heap.size A n 3 Fac.cells fs ∧ ∀ f ∈ fs, Fac.ok f := by
  obtain ⟨a0, len, cap, rfl⟩ := okWide_slice ht hv
  obtain ⟨fuel, hf⟩ := h
  simp only [Value.cells] at hf
  obtain ⟨A, n, c, fs, hcs, h2⟩ := facs_of_trod ht he hone hC t0 t1 t2 hf
  exact ⟨A, n, c, fs, by simpa using hcs, h2⟩
/-- an argument that is a grammar: a struct of one list -/
theorem open_grammar {g e : TypeId} {f f0 f1 f2 : Field} {r : Reach} {b0 : Nat} {v : Value} {d : DataW H} {p : List MemPlace} (hg : P.underlying g = some (.struct #[f])) (hone1 : oneCellFields P #[f] = true) (hC1 : P.cellsOf g = 1)
    (ht : P.underlying f.type = some (.slice e)) (he : P.underlying e = some (.struct #[f0, f1, f2]))
    (hone : oneCellFields P #[f0, f1, f2] = true) (hC : P.cellsOf e = 3) (t0 : P.underlying f0.type = some .string) (t1 : P.underlying f1.type = some (.int .i64)) (t2 : P.underlying f2.type = some (.int .i64))
    (hv : Value.okWide P w r b0 g v) (h : DataW.Trod enc P w base spare held g v d p) :
    ∃ A n c fs, v = .agg #[.slice A n c] ∧ n ≤ maxLen ∧ Rd w w.heap.size A n 3 Fac.cells fs ∧ ∀ f ∈ fs, Fac.ok f := by
  obtain ⟨cs, rfl, hsz⟩ := okWide_struct hg hv
  obtain ⟨l⟩ := cs
  match l, hsz.trans hC1 with
  | [x0], _ =>
    obtain ⟨fuel, hf⟩ := h
    obtain ⟨ys, n', hn', hy, hlen, hyl, hfld⟩ := DataW.trod_struct hg hf
    obtain ⟨o0, k0⟩ := hone_of hone1 0 f rfl
    match ys, hyl with
    | [y0], _ =>
      have q0 := hfld 0 f rfl
      simp only [o0, k0] at q0
      have q1 : DataW.trod enc P w base spare held n' f.type [x0] = some y0 := by simpa [Value.cells] using q0
      obtain ⟨A, n, c, fs, hcs, h2⟩ := facs_of_trod ht he hone hC t0 t1 t2 q1
      obtain rfl : x0 = .slice A n c := by simpa using hcs
      exact ⟨A, n, c, fs, rfl, h2⟩
/-- an argument that is a list of numbers -/
theorem open_nums {t e : TypeId} {k : IntKind} {r : Reach} {b0 : Nat} {v : Value} {d : DataW H} {p : List MemPlace} (ht : P.underlying t = some (.slice e)) (he : P.underlying e = some (.int k)) (hC : P.cellsOf e = 1)
    (hv : Value.okWide P w r b0 t v) (h : DataW.Trod enc P w base spare held t v d p) :
    ∃ A n c zs, v = .slice A n c ∧ n ≤ maxLen ∧ Rd w w.heap.size A n 1 (fun z => [.int k z]) zs ∧ ∀ z ∈ zs, (Lit.int k z).wf = true := by
  obtain ⟨a0, len0, cap0, rfl⟩ := okWide_slice ht hv
  obtain ⟨fuel, hf⟩ := h
  simp only [Value.cells] at hf
  rcases open_ints ht he hC hf with ⟨hcs, hx⟩ | ⟨a, len, cap, zs, hcs, _, hl, hm, hz, hx, hi, hw⟩
  · exact ⟨none, 0, 0, [], by simpa using hcs, by omega, Rd.none_, by simp⟩
  · have hlz : len ≤ zs.length := by rw [hz]; split <;> omega
    refine ⟨some a, len, cap, zs.take len, by simpa using hcs, by omega, ⟨by simp; omega, fun hp => ?_⟩, fun z h2 => hw z (List.mem_of_mem_take h2)⟩
    have h0 := hi 0 (by omega)
    have ha : a = ⟨a.block, a.off, none⟩ := by
      have : a.add 0 = a := by simp [Addr.add]
      rw [this] at h0
      exact cell_spot h0
    refine ⟨a.block, a.off, by rw [← ha], ?_, fun i x hx j u hu => ?_⟩
    · have := World.block_lt_of_cell? w _ h0
      simpa [Addr.add] using this
    · have hil : i < len := by have := (List.getElem?_eq_some_iff.1 hx).1; simp at this; omega
      rw [List.getElem?_take_of_lt hil] at hx
      have g0 := hi i (by omega)
      rw [ha, Addr.add_lit, List.getD_eq_getElem?_getD, hx] at g0
      rcases j with _ | j
      · simp at hu; subst hu; simpa using g0
      · simp at hu
theorem open_bytes {t e : TypeId} {r : Reach} {b0 : Nat} {v : Value} {d : DataW H} {p : List MemPlace} (ht : P.underlying t = some (.slice e)) (he : P.underlying e = some (.int .u8)) (hC : P.cellsOf e = 1)
    (hv : Value.okWide P w r b0 t v) (h : DataW.Trod enc P w base spare held t v d p) :
    ∃ A n c zs, v = .slice A n c ∧ n ≤ maxLen ∧ Rd w w.heap.size A n 1 (fun z => [.int .u8 z]) zs ∧ ∀ z ∈ zs, 0 ≤ z ∧ z < 256 := by
  obtain ⟨A, n, c, zs, h1, h2, h3, h4⟩ := open_nums ht he hC hv h
  refine ⟨A, n, c, zs, h1, h2, h3, fun z hz => ?_⟩
  have := h4 z hz
  simp [Lit.wf, IntKind.min, IntKind.max, IntKind.signed, IntKind.bits] at this
  omega
theorem open_i64s {t e : TypeId} {r : Reach} {b0 : Nat} {v : Value} {d : DataW H} {p : List MemPlace} (ht : P.underlying t = some (.slice e)) (he : P.underlying e = some (.int .i64)) (hC : P.cellsOf e = 1)
    (hv : Value.okWide P w r b0 t v) (h : DataW.Trod enc P w base spare held t v d p) :
    ∃ A n c zs, v = .slice A n c ∧ n ≤ maxLen ∧ Rd w w.heap.size A n 1 (fun z => [.int .i64 z]) zs ∧ ∀ z ∈ zs, I64 z := by
  obtain ⟨A, n, c, zs, h1, h2, h3, h4⟩ := open_nums ht he hC hv h
  refine ⟨A, n, c, zs, h1, h2, h3, fun z hz => ?_⟩
  simpa [I64, Lit.wf, IntKind.min, IntKind.max, IntKind.signed, IntKind.bits] using h4 z hz
theorem open_i64 {t : TypeId} {r : Reach} {b0 : Nat} {v : Value} {d : DataW H} {p : List MemPlace} (ht : P.underlying t = some (.int .i64)) (hv : Value.okWide P w r b0 t v) (h : DataW.Trod enc P w base spare held t v d p) :
    ∃ z, v = .int .i64 z ∧ d = .lit (.int .i64 z) ∧ p = [] ∧ I64 z := by
  obtain ⟨z, h1, h2, h3, h4⟩ := Go.ChangeShapes.open_int ht hv h
  exact ⟨z, h1, h2, h3, by simpa [I64, Lit.wf, IntKind.min, IntKind.max, IntKind.signed, IntKind.bits] using h4⟩
/-- an argument that is a list of texts -/
theorem open_strs {t e : TypeId} {r : Reach} {b0 : Nat} {v : Value} {d : DataW H} {p : List MemPlace} (ht : P.underlying t = some (.slice e)) (he : P.underlying e = some .string) (hC : P.cellsOf e = 1)
    (hv : Value.okWide P w r b0 t v) (h : DataW.Trod enc P w base spare held t v d p) :
    ∃ A n c ss, v = .slice A n c ∧ n ≤ maxLen ∧ Rd w w.heap.size A n 1 (fun s => [.string s]) ss ∧ ∀ s ∈ ss, s.size ≤ maxLen := by
  obtain ⟨a0, len0, cap0, rfl⟩ := okWide_slice ht hv
  obtain ⟨fuel, hf⟩ := h
  simp only [Value.cells] at hf
  rcases open_strings ht he hC hf with ⟨hcs, hx⟩ | ⟨a, len, cap, zs, hcs, _, hl, hm, hz, hx, hi, hw⟩
  · exact ⟨none, 0, 0, [], by simpa using hcs, by omega, Rd.none_, by simp⟩
  · have hlz : len ≤ zs.length := by rw [hz]; split <;> omega
    refine ⟨some a, len, cap, zs.take len, by simpa using hcs, by omega, ⟨by simp; omega, fun hp => ?_⟩, fun z h2 => hw z (List.mem_of_mem_take h2)⟩
    have h0 := hi 0 (by omega)
    have ha : a = ⟨a.block, a.off, none⟩ := by
      have : a.add 0 = a := by simp [Addr.add]
      rw [this] at h0
      exact cell_spot h0
    refine ⟨a.block, a.off, by rw [← ha], ?_, fun i x hx j u hu => ?_⟩
    · have := World.block_lt_of_cell? w _ h0
      simpa [Addr.add] using this
    · have hil : i < len := by have := (List.getElem?_eq_some_iff.1 hx).1; simp at this; omega
      rw [List.getElem?_take_of_lt hil] at hx
      have g0 := hi i (by omega)
      rw [ha, Addr.add_lit, List.getD_eq_getElem?_getD, hx] at g0
      rcases j with _ | j
      · simp at hu; subst hu; simpa using g0
      · simp at hu
end
end Go.Proofs.Ytgdbpkpaacbhhaa
