/-
  SelectOf in the program and in the reference.
-/
import Derived.Test.YtchlipklmdlklaaPlace
namespace Go.Proofs.Ytchlipklmdlklaa
open Go.RowKit

def selGo (cs : List Q4) (ls : List Int) (rs : List Fac) (l : Nat) : Nat → Nat → Int → Int → Int
  | 0, _, _, n => n
  | f + 1, r, k, n =>
    match rs[r]? with
    | none => n
    | some x => if x.l.size = 0 then (if k < (cs.getD x.a.toNat Q4.nil).at_ l then selGo cs ls rs l f x.a.toNat k n else selGo cs ls rs l f x.b.toNat (k - (cs.getD x.a.toNat Q4.nil).at_ l) (n + ls.getD x.a.toNat 0)) else n
theorem selGo_step {cs : List Q4} {ls : List Int} {rs : List Fac} {l : Nat} {f r : Nat} {k n : Int} {x : Fac} (hf : r < f) (hx : rs[r]? = some x) (h0 : x.l.size = 0) :
    selGo cs ls rs l f r k n = if k < (cs.getD x.a.toNat Q4.nil).at_ l then selGo cs ls rs l (f - 1) x.a.toNat k n else selGo cs ls rs l (f - 1) x.b.toNat (k - (cs.getD x.a.toNat Q4.nil).at_ l) (n + ls.getD x.a.toNat 0) := by
  obtain ⟨g, rfl⟩ : ∃ g, f = g + 1 := ⟨f - 1, by omega⟩
  rw [selGo, hx]
  simp only [if_pos h0, Nat.add_sub_cancel]
theorem selGo_stop {cs : List Q4} {ls : List Int} {rs : List Fac} {l : Nat} {f r : Nat} {k n : Int} {x : Fac} (hf : r < f) (hx : rs[r]? = some x) (h0 : x.l.size ≠ 0) : selGo cs ls rs l f r k n = n := by
  obtain ⟨g, rfl⟩ : ∃ g, f = g + 1 := ⟨f - 1, by omega⟩
  rw [selGo, hx]
  simp only [if_neg h0]
def topQ (rs : List Fac) : Q4 := if rs.length = 0 then Q4.nil else (cnts rs).getD (rs.length - 1) Q4.nil
theorem top_topQ (rs : List Fac) : (foldAll Q4.nil cntF cntG Q4.nil rs).getD ((foldAll Q4.nil cntF cntG Q4.nil rs).length - 1) Q4.nil = topQ rs := foldAll_top _ _ _ _ rs
def selV (rs : List Fac) (s : ByteArray) (k : Int) : Value :=
  if (gOk rs).isSome = false then tup2 0 1 else if letT s = false then tup2 0 1 else if k < 0 then tup2 0 2
  else if (topQ rs).at_ (letN s) ≤ k then tup2 0 6 else tup2 (selGo (cnts rs) ((gLens rs []).getD []) rs (letN s) rs.length (rs.length - 1) k 0) 0
theorem selV_form (rs : List Fac) (s : ByteArray) (k : Int) : ∃ b j, selV rs s k = .tuple #[.int .i64 b, .int .i64 j] := by
  unfold selV
  split
  · exact ⟨_, _, rfl⟩
  split
  · exact ⟨_, _, rfl⟩
  split
  · exact ⟨_, _, rfl⟩
  split
  · exact ⟨_, _, rfl⟩
  · exact ⟨_, _, rfl⟩
theorem selV1 {rs : List Fac} {s : ByteArray} {k : Int} (h : (gOk rs).isSome = false) : selV rs s k = tup2 0 1 := by unfold selV; rw [if_pos h]
theorem selV2 {rs : List Fac} {s : ByteArray} {k : Int} (h : (gOk rs).isSome = true) (h2 : letT s = false) : selV rs s k = tup2 0 1 := by unfold selV; rw [if_neg (by rw [h]; decide), if_pos h2]
theorem selV3 {rs : List Fac} {s : ByteArray} {k : Int} (h : (gOk rs).isSome = true) (h2 : letT s = true) (h3 : k < 0) : selV rs s k = tup2 0 2 := by unfold selV; rw [if_neg (by rw [h]; decide), if_neg (by rw [h2]; decide), if_pos h3]
theorem selV4 {rs : List Fac} {s : ByteArray} {k : Int} (h : (gOk rs).isSome = true) (h2 : letT s = true) (h3 : 0 ≤ k) (h4 : (topQ rs).at_ (letN s) ≤ k) : selV rs s k = tup2 0 6 := by
  unfold selV; rw [if_neg (by rw [h]; decide), if_neg (by rw [h2]; decide), if_neg (by omega), if_pos h4]
theorem selV5 {rs : List Fac} {ls : List Int} {s : ByteArray} {k : Int} (hls : gLens rs [] = some ls) (h : (gOk rs).isSome = true) (h2 : letT s = true) (h3 : 0 ≤ k) (h4 : k < (topQ rs).at_ (letN s)) : selV rs s k = tup2 (selGo (cnts rs) ls rs (letN s) rs.length (rs.length - 1) k 0) 0 := by
  unfold selV; rw [if_neg (by rw [h]; decide), if_neg (by rw [h2]; decide), if_neg (by omega), if_neg (by omega), hls]; rfl
theorem ix_u8 (q : Q4) {l : Nat} (h : l < 4) (w : World) : (Instr.index 99 (.agg #[.int .i64 q.a, .int .i64 q.b, .int .i64 q.c, .int .i64 q.d]) (.int .u8 (l : Int))).run Try.prog w = .ok (.int .i64 (q.at_ l)) w := by
  rcases (show l = 0 ∨ l = 1 ∨ l = 2 ∨ l = 3 by omega) with rfl | rfl | rfl | rfl
  all_goals kernel_rfl
theorem topQ_any (A : Option Addr) (n c : Nat) (xs : List Q4) (w : World) (hn : n ≤ 1048577) (h0 : 0 < n) (hr : Rd w w.heap.size A n 4 encQ4 xs) :
    Calls Try.prog 75 #[.slice A n c] w (Ret (Q4.v (xs.getD (n - 1) Q4.nil)) w) := by
  obtain ⟨b, o, rfl, hB, x, gx, hc⟩ := hr.at_ (k := n - 1) (by omega)
  have e1 := Lib.hid (show xs.getD (n - 1) Q4.nil = x by rw [List.getD_eq_getElem?_getD, gx]; rfl)
  have c0 : w.cell? ⟨b, o + (n - 1) * 4, none⟩ = some (.int .i64 x.a) := hc 0 _ rfl
  have c1 : w.cell? ⟨b, o + (n - 1) * 4 + 1, none⟩ = some (.int .i64 x.b) := hc 1 _ rfl
  have c2 : w.cell? ⟨b, o + (n - 1) * 4 + 2, none⟩ = some (.int .i64 x.c) := hc 2 _ rfl
  have c3 : w.cell? ⟨b, o + (n - 1) * 4 + 3, none⟩ = some (.int .i64 x.d) := hc 3 _ rfl
  clear gx hc hr
  go_enter Try.func75, Try.ntmps75
  go_wp2_with fail
  rw [e1.out]
  refine bodyPost_ret (v := Q4.v x) (by simp [results, Try.results75, go_sem]) rfl ⟨rfl, by (repeat first | exact Below.refl _ _ | assumption | refine Below.drew ?_ | refine Below.alloc ?_ (by first | exact Nat.le_refl _ | (simp; done) | omega | (simp; omega)) _ | refine Below.setCell ?_ (by first | exact Nat.le_refl _ | (simp; done) | omega | (simp; omega)) _)⟩
set_option maxHeartbeats 2000000 in
set_option maxRecDepth 100000 in
theorem sel_any (A : Option Addr) (n c : Nat) (rs : List Fac) (A2 : Option Addr) (c2 : Nat) (A3 : Option Addr) (N c3 : Nat) (ls : List Int) (l : Nat) (k0 : Int) (w : World) (hn : n ≤ 1048576) (hr : Rd w w.heap.size A n 3 Fac.cells rs)
    (hls : gLens rs [] = some ls) (h2 : Rd w w.heap.size A2 n 1 intE ls) (hN : (foldAll Q4.nil cntF cntG Q4.nil rs).length = N) (h3 : Rd w w.heap.size A3 N 4 encQ4 (foldAll Q4.nil cntF cntG Q4.nil rs)) (hl4 : l < 4) (hk0 : 0 ≤ k0) (hk1 : k0 ≤ 9223372036854775807)
    (v : Value) (hv : (if (topQ rs).at_ l ≤ k0 then Value.tuple #[.int .i64 0, .bool false] else .tuple #[.int .i64 (selGo (cnts rs) ls rs l rs.length (rs.length - 1) k0 0), .bool true]) = v) :
    Calls Try.prog 64 #[.agg #[.slice A n c, .slice A2 n c2, .slice A3 N c3], .int .u8 (l : Int), .int .i64 k0] w
      (Ret v w) := by
  have Hv := Lib.hid hv; clear hv
  have hl := Lib.hid hr.len
  have HR := Lib.hid hr; clear hr
  have HL := Lib.hid hls; clear hls
  have HM := Lib.hid (foldAll_len Q4.nil cntF cntG Q4.nil rs)
  have HT := Lib.hid (top_topQ rs)
  have HN := Lib.hid hN; clear hN
  have r2 := Lib.hid h2; clear h2
  have r3 := Lib.hid h3; clear h3
  go_enter Try.func64, Try.ntmps64
  go_wp2_with fail
  refine namedC fun w0 H0 => ?_
  have hb0 : Below w.heap.size w w0 := by rw [H0.out]; (repeat first | exact Below.refl _ _ | assumption | refine Below.drew ?_ | refine Below.alloc ?_ (by first | exact Nat.le_refl _ | (simp; done) | omega | (simp; omega)) _ | refine Below.setCell ?_ (by first | exact Nat.le_refl _ | (simp; done) | omega | (simp; omega)) _)
  have BC := Lib.hid (show Blk w0 w.heap.size 63 #[.slice A n c, .slice A2 n c2, .slice A3 N c3] by rw [H0.out]; exact Blk.new _ _ _)
  clear H0
  refine (topQ_any A3 N c3 _ w0 (by have := HM.out; have := hl.out; have := HN.out; omega) (by have := HM.out; have := HN.out; omega) (r3.out.next hb0)).mono ?_
  rintro e1 w1 ⟨rfl, hb1⟩
  rw [← HN.out, HT.out]
  have b1 := hb0.trans (hb1.mono hb0.size)
  have BC1 := Lib.hid (BC.out.next hb1)
  have hix := ix_u8 (topQ rs) hl4
  unfold Q4.v
  by_cases q1 : (topQ rs).at_ l ≤ k0
  · have Hv' := Lib.hid (show Value.tuple #[.int .i64 0, .bool false] = v by rw [← Hv.out, if_pos q1])
    go_wp2_with fail
    go_ret2
    exact ⟨by rw [← Hv'.out]; rfl, b1⟩
  have Hv' := Lib.hid (show Value.tuple #[.int .i64 (selGo (cnts rs) ls rs l rs.length (rs.length - 1) k0 0), .bool true] = v by rw [← Hv.out, if_neg q1])
  clear Hv
  have hpos : 0 < rs.length := by
    rcases Nat.eq_zero_or_pos rs.length with h | h
    · exfalso; apply q1; rw [show topQ rs = Q4.nil by unfold topQ; rw [if_pos h]]
      have : Q4.nil.at_ l = 0 := by
        match l, hl4 with
        | 0, _ => rfl
        | 1, _ => rfl
        | 2, _ => rfl
        | 3, _ => rfl
      omega
    · exact h
  have hfa := foldAll_pos Q4.nil cntF cntG Q4.nil hpos
  have hNn : N = n := by rw [← HN.out, hfa, full_len]; exact hl.out
  have r31 := Lib.hid (show Rd w1 w1.heap.size A3 n 4 encQ4 (cnts rs) by have := (r3.out.next b1); rw [hfa, hNn] at this; exact this)
  have r21 := Lib.hid (r2.out.next b1)
  have R1 := Lib.hid (HR.out.next b1)
  have HW := Lib.hid (wf_of HL.out)
  have hn0 : 0 < n := by rw [← hl.out]; exact hpos
  have cg1 := BC1.out.cell 0
  have lg1 := BC1.out.lt
  rw [hNn] at BC1
  rw [hl.out] at Hv'
  subst hNn
  clear hfa HT HM HN hpos
  go_wp2_with fail
  have hup := upc w1.heap.size w1
  refine wp_region_up w1.heap.size (by kernel_rfl) (by kernel_rfl) ?_
  repeat (go_big_quiet_step (fail))
  refine wpQuiet_nil ?_
  intro w2 hup_w2
  have hb2 := up_of hup_w2
  have b2 := b1.trans (hb2.mono b1.size)
  have BC2 := Lib.hid (BC1.out.next hb2)
  have R2 := Lib.hid (R1.out.next hb2)
  have r22 := Lib.hid (r21.out.next hb2)
  have r32 := Lib.hid (r31.out.next hb2)
  clear hix cg1 lg1 hup
  go_wp2_with fail
  go_loopw [2, 8, 9] (fun k_ n_ r_ w' => ∃ (r f : Nat) (k t : Int), r_ = .int .i64 r ∧ n_ = .int .i64 t ∧ k_ = .int .i64 k ∧ r < N ∧ r < f ∧ Below w2.heap.size w2 w' ∧
      (0 ≤ t ∧ t + ls.getD r 0 ≤ 1000000000000000 ∧ 0 ≤ k ∧ k ≤ 9223372036854775807) ∧ Hid (selGo (cnts rs) ls rs l N (N - 1) k0 0 = selGo (cnts rs) ls rs l f r k t)) (fun _ _ r_ _ => (intOf r_).toNat)
  case atStart =>
    have := lens_bound HL.out (i := N - 1) (by rw [hl.out]; omega)
    exact ⟨N - 1, N, k0, 0, by go_num, rfl, rfl, by omega, by omega, Below.refl _ _, by omega, Lib.hid rfl⟩
  case round =>
    obtain ⟨r, f, k, t, rfl, rfl, rfl, hrn, hrf, hb, ⟨g1, g2, g3, g4⟩, H⟩ := hrel
    obtain ⟨b, o, x, rfl, hB, gx, c0, c1, c2⟩ := (R2.out.next hb).fac hrn
    have BCr := BC2.out.next hb
    obtain ⟨cg0, cg1, cg2⟩ := BCr.three
    have lg := BCr.lt
    rcases HW.out r x gx with ⟨h0, ha0, ha1, hb0', hb1'⟩ | ⟨cc, hcc, hxl, hxa, hxb⟩
    · obtain ⟨p1, o1, rfl, hB1, d1⟩ := (r32.out.next hb).q4 (k := x.a.toNat) (by omega) hl4
      obtain ⟨p2, o2, rfl, hB2, l0⟩ := (r22.out.next hb).i64 (k := x.a.toNat) (by omega)
      have H' := selGo_step (cs := cnts rs) (ls := ls) (l := l) (k := k) (n := t) hrf gx h0
      rw [← H.out] at H'
      have H2 := Lib.hid H'
      have cb := cnt_at HL.out (k := x.a.toNat) (by rw [hl.out]; omega) l
      have lp := lens_pair HL.out gx h0
      have lb1 := lens_bound HL.out (i := x.a.toNat) (by rw [hl.out]; omega)
      have lb2 := lens_bound HL.out (i := x.b.toNat) (by rw [hl.out]; omega)
      generalize ((cnts rs).getD x.a.toNat Q4.nil).at_ l = v at *
      obtain ⟨v0, v1⟩ := cb
      clear H' gx H
      go_wp2_with fail
      refine (isPair_any x true _ (by simpa [isP] using h0)).mono ?_
      rintro e1 w5 ⟨rfl, hb5⟩
      have c0' := (hb5.cell (p := ⟨b, o + r * 3, none⟩) hB).trans c0
      have c1' := (hb5.cell (p := ⟨b, o + r * 3 + 1, none⟩) hB).trans c1
      have c2' := (hb5.cell (p := ⟨b, o + r * 3 + 2, none⟩) hB).trans c2
      have d1' := (hb5.cell (p := ⟨p1, o1 + x.a.toNat * 4 + l, none⟩) hB1).trans d1
      have l0' := (hb5.cell (p := ⟨p2, o2 + x.a.toNat, none⟩) hB2).trans l0
      have cg0' := (hb5.cell (p := ⟨w.heap.size, 0, none⟩) lg).trans cg0
      have cg1' := (hb5.cell (p := ⟨w.heap.size, 1, none⟩) lg).trans cg1
      have cg2' := (hb5.cell (p := ⟨w.heap.size, 2, none⟩) lg).trans cg2
      have sz5 := hb5.size
      have s51 : p1 < w5.heap.size := by omega
      have s52 : p2 < w5.heap.size := by omega
      have s53 : w.heap.size < w5.heap.size := by omega
      have b5 := hb.trans (hb5.mono hb.size)
      have i0 : (0 : Int) ≤ (l : Int) := by omega
      have i1 : (l : Int) < 4 := by omega
      have i2 : x.a < (N : Int) := by omega
      clear c0 c1 c2 d1 l0 cg0 cg1 cg2 h0 BCr
      by_cases q4 : k < v
      · rw [if_pos q4] at H2
        go_wp2_with fail
        go_roundw
        case rel => exact ⟨x.a.toNat, f - 1, k, t, by go_num, rfl, rfl, by omega, by omega, b5.alloc b5.size _, ⟨g1, by omega, g3, g4⟩, H2⟩
        case measure => simp [intOf]; omega
      · rw [if_neg q4] at H2
        go_wp2_with fail
        refine named fun w6 H6 => ?_
        have B6 : Blk w6 w5.heap.size 95 #[.string x.l, .int .i64 x.a, .int .i64 x.b] := by rw [H6.out]; exact Blk.new _ _ _
        have hb6 : Below w5.heap.size w5 w6 := by rw [H6.out]; (repeat first | exact Below.refl _ _ | assumption | refine Below.drew ?_ | refine Below.alloc ?_ (by first | exact Nat.le_refl _ | (simp; done) | omega | (simp; omega)) _ | refine Below.setCell ?_ (by first | exact Nat.le_refl _ | (simp; done) | omega | (simp; omega)) _)
        obtain ⟨t0, t1, t2⟩ := B6.three
        have hz6 := B6.lt
        have l0'' := (hb6.cell (p := ⟨p2, o2 + x.a.toNat, none⟩) (by show p2 < _; omega)).trans l0'
        have cg1'' := (hb6.cell (p := ⟨w.heap.size, 1, none⟩) (by show w.heap.size < _; omega)).trans cg1'
        have sp2 : p2 < w6.heap.size := by omega
        have sp3 : w.heap.size < w6.heap.size := by omega
        have hup := upc w6.heap.size w6
        generalize ls.getD x.a.toNat 0 = y2 at *
        have u1 : IntKind.i64.wrap (t + y2) = t + y2 := IntWalk.i64_in _ (by omega)
        have u2 : IntKind.i64.wrap (k - v) = k - v := IntWalk.i64_in _ (by clear u1; omega)
        refine wp_region_up w6.heap.size (by kernel_rfl) (by kernel_rfl) ?_
        repeat (go_big_quiet_step (fail))
        refine wpQuiet_nil ?_
        intro w7 hup_w7
        have hb7 := up_of hup_w7
        have b7 := b5.trans ((hb6.trans (hb7.mono hb6.size)).mono b5.size)
        clear u1 u2
        go_wp2_with fail
        go_roundw
        case rel => exact ⟨x.b.toNat, f - 1, k - v, t + y2, by go_num, rfl, rfl, by omega, by omega, b7, ⟨by omega, by omega, by omega, by omega⟩, H2⟩
        case measure => simp [intOf]; omega
    · have h0 : x.l.size ≠ 0 := by rw [hxl]; show (1 : Nat) ≠ 0; omega
      have H' := Lib.hid (H.out.trans (selGo_stop (cs := cnts rs) (ls := ls) (l := l) (k := k) (n := t) hrf gx h0))
      clear gx H hxl hxa hxb
      go_wp2_with fail
      refine (isPair_any x false _ (by simpa [isP] using h0)).mono ?_
      rintro e1 w5 ⟨rfl, hb5⟩
      have b5 := hb.trans (hb5.mono hb.size)
      go_wp2_with fail
      go_ret2
      exact ⟨by rw [← Hv'.out, H'.out]; rfl, b2.trans (b5.mono b2.size)⟩
theorem l05Total_any (A : Option Addr) (n c : Nat) (rs : List Fac) (l : Nat) (w : World) (hn : n ≤ 1048576) (hT : Tab w w.heap.size A n (cnts rs)) (hl4 : l < 4) :
    Calls Try.prog 56 #[.slice A n c, .int .i64 (l : Int)] w (Ret (.int .i64 ((topQ rs).at_ l)) w) := by
  have hlen : (cnts rs).length = rs.length := full_len Q4.nil cntF cntG (rs := rs)
  have h1 := hT.1
  by_cases h0 : n = 0
  · have e := Lib.hid (show (topQ rs).at_ l = 0 by
      rw [show topQ rs = Q4.nil by unfold topQ; rw [if_pos (by omega)]]
      rcases (show l = 0 ∨ l = 1 ∨ l = 2 ∨ l = 3 by omega) with rfl | rfl | rfl | rfl <;> rfl)
    have hk0 : ((n : Int) == 0) = true := by simp [h0]
    clear hT h1 hlen
    go_enter Try.func56, Try.ntmps56
    go_wp2_with fail
    go_ret
    exact ⟨ret_int e.out.symm, Below.refl _ _⟩
  · have e := Lib.hid (show (topQ rs).at_ l = ((cnts rs).getD (n - 1) Q4.nil).at_ l by unfold topQ; rw [if_neg (by omega), show rs.length = n by omega])
    have hk0 : ((n : Int) == 0) = false := by simp [h0]
    obtain ⟨b, o, g, rfl, hB, hg, e1, e2⟩ := hT.2 (n - 1) (by omega)
    have e3 := e2 l hl4
    rw [← e.out] at e3
    have hj : ((n : Int) - 1).toNat = n - 1 := by omega
    have u0 : IntKind.i64.wrap ((n : Int) - 1) = (n : Int) - 1 := IntWalk.i64_in _ (by omega)
    have j0 : (0 : Int) ≤ (n : Int) - 1 := by omega
    have j1 : (l : Int) < 4 := by omega
    have j2 : (0 : Int) ≤ (l : Int) := by omega
    clear hT h1 hlen e2
    generalize (topQ rs).at_ l = y at *
    go_enter Try.func56, Try.ntmps56
    go_wp2_with fail
    go_ret
    exact ⟨rfl, Below.refl _ _⟩
set_option maxHeartbeats 2000000 in
set_option maxRecDepth 100000 in
theorem l05Select_any (gb : Nat) (A : Option Addr) (n c : Nat) (rs : List Fac) (A2 : Option Addr) (c2 : Nat) (A3 : Option Addr) (c3 : Nat) (ls : List Int) (l : Nat) (k0 : Int) (w : World) (hg : gb < w.heap.size) (hc : w.cell? ⟨gb, 0, none⟩ = some (.slice A n c)) (hn : n ≤ 1048576) (hn0 : 0 < n) (hr : Rd w w.heap.size A n 3 Fac.cells rs)
    (hls : gLens rs [] = some ls) (h2 : Rd w w.heap.size A2 n 1 intE ls) (hT : Tab w w.heap.size A3 n (cnts rs)) (hl4 : l < 4) (hk0 : 0 ≤ k0) (hk1 : k0 ≤ 9223372036854775807) :
    Calls Try.prog 57 #[.pointer (some ⟨gb, 0, none⟩), .slice A2 n c2, .slice A3 n c3, .int .i64 (l : Int), .int .i64 k0] w (Ret (.int .i64 (selGo (cnts rs) ls rs l rs.length (rs.length - 1) k0 0)) w) := by
  have hl := Lib.hid hr.len
  have R2 := Lib.hid hr; clear hr
  have HL := Lib.hid hls; clear hls
  have r22 := Lib.hid h2; clear h2
  have T2 := Lib.hid hT; clear hT
  have HW := Lib.hid (wf_of HL.out)
  rw [hl.out]
  go_enter Try.func57, Try.ntmps57
  go_wp2_with fail
  go_loopw [4, 11, 12] (fun k_ n_ r_ w' => ∃ (r f : Nat) (k t : Int), r_ = .int .i64 r ∧ n_ = .int .i64 t ∧ k_ = .int .i64 k ∧ r < n ∧ r < f ∧ Below w.heap.size w w' ∧
      (0 ≤ t ∧ t + ls.getD r 0 ≤ 1000000000000000 ∧ 0 ≤ k ∧ k ≤ 9223372036854775807) ∧ Hid (selGo (cnts rs) ls rs l n (n - 1) k0 0 = selGo (cnts rs) ls rs l f r k t)) (fun _ _ r_ _ => (intOf r_).toNat)
  case atStart =>
    have := lens_bound HL.out (i := n - 1) (by rw [hl.out]; omega)
    exact ⟨n - 1, n, k0, 0, by go_num, rfl, rfl, by omega, by omega, Below.refl _ _, by omega, Lib.hid rfl⟩
  case round =>
    obtain ⟨r, f, k, t, rfl, rfl, rfl, hrn, hrf, hb, ⟨g1, g2, g3, g4⟩, H⟩ := hrel
    obtain ⟨b, o, x, rfl, hB, gx, c0, c1, c2⟩ := (R2.out.next hb).fac hrn
    have cg := (hb.cell (p := ⟨gb, 0, none⟩) hg).trans hc
    have lg : gb < wr.heap.size := by have := hb.size; omega
    rcases HW.out r x gx with ⟨h0, ha0, ha1, hb0', hb1'⟩ | ⟨cc, hcc, hxl, hxa, hxb⟩
    · have e5 := size0 h0
      obtain ⟨p1, o1, gq, rfl, hB1, hgq, d1, d2⟩ := (T2.out.next hb).2 x.a.toNat (by omega)
      obtain ⟨p2, o2, rfl, hB2, l0⟩ := (r22.out.next hb).i64 (k := x.a.toNat) (by omega)
      have d3 := d2 l hl4
      have H' := selGo_step (cs := cnts rs) (ls := ls) (l := l) (k := k) (n := t) hrf gx h0
      rw [← H.out] at H'
      have H2 := Lib.hid H'
      have cb := cnt_at HL.out (k := x.a.toNat) (by rw [hl.out]; omega) l
      have lp := lens_pair HL.out gx h0
      have lb1 := lens_bound HL.out (i := x.a.toNat) (by rw [hl.out]; omega)
      have lb2 := lens_bound HL.out (i := x.b.toNat) (by rw [hl.out]; omega)
      generalize ((cnts rs).getD x.a.toNat Q4.nil).at_ l = v at *
      generalize hy2 : ls.getD x.a.toNat 0 = y2 at *
      obtain ⟨v0, v1⟩ := cb
      have i0 : (0 : Int) ≤ (l : Int) := by omega
      have i1 : (l : Int) < 4 := by omega
      have i2 : x.a < (n : Int) := by omega
      have u1 : IntKind.i64.wrap (t + y2) = t + y2 := IntWalk.i64_in _ (by omega)
      have u2 : IntKind.i64.wrap (k - v) = k - v := IntWalk.i64_in _ (by clear u1; omega)
      clear H' gx H h0 d2
      by_cases q4 : k < v
      · rw [if_pos q4] at H2
        clear u1 u2
        go_wp2_with fail
        go_roundw
        case rel => exact ⟨x.a.toNat, f - 1, k, t, by go_num, rfl, rfl, by omega, by omega, hb.alloc hb.size _, ⟨g1, by omega, g3, g4⟩, H2⟩
        case measure => simp [intOf]; omega
      · rw [if_neg q4] at H2
        go_wp2_with fail
        clear u1 u2
        go_roundw
        case rel => exact ⟨x.b.toNat, f - 1, k - v, t + y2, by go_num, rfl, rfl, by omega, by omega, hb.alloc hb.size _, ⟨by omega, by omega, by omega, by omega⟩, H2⟩
        case measure => simp [intOf]; omega
    · have h0 : x.l.size ≠ 0 := by rw [hxl]; show (1 : Nat) ≠ 0; omega
      have H' := Lib.hid (H.out.trans (selGo_stop (cs := cnts rs) (ls := ls) (l := l) (k := k) (n := t) hrf gx h0))
      have e5 := size1 h0
      have e6 := size1' h0
      clear gx H hxl hxa hxb h0
      go_wp2_with fail
      go_ret
      exact ⟨ret_int H'.out.symm, hb⟩
end Go.Proofs.Ytchlipklmdlklaa
