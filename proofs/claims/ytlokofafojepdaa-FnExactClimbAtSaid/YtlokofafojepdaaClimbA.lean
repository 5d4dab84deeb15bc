/-
  ClimbAt in the program and in the reference.
-/
import Derived.Test.YtlokofafojepdaaClimbM
import Derived.Deep.RegionHeld3
namespace Go.Proofs.Ytlokofafojepdaa
open Go.RowKit

theorem Rd.clt {w : World} {B n : Nat} {A : Option Addr} {xs : List Cl} {k : Nat} (h : Rd w B A n 3 encCl xs) (hk : k < n) :
    ∃ b o, A = some ⟨b, o, none⟩ ∧ b < B ∧ w.cell? ⟨b, o + k * 3, none⟩ = some (.int .i64 (xs.getD k Cl.nil).t) := by
  obtain ⟨b, o, hA, hb, x, hx, hc⟩ := h.at_ hk
  refine ⟨b, o, hA, hb, ?_⟩
  rw [show xs.getD k Cl.nil = x by rw [List.getD_eq_getElem?_getD, hx]; rfl]
  exact hc 0 _ rfl
set_option maxHeartbeats 1000000 in
set_option maxRecDepth 100000 in
theorem climbAt1_any (k : Nat) (o : Int) (ob lb : Nat) (A3 : Option Addr) (n3 c3 : Nat) (cs : List Cl) (w : World) (hob : Blk w ob 2 #[.int .i64 o]) (hlb : Blk w lb 66 #[.slice A3 n3 c3])
    (hC : Rd w w.heap.size A3 n3 3 encCl cs) (hk : k < n3) :
    Calls Try.prog 50 #[.int .i64 (k : Int), .pointer (some ⟨ob, 0, none⟩), .pointer (some ⟨lb, 0, none⟩)] w (fun e w' => e = .returned (.tuple #[]) ∧ w.grownBy w' (some ob) ∧ Blk w' ob 2 #[.int .i64 (wrap64 (o + (cs.getD k Cl.nil).t))]) := by
  obtain ⟨p3, o3, rfl, hB3, e3⟩ := hC.clt (k := k) (by omega)
  have d0 := hob.cell 0
  have z0 := hob.lt
  have f0 := hob.frozen 0
  have d1 := hlb.cell 0
  have z1 := hlb.lt
  generalize (cs.getD k Cl.nil).t = v at *
  have i2 : (0 : Int) ≤ (k : Int) := by omega
  have i3 : (k : Int) < n3 := by omega
  have HB := Lib.hid hob
  clear hob hlb hC
  go_enter Try.func50, Try.ntmps50
  go_wp2_with fail
  go_region
  generalize hW : (w.setCell ⟨ob, 0, none⟩ (.int .i64 (wrap64 (o + v)))).drew = w8
  have H8 := Lib.hid hW.symm; clear hW
  go_wp2_with fail
  go_end0
  refine ⟨rfl, ?_, ?_⟩
  · rw [H8.out]; exact gb_trans (gb_set w ob 0 _) (gb_below (Below.refl _ _).drew)
  · rw [H8.out]; exact HB.out.set_ 0 _
set_option maxHeartbeats 2000000 in
set_option maxRecDepth 100000 in
theorem implClimbA_any (A : Option Addr) (n c : Nat) (rs : List Fac) (D : Option Addr) (m d : Nat) (zs : List Int) (z : Int) (w : World) (hn : n ≤ 1048576) (hr : Rd w w.heap.size A n 3 Fac.cells rs)
    (hok : ∀ f ∈ rs, f.l.size ≤ maxLen) (hm : m ≤ 1048576) (hd : Rd w w.heap.size D m 1 intE zs) (_hz : -9223372036854775808 ≤ z ∧ z ≤ 9223372036854775807) :
    Calls Try.prog 15 #[.agg #[.slice A n c], .slice D m d, .int .i64 z] w (Ret (claV rs zs z) w) := by
  have hb0 : Below w.heap.size w (w.alloc (.cells #[.slice A n c] 31)) := by (repeat first | exact Below.refl _ _ | assumption | refine Below.drew ?_ | refine Below.alloc ?_ (by first | exact Nat.le_refl _ | (simp; done) | omega | (simp; omega)) _ | refine Below.setCell ?_ (by first | exact Nat.le_refl _ | (simp; done) | omega | (simp; omega)) _)
  have hB0 := Lib.hid (Blk.new w 31 #[.slice A n c])
  have hl := Lib.hid hr.len
  have HR := Lib.hid hr; clear hr
  have HD := Lib.hid hd; clear hd
  have HO := Lib.hid hok; clear hok
  have HC := Lib.hid (wsC_cases rs zs)
  go_enter Try.func15, Try.ntmps15
  go_wp2_with fail
  refine (climbCode_any A n c rs D m d zs _ hn (HR.out.next hb0) HO.out hm (HD.out.next hb0)).mono ?_
  rintro e1 w1 ⟨rfl, hb1⟩
  have b1 := hb0.trans (hb1.mono hb0.size)
  have B1 := Lib.hid (hB0.out.next hb1)
  have cg1 := B1.out.cell 0
  have lg1 := B1.out.lt
  go_wp2_with fail
  refine (lengths_any A n c rs w1 (by have := hl.out; omega) (HR.out.next b1) HO.out).mono ?_
  rintro e w2 ⟨hb2, hpost⟩
  have b2 := b1.trans (hb2.mono b1.size)
  have B2 := Lib.hid (B1.out.next hb2)
  clear cg1 lg1
  rcases HC.out with ⟨h1, h2⟩ | ⟨h1, h2, h3, h4⟩
  · have e0 : (wsC rs zs != 0) = true := by simpa using h1
    have e0' : (wsC rs zs == 0) = false := by simpa using h1
    have e := Lib.hid (claV1 (m := z) h1)
    generalize wsC rs zs = k at *
    clear h1 h2 HC
    rcases hpost with ⟨ls', A2, c2, hg2, rfl, hown2⟩ | ⟨hg2, A', n', c', rfl⟩
    all_goals
      clear hg2
      try clear hown2
      go_wp2_with fail
      go_ret2
      exact ⟨by rw [e.out]; rfl, b2⟩
  have H1 := Lib.hid h1
  obtain ⟨ls, hls⟩ := Option.isSome_iff_exists.1 h2
  have Hk := Lib.hid hls
  have HL := Lib.hid (gOk_lens hls).1
  have hll := Lib.hid ((gOk_lens hls).2.2.trans hl.out)
  have hlb := lastI_bound (gOk_lens hls).1 (gOk_lens hls).2.2
  have hn4 : n ≤ 400 := by have := (gOk_lens hls).2.1; have := hl.out; omega
  have HWs := Lib.hid h3
  rw [h1]
  obtain rfl : m = 4 := by have := h3.1; have := HD.out.len; omega
  clear h1 h2 h3 h4 HC hls
  rcases hpost with ⟨ls', A2, c2, hg2, rfl, hown2⟩ | ⟨hg2, _⟩
  case inr => exact absurd (hg2.symm.trans Hk.out) (by simp)
  obtain rfl : ls' = ls := Option.some.inj (hg2.symm.trans Hk.out)
  have r2 := Lib.hid (Rd.of_own (enc := intE) (fun _ _ => rfl) rfl hown2)
  rw [hll.out] at r2 ⊢
  clear hown2 hg2
  go_wp2_with fail
  refine (last_any A2 n c2 ls' w2 (by omega) r2.out).mono ?_
  rintro e w3 ⟨rfl, hb3⟩
  have b3 := b2.trans (hb3.mono b2.size)
  rcases h3 : inB z 0 (lastI ls') with _ | _
  · have e := Lib.hid (claV2 HL.out H1.out h3)
    have H3 := Lib.hid h3; clear h3
    go_wp2_with fail
    refine (within_any z 0 (lastI ls') false _ H3.out).mono ?_
    rintro e1 w5 ⟨rfl, hb5⟩
    go_wp2_with fail
    go_ret2
    exact ⟨by rw [e.out]; rfl, b3.trans (hb5.mono b3.size)⟩
  have e := Lib.hid (claV3 HL.out H1.out h3)
  have hm' : 0 ≤ z ∧ z ≤ lastI ls' := by simpa [inB] using h3
  obtain ⟨n1, n2⟩ := hm'
  have H3 := Lib.hid h3; clear h3
  go_wp2_with fail
  refine (within_any z 0 (lastI ls') true _ H3.out).mono ?_
  rintro e1 w5 ⟨rfl, hb5⟩
  have hb25 := hb3.trans (hb5.mono hb3.size)
  have b5 := b3.trans (hb5.mono b3.size)
  have B5 := Lib.hid (B2.out.next hb25)
  have cg5 := B5.out.cell 0
  have lg5 := B5.out.lt
  go_wp2_with fail
  refine (climbs_any A n c rs D d zs ls' w5 hn (HR.out.next b5) HL.out HWs.out (HD.out.next b5)).mono ?_
  rintro e1 w6 ⟨A6, c6, rfl, own6, hb6⟩
  have b6 := b5.trans (hb6.mono b5.size)
  have hb26 := hb25.trans (hb6.mono hb25.size)
  have r6 := Lib.hid (Rd.of_own (fun y _ => lenCl y) rfl own6)
  generalize hN : (foldAll Cl.nil (climF zs) climG Cl.nil rs).length = N at *
  have HN := Lib.hid hN; clear hN own6
  have cg6 := (B5.out.next hb6).cell 0
  have lg6 := (B5.out.next hb6).lt
  clear cg5 lg5
  go_wp2_with fail
  refine namedC fun w7 H7 => ?_
  have hb7 : Below w6.heap.size w6 w7 := by rw [H7.out]; (repeat first | exact Below.refl _ _ | assumption | refine Below.drew ?_ | refine Below.alloc ?_ (by first | exact Nat.le_refl _ | (simp; done) | omega | (simp; omega)) _ | refine Below.setCell ?_ (by first | exact Nat.le_refl _ | (simp; done) | omega | (simp; omega)) _)
  have BL := Lib.hid (show Blk w7 w6.heap.size 66 #[.slice A6 N c6] by rw [H7.out]; exact (Blk.new w6 _ _).alloc _)
  have BO := Lib.hid (show Blk w7 (w6.heap.size + 1) 2 #[.int .i64 0] by rw [H7.out]; simpa using Blk.new (w6.alloc _) _ _)
  clear H7
  have hfw := Lib.hid (fold_pcsT HL.out n1 (by omega) (clV_bound HL.out HWs.out) (by omega))
  have hp := pieces_any (fun (s : Int) (w' : World) => Blk w' (w6.heap.size + 1) 2 #[.int .i64 s] ∧ Blk w' w6.heap.size 66 #[.slice A6 N c6] ∧ Rd w' w6.heap.size A6 N 3 encCl (foldAll Cl.nil (climF zs) climG Cl.nil rs))
    (fun s k => wrap64 (s + clV zs rs k)) (fun s wa wb h hb => ⟨h.1.next hb, h.2.1.next hb, h.2.2.next' (by have := h.2.1.lt; omega) hb⟩)
    w6.heap.size (w6.heap.size + 1) w7.heap.size (by omega) BO.out.lt A n c rs A2 c2 ls' 0 z 50 (enterOk Try.func50 (by kernel_rfl) (by kernel_rfl)) #[.pointer (some ⟨w6.heap.size + 1, 0, none⟩), .pointer (some ⟨w6.heap.size, 0, none⟩)] hn HL.out
    (fun s k wa hk h => by
      have hfa := foldAll_pos Cl.nil (climF zs) climG Cl.nil (rs := rs) (by have := hl.out; omega)
      have hNn : N = n := by rw [← HN.out, hfa, full_len]; exact hl.out
      have hr3 := h.2.2.more (B' := wa.heap.size) (by have := h.2.1.lt; omega)
      rw [hfa] at hr3
      have hc := climbAt1_any k s (w6.heap.size + 1) w6.heap.size A6 N c6 (clim zs rs) wa h.1 h.2.1 hr3 (by omega)
      refine (by simpa using hc : Calls _ _ _ _ _).mono ?_
      rintro e w' ⟨rfl, hg, hB⟩
      refine ⟨rfl, hg, hB, h.2.1.grown hg (by intro e; injection e with e; omega), h.2.2.grown (by have := h.2.1.lt; omega) hg (fun k hk => by injection hk with hk; omega)⟩)
    0 w7 rfl ((HR.out.next b6).below hb7) ((r2.out.next hb26).below hb7) ⟨BO.out, BL.out, r6.out.below hb7⟩
  refine hp.mono ?_
  rintro e w8 ⟨rfl, hg8, hB1, hB2, hB3⟩
  rw [hfw.out] at hB1
  generalize rkT (clV zs rs) ls' rs z = y at *
  have d0 := hB1.cell 0
  have z0 := hB1.lt
  have G8 := Lib.hid hg8
  clear hg8 hB1 hB2 hB3 hp
  go_wp2_with fail
  go_ret2
  have b7 := b6.trans (hb7.mono b6.size)
  have hz6 := b6.size
  exact ⟨by rw [e.out]; rfl, b7.grown G8.out b7.size (fun k hk => by injection hk with hk; omega)⟩
def clS (ws : List Int) (ls : List Int) (rs : List Fac) (z : Int) : Nat → Int
  | 0 => 0
  | l + 1 => clS ws ls rs z l + ws.getD l 0 * rkT (rkV rs l) ls rs z
theorem clS_four (ws : List Int) {ls : List Int} {rs : List Fac} (hls : gLens rs [] = some ls) (z : Int) : rkT (clV ws rs) ls rs z = clS ws ls rs z 4 := by
  rw [rkT_clim ws hls z]
  simp only [clS, Int.zero_add]
theorem rkT_b' {rs : List Fac} {ls : List Int} (hls : gLens rs [] = some ls) (l : Nat) {m : Int} (hm : 0 ≤ m) : -m ≤ rkT (rkV rs l) ls rs m ∧ rkT (rkV rs l) ls rs m ≤ m := by
  unfold rkT
  by_cases h0 : rs.length = 0
  · rw [if_pos h0]; omega
  rw [if_neg h0]
  have a := rk_bound hls (c := 1) (by omega) (rkV_bound hls l) rs.length (rs.length - 1) m (by omega) hm
  omega
theorem mul9 {a b m : Int} (h0 : -9 ≤ a) (h1 : a ≤ 9) (h2 : -m ≤ b) (h3 : b ≤ m) : -(9 * m) ≤ a * b ∧ a * b ≤ 9 * m := by
  rcases (show a = -9 ∨ a = -8 ∨ a = -7 ∨ a = -6 ∨ a = -5 ∨ a = -4 ∨ a = -3 ∨ a = -2 ∨ a = -1 ∨ a = 0 ∨ a = 1 ∨ a = 2 ∨ a = 3 ∨ a = 4 ∨ a = 5 ∨ a = 6 ∨ a = 7 ∨ a = 8 ∨ a = 9 by omega) with rfl | rfl | rfl | rfl | rfl | rfl | rfl | rfl | rfl | rfl | rfl | rfl | rfl | rfl | rfl | rfl | rfl | rfl | rfl <;> omega
theorem clS_b {ws : List Int} {ls : List Int} {rs : List Fac} (hls : gLens rs [] = some ls) (hws : WsOk ws) {z : Int} (hz : 0 ≤ z) : ∀ l, l ≤ 4 → -(9 * z) * l ≤ clS ws ls rs z l ∧ clS ws ls rs z l ≤ 9 * z * l
  | 0, _ => by simp [clS]
  | l + 1, h => by
    have i1 := clS_b hls hws hz l (by omega)
    have i2 := hws.at_ l (by omega)
    have i3 := rkT_b' hls l hz
    have i4 := mul9 i2.1 i2.2 i3.1 i3.2
    rw [show ((l + 1 : Nat) : Int) = (l : Int) + 1 by omega, Int.mul_add, Int.mul_add]
    unfold clS
    omega
set_option maxHeartbeats 4000000 in
set_option maxRecDepth 100000 in
theorem specClimbA_any (A : Option Addr) (n c : Nat) (rs : List Fac) (D : Option Addr) (m d : Nat) (zs : List Int) (z : Int) (w : World) (hn : n ≤ 1048576) (hr : Rd w w.heap.size A n 3 Fac.cells rs)
    (hok : ∀ f ∈ rs, f.l.size ≤ maxLen) (hm : m ≤ 1048576) (hd : Rd w w.heap.size D m 1 intE zs) (_hz : -9223372036854775808 ≤ z ∧ z ≤ 9223372036854775807) :
    Calls Try.prog 12 #[.agg #[.slice A n c], .slice D m d, .int .i64 z] w (Ret (claV rs zs z) w) := by
  have hb0 : Below w.heap.size w (w.alloc (.cells #[.slice A n c] 31)) := by (repeat first | exact Below.refl _ _ | assumption | refine Below.drew ?_ | refine Below.alloc ?_ (by first | exact Nat.le_refl _ | (simp; done) | omega | (simp; omega)) _ | refine Below.setCell ?_ (by first | exact Nat.le_refl _ | (simp; done) | omega | (simp; omega)) _)
  have hB0 := Lib.hid (Blk.new w 31 #[.slice A n c])
  have hl := Lib.hid hr.len
  have HR := Lib.hid hr; clear hr
  have HD := Lib.hid hd; clear hd
  have HO := Lib.hid hok; clear hok
  have HC := Lib.hid (wsC_cases rs zs)
  go_enter Try.func12, Try.ntmps12
  go_wp2_with fail
  refine (l05Weights_any w.heap.size A n c rs D m d zs _ hB0.out.lt (hB0.out.cell 0) hn (HR.out.next hb0) HO.out hm (HD.out.next hb0)).mono ?_
  rintro e1 w1 ⟨rfl, hb1⟩
  have b1 := hb0.trans (hb1.mono hb0.size)
  have B1 := Lib.hid (hB0.out.next hb1)
  rcases HC.out with ⟨h1, h2⟩ | ⟨h1, h2, h3, h4⟩
  · have e0 : (wsC rs zs != 0) = true := by simpa using h1
    have e := Lib.hid (claV1 (m := z) h1)
    generalize wsC rs zs = k at *
    clear h1 h2 HC
    go_wp2_with fail
    go_ret2
    exact ⟨by rw [e.out]; rfl, b1⟩
  have H1 := Lib.hid h1
  obtain ⟨ls, hls⟩ := Option.isSome_iff_exists.1 h2
  have Hk := Lib.hid hls
  have HL := Lib.hid (gOk_lens hls).1
  have hll0 := Lib.hid (gOk_lens hls).2.2
  have hll := Lib.hid ((gOk_lens hls).2.2.trans hl.out)
  have hlb := lastI_bound (gOk_lens hls).1 (gOk_lens hls).2.2
  have hn4 : n ≤ 400 := by have := (gOk_lens hls).2.1; have := hl.out; omega
  have HWs := Lib.hid h3
  rw [h1]
  obtain rfl : m = 4 := by have := h3.1; have := HD.out.len; omega
  clear h1 h2 h3 h4 HC hls
  go_wp2_with fail
  refine (l02Length_any w.heap.size A n c rs w1 B1.out.lt (B1.out.cell 0) (by omega) (HR.out.next b1) HO.out ls HL.out).mono ?_
  rintro e1 w4 ⟨rfl, hb4⟩
  have b4 := b1.trans (hb4.mono b1.size)
  have B4 := Lib.hid (B1.out.next hb4)
  rcases h3 : inB z 0 (lastI ls) with _ | _
  · have e := Lib.hid (claV2 HL.out H1.out h3)
    have H3 := Lib.hid h3; clear h3
    go_wp2_with fail
    refine (specIn_any z 0 (lastI ls) false _ H3.out).mono ?_
    rintro e1 w5 ⟨rfl, hb5⟩
    go_wp2_with fail
    go_ret2
    exact ⟨by rw [e.out]; rfl, b4.trans (hb5.mono b4.size)⟩
  have e := Lib.hid ((claV3 HL.out H1.out h3).trans (congrArg (fun t => tup2 t 0) (clS_four zs HL.out z)))
  have hm' : 0 ≤ z ∧ z ≤ lastI ls := by simpa [inB] using h3
  obtain ⟨n1, n2⟩ := hm'
  have H3 := Lib.hid h3; clear h3
  go_wp2_with fail
  refine (specIn_any z 0 (lastI ls) true _ H3.out).mono ?_
  rintro e1 w5 ⟨rfl, hb5⟩
  have b5 := b4.trans (hb5.mono b4.size)
  have B5 := Lib.hid (B4.out.next hb5)
  have cg5 := B5.out.cell 0
  have lg5 := B5.out.lt
  go_wp2_with fail
  refine (l02Lengths_any w.heap.size A n c rs w5 lg5 cg5 (by omega) (HR.out.next b5) HO.out).mono ?_
  rintro e1 w8 ⟨hb8, ⟨ls', A2, c2, hg2, rfl, hown2⟩ | ⟨hg2, _⟩⟩
  case inr => exact absurd (hg2.symm.trans Hk.out) (by simp)
  obtain rfl : ls' = ls := Option.some.inj (hg2.symm.trans Hk.out)
  have r8 := Lib.hid (Rd.of_own (enc := intE) (fun _ _ => rfl) rfl hown2)
  rw [hll.out] at r8 ⊢
  have b8 := b5.trans (hb8.mono b5.size)
  have B8 := Lib.hid (B5.out.next hb8)
  have cg8 := B8.out.cell 0
  have lg8 := B8.out.lt
  clear cg5 lg5 hown2 hg2
  go_wp2_with fail
  refine (l05Counts_any w.heap.size A n c rs ls' w8 lg8 cg8 hn (HR.out.next b8) HL.out).mono ?_
  rintro e1 w9 ⟨A5, c5, gs, rfl, own5, rows5, hb9⟩
  have hcl := Lib.hid ((full_len Q4.nil cntF cntG (rs := rs)).trans hl.out)
  rw [hcl.out] at own5 ⊢
  have T9 := Lib.hid (Tab.of hcl.out own5 rows5)
  have b9 := b8.trans (hb9.mono b8.size)
  have B9 := Lib.hid (B8.out.next hb9)
  have r9 := Lib.hid (r8.out.next hb9)
  have R9 := Lib.hid (HR.out.next b9)
  have D9 := Lib.hid (HD.out.next b9)
  clear cg8 lg8 own5 rows5
  go_wp2_with fail
  go_loopw [12, 13] (fun s_ l_ w' => ∃ (l : Nat), l_ = .int .i64 l ∧ s_ = .int .i64 (clS zs ls' rs z l) ∧ l ≤ 4 ∧ Below w9.heap.size w9 w') (fun _ l_ _ => 4 - (intOf l_).toNat)
  case atStart => exact ⟨0, rfl, rfl, by omega, Below.refl _ _⟩
  case round =>
    obtain ⟨l, rfl, rfl, hl4, hb⟩ := hrel
    by_cases hlt : l < 4
    · have hd : Below wr.heap.size wr wr.drew := (Below.refl _ _).drew
      have hbd := hb.trans (hd.mono hb.size)
      have hrnk := Lib.hid (l05Rank_any w.heap.size A n c rs A2 c2 A5 c5 ls' l z wr.drew (B9.out.next hbd).lt ((B9.out.next hbd).cell 0) hn (R9.out.next hbd) HL.out hll0.out (r9.out.next hbd) (T9.out.next hbd) hlt n1 n2)
      obtain ⟨p, o, rfl, hp, c0⟩ := (D9.out.next hb).i64 (k := l) (by omega)
      have eS := Lib.hid (show clS zs ls' rs z (l + 1) = clS zs ls' rs z l + zs.getD l 0 * rkT (rkV rs l) ls' rs z from rfl)
      have i1 := clS_b HL.out HWs.out n1 l (by omega)
      have i2 := HWs.out.at_ l hlt
      have i3 := rkT_b' HL.out l n1
      have i4 := mul9 i2.1 i2.2 i3.1 i3.2
      have i5 := clS_b HL.out HWs.out n1 (l + 1) (by omega)
      rw [eS.out] at i5
      have j1 : -(9 * z) * (l : Int) = -(9 * z * l) := Int.neg_mul _ _
      have j2 : -(9 * z) * ((l + 1 : Nat) : Int) = -(9 * z * ((l + 1 : Nat) : Int)) := Int.neg_mul _ _
      have j3 : 9 * z * ((l + 1 : Nat) : Int) ≤ 36000000000000000 := by
        rcases (show l = 0 ∨ l = 1 ∨ l = 2 ∨ l = 3 by omega) with rfl | rfl | rfl | rfl <;> omega
      rw [j2] at i5
      generalize 9 * z * ((l + 1 : Nat) : Int) = bnd at *
      generalize zs.getD l 0 = u at *
      generalize clS zs ls' rs z l = acc at *
      generalize rkT (rkV rs l) ls' rs z = y at *
      have u1 : IntKind.i64.wrap (u * y) = u * y := IntWalk.i64_in _ (by clear i1 j1; omega)
      have u2 : IntKind.i64.wrap (acc + u * y) = acc + u * y := IntWalk.i64_in _ (by clear i1 j1 u1; omega)
      have k1 : (0 : Int) ≤ (l : Int) := by omega
      have k2 : (l : Int) < 4 := by omega
      clear i1 i2 i3 i4 i5 j1 j2 j3
      go_wp2_with fail
      go_region_held3 (fun w' => w'.cell? ⟨p, o + l, none⟩ = some (.int .i64 u))
        (first | exact s0 | exact c0 | go_keep)
        (first
          | (go_at_call 42
             refine hrnk.out.mono ?_
             rintro e2 w10 ⟨rfl, hb10⟩
             have b10 : Below wr.heap.size wr w10 := hd.trans (hb10.mono hd.size)
             have s0 : w10.cell? ⟨p, o + l, none⟩ = some (.int .i64 u) := (b10.cell (p := ⟨p, o + l, none⟩) hp).trans c0)
          | fail)
      all_goals
        clear u1 u2
        go_wp2_with fail
        go_roundw
        case rel => exact ⟨l + 1, by go_num, by rw [eS.out], by omega, hb.trans (b10.mono hb.size)⟩
        case measure => simp [intOf]; omega
    · obtain rfl : l = 4 := by omega
      go_wp2_with fail
      go_ret2
      exact ⟨by rw [e.out]; rfl, b9.trans (hb.mono b9.size)⟩
end Go.Proofs.Ytlokofafojepdaa
