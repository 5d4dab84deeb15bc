/-
  PrintOfPart on both sides.
-/
import Derived.Test.YtkknhpailohjcaaPrintT
import Derived.Test.YtkknhpailohjcaaPrintK
import Derived.Test.YtkknhpailohjcaaCutT
namespace Go.Proofs.Ytkknhpailohjcaa
open Go.RowKit

theorem mkG_in {m : Int} (hm : 1 ≤ m) (x y : Mk) (r : Fac) : (0 ≤ (mkG m x y r).p ∧ (mkG m x y r).p < m) ∧ 0 ≤ (mkG m x y r).w ∧ (mkG m x y r).w < m := ⟨emod_in hm, emod_in hm⟩
/-- the first of the pieces behind nothing -/
theorem mkG_one {m : Int} {x : Mk} (h : (0 ≤ x.p ∧ x.p < m) ∧ 0 ≤ x.w ∧ x.w < m) (r : Fac) : mkG m ⟨0, 1 % m⟩ x r = x := by
  obtain ⟨p, w⟩ := x
  simp only at h
  unfold mkG
  simp only
  rw [Int.zero_add, emodL, emodL, Int.one_mul, Int.one_mul, emod_id h.1.1 h.1.2, emod_id h.2.1 h.2.2]
/-- the print of the rules of a part is that of the part -/
theorem cut_print {rs : List Fac} {ls ls' : List Int} (hls : gLens rs [] = some ls) (hll : ls.length = rs.length) {i j b m : Int} (hi : 0 ≤ i) (hij : i < j) (hj : j ≤ lastI ls) (hcl : gLens (cutL rs (covT ls rs i j)) [] = some ls') (hm : 1 ≤ m) (hb0 : 0 ≤ b) (hb : b < m) :
    printN (cutL rs (covT ls rs i j)) b m = (partMk b m rs (pcsT ls rs i j)).p := by
  obtain ⟨hp, h1, h2, h3, h4⟩ := covT_ok hls hll hi hij hj
  rw [covT_pcs hls hll hi hij hj]
  have hcll := gLens_len _ _ _ hcl
  simp only [List.length_nil, Nat.zero_add] at hcll
  rcases hc : covT ls rs i j with _ | ⟨c, t⟩
  · rw [hc] at h4; simp at h4
  rw [hc] at h1 hcl hcll
  have hpos : 0 < (cutL rs (c :: t)).length := by
    rcases t with _ | ⟨k, t⟩
    · show 0 < (rs.take (c + 1)).length; rw [List.length_take]; omega
    · show 0 < (rs ++ _).length; rw [List.length_append]; omega
  rw [printN_eq hcl hcll hm hb0 hb hpos, ← (mk_pr hcl hm hb0 hb _ (by omega)).1]
  have hf := cut_full Mk.nil (mkF b m) (mkG m) (fun _ _ _ _ => rfl) h1
  show ((full Mk.nil (mkF b m) (mkG m) (cutL rs (c :: t))).getD _ Mk.nil).p = (partMk b m rs (c :: t)).p
  rw [hf]
  unfold partMk
  rw [List.foldl_cons, mkG_one (mk_in hls hm hb0 hb (h1 c (by simp)))]
theorem part_none {b m : Int} {rs : List Fac} {ls : List Int} {i : Int} : (partMk b m rs (pcsT ls rs i i)).p = 0 := by
  unfold pcsT
  rw [if_neg (by omega)]
  rfl
set_option maxHeartbeats 2000000 in
set_option maxRecDepth 100000 in
theorem specPrintP_any (A : Option Addr) (n c : Nat) (rs : List Fac) (i j b m : Int) (w : World) (hn : n ≤ 1048576) (hr : Rd w w.heap.size A n 3 Fac.cells rs)
    (hok : ∀ f ∈ rs, f.l.size ≤ maxLen) (_hi : -9223372036854775808 ≤ i ∧ i ≤ 9223372036854775807) (_hj : -9223372036854775808 ≤ j ∧ j ≤ 9223372036854775807) (_hb : -9223372036854775808 ≤ b ∧ b ≤ 9223372036854775807) (_hm : -9223372036854775808 ≤ m ∧ m ≤ 9223372036854775807) (hcap : n ≤ c) :
    Calls Try.prog 23 #[.agg #[.slice A n c], .int .i64 i, .int .i64 j, .int .i64 b, .int .i64 m] w (Ret (printpV rs i j b m) w) := by
  have hb0 : Below w.heap.size w (w.alloc (.cells #[.slice A n c] 31)) := by (repeat first | exact Below.refl _ _ | assumption | refine Below.drew ?_ | refine Below.alloc ?_ (by first | exact Nat.le_refl _ | (simp; done) | omega | (simp; omega)) _ | refine Below.setCell ?_ (by first | exact Nat.le_refl _ | (simp; done) | omega | (simp; omega)) _)
  have hB0 := Lib.hid (Blk.new w 31 #[.slice A n c])
  have hl := Lib.hid hr.len
  have HR := Lib.hid hr; clear hr
  have HO := Lib.hid hok; clear hok
  have HC := Lib.hid (printC_cases rs b m)
  go_enter Try.func23, Try.ntmps23
  go_wp2_with fail
  refine (l05Printed_any w.heap.size A n c rs b m _ hB0.out.lt (hB0.out.cell 0) hn (HR.out.next hb0) HO.out _hb _hm).mono ?_
  rintro e1 w1 ⟨rfl, hb1⟩
  have b1 := hb0.trans (hb1.mono hb0.size)
  have B1 := Lib.hid (hB0.out.next hb1)
  rcases HC.out with ⟨h1, _, h2⟩ | ⟨h1, ⟨ls, hls⟩, h3, h4⟩
  · have e0 : (printC rs b m != 0) = true := by simpa using h1
    have e := Lib.hid (h2 i j)
    generalize printC rs b m = k at *
    clear h1 h2 HC
    go_wp2_with fail
    go_ret2
    exact ⟨by rw [e.out]; rfl, b1⟩
  have hm' : 1 ≤ m ∧ m ≤ 1000000000 := by simpa [inB] using h3
  obtain ⟨m0, m1⟩ := hm'
  have hbb : 0 ≤ b ∧ b ≤ m - 1 := by simpa [inB] using h4
  obtain ⟨q0, q1⟩ := hbb
  have HG := Lib.hid hls
  have HL := Lib.hid (gOk_lens hls).1
  have hll0 := Lib.hid (gOk_lens hls).2.2
  have hlb := lastI_bP (gOk_lens hls).1 (gOk_lens hls).2.2
  have hn4 : n ≤ 400 := by have := (gOk_lens hls).2.1; have := hl.out; omega
  have H3 := Lib.hid h3; have H4 := Lib.hid h4
  rw [h1]
  clear h1 h3 h4 HC hls
  go_wp2_with fail
  rcases h5 : inB i 0 j with _ | _
  · have H5 := Lib.hid h5; clear h5
    have e := Lib.hid (printpV3 HG.out H3.out H4.out H5.out)
    refine (specIn_any i 0 j _ _ H5.out).mono ?_
    rintro e1 w2 ⟨rfl, hb2⟩
    go_wp2_with fail
    go_ret2
    exact ⟨by rw [e.out]; rfl, b1.trans (hb2.mono b1.size)⟩
  have H5 := Lib.hid h5
  have hi' : 0 ≤ i ∧ i ≤ j := by simpa [inB] using h5
  obtain ⟨i0, i1⟩ := hi'
  clear h5
  refine (specIn_any i 0 j _ _ H5.out).mono ?_
  rintro e1 w2 ⟨rfl, hb2⟩
  have b2 := b1.trans (hb2.mono b1.size)
  have B2 := Lib.hid (B1.out.next hb2)
  go_wp2_with fail
  refine (l02Length_any w.heap.size A n c rs w2 B2.out.lt (B2.out.cell 0) (by omega) (HR.out.next b2) HO.out ls HL.out).mono ?_
  rintro e1 w3 ⟨rfl, hb3⟩
  have b3 := b2.trans (hb3.mono b2.size)
  have B3 := Lib.hid (B2.out.next hb3)
  by_cases h6 : lastI ls < j
  · have e := Lib.hid (printpV4 HG.out H3.out H4.out H5.out h6)
    generalize lastI ls = z at *
    go_wp2_with fail
    go_ret2
    exact ⟨by rw [e.out]; rfl, b3⟩
  have e := Lib.hid (printpV5 HG.out H3.out H4.out H5.out h6)
  by_cases h7 : i = j
  · subst h7
    rw [part_none] at e
    generalize lastI ls = z at *
    go_wp2_with fail
    go_ret2
    exact ⟨by rw [e.out]; rfl, b3⟩
  obtain ⟨ls', hcl⟩ := cut_lens HL.out hll0.out i0 (by omega) (by omega : j ≤ lastI ls) (by omega)
  have hcn : (cutL rs (covT ls rs i j)).length ≤ 1200 := by
    obtain ⟨_, k1, k2, _, _⟩ := covT_ok HL.out hll0.out i0 (by omega) (by omega : j ≤ lastI ls)
    have := cut_len _ k1
    have := hl.out
    omega
  rw [← cut_print HL.out hll0.out i0 (by omega) (by omega) hcl m0 q0 (by omega)] at e
  have h7' : (i == j) = false := by simpa using h7
  have Hj := Lib.hid (show j ≤ lastI ls by omega)
  have HCL := Lib.hid hcl
  have hj6 := Lib.hid h6
  have hCO := Lib.hid (show ∀ f ∈ cutL rs (covT ls rs i j), f.l.size ≤ maxLen from fun f hf => by
    obtain ⟨k, hk, he⟩ := List.getElem_of_mem hf
    rcases wf_of hcl k f (by rw [List.getElem?_eq_getElem hk, he]) with ⟨h0, _⟩ | ⟨cc, _, h0, _⟩
    · rw [h0]; unfold maxLen; omega
    · rw [h0]; show (1 : Nat) ≤ _; unfold maxLen; omega)
  have hcut := Lib.hid (l02Cut_any w.heap.size A n c rs i j ls w3 B3.out.lt (B3.out.cell 0) (HR.out.next b3) HO.out hcap HG.out i0 (by omega) Hj.out)
  generalize cutL rs (covT ls rs i j) = cr at *
  generalize hN : cr.length = N at *
  generalize lastI ls = z at *
  clear hcl
  go_wp2_with fail
  refine hcut.out.mono ?_
  rintro e1 w4 ⟨A4, c4, rfl, own4, hb4⟩
  rw [hN] at own4 ⊢
  have b4 := b3.trans (hb4.mono b3.size)
  have r4 := Lib.hid (Rd.of_own (fun x _ => fac_len x) hN own4)
  clear own4
  go_wp2_with fail
  refine namedC fun w5 H5' => ?_
  have hb5 : Below w4.heap.size w4 w5 := by rw [H5'.out]; (repeat first | exact Below.refl _ _ | assumption | refine Below.drew ?_ | refine Below.alloc ?_ (by first | exact Nat.le_refl _ | (simp; done) | omega | (simp; omega)) _ | refine Below.setCell ?_ (by first | exact Nat.le_refl _ | (simp; done) | omega | (simp; omega)) _)
  have P5 := Lib.hid (show Blk w5 w4.heap.size 31 #[.slice A4 N c4] by rw [H5'.out]; exact Blk.new _ _ _)
  have b5 := b4.trans (hb5.mono b4.size)
  have r5 := Lib.hid (r4.out.next hb5)
  clear H5'
  refine (l02Sizes_any w4.heap.size A4 N c4 cr w5 P5.out.lt (P5.out.cell 0) (by omega) r5.out hCO.out).mono ?_
  rintro e1 w6 ⟨hb6, ⟨ls2, A6, c6, hg6, rfl, hown6⟩ | ⟨hg6, _⟩⟩
  case inr => exact absurd (hg6.symm.trans HCL.out) (by simp)
  obtain rfl : ls2 = ls' := Option.some.inj (hg6.symm.trans HCL.out)
  have hl2 : ls2.length = N := by have := gLens_len _ _ _ HCL.out; simpa [hN] using this
  have r6 := Lib.hid (Rd.of_own (enc := intE) (fun _ _ => rfl) hl2 (by rw [hl2] at hown6; exact hown6))
  rw [hl2]
  have b6 := b5.trans (hb6.mono b5.size)
  have P6 := Lib.hid (P5.out.next hb6)
  have g6 := Lib.hid (r5.out.next hb6)
  clear hown6 hg6
  go_wp2_with fail
  refine (l05Prints_any w4.heap.size A4 N c4 cr A6 c6 ls2 b m w6 P6.out.lt (P6.out.cell 0) (by omega) g6.out HCL.out r6.out m0 m1 q0 (by omega)).mono ?_
  rintro e1 w7 ⟨A7, c7, rfl, own7, hb7⟩
  have hN' : (prAll b m ls2 cr).length = N := (full_len 0 (prF m) (prG b m ls2) (rs := cr)).trans hN
  have r7 := Lib.hid (Rd.of_own (enc := intE) (fun _ _ => rfl) hN' (by rw [hN'] at own7; exact own7))
  rw [hN']
  have b7 := b6.trans (hb7.mono b6.size)
  have P7 := Lib.hid (P6.out.next hb7)
  have g7 := Lib.hid (g6.out.next hb7)
  have s7 := Lib.hid (r6.out.next hb7)
  clear own7
  go_wp2_with fail
  refine (l02Length_any w4.heap.size A4 N c4 cr w7 P7.out.lt (P7.out.cell 0) (by omega) g7.out hCO.out ls2 HCL.out).mono ?_
  rintro e1 w8 ⟨rfl, hb8⟩
  have b8 := b7.trans (hb8.mono b7.size)
  have P8 := Lib.hid (P7.out.next hb8)
  go_wp2_with fail
  refine (l05Begin_any w4.heap.size A4 N c4 cr A6 c6 ls2 A7 c7 b m w8 P8.out.lt (P8.out.cell 0) (by omega) (g7.out.next hb8) HCL.out (s7.out.next hb8) (r7.out.next hb8) m0 m1 q0 (by omega)).mono ?_
  rintro e1 w9 ⟨rfl, hb9⟩
  generalize printN cr b m = y at *
  go_wp2_with fail
  go_ret2
  exact ⟨by rw [e.out]; rfl, b8.trans (hb9.mono b8.size)⟩
end Go.Proofs.Ytkknhpailohjcaa
