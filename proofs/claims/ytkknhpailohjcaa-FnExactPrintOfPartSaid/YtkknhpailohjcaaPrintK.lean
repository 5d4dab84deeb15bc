/-
  PrintOfPart and PrintOf in the program.
-/
import Derived.Test.YtkknhpailohjcaaPrintJ
import Derived.Test.YtkknhpailohjcaaPrintV
namespace Go.Proofs.Ytkknhpailohjcaa
open Go.RowKit

set_option maxHeartbeats 4000000 in
set_option maxRecDepth 100000 in
theorem implPrintP_any (A : Option Addr) (n c : Nat) (rs : List Fac) (i j b m : Int) (w : World) (hn : n ≤ 1048576) (hr : Rd w w.heap.size A n 3 Fac.cells rs)
    (hok : ∀ f ∈ rs, f.l.size ≤ maxLen) (_hi : -9223372036854775808 ≤ i ∧ i ≤ 9223372036854775807) (_hj : -9223372036854775808 ≤ j ∧ j ≤ 9223372036854775807) (_hb : -9223372036854775808 ≤ b ∧ b ≤ 9223372036854775807) (_hm : -9223372036854775808 ≤ m ∧ m ≤ 9223372036854775807) :
    Calls Try.prog 24 #[.agg #[.slice A n c], .int .i64 i, .int .i64 j, .int .i64 b, .int .i64 m] w (Ret (printpV rs i j b m) w) := by
  have hl := Lib.hid hr.len
  have HR := Lib.hid hr; clear hr
  have HO := Lib.hid hok; clear hok
  go_enter Try.func24, Try.ntmps24
  go_wp2_with fail
  refine namedC fun w0 H0 => ?_
  have b0 : Below w.heap.size w w0 := by rw [H0.out]; (repeat first | exact Below.refl _ _ | assumption | refine Below.drew ?_ | refine Below.alloc ?_ (by first | exact Nat.le_refl _ | (simp; done) | omega | (simp; omega)) _ | refine Below.setCell ?_ (by first | exact Nat.le_refl _ | (simp; done) | omega | (simp; omega)) _)
  have BG := Lib.hid (show Blk w0 w.heap.size 31 #[.slice A n c] by rw [H0.out]; simpa using ((Blk.new w _ _).alloc _).alloc _)
  have BB := Lib.hid (show Blk w0 (w.heap.size + 1) 2 #[.int .i64 b] by rw [H0.out]; simpa using (Blk.new (w.alloc _) _ _).alloc _)
  have BM := Lib.hid (show Blk w0 (w.heap.size + 1 + 1) 2 #[.int .i64 m] by rw [H0.out]; simpa using Blk.new ((w.alloc _).alloc _) _ _)
  clear H0
  refine (lengths_any A n c rs w0 (by have := hl.out; omega) (HR.out.next b0) HO.out).mono ?_
  rintro e w1 ⟨hb1, ⟨ls, A2, c2, hg2, rfl, hown2⟩ | ⟨hg2, A', n', c', rfl⟩⟩
  case inr =>
    have e := Lib.hid (printpV0 (i := i) (j := j) (b := b) (m := m) hg2)
    clear hg2
    go_wp2_with fail
    go_ret2
    exact ⟨by rw [e.out]; rfl, b0.trans (hb1.mono b0.size)⟩
  have b1 := b0.trans (hb1.mono b0.size)
  have Hg := Lib.hid hg2
  have HL := Lib.hid (gOk_lens hg2).1
  have hll := Lib.hid ((gOk_lens hg2).2.2.trans hl.out)
  have hlb := lastI_bP (gOk_lens hg2).1 (gOk_lens hg2).2.2
  have r1 := Lib.hid (Rd.of_own (enc := intE) (fun _ _ => rfl) rfl hown2)
  rw [hll.out] at r1 ⊢
  have BG1 := Lib.hid (BG.out.next hb1)
  have BB1 := Lib.hid (BB.out.next hb1)
  have BM1 := Lib.hid (BM.out.next hb1)
  clear hg2 hown2
  have dm1 := BM1.out.cell 0
  have lm1 := BM1.out.lt
  go_wp2_with fail
  rcases h1 : inB m 1 1000000000 with _ | _
  · have H1 := Lib.hid h1; clear h1
    have e := Lib.hid (printpV1 (i := i) (j := j) (b := b) Hg.out H1.out)
    refine (isMod_any m _ _ H1.out).mono ?_
    rintro e1 w2 ⟨rfl, hb2⟩
    go_wp2_with fail
    go_ret2
    exact ⟨by rw [e.out]; rfl, b1.trans (hb2.mono b1.size)⟩
  have H1 := Lib.hid h1
  have hm' : 1 ≤ m ∧ m ≤ 1000000000 := by simpa [inB] using h1
  obtain ⟨m0, m1⟩ := hm'
  clear h1
  refine (isMod_any m _ _ H1.out).mono ?_
  rintro e1 w2 ⟨rfl, hb2⟩
  have b2 := b1.trans (hb2.mono b1.size)
  have dm2 := (BM1.out.next hb2).cell 0
  have lm2 := (BM1.out.next hb2).lt
  have db2 := (BB1.out.next hb2).cell 0
  have lb2 := (BB1.out.next hb2).lt
  clear dm1 lm1
  have um : IntKind.i64.wrap (m - 1) = m - 1 := IntWalk.i64_in _ (by omega)
  go_wp2_with fail
  rcases h2 : inB b 0 (m - 1) with _ | _
  · have H2 := Lib.hid h2; clear h2
    have e := Lib.hid (printpV2 (i := i) (j := j) Hg.out H1.out H2.out)
    refine (within_any b 0 (m - 1) _ _ H2.out).mono ?_
    rintro e1 w3 ⟨rfl, hb3⟩
    go_wp2_with fail
    go_ret2
    exact ⟨by rw [e.out]; rfl, b2.trans (hb3.mono b2.size)⟩
  have H2 := Lib.hid h2
  have hb' : 0 ≤ b ∧ b ≤ m - 1 := by simpa [inB] using h2
  obtain ⟨q0, q1⟩ := hb'
  clear h2
  refine (within_any b 0 (m - 1) _ _ H2.out).mono ?_
  rintro e1 w3 ⟨rfl, hb3⟩
  have b3 := b2.trans (hb3.mono b2.size)
  clear dm2 lm2 db2 lb2 um
  go_wp2_with fail
  rcases h3 : inB i 0 j with _ | _
  · have H3 := Lib.hid h3; clear h3
    have e := Lib.hid (printpV3 Hg.out H1.out H2.out H3.out)
    refine (within_any i 0 j _ _ H3.out).mono ?_
    rintro e1 w4 ⟨rfl, hb4⟩
    go_wp2_with fail
    go_ret2
    exact ⟨by rw [e.out]; rfl, b3.trans (hb4.mono b3.size)⟩
  have H3 := Lib.hid h3
  have hi' : 0 ≤ i ∧ i ≤ j := by simpa [inB] using h3
  obtain ⟨i0, i1⟩ := hi'
  clear h3
  refine (within_any i 0 j _ _ H3.out).mono ?_
  rintro e1 w4 ⟨rfl, hb4⟩
  have b4 := b3.trans (hb4.mono b3.size)
  have hb24 := hb2.trans ((hb3.trans (hb4.mono hb3.size)).mono hb2.size)
  go_wp2_with fail
  refine (last_any A2 n c2 ls w4 (by omega) (r1.out.next hb24)).mono ?_
  rintro e w5 ⟨rfl, hb5⟩
  have b5 := b4.trans (hb5.mono b4.size)
  have hb25 := hb24.trans (hb5.mono hb24.size)
  by_cases h4 : lastI ls < j
  · have e := Lib.hid (printpV4 Hg.out H1.out H2.out H3.out h4)
    go_wp2_with fail
    go_ret2
    exact ⟨by rw [e.out]; rfl, b5⟩
  have e := Lib.hid (printpV5 Hg.out H1.out H2.out H3.out h4)
  have BG5 := Lib.hid (BG1.out.next hb25)
  have BB5 := Lib.hid (BB1.out.next hb25)
  have BM5 := Lib.hid (BM1.out.next hb25)
  have cg5 := BG5.out.cell 0
  have lg5 := BG5.out.lt
  have lm5 := BM5.out.lt
  have lb5 := BB5.out.lt
  go_wp2_with fail
  refine namedC fun w6 H6 => ?_
  have b56 : Below w5.heap.size w5 w6 := by rw [H6.out]; (repeat first | exact Below.refl _ _ | assumption | refine Below.drew ?_ | refine Below.alloc ?_ (by first | exact Nat.le_refl _ | (simp; done) | omega | (simp; omega)) _ | refine Below.setCell ?_ (by first | exact Nat.le_refl _ | (simp; done) | omega | (simp; omega)) _)
  have b6 := b5.trans (b56.mono b5.size)
  have BF6 := Lib.hid (show Blk w6 w5.heap.size 94 #[.func (.func 63) #[] #[.pointer (some ⟨w.heap.size + 1 + 1, 0, none⟩)]] by rw [H6.out]; exact Blk.new w5 _ _)
  have BG6 := Lib.hid (BG5.out.next b56)
  have BB6 := Lib.hid (BB5.out.next b56)
  have BM6 := Lib.hid (BM5.out.next b56)
  clear H6 cg5 lg5
  refine (foldK_any 65 66 (enterOk Try.func65 (by kernel_rfl) (by kernel_rfl)) (enterOk Try.func66 (by kernel_rfl) (by kernel_rfl)) #[.pointer (some ⟨w.heap.size + 1 + 1, 0, none⟩), .pointer (some ⟨w.heap.size + 1, 0, none⟩)] #[.pointer (some ⟨w5.heap.size, 0, none⟩)]
    (mkF b m) (mkG m) Mk.nil A n c rs w6 hn (HR.out.next b6) (wf_of HL.out) ?_ ?_).mono ?_
  · intro k r hr h0 w' hb'
    rcases wf_of HL.out k r hr with ⟨h0', _⟩ | ⟨cc, hcc, hxl, _⟩
    · exact absurd h0' h0
    · exact prLet_any (letN r.l) b m (w.heap.size + 1 + 1) (w.heap.size + 1) w' (letN_lt (by rw [hxl]; exact hcc)) (BM6.out.next hb') (BB6.out.next hb') m0 m1
  · intro k r hr h0 w' hb'
    have hk : k < rs.length := (List.getElem?_eq_some_iff.1 hr).1
    rcases wf_of HL.out k r hr with ⟨_, ha0, ha1, hb0, hb1⟩ | ⟨cc, _, hxl, _⟩
    · rw [outs_full Mk.nil (mkF b m) (mkG m) (k := k) (i := r.a.toNat) (by omega) (by omega), outs_full Mk.nil (mkF b m) (mkG m) (k := k) (i := r.b.toNat) (by omega) (by omega)]
      have q1' := mk_in HL.out m0 q0 (by omega) (k := r.a.toNat) (by omega)
      have q2' := mk_in HL.out m0 q0 (by omega) (k := r.b.toNat) (by omega)
      have h := prPair_any ((mkAll b m rs).getD r.a.toNat Mk.nil) ((mkAll b m rs).getD r.b.toNat Mk.nil) r m (w.heap.size + 1 + 1) w5.heap.size w' (BM6.out.next hb') (BF6.out.next hb') m0 m1 q1' q2'
      exact h
    · rw [hxl] at h0; exact absurd h0 (show ¬ (1 : Nat) = 0 by omega)
  rintro e1 w7 ⟨A7, c7, rfl, own7, hb7⟩
  have b7 := b6.trans (hb7.mono b6.size)
  have r7 := Lib.hid (Rd.of_own (fun y _ => lenMk y) rfl own7)
  generalize hN : (foldAll Mk.nil (mkF b m) (mkG m) Mk.nil rs).length = N at *
  have HN := Lib.hid hN; clear hN own7
  have BG7 := Lib.hid (BG6.out.next hb7)
  have BM7 := Lib.hid (BM6.out.next hb7)
  have BF7 := Lib.hid (BF6.out.next hb7)
  have cg7 := BG7.out.cell 0
  have lg7 := BG7.out.lt
  have dm7 := BM7.out.cell 0
  have lm7 := BM7.out.lt
  have lf7 := BF7.out.lt
  have re := emod_in (a := 1) m0
  obtain ⟨re0, re1⟩ := re
  have u1 : IntKind.i64.wrap (1 % m) = 1 % m := IntWalk.i64_in _ (by omega)
  have v1 : (1 : Int).tmod m = 1 % m := Int.tmod_eq_emod_of_nonneg (by omega)
  have hm0 : ¬ m = 0 := by omega
  go_wp2_with fail
  refine namedC fun w8 H8 => ?_
  have b78 : Below w7.heap.size w7 w8 := by rw [H8.out]; (repeat first | exact Below.refl _ _ | assumption | refine Below.drew ?_ | refine Below.alloc ?_ (by first | exact Nat.le_refl _ | (simp; done) | omega | (simp; omega)) _ | refine Below.setCell ?_ (by first | exact Nat.le_refl _ | (simp; done) | omega | (simp; omega)) _)
  have BL8 := Lib.hid (show Blk w8 w7.heap.size 95 #[.slice A7 N c7] by rw [H8.out]; exact (Blk.new w7 _ _).alloc _)
  have BO8 := Lib.hid (show Blk w8 (w7.heap.size + 1) 93 #[.int .i64 0, .int .i64 (1 % m)] by rw [H8.out]; simpa using Blk.new (w7.alloc _) _ _)
  have hb57 : Below w5.heap.size w5 w7 := b56.trans (hb7.mono b56.size)
  clear H8 u1 v1
  have hp := pieces_any (fun (s : Mk) (w' : World) => Blk w' (w7.heap.size + 1) 93 #[.int .i64 s.p, .int .i64 s.w] ∧ MkB m s ∧ Blk w' w7.heap.size 95 #[.slice A7 N c7] ∧ Rd w' w7.heap.size A7 N 2 encMk (foldAll Mk.nil (mkF b m) (mkG m) Mk.nil rs) ∧
      Blk w' (w.heap.size + 1 + 1) 2 #[.int .i64 m] ∧ Blk w' w5.heap.size 94 #[.func (.func 63) #[] #[.pointer (some ⟨w.heap.size + 1 + 1, 0, none⟩)]])
    (fun s k => mkG m s ((mkAll b m rs).getD k Mk.nil) default) (fun s wa wb h hb => ⟨h.1.next hb, h.2.1, h.2.2.1.next hb, h.2.2.2.1.next' (by have := h.2.2.1.lt; omega) hb, h.2.2.2.2.1.next hb, h.2.2.2.2.2.next hb⟩)
    w7.heap.size (w7.heap.size + 1) w8.heap.size (by omega) BO8.out.lt A n c rs A2 c2 ls i j 68 (enterOk Try.func68 (by kernel_rfl) (by kernel_rfl)) #[.pointer (some ⟨w5.heap.size, 0, none⟩), .pointer (some ⟨w7.heap.size + 1, 0, none⟩), .pointer (some ⟨w7.heap.size, 0, none⟩)] hn HL.out
    (fun s k wa hk h => by
      have hfa := foldAll_pos Mk.nil (mkF b m) (mkG m) Mk.nil (rs := rs) (by have := hl.out; omega)
      have hNn : N = n := by rw [← HN.out, hfa, full_len]; exact hl.out
      have hr3 := h.2.2.2.1
      rw [hfa] at hr3
      have hx := mk_in HL.out m0 q0 (by omega) (k := k) (by have := hl.out; omega)
      have hc := printStep_any k s m (w.heap.size + 1 + 1) w5.heap.size (w7.heap.size + 1) w7.heap.size w7.heap.size A7 N c7 (mkAll b m rs) wa h.2.2.2.2.1 h.2.2.2.2.2 h.1 h.2.2.1 hr3 (by omega) (by omega) m0 m1 h.2.1 hx
      refine hc.mono ?_
      rintro e w' ⟨rfl, hg, hB⟩
      have ne : ∀ g, g ≠ w7.heap.size + 1 → some g ≠ some (w7.heap.size + 1) := fun g h e => h (by injection e)
      have z1 := b5.size
      have z2 := (b56.trans (hb7.mono b56.size)).size
      refine ⟨rfl, hg, hB, ⟨emod_in m0, emod_in m0⟩, h.2.2.1.grown hg (ne _ (by omega)), h.2.2.2.1.grown (by have := h.2.2.1.lt; omega) hg (fun k hk => by injection hk with hk; omega), h.2.2.2.2.1.grown hg (ne _ (by omega)), h.2.2.2.2.2.grown hg (ne _ (by omega))⟩)
    ⟨0, 1 % m⟩ w8 rfl ((HR.out.next b7).below b78) (((r1.out.next hb25).next hb57).below b78) ⟨BO8.out, ⟨⟨Int.le_refl 0, (by show (0 : Int) < m; omega)⟩, re0, re1⟩, BL8.out, r7.out.below b78, (BM7.out.next b78), (BF7.out.next b78)⟩
  refine hp.mono ?_
  rintro e2 w9 ⟨rfl, hg9, hB1, _⟩
  rw [show List.foldl (fun s k => mkG m s ((mkAll b m rs).getD k Mk.nil) default) ⟨0, 1 % m⟩ (pcsT ls rs i j) = partMk b m rs (pcsT ls rs i j) from rfl] at hB1
  generalize partMk b m rs (pcsT ls rs i j) = y at *
  have d0 := hB1.cell 0
  have z0 := hB1.lt
  have G9 := Lib.hid hg9
  have hz7 := b7.size
  clear hg9 hB1 hp cg7 lg7 dm7 lm7
  go_wp2_with fail
  go_ret2
  exact ⟨by rw [e.out]; rfl, (b7.trans (b78.mono b7.size)).grown G9.out (Nat.le_trans b7.size b78.size) (fun k hk => by injection hk with hk; omega)⟩
end Go.Proofs.Ytkknhpailohjcaa
