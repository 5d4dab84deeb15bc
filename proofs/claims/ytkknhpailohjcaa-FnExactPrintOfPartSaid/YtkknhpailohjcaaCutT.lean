/-
  A part of a word in the reference: its rules.
-/
import Derived.Test.YtkknhpailohjcaaCutS
import Derived.Test.YtkknhpailohjcaaRuleP
namespace Go.Proofs.Ytkknhpailohjcaa
open Go.RowKit

theorem Rd.take {α : Type} {w : World} {B n sz : Nat} {A : Option Addr} {enc : α → List Value} {xs : List α} (h : Rd w B A n sz enc xs) {k : Nat} (hk : k ≤ n) : Rd w B A k sz enc (xs.take k) := by
  refine ⟨by rw [List.length_take, h.1]; omega, fun hp => ?_⟩
  obtain ⟨b, o, hA, hb, hc⟩ := h.2 (by omega)
  refine ⟨b, o, hA, hb, fun i x hx j v hv => hc i x ?_ j v hv⟩
  rw [List.getElem?_take] at hx
  split at hx
  · exact hx
  · cases hx
theorem own_cap {w : World} {base e sz n c : Nat} {A : Option Addr} {xs : List Value} (h : w.ownsRow base e sz (.slice A n c) n xs) : n ≤ c := by
  rcases h.2 with ⟨_, h0⟩ | ⟨g, cap, cur, hv, _, _, hnc, _⟩
  · omega
  · injection hv with _ _ hc; omega
theorem own_more {w : World} {b b' e sz n : Nat} {v : Value} {xs : List Value} (h : w.ownsRow b e sz v n xs) (hb : b' ≤ b) : w.ownsRow b' e sz v n xs := by
  refine ⟨h.1, ?_⟩
  rcases h.2 with hn | ⟨g, cap, cur, hv, hg, r⟩
  · exact .inl hn
  · exact .inr ⟨g, cap, cur, hv, Nat.le_trans hb hg, r⟩
set_option maxHeartbeats 2000000 in
set_option maxRecDepth 100000 in
theorem l02Cut_any (gb : Nat) (A : Option Addr) (n c : Nat) (rs : List Fac) (i j : Int) (ls : List Int) (w : World) (hg : gb < w.heap.size) (hc : w.cell? ⟨gb, 0, none⟩ = some (.slice A n c)) (hr : Rd w w.heap.size A n 3 Fac.cells rs) (hok : ∀ f ∈ rs, f.l.size ≤ maxLen) (hcap : n ≤ c)
    (hgo : gOk rs = some ls) (hi : 0 ≤ i) (hij : i < j) (hj : j ≤ lastI ls) :
    Calls Try.prog 56 #[.pointer (some ⟨gb, 0, none⟩), .int .i64 i, .int .i64 j] w (RetG w (cutL rs (covT ls rs i j))) := by
  have hl := Lib.hid hr.len
  have HR := Lib.hid hr
  have HO := Lib.hid hok
  have HG := Lib.hid hgo
  have HL := Lib.hid (gOk_lens hgo).1
  have hll := Lib.hid (gOk_lens hgo).2.2
  have hn4 : n ≤ 400 := by have := (gOk_lens hgo).2.1; have := hl.out; omega
  obtain ⟨k0, k1, k2, k3, k4⟩ := covT_ok HL.out hll.out hi hij hj
  have K1 := Lib.hid k1
  have hn0 : 0 < n := by have := hl.out; omega
  have hlt := lens_bound HL.out (i := n - 1) (by have := hl.out; omega)
  have hjl : j ≤ ls.getD (n - 1) 0 := by unfold lastI at hj; rw [hll.out, hl.out] at hj; exact hj
  have hcv := Lib.hid (show covI ls rs n (n - 1) i j = (covT ls rs i j).map (fun (k : Nat) => (k : Int)) by unfold covI covT; rw [hl.out])
  have hcl : (cov ls rs n (n - 1) i j).length ≤ 4000000 := by have : (cov ls rs n (n - 1) i j).length = (covT ls rs i j).length := by { unfold covT; rw [hl.out] }; have := hl.out; omega
  have hij' : (i == j) = false := by simp; omega
  have u0 : IntKind.i64.wrap ((n : Int) - 1) = (n : Int) - 1 := IntWalk.i64_in _ (by omega)
  have HCV := Lib.hid (fun (W : World) (A2 : Option Addr) (c2 base : Nat) (h1 : gb < base) (h2 : base ≤ W.heap.size) (h3 : W.cell? ⟨gb, 0, none⟩ = some (.slice A n c)) (h4 : Rd W base A n 3 Fac.cells rs) (h5 : Rd W base A2 n 1 intE ls) (E : Option Addr) (h6 : W.ownsRow base 2 1 (.slice E 0 0) 0 (([] : List Int).flatMap intE)) =>
    l02Cover_any gb A n c rs A2 c2 ls base h1 (by omega) HL.out (n - 1) n i j E 0 0 [] W (by omega) (by omega) h2 h3 h4 h5 rfl h6 (by omega) hi (by omega) hjl (by omega))
  rw [show ((n - 1 : Nat) : Int) = (n : Int) - 1 by omega, hcv.out, List.nil_append] at HCV
  have hb0 : Below w.heap.size w (w.alloc (.cells #[.slice none 0 0] 31)) := by (repeat first | exact Below.refl _ _ | assumption | refine Below.drew ?_ | refine Below.alloc ?_ (by first | exact Nat.le_refl _ | (simp; done) | omega | (simp; omega)) _ | refine Below.setCell ?_ (by first | exact Nat.le_refl _ | (simp; done) | omega | (simp; omega)) _)
  have BX := Lib.hid (Blk.new w 31 #[.slice none 0 0])
  have HC := Lib.hid hc
  generalize covT ls rs i j = cv at *
  clear hr hok hgo hj hjl hlt hcl hc
  go_enter Try.func56, Try.ntmps56
  go_wp2_with fail
  refine (l02Lengths_any gb A n c rs _ (by simp; omega) ((hb0.cell (p := ⟨gb, 0, none⟩) hg).trans HC.out) (by omega) (HR.out.next hb0) HO.out).mono ?_
  rintro e1 w2 ⟨hb2, ⟨ls', A2, c2, hg2, rfl, hown2⟩ | ⟨hg2, _⟩⟩
  case inr => exact absurd (hg2.symm.trans HG.out) (by simp)
  obtain rfl : ls' = ls := Option.some.inj (hg2.symm.trans HG.out)
  have b2 := hb0.trans (hb2.mono hb0.size)
  have B2 := Lib.hid (BX.out.next hb2)
  have r2 := Lib.hid (Rd.of_own (enc := intE) (fun _ _ => rfl) rfl hown2)
  have z2 := b2.size
  have c22 := (b2.cell (p := ⟨gb, 0, none⟩) hg).trans HC.out
  have lg2 : gb < w2.heap.size := by omega
  have hs := hll.out.trans hl.out
  rw [hs] at r2 ⊢
  clear hown2 hg2 hb0 hs
  go_wp2_with fail
  have b23 : Below w2.heap.size w2 (w2.alloc (.cells #[] 2)) := by (repeat first | exact Below.refl _ _ | assumption | refine Below.drew ?_ | refine Below.alloc ?_ (by first | exact Nat.le_refl _ | (simp; done) | omega | (simp; omega)) _ | refine Below.setCell ?_ (by first | exact Nat.le_refl _ | (simp; done) | omega | (simp; omega)) _)
  refine (HCV.out _ A2 c2 w2.heap.size lg2 (by simp) ((b23.cell (p := ⟨gb, 0, none⟩) lg2).trans c22) ((HR.out.next b2).below b23) (r2.out.below b23) _ (by simpa using World.ownsRow_made (base := w2.heap.size) (e := 2) (size := 1) w2 #[] 0 (Nat.le_refl _) (by unfold maxLen; omega) rfl)).mono ?_
  rintro e1 w4 ⟨A4, c4, rfl, own4, hb4⟩
  have b4 := b23.trans (hb4.mono (Nat.le_refl _))
  have z4 := b4.size
  have bb4 := b2.trans (b4.mono z2)
  have O4 := Lib.hid own4
  have r4 := Lib.hid (Rd.of_own (enc := intE) (fun _ _ => rfl) rfl own4)
  have B4 := Lib.hid (B2.out.next b4)
  have hlen : (cv.map fun (k : Nat) => (k : Int)).length = cv.length := by simp
  rw [hlen] at r4 ⊢
  have c24 := (bb4.cell (p := ⟨gb, 0, none⟩) hg).trans HC.out
  have lg4 : gb < w4.heap.size := by omega
  have HR4 := Lib.hid (HR.out.next bb4)
  clear own4 hb4 b23 HCV b2 hb2 c22 b4 r2 O4 lg2 hlen u0
  have q0 : ∀ k, k < cv.length → 0 ≤ cv.getD k 0 ∧ cv.getD k 0 < n := fun k hk => by
    have := K1.out (cv.getD k 0) (by rw [List.getD_eq_getElem?_getD, List.getElem?_eq_getElem hk]; simp)
    have := hl.out
    omega
  have gq : ∀ k, k < cv.length → (cv.map fun (k : Nat) => (k : Int)).getD k 0 = ((cv.getD k 0 : Nat) : Int) := fun k hk => by
    rw [List.getD_eq_getElem?_getD, List.getElem?_map, List.getD_eq_getElem?_getD, List.getElem?_eq_getElem hk]; simp
  obtain ⟨p4, o4, rfl, hB4, c04⟩ := r4.out.i64 (k := 0) k4
  rw [gq 0 k4, Nat.add_zero] at c04
  obtain ⟨q01, q02⟩ := q0 0 k4
  by_cases h1 : cv.length = 1
  · obtain ⟨x, rfl⟩ := List.length_eq_one_iff.1 h1
    simp only [List.getD_cons_zero] at c04 q02
    have e1 := Lib.hid (show cutL rs [x] = rs.take (x + 1) from rfl)
    have ht := Lib.hid (HR4.out.take (k := x + 1) (by omega))
    obtain ⟨b, o, rfl, hb, hnews⟩ := ht.out.news (fun y _ => fac_len y) (by omega)
    have HN := Lib.hid hnews
    have u1 : IntKind.i64.wrap ((x : Int) + 1) = (x : Int) + 1 := IntWalk.i64_in _ (by omega)
    have j0 : (0 : Int) ≤ (x : Int) + 1 := by omega
    have hym : (rs.take (x + 1)).length = x + 1 := by rw [List.length_take, hl.out]; omega
    have j1 : (x : Int) + 1 ≤ (c : Int) := by omega
    have bda := Lib.hid (((Below.refl w4.heap.size w4).alloc (Nat.le_refl _) (.cells #[] 75)).drew)
    have own0' : (w4.alloc (.cells #[] 75)).ownsRow w4.heap.size 75 3 (.slice (some ⟨w4.heap.size, 0, none⟩) 0 0) 0 (([] : List Fac).flatMap Fac.cells) := by
      simpa using World.ownsRow_made (base := w4.heap.size) (e := 75) (size := 3) w4 #[] 0 (by simp) (by unfold maxLen; omega) rfl
    have own0 := Lib.hid own0'.drew
    clear own0'
    have bx4 := B4.out
    have nx : w.heap.size < w4.heap.size := bx4.lt
    clear hnews h1 r4 ht bx4
    go_wp2_with fail
    go_region_law
      (refine step_app (by rfl) _ _ _ (by rfl) w4.heap.size 75 3 32 elem_rule Fac.cells (some ⟨w4.heap.size, 0, none⟩) 0 0 [] (by rfl) own0.out ⟨b, o, none⟩ (x + 1) c (rs.take (x + 1)) (by rfl) hym (by omega) (fun q u hq => (bda.out.cell (p := (⟨b, o, none⟩ : Addr).add q) (by simpa [Addr.add_lit] using hb)).trans (HN.out q u hq)) (fun y _ => fac_len y) (fun y _ => one_fac y) (by omega) (by omega) (by unfold maxLen; omega) (by simp) ?_
       rw [Nat.zero_add, List.nil_append]
       intro A9 c9 w9 own9 hg9
       have O9 := Lib.hid own9
       have B9 := Lib.hid (bda.out.grown hg9 (by simp) (fun k hk => (own0.out.lt k hk).1))
       have X9 := B4.out.next B9.out
       have X9' := Lib.hid X9
       have f9 := X9.frozen
       have d9 := X9.cell 0
       have l9 := X9.lt
       clear own9 X9)
    all_goals
      have X10 := X9'.out.set_ 0 (.slice A9 (x + 1) c9)
      have x10 : (w9.setCell ⟨w.heap.size, 0, none⟩ (.slice A9 (x + 1) c9)).cell? ⟨w.heap.size, 0, none⟩ = some (.slice A9 (x + 1) c9) := by rw [X10.cell 0]; rfl
      go_wp2_with fail
      refine bodyPost_ret (v := .agg #[.slice A9 (x + 1) c9]) (by simp [results, Try.results56, go_sem, x10]) rfl ⟨A9, c9, by rw [e1.out, hym], ?_, ?_⟩
      · rw [e1.out, hym]
        exact own_more (own_kept' O9.out X9'.out (by decide) _) (Nat.le_of_lt nx)
      · exact (bb4.trans (B9.out.mono (Nat.le_of_lt nx))).setCell (Nat.le_refl _) _
  · have c2' : 2 ≤ cv.length := by omega
    have hne : (((cv.length : Nat) : Int) == 1) = false := by simp; omega
    obtain ⟨x0, rest, hcv0⟩ : ∃ x0 rest, cv = x0 :: rest := by
      cases cv with
      | nil => simp at c2'
      | cons x r => exact ⟨x, r, rfl⟩
    obtain ⟨x1, rest1, hcv1⟩ : ∃ x1 r, rest = x1 :: r := by
      cases rest with
      | nil => subst hcv0; simp at c2'
      | cons x r => exact ⟨x, r, rfl⟩
    have e0 : cv.getD 0 0 = x0 := by rw [hcv0]; rfl
    have he := Lib.hid (show cutL rs cv = rs ++ chain n x0 (cv.drop 1) by rw [hcv0, hcv1]; show rs ++ chain rs.length x0 (x1 :: rest1) = _; rw [hl.out]; rfl)
    have HQ := Lib.hid q0
    have GQ := Lib.hid gq
    rw [e0] at c04 q02
    generalize cutL rs cv = target at *
    generalize hL : cv.length = L at *
    have hL4 : L ≤ 800 := by have := hl.out; omega
    clear h1 hcv0 hcv1 e0 q0 gq q01
    have bx4 := B4.out
    have nx : w.heap.size < w4.heap.size := bx4.lt
    clear bx4
    go_wp2_with fail
    refine (l02Own_any gb A n c rs w4 lg4 c24 (by omega) hn0 HR4.out).mono ?_
    rintro e2 w5 ⟨A5, c5, rfl, own5, hb5⟩
    rw [hl.out] at own5 ⊢
    have O5 := Lib.hid own5
    have z5 := hb5.size
    have R5 := Lib.hid (r4.out.below hb5)
    have B5 := Lib.hid (B4.out.below hb5 nx)
    have c05 := (hb5.cell (p := ⟨p4, o4, none⟩) hB4).trans c04
    have l05 : p4 < w5.heap.size := by omega
    clear own5 c04 c24
    go_wp2_with fail
    go_loopw [11, 12] (fun l_ k_ w' => ∃ (k last m : Nat) (A' : Option Addr) (c' : Nat) (cur : List Fac), k_ = .int .i64 k ∧ l_ = .int .i64 last ∧ 1 ≤ k ∧ k ≤ L ∧ Hid (m + 1 = n + k) ∧ Hid (cur.length = m) ∧
        Hid (Blk w' w5.heap.size 31 #[.slice A' m c']) ∧ Hid (w'.ownsRow w4.heap.size 75 3 (.slice A' m c') m (cur.flatMap Fac.cells)) ∧ Hid (Below w4.heap.size w5 w') ∧ Hid (cur ++ chain m last (cv.drop k) = target)) (fun _ k_ _ => L - (intOf k_).toNat)
    case atStart =>
      refine ⟨1, x0, n, A5, c5, rs, rfl, rfl, by omega, by omega, Lib.hid (by omega), hl, Lib.hid ?_, Lib.hid ?_, Lib.hid ?_, Lib.hid he.out.symm⟩
      · exact Blk.new w5 _ _
      · exact O5.out.alloc _
      · exact (Below.refl _ _).alloc z5 _
    case round =>
      obtain ⟨k, last, m, A', c', cur, rfl, rfl, hk1, hkL, hm, hcl, hB, hown, hb, H⟩ := hrel
      have l5 := hB.out.lt
      have fB := hB.out.frozen
      have dB := hB.out.cell 0
      have dB' : wr.cell? ⟨w5.heap.size, 0, none⟩ = some (.slice A' m c') := dB
      clear dB
      by_cases hlt : k < L
      · obtain ⟨p9, o9, hA9, hB9, c9⟩ := (R5.out.below hb.out).i64 (k := k) (by omega)
        obtain ⟨rfl, rfl⟩ : p4 = p9 ∧ o4 = o9 := by injection hA9 with hA9; injection hA9 with h1 h2; exact ⟨h1, h2⟩
        rw [GQ.out k (by omega)] at c9
        have q1 := HQ.out k (by omega)
        have Hd := Lib.hid (show cv.drop k = cv.getD k 0 :: cv.drop (k + 1) by
          rw [List.drop_eq_getElem_cons (by omega)]; congr 1; rw [List.getD_eq_getElem?_getD, List.getElem?_eq_getElem (by omega)]; rfl)
        generalize cv.getD k 0 = x at *
        have i0 : (0 : Int) ≤ (k : Int) := by omega
        have i1 : (k : Int) < (L : Int) := by omega
        have hm2 : (m + 1) * 32 ≤ 140737488355328 := by have := hm.out; omega
        have hm3 : m + 1 ≤ maxLen := by have := hm.out; unfold maxLen; omega
        have BDA := Lib.hid ((hb.out.alloc (Nat.le_trans z5 hb.out.size) (.cells #[.string .empty, .int .i64 (last : Int), .int .i64 (x : Int)] 75)).drew)
        have OW := Lib.hid ((hown.out.alloc (.cells #[.string .empty, .int .i64 (last : Int), .int .i64 (x : Int)] 75)).drew)
        have zz : w4.heap.size ≤ (wr.alloc (.cells #[.string .empty, .int .i64 (last : Int), .int .i64 (x : Int)] 75)).drew.heap.size := Nat.le_trans z5 BDA.out.size
        go_wp2_with fail
        go_region_law
          (refine step_push (by rfl) _ _ _ (by rfl) w4.heap.size 75 3 32 elem_rule Fac.cells A' m c' cur (by rfl) OW.out _ ⟨⟨#[]⟩, (last : Int), (x : Int)⟩ #[.string .empty, .int .i64 (last : Int), .int .i64 (x : Int)] 75 (0, 0) (by rfl) (heap_alloc_new _ _) rfl rfl (one_fac _) (by omega) hm2 hm3 zz ?_
           intro A9 c9 w9 own9 hg9 old9
           have O9 := Lib.hid own9
           have B9 := Lib.hid (BDA.out.grown hg9 zz (fun k hk => (OW.out.lt k hk).1))
           have X9 := ((hB.out.alloc _).drew).grown hg9 (own_blk_ne OW.out ((hB.out.alloc _).drew) (by decide))
           have X9' := Lib.hid X9
           have f9 := X9.frozen
           have d9 := X9.cell 0
           have l9 := X9.lt
           clear own9 X9 old9 hg9)
        all_goals
          have X10 := X9'.out.set_ 0 (.slice A9 (m + 1) c9)
          have B10 := Lib.hid (B9.out.setCell (p := ⟨w5.heap.size, 0, none⟩) z5 (.slice A9 (m + 1) c9))
          have O10 := Lib.hid (own_kept' (i := 0) O9.out X9'.out (by decide) (.slice A9 (m + 1) c9))
          have d10 : (w9.setCell ⟨w5.heap.size, 0, none⟩ (.slice A9 (m + 1) c9)).cell? ⟨w5.heap.size, 0, none⟩ = some (.slice A9 (m + 1) c9) := by rw [X10.cell 0]; rfl
          have l10 := X10.lt
          have X10' := Lib.hid (show Blk (w9.setCell ⟨w5.heap.size, 0, none⟩ (.slice A9 (m + 1) c9)) w5.heap.size 31 #[.slice A9 (m + 1) c9] from X10)
          have um : IntKind.i64.wrap (((m + 1 : Nat) : Int) - 1) = (m : Int) := by rw [IntWalk.i64_in _ (by omega)]; omega
          clear X10 f9 d9 l9 fB dB' l5
          generalize w9.setCell ⟨w5.heap.size, 0, none⟩ (.slice A9 (m + 1) c9) = w10 at *
          go_wp2_with fail
          go_roundw
          case rel =>
            refine ⟨k + 1, m, m + 1, A9, c9, cur ++ [⟨⟨#[]⟩, (last : Int), (x : Int)⟩], by go_num, by go_num, by omega, by omega, Lib.hid (by have := hm.out; omega), Lib.hid (by rw [List.length_append, hcl.out]; rfl), X10', O10, B10, Lib.hid ?_⟩
            rw [← H.out, Hd.out, List.append_assoc]; rfl
          case measure => simp [intOf]; omega
      · have hkL' : k = L := by omega
        have ef := Lib.hid (show cur = target by rw [← H.out, List.drop_of_length_le (by omega)]; simp [chain])
        have Bw := (B5.out.below hb.out (by omega : w.heap.size < w4.heap.size))
        have fw := Bw.frozen
        have dw := Bw.cell 0
        have lw := Bw.lt
        have Bw' := Lib.hid Bw
        have Y := Lib.hid (Bw.set_ 0 (.slice A' m c'))
        have y10 : (wr.setCell ⟨w.heap.size, 0, none⟩ (.slice A' m c')).cell? ⟨w.heap.size, 0, none⟩ = some (.slice A' m c') := by rw [Y.out.cell 0]; rfl
        clear Bw
        go_wp2_with fail
        refine bodyPost_ret (v := .agg #[.slice A' m c']) (by simp [results, Try.results56, go_sem, y10]) rfl ⟨A', c', by rw [← ef.out, hcl.out], ?_, ?_⟩
        · rw [← ef.out, hcl.out]
          exact own_more (own_kept' hown.out Bw'.out (by decide) _) (Nat.le_of_lt nx)
        · exact (bb4.trans ((hb5.trans (hb.out.mono (Nat.le_refl _))).mono (Nat.le_of_lt nx))).setCell (Nat.le_refl _) _
end Go.Proofs.Ytkknhpailohjcaa
