/-
  Scattered words, counted: the table of a word, in the program.
-/
import Derived.Test.YtkknhpailohjcaaScatJ
import Derived.Deep.RegionHeld3
namespace Go.Proofs.Ytkknhpailohjcaa
open Go.RowKit

theorem topW_any (A : Option Addr) (n c : Nat) (v : Value) (w : World) (hn : n ≤ 1048577) (h0 : 0 < n) (b : Nat) (hA : A = some ⟨b, 0, none⟩) (hb : b < w.heap.size) (hc : w.cell? ⟨b, n - 1, none⟩ = some v) (hv : ∃ p m d, v = .slice p m d) :
    Calls Try.prog 93 #[.slice A n c] w (Ret v w) := by
  subst hA
  obtain ⟨p, m, d, rfl⟩ := hv
  go_enter Try.func93, Try.ntmps93
  go_wp2_with fail
  go_ret
  exact ⟨rfl, Below.refl _ _⟩
theorem scat_last {N base B0 c : Nat} {A : Option Addr} {w : World} {vs : List Value} {ys : List Tb} {E : Tb} (own : w.ownsRow B0 38 1 (.slice A ys.length c) ys.length (vs.flatMap encV)) (reps : Reps scNil (TabN N base) w vs ys) (h0 : 0 < ys.length) (hE : ys.getD (ys.length - 1) scNil = E) :
    ∃ g v, A = some ⟨g, 0, none⟩ ∧ g < w.heap.size ∧ w.cell? ⟨g, ys.length - 1, none⟩ = some v ∧ (∃ p m d, v = .slice p m d) ∧ TabN N base w v E := by
  obtain ⟨g, cap, hv, hg0, hg1⟩ := own.form h0
  obtain rfl : A = some ⟨g, 0, none⟩ := by injection hv
  have hR := reps.at_ undef (i := ys.length - 1) (by rw [reps.1]; omega)
  rw [hE] at hR
  have cv := own_at (enc := encV) (sz := 1) (fun _ _ => rfl) own reps.1 undef (ys.length - 1) (by omega) 0 Nat.zero_lt_one
  refine ⟨g, _, rfl, hg1, by simpa [encV] using cv, ?_, hR⟩
  obtain ⟨A1, c1, gs, e, _⟩ := hR
  exact ⟨_, _, _, e⟩
set_option maxHeartbeats 4000000 in
set_option maxRecDepth 100000 in
theorem implScatT_any (A : Option Addr) (n c : Nat) (rs : List Fac) (p : ByteArray) (m : Int) (w : World) (hn : n ≤ 1048576) (hr : Rd w w.heap.size A n 3 Fac.cells rs) {ls : List Int} (hls : gLens rs [] = some ls)
    (hp : okW p = true) (hp8 : p.size ≤ 8) (hm : 1 ≤ m) (hm2 : m ≤ 1000000000) :
    Calls Try.prog 52 #[.agg #[.slice A n c], .string p, .int .i64 m] w (RetRep (TabN (p.size + 1) w.heap.size) (scTop rs p m) w) := by
  have hl := Lib.hid hr.len
  have HR := Lib.hid hr; clear hr
  have HL := Lib.hid hls; clear hls
  have HP := Lib.hid hp; clear hp
  go_enter Try.func52, Try.ntmps52
  go_wp2_with fail
  refine named fun w0 H0 => ?_
  have b0 : Below w.heap.size w w0 := by rw [H0.out]; (repeat first | exact Below.refl _ _ | assumption | refine Below.drew ?_ | refine Below.alloc ?_ (by first | exact Nat.le_refl _ | (simp; done) | omega | (simp; omega)) _ | refine Below.setCell ?_ (by first | exact Nat.le_refl _ | (simp; done) | omega | (simp; omega)) _)
  have BG := Lib.hid (show Blk w0 w.heap.size 31 #[.slice A n c] by rw [H0.out]; simpa using (((Blk.new w _ _).alloc _).alloc _).alloc _)
  have BP := Lib.hid (show Blk w0 (w.heap.size + 1) 9 #[.string p] by rw [H0.out]; simpa using ((Blk.new (w.alloc _) _ _).alloc _).alloc _)
  have BM := Lib.hid (show Blk w0 (w.heap.size + 1 + 1) 2 #[.int .i64 m] by rw [H0.out]; simpa using (Blk.new ((w.alloc _).alloc _) _ _).alloc _)
  have BN := Lib.hid (show Blk w0 (w.heap.size + 1 + 1 + 1) 3 #[.int .i64 ((p.size + 1 : Nat) : Int)] by rw [H0.out]; simpa using Blk.new (((w.alloc _).alloc _).alloc _) _ _)
  clear H0
  have c0 := BG.out.cell 0
  have l0 := BG.out.lt
  have HC1 := Lib.hid (fun (l : Int) (hl0 : -1 ≤ l) (hl4 : l < 4) (w' : World) (h : Below w0.heap.size w0 w') =>
    scat1_any l m (w.heap.size + 1 + 1 + 1) (w.heap.size + 1 + 1) (w.heap.size + 1) p w' (BN.out.next h).lt (BM.out.next h).lt (BP.out.next h).lt ((BN.out.next h).cell 0) ((BM.out.next h).cell 0) ((BP.out.next h).cell 0) HP.out hp8 hm hm2 hl0 hl4)
  have HC2 := Lib.hid (fun (w' : World) (v : Value) (h : Below w0.heap.size w0 w') (hv : TabN (p.size + 1) w0.heap.size w' v (scU p m (-1))) =>
    foldW_any scNil (TabN (p.size + 1) w0.heap.size) (tabN_ok _ _ (by decide) (by decide)) 92 95 (enterOk Try.func92 (by kernel_rfl) (by kernel_rfl)) (enterOk Try.func95 (by kernel_rfl) (by kernel_rfl))
      #[.pointer (some ⟨w.heap.size + 1 + 1 + 1, 0, none⟩), .pointer (some ⟨w.heap.size + 1 + 1, 0, none⟩), .pointer (some ⟨w.heap.size + 1, 0, none⟩)] #[.pointer (some ⟨w.heap.size + 1 + 1 + 1, 0, none⟩), .pointer (some ⟨w.heap.size + 1 + 1, 0, none⟩)]
      (fun l => scU p m (l : Int)) (scG m) (scU p m (-1)) v A n c rs w' hn (HR.out.next (b0.trans (h.mono b0.size))) (wf_of HL.out) hv
      (fun k r hr h0 w2 hb2 => by
        have hB := h.trans (hb2.mono h.size)
        rcases wf_of HL.out k r hr with ⟨h0', _⟩ | ⟨cc, hcc, hxl, _⟩
        · exact absurd h0' h0
        · have h4 : letN r.l < 4 := letN_lt (by rw [hxl]; exact hcc)
          have hc := HC1.out ((letN r.l : Nat) : Int) (by omega) (by omega) w2 hB
          refine (by simpa using hc : Calls _ _ _ _ _).mono ?_
          rintro e w3 ⟨v3, rfl, hv3, hb3⟩
          exact ⟨v3, rfl, hv3.mono hB.size, hb3⟩)
      (fun k r hr h0 w2 va vb hb2 ha hb => by
        have hB := h.trans (hb2.mono h.size)
        have hk : k < rs.length := (List.getElem?_eq_some_iff.1 hr).1
        rcases wf_of HL.out k r hr with ⟨_, ha0, ha1, hb0, hb1⟩ | ⟨cc, _, hxl, _⟩
        · rw [outs_full scNil (fun l => scU p m (l : Int)) (scG m) (k := k) (i := r.a.toNat) (by omega) (by omega)] at ha ⊢
          rw [outs_full scNil (fun l => scU p m (l : Int)) (scG m) (k := k) (i := r.b.toNat) (by omega) (by omega)] at hb ⊢
          have hc := scat2_any _ _ va vb r m (p.size + 1) (w.heap.size + 1 + 1 + 1) (w.heap.size + 1 + 1) w0.heap.size w2 (BN.out.next hB).lt (BM.out.next hB).lt ((BN.out.next hB).cell 0) ((BM.out.next hB).cell 0) (by omega) hm hm2 ha hb (sc_in HL.out hm p _ (k := r.a.toNat) (by omega)) (sc_in HL.out hm p _ (k := r.b.toNat) (by omega))
          refine (by simpa using hc : Calls _ _ _ _ _).mono ?_
          rintro e w3 ⟨v3, rfl, hv3, hb3⟩
          exact ⟨v3, rfl, hv3.mono hB.size, hb3⟩
        · rw [hxl] at h0; exact absurd h0 (show ¬ (1 : Nat) = 0 by omega)))
  have et1 := enterOk Try.func92 (by kernel_rfl) (by kernel_rfl)
  unfold EnterOk at et1
  go_region_held3 (fun w' => w'.cell? ⟨w.heap.size, 0, none⟩ = some (.slice A n c))
    (first | exact s0 | go_keep)
    (first
      | (go_at_call 92
         refine (HC1.out (-1) (by omega) (by omega) _ (Below.refl _ _).drew).mono ?_
         rintro e5 w1 ⟨v1, rfl, hv1, hb1⟩
         have b01 : Below w0.heap.size w0 w1 := (Below.refl _ _).drew.trans hb1
         have t1 := Lib.hid hv1
         have s0 := (BG.out.next b01).cell 0)
      | (go_at_call 94
         refine (HC2.out w1 v1 b01 hv1).mono ?_
         rintro e6 w2 ⟨A2, c2, vs, rfl, own2, reps2, hb2⟩
         have b02 : Below w0.heap.size w0 w2 := b01.trans (hb2.mono b01.size)
         have s0 := (BG.out.next b02).cell 0
         have HT := Lib.hid (scat_last (E := scTop rs p m) own2 reps2 (foldAll_len scNil (fun l => scU p m (l : Int)) (scG m) (scU p m (-1)) rs).1 (by rw [scTop_eq]))
         have hL := (foldAll_len scNil (fun l => scU p m (l : Int)) (scG m) (scU p m (-1)) rs)
         clear own2 reps2)
      | (go_at_call 93
         obtain ⟨g, v, eA, hg, hcv, hv, hTN⟩ := HT.out
         refine (topW_any _ _ c2 v w2 (by have := hl.out; omega) hL.1 g eA hg hcv hv).mono ?_
         rintro e7 w3 ⟨rfl, hb3⟩
         have b03 : Below w0.heap.size w0 w3 := b02.trans (hb3.mono b02.size)
         have T3 := Lib.hid (hTN.next hb3)
         have s0 := (BG.out.next b03).cell 0)
      | fail)
  all_goals
    have b3 := Lib.hid (b0.trans (b03.mono b0.size))
    have T9 := Lib.hid (T3.out.mono b0.size)
    clear hv hTN hcv T3 hv1 t1 hb1 hb2 hb3 b01 b02 b03 s0
    go_wp2_with fail
    go_ret
    exact ret_rep T9.out b3.out
end Go.Proofs.Ytkknhpailohjcaa
