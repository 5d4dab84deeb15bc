/-
  A part of a word in the reference: its cover.
-/
import Derived.Test.YtkknhpailohjcaaCutM
import Derived.Test.YtkknhpailohjcaaLett
import Derived.Test.YtkknhpailohjcaaFrame
import Derived.Deep.RegionHeld3
namespace Go.Proofs.Ytkknhpailohjcaa
open Go.RowKit

def covI (ls : List Int) (rs : List Fac) (f r : Nat) (i j : Int) : List Int := (cov ls rs f r i j).map fun (k : Nat) => (k : Int)
theorem covI_len (ls : List Int) (rs : List Fac) (f r : Nat) (i j : Int) : (covI ls rs f r i j).length = (cov ls rs f r i j).length := by unfold covI; simp
/-- a list, behind one that grows -/
def CovPost (base : Nat) (w : World) (ys : List Int) (e : Ending) (w' : World) : Prop :=
  ∃ A c, e = .returned (.slice A ys.length c) ∧ w'.ownsRow base 2 1 (.slice A ys.length c) ys.length (ys.flatMap intE) ∧ Below base w w'
set_option maxHeartbeats 4000000 in
set_option maxRecDepth 100000 in
theorem l02Cover_any (gb : Nat) (A : Option Addr) (n c : Nat) (rs : List Fac) (D : Option Addr) (d : Nat) (ls : List Int) (base : Nat) (hgb : gb < base) (hn : n ≤ 1048576) (hls : gLens rs [] = some ls) :
    ∀ (r f : Nat) (i j : Int) (E : Option Addr) (k e : Nat) (xs : List Int) (w : World), r < f → r < n → base ≤ w.heap.size → w.cell? ⟨gb, 0, none⟩ = some (.slice A n c) → Rd w base A n 3 Fac.cells rs → Rd w base D n 1 intE ls →
      xs.length = k → w.ownsRow base 2 1 (.slice E k e) k (xs.flatMap intE) → k + (cov ls rs f r i j).length ≤ 4000000 → 0 ≤ i → i ≤ 1000000000000000 → j ≤ ls.getD r 0 → -1000000000000000 ≤ j →
      Calls Try.prog 96 #[.pointer (some ⟨gb, 0, none⟩), .slice D n d, .int .i64 (r : Int), .int .i64 i, .int .i64 j, .slice E k e] w (CovPost base w (xs ++ covI ls rs f r i j)) := by
  intro r
  induction r using Nat.strongRecOn with
  | ind r ih =>
    intro f i j E k e xs w hrf hr hbs hc hA hD hxk hown hk hi0 hi1 hj1 hj0
    have IH := Lib.hid ih; clear ih
    have HL := Lib.hid hls
    have hl := Lib.hid hA.len
    have HA := Lib.hid hA
    have HD := Lib.hid hD
    have HO := Lib.hid hown
    have HX := Lib.hid hxk
    have hgw : gb < w.heap.size := by omega
    obtain ⟨p2, o2, rfl, hB2, c2'⟩ := hD.i64 (k := r) hr
    obtain ⟨b, o, x, rfl, hB1, gx, c00, c01, c02⟩ := hA.fac hr
    have lb := lens_bound HL.out (i := r) (by rw [hl.out]; exact hr)
    have Gx := Lib.hid gx
    clear gx hown hA hD
    obtain ⟨lb0, lb1⟩ := lb
    have i1 : (0 : Int) ≤ (r : Int) := by omega
    have i2 : (r : Int) < n := by omega
    by_cases h1 : j ≤ i
    · have e1 := Lib.hid (show xs ++ covI ls rs f r i j = xs by unfold covI; rw [cov_no h1]; simp)
      clear lb0 lb1 hj1 hk
      go_enter Try.func96, Try.ntmps96
      go_wp2_with fail
      go_ret
      refine ⟨E, e, ret_slice (by rw [e1.out, HX.out]), ?_, Below.refl _ _⟩
      rw [e1.out, HX.out]; exact HO.out
    by_cases h2 : i = 0 ∧ j = ls.getD r 0
    · have e0 : cov ls rs f r i j = [r] := cov_one hrf h1 h2
      have e1 := Lib.hid (show xs ++ covI ls rs f r i j = xs ++ [(r : Int)] by unfold covI; rw [e0]; rfl)
      rw [e0] at hk
      simp only [List.length_singleton] at hk
      clear e0
      obtain ⟨h20, h21⟩ := h2
      generalize ls.getD r 0 = lr at *
      subst h20 h21
      go_enter Try.func96, Try.ntmps96
      go_wp2_with
        (at_builtin
         refine wpList_pushG rfl _ _ _ rfl base 2 1 8 elem_int intE E k e xs rfl (HO.out.alloc _) w.heap.size (r : Int) #[.int .i64 (r : Int)] 2 (0, 0) rfl (heap_alloc_new _ _) rfl rfl (by simp [intE, Value.oneCell']) (by omega) (by omega) (by unfold maxLen; omega) (Nat.le_trans hbs (by simp)) ?_
         intro A9 c9 w9 own9 hg9 hat9
         have O9 := Lib.hid own9
         have hb9 := (Below.refl base w).alloc hbs (.cells #[.int .i64 (r : Int)] 2)
         have B9 := Lib.hid (hb9.grown hg9 (Nat.le_trans hbs (by simp)) (fun q hq => (HO.out.lt q hq).1))
         clear hb9
         clear own9)
      go_ret
      refine ⟨A9, c9, ret_slice (by rw [e1.out, List.length_append, HX.out]; rfl), ?_, B9.out⟩
      rw [e1.out, List.length_append, HX.out]; exact O9.out
    · have e0 := cov_go hrf h1 h2 Gx.out
      rcases wf_of HL.out r x Gx.out with ⟨h0, ha0, ha1, hb0', hb1'⟩ | ⟨cc, _, hxl, _⟩
      case inr =>
        exfalso
        have h0 : x.l.size ≠ 0 := by rw [hxl]; show (1 : Nat) ≠ 0; omega
        have := lens_let HL.out Gx.out h0
        apply h2
        omega
      have lp := lens_pair HL.out Gx.out h0
      have lb2 := lens_bound HL.out (i := x.a.toNat) (by rw [hl.out]; omega)
      have lb3 := lens_bound HL.out (i := x.b.toNat) (by rw [hl.out]; omega)
      obtain ⟨p9, o9, hA9, hB9, c9⟩ := HD.out.i64 (k := x.a.toNat) (by omega)
      obtain ⟨rfl, rfl⟩ : p2 = p9 ∧ o2 = o9 := by injection hA9 with hA9; injection hA9 with h1 h2; exact ⟨h1, h2⟩
      have e1 := Lib.hid (show xs ++ covI ls rs f r i j = (xs ++ covI ls rs (f - 1) x.a.toNat i (min j (ls.getD x.a.toNat 0))) ++ covI ls rs (f - 1) x.b.toNat (max (i - ls.getD x.a.toNat 0) 0) (j - ls.getD x.a.toNat 0) by
        unfold covI; rw [e0, List.map_append, List.append_assoc])
      have hk1 : k + (cov ls rs (f - 1) x.a.toNat i (min j (ls.getD x.a.toNat 0))).length ≤ 4000000 := by rw [e0, List.length_append] at hk; omega
      have hk2 : (xs ++ covI ls rs (f - 1) x.a.toNat i (min j (ls.getD x.a.toNat 0))).length + (cov ls rs (f - 1) x.b.toNat (max (i - ls.getD x.a.toNat 0) 0) (j - ls.getD x.a.toNat 0)).length ≤ 4000000 := by
        rw [e0, List.length_append] at hk; rw [List.length_append, covI_len, HX.out]; omega
      have hx0 := Lib.hid (fun (w1 : World) (h : Below w.heap.size w w1) => IH.out x.a.toNat (by omega) (f - 1) i (min j (ls.getD x.a.toNat 0)) E k e xs w1 (by omega) (by omega) (by have := h.size; omega) ((h.cell (p := ⟨gb, 0, none⟩) hgw).trans hc) (HA.out.next' hbs h) (HD.out.next' hbs h) HX.out (own_next HO.out h) hk1 hi0 hi1 (by omega) (by omega))
      rw [show ((x.a.toNat : Nat) : Int) = x.a by omega] at hx0
      have hx1 := Lib.hid (fun (w1 : World) (A5 : Option Addr) (c5 : Nat) (h : Below base w w1) (ho : w1.ownsRow base 2 1 (.slice A5 (xs ++ covI ls rs (f - 1) x.a.toNat i (min j (ls.getD x.a.toNat 0))).length c5) (xs ++ covI ls rs (f - 1) x.a.toNat i (min j (ls.getD x.a.toNat 0))).length ((xs ++ covI ls rs (f - 1) x.a.toNat i (min j (ls.getD x.a.toNat 0))).flatMap intE)) =>
        IH.out x.b.toNat (by omega) (f - 1) (max (i - ls.getD x.a.toNat 0) 0) (j - ls.getD x.a.toNat 0) A5 _ c5 _ w1 (by omega) (by omega) (by have := h.size; omega) ((h.cell (p := ⟨gb, 0, none⟩) hgb).trans hc) (HA.out.below h) (HD.out.below h) rfl ho hk2 (by omega) (by omega) (by omega) (by omega))
      rw [show ((x.b.toNat : Nat) : Int) = x.b by omega] at hx1
      generalize xs ++ covI ls rs (f - 1) x.a.toNat i (min j (ls.getD x.a.toNat 0)) = ys at *
      generalize covI ls rs (f - 1) x.b.toNat (max (i - ls.getD x.a.toNat 0) 0) (j - ls.getD x.a.toNat 0) = zs at *
      generalize ls.getD x.a.toNat 0 = y at *
      have hnot : i = 0 → (j != ls.getD r 0) = true := fun h4 => by simpa using fun h5 => h2 ⟨h4, h5⟩
      generalize ls.getD r 0 = lr at *
      have u1 : IntKind.i64.wrap (i - y) = i - y := IntWalk.i64_in _ (by omega)
      have u2 : IntKind.i64.wrap (j - y) = j - y := IntWalk.i64_in _ (by clear u1; omega)
      have i5 : x.a < (n : Int) := by omega
      by_cases h4 : i = 0
      all_goals
        try have h5 := hnot h4
        try (subst h4; simp only [Int.zero_sub] at hx1 u1)
        try have h6 : ¬ j = lr := by simpa using h5
        clear hnot h2 lp lb2 lb3 lb0 lb1 e0 hk hk1 hk2 IH HA HD HO HX
        go_enter Try.func96, Try.ntmps96
        go_wp2_with fail
        go_region_held3 (fun w' => w'.cell? ⟨b, o + r * 3 + 1, none⟩ = some (.int .i64 x.a))
          (first | exact s2 | exact s1 | exact c01 | go_keep)
          (first
            | (go_at_call 109
               refine (l00Min_any j y w.drew).mono ?_
               rintro e9 w1 ⟨rfl, hb1⟩
               have b1 : Below w.heap.size w w1 := (Below.refl _ _).drew.trans hb1
               have s1 : w1.cell? ⟨b, o + r * 3 + 1, none⟩ = some (.int .i64 x.a) := (b1.cell (p := ⟨b, o + r * 3 + 1, none⟩) (by show b < _; omega)).trans c01)
            | (go_at_call 96
               refine (hx0.out w1 b1).mono ?_
               rintro e9 w2 ⟨A5, c5, rfl, own5, hb5⟩
               have b2 : Below base w w2 := (b1.mono hbs).trans hb5
               have O5 := Lib.hid own5
               have s2 : w2.cell? ⟨b, o + r * 3 + 1, none⟩ = some (.int .i64 x.a) := (b2.cell (p := ⟨b, o + r * 3 + 1, none⟩) hB1).trans c01
               clear own5)
            | fail)
        have hgb2 := (b2.cell (p := ⟨gb, 0, none⟩) hgb).trans hc
        have c92 := (b2.cell (p := ⟨b, o + r * 3 + 2, none⟩) hB1).trans c02
        have z2 := b2.size
        clear c00 c01 c02 c2' c9 hx0 hc b1 hb1 s1 hb5
        go_wp2_with fail
        go_region_held3 (fun w' => w'.cell? ⟨b, o + r * 3 + 2, none⟩ = some (.int .i64 x.b))
          (first | exact s4 | exact s3 | exact c92 | go_keep)
          (first
            | (go_at_call 86
               refine (l00Max_any _ 0 w2.drew).mono ?_
               rintro e9 w3 ⟨rfl, hb3⟩
               have b3 : Below w2.heap.size w2 w3 := (Below.refl _ _).drew.trans hb3
               have s3 : w3.cell? ⟨b, o + r * 3 + 2, none⟩ = some (.int .i64 x.b) := (b3.cell (p := ⟨b, o + r * 3 + 2, none⟩) (by show b < _; omega)).trans c92)
            | (go_at_call 96
               refine (hx1.out w3 A5 c5 (b2.trans (b3.mono (Nat.le_trans hbs z2))) (own_next O5.out b3)).mono ?_
               rintro e9 w4 ⟨A6, c6, rfl, own6, hb6⟩
               have b4 : Below base w w4 := (b2.trans (b3.mono (Nat.le_trans hbs z2))).trans hb6
               have O6 := Lib.hid own6
               have s4 : w4.cell? ⟨b, o + r * 3 + 2, none⟩ = some (.int .i64 x.b) := (hb6.cell (p := ⟨b, o + r * 3 + 2, none⟩) hB1).trans s3
               clear own6)
            | fail)
        go_wp2_with fail
        go_ret
        refine ⟨A6, c6, ret_slice (by rw [e1.out, List.length_append]), ?_, b4⟩
        rw [e1.out]; exact O6.out
end Go.Proofs.Ytkknhpailohjcaa
