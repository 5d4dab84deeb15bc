/-
  impl.folded at [][]int64: what it makes of a grammar, by the contracts of the two functions that it is handed; each value refers to memory of its own.
-/
import Derived.Test.YtkknhpailohjcaaRefs
namespace Go.Proofs.Ytkknhpailohjcaa
open Go.RowKit

theorem elemW : Elem Try.prog 120 38 1 24 := Elem.mk' (z := .slice none 0 0) Try.underlying120 (by kernel_rfl) rfl
set_option maxHeartbeats 2000000 in
set_option maxRecDepth 100000 in
theorem foldW_any {β : Type} (d : β) (Rep : World → Value → β → Prop) (RO : RepOk 38 Rep) (fl fp : Nat) (el : EnterOk fl) (ep : EnterOk fp) (cl cp : Array Value) (F : Nat → β) (G : β → β → Fac → β) (z : β) (vz : Value) (A : Option Addr) (n c : Nat) (rs : List Fac) (w : World) (hn : n ≤ 1048576)
    (hr : Rd w w.heap.size A n 3 Fac.cells rs) (hwf : WF rs) (hz : Rep w vz z)
    (hF : ∀ (k : Nat) (r : Fac), rs[k]? = some r → r.l.size ≠ 0 → ∀ w', Below w.heap.size w w' → Calls Try.prog fl (#[.int .i64 (letN r.l : Nat)] ++ cl) w' (RetRep Rep (F (letN r.l)) w'))
    (hG : ∀ (k : Nat) (r : Fac), rs[k]? = some r → r.l.size = 0 → ∀ w' va vb, Below w.heap.size w w' → Rep w' va ((outs d F G rs k).getD r.a.toNat d) → Rep w' vb ((outs d F G rs k).getD r.b.toNat d) →
      Calls Try.prog fp (#[va, vb, r.val] ++ cp) w' (RetRep Rep (G ((outs d F G rs k).getD r.a.toNat d) ((outs d F G rs k).getD r.b.toNat d) r) w')) :
    Calls Try.prog 94 #[.agg #[.slice A n c], vz, .func (.func fl) #[] cl, .func (.func fp) #[] cp] w (RetReps d 38 Rep (foldAll d F G z rs) w) := by
  have hl := Lib.hid hr.len
  have HF := Lib.hid hF; clear hF
  have HZ := Lib.hid hz; clear hz
  unfold EnterOk at el ep
  have HG := Lib.hid hG; clear hG
  have HW := Lib.hid hwf; clear hwf
  go_enter Try.func94, Try.ntmps94
  go_wp2_with fail
  go_loopw [9, 16] (fun o_ i_ w' => ∃ (k : Nat) (A' : Option Addr) (c' : Nat) (vs : List Value), i_ = .int .i64 k ∧ o_ = .slice A' k c' ∧ k ≤ n ∧
      Hid (w'.ownsRow w.heap.size 38 1 (.slice A' k c') k (vs.flatMap encV)) ∧ Hid (Reps d Rep w' vs (outs d F G rs k)) ∧ Below w.heap.size w w') (fun _ i_ _ => n - (intOf i_).toNat)
  case atStart =>
    exact ⟨0, _, 0, [], rfl, rfl, by omega, Lib.hid (by simpa using World.ownsRow_made (base := w.heap.size) (e := 38) (size := 1) (w.alloc (.cells #[.slice A n c] 31)) #[] 0 (by simp) (by unfold maxLen; omega) rfl), Lib.hid ⟨by simp [outs, foldG], by simp⟩, by (repeat first | exact Below.refl _ _ | assumption | refine Below.drew ?_ | refine Below.alloc ?_ (by first | exact Nat.le_refl _ | (simp; done) | omega | (simp; omega)) _ | refine Below.setCell ?_ (by first | exact Nat.le_refl _ | (simp; done) | omega | (simp; omega)) _)⟩
  case round =>
    obtain ⟨k, A', c', vs, rfl, rfl, hk, hown, hrep, hb⟩ := hrel
    by_cases hlt : k < n
    · obtain ⟨b, o, x, rfl, hB, gx, c0, c1, c2⟩ := (hr.next hb).fac hlt
      have Hst := Lib.hid (outs_step d F G gx)
      have Hol := Lib.hid (outs_len d F G rs k (by rw [hl.out]; exact hk))
      have Hvl := Lib.hid (hrep.out.1.trans Hol.out)
      rcases HW.out k x gx with ⟨h0, ha0, ha1, hb0, hb1⟩ | ⟨cc, hcc, hxl, hxa, hxb⟩
      · have hG := HG.out k x gx h0
        have hfs := Lib.hid (show fStep d F G (outs d F G rs k) x = G ((outs d F G rs k).getD x.a.toNat d) ((outs d F G rs k).getD x.b.toNat d) x by unfold fStep; rw [if_pos h0])
        have HG2 := Lib.hid hG; clear hG gx
        go_wp2_with fail
        refine (isPair_any x true _ (by simpa [isP] using h0)).mono ?_
        rintro e w1 ⟨rfl, hb1'⟩
        obtain ⟨d0, d1, d2⟩ := ((Blk.new wr _ _).next hb1').three
        have b1 := (hb.alloc hb.size _).trans (hb1'.mono (by have := hb.size; simp; omega))
        have hz1 : wr.heap.size < w1.heap.size := ((Blk.new wr 75 #[.string x.l, .int .i64 x.a, .int .i64 x.b]).next hb1').lt
        have own1 := Lib.hid (own_next (hown.out.alloc _) hb1')
        have rep1 := Lib.hid (hrep.out.next RO (((Below.refl wr.heap.size wr).alloc (Nat.le_refl _) (.cells #[.string x.l, .int .i64 x.a, .int .i64 x.b] 75)).trans (hb1'.mono (by simp))))
        obtain ⟨g, cap, hv, hg0, hg1⟩ := own1.out.form (by omega)
        obtain rfl : A' = some ⟨g, 0, none⟩ := by injection hv
        clear hv
        have na : x.a.toNat < k := by omega
        have nb : x.b.toNat < k := by omega
        have HE1 := Lib.hid (fun (w' : World) (h : w'.ownsRow w.heap.size 38 1 (.slice (some ⟨g, 0, none⟩) k c') k (vs.flatMap encV)) =>
          show w'.cell? ⟨g, x.a.toNat, none⟩ = some (vs.getD x.a.toNat undef) by simpa [encV] using own_at (enc := encV) (sz := 1) (fun _ _ => rfl) h Hvl.out undef x.a.toNat na 0 Nat.zero_lt_one)
        have HE2 := Lib.hid (fun (w' : World) (h : w'.ownsRow w.heap.size 38 1 (.slice (some ⟨g, 0, none⟩) k c') k (vs.flatMap encV)) =>
          show w'.cell? ⟨g, x.b.toNat, none⟩ = some (vs.getD x.b.toNat undef) by simpa [encV] using own_at (enc := encV) (sz := 1) (fun _ _ => rfl) h Hvl.out undef x.b.toNat nb 0 Nat.zero_lt_one)
        have e1 := HE1.out w1 own1.out
        have e2 := HE2.out w1 own1.out
        have r1 := rep1.out.at_ undef (show x.a.toNat < vs.length by rw [Hvl.out]; exact na)
        have r2 := rep1.out.at_ undef (show x.b.toNat < vs.length by rw [Hvl.out]; exact nb)
        have o1 := RO.one r1
        have o2 := RO.one r2
        have R1 := Lib.hid r1; have R2 := Lib.hid r2; clear r1 r2
        generalize vs.getD x.a.toNat undef = v1 at *
        generalize vs.getD x.b.toNat undef = v2 at *
        have hgw : some wr.heap.size ≠ (Value.slice (some ⟨g, 0, none⟩) k c').ownBlock := by intro e; have h1 : g < wr.heap.size := (hown.out.lt g rfl).2; have h2 : wr.heap.size = g := Option.some.inj e; omega
        clear h0
        have i1 : x.a < (k : Int) := ha1
        have i2 : x.b < (k : Int) := hb1
        obtain ⟨s1, sn1, sc1, rfl⟩ := RO.sl R1.out
        obtain ⟨s2, sn2, sc2, rfl⟩ := RO.sl R2.out
        clear o1 o2
        go_wp2_with fail
        go_region_held3 (fun w' => w'.cell? ⟨wr.heap.size, 0, none⟩ = some (.string x.l) ∧ w'.cell? ⟨wr.heap.size, 1, none⟩ = some (.int .i64 x.a) ∧ w'.cell? ⟨wr.heap.size, 2, none⟩ = some (.int .i64 x.b) ∧ w'.cell? ⟨g, x.a.toNat, none⟩ = some (.slice s1 sn1 sc1) ∧ w'.cell? ⟨g, x.b.toNat, none⟩ = some (.slice s2 sn2 sc2))
          (first | exact ⟨t0, t1, t2, t3, t4⟩ | exact ⟨s0, s1', s2', s3, s4⟩ | go_keep)
          (first
            | (refine (HG2.out _ _ _ b1.drew (RO.next R1.out (Below.refl _ _).drew) (RO.next R2.out (Below.refl _ _).drew)).mono ?_
               rintro e w2 ⟨v3, rfl, rep3, hb2⟩
               obtain ⟨p3, n3, c3, rfl⟩ := RO.sl rep3
               have Rep3 := Lib.hid rep3; clear rep3
               have hz2 : wr.heap.size < w2.heap.size := Nat.lt_of_lt_of_le hz1 hb2.size
               have s0 : w2.cell? ⟨wr.heap.size, 0, none⟩ = some (.string x.l) := (hb2.cell (p := ⟨wr.heap.size, 0, none⟩) hz1).trans d0
               have s1' : w2.cell? ⟨wr.heap.size, 1, none⟩ = some (.int .i64 x.a) := (hb2.cell (p := ⟨wr.heap.size, 1, none⟩) hz1).trans d1
               have s2' : w2.cell? ⟨wr.heap.size, 2, none⟩ = some (.int .i64 x.b) := (hb2.cell (p := ⟨wr.heap.size, 2, none⟩) hz1).trans d2
               have s3 : w2.cell? ⟨g, x.a.toNat, none⟩ = some (.slice s1 sn1 sc1) := (hb2.cell (p := ⟨g, x.a.toNat, none⟩) hg1).trans e1
               have s4 : w2.cell? ⟨g, x.b.toNat, none⟩ = some (.slice s2 sn2 sc2) := (hb2.cell (p := ⟨g, x.b.toNat, none⟩) hg1).trans e2)
            | (refine step_push (by rfl) _ _ _ (by rfl) w.heap.size 38 1 24 elemW encV (some ⟨g, 0, none⟩) k c' vs (by rfl) ((own_next own1.out.drew hb2).alloc _) w2.heap.size (.slice p3 n3 c3) #[.slice p3 n3 c3] 38 (0, 0) (by rfl) (heap_alloc_new _ _) rfl rfl (by simp [encV, Value.oneCell']) (by omega) (by omega) (by unfold maxLen; omega) (Nat.le_trans b1.size (Nat.le_trans hb2.size (by simp))) ?_
               intro A5 c5 w5 own5 hg5 old5
               have t0 : w5.cell? ⟨wr.heap.size, 0, none⟩ = some (.string x.l) := far_alloc hg5 s0 hz2 hgw
               have t1 : w5.cell? ⟨wr.heap.size, 1, none⟩ = some (.int .i64 x.a) := far_alloc hg5 s1' hz2 hgw
               have t2 : w5.cell? ⟨wr.heap.size, 2, none⟩ = some (.int .i64 x.b) := far_alloc hg5 s2' hz2 hgw
               have t3 : w5.cell? ⟨g, x.a.toNat, none⟩ = some (.slice s1 sn1 sc1) := HE1.out w5 old5
               have t4 : w5.cell? ⟨g, x.b.toNat, none⟩ = some (.slice s2 sn2 sc2) := HE2.out w5 old5))
        go_wp2_with fail
        have hb12 := Lib.hid ((Below.refl w1.heap.size w1).drew.trans hb2)
        have own2 := Lib.hid (own_next own1.out hb12.out)
        have Own5 := Lib.hid own5
        go_roundw
        case rel =>
          refine ⟨k + 1, A5, c5, vs ++ [.slice p3 n3 c3], by go_num, rfl, by omega, Own5, Lib.hid ?_, ?_⟩
          · rw [Hst.out, hfs.out]
            exact (rep1.out.next RO hb12.out).push RO own2.out Rep3.out (.cells #[.slice p3 n3 c3] 38) hg5
          · exact ((b1.drew.trans (hb2.mono b1.size)).alloc (Nat.le_trans b1.size hb2.size) _).grown hg5 (Nat.le_trans b1.size (Nat.le_trans hb2.size (by simp))) (own_ge own1.out)
        case measure => simp [intOf]; omega
      · obtain ⟨xl, xa, xb⟩ := x
        simp only at hxl hxa hxb c0 c1 c2
        subst hxl hxa hxb
        obtain ⟨hl0, hl1⟩ := letB_num hcc
        have hF := HF.out k _ gx (by show (1 : Nat) ≠ 0; omega)
        have hfs := Lib.hid (show fStep d F G (outs d F G rs k) ⟨⟨#[cc]⟩, 0, 0⟩ = F (letN ⟨#[cc]⟩) from rfl)
        have hln := Lib.hid (show ((letN ⟨#[cc]⟩ : Nat) : Int) = (cc.toNat : Int) - 97 by rw [letN_one]; omega)
        simp only at hF
        rw [hln.out] at hF
        generalize F (letN ⟨#[cc]⟩) = y at *
        have HF2 := Lib.hid hF; clear hF gx hcc
        go_wp2_with fail
        refine (isPair_any ⟨⟨#[cc]⟩, 0, 0⟩ false _ (decide_eq_false (show ¬ (1 : Nat) = 0 by omega))).mono ?_
        rintro e w1 ⟨rfl, hb1'⟩
        obtain ⟨d0, d1, d2⟩ := ((Blk.new wr _ _).next hb1').three
        have b1 := (hb.alloc hb.size _).trans (hb1'.mono (by have := hb.size; simp; omega))
        have own1 := Lib.hid (own_next (hown.out.alloc _) hb1')
        have rep1 := Lib.hid (hrep.out.next RO (((Below.refl wr.heap.size wr).alloc (Nat.le_refl _) (.cells #[.string ⟨#[cc]⟩, .int .i64 0, .int .i64 0] 75)).trans (hb1'.mono (by simp))))
        go_wp2_with fail
        refine calls_arg (b := (cc.toNat : Int) - 97) (by show ((cc.toNat : Int) - 97) % 256 = _; omega) ?_
        refine (HF2.out _ b1).mono ?_
        rintro e w2 ⟨v3, rfl, rep3, hb2⟩
        obtain ⟨p3, n3, c3, rfl⟩ := RO.sl rep3
        have Rep3 := Lib.hid rep3; clear rep3
        have b2 := b1.trans (hb2.mono b1.size)
        have own2 := Lib.hid (own_next own1.out hb2)
        have rep2 := Lib.hid (rep1.out.next RO hb2)
        go_wp2_with
          (at_builtin
           refine wpList_push (w0 := w) rfl _ _ _ rfl w.heap.size 38 1 24 elemW encV _ k c' vs rfl (own2.out.alloc _) w2.heap.size (.slice p3 n3 c3) #[.slice p3 n3 c3] 38 (0, 0) rfl (heap_alloc_new _ _) rfl rfl (by simp [encV, Value.oneCell']) (by omega) (by omega) (by unfold maxLen; omega) rfl (b2.alloc b2.size _) ?_
           intro A9 c9 w9 own9 hg9 hat9 hb9
           have O9 := Lib.hid own9
           have G9 := Lib.hid hg9
           clear own9 hg9 hat9)
        go_roundw
        case rel =>
          refine ⟨k + 1, A9, c9, vs ++ [.slice p3 n3 c3], by go_num, rfl, by omega, O9, Lib.hid ?_, hb9⟩
          rw [Hst.out, hfs.out]
          exact rep2.out.push RO own2.out Rep3.out _ G9.out
        case measure => simp [intOf]; omega
    · have hkn : k = n := by omega
      have Hall := Lib.hid (outs_all d F G rs k (by rw [hl.out]; omega))
      have Hol := Lib.hid (outs_len d F G rs k (by rw [hl.out]; omega))
      by_cases h0 : k = 0
      · subst h0
        have e0 := Lib.hid (show foldAll d F G z rs = [z] by unfold foldAll; rw [hl.out, if_pos hkn.symm])
        have e1 := Lib.hid (show outs d F G rs 0 = [] by unfold outs; simp [foldG])
        have hvn : vs = [] := List.eq_nil_of_length_eq_zero (hrep.out.1.trans Hol.out)
        subst hvn
        have Hz := Lib.hid (RO.next' HZ.out hb)
        obtain ⟨p3, n3, c3, rfl⟩ := RO.sl HZ.out
        clear hkn
        go_wp2_with
          (at_builtin
           refine wpList_push (w0 := w) rfl _ _ _ rfl w.heap.size 38 1 24 elemW encV _ 0 c' [] rfl (hown.out.alloc _) wr.heap.size (.slice p3 n3 c3) #[.slice p3 n3 c3] 38 (0, 0) rfl (heap_alloc_new _ _) rfl rfl (by simp [encV, Value.oneCell']) (by omega) (by omega) (by unfold maxLen; omega) rfl (hb.alloc hb.size _) ?_
           intro A9 c9 w9 own9 hg9 hat9 hb9
           have O9 := Lib.hid own9
           have G9 := Lib.hid hg9
           clear own9 hg9 hat9)
        go_ret
        rw [e0.out]
        refine ⟨A9, c9, [.slice p3 n3 c3], rfl, O9.out, ?_, hb9⟩
        have hr0 : Reps d Rep wr [] [] := ⟨rfl, by simp⟩
        simpa using hr0.push RO hown.out Hz.out _ G9.out
      · have e0 := Lib.hid (show foldAll d F G z rs = outs d F G rs k by unfold foldAll; rw [hl.out, if_neg (by omega), Hall.out])
        have h1 : ((k : Int) == 0) = false := by simp; omega
        clear h0 hkn
        go_wp2_with fail
        go_ret
        rw [e0.out]
        refine ⟨A', c', vs, ret_slice Hol.out.symm, ?_, hrep.out, hb⟩
        rw [Hol.out]
        exact hown.out
end Go.Proofs.Ytkknhpailohjcaa
