/-
  How often letters come behind letters: in the reference.
-/
import Derived.Test.YtlokofafojepdaaPairsI
namespace Go.Proofs.Ytlokofafojepdaa
open Go.RowKit

/-- two lists of numbers that grow -/
structure Two (w : World) (A1 : Option Addr) (k1 c1 : Nat) (xs1 : List Int) (A2 : Option Addr) (k2 c2 : Nat) (xs2 : List Int) (w' : World) : Prop where
  hb : Below w.heap.size w w'
  o1 : w'.ownsRow w.heap.size 2 1 (.slice A1 k1 c1) k1 (xs1.flatMap intE)
  o2 : w'.ownsRow w.heap.size 2 1 (.slice A2 k2 c2) k2 (xs2.flatMap intE)
  ne : ∀ p, (Value.slice A1 k1 c1).ownBlock = some p → (Value.slice A2 k2 c2).ownBlock ≠ some p
theorem Two.next {w w1 w2 : World} {A1 A2 : Option Addr} {k1 c1 k2 c2 : Nat} {xs1 xs2 : List Int} (h : Two w A1 k1 c1 xs1 A2 k2 c2 xs2 w1) (hb : Below w1.heap.size w1 w2) : Two w A1 k1 c1 xs1 A2 k2 c2 xs2 w2 :=
  ⟨h.hb.trans (hb.mono h.hb.size), own_next h.o1 hb, own_next h.o2 hb, h.ne⟩
theorem Two.swap {w w1 : World} {A1 A2 : Option Addr} {k1 c1 k2 c2 : Nat} {xs1 xs2 : List Int} (h : Two w A1 k1 c1 xs1 A2 k2 c2 xs2 w1) : Two w A2 k2 c2 xs2 A1 k1 c1 xs1 w1 :=
  ⟨h.hb, h.o2, h.o1, fun p h2 h1 => h.ne p h1 h2⟩
theorem Two.push {w wr w9 : World} {A1 A2 A9 : Option Addr} {k1 c1 k2 c2 c9 : Nat} {xs1 xs2 : List Int} {o : Obj} {v : Int} (h : Two w A1 k1 c1 xs1 A2 k2 c2 xs2 wr)
    (own9 : w9.ownsRow w.heap.size 2 1 (.slice A9 (k1 + 1) c9) (k1 + 1) ((xs1 ++ [v]).flatMap intE))
    (hg9 : (wr.alloc o).grownBy w9 (Value.slice A1 k1 c1).ownBlock)
    (hat9 : (Value.slice A9 (k1 + 1) c9).ownBlock = (Value.slice A1 k1 c1).ownBlock ∨ (Value.slice A9 (k1 + 1) c9).ownBlock = some (wr.alloc o).heap.size) : Two w A9 (k1 + 1) c9 (xs1 ++ [v]) A2 k2 c2 xs2 w9 := by
  have b0 := h.hb.size
  refine ⟨(h.hb.alloc b0 _).grown hg9 (by simp; omega) (own_ge h.o1), own9, (h.o2.alloc _).kept hg9 ?_, fun p hp => ?_⟩
  · cases hv : (Value.slice A2 k2 c2).ownBlock with
    | none => exact .inl rfl
    | some q => exact .inr fun e => h.ne q e.symm hv
  · rcases hat9 with e | e
    · exact h.ne p (e.symm.trans hp)
    · intro e2
      rw [hp] at e
      have := (h.o2.lt p e2).2
      injection e with e
      simp at e
      omega
/-- what 'l05Edges' leaves -/
def RetTwo (w : World) (xs ys : List Int) (e : Ending) (w' : World) : Prop :=
  ∃ A1 c1 A2 c2, e = .returned (.tuple #[.slice A1 xs.length c1, .slice A2 ys.length c2]) ∧ w'.ownsRow w.heap.size 2 1 (.slice A1 xs.length c1) xs.length (xs.flatMap intE) ∧ w'.ownsRow w.heap.size 2 1 (.slice A2 ys.length c2) ys.length (ys.flatMap intE) ∧ Below w.heap.size w w'
set_option maxHeartbeats 4000000 in
set_option maxRecDepth 100000 in
theorem l05Edges_any (gb : Nat) (A : Option Addr) (n c : Nat) (rs : List Fac) (ls : List Int) (w : World) (hgb : gb < w.heap.size) (hc : w.cell? ⟨gb, 0, none⟩ = some (.slice A n c)) (hn : n ≤ 1048576) (hr : Rd w w.heap.size A n 3 Fac.cells rs) (hls : gLens rs [] = some ls) :
    Calls Try.prog 101 #[.pointer (some ⟨gb, 0, none⟩)] w (RetTwo w (edf rs) (edl rs)) := by
  have hl := Lib.hid hr.len
  have HR := Lib.hid hr; clear hr
  have HL := Lib.hid hls; clear hls
  have HWF := Lib.hid (wf_of HL.out)
  go_enter Try.func101, Try.ntmps101
  go_wp2_with fail
  go_loopw [4, 5, 6] (fun a_ b_ i_ w' => ∃ (k : Nat) (A1 : Option Addr) (c1 : Nat) (A2 : Option Addr) (c2 : Nat), i_ = .int .i64 k ∧ a_ = .slice A1 k c1 ∧ b_ = .slice A2 k c2 ∧ k ≤ n ∧
      Hid (Two w A1 k c1 (outs 0 edF edGf rs k) A2 k c2 (outs 0 edF edGl rs k) w')) (fun _ _ i_ _ => n - (intOf i_).toNat)
  case atStart =>
    refine ⟨0, _, 0, _, 0, rfl, rfl, rfl, by omega, Lib.hid ⟨by (repeat first | exact Below.refl _ _ | assumption | refine Below.drew ?_ | refine Below.alloc ?_ (by first | exact Nat.le_refl _ | (simp; done) | omega | (simp; omega)) _ | refine Below.setCell ?_ (by first | exact Nat.le_refl _ | (simp; done) | omega | (simp; omega)) _), ?_, ?_, ?_⟩⟩
    · simpa [outs, foldG] using own_of_blk (base := w.heap.size) (n := 0) (sz := 1) (enc := intE) (xs := []) ((Blk.new w 2 #[]).alloc _) (Nat.le_refl _) rfl rfl (by unfold maxLen; omega) (fun _ _ => rfl) (fun k x hx => by simp at hx)
    · simpa [outs, foldG] using own_of_blk (base := w.heap.size) (n := 0) (sz := 1) (enc := intE) (xs := []) (Blk.new (w.alloc (.cells #[] 2)) 2 #[]) (by simp) rfl rfl (by unfold maxLen; omega) (fun _ _ => rfl) (fun k x hx => by simp at hx)
    · intro p h1 h2
      simp [Value.ownBlock] at h1 h2
      omega
  case round =>
    obtain ⟨k, A1, c1, A2, c2, rfl, rfl, rfl, hk, hT⟩ := hrel
    have hb := hT.out.hb
    have cg := (hb.cell (p := ⟨gb, 0, none⟩) hgb).trans hc
    have lg : gb < wr.heap.size := by have := hb.size; omega
    by_cases hlt : k < n
    · obtain ⟨b, o, x, rfl, hB, gx, d0, d1, d2⟩ := (HR.out.below hb).fac hlt
      have hB2 : b < wr.heap.size := Nat.lt_of_lt_of_le hB hb.size
      have Hf := Lib.hid (outs_step 0 edF edGf gx)
      have Hl := Lib.hid (outs_step 0 edF edGl gx)
      have Gx := Lib.hid gx; clear gx
      have b0 := hb.size
      rcases HWF.out k x Gx.out with ⟨h0, ha0, ha1, hb0, hb1⟩ | ⟨cc, hcc, hxl, hxa, hxb⟩
      · have e0 := size0 h0
        have e1 := Lib.hid (show fStep 0 edF edGf (outs 0 edF edGf rs k) x = (outs 0 edF edGf rs k).getD x.a.toNat 0 by unfold fStep; rw [if_pos h0]; rfl)
        have e2 := Lib.hid (show fStep 0 edF edGl (outs 0 edF edGl rs k) x = (outs 0 edF edGl rs k).getD x.b.toNat 0 by unfold fStep; rw [if_pos h0]; rfl)
        clear h0
        have hol1 := Lib.hid (outs_len 0 edF edGf rs k (by rw [hl.out]; exact hk))
        have hol2 := Lib.hid (outs_len 0 edF edGl rs k (by rw [hl.out]; exact hk))
        obtain ⟨g1, cp1, hv1, _, hg1⟩ := hT.out.o1.form (by omega)
        obtain rfl : A1 = some ⟨g1, 0, none⟩ := by injection hv1
        obtain ⟨g2, cp2, hv2, _, hg2⟩ := hT.out.o2.form (by omega)
        obtain rfl : A2 = some ⟨g2, 0, none⟩ := by injection hv2
        clear hv1 hv2
        have R1 := Lib.hid (Blk.new wr 85 #[.string x.l, .int .i64 x.a, .int .i64 x.b])
        have T1 := Lib.hid (hT.out.next ((Below.refl wr.heap.size wr).alloc (Nat.le_refl _) (.cells #[.string x.l, .int .i64 x.a, .int .i64 x.b] 85)))
        have s1 : wr.cell? ⟨g1, x.a.toNat, none⟩ = some (.int .i64 ((outs 0 edF edGf rs k).getD x.a.toNat 0)) := by
          have := own_at (sz := 1) (enc := intE) (fun _ _ => rfl) hT.out.o1 hol1.out 0 x.a.toNat (by omega) 0 (by omega)
          rw [Nat.mul_one, Nat.add_zero] at this; exact this
        generalize hy1 : (outs 0 edF edGf rs k).getD x.a.toNat 0 = y1 at *
        generalize hy2 : (outs 0 edF edGl rs k).getD x.b.toNat 0 = y2 at *
        have Hy2 := Lib.hid hy2
        clear hy1 hy2
        go_wp2_with
          (at_builtin
           first
           | (refine wpList_pushG rfl _ _ _ rfl w.heap.size 2 1 8 elem_int intE _ k c2 (outs 0 edF edGl rs k) rfl (T9.out.o2.alloc _) w9.heap.size y2 #[.int .i64 y2] 2 (0, 0) rfl (heap_alloc_new _ _) rfl rfl (by simp [intE, Value.oneCell']) (by omega) (by omega) (by unfold maxLen; omega) (by have := T9.out.hb.size; simp; omega) ?_
              intro A10 c10 w10 own10 hg10 hat10
              have T10 := Lib.hid (T9.out.swap.push own10 hg10 hat10)
              clear own10 hat10 hg10)
           | (refine wpList_pushG rfl _ _ _ rfl w.heap.size 2 1 8 elem_int intE _ k c1 (outs 0 edF edGf rs k) rfl (T1.out.o1.alloc _) (wr.heap.size + 1) y1 #[.int .i64 y1] 2 (0, 0) rfl (by simpa using heap_alloc_new (wr.alloc _) _) rfl rfl (by simp [intE, Value.oneCell']) (by omega) (by omega) (by unfold maxLen; omega) (by simp; omega) ?_
              intro A9 c9 w9 own9 hg9 hat9
              have T9 := Lib.hid (T1.out.push own9 hg9 hat9)
              have R9 := Lib.hid ((R1.out.alloc _).grown hg9 (own_blk_ne T1.out.o1 R1.out (by decide)))
              clear own9 hat9 hg9
              obtain ⟨r0, r1, r2⟩ := R9.out.three
              have s2 : w9.cell? ⟨g2, x.b.toNat, none⟩ = some (.int .i64 y2) := by
                have := own_at (sz := 1) (enc := intE) (fun _ _ => rfl) T9.out.o2 hol2.out 0 x.b.toNat (by omega) 0 (by omega)
                rw [Nat.mul_one, Nat.add_zero, Hy2.out] at this; exact this
              have lr9 := R9.out.lt
              have lg9 : g2 < w9.heap.size := (T9.out.o2.lt g2 rfl).2))
        go_roundw
        case rel => exact ⟨k + 1, _, _, _, _, by go_num, rfl, rfl, by omega, Lib.hid (by rw [Hf.out, Hl.out, e1.out, e2.out]; exact T10.out.swap)⟩
        case measure => simp [intOf]; omega
      · have hxs : x.l.size ≠ 0 := by rw [hxl]; show (1 : Nat) ≠ 0; omega
        have e1 := Lib.hid (show fStep 0 edF edGf (outs 0 edF edGf rs k) x = (cc.toNat : Int) - 97 by
          unfold fStep; rw [if_neg hxs]; show ((letN x.l : Nat) : Int) = _; rw [hxl]; show ((cc.toNat - 97 : Nat) : Int) = _
          have := hcc; simp only [letB, decide_eq_true_eq] at this; omega)
        have e2 := Lib.hid (show fStep 0 edF edGl (outs 0 edF edGl rs k) x = (cc.toNat : Int) - 97 by
          unfold fStep; rw [if_neg hxs]; show ((letN x.l : Nat) : Int) = _; rw [hxl]; show ((cc.toNat - 97 : Nat) : Int) = _
          have := hcc; simp only [letB, decide_eq_true_eq] at this; omega)
        obtain ⟨xl, xa, xb⟩ := x
        obtain rfl : xl = ⟨#[cc]⟩ := hxl
        have s0 := size1 hxs
        have s0' := size1' hxs
        have Hcc := Lib.hid hcc
        clear hcc hxs hxa hxb
        have hz1 : (ByteArray.mk #[cc]).size = 1 := rfl
        have R1 := Lib.hid (Blk.new wr 85 #[.string ⟨#[cc]⟩, .int .i64 xa, .int .i64 xb])
        have T1 := Lib.hid (hT.out.next ((Below.refl wr.heap.size wr).alloc (Nat.le_refl _) (.cells #[.string ⟨#[cc]⟩, .int .i64 xa, .int .i64 xb] 85)))
        go_wp2_with fail
        refine (l04Letter_any cc Hcc.out _).mono ?_
        rintro e3 w3 ⟨rfl, hb3⟩
        have T3 := Lib.hid (T1.out.next hb3)
        have R3 := Lib.hid (R1.out.next hb3)
        have b3 := T3.out.hb.size
        go_wp2_with
          (at_builtin
           refine wpList_pushG rfl _ _ _ rfl w.heap.size 2 1 8 elem_int intE _ k c1 (outs 0 edF edGf rs k) rfl (T3.out.o1.alloc _) w3.heap.size ((cc.toNat : Int) - 97) #[.int .i64 ((cc.toNat : Int) - 97)] 2 (0, 0) rfl (heap_alloc_new _ _) rfl rfl (by simp [intE, Value.oneCell']) (by omega) (by omega) (by unfold maxLen; omega) (by simp; omega) ?_
           intro A9 c9 w9 own9 hg9 hat9
           have T9 := Lib.hid (T3.out.push own9 hg9 hat9)
           have R9 := Lib.hid ((R3.out.alloc _).grown hg9 (own_blk_ne T3.out.o1 R3.out (by decide)))
           clear own9 hat9 hg9
           obtain ⟨r0, r1, r2⟩ := R9.out.three
           have lr9 := R9.out.lt)
        refine (l04Letter_any cc Hcc.out _).mono ?_
        rintro e4 w4 ⟨rfl, hb4⟩
        have T4 := Lib.hid (T9.out.next hb4)
        have b4 := T4.out.hb.size
        go_wp2_with
          (at_builtin
           refine wpList_pushG rfl _ _ _ rfl w.heap.size 2 1 8 elem_int intE _ k c2 (outs 0 edF edGl rs k) rfl (T4.out.o2.alloc _) w4.heap.size ((cc.toNat : Int) - 97) #[.int .i64 ((cc.toNat : Int) - 97)] 2 (0, 0) rfl (heap_alloc_new _ _) rfl rfl (by simp [intE, Value.oneCell']) (by omega) (by omega) (by unfold maxLen; omega) (by simp; omega) ?_
           intro A10 c10 w10 own10 hg10 hat10
           have T10 := Lib.hid (T4.out.swap.push own10 hg10 hat10)
           clear own10 hat10 hg10)
        go_roundw
        case rel => exact ⟨k + 1, _, _, _, _, by go_num, rfl, rfl, by omega, Lib.hid (by rw [Hf.out, Hl.out, e1.out, e2.out]; exact T10.out.swap)⟩
        case measure => simp [intOf]; omega
    · obtain rfl : k = n := by omega
      have hol1 := Lib.hid (outs_len 0 edF edGf rs k (by rw [hl.out]; exact hk))
      have hol2 := Lib.hid (outs_len 0 edF edGl rs k (by rw [hl.out]; exact hk))
      have e1 := Lib.hid (show outs 0 edF edGf rs k = edf rs from outs_all 0 edF edGf rs k (by rw [hl.out]; omega))
      have e2 := Lib.hid (show outs 0 edF edGl rs k = edl rs from outs_all 0 edF edGl rs k (by rw [hl.out]; omega))
      go_wp2_with fail
      refine bodyPost_ret (v := .tuple #[.slice A1 k c1, .slice A2 k c2]) (by simp [results, Try.results101, go_sem]) rfl ?_
      rw [← e1.out, ← e2.out]
      refine ⟨A1, c1, A2, c2, by rw [hol1.out, hol2.out], ?_, ?_, hb⟩
      · rw [hol1.out]; exact hT.out.o1
      · rw [hol2.out]; exact hT.out.o2
/-- the table under way -/
structure PTin (w : World) (A' : Option Addr) (k c' : Nat) (gs : List Nat) (qs : List Q4) (w' : World) : Prop where
  hb : Below w.heap.size w w'
  o : w'.ownsRow w.heap.size 25 1 (.slice A' k c') k (gs.flatMap encG)
  q : PTab w' w.heap.size gs qs
  len : qs.length = k
theorem PTin.next {w w1 w2 : World} {A' : Option Addr} {k c' : Nat} {gs : List Nat} {qs : List Q4} (h : PTin w A' k c' gs qs w1) (hb : Below w1.heap.size w1 w2) : PTin w A' k c' gs qs w2 :=
  ⟨h.hb.trans (hb.mono h.hb.size), own_next h.o hb, h.q.next hb, h.len⟩
theorem PTin.set_ {w w1 : World} {A' : Option Addr} {k c' : Nat} {gs : List Nat} {qs : List Q4} (h : PTin w A' k c' gs qs w1) {i g l : Nat} (hg : gs[i]? = some g) (hl : l < 4) (v : Int) :
    PTin w A' k c' gs (addT qs i l v) (w1.setCell ⟨g, l, none⟩ (.int .i64 ((qs.getD i Q4.nil).at_ l + v))) := by
  have r := h.q.1.2 i g hg
  exact ⟨h.hb.setCell r.1 _, own_row_set h.o r.2 (by decide) _, h.q.set_ hg hl v, by unfold addT; rw [List.length_set]; exact h.len⟩
theorem PTin.push {w wr w9 : World} {A' A9 : Option Addr} {k c' c9 : Nat} {gs : List Nat} {qs : List Q4} {o : Obj} (h : PTin w A' k c' gs qs wr)
    (own9 : w9.ownsRow w.heap.size 25 1 (.slice A9 (k + 1) c9) (k + 1) ((gs ++ [wr.heap.size]).flatMap encG))
    (hg9 : ((wr.alloc (.cells (encQ4 Q4.nil).toArray 2)).alloc o).grownBy w9 (Value.slice A' k c').ownBlock) : PTin w A9 (k + 1) c9 (gs ++ [wr.heap.size]) (qs ++ [Q4.nil]) w9 := by
  have b0 := h.hb.size
  have hs : ((wr.alloc (.cells (encQ4 Q4.nil).toArray 2)).alloc o).heap.size = wr.heap.size + 2 := by simp
  refine ⟨((h.hb.alloc b0 _).alloc (by simp; omega) _).grown hg9 (by rw [hs]; omega) (own_ge h.o), own9, ?_, by rw [List.length_append]; simp [h.len]⟩
  exact PTab.push (w := wr.alloc (.cells (encQ4 Q4.nil).toArray 2)) (base := w.heap.size) (gs := gs) (qs := qs) ⟨⟨h.q.1.1, fun i g hg => ⟨(h.q.1.2 i g hg).1, (h.q.1.2 i g hg).2.alloc _⟩⟩, h.q.2⟩ h.len (h.o.alloc _) (Blk.new wr _ _) b0 h.q.lt o hg9
theorem PTin.ret {w w1 : World} {A' : Option Addr} {c' : Nat} {gs : List Nat} {rs : List Fac} (h : PTin w A' 4 c' gs (pcT rs rs.length) w1) : RetPT w (pcAll rs) (.returned (.slice A' 4 c')) w1 := by
  refine ⟨A', c', gs, ret_slice (pcT_len _ _).symm, ?_, h.q, h.hb⟩
  rw [pcT_len]; exact h.o
theorem own_cell {w : World} {base n c : Nat} {A : Option Addr} {xs : List Int} (h : w.ownsRow base 2 1 (.slice A n c) n (xs.flatMap intE)) (hl : xs.length = n) {i : Nat} (hi : i < n) :
    ∃ g, A = some ⟨g, 0, none⟩ ∧ base ≤ g ∧ g < w.heap.size ∧ w.cell? ⟨g, i, none⟩ = some (.int .i64 (xs.getD i 0)) := by
  obtain ⟨g, cp, hv, h1, h2⟩ := h.form (by omega)
  obtain rfl : A = some ⟨g, 0, none⟩ := by injection hv
  refine ⟨g, rfl, h1, h2, ?_⟩
  have := own_at (sz := 1) (enc := intE) (fun _ _ => rfl) h hl 0 i hi 0 (by omega)
  rw [Nat.mul_one, Nat.add_zero] at this; exact this
set_option maxHeartbeats 4000000 in
set_option maxRecDepth 100000 in
theorem specPairs_any (gb : Nat) (A : Option Addr) (n c : Nat) (rs : List Fac) (ls : List Int) (w : World) (hgb : gb < w.heap.size) (hc : w.cell? ⟨gb, 0, none⟩ = some (.slice A n c)) (hn : n ≤ 1000) (hr : Rd w w.heap.size A n 3 Fac.cells rs) (hls : gLens rs [] = some ls) (hll : ls.length = rs.length) :
    Calls Try.prog 65 #[.pointer (some ⟨gb, 0, none⟩)] w (RetPT w (pcAll rs)) := by
  have hl := Lib.hid hr.len
  have HR := Lib.hid hr; clear hr
  have HL := Lib.hid hls; clear hls
  have Hll := Lib.hid hll; clear hll
  have HWF := Lib.hid (wf_of HL.out)
  have mk4 := make4
  go_enter Try.func65, Try.ntmps65
  go_wp2_with fail
  go_loopw [3, 4] (fun o_ i_ w' => ∃ (k : Nat) (A' : Option Addr) (c' : Nat) (gs : List Nat), i_ = .int .i64 k ∧ o_ = .slice A' k c' ∧ k ≤ 4 ∧
      Hid (PTin w A' k c' gs (zT k) w')) (fun _ i_ _ => 4 - (intOf i_).toNat)
  case atStart =>
    refine ⟨0, _, 0, [], rfl, rfl, by omega, Lib.hid ⟨by (repeat first | exact Below.refl _ _ | assumption | refine Below.drew ?_ | refine Below.alloc ?_ (by first | exact Nat.le_refl _ | (simp; done) | omega | (simp; omega)) _ | refine Below.setCell ?_ (by first | exact Nat.le_refl _ | (simp; done) | omega | (simp; omega)) _), ?_, ⟨⟨rfl, fun i g h => by simp at h⟩, fun i j g h => by simp at h⟩, rfl⟩⟩
    simpa using own_of_blk (base := w.heap.size) (n := 0) (sz := 1) (enc := encG) (xs := []) (Blk.new w 25 #[]) (Nat.le_refl _) rfl rfl (by unfold maxLen; omega) (fun _ _ => rfl) (fun k x hx => by simp at hx)
  case round =>
    obtain ⟨k, A', c', gs, rfl, rfl, hk, hP⟩ := hrel
    by_cases hlt : k < 4
    · have b0 := hP.out.hb.size
      go_wp2_with
        (at_builtin
         refine wpList_pushG rfl _ _ _ rfl w.heap.size 25 1 24 elemG encG _ k c' gs rfl ((hP.out.o.alloc _).alloc _) (wr.heap.size + 1) wr.heap.size #[.slice (some ⟨wr.heap.size, 0, none⟩) 4 4] 25 (0, 0) rfl (by simpa using heap_alloc_new (wr.alloc _) _) rfl rfl (one_encG _) (by omega) (by omega) (by unfold maxLen; omega) (by simp; omega) ?_
         intro A9 c9 w9 own9 hg9 hat9
         have P9 := Lib.hid (hP.out.push own9 hg9)
         clear own9 hat9 hg9)
      go_roundw
      case rel =>
        refine ⟨k + 1, A9, c9, gs ++ [wr.heap.size], by go_num, rfl, by omega, Lib.hid ?_⟩
        rw [zT_succ]; exact P9.out
      case measure => simp [intOf]; omega
    · obtain rfl : k = 4 := by omega
      clear mk4 hlt
      rename World => wo
      have hb := hP.out.hb
      have sz0 := hb.size
      have cg := (hb.cell (p := ⟨gb, 0, none⟩) hgb).trans hc
      have lg : gb < wo.heap.size := by omega
      have Hun := Lib.hid (show (usesOf rs).length = n by
        rcases Nat.eq_zero_or_pos n with h | h
        · have h := List.eq_nil_of_length_eq_zero (hl.out.trans h)
          rw [← hl.out, h]; rfl
        · rw [(uses_inv HL.out Hll.out (by rw [hl.out]; exact h)).len]; exact hl.out)
      have Hl1 := Lib.hid (show (edf rs).length = n by rw [full_len]; exact hl.out)
      have Hl2 := Lib.hid (show (edl rs).length = n by rw [full_len]; exact hl.out)
      go_wp2_with fail
      refine (specUses_any gb A n c rs ls wo lg cg (by omega) ((HR.out.below hb).more sz0) HL.out Hll.out).mono ?_
      rintro e1 w1 ⟨Au, cu, rfl, ownu, hb1⟩
      rw [Hun.out] at ownu ⊢
      have P1 := Lib.hid (hP.out.next hb1)
      have OU := Lib.hid ownu; clear ownu
      have sz1 := hb1.size
      have cg1 := (hb1.cell (p := ⟨gb, 0, none⟩) lg).trans cg
      go_wp2_with fail
      refine (l05Edges_any gb A n c rs ls w1 (by omega) cg1 (by omega) ((HR.out.below (P1.out.hb)).more P1.out.hb.size) HL.out).mono ?_
      rintro e2 w2 ⟨A1, c1, A2, c2, rfl, ow1, ow2, hb2⟩
      rw [Hl1.out] at ow1 ⊢
      rw [Hl2.out] at ow2 ⊢
      have P2 := Lib.hid (P1.out.next hb2)
      have OU2 := Lib.hid (own_next OU.out hb2)
      have O1 := Lib.hid (ow1.mono sz1)
      have O2 := Lib.hid (ow2.mono sz1)
      have hlt := Lib.hid (fun (i g : Nat) (h : gs[i]? = some g) => (hP.out.q.1.2 i g h).2.lt)
      clear ow1 ow2 hb1 hb2 cg cg1 OU P1
      go_wp2_with fail
      go_loopw [8] (fun i_ w' => ∃ (i : Nat), i_ = .int .i64 i ∧ i ≤ n ∧ Hid (PTin w A' 4 c' gs (pcT rs i) w') ∧ Hid (w'.ownsRow wo.heap.size 2 1 (.slice Au n cu) n ((usesOf rs).flatMap intE)) ∧
        Hid (w'.ownsRow wo.heap.size 2 1 (.slice A1 n c1) n ((edf rs).flatMap intE)) ∧ Hid (w'.ownsRow wo.heap.size 2 1 (.slice A2 n c2) n ((edl rs).flatMap intE))) (fun i_ _ => n - (intOf i_).toNat)
      case atStart => exact ⟨0, rfl, by omega, P2, OU2, O1, O2⟩
      case round =>
        obtain ⟨i, rfl, hi, hQ, oU, oF, oL⟩ := hrel
        have hb' := hQ.out.hb
        have sz' := hb'.size
        have cg := (hb'.cell (p := ⟨gb, 0, none⟩) hgb).trans hc
        have lg' : gb < wr.heap.size := by omega
        by_cases hlt' : i < n
        · obtain ⟨b, o, x, rfl, hBr, gx, d0, d1, d2⟩ := (HR.out.below hb').fac hlt'
          have hBr2 : b < wr.heap.size := Nat.lt_of_lt_of_le hBr sz'
          have Gx := Lib.hid gx; clear gx
          have hxr := Lib.hid (show i < rs.length by rw [hl.out]; exact hlt')
          have hbA := (Below.refl wr.heap.size wr).alloc (Nat.le_refl _) (.cells #[.string x.l, .int .i64 x.a, .int .i64 x.b] 85)
          rcases HWF.out i x Gx.out with ⟨h0, ha0, ha1, hb0, hb1⟩ | ⟨cc, hcc, hxl, hxz⟩
          · have eT := Lib.hid (pcT_pair Gx.out h0)
            have e0 := size0 h0
            have hal := edl_b HWF.out (k := x.a.toNat) (by have := hl.out; omega)
            have hbf := edf_b HWF.out (k := x.b.toNat) (by have := hl.out; omega)
            obtain ⟨za, hza⟩ : ∃ za : Nat, (edl rs).getD x.a.toNat 0 = (za : Int) := ⟨((edl rs).getD x.a.toNat 0).toNat, by omega⟩
            obtain ⟨zb, hzb⟩ : ∃ zb : Nat, (edf rs).getD x.b.toNat 0 = (zb : Int) := ⟨((edf rs).getD x.b.toNat 0).toNat, by omega⟩
            have za4 : za < 4 := by omega
            have zb4 : zb < 4 := by omega
            have za4' : (za : Int) < 4 := by omega
            have zb4' : (zb : Int) < 4 := by omega
            have za0 : (0 : Int) ≤ (za : Int) := by omega
            have zb0 : (0 : Int) ≤ (zb : Int) := by omega
            obtain ⟨p, g, rfl, hp0, hp1, hgk, s1⟩ := encG_at hQ.out.o (hQ.out.q.1.1.trans hQ.out.len) (i := za) za4
            have Hgk := Lib.hid hgk; clear hgk
            have s2 := hQ.out.q.at_ Hgk.out zb4
            obtain ⟨ga, rfl, _, hga, sa⟩ := own_cell oL.out Hl2.out (i := x.a.toNat) (by omega)
            obtain ⟨gf, rfl, _, hgf, sb⟩ := own_cell oF.out Hl1.out (i := x.b.toNat) (by omega)
            obtain ⟨gu, rfl, _, hgu, su⟩ := own_cell oU.out Hun.out (i := i) (by omega)
            rw [hza] at sa
            rw [hzb] at sb
            have U := uses_inv HL.out Hll.out (by have := hxr.out; omega)
            have u0 := U.nn i
            have u1 := U.bd i
            have q01 := pcT_bd HL.out Hll.out i (by have := hxr.out; omega) za zb
            have lg4 : g < wr.heap.size := (hQ.out.q.1.2 za g Hgk.out).2.lt
            have f2 := (hQ.out.q.1.2 za g Hgk.out).2.frozen zb
            have lgo : g < wo.heap.size := hlt.out za g Hgk.out
            have eT2 := Lib.hid (show pcT rs (i + 1) = addT (pcT rs i) za zb ((usesOf rs).getD i 0) by rw [eT.out, hza, hzb]; rfl)
            have PS := Lib.hid ((hQ.out.set_ Hgk.out zb4 ((usesOf rs).getD i 0)).next (((Below.refl _ _).alloc (Nat.le_refl _) (.cells #[.string x.l, .int .i64 x.a, .int .i64 x.b] 85)).drew))
            have oS := Lib.hid (fun (Ax : Option Addr) (cx : Nat) (xs : List Int) (h : wr.ownsRow wo.heap.size 2 1 (.slice Ax n cx) n (xs.flatMap intE)) (v : Value) =>
              ((ownsRow_setCell_below h (a := ⟨g, zb, none⟩) lgo v).alloc (.cells #[.string x.l, .int .i64 x.a, .int .i64 x.b] 85)).drew)
            clear U hza hzb hal hbf
            generalize hqv : ((pcT rs i).getD za Q4.nil).at_ zb = qv at *
            generalize huv : (usesOf rs).getD i 0 = uv at *
            have Huv := Lib.hid huv
            clear hqv huv
            have HA := Lib.hid hbA; clear hbA
            go_wp2_with fail
            go_region
            go_wp2_with fail
            go_roundw
            case rel =>
              refine ⟨i + 1, by go_num, by omega, Lib.hid ?_, Lib.hid ?_, Lib.hid ?_, Lib.hid ?_⟩
              · rw [eT2.out]; exact PS.out
              · exact oS.out _ _ _ oU.out _
              · exact oS.out _ _ _ oF.out _
              · exact oS.out _ _ _ oL.out _
            case measure => simp [intOf] <;> omega
          · have h0' : x.l.size ≠ 0 := by rw [hxl]; show (1 : Nat) ≠ 0; omega
            have eT := Lib.hid (pcT_let Gx.out h0')
            have e0 := size1 h0'
            have e0' := size1' h0'
            have HA := Lib.hid hbA; clear hbA hxl hxz hcc
            go_wp2_with fail
            go_roundw
            case rel =>
              exact ⟨i + 1, by go_num, by omega, Lib.hid (by rw [eT.out]; exact hQ.out.next HA.out), Lib.hid (own_next oU.out HA.out), Lib.hid (own_next oF.out HA.out), Lib.hid (own_next oL.out HA.out)⟩
            case measure => simp [intOf] <;> omega
        · have e9 := Lib.hid (show i = rs.length by rw [hl.out]; omega)
          obtain rfl : i = n := by omega
          go_wp2_with fail
          go_ret
          have := hQ.out
          rw [e9.out] at this
          exact this.ret
end Go.Proofs.Ytlokofafojepdaa
