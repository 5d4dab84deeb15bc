/-
  How often each rule is met: in the program and in the reference.
-/
import Derived.Test.YtlokofafojepdaaUse
import Derived.Test.YtlokofafojepdaaLetg
import Derived.Test.YtlokofafojepdaaMake
namespace Go.Proofs.Ytlokofafojepdaa
open Go.RowKit

def arrI (us : List Int) : Array Value := (us.map fun z => Value.int .i64 z).toArray
theorem arrI_size (us : List Int) : (arrI us).size = us.length := by simp [arrI]
theorem arrI_at {us : List Int} {j : Nat} (h : j < us.length) : (arrI us)[j]? = some (.int .i64 (us.getD j 0)) := by
  simp [arrI, List.getElem?_eq_getElem h, List.getD_eq_getElem?_getD]
theorem arrI_set (us : List Int) (a : Nat) (v : Int) : (arrI us).setIfInBounds a (.int .i64 v) = arrI (us.set a v) := by
  simp [arrI, List.map_set]
theorem made_arrI (n : Nat) : madeCells #[Value.int .i64 0] n = arrI (List.replicate n 0) := by
  apply Array.ext_getElem?
  intro i
  by_cases h : i < n
  · rw [arrI_at (by simpa using h)]
    have := made_at (n := n) (j := i) h
    rw [Nat.mul_one] at this
    rw [show (Value.int IntKind.i64 0).cells = #[Value.int .i64 0] from rfl] at this
    rw [this, List.getD_eq_getElem?_getD, List.getElem?_replicate, if_pos h]; rfl
  · rw [Array.getElem?_eq_none (by rw [size_madeCells]; omega), Array.getElem?_eq_none (by rw [arrI_size]; simp; omega)]
theorem arrI_own {w : World} {base g : Nat} {us : List Int} (hB : Blk w g 2 (arrI us)) (hg : base ≤ g) (hm : us.length ≤ maxLen) : w.ownsRow base 2 1 (.slice (some ⟨g, 0, none⟩) us.length us.length) us.length (us.flatMap intE) :=
  own_of_blk hB hg (by rw [arrI_size, Nat.mul_one]) rfl hm (fun _ _ => rfl) (fun k x hx j hj => by
    obtain rfl : j = 0 := by omega
    have hk : k < us.length := (List.getElem?_eq_some_iff.1 hx).1
    rw [Nat.mul_one, Nat.add_zero, arrI_at hk, List.getD_eq_getElem?_getD, hx]; rfl)
theorem useStep_pair {rs : List Fac} {i : Nat} {r : Fac} (h : rs[i]? = some r) (h0 : r.l.size = 0) (us : List Int) : useStep rs us i = usePair us r.a.toNat r.b.toNat i := by
  unfold useStep; rw [fac_getD h, if_pos h0]
theorem useStep_let {rs : List Fac} {i : Nat} {r : Fac} (h : rs[i]? = some r) (h0 : r.l.size ≠ 0) (us : List Int) : useStep rs us i = us := by
  unfold useStep; rw [fac_getD h, if_neg h0]
set_option maxHeartbeats 4000000 in
set_option maxRecDepth 100000 in
theorem implUses_any (A : Option Addr) (n c : Nat) (rs : List Fac) (ls : List Int) (w : World) (hn : n ≤ 1048576) (hr : Rd w w.heap.size A n 3 Fac.cells rs) (hls : gLens rs [] = some ls) (hll : ls.length = rs.length) :
    Calls Try.prog 102 #[.agg #[.slice A n c]] w (RetNew w 2 1 intE (usesOf rs)) := by
  obtain ⟨i0, hi, hz0, hz1, hz2⟩ := info_parts info_i64
  have hl := Lib.hid hr.len
  have HR := Lib.hid hr; clear hr
  have HL := Lib.hid hls; clear hls
  have Hll := Lib.hid hll; clear hll
  have hmk := run_make_rowN (P := Try.prog) 25 2 i0 _ Try.underlying25 hi hz0 .i64 .i64 n n (Nat.le_refl _) (by rw [hz2]; omega) (by omega)
  rw [hz1] at hmk
  go_enter Try.func102, Try.ntmps102
  go_wp2_with fail
  clear hmk
  go_loopw [4] (fun i_ w' => ∃ (m : Nat) (z : Int) (us : List Int), i_ = .int .i64 z ∧ z = (m : Int) - 1 ∧ m ≤ n ∧ Below w.heap.size w w' ∧ Hid (Blk w' w.heap.size 31 #[.slice A n c]) ∧
      Hid (Blk w' (w.heap.size + 1) 2 (arrI (if m = n then List.replicate n 0 else us))) ∧ Hid (us.length = n) ∧ Hid (m = n → us = use0 n) ∧ Hid (useGo rs m us = usesOf rs) ∧ Hid (0 < n → UInv rs ls m us)) (fun i_ _ => (intOf i_ + 1).toNat)
  case atStart =>
    refine ⟨n, _, use0 n, rfl, rfl, by omega, by (repeat first | exact Below.refl _ _ | assumption | refine Below.drew ?_ | refine Below.alloc ?_ (by first | exact Nat.le_refl _ | (simp; done) | omega | (simp; omega)) _ | refine Below.setCell ?_ (by first | exact Nat.le_refl _ | (simp; done) | omega | (simp; omega)) _), Lib.hid ((Blk.new _ _ _).alloc _), Lib.hid ?_, Lib.hid (by simp [use0]), Lib.hid (fun _ => rfl), Lib.hid (by unfold usesOf; rw [hl.out]), Lib.hid (fun h => ?_)⟩
    · rw [if_pos rfl, ← made_arrI]; simpa using Blk.new (w.alloc _) _ _
    · have := uinv_start Hll.out (by rw [hl.out]; exact h)
      rw [hl.out] at this
      exact this
  case round =>
    obtain ⟨m, z, us, rfl, hz, hm, hb, hG, hB, hul, hu0, H, hU⟩ := hrel
    have Hz := Lib.hid hz; clear hz
    have cg := hG.out.cell 0
    have lg := hG.out.lt
    have lo : w.heap.size + 1 < wr.heap.size := hB.out.lt
    rcases Nat.eq_zero_or_pos m with hm0 | hm1
    · obtain rfl : z = -1 := by have := Hz.out; omega
      have Hm0 := Lib.hid hm0
      have eU := Lib.hid (show usesOf rs = us by rw [← H.out, hm0]; rfl)
      have hB2 := Lib.hid (show Blk wr (w.heap.size + 1) 2 (arrI us) by
        by_cases h : m = n
        · have := hB.out
          rw [if_pos h] at this
          rw [show us = List.replicate n 0 by rw [hu0.out h, ← h, hm0]; rfl]
          exact this
        · have := hB.out
          rw [if_neg h] at this
          exact this)
      clear hm0
      go_wp2_with fail
      go_ret
      rw [eU.out]
      refine ⟨_, n, ret_slice hul.out.symm, ?_, hb⟩
      have := arrI_own (base := w.heap.size) hB2.out (by omega) (by rw [hul.out]; unfold maxLen; omega)
      rw [hul.out] at this ⊢
      exact this
    · obtain ⟨i, rfl⟩ : ∃ i, m = i + 1 := ⟨m - 1, by omega⟩
      obtain rfl : z = (i : Int) := by have := Hz.out; omega
      have U := Lib.hid (hU.out (by omega))
      obtain ⟨b, o, x, rfl, hBr, gx, c0, c1, c2⟩ := (HR.out.below hb).fac (k := i) (by omega)
      have hBr2 : b < wr.heap.size := Nat.lt_of_lt_of_le hBr hb.size
      have Gx := Lib.hid gx; clear gx
      have nxt := Lib.hid (U.out.step HL.out Hll.out)
      have hgo := Lib.hid (show useGo rs i (useStep rs us i) = usesOf rs from H.out)
      have i1 : (i : Int) < (n : Int) := by omega
      have i0' : (0 : Int) ≤ (i : Int) := by omega
      have Hx := Lib.hid (fun (w1 : World) (hb1 : Below w.heap.size w w1) (hB1 : Blk w1 (w.heap.size + 1) 2 (arrI us)) => hB1)
      have hul' : us.length = n := hul.out
      have hl' := hl.out
      have b15 := U.out.bd
      have b0 := U.out.nn
      have ePair := Lib.hid (fun h0 => useStep_pair (rs := rs) Gx.out h0 us)
      have eLet := Lib.hid (fun h0 => useStep_let (rs := rs) Gx.out h0 us)
      have wfx := wf_of HL.out i x Gx.out
      have Hul := Lib.hid hul'
      clear hul' hl'
      rcases wfx with ⟨h0, ha0, ha1, hb0, hb1⟩ | ⟨cc, hcc, hxl, hxz⟩
      · have ea := ePair.out h0
        have EA := Lib.hid ea; clear ea
        have ua15 := b15 x.a.toNat
        have ua0 := b0 x.a.toNat
        have ui15 := b15 i
        have ui0 := b0 i
        have uB := Lib.hid (fun (ub' : Int) (h : ub' = (us.set x.a.toNat (us.getD x.a.toNat 0 + us.getD i 0)).getD x.b.toNat 0) => show 0 ≤ ub' ∧ ub' ≤ 2000000000000000 by
          rw [h, getD_set _ _ _ _ (by rw [Hul.out]; omega)]
          have := b15 x.b.toNat; have := b0 x.b.toNat
          split <;> omega)
        clear b15 b0
        by_cases he : i + 1 = n
        · have e1 : ((i : Int) == (n : Int) - 1) = true := by simp; omega
          have hB' := Lib.hid (show Blk wr (w.heap.size + 1) 2 (arrI (List.replicate n 0)) by have := hB.out; rw [if_pos he] at this; exact this)
          have eS := Lib.hid (show (arrI (List.replicate n 0)).setIfInBounds i (.int .i64 1) = arrI us by rw [arrI_set, hu0.out he]; unfold use0; rw [← he]; rfl)
          have s0 := (hB'.out.cell i).trans (arrI_at (by simp; omega))
          have f0 := hB'.out.frozen i
          have hbS : Below w.heap.size wr (wr.setCell ⟨w.heap.size + 1, i, none⟩ (.int .i64 1)) := (Below.refl _ _).setCell (by simp) _
          have d0 := (hbS.cell (p := ⟨b, o + i * 3, none⟩) hBr).trans c0
          have d1 := (hbS.cell (p := ⟨b, o + i * 3 + 1, none⟩) hBr).trans c1
          have d2 := (hbS.cell (p := ⟨b, o + i * 3 + 2, none⟩) hBr).trans c2
          have dg : (wr.setCell ⟨w.heap.size + 1, i, none⟩ (.int .i64 1)).cell? ⟨w.heap.size, 0, none⟩ = some (.slice (some ⟨b, o, none⟩) n c) := ((hG.out.far (p := ⟨w.heap.size + 1, i, none⟩) (by simp) _).cell 0)
          have HbS := Lib.hid hbS
          clear he hbS
          go_wp2_with fail
          refine namedC fun w1 H1 => ?_
          have B1 := Lib.hid (show Blk w1 (w.heap.size + 1) 2 (arrI us) by rw [H1.out, ← eS.out]; exact (hB'.out.set_ _ _).alloc _)
          have G1 := Lib.hid (show Blk w1 w.heap.size 31 #[.slice (some ⟨b, o, none⟩) n c] by rw [H1.out]; exact (hG.out.far (by simp) _).alloc _)
          have R1 := Lib.hid (show Blk w1 wr.heap.size 85 #[.string x.l, .int .i64 x.a, .int .i64 x.b] by rw [H1.out]; simpa using Blk.new (wr.setCell ⟨w.heap.size + 1, i, none⟩ (.int .i64 1)) _ _)
          have hb1 : Below w.heap.size w w1 := by rw [H1.out]; exact (hb.trans HbS.out).alloc (by simpa using hb.size) _
          clear H1 s0 f0 e1 d0 d1 d2 dg cg lg
          refine (isPair_any x true _ (by simpa [isP] using h0)).mono ?_
          rintro e2 w2 ⟨rfl, hb2⟩
          have B2 := B1.out.next hb2
          have R2 := R1.out.next hb2
          have G2 := Lib.hid (G1.out.next hb2)
          have bb2 := Lib.hid (hb1.trans (hb2.mono hb1.size))
          obtain ⟨r0, r1, r2⟩ := R2.three
          have lr := R2.lt
          have lb := B2.lt
          have sa := (B2.cell x.a.toNat).trans (arrI_at (by rw [Hul.out]; omega))
          have fa := B2.frozen x.a.toNat
          have si := (B2.cell i).trans (arrI_at (by rw [Hul.out]; omega))
          have HB2 := Lib.hid B2
          have HR2 := Lib.hid R2
          clear B2 R2 hb1 hb2
          generalize hua : us.getD x.a.toNat 0 = ua at *
          generalize hui : us.getD i 0 = ui at *
          have Hua := Lib.hid hua; have Hui := Lib.hid hui
          clear hua hui
          go_wp2_with fail
          go_region
          generalize hW3 : World.drew _ = w3
          have H3 := Lib.hid hW3.symm; clear hW3
          obtain ⟨us1, hu1⟩ : ∃ us1, us1 = us.set x.a.toNat (ua + ui) := ⟨_, rfl⟩
          have Hu1 := Lib.hid hu1
          have hl1 := Lib.hid (show us1.length = n by rw [hu1, List.length_set]; exact Hul.out)
          have B3 := Lib.hid (show Blk w3 (w.heap.size + 1) 2 (arrI us1) by rw [H3.out, hu1, ← arrI_set]; exact (HB2.out.set_ _ _).drew)
          have R3 := Lib.hid (show Blk w3 wr.heap.size 85 #[.string x.l, .int .i64 x.a, .int .i64 x.b] by rw [H3.out]; exact (HR2.out.far (by have := lo; simp; omega) _).drew)
          have G3 := Lib.hid (show Blk w3 w.heap.size 31 #[.slice (some ⟨b, o, none⟩) n c] by rw [H3.out]; exact (G2.out.far (by simp) _).drew)
          have bb3 := Lib.hid (show Below w.heap.size w w3 by rw [H3.out]; exact ((bb2.out).setCell (by simp) _).drew)
          have ei := Lib.hid (show us1.getD i 0 = ui by rw [hu1, getD_set _ _ _ _ (by rw [Hul.out]; omega), if_neg (by omega)]; exact Hui.out)
          have uB' := uB.out (us1.getD x.b.toNat 0) (by rw [hu1])
          obtain ⟨ub, hub⟩ : ∃ ub, us1.getD x.b.toNat 0 = ub := ⟨_, rfl⟩
          rw [hub] at uB'
          have Hub := Lib.hid hub
          obtain ⟨ub0, ub20⟩ := uB'
          clear hu1 hub H3 sa fa si r0 r1 r2 lb lr
          obtain ⟨r0, r1, r2⟩ := R3.out.three
          have lr := R3.out.lt
          have lb := B3.out.lt
          have sb := (B3.out.cell x.b.toNat).trans (arrI_at (by rw [hl1.out]; omega))
          have fb := B3.out.frozen x.b.toNat
          have si := (B3.out.cell i).trans (arrI_at (by rw [hl1.out]; omega))
          rw [Hub.out] at sb
          rw [ei.out] at si
          go_wp2_with fail
          go_region
          generalize hW4 : World.drew _ = w4
          have H4 := Lib.hid hW4.symm; clear hW4
          go_wp2_with fail
          go_roundw
          case rel =>
            refine ⟨i, _, useStep rs us i, by go_num, rfl, by omega, ?_, Lib.hid ?_, Lib.hid ?_, Lib.hid ?_, Lib.hid (fun e => absurd e (by omega)), Lib.hid hgo.out, Lib.hid (fun _ => nxt.out)⟩
            · rw [H4.out]; exact ((bb3.out).setCell (by simp) _).drew
            · rw [H4.out]; exact (G3.out.far (by simp) _).drew
            · rw [if_neg (by omega), H4.out, EA.out]
              unfold usePair
              rw [Hua.out, Hui.out, ← Hu1.out, Hub.out, ← arrI_set]
              exact (B3.out.set_ _ _).drew
            · rw [EA.out, usePair_len]; exact Hul.out
          case measure => simp [intOf] <;> omega
        · have e1 : ((i : Int) == (n : Int) - 1) = false := by simp; omega
          have hB' := Lib.hid (show Blk wr (w.heap.size + 1) 2 (arrI us) by have := hB.out; rw [if_neg he] at this; exact this)
          clear he
          go_wp2_with fail
          refine namedC fun w1 H1 => ?_
          have B1 := Lib.hid (show Blk w1 (w.heap.size + 1) 2 (arrI us) by rw [H1.out]; exact hB'.out.alloc _)
          have G1 := Lib.hid (show Blk w1 w.heap.size 31 #[.slice (some ⟨b, o, none⟩) n c] by rw [H1.out]; exact hG.out.alloc _)
          have R1 := Lib.hid (show Blk w1 wr.heap.size 85 #[.string x.l, .int .i64 x.a, .int .i64 x.b] by rw [H1.out]; exact Blk.new wr _ _)
          have hb1 : Below w.heap.size w w1 := by rw [H1.out]; exact hb.alloc hb.size _
          clear H1 e1 cg lg
          refine (isPair_any x true _ (by simpa [isP] using h0)).mono ?_
          rintro e2 w2 ⟨rfl, hb2⟩
          have B2 := B1.out.next hb2
          have R2 := R1.out.next hb2
          have G2 := Lib.hid (G1.out.next hb2)
          have bb2 := Lib.hid (hb1.trans (hb2.mono hb1.size))
          obtain ⟨r0, r1, r2⟩ := R2.three
          have lr := R2.lt
          have lb := B2.lt
          have sa := (B2.cell x.a.toNat).trans (arrI_at (by rw [Hul.out]; omega))
          have fa := B2.frozen x.a.toNat
          have si := (B2.cell i).trans (arrI_at (by rw [Hul.out]; omega))
          have HB2 := Lib.hid B2
          have HR2 := Lib.hid R2
          clear B2 R2 hb1 hb2
          generalize hua : us.getD x.a.toNat 0 = ua at *
          generalize hui : us.getD i 0 = ui at *
          have Hua := Lib.hid hua; have Hui := Lib.hid hui
          clear hua hui
          go_wp2_with fail
          go_region
          generalize hW3 : World.drew _ = w3
          have H3 := Lib.hid hW3.symm; clear hW3
          obtain ⟨us1, hu1⟩ : ∃ us1, us1 = us.set x.a.toNat (ua + ui) := ⟨_, rfl⟩
          have Hu1 := Lib.hid hu1
          have hl1 := Lib.hid (show us1.length = n by rw [hu1, List.length_set]; exact Hul.out)
          have B3 := Lib.hid (show Blk w3 (w.heap.size + 1) 2 (arrI us1) by rw [H3.out, hu1, ← arrI_set]; exact (HB2.out.set_ _ _).drew)
          have R3 := Lib.hid (show Blk w3 wr.heap.size 85 #[.string x.l, .int .i64 x.a, .int .i64 x.b] by rw [H3.out]; exact (HR2.out.far (by have := lo; simp; omega) _).drew)
          have G3 := Lib.hid (show Blk w3 w.heap.size 31 #[.slice (some ⟨b, o, none⟩) n c] by rw [H3.out]; exact (G2.out.far (by simp) _).drew)
          have bb3 := Lib.hid (show Below w.heap.size w w3 by rw [H3.out]; exact ((bb2.out).setCell (by simp) _).drew)
          have ei := Lib.hid (show us1.getD i 0 = ui by rw [hu1, getD_set _ _ _ _ (by rw [Hul.out]; omega), if_neg (by omega)]; exact Hui.out)
          have uB' := uB.out (us1.getD x.b.toNat 0) (by rw [hu1])
          obtain ⟨ub, hub⟩ : ∃ ub, us1.getD x.b.toNat 0 = ub := ⟨_, rfl⟩
          rw [hub] at uB'
          have Hub := Lib.hid hub
          obtain ⟨ub0, ub20⟩ := uB'
          clear hu1 hub H3 sa fa si r0 r1 r2 lb lr
          obtain ⟨r0, r1, r2⟩ := R3.out.three
          have lr := R3.out.lt
          have lb := B3.out.lt
          have sb := (B3.out.cell x.b.toNat).trans (arrI_at (by rw [hl1.out]; omega))
          have fb := B3.out.frozen x.b.toNat
          have si := (B3.out.cell i).trans (arrI_at (by rw [hl1.out]; omega))
          rw [Hub.out] at sb
          rw [ei.out] at si
          go_wp2_with fail
          go_region
          generalize hW4 : World.drew _ = w4
          have H4 := Lib.hid hW4.symm; clear hW4
          go_wp2_with fail
          go_roundw
          case rel =>
            refine ⟨i, _, useStep rs us i, by go_num, rfl, by omega, ?_, Lib.hid ?_, Lib.hid ?_, Lib.hid ?_, Lib.hid (fun e => absurd e (by omega)), Lib.hid hgo.out, Lib.hid (fun _ => nxt.out)⟩
            · rw [H4.out]; exact ((bb3.out).setCell (by simp) _).drew
            · rw [H4.out]; exact (G3.out.far (by simp) _).drew
            · rw [if_neg (by omega), H4.out, EA.out]
              unfold usePair
              rw [Hua.out, Hui.out, ← Hu1.out, Hub.out, ← arrI_set]
              exact (B3.out.set_ _ _).drew
            · rw [EA.out, usePair_len]; exact Hul.out
          case measure => simp [intOf] <;> omega
      · have h0' : x.l.size ≠ 0 := by rw [hxl]; show (1 : Nat) ≠ 0; omega
        have EA := Lib.hid (eLet.out h0')
        clear b15 b0 hxl hxz hcc
        by_cases he : i + 1 = n
        · have e1 : ((i : Int) == (n : Int) - 1) = true := by simp; omega
          have hB' := Lib.hid (show Blk wr (w.heap.size + 1) 2 (arrI (List.replicate n 0)) by have := hB.out; rw [if_pos he] at this; exact this)
          have eS := Lib.hid (show (arrI (List.replicate n 0)).setIfInBounds i (.int .i64 1) = arrI us by rw [arrI_set, hu0.out he]; unfold use0; rw [← he]; rfl)
          have s0 := (hB'.out.cell i).trans (arrI_at (by simp; omega))
          have f0 := hB'.out.frozen i
          have hbS : Below w.heap.size wr (wr.setCell ⟨w.heap.size + 1, i, none⟩ (.int .i64 1)) := (Below.refl _ _).setCell (by simp) _
          have d0 := (hbS.cell (p := ⟨b, o + i * 3, none⟩) hBr).trans c0
          have d1 := (hbS.cell (p := ⟨b, o + i * 3 + 1, none⟩) hBr).trans c1
          have d2 := (hbS.cell (p := ⟨b, o + i * 3 + 2, none⟩) hBr).trans c2
          have dg : (wr.setCell ⟨w.heap.size + 1, i, none⟩ (.int .i64 1)).cell? ⟨w.heap.size, 0, none⟩ = some (.slice (some ⟨b, o, none⟩) n c) := ((hG.out.far (p := ⟨w.heap.size + 1, i, none⟩) (by simp) _).cell 0)
          have HbS := Lib.hid hbS
          clear he hbS
          go_wp2_with fail
          refine namedC fun w1 H1 => ?_
          have B1 := Lib.hid (show Blk w1 (w.heap.size + 1) 2 (arrI us) by rw [H1.out, ← eS.out]; exact (hB'.out.set_ _ _).alloc _)
          have G1 := Lib.hid (show Blk w1 w.heap.size 31 #[.slice (some ⟨b, o, none⟩) n c] by rw [H1.out]; exact (hG.out.far (by simp) _).alloc _)
          have R1 := Lib.hid (show Blk w1 wr.heap.size 85 #[.string x.l, .int .i64 x.a, .int .i64 x.b] by rw [H1.out]; simpa using Blk.new (wr.setCell ⟨w.heap.size + 1, i, none⟩ (.int .i64 1)) _ _)
          have hb1 : Below w.heap.size w w1 := by rw [H1.out]; exact (hb.trans HbS.out).alloc (by simpa using hb.size) _
          clear H1 s0 f0 e1 d0 d1 d2 dg cg lg
          refine (isPair_any x false _ (by simpa [isP] using h0')).mono ?_
          rintro e2 w2 ⟨rfl, hb2⟩
          go_wp2_with fail
          go_roundw
          case rel =>
            refine ⟨i, _, us, by go_num, rfl, by omega, hb1.trans (hb2.mono hb1.size), Lib.hid (G1.out.next hb2), Lib.hid ?_, Hul, Lib.hid (fun e => absurd e (by omega)), Lib.hid (by rw [← hgo.out, EA.out]), Lib.hid (fun _ => by have := nxt.out; rw [EA.out] at this; exact this)⟩
            rw [if_neg (by omega)]
            exact B1.out.next hb2
          case measure => simp [intOf] <;> omega
        · have e1 : ((i : Int) == (n : Int) - 1) = false := by simp; omega
          have hB' := Lib.hid (show Blk wr (w.heap.size + 1) 2 (arrI us) by have := hB.out; rw [if_neg he] at this; exact this)
          clear he
          go_wp2_with fail
          refine namedC fun w1 H1 => ?_
          have B1 := Lib.hid (show Blk w1 (w.heap.size + 1) 2 (arrI us) by rw [H1.out]; exact hB'.out.alloc _)
          have G1 := Lib.hid (show Blk w1 w.heap.size 31 #[.slice (some ⟨b, o, none⟩) n c] by rw [H1.out]; exact hG.out.alloc _)
          have R1 := Lib.hid (show Blk w1 wr.heap.size 85 #[.string x.l, .int .i64 x.a, .int .i64 x.b] by rw [H1.out]; exact Blk.new wr _ _)
          have hb1 : Below w.heap.size w w1 := by rw [H1.out]; exact hb.alloc hb.size _
          clear H1 e1 cg lg
          refine (isPair_any x false _ (by simpa [isP] using h0')).mono ?_
          rintro e2 w2 ⟨rfl, hb2⟩
          go_wp2_with fail
          go_roundw
          case rel =>
            refine ⟨i, _, us, by go_num, rfl, by omega, hb1.trans (hb2.mono hb1.size), Lib.hid (G1.out.next hb2), Lib.hid ?_, Hul, Lib.hid (fun e => absurd e (by omega)), Lib.hid (by rw [← hgo.out, EA.out]), Lib.hid (fun _ => by have := nxt.out; rw [EA.out] at this; exact this)⟩
            rw [if_neg (by omega)]
            exact B1.out.next hb2
          case measure => simp [intOf] <;> omega
set_option maxHeartbeats 4000000 in
set_option maxRecDepth 100000 in
theorem specUses_any (gb : Nat) (A : Option Addr) (n c : Nat) (rs : List Fac) (ls : List Int) (w : World) (hgb : gb < w.heap.size) (hc : w.cell? ⟨gb, 0, none⟩ = some (.slice A n c)) (hn : n ≤ 1048576) (hr : Rd w w.heap.size A n 3 Fac.cells rs) (hls : gLens rs [] = some ls) (hll : ls.length = rs.length) :
    Calls Try.prog 100 #[.pointer (some ⟨gb, 0, none⟩)] w (RetNew w 2 1 intE (usesOf rs)) := by
  obtain ⟨i0, hi, hz0, hz1, hz2⟩ := info_parts info_i64
  have hl := Lib.hid hr.len
  have HR := Lib.hid hr; clear hr
  have HL := Lib.hid hls; clear hls
  have Hll := Lib.hid hll; clear hll
  have hmk := run_make_rowN (P := Try.prog) 25 2 i0 _ Try.underlying25 hi hz0 .i64 .i64 n n (Nat.le_refl _) (by rw [hz2]; omega) (by omega)
  rw [hz1] at hmk
  rcases Nat.eq_zero_or_pos n with hn0 | hn1
  · have eU := Lib.hid (show usesOf rs = [] by
      have h := List.eq_nil_of_length_eq_zero (hl.out.trans hn0)
      subst h; rfl)
    subst hn0
    have hmk0 : ∀ w : World, Sem.run Try.prog (Instr.makeSlice 25 (.int .i64 0) (.int .i64 0)) w = _ := fun w => hmk w
    clear hmk
    go_enter Try.func100, Try.ntmps100
    go_wp2_with fail
    clear hmk0
    go_loopw [4] (fun i_ w' => i_ = .int .i64 (-1) ∧ Below w.heap.size w w' ∧ Hid (Blk w' w.heap.size 2 (arrI []))) (fun _ _ => 0)
    case atStart => exact ⟨rfl, by (repeat first | exact Below.refl _ _ | assumption | refine Below.drew ?_ | refine Below.alloc ?_ (by first | exact Nat.le_refl _ | (simp; done) | omega | (simp; omega)) _ | refine Below.setCell ?_ (by first | exact Nat.le_refl _ | (simp; done) | omega | (simp; omega)) _), Lib.hid (by rw [show arrI [] = madeCells #[Value.int .i64 0] 0 from (made_arrI 0).symm]; exact Blk.new w _ _)⟩
    case round =>
      obtain ⟨rfl, hb, hB⟩ := hrel
      go_wp2_with fail
      go_ret
      rw [eU.out]
      exact ⟨_, 0, rfl, arrI_own (base := w.heap.size) hB.out (by omega) (by unfold maxLen; simp), hb⟩
  · have s0 : (w.alloc (.cells (madeCells #[Value.int .i64 0] n) 2)).cell? ⟨w.heap.size, n - 1, none⟩ = some (.int .i64 ((List.replicate n 0).getD (n - 1) 0)) := by
      rw [(Blk.new w 2 (madeCells #[Value.int .i64 0] n)).cell (n - 1), made_arrI]; exact arrI_at (by simp; omega)
    have t0 : ((n : Int) - 1).toNat = n - 1 := by omega
    go_enter Try.func100, Try.ntmps100
    go_wp2_with fail
    clear hmk
    go_loopw [4] (fun i_ w' => ∃ (m : Nat) (us : List Int), i_ = .int .i64 ((m : Int) - 1) ∧ m ≤ n ∧ Below w.heap.size w w' ∧ Hid (Blk w' w.heap.size 2 (arrI us)) ∧ Hid (us.length = n) ∧ Hid (useGo rs m us = usesOf rs) ∧ Hid (UInv rs ls m us)) (fun i_ _ => (intOf i_ + 1).toNat)
    case atStart =>
      refine ⟨n, use0 n, rfl, by omega, by (repeat first | exact Below.refl _ _ | assumption | refine Below.drew ?_ | refine Below.alloc ?_ (by first | exact Nat.le_refl _ | (simp; done) | omega | (simp; omega)) _ | refine Below.setCell ?_ (by first | exact Nat.le_refl _ | (simp; done) | omega | (simp; omega)) _), Lib.hid ?_, Lib.hid (by simp [use0]), Lib.hid (by unfold usesOf; rw [hl.out]), Lib.hid ?_⟩
      · unfold use0; rw [← arrI_set, ← made_arrI]; exact Blk.new w _ _
      · have := uinv_start Hll.out (by rw [hl.out]; exact hn1)
        rw [hl.out] at this
        exact this
    case round =>
      obtain ⟨m, us, rfl, hm, hb, hB, Hul, H, U⟩ := hrel
      have lo : w.heap.size < wr.heap.size := hB.out.lt
      have cg := (hb.cell (p := ⟨gb, 0, none⟩) hgb).trans hc
      have lg : gb < wr.heap.size := by omega
      rcases Nat.eq_zero_or_pos m with hm0 | hm1
      · have eU := Lib.hid (show usesOf rs = us by rw [← H.out, hm0]; rfl)
        subst hm0
        go_wp2_with fail
        go_ret
        rw [eU.out]
        refine ⟨_, n, ret_slice Hul.out.symm, ?_, hb⟩
        have := arrI_own (base := w.heap.size) hB.out (by omega) (by rw [Hul.out]; unfold maxLen; omega)
        rw [Hul.out] at this ⊢
        exact this
      · obtain ⟨i, rfl⟩ : ∃ i, m = i + 1 := ⟨m - 1, by omega⟩
        rw [show (((i + 1 : Nat) : Int) - 1) = (i : Int) by omega]
        obtain ⟨b, o, x, rfl, hBr, gx, c0, c1, c2⟩ := (HR.out.below hb).fac (k := i) (by omega)
        have hBr2 : b < wr.heap.size := Nat.lt_of_lt_of_le hBr hb.size
        have Gx := Lib.hid gx; clear gx
        have nxt := Lib.hid (U.out.step HL.out Hll.out)
        have hgo := Lib.hid (show useGo rs i (useStep rs us i) = usesOf rs from H.out)
        have i1 : (i : Int) < (n : Int) := by omega
        have i0' : (0 : Int) ≤ (i : Int) := by omega
        have hl' := hl.out
        have b15 := U.out.bd
        have b0 := U.out.nn
        have ePair := Lib.hid (fun h0 => useStep_pair (rs := rs) Gx.out h0 us)
        have eLet := Lib.hid (fun h0 => useStep_let (rs := rs) Gx.out h0 us)
        have wfx := wf_of HL.out i x Gx.out
        clear hl'
        rcases wfx with ⟨h0, ha0, ha1, hb0, hb1⟩ | ⟨cc, hcc, hxl, hxz⟩
        · have EA := Lib.hid (ePair.out h0)
          have ua15 := b15 x.a.toNat
          have ua0 := b0 x.a.toNat
          have ui15 := b15 i
          have ui0 := b0 i
          have uB := Lib.hid (fun (ub' : Int) (h : ub' = (us.set x.a.toNat (us.getD x.a.toNat 0 + us.getD i 0)).getD x.b.toNat 0) => show 0 ≤ ub' ∧ ub' ≤ 2000000000000000 by
            rw [h, getD_set _ _ _ _ (by rw [Hul.out]; omega)]
            have := b15 x.b.toNat; have := b0 x.b.toNat
            split <;> omega)
          clear b15 b0
          have e0 := size0 h0
          have H0 := Lib.hid h0; clear h0
          have sa := (hB.out.cell x.a.toNat).trans (arrI_at (by rw [Hul.out]; omega))
          have fa := hB.out.frozen x.a.toNat
          have si := (hB.out.cell i).trans (arrI_at (by rw [Hul.out]; omega))
          generalize hua : us.getD x.a.toNat 0 = ua at *
          generalize hui : us.getD i 0 = ui at *
          have Hua := Lib.hid hua; have Hui := Lib.hid hui
          clear hua hui
          go_wp2_with fail
          go_region
          generalize hW3 : World.drew _ = w3
          have H3 := Lib.hid hW3.symm; clear hW3
          obtain ⟨us1, hu1⟩ : ∃ us1, us1 = us.set x.a.toNat (ua + ui) := ⟨_, rfl⟩
          have Hu1 := Lib.hid hu1
          have hl1 := Lib.hid (show us1.length = n by rw [hu1, List.length_set]; exact Hul.out)
          have B3 := Lib.hid (show Blk w3 w.heap.size 2 (arrI us1) by rw [H3.out, hu1, ← arrI_set]; exact (hB.out.set_ _ _).drew)
          have bb3 := (show Below w.heap.size w w3 by rw [H3.out]; exact (hb.setCell (by simp) _).drew)
          have ei := Lib.hid (show us1.getD i 0 = ui by rw [hu1, getD_set _ _ _ _ (by rw [Hul.out]; omega), if_neg (by omega)]; exact Hui.out)
          have uB' := uB.out (us1.getD x.b.toNat 0) (by rw [hu1])
          obtain ⟨ub, hub⟩ : ∃ ub, us1.getD x.b.toNat 0 = ub := ⟨_, rfl⟩
          rw [hub] at uB'
          have Hub := Lib.hid hub
          obtain ⟨ub0, ub20⟩ := uB'
          have hw := Lib.hid (show Below w.heap.size wr w3 by rw [H3.out]; exact ((Below.refl _ _).setCell (by simp) _).drew)
          have d0 := (hw.out.cell (p := ⟨b, o + i * 3, none⟩) hBr).trans c0
          have d1 := (hw.out.cell (p := ⟨b, o + i * 3 + 1, none⟩) hBr).trans c1
          have d2 := (hw.out.cell (p := ⟨b, o + i * 3 + 2, none⟩) hBr).trans c2
          have lw3 : wr.heap.size ≤ w3.heap.size := hw.out.size
          have cg3 := (bb3.cell (p := ⟨gb, 0, none⟩) hgb).trans hc
          clear hu1 hub H3 sa fa si c0 c1 c2 cg
          have lb := B3.out.lt
          have sb := (B3.out.cell x.b.toNat).trans (arrI_at (by rw [hl1.out]; omega))
          have fb := B3.out.frozen x.b.toNat
          have si := (B3.out.cell i).trans (arrI_at (by rw [hl1.out]; omega))
          rw [Hub.out] at sb
          rw [ei.out] at si
          have lg3 : gb < w3.heap.size := by omega
          have lb3 : b < w3.heap.size := by omega
          go_wp2_with fail
          go_region
          generalize hW4 : World.drew _ = w4
          have H4 := Lib.hid hW4.symm; clear hW4
          go_wp2_with fail
          go_roundw
          case rel =>
            refine ⟨i, useStep rs us i, by go_num, by omega, ?_, Lib.hid ?_, Lib.hid ?_, Lib.hid hgo.out, Lib.hid nxt.out⟩
            · rw [H4.out]; exact (bb3.setCell (by simp) _).drew
            · rw [H4.out, EA.out]
              unfold usePair
              rw [Hua.out, Hui.out, ← Hu1.out, Hub.out, ← arrI_set]
              exact (B3.out.set_ _ _).drew
            · rw [EA.out, usePair_len]; exact Hul.out
          case measure => simp [intOf] <;> omega
        · have h0' : x.l.size ≠ 0 := by rw [hxl]; show (1 : Nat) ≠ 0; omega
          have EA := Lib.hid (eLet.out h0')
          have e0 := size1 h0'
          have e0' := size1' h0'
          clear b15 b0 hxl hxz hcc
          go_wp2_with fail
          go_roundw
          case rel =>
            refine ⟨i, us, by go_num, by omega, hb, hB, Hul, Lib.hid (by rw [← hgo.out, EA.out]), Lib.hid (by have := nxt.out; rw [EA.out] at this; exact this)⟩
          case measure => simp [intOf] <;> omega
end Go.Proofs.Ytlokofafojepdaa
