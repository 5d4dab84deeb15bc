/-
  FirstBelow in the program and in the reference.
-/
import Derived.Test.YtpkhkippdigcjaaClimbO
import Derived.Test.YtpkhkippdigcjaaGramV
namespace Go.Proofs.Ytpkhkippdigcjaa
open Go.RowKit

def lensOf (rs : List Fac) : List Int := (gLens rs []).getD []
def belGo (cs : List Cl) (ls : List Int) (rs : List Fac) (z : Int) : Nat → Nat → Int → Int → Int
  | 0, _, _, n => n
  | f + 1, r, h, n =>
    match rs[r]? with
    | none => n
    | some x => if x.l.size = 0 then (if h + (cs.getD x.a.toNat Cl.nil).l < z then belGo cs ls rs z f x.a.toNat h n else belGo cs ls rs z f x.b.toNat (h + (cs.getD x.a.toNat Cl.nil).t) (n + ls.getD x.a.toNat 0)) else n
theorem belGo_step {cs : List Cl} {ls : List Int} {rs : List Fac} {z : Int} {f r : Nat} {h n : Int} {x : Fac} (hf : r < f) (hx : rs[r]? = some x) (h0 : x.l.size = 0) :
    belGo cs ls rs z f r h n = if h + (cs.getD x.a.toNat Cl.nil).l < z then belGo cs ls rs z (f - 1) x.a.toNat h n else belGo cs ls rs z (f - 1) x.b.toNat (h + (cs.getD x.a.toNat Cl.nil).t) (n + ls.getD x.a.toNat 0) := by
  obtain ⟨g, rfl⟩ : ∃ g, f = g + 1 := ⟨f - 1, by omega⟩
  rw [belGo, hx]
  simp only [if_pos h0, Nat.add_sub_cancel]
theorem belGo_stop {cs : List Cl} {ls : List Int} {rs : List Fac} {z : Int} {f r : Nat} {h n : Int} {x : Fac} (hf : r < f) (hx : rs[r]? = some x) (h0 : x.l.size ≠ 0) : belGo cs ls rs z f r h n = n := by
  obtain ⟨g, rfl⟩ : ∃ g, f = g + 1 := ⟨f - 1, by omega⟩
  rw [belGo, hx]
  simp only [if_neg h0]
def tup2 (a b : Int) : Value := .tuple #[.int .i64 a, .int .i64 b]
def belV (rs : List Fac) (ws : List Int) (z : Int) : Value :=
  if wsC rs ws = 0 then (if 0 < z then tup2 0 0 else if z ≤ (climT ws rs).l then tup2 0 6 else tup2 (belGo (clim ws rs) (lensOf rs) rs z rs.length (rs.length - 1) 0 0 + 1) 0) else tup2 0 (wsC rs ws)
theorem belV_form (rs : List Fac) (ws : List Int) (z : Int) : ∃ b k, belV rs ws z = .tuple #[.int .i64 b, .int .i64 k] := by
  unfold belV
  split
  · split
    · exact ⟨_, _, rfl⟩
    · split
      · exact ⟨_, _, rfl⟩
      · exact ⟨_, _, rfl⟩
  · exact ⟨_, _, rfl⟩
theorem Rd.cl {w : World} {B n : Nat} {A : Option Addr} {xs : List Cl} {k : Nat} (h : Rd w B A n 3 encCl xs) (hk : k < n) :
    ∃ b o x, A = some ⟨b, o, none⟩ ∧ b < B ∧ xs[k]? = some x ∧ w.cell? ⟨b, o + k * 3, none⟩ = some (.int .i64 x.t) ∧ w.cell? ⟨b, o + k * 3 + 1, none⟩ = some (.int .i64 x.l) ∧ w.cell? ⟨b, o + k * 3 + 2, none⟩ = some (.int .i64 x.h) := by
  obtain ⟨b, o, hA, hb, x, hx, hc⟩ := h.at_ hk
  exact ⟨b, o, x, hA, hb, hx, hc 0 _ rfl, hc 1 _ rfl, hc 2 _ rfl⟩
theorem foldAll_pos {α : Type} (d : α) (F : Nat → α) (G : α → α → Fac → α) (z : α) {rs : List Fac} (h : 0 < rs.length) : foldAll d F G z rs = full d F G rs := by
  unfold foldAll
  rw [if_neg (by omega)]
theorem field_low (a b c : Value) (w : World) : Sem.run Try.prog (Instr.field 43 (.agg #[a, b, c]) 1) w = .ok b w := by
  unfold Instr.field
  kernel_rfl
set_option maxHeartbeats 2000000 in
set_option maxRecDepth 100000 in
theorem implBelow_any (A : Option Addr) (n c : Nat) (rs : List Fac) (D : Option Addr) (m d : Nat) (zs : List Int) (z : Int) (w : World) (hn : n ≤ 1048576) (hr : Rd w w.heap.size A n 3 Fac.cells rs)
    (hok : ∀ f ∈ rs, f.l.size ≤ maxLen) (hm : m ≤ 1048576) (hd : Rd w w.heap.size D m 1 intE zs) (hz : -9223372036854775808 ≤ z ∧ z ≤ 9223372036854775807) :
    Calls Try.prog 32 #[.agg #[.slice A n c], .slice D m d, .int .i64 z] w (Ret (belV rs zs z) w) := by
  have hb0 : Below w.heap.size w (w.alloc (.cells #[.slice A n c] 30)) := by (repeat first | exact Below.refl _ _ | assumption | refine Below.drew ?_ | refine Below.alloc ?_ (by first | exact Nat.le_refl _ | (simp; done) | omega | (simp; omega)) _ | refine Below.setCell ?_ (by first | exact Nat.le_refl _ | (simp; done) | omega | (simp; omega)) _)
  have hB0 := Lib.hid (Blk.new w 30 #[.slice A n c])
  have hl := Lib.hid hr.len
  have HR := Lib.hid hr; clear hr
  have HD := Lib.hid hd; clear hd
  have HO := Lib.hid hok; clear hok
  have HC := Lib.hid (wsC_cases rs zs)

  obtain ⟨hz0, hz1⟩ := hz
  go_enter Try.func32, Try.ntmps32
  go_wp2_with fail
  refine (climbCode_any A n c rs D m d zs _ hn (HR.out.next hb0) HO.out hm (HD.out.next hb0)).mono ?_
  rintro e1 w1 ⟨rfl, hb1⟩
  have b1 := hb0.trans (hb1.mono hb0.size)
  have B1 := Lib.hid (hB0.out.next hb1)
  have cg1 := B1.out.cell 0
  have lg1 := B1.out.lt
  rcases HC.out with ⟨h1, h2⟩ | ⟨h1, h2, h3, h4⟩
  · have e0 : (wsC rs zs != 0) = true := by simpa using h1
    have e := Lib.hid (show belV rs zs z = tup2 0 (wsC rs zs) by unfold belV; rw [if_neg h1])
    generalize wsC rs zs = k at *
    clear h1 h2 HC
    go_wp2_with fail
    go_ret2
    exact ⟨by rw [e.out]; rfl, b1⟩
  have H1 := Lib.hid h1
  obtain ⟨ls, hls⟩ := Option.isSome_iff_exists.1 h2
  have Hk := Lib.hid hls
  have HL := Lib.hid (gOk_lens hls).1
  have hll := Lib.hid (gOk_lens hls).2.2
  have hn4 : n ≤ 400 := by have := (gOk_lens hls).2.1; have := hl.out; omega
  have e9 := Lib.hid (show lensOf rs = ls by unfold lensOf; rw [HL.out]; rfl)
  have HWs := Lib.hid h3
  rw [h1]
  obtain rfl : m = 4 := by have := h3.1; have := HD.out.len; omega
  have HT := Lib.hid (top_climT zs rs)
  have HN := Lib.hid (foldAll_len Cl.nil (climF zs) climG Cl.nil rs)
  have HW := Lib.hid (wf_of HL.out)
  clear h1 h2 h3 h4 HC hls
  go_wp2_with fail
  refine (lengths_any A n c rs w1 (by omega) (HR.out.next b1) HO.out).mono ?_
  rintro e w2 ⟨hb2, ⟨ls', A2, c2, hg2, rfl, hown2⟩ | ⟨hg2, _⟩⟩
  case inr => exact absurd (hg2.symm.trans Hk.out) (by simp)
  obtain rfl : ls' = ls := Option.some.inj (hg2.symm.trans Hk.out)
  have r2 := Lib.hid (Rd.of_own (enc := intE) (fun _ _ => rfl) rfl hown2)
  have b2 := b1.trans (hb2.mono b1.size)
  have B2 := Lib.hid (B1.out.next hb2)
  clear cg1 lg1 hown2 hg2
  have cg2 := B2.out.cell 0
  have lg2 := B2.out.lt
  rw [hll.out, hl.out] at r2 ⊢
  go_wp2_with fail
  refine (climbs_any A n c rs D d zs ls' w2 hn (HR.out.next b2) HL.out HWs.out (HD.out.next b2)).mono ?_
  rintro e1 w3 ⟨A3, c3, rfl, own3, hb3⟩
  have b3 := b2.trans (hb3.mono b2.size)
  have B3 := Lib.hid (B2.out.next hb3)
  have r3 := Lib.hid (r2.out.next hb3)
  have O3 := Lib.hid own3; clear own3
  clear cg2 lg2
  by_cases q1 : 0 < z
  · have e := Lib.hid (show belV rs zs z = tup2 0 0 by unfold belV; rw [if_pos H1.out, if_pos (by omega)])
    go_wp2_with fail
    go_ret2
    exact ⟨by rw [e.out]; rfl, b3⟩
  go_wp2_with fail
  refine (topC_any A3 _ c3 _ w3 (by have := HN.out; have := hl.out; omega) (by have := HN.out; omega) (Rd.of_own (fun y _ => lenCl y) rfl O3.out)).mono ?_
  rintro e1 w4 ⟨rfl, hb4⟩
  rw [HT.out]
  have b4 := b3.trans (hb4.mono b3.size)
  have B4 := Lib.hid (B3.out.next hb4)
  have r4 := Lib.hid (r3.out.next hb4)
  have O4 := Lib.hid (own_next O3.out hb4)
  by_cases q2 : z ≤ (climT zs rs).l
  · have e := Lib.hid (show belV rs zs z = tup2 0 6 by unfold belV; rw [if_pos H1.out, if_neg (by omega), if_pos (by omega)])
    generalize climT zs rs = y at *
    unfold Cl.v
    have hfd := field_low
    go_wp2_with fail
    go_ret2
    exact ⟨by rw [e.out]; rfl, b4⟩
  have hpos : 0 < rs.length := by
    rcases Nat.eq_zero_or_pos rs.length with h | h
    · exfalso; apply q2; rw [show climT zs rs = Cl.nil by unfold climT; rw [if_pos h]]; show z ≤ 0; omega
    · exact h
  have e := Lib.hid (show belV rs zs z = tup2 (belGo (clim zs rs) ls' rs z rs.length (rs.length - 1) 0 0 + 1) 0 by unfold belV; rw [if_pos H1.out, if_neg (by omega), if_neg (by omega), e9.out])
  have hfa := Lib.hid (foldAll_pos Cl.nil (climF zs) climG Cl.nil hpos)
  have hfl := Lib.hid (full_len Cl.nil (climF zs) climG (rs := rs))
  have r5 := Lib.hid (show Rd w4 w4.heap.size A3 n 3 encCl (clim zs rs) by
    have := Rd.of_own (fun y _ => lenCl y) rfl O4.out
    rw [hfa.out, hfl.out, hl.out] at this
    exact this)
  rw [hfa.out, hfl.out, hl.out]
  have HRr := Lib.hid (HR.out.next b4)
  have hn0 : 0 < n := by rw [← hl.out]; exact hpos
  rw [hl.out] at e
  clear hfa HT HN O3 O4 hpos
  generalize climT zs rs = y at *
  have q3 : ¬ z ≤ y.l := by omega
  unfold Cl.v
  have hfd := field_low
  have cg4 := B4.out.cell 0
  have lg4 := B4.out.lt
  go_wp2_with fail
  go_loopw [12, 13, 14] (fun r_ n_ h_ w' => ∃ (r f : Nat) (h t : Int), r_ = .int .i64 r ∧ n_ = .int .i64 t ∧ h_ = .int .i64 h ∧ r < n ∧ r < f ∧ Below w4.heap.size w4 w' ∧
      (0 ≤ t ∧ t + ls'.getD r 0 ≤ 1000000000000000 ∧ - (9 * t) ≤ h ∧ h ≤ 9 * t) ∧ Hid (belGo (clim zs rs) ls' rs z n (n - 1) 0 0 = belGo (clim zs rs) ls' rs z f r h t)) (fun r_ _ _ _ => (intOf r_).toNat)
  case atStart =>
    have := lens_bound HL.out (i := n - 1) (by rw [hl.out]; omega)
    exact ⟨n - 1, n, 0, 0, by go_num, rfl, rfl, by omega, by omega, Below.refl _ _, by omega, Lib.hid rfl⟩
  case round =>
    obtain ⟨r, f, h, t, rfl, rfl, rfl, hrn, hrf, hb, ⟨g1, g2, g3, g4⟩, H⟩ := hrel
    obtain ⟨b, o, x, rfl, hB, gx, c0, c1, c2⟩ := (HRr.out.next hb).fac hrn
    have cg := (B4.out.next hb).cell 0
    have lg := (B4.out.next hb).lt
    rcases HW.out r x gx with ⟨h0, ha0, ha1, hb0', hb1'⟩ | ⟨cc, hcc, hxl, hxa, hxb⟩
    · obtain ⟨p1, o1, y1, rfl, hB1, gy, d0, d1, d2⟩ := (r5.out.next hb).cl (k := x.a.toNat) (by omega)
      obtain ⟨p2, o2, y2, rfl, hB2, gl, l0⟩ := (show Rd wr wr.heap.size A2 n 1 (fun s => [.int .i64 s]) ls' from r4.out.next hb).int (k := x.a.toNat) (by omega)
      have ec := (show (clim zs rs).getD x.a.toNat Cl.nil = y1 by rw [List.getD_eq_getElem?_getD, gy]; rfl)
      have el := (show ls'.getD x.a.toNat 0 = y2 by rw [List.getD_eq_getElem?_getD, gl]; rfl)
      have H' := belGo_step (cs := clim zs rs) (ls := ls') (z := z) (h := h) (n := t) hrf gx h0
      rw [← H.out, ec, el] at H'
      have H2 := Lib.hid H'
      have cb := clim_bound HL.out HWs.out (k := x.a.toNat) (by rw [hl.out]; omega)
      have lp := lens_pair HL.out gx h0
      have lb1 := lens_bound HL.out (i := x.a.toNat) (by rw [hl.out]; omega)
      have lb2 := lens_bound HL.out (i := x.b.toNat) (by rw [hl.out]; omega)
      rw [ec, el] at cb
      rw [el] at lp lb1
      obtain ⟨k1, k2, k3, k4, k5, k6⟩ := cb
      clear H' gx gy gl H
      go_wp2_with fail
      refine (isPair_any x true _ (by simpa [isP] using h0)).mono ?_
      rintro e1 w5 ⟨rfl, hb5⟩
      have c0' := (hb5.cell (p := ⟨b, o + r * 3, none⟩) hB).trans c0
      have c1' := (hb5.cell (p := ⟨b, o + r * 3 + 1, none⟩) hB).trans c1
      have c2' := (hb5.cell (p := ⟨b, o + r * 3 + 2, none⟩) hB).trans c2
      have d0' := (hb5.cell (p := ⟨p1, o1 + x.a.toNat * 3, none⟩) hB1).trans d0
      have d1' := (hb5.cell (p := ⟨p1, o1 + x.a.toNat * 3 + 1, none⟩) hB1).trans d1
      have l0' := (hb5.cell (p := ⟨p2, o2 + x.a.toNat, none⟩) hB2).trans l0
      have cg' := (hb5.cell (p := ⟨w.heap.size, 0, none⟩) lg).trans cg
      have sz5 := hb5.size
      have s51 : p1 < w5.heap.size := by omega
      have s52 : p2 < w5.heap.size := by omega
      have b5 := hb.trans (hb5.mono hb.size)
      clear c0 c1 c2 d0 d1 d2 l0 cg h0
      by_cases q4 : h + y1.l < z
      · rw [if_pos (by omega)] at H2
        go_wp2_with fail
        go_roundw
        case rel => exact ⟨x.a.toNat, f - 1, h, t, by go_num, rfl, rfl, by omega, by omega, b5.alloc b5.size _, ⟨g1, by omega, g3, g4⟩, H2⟩
        case measure => simp [intOf]; omega
      · rw [if_neg (by omega)] at H2
        go_wp2_with fail
        refine named fun w6 H6 => ?_
        have B6 : Blk w6 w5.heap.size 57 #[.string x.l, .int .i64 x.a, .int .i64 x.b] := by rw [H6.out]; exact Blk.new _ _ _
        have hb6 : Below w5.heap.size w5 w6 := by rw [H6.out]; (repeat first | exact Below.refl _ _ | assumption | refine Below.drew ?_ | refine Below.alloc ?_ (by first | exact Nat.le_refl _ | (simp; done) | omega | (simp; omega)) _ | refine Below.setCell ?_ (by first | exact Nat.le_refl _ | (simp; done) | omega | (simp; omega)) _)
        obtain ⟨t0, t1, t2⟩ := B6.three
        have hz6 := B6.lt
        have d0'' := (hb6.cell (p := ⟨p1, o1 + x.a.toNat * 3, none⟩) (by show p1 < _; omega)).trans d0'
        have l0'' := (hb6.cell (p := ⟨p2, o2 + x.a.toNat, none⟩) (by show p2 < _; omega)).trans l0'
        have sp1 : p1 < w6.heap.size := by omega
        have sp2 : p2 < w6.heap.size := by omega
        have hup := upc w6.heap.size w6
        have i1 : x.a < (n : Int) := by omega
        have u1 : IntKind.i64.wrap (t + y2) = t + y2 := IntWalk.i64_in _ (by omega)
        have u2 : IntKind.i64.wrap (h + y1.t) = h + y1.t := IntWalk.i64_in _ (by clear u1; omega)
        refine wp_region_up w6.heap.size (by kernel_rfl) (by kernel_rfl) ?_
        repeat (go_big_quiet_step (fail))
        refine wpQuiet_nil ?_
        intro w7 hup_w7
        have hb7 := up_of hup_w7
        have b7 := b5.trans ((hb6.trans (hb7.mono hb6.size)).mono b5.size)
        clear u1 u2
        go_wp2_with fail
        go_roundw
        case rel => exact ⟨x.b.toNat, f - 1, h + y1.t, t + y2, by go_num, rfl, rfl, by omega, by omega, b7, ⟨by omega, by omega, by omega, by omega⟩, H2⟩
        case measure => simp [intOf]; omega
    · have h0 : x.l.size ≠ 0 := by rw [hxl]; show (1 : Nat) ≠ 0; omega
      have H' := Lib.hid (H.out.trans (belGo_stop (cs := clim zs rs) (ls := ls') (z := z) (h := h) (n := t) hrf gx h0))
      have lb1 := lens_bound HL.out (i := r) (by rw [hl.out]; omega)
      clear gx H hxl hxa hxb
      go_wp2_with fail
      refine (isPair_any x false _ (by simpa [isP] using h0)).mono ?_
      rintro e1 w5 ⟨rfl, hb5⟩
      have b5 := hb.trans (hb5.mono hb.size)
      go_wp2_with fail
      go_ret2
      exact ⟨by rw [e.out, H'.out]; rfl, b4.trans (b5.mono b4.size)⟩
set_option maxHeartbeats 2000000 in
set_option maxRecDepth 100000 in
theorem specBelow_any (A : Option Addr) (n c : Nat) (rs : List Fac) (D : Option Addr) (m d : Nat) (zs : List Int) (z : Int) (w : World) (hn : n ≤ 1048576) (hr : Rd w w.heap.size A n 3 Fac.cells rs)
    (hok : ∀ f ∈ rs, f.l.size ≤ maxLen) (hm : m ≤ 1048576) (hd : Rd w w.heap.size D m 1 intE zs) (hz : -9223372036854775808 ≤ z ∧ z ≤ 9223372036854775807) :
    Calls Try.prog 31 #[.agg #[.slice A n c], .slice D m d, .int .i64 z] w (Ret (belV rs zs z) w) := by
  have hb0 : Below w.heap.size w (w.alloc (.cells #[.slice A n c] 30)) := by (repeat first | exact Below.refl _ _ | assumption | refine Below.drew ?_ | refine Below.alloc ?_ (by first | exact Nat.le_refl _ | (simp; done) | omega | (simp; omega)) _ | refine Below.setCell ?_ (by first | exact Nat.le_refl _ | (simp; done) | omega | (simp; omega)) _)
  have hB0 := Lib.hid (Blk.new w 30 #[.slice A n c])
  have hl := Lib.hid hr.len
  have HR := Lib.hid hr; clear hr
  have HD := Lib.hid hd; clear hd
  have HO := Lib.hid hok; clear hok
  have HC := Lib.hid (wsC_cases rs zs)
  obtain ⟨hz0, hz1⟩ := hz
  go_enter Try.func31, Try.ntmps31
  go_wp2_with fail
  refine (l05Weights_any w.heap.size A n c rs D m d zs _ hB0.out.lt (hB0.out.cell 0) hn (HR.out.next hb0) HO.out hm (HD.out.next hb0)).mono ?_
  rintro e1 w1 ⟨rfl, hb1⟩
  have b1 := hb0.trans (hb1.mono hb0.size)
  have B1 := Lib.hid (hB0.out.next hb1)
  rcases HC.out with ⟨h1, h2⟩ | ⟨h1, h2, h3, h4⟩
  · have e0 : (wsC rs zs != 0) = true := by simpa using h1
    have e := Lib.hid (show belV rs zs z = tup2 0 (wsC rs zs) by unfold belV; rw [if_neg h1])
    generalize wsC rs zs = k at *
    clear h1 h2 HC
    go_wp2_with fail
    go_ret2
    exact ⟨by rw [e.out]; rfl, b1⟩
  have H1 := Lib.hid h1
  obtain ⟨ls, hls⟩ := Option.isSome_iff_exists.1 h2
  have Hk := Lib.hid hls
  have HL := Lib.hid (gOk_lens hls).1
  have hll := Lib.hid (gOk_lens hls).2.2
  have hn4 : n ≤ 400 := by have := (gOk_lens hls).2.1; have := hl.out; omega
  have e9 := Lib.hid (show lensOf rs = ls by unfold lensOf; rw [HL.out]; rfl)
  have HWs := Lib.hid h3
  rw [h1]
  obtain rfl : m = 4 := by have := h3.1; have := HD.out.len; omega
  have HW := Lib.hid (wf_of HL.out)
  clear h1 h2 h3 h4 HC hls
  by_cases q1 : 0 < z
  · have e := Lib.hid (show belV rs zs z = tup2 0 0 by unfold belV; rw [if_pos H1.out, if_pos (by omega)])
    go_wp2_with fail
    go_ret2
    exact ⟨by rw [e.out]; rfl, b1⟩
  have cg1 := B1.out.cell 0
  have lg1 := B1.out.lt
  go_wp2_with fail
  refine (l05Climbs_any w.heap.size A n c rs D d zs ls w1 lg1 cg1 hn (HR.out.next b1) HL.out HWs.out (HD.out.next b1)).mono ?_
  rintro e1 w3 ⟨A3, c3, rfl, own3, hb3⟩
  have hfl := Lib.hid (full_len Cl.nil (climF zs) climG (rs := rs))
  rw [hfl.out, hl.out] at own3 ⊢
  have b3 := b1.trans (hb3.mono b1.size)
  have B3 := Lib.hid (B1.out.next hb3)
  have r3 := Lib.hid (Rd.of_own (fun y _ => lenCl y) (hfl.out.trans hl.out) own3)
  clear cg1 lg1 own3
  have cg3 := B3.out.cell 0
  have lg3 := B3.out.lt
  by_cases h0 : n = 0
  · have e := Lib.hid (show belV rs zs z = tup2 0 6 by unfold belV; rw [if_pos H1.out, if_neg (by omega), if_pos (by rw [show climT zs rs = Cl.nil by unfold climT; rw [if_pos (by rw [hl.out]; exact h0)]]; show z ≤ 0; omega)])
    subst h0
    go_wp2_with fail
    go_ret2
    exact ⟨by rw [e.out]; rfl, b3⟩
  have hn0 : 0 < n := by omega
  obtain ⟨p0, o0, y0, rfl, hB0', gy0, v0, v1, v2⟩ := r3.out.cl (k := n - 1) (by omega)
  have hct : climT zs rs = y0 := by
    unfold climT
    rw [if_neg (by rw [hl.out]; exact h0), hl.out, List.getD_eq_getElem?_getD, gy0]; rfl
  have hj : ((n : Int) - 1).toNat = n - 1 := by omega
  have u0 : IntKind.i64.wrap ((n : Int) - 1) = (n : Int) - 1 := IntWalk.i64_in _ (by omega)
  have Hct := Lib.hid hct
  clear gy0 hct
  by_cases q2 : z ≤ y0.l
  · have e := Lib.hid (show belV rs zs z = tup2 0 6 by unfold belV; rw [if_pos H1.out, if_neg (by omega), if_pos (by rw [Hct.out]; exact q2)])
    go_wp2_with fail
    go_ret2
    exact ⟨by rw [e.out]; rfl, b3⟩
  have e := Lib.hid (show belV rs zs z = tup2 (belGo (clim zs rs) ls rs z rs.length (rs.length - 1) 0 0 + 1) 0 by unfold belV; rw [if_pos H1.out, if_neg (by omega), if_neg (by rw [Hct.out]; omega), e9.out])
  rw [hl.out] at e
  go_wp2_with fail
  refine (l02Lengths_any w.heap.size A n c rs w3 lg3 cg3 (by omega) (HR.out.next b3) HO.out).mono ?_
  rintro e1 w4 ⟨hb4, ⟨ls', A2, c2, hg2, rfl, hown2⟩ | ⟨hg2, _⟩⟩
  case inr => exact absurd (hg2.symm.trans Hk.out) (by simp)
  obtain rfl : ls' = ls := Option.some.inj (hg2.symm.trans Hk.out)
  have r4 := Lib.hid (Rd.of_own (enc := intE) (fun _ _ => rfl) rfl hown2)
  have b4 := b3.trans (hb4.mono b3.size)
  have B4 := Lib.hid (B3.out.next hb4)
  have r5 := Lib.hid (r3.out.next hb4)
  rw [hll.out, hl.out] at r4 ⊢
  clear cg3 lg3 hown2 hg2 v0 v1 v2 hj u0
  have HRr := Lib.hid (HR.out.next b4)
  have cg4 := B4.out.cell 0
  have lg4 := B4.out.lt
  go_wp2_with fail
  go_loopw [10, 13, 14] (fun r_ h_ n_ w' => ∃ (r f : Nat) (h t : Int), r_ = .int .i64 r ∧ n_ = .int .i64 t ∧ h_ = .int .i64 h ∧ r < n ∧ r < f ∧ Below w4.heap.size w4 w' ∧
      (0 ≤ t ∧ t + ls'.getD r 0 ≤ 1000000000000000 ∧ - (9 * t) ≤ h ∧ h ≤ 9 * t) ∧ Hid (belGo (clim zs rs) ls' rs z n (n - 1) 0 0 = belGo (clim zs rs) ls' rs z f r h t)) (fun r_ _ _ _ => (intOf r_).toNat)
  case atStart =>
    have := lens_bound HL.out (i := n - 1) (by rw [hl.out]; omega)
    exact ⟨n - 1, n, 0, 0, by go_num, rfl, rfl, by omega, by omega, Below.refl _ _, by omega, Lib.hid rfl⟩
  case round =>
    obtain ⟨r, f, h, t, rfl, rfl, rfl, hrn, hrf, hb, ⟨g1, g2, g3, g4⟩, H⟩ := hrel
    obtain ⟨b, o, x, rfl, hB, gx, c0, c1, c2⟩ := (HRr.out.next hb).fac hrn
    have cg := (B4.out.next hb).cell 0
    have lg := (B4.out.next hb).lt
    rcases HW.out r x gx with ⟨h0, ha0, ha1, hb0', hb1'⟩ | ⟨cc, hcc, hxl, hxa, hxb⟩
    · have e5 := size0 h0
      obtain ⟨p1, o1, y1, hA1, hB1, gy, d0, d1, d2⟩ := (r5.out.next hb).cl (k := x.a.toNat) (by omega)
      obtain ⟨rfl, rfl⟩ : p0 = p1 ∧ o0 = o1 := by injection hA1 with hA1; injection hA1 with h1 h2; exact ⟨h1, h2⟩
      obtain ⟨p2, o2, y2, rfl, hB2, gl, l0⟩ := (show Rd wr wr.heap.size A2 n 1 (fun s => [.int .i64 s]) ls' from r4.out.next hb).int (k := x.a.toNat) (by omega)
      have ec := (show (clim zs rs).getD x.a.toNat Cl.nil = y1 by rw [List.getD_eq_getElem?_getD, gy]; rfl)
      have el := (show ls'.getD x.a.toNat 0 = y2 by rw [List.getD_eq_getElem?_getD, gl]; rfl)
      have H' := belGo_step (cs := clim zs rs) (ls := ls') (z := z) (h := h) (n := t) hrf gx h0
      rw [← H.out, ec, el] at H'
      have H2 := Lib.hid H'
      have cb := clim_bound HL.out HWs.out (k := x.a.toNat) (by rw [hl.out]; omega)
      have lp := lens_pair HL.out gx h0
      have lb1 := lens_bound HL.out (i := x.a.toNat) (by rw [hl.out]; omega)
      have lb2 := lens_bound HL.out (i := x.b.toNat) (by rw [hl.out]; omega)
      rw [ec, el] at cb
      rw [el] at lp lb1
      obtain ⟨k1, k2, k3, k4, k5, k6⟩ := cb
      have u1 : IntKind.i64.wrap (t + y2) = t + y2 := IntWalk.i64_in _ (by omega)
      have u2 : IntKind.i64.wrap (h + y1.t) = h + y1.t := IntWalk.i64_in _ (by clear u1; omega)
      clear H' gx gy gl H hA1 h0 d2
      by_cases q4 : h + y1.l < z
      · rw [if_pos (by omega)] at H2
        clear u1 u2
        go_wp2_with fail
        go_roundw
        case rel => exact ⟨x.a.toNat, f - 1, h, t, by go_num, rfl, rfl, by omega, by omega, hb.alloc hb.size _, ⟨g1, by omega, g3, g4⟩, H2⟩
        case measure => simp [intOf]; omega
      · rw [if_neg (by omega)] at H2
        go_wp2_with fail
        clear u1 u2
        go_roundw
        case rel => exact ⟨x.b.toNat, f - 1, h + y1.t, t + y2, by go_num, rfl, rfl, by omega, by omega, hb.alloc hb.size _, ⟨by omega, by omega, by omega, by omega⟩, H2⟩
        case measure => simp [intOf]; omega
    · have h0 : x.l.size ≠ 0 := by rw [hxl]; show (1 : Nat) ≠ 0; omega
      have H' := Lib.hid (H.out.trans (belGo_stop (cs := clim zs rs) (ls := ls') (z := z) (h := h) (n := t) hrf gx h0))
      have lb1 := lens_bound HL.out (i := r) (by rw [hl.out]; omega)
      have e5 := size1 h0
      have e6 := size1' h0
      clear gx H hxl hxa hxb h0
      go_wp2_with fail
      go_ret2
      exact ⟨by rw [e.out, H'.out]; rfl, b4.trans (hb.mono b4.size)⟩
end Go.Proofs.Ytpkhkippdigcjaa
