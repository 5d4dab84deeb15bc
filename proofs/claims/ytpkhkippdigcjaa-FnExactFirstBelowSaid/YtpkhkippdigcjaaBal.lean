/-
  Is a word balanced: in the program and in the reference.
-/
import Derived.Test.YtpkhkippdigcjaaClimbT
namespace Go.Proofs.Ytpkhkippdigcjaa
open Go.RowKit

def balW (a b : Nat) : List Int := (([0, 0, 0, 0] : List Int).set a 1).set b (-1)
theorem balW_ok (a b : Nat) : WsOk (balW a b) := by
  unfold WsOk balW
  refine ⟨by simp, fun z hz => ?_⟩
  rcases List.mem_or_eq_of_mem_set hz with h | rfl
  · rcases List.mem_or_eq_of_mem_set h with h | rfl
    · simp at h; omega
    · omega
  · omega
theorem balW_arr (a b : Nat) : ((#[Value.int .i64 0, .int .i64 0, .int .i64 0, .int .i64 0] : Array Value).setIfInBounds a (.int .i64 1)).setIfInBounds b (.int .i64 (-1)) = ((balW a b).map (Value.int .i64)).toArray := by
  apply Array.ext'
  simp [balW, List.map_set]
/-- four numbers in a block of their own -/
theorem rd_blk {w : World} {g : Nat} {t : TypeId} {ws : List Int} {n : Nat} (h : Blk w g t (ws.map (Value.int .i64)).toArray) (hn : ws.length = n) : Rd w w.heap.size (some ⟨g, 0, none⟩) n 1 intE ws := by
  refine ⟨hn, fun _ => ⟨g, 0, rfl, h.lt, fun k x hx j v hv => ?_⟩⟩
  have hj : j = 0 := by have := (List.getElem?_eq_some_iff.1 hv).1; simp [intE] at this; exact this
  subst hj
  rw [h.cell]
  obtain rfl : Value.int .i64 x = v := by simpa [intE] using hv
  simp [hx]
def balV (rs : List Fac) (o s : ByteArray) : Value :=
  if (gOk rs).isSome = false then .tuple #[.bool false, .int .i64 1] else if letT o = false then .tuple #[.bool false, .int .i64 1] else if letT s = false then .tuple #[.bool false, .int .i64 1]
  else if o = s then .tuple #[.bool false, .int .i64 2] else .tuple #[.bool (decide ((climT (balW (letN o) (letN s)) rs).l = 0) && decide ((climT (balW (letN o) (letN s)) rs).t = 0)), .int .i64 0]
theorem balV_form (rs : List Fac) (o s : ByteArray) : ∃ b k, balV rs o s = .tuple #[.bool b, .int .i64 k] := by
  unfold balV
  split
  · exact ⟨_, _, rfl⟩
  split
  · exact ⟨_, _, rfl⟩
  split
  · exact ⟨_, _, rfl⟩
  split
  · exact ⟨_, _, rfl⟩
  · exact ⟨_, _, rfl⟩
theorem balV1 {rs : List Fac} {o s : ByteArray} (h : (gOk rs).isSome = false) : balV rs o s = .tuple #[.bool false, .int .i64 1] := by unfold balV; rw [if_pos h]
theorem balV2 {rs : List Fac} {o s : ByteArray} (h : (gOk rs).isSome = true) (h2 : letT o = false) : balV rs o s = .tuple #[.bool false, .int .i64 1] := by unfold balV; rw [if_neg (by rw [h]; decide), if_pos h2]
theorem balV3 {rs : List Fac} {o s : ByteArray} (h : (gOk rs).isSome = true) (h2 : letT o = true) (h3 : letT s = false) : balV rs o s = .tuple #[.bool false, .int .i64 1] := by unfold balV; rw [if_neg (by rw [h]; decide), if_neg (by rw [h2]; decide), if_pos h3]
theorem balV4 {rs : List Fac} {o : ByteArray} (h : (gOk rs).isSome = true) (h2 : letT o = true) : balV rs o o = .tuple #[.bool false, .int .i64 2] := by unfold balV; rw [if_neg (by rw [h]; decide), if_neg (by rw [h2]; decide), if_neg (by rw [h2]; decide), if_pos rfl]
theorem balV5 {rs : List Fac} {o s : ByteArray} (h : (gOk rs).isSome = true) (h2 : letT o = true) (h3 : letT s = true) (hne : o ≠ s) : balV rs o s = .tuple #[.bool (decide ((climT (balW (letN o) (letN s)) rs).l = 0) && decide ((climT (balW (letN o) (letN s)) rs).t = 0)), .int .i64 0] := by
  unfold balV; rw [if_neg (by rw [h]; decide), if_neg (by rw [h2]; decide), if_neg (by rw [h3]; decide), if_neg hne]
theorem clim_low (ws : List Int) {rs : List Fac} (hwf : WF rs) : (climT ws rs).l ≤ 0 := by
  unfold climT
  split
  · exact Int.le_refl _
  · refine full_ind Cl.nil (climF ws) climG hwf (fun _ x => x.l ≤ 0) (fun k r _ _ => ?_) (fun k r a b _ _ _ _ _ _ ha _ => ?_) _ (by omega)
    · show min 0 _ ≤ 0
      omega
    · show min a.l _ ≤ 0
      omega

theorem info_i64 : (Try.prog.info? 2).map (fun i => (i.zero, i.size, i.bytes)) = some (some (.int .i64 0), 1, 8) := by kernel_rfl
theorem made4 : madeCells (Value.int .i64 0).cells (4 * 1) = #[.int .i64 0, .int .i64 0, .int .i64 0, .int .i64 0] := by
  apply Array.ext
  · simp [size_madeCells]
  · intro i h1 h2
    have h3 : i < 4 := h2
    match i, h3 with
    | 0, _ => simp [madeCells, Value.cells]
    | 1, _ => simp [madeCells, Value.cells]
    | 2, _ => simp [madeCells, Value.cells]
    | 3, _ => simp [madeCells, Value.cells]
theorem make4 (W : World) : (Instr.makeSlice 41 (.int .i64 4) (.int .i64 4)).run Try.prog W = .ok (.slice (some ⟨W.heap.size, 0, none⟩) 4 4) (W.alloc (.cells #[.int .i64 0, .int .i64 0, .int .i64 0, .int .i64 0] 2)) := by
  obtain ⟨i0, hi, hz0, hz1, hz2⟩ := info_parts info_i64
  have hmk := run_make_rowN (P := Try.prog) 41 2 i0 _ Try.underlying41 hi hz0 .i64 .i64 4 4 (Nat.le_refl _) (by rw [hz2]; omega) (by omega) W
  rw [hz1, made4] at hmk
  exact hmk
theorem foldAll_len {α : Type} (d : α) (F : Nat → α) (G : α → α → Fac → α) (z : α) (rs : List Fac) : 1 ≤ (foldAll d F G z rs).length ∧ (foldAll d F G z rs).length ≤ rs.length + 1 := by
  unfold foldAll
  split
  · simp
  · rw [foldG_len]; simp; omega
/-- the last of what is made -/
theorem foldAll_top {α : Type} (d : α) (F : Nat → α) (G : α → α → Fac → α) (z : α) (rs : List Fac) : (foldAll d F G z rs).getD ((foldAll d F G z rs).length - 1) d = if rs.length = 0 then z else (full d F G rs).getD (rs.length - 1) d := by
  unfold foldAll
  split
  · rfl
  · have := full_len d F G (rs := rs)
    unfold full at this ⊢
    rw [this]
theorem top_climT (ws : List Int) (rs : List Fac) : (foldAll Cl.nil (climF ws) climG Cl.nil rs).getD ((foldAll Cl.nil (climF ws) climG Cl.nil rs).length - 1) Cl.nil = climT ws rs := foldAll_top _ _ _ _ rs
set_option maxHeartbeats 1000000 in
set_option maxRecDepth 100000 in
theorem specBal_any (A : Option Addr) (n c : Nat) (rs : List Fac) (o s : ByteArray) (w : World) (hn : n ≤ 1048576) (hr : Rd w w.heap.size A n 3 Fac.cells rs) (hok : ∀ f ∈ rs, f.l.size ≤ maxLen) (ho : o.size ≤ maxLen) (hs : s.size ≤ maxLen) :
    Calls Try.prog 16 #[.agg #[.slice A n c], .string o, .string s] w (Ret (balV rs o s) w) := by
  have hl := Lib.hid hr.len
  have hb0 : Below w.heap.size w (w.alloc (.cells #[.slice A n c] 30)) := by (repeat first | exact Below.refl _ _ | assumption | refine Below.drew ?_ | refine Below.alloc ?_ (by first | exact Nat.le_refl _ | (simp; done) | omega | (simp; omega)) _ | refine Below.setCell ?_ (by first | exact Nat.le_refl _ | (simp; done) | omega | (simp; omega)) _)
  have hB0 := Lib.hid (Blk.new w 30 #[.slice A n c])
  have hr0 := Lib.hid (hr.next hb0)
  have HO := Lib.hid hok; clear hok
  rcases hg : (gOk rs).isSome with _ | _
  · have e := Lib.hid (balV1 (o := o) (s := s) hg)
    have Hg := Lib.hid hg; clear hg
    go_enter Try.func16, Try.ntmps16
    go_wp2_with fail
    refine (l02Ok_any w.heap.size A n c rs _ hB0.out.lt (hB0.out.cell 0) (by omega) hr0.out HO.out false Hg.out).mono ?_
    rintro e1 w1 ⟨rfl, hb1⟩
    go_wp2_with fail
    go_ret2
    exact ⟨by rw [e.out]; rfl, hb0.trans (hb1.mono hb0.size)⟩
  rcases h2 : letT o with _ | _
  · have e := Lib.hid (balV2 (s := s) hg h2)
    have Hg := Lib.hid hg; clear hg
    have H2 := Lib.hid h2; clear h2
    go_enter Try.func16, Try.ntmps16
    go_wp2_with fail
    refine (l02Ok_any w.heap.size A n c rs _ hB0.out.lt (hB0.out.cell 0) (by omega) hr0.out HO.out true Hg.out).mono ?_
    rintro e1 w1 ⟨rfl, hb1⟩
    go_wp2_with fail
    refine (specLetter_any o false _ ho H2.out).mono ?_
    rintro e1 w2 ⟨rfl, hb2⟩
    go_wp2_with fail
    go_ret2
    exact ⟨by rw [e.out]; rfl, hb0.trans ((hb1.trans (hb2.mono hb1.size)).mono hb0.size)⟩
  rcases h3 : letT s with _ | _
  · have e := Lib.hid (balV3 hg h2 h3)
    have Hg := Lib.hid hg; clear hg
    have H2 := Lib.hid h2; clear h2
    have H3 := Lib.hid h3; clear h3
    go_enter Try.func16, Try.ntmps16
    go_wp2_with fail
    refine (l02Ok_any w.heap.size A n c rs _ hB0.out.lt (hB0.out.cell 0) (by omega) hr0.out HO.out true Hg.out).mono ?_
    rintro e1 w1 ⟨rfl, hb1⟩
    go_wp2_with fail
    refine (specLetter_any o true _ ho H2.out).mono ?_
    rintro e1 w2 ⟨rfl, hb2⟩
    go_wp2_with fail
    refine (specLetter_any s false _ hs H3.out).mono ?_
    rintro e1 w3 ⟨rfl, hb3⟩
    go_wp2_with fail
    go_ret2
    exact ⟨by rw [e.out]; rfl, hb0.trans ((hb1.trans ((hb2.trans (hb3.mono hb2.size)).mono hb1.size)).mono hb0.size)⟩
  by_cases hne : o = s
  · subst hne
    have e := Lib.hid (balV4 hg h2)
    have Hg := Lib.hid hg; clear hg
    have H2 := Lib.hid h2; clear h2 h3
    go_enter Try.func16, Try.ntmps16
    go_wp2_with fail
    refine (l02Ok_any w.heap.size A n c rs _ hB0.out.lt (hB0.out.cell 0) (by omega) hr0.out HO.out true Hg.out).mono ?_
    rintro e1 w1 ⟨rfl, hb1⟩
    go_wp2_with fail
    refine (specLetter_any o true _ ho H2.out).mono ?_
    rintro e1 w2 ⟨rfl, hb2⟩
    go_wp2_with fail
    refine (specLetter_any o true _ ho H2.out).mono ?_
    rintro e1 w3 ⟨rfl, hb3⟩
    go_wp2_with fail
    go_ret2
    exact ⟨by rw [e.out]; rfl, hb0.trans ((hb1.trans ((hb2.trans (hb3.mono hb2.size)).mono hb1.size)).mono hb0.size)⟩
  · have e := Lib.hid (balV5 hg h2 h3 hne)
    have Hg := Lib.hid hg
    obtain ⟨ls, hls⟩ := Option.isSome_iff_exists.1 Hg.out
    have HL := Lib.hid (gOk_lens hls).1
    have hlow := Lib.hid (clim_low (balW (letN o) (letN s)) (wf_of HL.out))
    obtain ⟨c1, hc1, rfl⟩ := letT_one h2
    obtain ⟨c2, hc2, rfl⟩ := letT_one h3
    have H2 := Lib.hid h2
    have H3 := Lib.hid h3
    have Hc1 := Lib.hid hc1
    have Hc2 := Lib.hid hc2
    obtain ⟨k0, k1⟩ := letB_num hc1
    obtain ⟨m0, m1⟩ := letB_num hc2
    have e0 : (c1 == c2) = false := by
      rw [Bool.eq_false_iff]; intro h; exact hne (by rw [eq_of_beq h])
    have hd1 := Lib.hid (show letN ⟨#[c1]⟩ = c1.toNat - 97 from rfl)
    have hd2 := Lib.hid (show letN ⟨#[c2]⟩ = c2.toNat - 97 from rfl)
    clear hg h2 h3 hls hne hc1 hc2
    have hmk := make4
    go_enter Try.func16, Try.ntmps16
    go_wp2_with fail
    refine (l02Ok_any w.heap.size A n c rs _ hB0.out.lt (hB0.out.cell 0) (by omega) hr0.out HO.out true Hg.out).mono ?_
    rintro e1 w1 ⟨rfl, hb1⟩
    go_wp2_with fail
    refine (specLetter_any ⟨#[c1]⟩ true _ ho H2.out).mono ?_
    rintro e1 w2 ⟨rfl, hb2⟩
    go_wp2_with fail
    refine (specLetter_any ⟨#[c2]⟩ true _ hs H3.out).mono ?_
    rintro e1 w3 ⟨rfl, hb3⟩
    have b3 := hb0.trans ((hb1.trans ((hb2.trans (hb3.mono hb2.size)).mono hb1.size)).mono hb0.size)
    have B3 := Lib.hid (((hB0.out.next hb1).next hb2).next hb3)
    go_wp2_with fail
    refine namedC fun w4 H4 => ?_
    have hb4 : Below w3.heap.size w3 w4 := by rw [H4.out]; (repeat first | exact Below.refl _ _ | assumption | refine Below.drew ?_ | refine Below.alloc ?_ (by first | exact Nat.le_refl _ | (simp; done) | omega | (simp; omega)) _ | refine Below.setCell ?_ (by first | exact Nat.le_refl _ | (simp; done) | omega | (simp; omega)) _)
    have B4 : Blk w4 w3.heap.size 2 #[.int .i64 0, .int .i64 0, .int .i64 0, .int .i64 0] := by rw [H4.out]; exact Blk.new _ _ _
    have B4' := Lib.hid B4; clear B4 H4
    refine (l04Letter_any c1 Hc1.out _).mono ?_
    rintro e1 w5 ⟨rfl, hb5⟩
    have B5 := B4'.out.next hb5
    have j1 : Hid (((c1.toNat : Int) - 97).toNat = c1.toNat - 97) := Lib.hid (by omega)
    have j2 : Hid (((c2.toNat : Int) - 97).toNat = c2.toNat - 97) := Lib.hid (by omega)
    have f5 := B5.frozen (c1.toNat - 97)
    have l5 := B5.lt
    have c5 := B5.cell (c1.toNat - 97)
    rw [Array.getElem?_eq_getElem (show c1.toNat - 97 < 4 by omega)] at c5
    have i1 : (0 : Int) ≤ (c1.toNat : Int) - 97 := by omega
    have i2 : (c1.toNat : Int) - 97 < 4 := by omega
    have i3 : (0 : Int) ≤ (c2.toNat : Int) - 97 := by omega
    have i4 : (c2.toNat : Int) - 97 < 4 := by omega
    have B5' := Lib.hid B5; clear B5
    go_wp2_with fail
    refine namedC fun w6 H6 => ?_
    have B6 : Blk w6 w3.heap.size 2 ((#[Value.int .i64 0, .int .i64 0, .int .i64 0, .int .i64 0] : Array Value).setIfInBounds (c1.toNat - 97) (.int .i64 1)) := by rw [H6.out]; exact B5'.out.set_ _ _
    have hb6 : Below w3.heap.size w3 w6 := by rw [H6.out]; exact (hb4.trans (hb5.mono hb4.size)).setCell (Nat.le_refl _) _
    have B6' := Lib.hid B6; clear B6 H6 c5 f5
    refine (l04Letter_any c2 Hc2.out _).mono ?_
    rintro e1 w7 ⟨rfl, hb7⟩
    have B7 := B6'.out.next hb7
    have f7 := B7.frozen (c2.toNat - 97)
    have l7 := B7.lt
    have c7 := B7.cell (c2.toNat - 97)
    rw [Array.getElem?_eq_getElem (show c2.toNat - 97 < ((#[Value.int .i64 0, .int .i64 0, .int .i64 0, .int .i64 0] : Array Value).setIfInBounds (c1.toNat - 97) (.int .i64 1)).size by simp; omega)] at c7
    have B7' := Lib.hid B7; clear B7
    generalize ((#[Value.int .i64 0, .int .i64 0, .int .i64 0, .int .i64 0] : Array Value).setIfInBounds (c1.toNat - 97) (.int .i64 1))[c2.toNat - 97]'_ = v7 at c7
    go_wp2_with fail
    refine namedC fun w8 H8 => ?_
    have B8 : Blk w8 w3.heap.size 2 ((balW (letN ⟨#[c1]⟩) (letN ⟨#[c2]⟩)).map (Value.int .i64)).toArray := by
      rw [← balW_arr, hd1.out, hd2.out, H8.out]; exact B7'.out.set_ _ _
    have hb8 : Below w3.heap.size w3 w8 := by rw [H8.out]; exact (hb6.trans (hb7.mono hb6.size)).setCell (Nat.le_refl _) _
    have B8' := Lib.hid B8; clear B8 H8 c7 f7
    generalize hws : balW (letN ⟨#[c1]⟩) (letN ⟨#[c2]⟩) = ws at *
    have hwk : WsOk ws := by rw [← hws]; exact balW_ok _ _
    have B9 := B3.out.next hb8
    refine (l05Climb_any w.heap.size A n c rs _ 4 ws ls w8 B9.lt (B9.cell 0) hn ((((((hr0.out.next hb1).next hb2).next hb3).next hb8))) HL.out hwk (rd_blk B8'.out hwk.1)).mono ?_
    rintro e1 w9 ⟨rfl, hb9⟩
    have b9 := b3.trans ((hb8.trans (hb9.mono hb8.size)).mono b3.size)
    generalize climT ws rs = z at *
    clear hws hwk
    by_cases q1 : z.l = 0
    all_goals
      have q2 : decide (0 ≤ z.l) = decide (z.l = 0) := by have := hlow.out; rw [Bool.eq_iff_iff]; simp; omega
      go_wp2_with fail
      go_ret2
      refine ⟨?_, b9.alloc b9.size _⟩
      rw [e.out]
      simp [q1]
      try rfl
set_option maxHeartbeats 1000000 in
set_option maxRecDepth 100000 in
theorem implBal_any (A : Option Addr) (n c : Nat) (rs : List Fac) (o s : ByteArray) (w : World) (hn : n ≤ 1048576) (hr : Rd w w.heap.size A n 3 Fac.cells rs) (hok : ∀ f ∈ rs, f.l.size ≤ maxLen) (ho : o.size ≤ maxLen) (hs : s.size ≤ maxLen) :
    Calls Try.prog 17 #[.agg #[.slice A n c], .string o, .string s] w (Ret (balV rs o s) w) := by
  have hl := Lib.hid hr.len
  have hb0 : Below w.heap.size w (w.alloc (.cells #[.slice A n c] 30)) := by (repeat first | exact Below.refl _ _ | assumption | refine Below.drew ?_ | refine Below.alloc ?_ (by first | exact Nat.le_refl _ | (simp; done) | omega | (simp; omega)) _ | refine Below.setCell ?_ (by first | exact Nat.le_refl _ | (simp; done) | omega | (simp; omega)) _)
  have hB0 := Lib.hid (Blk.new w 30 #[.slice A n c])
  have hr0 := Lib.hid (hr.next hb0)
  have HO := Lib.hid hok; clear hok
  rcases hg : (gOk rs).isSome with _ | _
  · have e := Lib.hid (balV1 (o := o) (s := s) hg)
    have Hg := Lib.hid hg; clear hg
    go_enter Try.func17, Try.ntmps17
    go_wp2_with fail
    refine (validG_any A n c rs _ (by omega) hr0.out HO.out false Hg.out).mono ?_
    rintro e1 w1 ⟨rfl, hb1⟩
    go_wp2_with fail
    go_ret2
    exact ⟨by rw [e.out]; rfl, hb0.trans (hb1.mono hb0.size)⟩
  rcases h2 : letT o with _ | _
  · have e := Lib.hid (balV2 (s := s) hg h2)
    have Hg := Lib.hid hg; clear hg
    have H2 := Lib.hid h2; clear h2
    go_enter Try.func17, Try.ntmps17
    go_wp2_with fail
    refine (validG_any A n c rs _ (by omega) hr0.out HO.out true Hg.out).mono ?_
    rintro e1 w1 ⟨rfl, hb1⟩
    go_wp2_with fail
    refine (isLetterText_any o false _ ho H2.out).mono ?_
    rintro e1 w2 ⟨rfl, hb2⟩
    go_wp2_with fail
    go_ret2
    exact ⟨by rw [e.out]; rfl, hb0.trans ((hb1.trans (hb2.mono hb1.size)).mono hb0.size)⟩
  rcases h3 : letT s with _ | _
  · have e := Lib.hid (balV3 hg h2 h3)
    have Hg := Lib.hid hg; clear hg
    have H2 := Lib.hid h2; clear h2
    have H3 := Lib.hid h3; clear h3
    go_enter Try.func17, Try.ntmps17
    go_wp2_with fail
    refine (validG_any A n c rs _ (by omega) hr0.out HO.out true Hg.out).mono ?_
    rintro e1 w1 ⟨rfl, hb1⟩
    go_wp2_with fail
    refine (isLetterText_any o true _ ho H2.out).mono ?_
    rintro e1 w2 ⟨rfl, hb2⟩
    go_wp2_with fail
    refine (isLetterText_any s false _ hs H3.out).mono ?_
    rintro e1 w3 ⟨rfl, hb3⟩
    go_wp2_with fail
    go_ret2
    exact ⟨by rw [e.out]; rfl, hb0.trans ((hb1.trans ((hb2.trans (hb3.mono hb2.size)).mono hb1.size)).mono hb0.size)⟩
  by_cases hne : o = s
  · subst hne
    have e := Lib.hid (balV4 hg h2)
    have Hg := Lib.hid hg; clear hg
    have H2 := Lib.hid h2; clear h2 h3
    go_enter Try.func17, Try.ntmps17
    go_wp2_with fail
    refine (validG_any A n c rs _ (by omega) hr0.out HO.out true Hg.out).mono ?_
    rintro e1 w1 ⟨rfl, hb1⟩
    go_wp2_with fail
    refine (isLetterText_any o true _ ho H2.out).mono ?_
    rintro e1 w2 ⟨rfl, hb2⟩
    go_wp2_with fail
    refine (isLetterText_any o true _ ho H2.out).mono ?_
    rintro e1 w3 ⟨rfl, hb3⟩
    go_wp2_with fail
    go_ret2
    exact ⟨by rw [e.out]; rfl, hb0.trans ((hb1.trans ((hb2.trans (hb3.mono hb2.size)).mono hb1.size)).mono hb0.size)⟩
  · have e := Lib.hid (balV5 hg h2 h3 hne)
    have Hg := Lib.hid hg
    obtain ⟨ls, hls⟩ := Option.isSome_iff_exists.1 Hg.out
    have HL := Lib.hid (gOk_lens hls).1
    have hlow := Lib.hid (clim_low (balW (letN o) (letN s)) (wf_of HL.out))
    obtain ⟨c1, hc1, rfl⟩ := letT_one h2
    obtain ⟨c2, hc2, rfl⟩ := letT_one h3
    have H2 := Lib.hid h2
    have H3 := Lib.hid h3
    have Hc1 := Lib.hid hc1
    have Hc2 := Lib.hid hc2
    obtain ⟨k0, k1⟩ := letB_num hc1
    obtain ⟨m0, m1⟩ := letB_num hc2
    have e0 : (c1 == c2) = false := by
      rw [Bool.eq_false_iff]; intro h; exact hne (by rw [eq_of_beq h])
    have hd1 := Lib.hid (show letN ⟨#[c1]⟩ = c1.toNat - 97 from rfl)
    have hd2 := Lib.hid (show letN ⟨#[c2]⟩ = c2.toNat - 97 from rfl)
    clear hg h2 h3 hls hne hc1 hc2
    have hmk := make4
    go_enter Try.func17, Try.ntmps17
    go_wp2_with fail
    refine (validG_any A n c rs _ (by omega) hr0.out HO.out true Hg.out).mono ?_
    rintro e1 w1 ⟨rfl, hb1⟩
    go_wp2_with fail
    refine (isLetterText_any ⟨#[c1]⟩ true _ ho H2.out).mono ?_
    rintro e1 w2 ⟨rfl, hb2⟩
    go_wp2_with fail
    refine (isLetterText_any ⟨#[c2]⟩ true _ hs H3.out).mono ?_
    rintro e1 w3 ⟨rfl, hb3⟩
    have b3 := hb0.trans ((hb1.trans ((hb2.trans (hb3.mono hb2.size)).mono hb1.size)).mono hb0.size)
    have B3 := Lib.hid (((hB0.out.next hb1).next hb2).next hb3)
    go_wp2_with fail
    refine named fun w4 H4 => ?_
    have hb4 : Below w3.heap.size w3 w4 := by rw [H4.out]; (repeat first | exact Below.refl _ _ | assumption | refine Below.drew ?_ | refine Below.alloc ?_ (by first | exact Nat.le_refl _ | (simp; done) | omega | (simp; omega)) _ | refine Below.setCell ?_ (by first | exact Nat.le_refl _ | (simp; done) | omega | (simp; omega)) _)
    have B4 : Blk w4 w3.heap.size 2 #[.int .i64 0, .int .i64 0, .int .i64 0, .int .i64 0] := by rw [H4.out]; exact Blk.new _ _ _
    have f41 := B4.frozen (c1.toNat - 97)
    have f42 := B4.frozen (c2.toNat - 97)
    have l4 := B4.lt
    have c41 := B4.cell (c1.toNat - 97)
    rw [Array.getElem?_eq_getElem (show c1.toNat - 97 < 4 by omega)] at c41
    have c42 := B4.cell (c2.toNat - 97)
    rw [Array.getElem?_eq_getElem (show c2.toNat - 97 < 4 by omega)] at c42
    have i1 : (0 : Int) ≤ (c1.toNat : Int) - 97 := by omega
    have i2 : (c1.toNat : Int) - 97 < 4 := by omega
    have i3 : (0 : Int) ≤ (c2.toNat : Int) - 97 := by omega
    have i4 : (c2.toNat : Int) - 97 < 4 := by omega
    have B4' := Lib.hid B4; clear B4 H4
    have z1 : (0 : Nat) < (⟨#[c1]⟩ : ByteArray).size := show 0 < 1 by omega
    have z2 : (0 : Nat) < (⟨#[c2]⟩ : ByteArray).size := show 0 < 1 by omega
    have v1 : IntKind.u8.wrap ((((⟨#[c1]⟩ : ByteArray)[0]'z1).toNat : Int) - 97) = (c1.toNat : Int) - 97 := by show ((c1.toNat : Int) - 97) % 256 = _; omega
    have v2 : IntKind.u8.wrap ((((⟨#[c2]⟩ : ByteArray)[0]'z2).toNat : Int) - 97) = (c2.toNat : Int) - 97 := by show ((c2.toNat : Int) - 97) % 256 = _; omega
    have t1 : ((c1.toNat : Int) - 97).toNat = c1.toNat - 97 := by omega
    have t2 : ((c2.toNat : Int) - 97).toNat = c2.toNat - 97 := by omega
    have n0 : c1.toNat ≠ c2.toNat := fun h => by
      have : c1 = c2 := UInt8.toNat_inj.1 h
      rw [this] at e0; simp at e0
    have n1 : ¬ (c1.toNat - 97 = c2.toNat - 97) := by omega
    have n2 : ¬ (c2.toNat - 97 = c1.toNat - 97) := by omega
    have c43 : (w4.setCell ⟨w3.heap.size, c1.toNat - 97, none⟩ (.int .i64 1)).cell? ⟨w3.heap.size, c2.toNat - 97, none⟩ = some (#[Value.int .i64 0, .int .i64 0, .int .i64 0, .int .i64 0][c2.toNat - 97]'(by simp; omega)) := by
      rw [(B4'.out.set_ (c1.toNat - 97) (.int .i64 1)).cell, Array.getElem?_setIfInBounds_ne n1, Array.getElem?_eq_getElem (show c2.toNat - 97 < 4 by omega)]
    go_region
    generalize hW8 : ((w4.setCell ⟨w3.heap.size, c1.toNat - 97, none⟩ (.int .i64 1)).setCell ⟨w3.heap.size, c2.toNat - 97, none⟩ (.int .i64 (-1))).drew = w8
    have H8 := Lib.hid hW8.symm; clear hW8
    have B8 : Blk w8 w3.heap.size 2 ((balW (letN ⟨#[c1]⟩) (letN ⟨#[c2]⟩)).map (Value.int .i64)).toArray := by
      rw [← balW_arr, hd1.out, hd2.out, H8.out]; exact (B4'.out.set_ _ _).set_ _ _
    have hb8 : Below w3.heap.size w3 w8 := by rw [H8.out]; exact ((hb4.setCell (Nat.le_refl _) _).setCell (Nat.le_refl _) _).drew
    have B8' := Lib.hid B8; clear B8 H8 c41 c42 c43 f41 f42
    generalize hws : balW (letN ⟨#[c1]⟩) (letN ⟨#[c2]⟩) = ws at *
    have hwk : WsOk ws := by rw [← hws]; exact balW_ok _ _
    have B9 := B3.out.next hb8
    have cg := B9.cell 0
    have lg := B9.lt
    have HT := Lib.hid (top_climT ws rs)
    have HN := Lib.hid (foldAll_len Cl.nil (climF ws) climG Cl.nil rs)
    go_wp2_with fail
    refine (climbs_any A n c rs _ 4 ws ls w8 hn ((((((hr0.out.next hb1).next hb2).next hb3).next hb8))) HL.out hwk (rd_blk B8'.out hwk.1)).mono ?_
    rintro e1 w9 ⟨A9, c9, rfl, own9, hb9⟩
    go_wp2_with fail
    have hln := hl.out
    refine (topC_any A9 _ c9 _ w9 (by have := HN.out; omega) (by have := HN.out; omega) (Rd.of_own (fun y _ => lenCl y) rfl own9)).mono ?_
    rintro e1 w10 ⟨rfl, hb10⟩
    rw [HT.out]
    have b10 := b3.trans ((hb8.trans ((hb9.trans (hb10.mono hb9.size)).mono hb8.size)).mono b3.size)
    generalize climT ws rs = z at *
    clear hws hwk own9
    by_cases q1 : z.l = 0
    all_goals
      have q2 : (z.l == 0) = decide (z.l = 0) := rfl
      go_wp2_with fail
      go_ret2
      refine ⟨?_, b10.alloc b10.size _⟩
      rw [e.out]
      simp [q1]
      try rfl
end Go.Proofs.Ytpkhkippdigcjaa
