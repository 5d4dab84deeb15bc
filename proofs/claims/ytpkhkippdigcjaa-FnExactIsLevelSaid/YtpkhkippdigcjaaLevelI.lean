/-
  Is a grammar level: in the program.
-/
import Derived.Test.YtpkhkippdigcjaaLevel
import Derived.Test.YtpkhkippdigcjaaIdxR
namespace Go.Proofs.Ytpkhkippdigcjaa
open Go.RowKit

theorem notLv (ds : List Int) (x : Fac) (h0 : x.l.size = 0) : (!lvRule ds x) = !inB (ds.getD x.a.toNat 0 - ds.getD x.b.toNat 0) (-1) 1 := by unfold lvRule; rw [if_pos h0]
set_option maxHeartbeats 1000000 in
set_option maxRecDepth 100000 in
theorem isLevel1_any (pb : Nat) (A : Option Addr) (m c : Nat) (ds : List Int) (x : Fac) (w : World) (hpb : pb < w.heap.size) (hp : w.cell? ⟨pb, 0, none⟩ = some (.slice A m c)) (hd : Rd w w.heap.size A m 1 intE ds)
    (hx : x.l.size = 0 → 0 ≤ x.a ∧ x.a < m ∧ 0 ≤ x.b ∧ x.b < m) (hv : ∀ i, i < m → 1 ≤ ds.getD i 0 ∧ ds.getD i 0 ≤ 1048576) :
    Calls Try.prog 41 #[x.val, .pointer (some ⟨pb, 0, none⟩)] w (Ret (.bool (!lvRule ds x)) w) := by
  have hl := Lib.hid hd.len
  have hisp : ∀ b, isP x = b → ∀ w', Calls Try.prog 42 #[.agg #[.string x.l, .int .i64 x.a, .int .i64 x.b]] w' (Ret (.bool b) w') := fun b h w' => isPair_any x b w' h
  unfold Fac.val
  by_cases h0 : x.l.size = 0
  · obtain ⟨ha0, ha1, hb0, hb1⟩ := hx h0
    obtain ⟨b, o, y1, rfl, hB, g1, e1⟩ := (show Rd w w.heap.size A m 1 (fun s => [.int .i64 s]) ds from hd).int (k := x.a.toNat) (by omega)
    obtain ⟨_, _, y2, hA, _, g2, e2⟩ := (show Rd w w.heap.size (some ⟨b, o, none⟩) m 1 (fun s => [.int .i64 s]) ds from hd).int (k := x.b.toNat) (by omega)
    obtain ⟨rfl, rfl⟩ : b = _ ∧ o = _ := by injection hA with hA; injection hA with h1 h2; exact ⟨h1, h2⟩
    clear hA
    have v1 := hv x.a.toNat (by omega)
    have v2 := hv x.b.toNat (by omega)
    rw [List.getD_eq_getElem?_getD, g1] at v1
    rw [List.getD_eq_getElem?_getD, g2] at v2
    simp only [Option.getD_some] at v1 v2
    have v10 := v1.1; have v11 := v1.2; have v20 := v2.1; have v21 := v2.2
    have hlv := Lib.hid (show (!lvRule ds x) = !inB (y1 - y2) (-1) 1 by rw [notLv ds x h0, List.getD_eq_getElem?_getD, g1, List.getD_eq_getElem?_getD, g2]; rfl)
    have hT := Lib.hid (hisp true (by simpa [isP] using h0))
    clear hisp h0 hx hv v1 v2 g1 g2
    rcases hin : inB (y1 - y2) (-1) 1 with _ | _
    all_goals
      have Hin := Lib.hid hin; clear hin
      go_enter Try.func41, Try.ntmps41
      go_wp2_with fail
      refine named fun w3 H3 => ?_
      have B3 : Blk w3 w.heap.size 57 #[.string x.l, .int .i64 x.a, .int .i64 x.b] := by rw [H3.out]; exact Blk.new _ _ _
      have hb3 : Below w.heap.size w w3 := by rw [H3.out]; (repeat first | exact Below.refl _ _ | assumption | refine Below.drew ?_ | refine Below.alloc ?_ (by first | exact Nat.le_refl _ | (simp; done) | omega | (simp; omega)) _ | refine Below.setCell ?_ (by first | exact Nat.le_refl _ | (simp; done) | omega | (simp; omega)) _)
      obtain ⟨d0, d1, d2⟩ := B3.three
      have hz3 := B3.lt
      have f0 := (hb3.cell (p := ⟨pb, 0, none⟩) hpb).trans hp
      have f1 := (hb3.cell (p := ⟨b, o + x.a.toNat, none⟩) hB).trans e1
      have f2 := (hb3.cell (p := ⟨b, o + x.b.toNat, none⟩) hB).trans e2
      have hp3 : pb < w3.heap.size := by omega
      have hB3 : b < w3.heap.size := by omega
      have hup := upc w3.heap.size w3
      refine wp_region_up w3.heap.size (by kernel_rfl) (by kernel_rfl) ?_
      repeat (go_big_quiet_step ((first | (go_at_call 42; exact Calls.up (Nat.le_refl _) (hT.out _)) | (go_at_call 43; exact Calls.up (Nat.le_refl _) (within_any (y1 - y2) (-1) 1 _ _ Hin.out)))))
      refine wpQuiet_nil ?_
      intro w4 hup_w4
      have hb4 := up_of hup_w4
      have hb34 := hb3.trans (hb4.mono hb3.size)
      go_wp2_with fail
      go_ret
      exact ⟨ret_bool (by rw [hlv.out, Hin.out]; rfl), hb34⟩
  · have hlv := Lib.hid (show (!lvRule ds x) = false by unfold lvRule; rw [if_neg h0]; rfl)
    have hT := Lib.hid (hisp false (by simpa [isP] using h0))
    clear hisp h0 hx hv
    go_enter Try.func41, Try.ntmps41
    go_wp2_with fail
    refine named fun w3 H3 => ?_
    have B3 : Blk w3 w.heap.size 57 #[.string x.l, .int .i64 x.a, .int .i64 x.b] := by rw [H3.out]; exact Blk.new _ _ _
    have hb3 : Below w.heap.size w w3 := by rw [H3.out]; (repeat first | exact Below.refl _ _ | assumption | refine Below.drew ?_ | refine Below.alloc ?_ (by first | exact Nat.le_refl _ | (simp; done) | omega | (simp; omega)) _ | refine Below.setCell ?_ (by first | exact Nat.le_refl _ | (simp; done) | omega | (simp; omega)) _)
    obtain ⟨d0, d1, d2⟩ := B3.three
    have hz3 := B3.lt
    have hup := upc w3.heap.size w3
    refine wp_region_up w3.heap.size (by kernel_rfl) (by kernel_rfl) ?_
    repeat (go_big_quiet_step ((go_at_call 42; exact Calls.up (Nat.le_refl _) (hT.out _))))
    refine wpQuiet_nil ?_
    intro w4 hup_w4
    have hb4 := up_of hup_w4
    have hb34 := hb3.trans (hb4.mono hb3.size)
    go_wp2_with fail
    go_ret
    exact ⟨ret_bool hlv.out.symm, hb34⟩
theorem any_not {α : Type} (p : α → Bool) (xs : List α) : (!(xs.any fun x => !p x)) = xs.all p := by
  induction xs with
  | nil => rfl
  | cons x r ih => simp [← ih]
theorem depths_all {rs : List Fac} : foldAll 0 depF depG 0 rs = if rs.length = 0 then [0] else depths rs := rfl
set_option maxHeartbeats 1000000 in
set_option maxRecDepth 100000 in
theorem implIsLevel_any (A : Option Addr) (n c : Nat) (rs : List Fac) (w : World) (hn : n ≤ 1048576) (hr : Rd w w.heap.size A n 3 Fac.cells rs) (hok : ∀ f ∈ rs, f.l.size ≤ maxLen) :
    Calls Try.prog 14 #[.agg #[.slice A n c]] w (Ret (lvTuple rs) w) := by
  have hl := Lib.hid hr.len
  have hb0 : Below w.heap.size w (w.alloc (.cells #[.slice A n c] 30)) := by (repeat first | exact Below.refl _ _ | assumption | refine Below.drew ?_ | refine Below.alloc ?_ (by first | exact Nat.le_refl _ | (simp; done) | omega | (simp; omega)) _ | refine Below.setCell ?_ (by first | exact Nat.le_refl _ | (simp; done) | omega | (simp; omega)) _)
  have hB0 := Lib.hid (Blk.new w 30 #[.slice A n c])
  have hr0 := hr.next hb0
  rcases hg : (gOk rs).isSome with _ | _
  · have Hg := Lib.hid hg; clear hg
    have e := Lib.hid (show lvTuple rs = .tuple #[.bool false, .int .i64 1] by unfold lvTuple; rw [Hg.out]; rfl)
    have hc := Lib.hid (validG_any A n c rs _ (by omega) hr0 hok false Hg.out)
    go_enter Try.func14, Try.ntmps14
    go_wp2_with fail
    refine hc.out.mono ?_
    rintro e1 w1 ⟨rfl, hb1⟩
    go_wp2_with fail
    go_ret2
    exact ⟨by rw [e.out]; rfl, hb0.trans (hb1.mono hb0.size)⟩
  · have Hg := Lib.hid hg; clear hg
    obtain ⟨ls, hls⟩ := Option.isSome_iff_exists.1 Hg.out
    have HW := Lib.hid (wf_of (gOk_lens hls).1)
    have hlen : n ≤ 400 := by have := (gOk_lens hls).2.1; have := hl.out; omega
    have e := Lib.hid (show lvTuple rs = .tuple #[.bool (lvAll rs), .int .i64 0] by unfold lvTuple; rw [Hg.out]; rfl)
    have hc := Lib.hid (validG_any A n c rs _ (by omega) hr0 hok true Hg.out)
    clear hls
    go_enter Try.func14, Try.ntmps14
    go_wp2_with fail
    refine hc.out.mono ?_
    rintro e1 w1 ⟨rfl, hb1⟩
    have b1 := hb0.trans (hb1.mono hb0.size)
    have cg1 := (hB0.out.next hb1).cell 0
    have lg1 := (hB0.out.next hb1).lt
    go_wp2_with fail
    refine (depths_any A n c rs w1 (by omega) (hr.next b1) HW.out).mono ?_
    rintro e2 w2 ⟨A2, c2, rfl, own2, hb2⟩
    have b2 := b1.trans (hb2.mono b1.size)
    have cg2 := ((hB0.out.next hb1).next hb2).cell 0
    have lg2 := ((hB0.out.next hb1).next hb2).lt
    have O2 := Lib.hid own2; clear own2 cg1 lg1
    go_wp2_with fail
    refine namedC fun w3 H3 => ?_
    have B3 : Blk w3 w2.heap.size 41 #[.slice A2 (foldAll 0 depF depG 0 rs).length c2] := by rw [H3.out]; exact Blk.new _ _ _
    have hb3 : Below w2.heap.size w2 w3 := by rw [H3.out]; (repeat first | exact Below.refl _ _ | assumption | refine Below.drew ?_ | refine Below.alloc ?_ (by first | exact Nat.le_refl _ | (simp; done) | omega | (simp; omega)) _ | refine Below.setCell ?_ (by first | exact Nat.le_refl _ | (simp; done) | omega | (simp; omega)) _)
    have own3 := own_next O2.out hb3
    have b3 := b2.trans (hb3.mono b2.size)
    refine (containsRule_any 41 (enterOk Try.func41 (by kernel_rfl) (by kernel_rfl)) #[.pointer (some ⟨w2.heap.size, 0, none⟩)] (fun x => !lvRule (foldAll 0 depF depG 0 rs) x) A n c rs w3 (by omega) (hr.next b3) ?_).mono ?_
    · intro k x hx w' hb'
      have hln := hl.out
      have hkn : k < rs.length := (List.getElem?_eq_some_iff.1 hx).1
      have hfa : foldAll 0 depF depG 0 rs = depths rs := by rw [depths_all, if_neg (by omega)]
      rw [hfa] at B3 own3 ⊢
      have hdl := depths_len rs
      have B4 := B3.next hb'
      have R4 := (Rd.of_own (enc := intE) (fun _ _ => rfl) hdl.symm.symm (by rw [hdl] at own3; exact own3)).next hb'
      rw [hdl] at B4
      refine isLevel1_any w2.heap.size A2 rs.length c2 (depths rs) x w' B4.lt (B4.cell 0) R4 (fun h0 => ?_) (fun i hi => ?_)
      · rcases HW.out k x hx with ⟨_, h1, h2, h3, h4⟩ | ⟨cc, _, hxl, _⟩
        · exact ⟨h1, by omega, h3, by omega⟩
        · rw [hxl] at h0; exact absurd h0 (show ¬ (1 : Nat) = 0 by omega)
      · have := depths_getD HW.out hi; omega
    rintro e4 w4 ⟨rfl, hb4⟩
    have e5 := Lib.hid (show (!(rs.any fun x => !lvRule (foldAll 0 depF depG 0 rs) x)) = lvAll rs by
      rw [any_not]
      unfold lvAll
      by_cases h0 : rs.length = 0
      · rw [List.eq_nil_of_length_eq_zero h0]; rfl
      · rw [depths_all, if_neg h0])
    go_wp2_with fail
    go_ret2
    exact ⟨by rw [e.out, ← e5.out]; rfl, b3.trans (hb4.mono b3.size)⟩
end Go.Proofs.Ytpkhkippdigcjaa
