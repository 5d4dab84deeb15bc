/-
  Is an edit valid: in the reference, joined.
-/
import Derived.Test.YtchlipklmdlklaaEditS
import Derived.Deep.RegionHeld3
namespace Go.Proofs.Ytchlipklmdlklaa
open Go.RowKit

theorem Calls.upR {P : Program} {f : FuncId} {args : Array Value} {B : Nat} {w : World} {x : Up B w} {v : Value} (hB : B ≤ w.heap.size) (h : Calls P f args x.w' (Ret v x.w')) : Calls P f args x.w' fun e w'' => e = .returned v ∧ ∃ y : Up B w, w'' = y.w' := Calls.up hB h
theorem edB_spec (k i j l : Int) (rs : List Fac) (mp : ByteArray) : edB k i j l rs mp = (inB k 1 7 && numB i true && numB j (usJ k) && numB l (usK k) && !(usJ k && decide (j < i)) && (usP k == decide (0 < rs.length)) && (gOk rs).isSome && (if usM k then mapB mp else decide (mp.size = 0))) := by
  unfold edB numB
  generalize (usP k == decide (0 < rs.length)) = x1
  generalize (gOk rs).isSome = x2
  generalize (if usM k = true then mapB mp else decide (mp.size = 0)) = x3
  generalize inB k 1 7 = x4
  by_cases hj : j = 0 <;> by_cases hl : l = 0 <;> cases usJ k <;> cases usK k <;> simp [hj, hl, inB]
set_option maxHeartbeats 4000000 in
set_option maxRecDepth 100000 in
theorem l07Ok_any (eb : Nat) (k i j l : Int) (A : Option Addr) (n c : Nat) (rs : List Fac) (mp : ByteArray) (w : World) (BE0 : Blk w eb 43 #[.int .i64 k, .int .i64 i, .int .i64 j, .int .i64 l, .slice A n c, .string mp]) (hn : n ≤ 1048576) (hr : Rd w w.heap.size A n 3 Fac.cells rs) (hok : ∀ f ∈ rs, f.l.size ≤ maxLen) (hs : mp.size ≤ maxLen) (b : Bool) (hb : edB k i j l rs mp = b) :
    Calls Try.prog 39 #[.pointer (some ⟨eb, 0, none⟩)] w (Ret (.bool b) w) := by
  have hl := Lib.hid hr.len
  have HR := Lib.hid hr; clear hr
  have HO := Lib.hid hok; clear hok
  have BE := Lib.hid BE0
  have E : Hid ((inB k 1 7 && numB i true && numB j (usJ k) && numB l (usK k) && !(usJ k && decide (j < i)) && (usP k == decide (0 < n)) && (gOk rs).isSome && (if usM k then mapB mp else decide (mp.size = 0))) = b) := Lib.hid (by rw [← hb, edB_spec, hl.out])
  clear hb BE0
  have HV := Lib.hid (fun (w' : World) (hb : Below w.heap.size w w') => l02OkO_any eb 4 A n c rs w' (BE.out.next hb).lt ((BE.out.next hb).cell 4) (by omega) (HR.out.next hb) HO.out (gOk rs).isSome rfl)
  have HM := Lib.hid (fun (w' : World) => specOk_any mp (okW mp) w' hs rfl)
  have a0 := BE.out.cell 0
  have lt0 := BE.out.lt
  rcases hk : inB k 1 7 with _ | _
  · have Hk := Lib.hid hk
    rw [hk] at E
    clear hk
    go_enter Try.func39, Try.ntmps39
    go_wp2_with fail
    refine (specIn_any k 1 7 false _ Hk.out).mono ?_
    rintro e1 w1 ⟨rfl, hb1⟩
    go_wp2_with fail
    go_ret
    exact ⟨ret_bool (by rw [← E.out]; simp), hb1⟩
  have hk2 : 1 ≤ k ∧ k ≤ 7 := by simpa [inB] using hk
  obtain ⟨us, hJ, hK, hP, hM⟩ := usS_has hk2
  have HUs := Lib.hid (fun (w' : World) => l07Uses_any k w' hk2)
  have Hk := Lib.hid hk
  rw [hk] at E
  clear hk hk2
  generalize usS k = us0 at *
  generalize e1 : numB i true = ni at *
  generalize e2 : numB j (usJ k) = nj at *
  generalize e3 : numB l (usK k) = nl at *
  generalize usJ k = uJ at *
  generalize usK k = uK at *
  generalize usP k = uP at *
  generalize usM k = uM at *
  generalize (gOk rs).isSome = gk at *
  have F1 := Lib.hid e1; have F2 := Lib.hid e2; have F3 := Lib.hid e3
  have FJ := Lib.hid hJ; have FK := Lib.hid hK; have FP := Lib.hid hP; have FM := Lib.hid hM
  have FS := Lib.hid us
  clear e1 e2 e3 hJ hK hP hM us
  go_enter Try.func39, Try.ntmps39
  go_wp2_with fail
  refine (specIn_any k 1 7 true _ Hk.out).mono ?_
  rintro e1 w1 ⟨rfl, hb1⟩
  have c0 := (BE.out.next hb1).cell 0
  have lt1 := (BE.out.next hb1).lt
  go_wp2_with fail
  refine (HUs.out _).mono ?_
  rintro e1 w2 ⟨rfl, hb2⟩
  have b2 := hb1.trans (hb2.mono hb1.size)
  have BE2 := BE.out.next b2
  have g1 := BE2.cell 1
  have g2 := BE2.cell 2
  have g3 := BE2.cell 3
  have g4 := BE2.cell 4
  have g5 := BE2.cell 5
  have lt2 := BE2.lt
  have hup := upc w2.heap.size w2
  clear BE2 c0 lt1 a0 lt0
  rcases ni with _ | _
  · have E' := Lib.hid (show false = b by rw [← E.out]; simp)
    go_wp2_with fail
    refine wp_region_up w2.heap.size (by kernel_rfl) (by kernel_rfl) ?_
    repeat (go_big_quiet_step ((first | (go_at_call 69; first | (with_reducible exact Calls.upR (Nat.le_refl _) (l07Num_any i true _ _ F1.out)) | (with_reducible exact Calls.upR (Nat.le_refl _) (l07Num_any j _ _ _ F2.out)) | (with_reducible exact Calls.upR (Nat.le_refl _) (l07Num_any l _ _ _ F3.out))) | (go_at_call 70; first | (with_reducible exact Calls.upR (Nat.le_refl _) (l07Has_any _ 74 _ _ FS.out FJ.out)) | (with_reducible exact Calls.upR (Nat.le_refl _) (l07Has_any _ 75 _ _ FS.out FK.out))))))
    refine wpQuiet_nil ?_
    intro w3 hup_w3
    have hb3 := up_of hup_w3
    go_wp2_with fail
    go_ret
    exact ⟨ret_bool E'.out, b2.trans (hb3.mono b2.size)⟩
  rcases nj with _ | _
  · have E' := Lib.hid (show false = b by rw [← E.out]; simp)
    go_wp2_with fail
    refine wp_region_up w2.heap.size (by kernel_rfl) (by kernel_rfl) ?_
    repeat (go_big_quiet_step ((first | (go_at_call 69; first | (with_reducible exact Calls.upR (Nat.le_refl _) (l07Num_any i true _ _ F1.out)) | (with_reducible exact Calls.upR (Nat.le_refl _) (l07Num_any j _ _ _ F2.out)) | (with_reducible exact Calls.upR (Nat.le_refl _) (l07Num_any l _ _ _ F3.out))) | (go_at_call 70; first | (with_reducible exact Calls.upR (Nat.le_refl _) (l07Has_any _ 74 _ _ FS.out FJ.out)) | (with_reducible exact Calls.upR (Nat.le_refl _) (l07Has_any _ 75 _ _ FS.out FK.out))))))
    refine wpQuiet_nil ?_
    intro w3 hup_w3
    have hb3 := up_of hup_w3
    go_wp2_with fail
    go_ret
    exact ⟨ret_bool E'.out, b2.trans (hb3.mono b2.size)⟩
  rcases nl with _ | _
  · have E' := Lib.hid (show false = b by rw [← E.out]; simp)
    go_wp2_with fail
    refine wp_region_up w2.heap.size (by kernel_rfl) (by kernel_rfl) ?_
    repeat (go_big_quiet_step ((first | (go_at_call 69; first | (with_reducible exact Calls.upR (Nat.le_refl _) (l07Num_any i true _ _ F1.out)) | (with_reducible exact Calls.upR (Nat.le_refl _) (l07Num_any j _ _ _ F2.out)) | (with_reducible exact Calls.upR (Nat.le_refl _) (l07Num_any l _ _ _ F3.out))) | (go_at_call 70; first | (with_reducible exact Calls.upR (Nat.le_refl _) (l07Has_any _ 74 _ _ FS.out FJ.out)) | (with_reducible exact Calls.upR (Nat.le_refl _) (l07Has_any _ 75 _ _ FS.out FK.out))))))
    refine wpQuiet_nil ?_
    intro w3 hup_w3
    have hb3 := up_of hup_w3
    go_wp2_with fail
    go_ret
    exact ⟨ret_bool E'.out, b2.trans (hb3.mono b2.size)⟩
  rcases (show (uJ = true ∧ j < i) ∨ (uJ = false) ∨ (uJ = true ∧ ¬ j < i) from by cases uJ <;> simp <;> omega) with ⟨rfl, q1⟩ | rfl | ⟨rfl, q1⟩
  · have E' := Lib.hid (show false = b by rw [← E.out]; simp [q1])
    go_wp2_with fail
    refine wp_region_up w2.heap.size (by kernel_rfl) (by kernel_rfl) ?_
    repeat (go_big_quiet_step ((first | (go_at_call 69; first | (with_reducible exact Calls.upR (Nat.le_refl _) (l07Num_any i true _ _ F1.out)) | (with_reducible exact Calls.upR (Nat.le_refl _) (l07Num_any j _ _ _ F2.out)) | (with_reducible exact Calls.upR (Nat.le_refl _) (l07Num_any l _ _ _ F3.out))) | (go_at_call 70; first | (with_reducible exact Calls.upR (Nat.le_refl _) (l07Has_any _ 74 _ _ FS.out FJ.out)) | (with_reducible exact Calls.upR (Nat.le_refl _) (l07Has_any _ 75 _ _ FS.out FK.out))))))
    refine wpQuiet_nil ?_
    intro w3 hup_w3
    have hb3 := up_of hup_w3
    go_wp2_with fail
    go_ret
    exact ⟨ret_bool E'.out, b2.trans (hb3.mono b2.size)⟩
  all_goals
    have E2 : Hid (((uP == decide (0 < n)) && gk && (if uM then mapB mp else decide (mp.size = 0))) = b) := Lib.hid (by rw [← E.out]; first | (simp [q1]; done) | (simp; done) | (simp [show ¬ j < i by omega]; done))
    clear E
    go_wp2_with fail
    refine wp_region_up w2.heap.size (by kernel_rfl) (by kernel_rfl) ?_
    repeat (go_big_quiet_step ((first | (go_at_call 69; first | (with_reducible exact Calls.upR (Nat.le_refl _) (l07Num_any i true _ _ F1.out)) | (with_reducible exact Calls.upR (Nat.le_refl _) (l07Num_any j _ _ _ F2.out)) | (with_reducible exact Calls.upR (Nat.le_refl _) (l07Num_any l _ _ _ F3.out))) | (go_at_call 70; first | (with_reducible exact Calls.upR (Nat.le_refl _) (l07Has_any _ 74 _ _ FS.out FJ.out)) | (with_reducible exact Calls.upR (Nat.le_refl _) (l07Has_any _ 75 _ _ FS.out FK.out))))))
    refine wpQuiet_nil ?_
    intro w3 hup_w3
    have hb3 := up_of hup_w3
    have b3 := b2.trans (hb3.mono b2.size)
    have h4 := (hb3.cell (p := ⟨eb, 4, none⟩) lt2).trans g4
    have h5 := (hb3.cell (p := ⟨eb, 5, none⟩) lt2).trans g5
    have lt3 : eb < w3.heap.size := by have := hb3.size; omega
    have hup3 := upc w3.heap.size w3
    clear hup g1 g2 g3 g4 g5 hup_w3
    by_cases h0 : n = 0
    · subst h0
      rcases uP with _ | _
      · rcases gk with _ | _
        · have E' := Lib.hid (show false = b by rw [← E2.out]; simp)
          go_wp2_with fail
          refine wp_region_up w3.heap.size (by kernel_rfl) (by kernel_rfl) ?_
          repeat (go_big_quiet_step ((first | (go_at_call 70; with_reducible exact Calls.upR (Nat.le_refl _) (l07Has_any _ 80 _ _ FS.out FP.out)) | (go_at_call 30; with_reducible exact Calls.upR (Nat.le_refl _) (HV.out _ (b3.trans ((Up.h _).mono b3.size)))))))
          refine wpQuiet_nil ?_
          intro w4 hup_w4
          have hb4 := up_of hup_w4
          go_wp2_with fail
          go_ret
          exact ⟨ret_bool E'.out, b3.trans (hb4.mono b3.size)⟩
        · have E3 : Hid ((if uM then mapB mp else decide (mp.size = 0)) = b) := Lib.hid (by rw [← E2.out]; simp)
          clear E2
          go_wp2_with fail
          refine wp_region_up w3.heap.size (by kernel_rfl) (by kernel_rfl) ?_
          repeat (go_big_quiet_step ((first | (go_at_call 70; with_reducible exact Calls.upR (Nat.le_refl _) (l07Has_any _ 80 _ _ FS.out FP.out)) | (go_at_call 30; with_reducible exact Calls.upR (Nat.le_refl _) (HV.out _ (b3.trans ((Up.h _).mono b3.size)))))))
          refine wpQuiet_nil ?_
          intro w4 hup_w4
          have hb4 := up_of hup_w4
          have b4 := b3.trans (hb4.mono b3.size)
          have h5' := (hb4.cell (p := ⟨eb, 5, none⟩) lt3).trans h5
          go_wp2_with fail
          refine (l07Has_any us0 77 uM _ FS.out FM.out).mono ?_
          rintro e1 w5 ⟨rfl, hb5⟩
          have b5 := b4.trans (hb5.mono b4.size)
          have h5'' := (hb5.cell (p := ⟨eb, 5, none⟩) (by have := hb4.size; show eb < _; omega)).trans h5'
          have lt5 : eb < w5.heap.size := by have := hb4.size; have := hb5.size; omega
          rcases uM with _ | _
          · by_cases hm : mp.size = 0
            · have E4 := Lib.hid (show true = b by rw [← E3.out]; simp [hm])
              have m1 := size0 hm
              clear hm E3
              go_wp2_with fail
              go_ret
              exact ⟨ret_bool E4.out, b5⟩
            · have E4 := Lib.hid (show false = b by rw [← E3.out]; simp [hm])
              have m1 := size1 hm
              have m2 := size1' hm
              clear hm E3
              go_wp2_with fail
              go_ret
              exact ⟨ret_bool E4.out, b5⟩
          · by_cases hm : mp.size = 4
            · have E4 := Lib.hid (show okW mp = b by rw [← E3.out]; simp [mapB, hm])
              have e0 : ((mp.size : Int) == 4) = true := by simp [hm]
              clear hm E3
              go_wp2_with fail
              refine (HM.out _).mono ?_
              rintro e1 w6 ⟨rfl, hb6⟩
              go_wp2_with fail
              go_ret
              exact ⟨ret_bool E4.out, b5.trans (hb6.mono b5.size)⟩
            · have E4 := Lib.hid (show false = b by rw [← E3.out]; simp [mapB, hm])
              have e0 : ((mp.size : Int) == 4) = false := by simp; omega
              clear hm E3
              go_wp2_with fail
              go_ret
              exact ⟨ret_bool E4.out, b5⟩
      · have E' := Lib.hid (show false = b by rw [← E2.out]; simp)
        go_wp2_with fail
        refine wp_region_up w3.heap.size (by kernel_rfl) (by kernel_rfl) ?_
        repeat (go_big_quiet_step ((first | (go_at_call 70; with_reducible exact Calls.upR (Nat.le_refl _) (l07Has_any _ 80 _ _ FS.out FP.out)) | (go_at_call 30; with_reducible exact Calls.upR (Nat.le_refl _) (HV.out _ (b3.trans ((Up.h _).mono b3.size)))))))
        refine wpQuiet_nil ?_
        intro w4 hup_w4
        have hb4 := up_of hup_w4
        go_wp2_with fail
        go_ret
        exact ⟨ret_bool E'.out, b3.trans (hb4.mono b3.size)⟩
    · have h1 : 0 < n := by omega
      rcases uP with _ | _
      · have E' := Lib.hid (show false = b by rw [← E2.out]; simp [h1])
        go_wp2_with fail
        refine wp_region_up w3.heap.size (by kernel_rfl) (by kernel_rfl) ?_
        repeat (go_big_quiet_step ((first | (go_at_call 70; with_reducible exact Calls.upR (Nat.le_refl _) (l07Has_any _ 80 _ _ FS.out FP.out)) | (go_at_call 30; with_reducible exact Calls.upR (Nat.le_refl _) (HV.out _ (b3.trans ((Up.h _).mono b3.size)))))))
        refine wpQuiet_nil ?_
        intro w4 hup_w4
        have hb4 := up_of hup_w4
        go_wp2_with fail
        go_ret
        exact ⟨ret_bool E'.out, b3.trans (hb4.mono b3.size)⟩
      · rcases gk with _ | _
        · have E' := Lib.hid (show false = b by rw [← E2.out]; simp)
          go_wp2_with fail
          refine wp_region_up w3.heap.size (by kernel_rfl) (by kernel_rfl) ?_
          repeat (go_big_quiet_step ((first | (go_at_call 70; with_reducible exact Calls.upR (Nat.le_refl _) (l07Has_any _ 80 _ _ FS.out FP.out)) | (go_at_call 30; with_reducible exact Calls.upR (Nat.le_refl _) (HV.out _ (b3.trans ((Up.h _).mono b3.size)))))))
          refine wpQuiet_nil ?_
          intro w4 hup_w4
          have hb4 := up_of hup_w4
          go_wp2_with fail
          go_ret
          exact ⟨ret_bool E'.out, b3.trans (hb4.mono b3.size)⟩
        · have E3 : Hid ((if uM then mapB mp else decide (mp.size = 0)) = b) := Lib.hid (by rw [← E2.out]; simp [h1])
          clear E2
          go_wp2_with fail
          refine wp_region_up w3.heap.size (by kernel_rfl) (by kernel_rfl) ?_
          repeat (go_big_quiet_step ((first | (go_at_call 70; with_reducible exact Calls.upR (Nat.le_refl _) (l07Has_any _ 80 _ _ FS.out FP.out)) | (go_at_call 30; with_reducible exact Calls.upR (Nat.le_refl _) (HV.out _ (b3.trans ((Up.h _).mono b3.size)))))))
          refine wpQuiet_nil ?_
          intro w4 hup_w4
          have hb4 := up_of hup_w4
          have b4 := b3.trans (hb4.mono b3.size)
          have h5' := (hb4.cell (p := ⟨eb, 5, none⟩) lt3).trans h5
          go_wp2_with fail
          refine (l07Has_any us0 77 uM _ FS.out FM.out).mono ?_
          rintro e1 w5 ⟨rfl, hb5⟩
          have b5 := b4.trans (hb5.mono b4.size)
          have h5'' := (hb5.cell (p := ⟨eb, 5, none⟩) (by have := hb4.size; show eb < _; omega)).trans h5'
          have lt5 : eb < w5.heap.size := by have := hb4.size; have := hb5.size; omega
          rcases uM with _ | _
          · by_cases hm : mp.size = 0
            · have E4 := Lib.hid (show true = b by rw [← E3.out]; simp [hm])
              have m1 := size0 hm
              clear hm E3
              go_wp2_with fail
              go_ret
              exact ⟨ret_bool E4.out, b5⟩
            · have E4 := Lib.hid (show false = b by rw [← E3.out]; simp [hm])
              have m1 := size1 hm
              have m2 := size1' hm
              clear hm E3
              go_wp2_with fail
              go_ret
              exact ⟨ret_bool E4.out, b5⟩
          · by_cases hm : mp.size = 4
            · have E4 := Lib.hid (show okW mp = b by rw [← E3.out]; simp [mapB, hm])
              have e0 : ((mp.size : Int) == 4) = true := by simp [hm]
              clear hm E3
              go_wp2_with fail
              refine (HM.out _).mono ?_
              rintro e1 w6 ⟨rfl, hb6⟩
              go_wp2_with fail
              go_ret
              exact ⟨ret_bool E4.out, b5.trans (hb6.mono b5.size)⟩
            · have E4 := Lib.hid (show false = b by rw [← E3.out]; simp [mapB, hm])
              have e0 : ((mp.size : Int) == 4) = false := by simp; omega
              clear hm E3
              go_wp2_with fail
              go_ret
              exact ⟨ret_bool E4.out, b5⟩
end Go.Proofs.Ytchlipklmdlklaa
