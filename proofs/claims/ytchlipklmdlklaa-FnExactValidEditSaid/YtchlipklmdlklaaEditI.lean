/-
  Is an edit valid: in the program.
-/
import Derived.Test.YtchlipklmdlklaaEdit
namespace Go.Proofs.Ytchlipklmdlklaa
open Go.RowKit

set_option maxHeartbeats 4000000 in
set_option maxRecDepth 100000 in
theorem implEdit_any (k i j l : Int) (A : Option Addr) (n c : Nat) (rs : List Fac) (mp : ByteArray) (w : World) (hn : n ≤ 1048576) (hr : Rd w w.heap.size A n 3 Fac.cells rs) (hok : ∀ f ∈ rs, f.l.size ≤ maxLen) (hs : mp.size ≤ maxLen) (b : Bool) (hb : edB k i j l rs mp = b) :
    Calls Try.prog 19 #[.agg #[.int .i64 k, .int .i64 i, .int .i64 j, .int .i64 l, .slice A n c, .string mp]] w (Ret (.bool b) w) := by
  have hl := Lib.hid hr.len
  have HR := Lib.hid hr; clear hr
  have HO := Lib.hid hok; clear hok
  have E : Hid ((inB k 1 7 && inB i 0 1000000000000000 && inB j 0 1000000000000000 && inB l 0 1000000000000000 && !(usJ k && decide (j < i)) && !(!usJ k && decide (j ≠ 0)) && !(!usK k && decide (l ≠ 0)) &&
    (usP k == decide (0 < n)) && (gOk rs).isSome && (if usM k then mapB mp else decide (mp.size = 0))) = b) := Lib.hid (by rw [← hb]; unfold edB; rw [hl.out])
  have hgo := Lib.hid (fun (h : n = 0) => show (gOk rs).isSome = true by rw [List.eq_nil_of_length_eq_zero (hl.out.trans h)]; rfl)
  have HV := Lib.hid (fun (w' : World) (hb : Below w.heap.size w w') => validG_any A n c rs w' (by omega) (HR.out.next hb) HO.out (gOk rs).isSome rfl)
  have HM := Lib.hid (fun (w' : World) => isMap_any mp w' hs)
  have HWi := Lib.hid (fun (w' : World) => within_any i 0 1000000000000000 (inB i 0 1000000000000000) w' rfl)
  have HWj := Lib.hid (fun (w' : World) => within_any j 0 1000000000000000 (inB j 0 1000000000000000) w' rfl)
  have HWl := Lib.hid (fun (w' : World) => within_any l 0 1000000000000000 (inB l 0 1000000000000000) w' rfl)
  clear hb
  go_enter Try.func19, Try.ntmps19
  go_wp2_with fail
  refine namedC fun w0 H0 => ?_
  have hb0 : Below w.heap.size w w0 := by rw [H0.out]; (repeat first | exact Below.refl _ _ | assumption | refine Below.drew ?_ | refine Below.alloc ?_ (by first | exact Nat.le_refl _ | (simp; done) | omega | (simp; omega)) _ | refine Below.setCell ?_ (by first | exact Nat.le_refl _ | (simp; done) | omega | (simp; omega)) _)
  have BE := Lib.hid (show Blk w0 w.heap.size 43 #[.int .i64 k, .int .i64 i, .int .i64 j, .int .i64 l, .slice A n c, .string mp] by rw [H0.out]; exact Blk.new _ _ _)
  clear H0
  obtain ⟨wd, hF⟩ := formOf_any k w0
  have HF := Lib.hid hF; clear hF
  generalize usJ k = uJ at *
  generalize usK k = uK at *
  generalize usP k = uP at *
  generalize usM k = uM at *
  generalize inB k 1 7 = ik at *
  generalize inB i 0 1000000000000000 = ii at *
  generalize inB j 0 1000000000000000 = ij at *
  generalize inB l 0 1000000000000000 = il at *
  generalize (gOk rs).isSome = gk at *
  generalize mapB mp = mb at *
  refine HF.out.mono ?_
  rintro e1 w1 ⟨rfl, hb1⟩
  have b1 := hb0.trans (hb1.mono hb0.size)
  have BE1 := BE.out.next hb1
  have c1 := BE1.cell 1
  have c2 := BE1.cell 2
  have c3 := BE1.cell 3
  have c4 := BE1.cell 4
  have c5 := BE1.cell 5
  have lt1 := BE1.lt
  clear BE1
  rcases ik with _ | _
  · go_wp2_with fail
    go_ret
    exact ⟨ret_bool (by rw [← E.out]; simp), b1.alloc b1.size _⟩
  go_wp2_with fail
  refine (HWi.out _).mono ?_
  rintro e1 w2 ⟨rfl, hb2⟩
  have b12 : Below w1.heap.size w1 w2 := ((Below.refl _ _).alloc (Nat.le_refl _) _).trans (hb2.mono (by simp))
  have BF2 := (Blk.new w1 72 #[.string wd, .bool uJ, .bool uK, .bool uP, .bool uM]).next hb2
  rcases ii with _ | _
  · go_wp2_with fail
    go_ret
    exact ⟨ret_bool (by rw [← E.out]; simp), b1.trans (b12.mono b1.size)⟩
  have d2 := (b12.cell (p := ⟨w.heap.size, 2, none⟩) lt1).trans c2
  go_wp2_with fail
  refine (HWj.out _).mono ?_
  rintro e1 w3 ⟨rfl, hb3⟩
  have b13 := b12.trans (hb3.mono b12.size)
  rcases ij with _ | _
  · go_wp2_with fail
    go_ret
    exact ⟨ret_bool (by rw [← E.out]; simp), b1.trans (b13.mono b1.size)⟩
  have d3 := (b13.cell (p := ⟨w.heap.size, 3, none⟩) lt1).trans c3
  go_wp2_with fail
  refine (HWl.out _).mono ?_
  rintro e1 w4 ⟨rfl, hb4⟩
  have b14 := b13.trans (hb4.mono b13.size)
  have bw4 := b1.trans (b14.mono b1.size)
  rcases il with _ | _
  · go_wp2_with fail
    go_ret
    exact ⟨ret_bool (by rw [← E.out]; simp), bw4⟩
  have BF4 := (BF2.next hb3).next hb4
  have f1 := BF4.cell 1
  have f2 := BF4.cell 2
  have f3 := BF4.cell 3
  have f4 := BF4.cell 4
  have lt2 := BF4.lt
  have BE4 := (BE.out.next hb1).next b14
  have g1 := BE4.cell 1
  have g2 := BE4.cell 2
  have g3 := BE4.cell 3
  have g4 := BE4.cell 4
  have g5 := BE4.cell 5
  have lt3 := BE4.lt
  have bd4 := Lib.hid bw4
  clear BF2 BF4 BE4 c1 c2 c3 c4 c5 d2 d3 lt1 BE
  rcases (show (uJ = true ∧ j < i) ∨ (uJ = false ∧ j ≠ 0) ∨ (uJ = true ∧ ¬ j < i ∧ uK = false ∧ l ≠ 0) ∨ (uJ = false ∧ j = 0 ∧ uK = false ∧ l ≠ 0) ∨ (uJ = true ∧ ¬ j < i ∧ uK = true) ∨ (uJ = true ∧ ¬ j < i ∧ uK = false ∧ l = 0) ∨ (uJ = false ∧ j = 0 ∧ uK = true) ∨ (uJ = false ∧ j = 0 ∧ uK = false ∧ l = 0) from by
    cases uJ <;> cases uK <;> simp <;> omega) with ⟨rfl, q1⟩ | ⟨rfl, q1⟩ | ⟨rfl, q1, rfl, q2⟩ | ⟨rfl, rfl, rfl, q2⟩ | ⟨rfl, q1, rfl⟩ | ⟨rfl, q1, rfl, rfl⟩ | ⟨rfl, rfl, rfl⟩ | ⟨rfl, rfl, rfl, rfl⟩
  · have E' := Lib.hid (show false = b by rw [← E.out]; simp [q1])
    go_wp2_with fail
    go_ret
    exact ⟨ret_bool E'.out, bd4.out⟩
  · have E' := Lib.hid (show false = b by rw [← E.out]; simp [q1])
    have q1' : (j != 0) = true := by simpa using q1
    go_wp2_with fail
    go_ret
    exact ⟨ret_bool E'.out, bd4.out⟩
  · have E' := Lib.hid (show false = b by rw [← E.out]; simp [q1, q2])
    have q2' : (l != 0) = true := by simpa using q2
    go_wp2_with fail
    go_ret
    exact ⟨ret_bool E'.out, bd4.out⟩
  · have E' := Lib.hid (show false = b by rw [← E.out]; simp [q2])
    have q2' : (l != 0) = true := by simpa using q2
    go_wp2_with fail
    go_ret
    exact ⟨ret_bool E'.out, bd4.out⟩
  all_goals
    have E2 : Hid (((uP == decide (0 < n)) && gk && (if uM then mb else decide (mp.size = 0))) = b) := Lib.hid (by rw [← E.out]; first | simp [q1] | simp)
    clear E
    by_cases h0 : n = 0
    · have hgk := hgo.out h0
      subst h0
      rcases uP with _ | _
      · rcases uM with _ | _
        · by_cases hm : mp.size = 0
          · have E3 := Lib.hid (show true = b by rw [← E2.out, hgk]; simp [hm])
            have m1 := size0 hm
            clear hm hgk E2
            go_wp2_with fail
            go_ret
            exact ⟨ret_bool E3.out, bd4.out⟩
          · have E3 := Lib.hid (show false = b by rw [← E2.out, hgk]; simp [hm])
            have m1 := size1 hm
            have m2 := size1' hm
            clear hm hgk E2
            go_wp2_with fail
            go_ret
            exact ⟨ret_bool E3.out, bd4.out⟩
        · have E3 := Lib.hid (show mb = b by rw [← E2.out, hgk]; simp)
          clear hgk E2
          go_wp2_with fail
          refine (HM.out _).mono ?_
          rintro e1 w5 ⟨rfl, hb5⟩
          have f4' := (hb5.cell (p := ⟨w1.heap.size, 4, none⟩) lt2).trans f4
          rcases mb with _ | _
          all_goals
            go_wp2_with fail
            go_ret
            exact ⟨ret_bool E3.out, bd4.out.trans (hb5.mono bd4.out.size)⟩
      · have E3 := Lib.hid (show false = b by rw [← E2.out]; simp)
        clear hgk E2
        go_wp2_with fail
        go_ret
        exact ⟨ret_bool E3.out, bd4.out⟩
    · have h1 : 0 < n := by omega
      rcases uP with _ | _
      · have E3 := Lib.hid (show false = b by rw [← E2.out]; simp [h1])
        clear h0 E2
        go_wp2_with fail
        go_ret
        exact ⟨ret_bool E3.out, bd4.out⟩
      · have E3 : Hid ((gk && (if uM then mb else decide (mp.size = 0))) = b) := Lib.hid (by rw [← E2.out]; simp [h1])
        clear h0 E2
        go_wp2_with fail
        refine (HV.out _ bd4.out).mono ?_
        rintro e1 w5 ⟨rfl, hb5⟩
        have bd5 := Lib.hid (bd4.out.trans (hb5.mono bd4.out.size))
        rcases gk with _ | _
        · go_wp2_with fail
          go_ret
          exact ⟨ret_bool (by rw [← E3.out]; rfl), bd5.out⟩
        have f4' := (hb5.cell (p := ⟨w1.heap.size, 4, none⟩) lt2).trans f4
        have g5' := (hb5.cell (p := ⟨w.heap.size, 5, none⟩) lt3).trans g5
        rcases uM with _ | _
        · by_cases hm : mp.size = 0
          · have E4 := Lib.hid (show true = b by rw [← E3.out]; simp [hm])
            have m1 := size0 hm
            clear hm E3
            go_wp2_with fail
            go_ret
            exact ⟨ret_bool E4.out, bd5.out⟩
          · have E4 := Lib.hid (show false = b by rw [← E3.out]; simp [hm])
            have m1 := size1 hm
            have m2 := size1' hm
            clear hm E3
            go_wp2_with fail
            go_ret
            exact ⟨ret_bool E4.out, bd5.out⟩
        · have E4 := Lib.hid (show mb = b by rw [← E3.out]; simp)
          clear E3
          go_wp2_with fail
          refine (HM.out _).mono ?_
          rintro e1 w6 ⟨rfl, hb6⟩
          have f4'' := (hb6.cell (p := ⟨w1.heap.size, 4, none⟩) (by have := hb5.size; show w1.heap.size < _; omega)).trans f4'
          rcases mb with _ | _
          all_goals
            go_wp2_with fail
            go_ret
            exact ⟨ret_bool E4.out, bd5.out.trans (hb6.mono bd5.out.size)⟩
end Go.Proofs.Ytchlipklmdlklaa
