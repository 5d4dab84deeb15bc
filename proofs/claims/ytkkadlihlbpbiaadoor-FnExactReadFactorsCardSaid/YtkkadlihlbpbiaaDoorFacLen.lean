
/-
  The length of the word of factors, in the program and in the reference.
-/
import Derived.Test.YtkkadlihlbpbiaaDoorLet
namespace Go.Proofs.YtkkadlihlbpbiaaDoor
open Go.RowKit

/-- one factor more -/
def facStep (total : Int) (f : Fac) : Option Int :=
  if f.l.size = 0 then (if 0 ≤ f.a ∧ f.a ≤ total ∧ 1 ≤ f.b ∧ f.b ≤ total - f.a ∧ total + f.b ≤ 1000000000000000 then some (total + f.b) else none)
  else if letT f.l = true ∧ f.a = 0 ∧ f.b = 0 ∧ total + 1 ≤ 1000000000000000 then some (total + 1) else none
def facLen : List Fac → Int → Option Int
  | [], t => some t
  | f :: r, t => (facStep t f).bind (facLen r)
def facTotal (fs : List Fac) : Option Int := if 120 < fs.length then none else facLen fs 0
def optTuple : Option Int → Value
  | none => .tuple #[.int .i64 0, .bool false]
  | some n => .tuple #[.int .i64 n, .bool true]
theorem ret2_int {x : Option Int} {n : Int} {b : Bool} (h : optTuple x = .tuple #[.int .i64 n, .bool b]) : Ending.returned (.tuple #[.int .i64 n, .bool b]) = .returned (optTuple x) := by rw [h]

theorem facStep_none_a {t : Int} {f : Fac} (h : f.l.size = 0) (ha : inB f.a 0 t = false) : facStep t f = none := by
  unfold facStep; rw [if_pos h, if_neg (by simp [inB] at ha; omega)]
theorem facStep_none_b {t : Int} {f : Fac} (h : f.l.size = 0) (ha : inB f.b 1 (t - f.a) = false) : facStep t f = none := by
  unfold facStep; rw [if_pos h, if_neg (by simp [inB] at ha; omega)]
theorem facStep_none_c {t : Int} {f : Fac} (h : f.l.size = 0) (ha : 1000000000000000 < t + f.b) : facStep t f = none := by
  unfold facStep; rw [if_pos h, if_neg (by omega)]
theorem facStep_some {t : Int} {f : Fac} (h : f.l.size = 0) (ha : inB f.a 0 t = true) (hb : inB f.b 1 (t - f.a) = true) (hc : t + f.b ≤ 1000000000000000) : facStep t f = some (t + f.b) := by
  simp [inB] at ha hb
  unfold facStep; rw [if_pos h, if_pos (by omega)]
theorem facStep_let_none {t : Int} {f : Fac} (h : f.l.size ≠ 0) (ha : ¬ (letT f.l = true ∧ f.a = 0 ∧ f.b = 0 ∧ t + 1 ≤ 1000000000000000)) : facStep t f = none := by
  unfold facStep; rw [if_neg h, if_neg ha]
theorem facStep_let {t : Int} {f : Fac} (h : f.l.size ≠ 0) (ha : letT f.l = true ∧ f.a = 0 ∧ f.b = 0 ∧ t + 1 ≤ 1000000000000000) : facStep t f = some (t + 1) := by
  unfold facStep; rw [if_neg h, if_pos ha]
set_option maxHeartbeats 1000000 in
theorem factorsLength_any (A : Option Addr) (n c : Nat) (fs : List Fac) (w : World) (hn : n ≤ maxLen)
    (hr : Rd w w.heap.size A n 3 Fac.cells fs) (hs : ∀ f ∈ fs, f.l.size ≤ maxLen) :
    Calls Tryd.prog 26 #[.slice A n c] w (Ret (optTuple (facTotal fs)) w) := by
  have hl := Lib.hid hr.len
  unfold maxLen at hn
  by_cases h : 120 < n
  · have e := Lib.hid (show facTotal fs = none by unfold facTotal; rw [hl.out, if_pos h])
    go_enter Tryd.func26, Tryd.ntmps26
    go_wp2
    go_ret2
    exact ⟨ret2_int (by rw [e.out]; rfl), Below.refl _ _⟩
  have HR := Lib.hid (show facLen (fs.drop 0) 0 = facTotal fs by unfold facTotal; rw [hl.out, if_neg h]; rfl)
  go_enter Tryd.func26, Tryd.ntmps26
  go_wp2
  go_loopw [4, 13] (fun t i w' => ∃ (k : Nat) (z : Int), i = .int .i64 k ∧ t = .int .i64 z ∧ k ≤ n ∧ 0 ≤ z ∧ z ≤ 1000000000000000 ∧ Below w.heap.size w w' ∧ Hid (facLen (fs.drop k) z = facTotal fs)) (fun _ i _ => n - (intOf i).toNat)
  case atStart => exact ⟨0, 0, rfl, rfl, by omega, by omega, by omega, Below.refl _ _, HR⟩
  case round =>
    obtain ⟨k, z, rfl, rfl, hk, hz0, hz1, hb, H⟩ := hrel
    by_cases hlt : k < n
    · obtain ⟨b, o, x, rfl, hB, gx, c0, c1, c2⟩ := (hr.next hb).fac hlt
      have hxm : x.l.size ≤ maxLen := hs x (List.mem_of_getElem? gx)
      have H' := Lib.hid (show (facStep z x).bind (facLen (fs.drop (k + 1))) = facTotal fs by rw [← H.out, drop_cons gx]; rfl)
      clear gx H
      by_cases h0 : x.l.size = 0
      · have hl0 := size0 h0
        rcases ha : inB x.a 0 z with _ | _
        · have Ha := Lib.hid ha; clear ha
          go_wp2_with (go_at_call 38; refine (within_any _ _ _ false _ Ha.out).mono ?_; rintro e w1 ⟨rfl, hb1⟩)
          go_ret2
          exact ⟨ret2_int (by rw [← H'.out, facStep_none_a h0 Ha.out]; rfl), (hb.alloc hb.size _).trans (hb1.mono (by have := hb.size; simp; omega))⟩
        · have ha' : 0 ≤ x.a ∧ x.a ≤ z := by simpa [inB] using ha
          have ha0 := ha'.1; have ha1 := ha'.2; clear ha'
          have Ha := Lib.hid ha; clear ha
          rcases hbb : inB x.b 1 (z - x.a) with _ | _
          · have Hb := Lib.hid hbb; clear hbb
            go_wp2_with fail
            refine (within_any _ _ _ true _ Ha.out).mono ?_
            rintro e w1 ⟨rfl, hb1⟩
            obtain ⟨d0, d1, d2⟩ := ((Blk.new wr _ _).next hb1).three
            have b1 := (hb.alloc hb.size _).trans (hb1.mono (by have := hb.size; simp; omega))
            go_wp2_with fail
            refine (within_any _ _ _ false _ Hb.out).mono ?_
            rintro e w2 ⟨rfl, hb2⟩
            go_wp2
            go_ret2
            exact ⟨ret2_int (by rw [← H'.out, facStep_none_b h0 Hb.out]; rfl), b1.trans (hb2.mono b1.size)⟩
          · have hb' : 1 ≤ x.b ∧ x.b ≤ z - x.a := by simpa [inB] using hbb
            have hb0 := hb'.1; have hb1 := hb'.2; clear hb'
            have Hb := Lib.hid hbb; clear hbb
            go_wp2_with fail
            refine (within_any _ _ _ true _ Ha.out).mono ?_
            rintro e w1 ⟨rfl, hb1⟩
            obtain ⟨d0, d1, d2⟩ := ((Blk.new wr _ _).next hb1).three
            have b1 := (hb.alloc hb.size _).trans (hb1.mono (by have := hb.size; simp; omega))
            go_wp2_with fail
            refine (within_any _ _ _ true _ Hb.out).mono ?_
            rintro e w2 ⟨rfl, hb2⟩
            have b2 := b1.trans (hb2.mono b1.size)
            by_cases hc : 1000000000000000 < z + x.b
            · go_wp2
              go_ret2
              exact ⟨ret2_int (by rw [← H'.out, facStep_none_c h0 hc]; rfl), b2⟩
            · go_wp2
              go_roundw
              case rel => exact ⟨k + 1, z + x.b, by go_num, rfl, by omega, by omega, by omega, b2, Lib.hid (by rw [← H'.out, facStep_some h0 Ha.out Hb.out (by omega)]; rfl)⟩
              case measure => simp [intOf]; omega
      · have hl0 := size1 h0
        have hl1 := size1' h0
        rcases hlt' : letT x.l with _ | _
        · have Hl := Lib.hid hlt'; clear hlt'
          go_wp2_with (go_at_call 39; refine (isLetterText_any x.l false _ hxm Hl.out).mono ?_; rintro e w1 ⟨rfl, hb1⟩)
          go_ret2
          exact ⟨ret2_int (by rw [← H'.out, facStep_let_none h0 (by rw [Hl.out]; simp)]; rfl), (hb.alloc hb.size _).trans (hb1.mono (by have := hb.size; simp; omega))⟩
        · have Hl := Lib.hid hlt'; clear hlt'
          go_wp2_with fail
          refine (isLetterText_any x.l true _ hxm Hl.out).mono ?_
          rintro e w1 ⟨rfl, hb1⟩
          obtain ⟨d0, d1, d2⟩ := ((Blk.new wr _ _).next hb1).three
          have b1 := (hb.alloc hb.size _).trans (hb1.mono (by have := hb.size; simp; omega))
          by_cases ha : x.a = 0
          · have ha' : (x.a != 0) = false := by simp [ha]
            have Ha := Lib.hid ha; clear ha
            by_cases hbb : x.b = 0
            · have hb' : (x.b != 0) = false := by simp [hbb]
              have Hb := Lib.hid hbb; clear hbb
              by_cases hc : 1000000000000000 < z + 1
              · go_wp2
                go_ret2
                exact ⟨ret2_int (by rw [← H'.out, facStep_let_none h0 (by omega)]; rfl), b1⟩
              · go_wp2
                go_roundw
                case rel => exact ⟨k + 1, z + 1, by go_num, rfl, by omega, by omega, by omega, b1, Lib.hid (by rw [← H'.out, facStep_let h0 ⟨Hl.out, Ha.out, Hb.out, by omega⟩]; rfl)⟩
                case measure => simp [intOf]; omega
            · have hb' : (x.b != 0) = true := by simp [hbb]
              have Hb := Lib.hid hbb; clear hbb
              go_wp2
              go_ret2
              exact ⟨ret2_int (by rw [← H'.out, facStep_let_none h0 (fun q => Hb.out q.2.2.1)]; rfl), b1⟩
          · have ha' : (x.a != 0) = true := by simp [ha]
            have Ha := Lib.hid ha; clear ha
            go_wp2
            go_ret2
            exact ⟨ret2_int (by rw [← H'.out, facStep_let_none h0 (fun q => Ha.out q.2.1)]; rfl), b1⟩
    · go_wp2
      go_ret2
      exact ⟨ret2_int (by rw [← H.out, List.drop_of_length_le (by rw [hl.out]; omega)]; rfl), hb⟩

set_option maxHeartbeats 1000000 in
theorem specLength_any (A : Option Addr) (n c : Nat) (fs : List Fac) (w : World) (hn : n ≤ maxLen)
    (hr : Rd w w.heap.size A n 3 Fac.cells fs) (hs : ∀ f ∈ fs, f.l.size ≤ maxLen) :
    Calls Tryd.prog 20 #[.slice A n c] w (Ret (optTuple (facTotal fs)) w) := by
  have hl := Lib.hid hr.len
  unfold maxLen at hn
  by_cases h : 120 < n
  · have e := Lib.hid (show facTotal fs = none by unfold facTotal; rw [hl.out, if_pos h])
    go_enter Tryd.func20, Tryd.ntmps20
    go_wp2
    go_ret2
    exact ⟨ret2_int (by rw [e.out]; rfl), Below.refl _ _⟩
  have HR := Lib.hid (show facLen (fs.drop 0) 0 = facTotal fs by unfold facTotal; rw [hl.out, if_neg h]; rfl)
  go_enter Tryd.func20, Tryd.ntmps20
  go_wp2
  go_loopw [4, 5] (fun t i w' => ∃ (k : Nat) (z : Int), i = .int .i64 k ∧ t = .int .i64 z ∧ k ≤ n ∧ 0 ≤ z ∧ z ≤ 1000000000000000 ∧ Below w.heap.size w w' ∧ Hid (facLen (fs.drop k) z = facTotal fs)) (fun _ i _ => n - (intOf i).toNat)
  case atStart => exact ⟨0, 0, rfl, rfl, by omega, by omega, by omega, Below.refl _ _, HR⟩
  case round =>
    obtain ⟨k, z, rfl, rfl, hk, hz0, hz1, hb, H⟩ := hrel
    by_cases hlt : k < n
    · obtain ⟨b, o, x, rfl, hB, gx, c0, c1, c2⟩ := (hr.next hb).fac hlt
      have hxm : x.l.size ≤ maxLen := hs x (List.mem_of_getElem? gx)
      have H' := Lib.hid (show (facStep z x).bind (facLen (fs.drop (k + 1))) = facTotal fs by rw [← H.out, drop_cons gx]; rfl)
      clear gx H
      by_cases h0 : x.l.size = 0
      · have hl0 := size0 h0
        have H0 := Lib.hid h0; clear h0
        by_cases q1 : x.b < 1
        · have e1 : decide (x.b < 1) = true := by simpa using q1
          go_wp2
          go_ret2
          exact ⟨ret2_int (by rw [← H'.out, facStep_none_b H0.out (by simp [inB]; omega)]; rfl), hb.alloc hb.size _⟩
        · have e1 : decide (x.b < 1) = false := by simpa using q1
          by_cases q2 : x.a < 0
          · have e2 : decide (x.a < 0) = true := by simpa using q2
            go_wp2
            go_ret2
            exact ⟨ret2_int (by rw [← H'.out, facStep_none_a H0.out (by simp [inB]; omega)]; rfl), hb.alloc hb.size _⟩
          · have e2 : decide (x.a < 0) = false := by simpa using q2
            by_cases q3 : z < x.a
            · have e3 : decide (z < x.a) = true := by simpa using q3
              go_wp2
              go_ret2
              exact ⟨ret2_int (by rw [← H'.out, facStep_none_a H0.out (by simp [inB]; omega)]; rfl), hb.alloc hb.size _⟩
            · have e3 : decide (z < x.a) = false := by simpa using q3
              by_cases q4 : z - x.a < x.b
              · have e4 : decide (z - x.a < x.b) = true := by simpa using q4
                go_wp2
                go_ret2
                exact ⟨ret2_int (by rw [← H'.out, facStep_none_b H0.out (by simp [inB]; omega)]; rfl), hb.alloc hb.size _⟩
              · have e4 : decide (z - x.a < x.b) = false := by simpa using q4
                by_cases hc : 1000000000000000 < z + x.b
                · go_wp2
                  go_ret2
                  exact ⟨ret2_int (by rw [← H'.out, facStep_none_c H0.out hc]; rfl), hb.alloc hb.size _⟩
                · go_wp2
                  go_roundw
                  case rel => exact ⟨k + 1, z + x.b, by go_num, rfl, by omega, by omega, by omega, hb.alloc hb.size _, Lib.hid (by rw [← H'.out, facStep_some H0.out (by simp [inB]; omega) (by simp [inB]; omega) (by omega)]; rfl)⟩
                  case measure => simp [intOf]; omega
      · have hl0 := size1 h0
        have hl1 := size1' h0
        rcases hlt' : letT x.l with _ | _
        · have Hl := Lib.hid hlt'; clear hlt'
          go_wp2_with (go_at_call 28; refine (specLetter_any x.l false _ hxm Hl.out).mono ?_; rintro e w1 ⟨rfl, hb1⟩)
          go_ret2
          exact ⟨ret2_int (by rw [← H'.out, facStep_let_none h0 (by rw [Hl.out]; simp)]; rfl), (hb.alloc hb.size _).trans (hb1.mono (by have := hb.size; simp; omega))⟩
        · have Hl := Lib.hid hlt'; clear hlt'
          go_wp2_with fail
          refine (specLetter_any x.l true _ hxm Hl.out).mono ?_
          rintro e w1 ⟨rfl, hb1⟩
          obtain ⟨d0, d1, d2⟩ := ((Blk.new wr _ _).next hb1).three
          have b1 := (hb.alloc hb.size _).trans (hb1.mono (by have := hb.size; simp; omega))
          by_cases ha : x.a = 0
          · have ha' : (x.a != 0) = false := by simp [ha]
            have Ha := Lib.hid ha; clear ha
            by_cases hbb : x.b = 0
            · have hb' : (x.b != 0) = false := by simp [hbb]
              have Hb := Lib.hid hbb; clear hbb
              by_cases hc : 1000000000000000 < z + 1
              · go_wp2
                go_ret2
                exact ⟨ret2_int (by rw [← H'.out, facStep_let_none h0 (by omega)]; rfl), b1⟩
              · go_wp2
                go_roundw
                case rel => exact ⟨k + 1, z + 1, by go_num, rfl, by omega, by omega, by omega, b1, Lib.hid (by rw [← H'.out, facStep_let h0 ⟨Hl.out, Ha.out, Hb.out, by omega⟩]; rfl)⟩
                case measure => simp [intOf]; omega
            · have hb' : (x.b != 0) = true := by simp [hbb]
              have Hb := Lib.hid hbb; clear hbb
              go_wp2
              go_ret2
              exact ⟨ret2_int (by rw [← H'.out, facStep_let_none h0 (fun q => Hb.out q.2.2.1)]; rfl), b1⟩
          · have ha' : (x.a != 0) = true := by simp [ha]
            have Ha := Lib.hid ha; clear ha
            go_wp2
            go_ret2
            exact ⟨ret2_int (by rw [← H'.out, facStep_let_none h0 (fun q => Ha.out q.2.1)]; rfl), b1⟩
    · go_wp2
      go_ret2
      exact ⟨ret2_int (by rw [← H.out, List.drop_of_length_le (by rw [hl.out]; omega)]; rfl), hb⟩
end Go.Proofs.YtkkadlihlbpbiaaDoor
