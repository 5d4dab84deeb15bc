/-
  ClimbOf in the program and in the reference; climbs compared.
-/
import Derived.Test.YtpkhkippdigcjaaWs
import Derived.Deep.RegionWith
namespace Go.Proofs.Ytpkhkippdigcjaa
open Go.RowKit

def Cl.w (x : Cl) (k : Int) : Value := .tuple #[x.v, .int .i64 k]
def cloT (rs : List Fac) (ws : List Int) : Cl := if wsC rs ws = 0 then climT ws rs else Cl.nil
theorem wsC_cases (rs : List Fac) (ws : List Int) : (wsC rs ws ≠ 0 ∧ cloT rs ws = Cl.nil) ∨ (wsC rs ws = 0 ∧ (gOk rs).isSome = true ∧ WsOk ws ∧ cloT rs ws = climT ws rs) := by
  by_cases h : wsC rs ws = 0
  · refine Or.inr ⟨h, ?_, ?_, if_pos h⟩
    · unfold wsC at h
      by_cases h1 : (gOk rs).isSome = false
      · rw [if_pos h1] at h; omega
      · simpa only [Bool.not_eq_false] using h1
    · refine wsB_ok ?_
      unfold wsC at h
      by_cases h1 : (gOk rs).isSome = false
      · rw [if_pos h1] at h; omega
      · rw [if_neg h1] at h
        by_cases h2 : wsB ws = false
        · rw [if_pos h2] at h; omega
        · simpa only [Bool.not_eq_false] using h2
  · exact Or.inl ⟨h, if_neg h⟩

def cloV (rs : List Fac) (ws : List Int) : Value := (cloT rs ws).w (wsC rs ws)
theorem cloV_form (rs : List Fac) (ws : List Int) : ∃ t l h k, cloV rs ws = .tuple #[.agg #[.int .i64 t, .int .i64 l, .int .i64 h], .int .i64 k] := ⟨_, _, _, _, rfl⟩
set_option maxHeartbeats 1000000 in
set_option maxRecDepth 100000 in
theorem specClimbO_any (A : Option Addr) (n c : Nat) (rs : List Fac) (D : Option Addr) (m d : Nat) (zs : List Int) (w : World) (hn : n ≤ 1048576) (hr : Rd w w.heap.size A n 3 Fac.cells rs)
    (hok : ∀ f ∈ rs, f.l.size ≤ maxLen) (hm : m ≤ 1048576) (hd : Rd w w.heap.size D m 1 intE zs) :
    Calls Try.prog 26 #[.agg #[.slice A n c], .slice D m d] w (Ret (cloV rs zs) w) := by
  unfold cloV
  have hb0 : Below w.heap.size w (w.alloc (.cells #[.slice A n c] 30)) := by (repeat first | exact Below.refl _ _ | assumption | refine Below.drew ?_ | refine Below.alloc ?_ (by first | exact Nat.le_refl _ | (simp; done) | omega | (simp; omega)) _ | refine Below.setCell ?_ (by first | exact Nat.le_refl _ | (simp; done) | omega | (simp; omega)) _)
  have hB0 := Lib.hid (Blk.new w 30 #[.slice A n c])
  have B2 : Blk ((w.alloc (.cells #[.slice A n c] 30)).alloc (.cells #[.int .i64 0, .int .i64 0, .int .i64 0] 43)) (w.alloc (.cells #[.slice A n c] 30)).heap.size 43 #[.int .i64 0, .int .i64 0, .int .i64 0] := Blk.new _ _ _
  have HR := Lib.hid hr; clear hr
  have HD := Lib.hid hd; clear hd
  have HO := Lib.hid hok; clear hok
  have HC := Lib.hid (wsC_cases rs zs)
  go_enter Try.func26, Try.ntmps26
  go_wp2_with fail
  refine namedC fun w3 H3 => ?_
  have hb3 : Below w.heap.size w w3 := by rw [H3.out]; (repeat first | exact Below.refl _ _ | assumption | refine Below.drew ?_ | refine Below.alloc ?_ (by first | exact Nat.le_refl _ | (simp; done) | omega | (simp; omega)) _ | refine Below.setCell ?_ (by first | exact Nat.le_refl _ | (simp; done) | omega | (simp; omega)) _)
  have BG := Lib.hid (show Blk w3 w.heap.size 30 #[.slice A n c] by rw [H3.out]; exact hB0.out.alloc _)
  have BC := Lib.hid (show Blk w3 (w.heap.size + 1) 43 #[.int .i64 0, .int .i64 0, .int .i64 0] by rw [H3.out]; simpa using B2)
  clear H3 B2
  refine (l05Weights_any w.heap.size A n c rs D m d zs w3 BG.out.lt (BG.out.cell 0) hn (HR.out.next hb3) HO.out hm (HD.out.next hb3)).mono ?_
  rintro e1 w4 ⟨rfl, hb4⟩
  have b4 := hb3.trans (hb4.mono hb3.size)
  have BC4 := BC.out.next hb4
  obtain ⟨q0, q1, q2⟩ := BC4.three
  have f4 := BC4.frozen
  have l4 := BC4.lt
  rcases HC.out with ⟨h1, h2⟩ | ⟨h1, h2, h3, h4⟩
  · have e0 : (wsC rs zs != 0) = true := by simpa using h1
    have e2 := Lib.hid h2
    generalize wsC rs zs = k at *
    clear h1 h2 HC BC4
    go_wp2_with fail
    refine bodyPost_ret (v := (cloT rs zs).w k) (by rw [e2.out]; simp [results, Try.results26, go_sem, Cl.w, Cl.v, Cl.nil, q0, q1, q2]) rfl ⟨rfl, ?_⟩
    exact ((b4.setCell (by simp; try omega) _).setCell (by simp; try omega) _).setCell (by simp; try omega) _
  · have H1 := Lib.hid h1
    obtain ⟨ls, hls⟩ := Option.isSome_iff_exists.1 h2
    have hls' := (gOk_lens hls).1
    have e2 := Lib.hid h4
    rw [h1]
    obtain rfl : m = 4 := by have := h3.1; have := HD.out.len; omega
    have l40 : w.heap.size < w4.heap.size := ((BG.out.next hb4)).lt
    clear h1 h2 h4 HC BC4 hls
    go_wp2_with fail
    refine (l05Climb_any w.heap.size A n c rs D d zs ls w4 l40 ((BG.out.next hb4).cell 0) hn (HR.out.next b4) hls' h3 (HD.out.next b4)).mono ?_
    rintro e1 w5 ⟨rfl, hb5⟩
    have b5 := b4.trans (hb5.mono b4.size)
    have BC5 := (BC.out.next hb4).next hb5
    obtain ⟨q0, q1, q2⟩ := BC5.three
    have f5 := BC5.frozen
    have l5 := BC5.lt
    clear BC5
    generalize climT zs rs = z at *
    go_wp2_with fail
    refine bodyPost_ret (v := (cloT rs zs).w 0) (by rw [e2.out]; simp [results, Try.results26, go_sem, Cl.w, Cl.v, q0, q1, q2]) rfl ⟨by rw [H1.out], ?_⟩
    exact ((b5.setCell (by simp; try omega) _).setCell (by simp; try omega) _).setCell (by simp; try omega) _
set_option maxHeartbeats 1000000 in
set_option maxRecDepth 100000 in
theorem implClimbO_any (A : Option Addr) (n c : Nat) (rs : List Fac) (D : Option Addr) (m d : Nat) (zs : List Int) (w : World) (hn : n ≤ 1048576) (hr : Rd w w.heap.size A n 3 Fac.cells rs)
    (hok : ∀ f ∈ rs, f.l.size ≤ maxLen) (hm : m ≤ 1048576) (hd : Rd w w.heap.size D m 1 intE zs) :
    Calls Try.prog 28 #[.agg #[.slice A n c], .slice D m d] w (Ret (cloV rs zs) w) := by
  unfold cloV
  have hb0 : Below w.heap.size w (w.alloc (.cells #[.slice A n c] 30)) := by (repeat first | exact Below.refl _ _ | assumption | refine Below.drew ?_ | refine Below.alloc ?_ (by first | exact Nat.le_refl _ | (simp; done) | omega | (simp; omega)) _ | refine Below.setCell ?_ (by first | exact Nat.le_refl _ | (simp; done) | omega | (simp; omega)) _)
  have hB0 := Lib.hid (Blk.new w 30 #[.slice A n c])
  have B2 : Blk ((w.alloc (.cells #[.slice A n c] 30)).alloc (.cells #[.int .i64 0, .int .i64 0, .int .i64 0] 43)) (w.alloc (.cells #[.slice A n c] 30)).heap.size 43 #[.int .i64 0, .int .i64 0, .int .i64 0] := Blk.new _ _ _
  have hl := Lib.hid hr.len
  have HR := Lib.hid hr; clear hr
  have HD := Lib.hid hd; clear hd
  have HO := Lib.hid hok; clear hok
  have HC := Lib.hid (wsC_cases rs zs)
  go_enter Try.func28, Try.ntmps28
  go_wp2_with fail
  refine namedC fun w3 H3 => ?_
  have hb3 : Below w.heap.size w w3 := by rw [H3.out]; (repeat first | exact Below.refl _ _ | assumption | refine Below.drew ?_ | refine Below.alloc ?_ (by first | exact Nat.le_refl _ | (simp; done) | omega | (simp; omega)) _ | refine Below.setCell ?_ (by first | exact Nat.le_refl _ | (simp; done) | omega | (simp; omega)) _)
  have BG := Lib.hid (show Blk w3 w.heap.size 30 #[.slice A n c] by rw [H3.out]; exact hB0.out.alloc _)
  have BC := Lib.hid (show Blk w3 (w.heap.size + 1) 43 #[.int .i64 0, .int .i64 0, .int .i64 0] by rw [H3.out]; simpa using B2)
  clear H3 B2
  refine (climbCode_any A n c rs D m d zs w3 hn (HR.out.next hb3) HO.out hm (HD.out.next hb3)).mono ?_
  rintro e1 w4 ⟨rfl, hb4⟩
  have b4 := hb3.trans (hb4.mono hb3.size)
  have BC4 := BC.out.next hb4
  have BG4 := BG.out.next hb4
  have g0 := BG4.cell 0
  obtain ⟨q0, q1, q2⟩ := BC4.three
  have f4 := BC4.frozen
  have l4 := BC4.lt
  rcases HC.out with ⟨h1, h2⟩ | ⟨h1, h2, h3, h4⟩
  · have e0 : (wsC rs zs != 0) = true := by simpa using h1
    have e2 := Lib.hid h2
    generalize wsC rs zs = k at *
    clear h1 h2 HC BC4
    go_wp2_with fail
    refine bodyPost_ret (v := (cloT rs zs).w k) (by rw [e2.out]; simp [results, Try.results28, go_sem, Cl.w, Cl.v, Cl.nil, q0, q1, q2]) rfl ⟨rfl, ?_⟩
    exact ((b4.setCell (by simp; try omega) _).setCell (by simp; try omega) _).setCell (by simp; try omega) _
  · have H1 := Lib.hid h1
    obtain ⟨ls, hls⟩ := Option.isSome_iff_exists.1 h2
    have hls' := (gOk_lens hls).1
    have e2 := Lib.hid h4
    rw [h1]
    obtain rfl : m = 4 := by have := h3.1; have := HD.out.len; omega
    have HT := Lib.hid (top_climT zs rs)
    have HN := Lib.hid (foldAll_len Cl.nil (climF zs) climG Cl.nil rs)
    clear h1 h2 h4 HC BC4 hls
    go_wp2_with fail
    refine (climbs_any A n c rs D d zs ls w4 hn (HR.out.next b4) hls' h3 (HD.out.next b4)).mono ?_
    rintro e1 w5 ⟨A5, c5, rfl, own5, hb5⟩
    go_wp2_with fail
    refine (topC_any A5 _ c5 _ w5 (by have := HN.out; have := hl.out; omega) (by have := HN.out; omega) (Rd.of_own (fun y _ => lenCl y) rfl own5)).mono ?_
    rintro e1 w6 ⟨rfl, hb6⟩
    rw [HT.out]
    have hb6' := hb5.trans (hb6.mono hb5.size)
    have b6 := b4.trans (hb6'.mono b4.size)
    have BC6 := (BC.out.next hb4).next hb6'
    obtain ⟨q0, q1, q2⟩ := BC6.three
    have f6 := BC6.frozen
    have l6 := BC6.lt
    clear BC6 own5
    generalize climT zs rs = z at *
    go_wp2_with fail
    refine bodyPost_ret (v := (cloT rs zs).w 0) (by rw [e2.out]; simp [results, Try.results28, go_sem, Cl.w, Cl.v, q0, q1, q2]) rfl ⟨by rw [H1.out], ?_⟩
    exact ((b6.setCell (by simp; try omega) _).setCell (by simp; try omega) _).setCell (by simp; try omega) _
set_option maxHeartbeats 1000000 in
theorem eqClimb_any (x y : Cl) (w : World) : Calls Try.prog 29 #[x.v, y.v] w (Ret (.bool (decide (x.t = y.t ∧ x.l = y.l ∧ x.h = y.h))) w) := by
  unfold Cl.v
  by_cases h0 : x.t = y.t
  · by_cases h1 : x.l = y.l
    · by_cases h2 : x.h = y.h
      all_goals
        go_enter Try.func29, Try.ntmps29
        go_wp2_with fail
        go_ret
        exact ⟨ret_bool (by simp [h0, h1, h2]), by (repeat first | exact Below.refl _ _ | assumption | refine Below.drew ?_ | refine Below.alloc ?_ (by first | exact Nat.le_refl _ | (simp; done) | omega | (simp; omega)) _ | refine Below.setCell ?_ (by first | exact Nat.le_refl _ | (simp; done) | omega | (simp; omega)) _)⟩
    · go_enter Try.func29, Try.ntmps29
      go_wp2_with fail
      go_ret
      exact ⟨ret_bool (by simp [h1]), by (repeat first | exact Below.refl _ _ | assumption | refine Below.drew ?_ | refine Below.alloc ?_ (by first | exact Nat.le_refl _ | (simp; done) | omega | (simp; omega)) _ | refine Below.setCell ?_ (by first | exact Nat.le_refl _ | (simp; done) | omega | (simp; omega)) _)⟩
  · go_enter Try.func29, Try.ntmps29
    go_wp2_with fail
    go_ret
    exact ⟨ret_bool (by simp [h0]), by (repeat first | exact Below.refl _ _ | assumption | refine Below.drew ?_ | refine Below.alloc ?_ (by first | exact Nat.le_refl _ | (simp; done) | omega | (simp; omega)) _ | refine Below.setCell ?_ (by first | exact Nat.le_refl _ | (simp; done) | omega | (simp; omega)) _)⟩
end Go.Proofs.Ytpkhkippdigcjaa
