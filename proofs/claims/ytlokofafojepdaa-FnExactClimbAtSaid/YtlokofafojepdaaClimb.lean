/-
  The climbs of all rules: in the program.
-/
import Derived.Test.YtlokofafojepdaaFoldC
import Derived.Test.YtlokofafojepdaaFoldL
import Derived.Test.YtlokofafojepdaaGramL
namespace Go.Proofs.Ytlokofafojepdaa
open Go.RowKit

def climF (ws : List Int) (l : Nat) : Cl := ⟨ws.getD l 0, min 0 (ws.getD l 0), max 0 (ws.getD l 0)⟩
def climG (x y : Cl) (_ : Fac) : Cl := ⟨x.t + y.t, min x.l (x.t + y.l), max x.h (x.t + y.h)⟩
def ClB (m : Int) (x : Cl) : Prop := -m ≤ x.t ∧ x.t ≤ m ∧ -m ≤ x.l ∧ x.l ≤ m ∧ -m ≤ x.h ∧ x.h ≤ m
/-- four weights -/
def WsOk (ws : List Int) : Prop := ws.length = 4 ∧ ∀ z ∈ ws, -9 ≤ z ∧ z ≤ 9
theorem WsOk.at_ {ws : List Int} (h : WsOk ws) (i : Nat) (hi : i < 4) : -9 ≤ ws.getD i 0 ∧ ws.getD i 0 ≤ 9 := by
  refine h.2 _ ?_
  rw [List.getD_eq_getElem?_getD, List.getElem?_eq_getElem (by rw [h.1]; exact hi)]; simp
/-- the climbs of all rules -/
abbrev clim (ws : List Int) (rs : List Fac) : List Cl := full Cl.nil (climF ws) climG rs
theorem clim_bound {ws : List Int} {rs : List Fac} {ls : List Int} (hls : gLens rs [] = some ls) (hws : WsOk ws) {k : Nat} (hk : k < rs.length) : ClB (9 * ls.getD k 0) ((clim ws rs).getD k Cl.nil) := by
  refine full_ind Cl.nil (climF ws) climG (wf_of hls) (fun k x => ClB (9 * ls.getD k 0) x) (fun k r hr hl => ?_) (fun k r a b hr h0 ha0 ha1 hb0 hb1 ha hb => ?_) k hk
  · have h0 : r.l.size ≠ 0 := by obtain ⟨c, _, hc⟩ := letT_one hl; rw [hc]; show (1 : Nat) ≠ 0; omega
    have e := lens_let hls hr h0
    have hw := hws.at_ (letN r.l) (letN_lt hl)
    unfold ClB climF
    simp only
    rw [e]
    omega
  · have e := lens_pair hls hr h0
    have hk : k < rs.length := (List.getElem?_eq_some_iff.1 hr).1
    have l1 := lens_bound hls (i := r.a.toNat) (by omega)
    have l2 := lens_bound hls (i := r.b.toNat) (by omega)
    unfold ClB at *
    unfold climG
    simp only
    rw [e]
    omega

abbrev Cl.v (x : Cl) : Value := .agg #[.int .i64 x.t, .int .i64 x.l, .int .i64 x.h]
def big9 : Int := 9000000000000000
set_option maxHeartbeats 400000 in
theorem behind_any (x y : Cl) (w : World) (hx : ClB 9000000000000000 x) (hy : ClB 9000000000000000 y) :
    Calls Try.prog 92 #[.agg #[.int .i64 x.t, .int .i64 x.l, .int .i64 x.h], .agg #[.int .i64 y.t, .int .i64 y.l, .int .i64 y.h]] w (Ret (Cl.v (climG x y ⟨⟨#[]⟩, 0, 0⟩)) w) := by
  obtain ⟨x0, x1, x2, x3, x4, x5⟩ := hx
  obtain ⟨y0, y1, y2, y3, y4, y5⟩ := hy
  obtain ⟨xt, xl, xh⟩ := x
  obtain ⟨yt, yl, yh⟩ := y
  simp only at x0 x1 x2 x3 x4 x5 y0 y1 y2 y3 y4 y5
  go_enter Try.func92, Try.ntmps92
  go_wp2
  all_goals
    refine bodyPost_ret (v := Cl.v (climG ⟨xt, xl, xh⟩ ⟨yt, yl, yh⟩ ⟨⟨#[]⟩, 0, 0⟩)) ?_ rfl ⟨rfl, by (repeat first | exact Below.refl _ _ | assumption | refine Below.drew ?_ | refine Below.alloc ?_ (by first | exact Nat.le_refl _ | (simp; done) | omega | (simp; omega)) _ | refine Below.setCell ?_ (by first | exact Nat.le_refl _ | (simp; done) | omega | (simp; omega)) _)⟩
    simp [results, Try.results92, go_sem, climG]
    try omega
set_option maxHeartbeats 400000 in
theorem climbs2_any (x y : Cl) (r : Fac) (w : World) (hx : ClB 9000000000000000 x) (hy : ClB 9000000000000000 y) :
    Calls Try.prog 91 #[.agg #[.int .i64 x.t, .int .i64 x.l, .int .i64 x.h], .agg #[.int .i64 y.t, .int .i64 y.l, .int .i64 y.h], r.val] w (Ret (Cl.v (climG x y r)) w) := by
  unfold Fac.val
  have e := Lib.hid (show climG x y ⟨⟨#[]⟩, 0, 0⟩ = climG x y r from rfl)
  have hc := fun w' => behind_any x y w' hx hy
  have Hc := Lib.hid hc; clear hc
  go_enter Try.func91, Try.ntmps91
  go_wp2_with fail
  refine namedC fun w3 H3 => ?_
  have hb3 : Below w.heap.size w w3 := by rw [H3.out]; (repeat first | exact Below.refl _ _ | assumption | refine Below.drew ?_ | refine Below.alloc ?_ (by first | exact Nat.le_refl _ | (simp; done) | omega | (simp; omega)) _ | refine Below.setCell ?_ (by first | exact Nat.le_refl _ | (simp; done) | omega | (simp; omega)) _)
  have B3 : Blk w3 (w.heap.size + 3) 70 #[.int .i64 0, .int .i64 0, .int .i64 0] := by rw [H3.out]; simpa using Blk.new (((w.alloc _).alloc _).alloc _) _ _
  have B3' := Lib.hid B3; clear B3 H3
  refine (Hc.out w3).mono ?_
  rintro e1 w4 ⟨rfl, hb4⟩
  rw [e.out]
  generalize climG x y r = z at *
  have B4 := B3'.out.next hb4
  obtain ⟨d0, d1, d2⟩ := B4.three
  have f4 := B4.frozen
  have l4 := B4.lt
  have hb34 := hb3.trans (hb4.mono hb3.size)
  go_wp2_with fail
  refine bodyPost_ret (v := Cl.v z) (by simp [results, Try.results91, go_sem, d0, d1, d2]) rfl ⟨rfl, ?_⟩
  exact ((hb34.setCell (by simp; omega) _).setCell (by simp; omega) _).setCell (by simp; omega) _
set_option maxHeartbeats 400000 in
theorem climbs1_any (l : Nat) (pb : Nat) (A : Option Addr) (c : Nat) (ws : List Int) (w : World) (hl : l < 4) (hws : WsOk ws) (hpb : pb < w.heap.size) (hp : w.cell? ⟨pb, 0, none⟩ = some (.slice A 4 c)) (hd : Rd w w.heap.size A 4 1 intE ws) :
    Calls Try.prog 90 #[.int .i64 (l : Int), .pointer (some ⟨pb, 0, none⟩)] w (Ret (Cl.v (climF ws l)) w) := by
  obtain ⟨b, o, y, rfl, hB, g1, e1⟩ := (show Rd w w.heap.size A 4 1 (fun s => [.int .i64 s]) ws from hd).int (k := l) hl
  have hy := hws.at_ l hl
  have hF : climF ws l = ⟨y, min 0 y, max 0 y⟩ := by unfold climF; rw [List.getD_eq_getElem?_getD, g1]; rfl
  rw [List.getD_eq_getElem?_getD, g1] at hy
  simp only [Option.getD_some] at hy
  have HF := Lib.hid hF
  have y0 := hy.1; have y1 := hy.2
  have i1 : (l : Int) < 4 := by omega
  have i0 : (0 : Int) ≤ l := by omega
  clear hF hy g1 hws
  go_enter Try.func90, Try.ntmps90
  go_wp2
  all_goals
    rw [HF.out]
    refine bodyPost_ret (v := Cl.v ⟨y, min 0 y, max 0 y⟩) ?_ rfl ⟨rfl, by (repeat first | exact Below.refl _ _ | assumption | refine Below.drew ?_ | refine Below.alloc ?_ (by first | exact Nat.le_refl _ | (simp; done) | omega | (simp; omega)) _ | refine Below.setCell ?_ (by first | exact Nat.le_refl _ | (simp; done) | omega | (simp; omega)) _)⟩
    simp [results, Try.results90, go_sem]
    try omega
set_option maxHeartbeats 400000 in
theorem climbs_any (A : Option Addr) (n c : Nat) (rs : List Fac) (D : Option Addr) (d : Nat) (ws : List Int) (ls : List Int) (w : World) (hn : n ≤ 1048576) (hr : Rd w w.heap.size A n 3 Fac.cells rs) (hls : gLens rs [] = some ls) (hws : WsOk ws) (hd : Rd w w.heap.size D 4 1 intE ws) :
    Calls Try.prog 48 #[.agg #[.slice A n c], .slice D 4 d] w (RetNew w 70 3 encCl (foldAll Cl.nil (climF ws) climG Cl.nil rs)) := by
  have hl := Lib.hid hr.len
  have HR := Lib.hid hr; clear hr
  have HD := Lib.hid hd; clear hd
  have HL := Lib.hid hls; clear hls
  go_enter Try.func48, Try.ntmps48
  go_wp2_with fail
  refine namedC fun w3 H3 => ?_
  have hb3 : Below w.heap.size w w3 := by rw [H3.out]; (repeat first | exact Below.refl _ _ | assumption | refine Below.drew ?_ | refine Below.alloc ?_ (by first | exact Nat.le_refl _ | (simp; done) | omega | (simp; omega)) _ | refine Below.setCell ?_ (by first | exact Nat.le_refl _ | (simp; done) | omega | (simp; omega)) _)
  have B3 : Blk w3 (w.heap.size + 1) 25 #[.slice D 4 d] := by rw [H3.out]; simpa using Blk.new (w.alloc _) _ _
  clear H3
  refine (foldC_any 90 91 (enterOk Try.func90 (by kernel_rfl) (by kernel_rfl)) (enterOk Try.func91 (by kernel_rfl) (by kernel_rfl)) #[.pointer (some ⟨w.heap.size + 1, 0, none⟩)] #[] (climF ws) climG Cl.nil A n c rs w3 hn (HR.out.next hb3) (wf_of HL.out) ?_ ?_).mono ?_
  · intro k r hr h0 w' hb'
    rcases wf_of HL.out k r hr with ⟨h0', _⟩ | ⟨cc, hcc, hxl, _⟩
    · exact absurd h0' h0
    · have B4 := B3.next hb'
      exact climbs1_any (letN r.l) (w.heap.size + 1) D d ws w' (letN_lt (by rw [hxl]; exact hcc)) hws B4.lt (B4.cell 0) ((HD.out.next hb3).next hb')
  · intro k r hr h0 w' hb'
    have hk : k < rs.length := (List.getElem?_eq_some_iff.1 hr).1
    rcases wf_of HL.out k r hr with ⟨_, ha0, ha1, hb0, hb1⟩ | ⟨cc, _, hxl, _⟩
    · rw [outs_full Cl.nil (climF ws) climG (k := k) (i := r.a.toNat) (by omega) (by omega), outs_full Cl.nil (climF ws) climG (k := k) (i := r.b.toNat) (by omega) (by omega)]
      have q1 := clim_bound HL.out hws (k := r.a.toNat) (by omega)
      have q2 := clim_bound HL.out hws (k := r.b.toNat) (by omega)
      have m1 := lens_bound HL.out (i := r.a.toNat) (by omega)
      have m2 := lens_bound HL.out (i := r.b.toNat) (by omega)
      have h := climbs2_any ((clim ws rs).getD r.a.toNat Cl.nil) ((clim ws rs).getD r.b.toNat Cl.nil) r w' (by unfold ClB at *; omega) (by unfold ClB at *; omega)
      simpa using h
    · rw [hxl] at h0; exact absurd h0 (show ¬ (1 : Nat) = 0 by omega)
  rintro e4 w4 ⟨A4, c4, rfl, own4, hb4⟩
  have O4 := Lib.hid own4; clear own4
  go_wp2_with fail
  go_ret
  exact ⟨A4, c4, rfl, O4.out.mono hb3.size, hb3.trans (hb4.mono hb3.size)⟩
end Go.Proofs.Ytlokofafojepdaa
