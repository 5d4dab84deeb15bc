/-
  Texts of this claim, merged: Cnt Lett Make Cens FoldT Pieces Place Sel PieceS Rank RankS ModC Inv Wd.
-/
import Derived.Test.YtecnkmndmnefdaaP0
import Derived.Deep.RegionHeld3
import Derived.Laws.EntriesVeiled
import Derived.Deep.RegionWith


/-
  How often letters occur in the words of all rules: the model, and the program's census.
-/
namespace Go.Proofs.Ytecnkmndmnefdaa
open Go.RowKit

/-- the number of a letter in four numbers -/
def Q4.at_ (q : Q4) : Nat → Int
  | 0 => q.a
  | 1 => q.b
  | 2 => q.c
  | _ => q.d
theorem encQ4_at (q : Q4) {l : Nat} (h : l < 4) : (encQ4 q)[l]? = some (.int .i64 (q.at_ l)) := by
  match l, h with
  | 0, _ => rfl
  | 1, _ => rfl
  | 2, _ => rfl
  | 3, _ => rfl
def cntF (l : Nat) : Q4 := ⟨if l = 0 then 1 else 0, if l = 1 then 1 else 0, if l = 2 then 1 else 0, if l = 3 then 1 else 0⟩
def cntG (x y : Q4) (_ : Fac) : Q4 := ⟨x.a + y.a, x.b + y.b, x.c + y.c, x.d + y.d⟩
theorem cntF_at (l : Nat) {j : Nat} (h : j < 4) : (cntF l).at_ j = if l = j then 1 else 0 := by
  match j, h with
  | 0, _ => rfl
  | 1, _ => rfl
  | 2, _ => rfl
  | 3, _ => rfl
theorem cntG_at (x y : Q4) (r : Fac) (j : Nat) : (cntG x y r).at_ j = x.at_ j + y.at_ j := by
  match j with
  | 0 => rfl
  | 1 => rfl
  | 2 => rfl
  | _ + 3 => rfl
/-- how often letters occur, for each rule -/
abbrev cnts (rs : List Fac) : List Q4 := full Q4.nil cntF cntG rs
def QB (m : Int) (q : Q4) : Prop := 0 ≤ q.a ∧ 0 ≤ q.b ∧ 0 ≤ q.c ∧ 0 ≤ q.d ∧ q.a + q.b + q.c + q.d = m
theorem QB.at_ {m : Int} {q : Q4} (h : QB m q) (j : Nat) : 0 ≤ q.at_ j ∧ q.at_ j ≤ m := by
  obtain ⟨h0, h1, h2, h3, h4⟩ := h
  match j with
  | 0 => exact ⟨h0, show q.a ≤ m by omega⟩
  | 1 => exact ⟨h1, show q.b ≤ m by omega⟩
  | 2 => exact ⟨h2, show q.c ≤ m by omega⟩
  | _ + 3 => exact ⟨h3, show q.d ≤ m by omega⟩
theorem cnt_bound {rs : List Fac} {ls : List Int} (hls : gLens rs [] = some ls) {k : Nat} (hk : k < rs.length) : QB (ls.getD k 0) ((cnts rs).getD k Q4.nil) := by
  have hwf := wf_of hls
  refine full_ind Q4.nil cntF cntG hwf (fun k x => QB (ls.getD k 0) x) (fun k r hr h => ?_) (fun k r a b hr h0 h1 h2 h3 h4 ha hb => ?_) k hk
  · have h0 : r.l.size ≠ 0 := by
      obtain ⟨c, _, e⟩ := letT_one h
      rw [e]; show (1 : Nat) ≠ 0; omega
    show QB (ls.getD k 0) _
    rw [lens_let hls hr h0]
    have := letN_lt h
    generalize letN r.l = l at *
    match l, this with
    | 0, _ => simp [QB, cntF]
    | 1, _ => simp [QB, cntF]
    | 2, _ => simp [QB, cntF]
    | 3, _ => simp [QB, cntF]
  · show QB (ls.getD k 0) _
    rw [lens_pair hls hr h0]
    obtain ⟨a0, a1, a2, a3, a4⟩ := ha
    obtain ⟨b0, b1, b2, b3, b4⟩ := hb
    simp only [QB, cntG]
    omega
theorem cnt_at {rs : List Fac} {ls : List Int} (hls : gLens rs [] = some ls) {k : Nat} (hk : k < rs.length) (j : Nat) : 0 ≤ ((cnts rs).getD k Q4.nil).at_ j ∧ ((cnts rs).getD k Q4.nil).at_ j ≤ 1000000000000000 := by
  have h1 := (cnt_bound hls hk).at_ j
  have h2 := lens_bound hls hk
  omega
abbrev Q4.v (x : Q4) : Value := .agg #[.int .i64 x.a, .int .i64 x.b, .int .i64 x.c, .int .i64 x.d]
theorem Blk.four {w : World} {g : Nat} {t : TypeId} {x y z u : Value} (h : Blk w g t #[x, y, z, u]) : w.cell? ⟨g, 0, none⟩ = some x ∧ w.cell? ⟨g, 1, none⟩ = some y ∧ w.cell? ⟨g, 2, none⟩ = some z ∧ w.cell? ⟨g, 3, none⟩ = some u := ⟨h.cell 0, h.cell 1, h.cell 2, h.cell 3⟩

set_option maxHeartbeats 1000000 in
theorem cens1_any (l : Nat) (w : World) (hl : l < 4) : Calls Try.prog 81 #[.int .i64 (l : Int)] w (Ret (Q4.v (cntF l)) w) := by
  rcases (show l = 0 ∨ l = 1 ∨ l = 2 ∨ l = 3 by omega) with rfl | rfl | rfl | rfl
  all_goals
    go_enter Try.func81, Try.ntmps81
    go_wp2
    refine bodyPost_ret (v := Q4.v (cntF _)) ?_ rfl ⟨rfl, by (repeat first | exact Below.refl _ _ | assumption | refine Below.drew ?_ | refine Below.alloc ?_ (by first | exact Nat.le_refl _ | (simp; done) | omega | (simp; omega)) _ | refine Below.setCell ?_ (by first | exact Nat.le_refl _ | (simp; done) | omega | (simp; omega)) _)⟩
    simp [results, Try.results81, go_sem, cntF]
theorem ix4 (a b c d : Int) : (∀ w : World, (Instr.index 87 (.agg #[.int .i64 a, .int .i64 b, .int .i64 c, .int .i64 d]) (.int .i64 0)).run Try.prog w = .ok (.int .i64 a) w) ∧
    (∀ w : World, (Instr.index 87 (.agg #[.int .i64 a, .int .i64 b, .int .i64 c, .int .i64 d]) (.int .i64 1)).run Try.prog w = .ok (.int .i64 b) w) ∧
    (∀ w : World, (Instr.index 87 (.agg #[.int .i64 a, .int .i64 b, .int .i64 c, .int .i64 d]) (.int .i64 2)).run Try.prog w = .ok (.int .i64 c) w) ∧
    (∀ w : World, (Instr.index 87 (.agg #[.int .i64 a, .int .i64 b, .int .i64 c, .int .i64 d]) (.int .i64 3)).run Try.prog w = .ok (.int .i64 d) w) :=
  ⟨fun _ => by kernel_rfl, fun _ => by kernel_rfl, fun _ => by kernel_rfl, fun _ => by kernel_rfl⟩
set_option maxHeartbeats 2000000 in
set_option maxRecDepth 100000 in
theorem cens2_any (x y : Q4) (r : Fac) (w : World) (hs : ∀ j, 0 ≤ x.at_ j ∧ x.at_ j ≤ 1000000000000000 ∧ 0 ≤ y.at_ j ∧ y.at_ j ≤ 1000000000000000) :
    Calls Try.prog 82 #[.agg #[.int .i64 x.a, .int .i64 x.b, .int .i64 x.c, .int .i64 x.d], .agg #[.int .i64 y.a, .int .i64 y.b, .int .i64 y.c, .int .i64 y.d], r.val] w (Ret (Q4.v (cntG x y r)) w) := by
  obtain ⟨x0, x0', y0, y0'⟩ : 0 ≤ x.a ∧ x.a ≤ 1000000000000000 ∧ 0 ≤ y.a ∧ y.a ≤ 1000000000000000 := hs 0
  obtain ⟨x1, x1', y1, y1'⟩ : 0 ≤ x.b ∧ x.b ≤ 1000000000000000 ∧ 0 ≤ y.b ∧ y.b ≤ 1000000000000000 := hs 1
  obtain ⟨x2, x2', y2, y2'⟩ : 0 ≤ x.c ∧ x.c ≤ 1000000000000000 ∧ 0 ≤ y.c ∧ y.c ≤ 1000000000000000 := hs 2
  obtain ⟨x3, x3', y3, y3'⟩ : 0 ≤ x.d ∧ x.d ≤ 1000000000000000 ∧ 0 ≤ y.d ∧ y.d ≤ 1000000000000000 := hs 3
  clear hs
  obtain ⟨xa, xb, xc, xd⟩ := x
  obtain ⟨ya, yb, yc, yd⟩ := y
  simp only at x0 x0' y0 y0' x1 x1' y1 y1' x2 x2' y2 y2' x3 x3' y3 y3'
  unfold Fac.val
  go_enter Try.func82, Try.ntmps82
  go_wp2_with fail
  refine named fun w3 H3 => ?_
  have hb3 : Below w.heap.size w w3 := by rw [H3.out]; (repeat first | exact Below.refl _ _ | assumption | refine Below.drew ?_ | refine Below.alloc ?_ (by first | exact Nat.le_refl _ | (simp; done) | omega | (simp; omega)) _ | refine Below.setCell ?_ (by first | exact Nat.le_refl _ | (simp; done) | omega | (simp; omega)) _)
  have BX : Blk w3 w.heap.size 87 #[.int .i64 xa, .int .i64 xb, .int .i64 xc, .int .i64 xd] := by rw [H3.out]; simpa using (((Blk.new w _ _).alloc _).alloc _).alloc _
  have BR : Blk w3 (w.heap.size + 3) 87 #[.int .i64 0, .int .i64 0, .int .i64 0, .int .i64 0] := by rw [H3.out]; simpa using Blk.new (((w.alloc _).alloc _).alloc _) _ _
  have BR' := Lib.hid BR; clear BR
  have BX' := Lib.hid BX; clear BX H3
  go_loopw [10] (fun i_ w' => ∃ (l : Nat), i_ = .int .i64 l ∧ l ≤ 4 ∧ Below w.heap.size w w' ∧ Hid (Blk w' (w.heap.size + 3) 87 #[.int .i64 0, .int .i64 0, .int .i64 0, .int .i64 0]) ∧
      Hid (Blk w' w.heap.size 87 #[.int .i64 (if 0 < l then xa + ya else xa), .int .i64 (if 1 < l then xb + yb else xb), .int .i64 (if 2 < l then xc + yc else xc), .int .i64 (if 3 < l then xd + yd else xd)])) (fun i_ _ => 4 - (intOf i_).toNat)
  case atStart => exact ⟨0, rfl, by omega, hb3, BR', BX'⟩
  case round =>
    obtain ⟨l, rfl, hl, hb, hBR, hB⟩ := hrel
    rcases (show l = 0 ∨ l = 1 ∨ l = 2 ∨ l = 3 ∨ l = 4 by omega) with rfl | rfl | rfl | rfl | rfl
    case inr.inr.inr.inr =>
      have B4 := hB.out
      simp only [show (0 : Nat) < 4 by omega, show (1 : Nat) < 4 by omega, show (2 : Nat) < 4 by omega, show (3 : Nat) < 4 by omega, if_true] at B4
      obtain ⟨d0, d1, d2, d3⟩ := B4.four
      obtain ⟨f0, f1, f2, f3⟩ := hBR.out.four
      have g0 := hBR.out.frozen
      have l0 := hBR.out.lt
      have l1 := B4.lt
      clear B4 hB hBR
      go_wp2_with fail
      refine bodyPost_ret (v := Q4.v (cntG ⟨xa, xb, xc, xd⟩ ⟨ya, yb, yc, yd⟩ r)) (by simp [results, Try.results82, go_sem, cntG, f0, f1, f2, f3]) rfl ⟨rfl, ?_⟩
      exact (((hb.setCell (by simp; try omega) _).setCell (by simp; try omega) _).setCell (by simp; try omega) _).setCell (by simp; try omega) _
    all_goals
      have B4 := Lib.hid hB.out
      obtain ⟨d0, d1, d2, d3⟩ := B4.out.four
      have g0 := B4.out.frozen
      have l1 := B4.out.lt
      simp only [show ¬ (3 : Nat) < 3 by omega, show ¬ (3 : Nat) < 2 by omega, show ¬ (3 : Nat) < 1 by omega, show ¬ (3 : Nat) < 0 by omega, show ¬ (2 : Nat) < 2 by omega, show ¬ (2 : Nat) < 1 by omega, show ¬ (2 : Nat) < 0 by omega,
        show ¬ (1 : Nat) < 1 by omega, show ¬ (1 : Nat) < 0 by omega, show ¬ (0 : Nat) < 0 by omega, if_false] at d0 d1 d2 d3
      clear hB
      have i0 := ix4 ya yb yc yd
      obtain ⟨i0, i1, i2, i3⟩ := i0
      go_wp2_with fail
      go_roundw
      case rel =>
        first
          | exact ⟨1, by go_num, by omega, hb.setCell (Nat.le_refl _) _, Lib.hid (hBR.out.far (by simp) _), Lib.hid (B4.out.set_ 0 _)⟩
          | exact ⟨2, by go_num, by omega, hb.setCell (Nat.le_refl _) _, Lib.hid (hBR.out.far (by simp) _), Lib.hid (B4.out.set_ 1 _)⟩
          | exact ⟨3, by go_num, by omega, hb.setCell (Nat.le_refl _) _, Lib.hid (hBR.out.far (by simp) _), Lib.hid (B4.out.set_ 2 _)⟩
          | exact ⟨4, by go_num, by omega, hb.setCell (Nat.le_refl _) _, Lib.hid (hBR.out.far (by simp) _), Lib.hid (B4.out.set_ 3 _)⟩
      case measure => simp [intOf]
end Go.Proofs.Ytecnkmndmnefdaa


/-
  The reference's small functions on letters and numbers.
-/
namespace Go.Proofs.Ytecnkmndmnefdaa
open Go.RowKit

theorem l00Min_any (a b : Int) (w : World) : Calls Try.prog 67 #[.int .i64 a, .int .i64 b] w (Ret (.int .i64 (min a b)) w) := by
  go_enter Try.func67, Try.ntmps67
  go_wp2
  all_goals
    go_ret
    exact ⟨ret_int (by omega), by (repeat first | exact Below.refl _ _ | assumption | refine Below.drew ?_ | refine Below.alloc ?_ (by first | exact Nat.le_refl _ | (simp; done) | omega | (simp; omega)) _ | refine Below.setCell ?_ (by first | exact Nat.le_refl _ | (simp; done) | omega | (simp; omega)) _)⟩
theorem l04Letter_any (c : UInt8) (hc : letB c = true) (w : World) : Calls Try.prog 49 #[.int .u8 (c.toNat : Int)] w (Ret (.int .i64 ((c.toNat : Int) - 97)) w) := by
  obtain ⟨h0, h1⟩ := letB_num hc
  clear hc
  go_enter Try.func49, Try.ntmps49
  go_wp2
  go_ret
  exact ⟨ret_int (by omega), by (repeat first | exact Below.refl _ _ | assumption | refine Below.drew ?_ | refine Below.alloc ?_ (by first | exact Nat.le_refl _ | (simp; done) | omega | (simp; omega)) _ | refine Below.setCell ?_ (by first | exact Nat.le_refl _ | (simp; done) | omega | (simp; omega)) _)⟩
end Go.Proofs.Ytecnkmndmnefdaa


/-
  A new slice of four numbers.
-/
namespace Go.Proofs.Ytecnkmndmnefdaa
open Go.RowKit

theorem info_i64 : (Try.prog.info? 2).map (fun i => (i.zero, i.size, i.bytes)) = some (some (.int .i64 0), 1, 8) := by kernel_rfl
theorem made4 : madeCells (Value.int .i64 0).cells (4 * 1) = #[.int .i64 0, .int .i64 0, .int .i64 0, .int .i64 0] := by
  apply Array.ext
  · simp [size_madeCells]
  · intro i h1 h2
    have h3 : i < 4 := h2
    match i, h3 with
    | 0, _ => simp [madeCells, Value.cells]
    | 1, _ => simp [madeCells, Value.cells]
    | 2, _ => simp [madeCells, Value.cells]
    | 3, _ => simp [madeCells, Value.cells]
theorem make4 (W : World) : (Instr.makeSlice 32 (.int .i64 4) (.int .i64 4)).run Try.prog W = .ok (.slice (some ⟨W.heap.size, 0, none⟩) 4 4) (W.alloc (.cells #[.int .i64 0, .int .i64 0, .int .i64 0, .int .i64 0] 2)) := by
  obtain ⟨i0, hi, hz0, hz1, hz2⟩ := info_parts info_i64
  have hmk := run_make_rowN (P := Try.prog) 32 2 i0 _ Try.underlying32 hi hz0 .i64 .i64 4 4 (Nat.le_refl _) (by rw [hz2]; omega) (by omega) W
  rw [hz1, made4] at hmk
  exact hmk
end Go.Proofs.Ytecnkmndmnefdaa


/-
  The program's census, and the reference's table of counts.
-/
namespace Go.Proofs.Ytecnkmndmnefdaa
open Go.RowKit

/-- what 'newCensus' leaves -/
def CenPost (A : Option Addr) (n c : Nat) (rs : List Fac) (w : World) (e : Ending) (w' : World) : Prop :=
  Below w.heap.size w w' ∧ ((∃ ls A2 c2 A3 c3, gOk rs = some ls ∧ e = .returned (.tuple #[.agg #[.slice A n c, .slice A2 n c2, .slice A3 (foldAll Q4.nil cntF cntG Q4.nil rs).length c3], .bool true]) ∧
      w'.ownsRow w.heap.size 2 1 (.slice A2 n c2) n (ls.flatMap intE) ∧
      w'.ownsRow w.heap.size 87 4 (.slice A3 (foldAll Q4.nil cntF cntG Q4.nil rs).length c3) (foldAll Q4.nil cntF cntG Q4.nil rs).length ((foldAll Q4.nil cntF cntG Q4.nil rs).flatMap encQ4)) ∨
    (gOk rs = none ∧ e = .returned (.tuple #[.agg #[.slice none 0 0, .slice none 0 0, .slice none 0 0], .bool false])))
set_option maxHeartbeats 1000000 in
set_option maxRecDepth 100000 in
theorem census_any (A : Option Addr) (n c : Nat) (rs : List Fac) (w : World) (hn : n ≤ 1048576) (hr : Rd w w.heap.size A n 3 Fac.cells rs) (hok : ∀ f ∈ rs, f.l.size ≤ maxLen) :
    Calls Try.prog 35 #[.agg #[.slice A n c]] w (CenPost A n c rs w) := by
  have hl := Lib.hid hr.len
  have HR := Lib.hid hr; clear hr
  have HO := Lib.hid hok; clear hok
  go_enter Try.func35, Try.ntmps35
  go_wp2_with fail
  refine namedC fun w3 H3 => ?_
  have hb3 : Below w.heap.size w w3 := by rw [H3.out]; (repeat first | exact Below.refl _ _ | assumption | refine Below.drew ?_ | refine Below.alloc ?_ (by first | exact Nat.le_refl _ | (simp; done) | omega | (simp; omega)) _ | refine Below.setCell ?_ (by first | exact Nat.le_refl _ | (simp; done) | omega | (simp; omega)) _)
  have BG := Lib.hid (show Blk w3 w.heap.size 26 #[.slice A n c] by rw [H3.out]; exact (Blk.new w _ _).alloc _)
  have BC := Lib.hid (show Blk w3 (w.heap.size + 1) 59 #[.slice none 0 0, .slice none 0 0, .slice none 0 0] by rw [H3.out]; simpa using Blk.new (w.alloc _) _ _)
  clear H3
  refine (lengths_any A n c rs w3 (by omega) (HR.out.next hb3) HO.out).mono ?_
  rintro e w4 ⟨hb4, ⟨ls, A2, c2, hg, rfl, hown⟩ | ⟨hg, A', n', c', rfl⟩⟩
  · have Hg := Lib.hid hg
    have HL := Lib.hid (gOk_lens hg).1
    have hll : ls.length = n := (gOk_lens hg).2.2.trans hl.out
    rw [hll] at hown ⊢
    have b4 := hb3.trans (hb4.mono hb3.size)
    have cg := (BG.out.next hb4).cell 0
    have lg := (BG.out.next hb4).lt
    have Own := Lib.hid hown
    clear hg hown hll
    go_wp2_with fail
    refine (foldQ_any 81 82 (enterOk Try.func81 (by kernel_rfl) (by kernel_rfl)) (enterOk Try.func82 (by kernel_rfl) (by kernel_rfl)) #[] #[] cntF cntG Q4.nil A n c rs w4 hn (HR.out.next b4) (wf_of HL.out) ?_ ?_).mono ?_
    · intro k r hr h0 w' hb'
      rcases wf_of HL.out k r hr with ⟨h0', _⟩ | ⟨cc, hcc, hxl, _⟩
      · exact absurd h0' h0
      · exact cens1_any (letN r.l) w' (letN_lt (by rw [hxl]; exact hcc))
    · intro k r hr h0 w' hb'
      have hk : k < rs.length := (List.getElem?_eq_some_iff.1 hr).1
      rcases wf_of HL.out k r hr with ⟨_, ha0, ha1, hb0, hb1⟩ | ⟨cc, _, hxl, _⟩
      · rw [outs_full Q4.nil cntF cntG (k := k) (i := r.a.toNat) (by omega) (by omega), outs_full Q4.nil cntF cntG (k := k) (i := r.b.toNat) (by omega) (by omega)]
        have q1 := fun j => cnt_at HL.out (k := r.a.toNat) (by omega) j
        have q2 := fun j => cnt_at HL.out (k := r.b.toNat) (by omega) j
        have h := cens2_any ((cnts rs).getD r.a.toNat Q4.nil) ((cnts rs).getD r.b.toNat Q4.nil) r w' (fun j => ⟨(q1 j).1, (q1 j).2, (q2 j).1, (q2 j).2⟩)
        simpa using h
      · rw [hxl] at h0; exact absurd h0 (show ¬ (1 : Nat) = 0 by omega)
    rintro e4 w5 ⟨A3, c3, rfl, own5, hb5⟩
    have b5 := b4.trans (hb5.mono b4.size)
    have cg5 := ((BG.out.next hb4).next hb5).cell 0
    have BC5 := (BC.out.next hb4).next hb5
    obtain ⟨d0, d1, d2⟩ := BC5.three
    have f5 := BC5.frozen
    have l5 := BC5.lt
    have O5 := Lib.hid own5
    clear own5 cg lg
    have hfo := Lib.hid (fun (w' : World) (h : Below w5.heap.size w5 w') => own_next O5.out h)
    clear BC5
    go_wp2_with fail
    refine bodyPost_ret (v := .tuple #[.agg #[.slice A n c, .slice A2 n c2, .slice A3 (foldAll Q4.nil cntF cntG Q4.nil rs).length c3], .bool true]) (by simp [results, Try.results35, go_sem, d0, d1, d2]) rfl ?_
    have hgb : ∀ (u v x : Value), w5.grownBy (((w5.setCell ⟨w.heap.size + 1, 0, none⟩ u).setCell ⟨w.heap.size + 1, 1, none⟩ v).setCell ⟨w.heap.size + 1, 2, none⟩ x) (some (w.heap.size + 1)) := fun u v x => gb_setCell (gb_setCell (gb_set w5 _ _ _) _ _) _ _
    have hlt : w.heap.size + 1 < w3.heap.size := BC.out.lt
    refine ⟨((b5.setCell (by simp; try omega) _).setCell (by simp; try omega) _).setCell (by simp; try omega) _, .inl ⟨ls, A2, c2, A3, c3, Hg.out, rfl, ?_, ?_⟩⟩
    · exact (own_kept (own_next Own.out hb5) (hgb _ _ _) hlt).mono hb3.size
    · exact (own_kept O5.out (hgb _ _ _) (by have := hb4.size; omega)).mono b4.size
  · have Hg := Lib.hid hg; clear hg
    have b4 := hb3.trans (hb4.mono hb3.size)
    have BC4 := BC.out.next hb4
    obtain ⟨d0, d1, d2⟩ := BC4.three
    have f4 := BC4.frozen
    have l4 := BC4.lt
    clear BC4
    go_wp2_with fail
    refine bodyPost_ret (v := .tuple #[.agg #[.slice none 0 0, .slice none 0 0, .slice none 0 0], .bool false]) (by simp [results, Try.results35, go_sem, d0, d1, d2]) rfl ⟨?_, .inr ⟨Hg.out, rfl⟩⟩
    exact ((b4.setCell (by simp; try omega) _).setCell (by simp; try omega) _).setCell (by simp; try omega) _
def encG (g : Nat) : List Value := [.slice (some ⟨g, 0, none⟩) 4 4]
theorem one_encG (g : Nat) : ∀ u ∈ encG g, u.oneCell' = true := by
  intro u hu
  obtain rfl : u = .slice (some ⟨g, 0, none⟩) 4 4 := by simpa [encG] using hu
  rfl
theorem elemG : Elem Try.prog 75 32 1 24 := Elem.mk' (z := .slice none 0 0) Try.underlying75 (by kernel_rfl) rfl
def RowsOk (w : World) (base : Nat) (gs : List Nat) (qs : List Q4) : Prop := gs.length = qs.length ∧ ∀ i g, gs[i]? = some g → base ≤ g ∧ Blk w g 2 (encQ4 (qs.getD i Q4.nil)).toArray
def RetRows (w0 : World) (qs : List Q4) (e : Ending) (w' : World) : Prop :=
  ∃ A c gs, e = .returned (.slice A qs.length c) ∧ w'.ownsRow w0.heap.size 32 1 (.slice A qs.length c) qs.length (gs.flatMap encG) ∧ RowsOk w' w0.heap.size gs qs ∧ Below w0.heap.size w0 w'
/-- a table of numbers in memory -/
def Tab (w : World) (B : Nat) (A : Option Addr) (n : Nat) (qs : List Q4) : Prop :=
  qs.length = n ∧ ∀ k, k < n → ∃ b o g, A = some ⟨b, o, none⟩ ∧ b < B ∧ g < B ∧ w.cell? ⟨b, o + k, none⟩ = some (.slice (some ⟨g, 0, none⟩) 4 4) ∧ ∀ j, j < 4 → w.cell? ⟨g, j, none⟩ = some (.int .i64 ((qs.getD k Q4.nil).at_ j))
theorem Tab.next {w w' : World} {A : Option Addr} {n : Nat} {qs : List Q4} (h : Tab w w.heap.size A n qs) (hb : Below w.heap.size w w') : Tab w' w'.heap.size A n qs := by
  refine ⟨h.1, fun k hk => ?_⟩
  obtain ⟨b, o, g, hA, hB, hg, hc, hj⟩ := h.2 k hk
  have := hb.size
  exact ⟨b, o, g, hA, by omega, by omega, (hb.cell (p := ⟨b, o + k, none⟩) hB).trans hc, fun j hj' => (hb.cell (p := ⟨g, j, none⟩) hg).trans (hj j hj')⟩
theorem encG_at {w : World} {base c k : Nat} {A : Option Addr} {gs : List Nat} (h : w.ownsRow base 32 1 (.slice A k c) k (gs.flatMap encG)) (hl : gs.length = k) {i : Nat} (hi : i < k) :
    ∃ p g, A = some ⟨p, 0, none⟩ ∧ base ≤ p ∧ p < w.heap.size ∧ gs[i]? = some g ∧ w.cell? ⟨p, i, none⟩ = some (.slice (some ⟨g, 0, none⟩) 4 4) := by
  obtain ⟨p, cap, hv, hg, hs⟩ := h.form (by omega)
  injection hv with hA _ _
  subst hA
  have hx : gs[i]? = some (gs[i]'(by omega)) := List.getElem?_eq_getElem _
  refine ⟨p, _, rfl, hg, hs, hx, ?_⟩
  rw [h.cellAt i (by omega)]
  have := flat_at (enc := encG) (sz := 1) gs (fun _ _ => rfl) i _ hx 0 (by omega)
  rw [Nat.mul_one, Nat.add_zero] at this
  rw [this]; rfl
theorem Tab.of {w : World} {base c n : Nat} {A : Option Addr} {gs : List Nat} {qs : List Q4} (hn : qs.length = n) (h : w.ownsRow base 32 1 (.slice A n c) n (gs.flatMap encG)) (hr : RowsOk w base gs qs) : Tab w w.heap.size A n qs := by
  refine ⟨hn, fun k hk => ?_⟩
  obtain ⟨p, g, hA, hp, hs, hx, hc⟩ := encG_at h (hr.1.trans hn) hk
  obtain ⟨hg, hB⟩ := hr.2 k g hx
  refine ⟨p, 0, g, hA, hs, hB.lt, by simpa using hc, fun j hj => ?_⟩
  rw [hB.cell]
  simpa using encQ4_at (qs.getD k Q4.nil) hj
def part (q : Q4) (l : Nat) : Array Value := #[.int .i64 (if 0 < l then q.a else 0), .int .i64 (if 1 < l then q.b else 0), .int .i64 (if 2 < l then q.c else 0), .int .i64 (if 3 < l then q.d else 0)]
theorem part_size (q : Q4) (l : Nat) : (part q l).size = 4 := rfl
theorem part_all (q : Q4) : part q 4 = (encQ4 q).toArray := rfl
theorem part_at (q : Q4) {l : Nat} (h : l < 4) : (part q l)[l]? = some (.int .i64 0) := by
  match l, h with
  | 0, _ => rfl
  | 1, _ => rfl
  | 2, _ => rfl
  | 3, _ => rfl
theorem part_set (q : Q4) {l : Nat} (h : l < 4) : (part q l).setIfInBounds l (.int .i64 (q.at_ l)) = part q (l + 1) := by
  match l, h with
  | 0, _ => rfl
  | 1, _ => rfl
  | 2, _ => rfl
  | 3, _ => rfl
theorem part_skip (q : Q4) {l : Nat} (h : l < 4) (h0 : q.at_ l = 0) : part q l = part q (l + 1) := by
  rw [← part_set q h, h0]
  apply Array.ext_getElem?
  intro i
  by_cases hi : i = l
  · subst hi; rw [part_at q h, Array.getElem?_setIfInBounds_self_of_lt (by rw [part_size]; exact h)]
  · rw [Array.getElem?_setIfInBounds_ne (by omega)]
theorem fill_row {w wo wr : World} {k c' l : Nat} {A' : Option Addr} {gs : List Nat} {os : List Q4} {q : Q4} {x : Fac} (hb2 : Below w.heap.size w wr) (hO : wr.ownsRow w.heap.size 32 1 (.slice A' k c') k (gs.flatMap encG))
    (hQ : RowsOk wr w.heap.size gs os) (BX : Blk wr wo.heap.size 69 #[.string x.l, .int .i64 x.a, .int .i64 x.b]) (BL : Blk wr (wo.heap.size + 1) 2 (part q l)) (hgs : ∀ (i g : Nat), gs[i]? = some g → g < wo.heap.size)
    (hw : w.heap.size ≤ wo.heap.size + 1) (hl : l < 4) :
    Below w.heap.size w (wr.setCell ⟨wo.heap.size + 1, l, none⟩ (.int .i64 (q.at_ l))) ∧ (wr.setCell ⟨wo.heap.size + 1, l, none⟩ (.int .i64 (q.at_ l))).ownsRow w.heap.size 32 1 (.slice A' k c') k (gs.flatMap encG) ∧
      RowsOk (wr.setCell ⟨wo.heap.size + 1, l, none⟩ (.int .i64 (q.at_ l))) w.heap.size gs os ∧ Blk (wr.setCell ⟨wo.heap.size + 1, l, none⟩ (.int .i64 (q.at_ l))) wo.heap.size 69 #[.string x.l, .int .i64 x.a, .int .i64 x.b] ∧
      Blk (wr.setCell ⟨wo.heap.size + 1, l, none⟩ (.int .i64 (q.at_ l))) (wo.heap.size + 1) 2 (part q (l + 1)) := by
  refine ⟨hb2.setCell hw _, hO.kept (gb_set wr _ _ _) (.inr (own_blk_ne hO BL (by decide)).symm), ⟨hQ.1, fun i g h => ⟨(hQ.2 i g h).1, (hQ.2 i g h).2.far (by have := hgs i g h; show g ≠ wo.heap.size + 1; omega) _⟩⟩, BX.far (by show wo.heap.size ≠ wo.heap.size + 1; omega) _, ?_⟩
  rw [← part_set q hl]
  exact BL.set_ l _
theorem rows_push {w w8 w9 : World} {k c' g : Nat} {A' : Option Addr} {gs : List Nat} {os : List Q4} {q : Q4} {base : Nat} (hO : w8.ownsRow base 32 1 (.slice A' k c') k (gs.flatMap encG)) (hQ : RowsOk w base gs os) (hk : os.length = k)
    (BL : Blk w g 2 (encQ4 q).toArray) (hg : base ≤ g) (h8 : ∀ (g : Nat) (t : TypeId) (cs : Array Value), Blk w g t cs → Blk w8 g t cs) (hg9 : w8.grownBy w9 (Value.slice A' k c').ownBlock) : RowsOk w9 base (gs ++ [g]) (os ++ [q]) := by
  have hlen := hQ.1
  refine ⟨by simp [hlen], fun i p hp => ?_⟩
  by_cases hi : i < os.length
  · rw [List.getElem?_append_left (by omega)] at hp
    obtain ⟨h1, h2⟩ := hQ.2 i p hp
    have h3 := h8 _ _ _ h2
    refine ⟨h1, ?_⟩
    rw [List.getD_eq_getElem?_getD, List.getElem?_append_left hi, ← List.getD_eq_getElem?_getD]
    exact h3.grown hg9 (own_blk_ne hO h3 (by decide))
  · have hi2 : i = os.length := by
      have := (List.getElem?_eq_some_iff.1 hp).1
      simp at this; omega
    subst hi2
    rw [List.getElem?_append_right (by omega), hlen] at hp
    obtain rfl : g = p := by simpa using hp
    have h3 := h8 _ _ _ BL
    refine ⟨hg, ?_⟩
    rw [List.getD_eq_getElem?_getD, List.getElem?_append_right (by omega)]
    simp only [Nat.sub_self, List.getElem?_cons_zero, Option.getD_some]
    exact h3.grown hg9 (own_blk_ne hO h3 (by decide))
set_option maxHeartbeats 2000000 in
set_option maxRecDepth 100000 in
theorem l05Counts_any (gb : Nat) (A : Option Addr) (n c : Nat) (rs : List Fac) (ls : List Int) (w : World) (hg : gb < w.heap.size) (hc : w.cell? ⟨gb, 0, none⟩ = some (.slice A n c)) (hn : n ≤ 1048576) (hr : Rd w w.heap.size A n 3 Fac.cells rs)
    (hls : gLens rs [] = some ls) :
    Calls Try.prog 48 #[.pointer (some ⟨gb, 0, none⟩)] w (RetRows w (cnts rs)) := by
  have hl := Lib.hid hr.len
  have HL := Lib.hid hls; clear hls
  have hmk := make4
  go_enter Try.func48, Try.ntmps48
  go_wp2
  go_loopw [3, 4] (fun o_ i_ w' => ∃ (k : Nat) (A' : Option Addr) (c' : Nat) (gs : List Nat), i_ = .int .i64 k ∧ o_ = .slice A' k c' ∧ k ≤ n ∧
      Hid (w'.ownsRow w.heap.size 32 1 (.slice A' k c') k (gs.flatMap encG)) ∧ Hid (RowsOk w' w.heap.size gs (outs Q4.nil cntF cntG rs k)) ∧ Below w.heap.size w w') (fun _ i_ _ => n - (intOf i_).toNat)
  case atStart =>
    exact ⟨0, _, 0, [], rfl, rfl, by omega, Lib.hid (by simpa using World.ownsRow_made (base := w.heap.size) (e := 32) (size := 1) w #[] 0 (Nat.le_refl _) (by unfold maxLen; omega) rfl), Lib.hid ⟨by simp [outs, foldG], by simp⟩, by (repeat first | exact Below.refl _ _ | assumption | refine Below.drew ?_ | refine Below.alloc ?_ (by first | exact Nat.le_refl _ | (simp; done) | omega | (simp; omega)) _ | refine Below.setCell ?_ (by first | exact Nat.le_refl _ | (simp; done) | omega | (simp; omega)) _)⟩
  case round =>
    obtain ⟨k, A', c', gs, rfl, rfl, hk, hown, hrow, hb⟩ := hrel
    rename World => wo
    have cg := (hb.cell (p := ⟨gb, 0, none⟩) hg).trans hc
    have lg : gb < wo.heap.size := by have := hb.size; omega
    by_cases hlt : k < n
    · obtain ⟨b, o, x, rfl, hB, gx, c0, c1, c2⟩ := (hr.next hb).fac hlt
      have Hst := Lib.hid (outs_step Q4.nil cntF cntG gx)
      have Hol := Lib.hid (outs_len Q4.nil cntF cntG rs k (by rw [hl.out]; exact hk))
      have Gx := Lib.hid gx; clear gx
      go_wp2_with fail
      refine named fun w1 H1 => ?_
      have b1 : Below wo.heap.size wo w1 := by rw [H1.out]; (repeat first | exact Below.refl _ _ | assumption | refine Below.drew ?_ | refine Below.alloc ?_ (by first | exact Nat.le_refl _ | (simp; done) | omega | (simp; omega)) _ | refine Below.setCell ?_ (by first | exact Nat.le_refl _ | (simp; done) | omega | (simp; omega)) _)
      have BX := Lib.hid (show Blk w1 wo.heap.size 69 #[.string x.l, .int .i64 x.a, .int .i64 x.b] by rw [H1.out]; exact (Blk.new wo _ _).alloc _)
      have BL := Lib.hid (show Blk w1 (wo.heap.size + 1) 2 (part (fStep Q4.nil cntF cntG (outs Q4.nil cntF cntG rs k) x) 0) by rw [H1.out]; simpa [part] using Blk.new (wo.alloc _) 2 #[.int .i64 0, .int .i64 0, .int .i64 0, .int .i64 0])
      clear H1
      have hQ := Lib.hid (show RowsOk w1 w.heap.size gs (outs Q4.nil cntF cntG rs k) from ⟨hrow.out.1, fun i g h => ⟨(hrow.out.2 i g h).1, (hrow.out.2 i g h).2.next b1⟩⟩)
      have hO := Lib.hid (own_next hown.out b1)
      have cb1 := hb.trans (b1.mono hb.size)
      have sz1 := BL.out.lt
      generalize hq : fStep Q4.nil cntF cntG (outs Q4.nil cntF cntG rs k) x = q at *
      have Hq := Lib.hid hq; clear hq
      have hgs := Lib.hid (fun (i g : Nat) (h : gs[i]? = some g) => (hrow.out.2 i g h).2.lt)
      clear cg c0 c1 c2 hown hrow
      go_loopw [7] (fun l_ w' => ∃ (l : Nat), l_ = .int .i64 l ∧ l ≤ 4 ∧ Below w.heap.size w w' ∧ Hid (w'.ownsRow w.heap.size 32 1 (.slice A' k c') k (gs.flatMap encG)) ∧ Hid (RowsOk w' w.heap.size gs (outs Q4.nil cntF cntG rs k)) ∧
          Hid (Blk w' wo.heap.size 69 #[.string x.l, .int .i64 x.a, .int .i64 x.b]) ∧ Hid (Blk w' (wo.heap.size + 1) 2 (part q l))) (fun l_ _ => 4 - (intOf l_).toNat)
      case atStart => exact ⟨0, rfl, by omega, cb1, hO, hQ, BX, BL⟩
      case round =>
        obtain ⟨l, rfl, hl4, hb2, hO2, hQ2, BX2, BL2⟩ := hrel
        clear hO hQ BX BL
        obtain ⟨d0, d1, d2⟩ := BX2.out.three
        have lx := BX2.out.lt
        have ll := BL2.out.lt
        by_cases hl' : l < 4
        · have cl := BL2.out.cell l
          rw [part_at q hl'] at cl
          have fl := BL2.out.frozen l
          have j0 : (0 : Int) ≤ (l : Int) := by omega
          have j1 : (l : Int) < 4 := by omega
          have j2 : ((l : Int)).toNat = l := by omega
          rcases wf_of HL.out k x Gx.out with ⟨h0, ha0, ha1, hb0, hb1⟩ | ⟨cc, hcc, hxl, hxa, hxb⟩
          · have e0 := size0 h0
            have hkr : k ≤ rs.length := by rw [hl.out]; exact hk
            have q1 := cnt_at HL.out (k := x.a.toNat) (by omega) l
            have q2 := cnt_at HL.out (k := x.b.toNat) (by omega) l
            rw [← outs_full Q4.nil cntF cntG (k := k) (i := x.a.toNat) (by omega) hkr] at q1
            rw [← outs_full Q4.nil cntF cntG (k := k) (i := x.b.toNat) (by omega) hkr] at q2
            obtain ⟨p, ga, rfl, hp0, hp1, gga, ea⟩ := encG_at hO2.out (hQ2.out.1.trans Hol.out) (i := x.a.toNat) (by omega)
            obtain ⟨p', gbb, hpp, _, _, ggb, eb⟩ := encG_at hO2.out (hQ2.out.1.trans Hol.out) (i := x.b.toNat) (by omega)
            obtain rfl : p = p' := by injection hpp with hpp; injection hpp
            obtain ⟨hga, BA⟩ := hQ2.out.2 _ _ gga
            obtain ⟨hgb, BB⟩ := hQ2.out.2 _ _ ggb
            have va := BA.cell l
            have vb := BB.cell l
            rw [List.getElem?_toArray, encQ4_at _ hl'] at va vb
            have Hv := Lib.hid (show ((outs Q4.nil cntF cntG rs k).getD x.a.toNat Q4.nil).at_ l + ((outs Q4.nil cntF cntG rs k).getD x.b.toNat Q4.nil).at_ l = q.at_ l by
              rw [← Hq.out]; unfold fStep; rw [if_pos h0, cntG_at])
            generalize ((outs Q4.nil cntF cntG rs k).getD x.a.toNat Q4.nil).at_ l = va_ at *
            generalize ((outs Q4.nil cntF cntG rs k).getD x.b.toNat Q4.nil).at_ l = vb_ at *
            have u1 : IntKind.i64.wrap (va_ + vb_) = va_ + vb_ := IntWalk.i64_in _ (by omega)
            have z1 := BA.lt
            have z2 := BB.lt
            have n1 := hgs.out _ _ gga
            have n2 := hgs.out _ _ ggb
            have hpl : p ≠ wo.heap.size + 1 := fun he => own_blk_ne hO2.out BL2.out (by decide) (by rw [← he]; rfl)
            clear h0 hpp gga ggb BA BB
            go_wp2_with fail
            go_region
            rw [Hv.out]
            generalize hW : (wr.setCell ⟨wo.heap.size + 1, l, none⟩ (.int .i64 (q.at_ l))).drew = w8
            have H8 := Lib.hid hW.symm; clear hW
            have S8 := Lib.hid (show Below w.heap.size w w8 ∧ w8.ownsRow w.heap.size 32 1 (.slice (some ⟨p, 0, none⟩) k c') k (gs.flatMap encG) ∧ RowsOk w8 w.heap.size gs (outs Q4.nil cntF cntG rs k) ∧
                Blk w8 wo.heap.size 69 #[.string x.l, .int .i64 x.a, .int .i64 x.b] ∧ Blk w8 (wo.heap.size + 1) 2 (part q (l + 1)) from by
              rw [H8.out]
              have S := fill_row hb2 hO2.out hQ2.out BX2.out BL2.out hgs.out (by have := hb.size; omega) hl'
              exact ⟨S.1.drew, S.2.1.drew, S.2.2.1, S.2.2.2.1.drew, S.2.2.2.2.drew⟩)
            clear H8
            go_wp2_with fail
            go_roundw
            case rel => exact ⟨l + 1, by go_num, by omega, S8.out.1, Lib.hid S8.out.2.1, Lib.hid S8.out.2.2.1, Lib.hid S8.out.2.2.2.1, Lib.hid S8.out.2.2.2.2⟩
            case measure => simp [intOf]; omega
          · have hq1 : q.at_ l = if cc.toNat - 97 = l then 1 else 0 := by
              rw [← Hq.out]; unfold fStep
              rw [if_neg (by rw [hxl]; show ¬ (1 : Nat) = 0; omega), cntF_at _ hl', hxl, letN_one]
            obtain ⟨xl, xa, xb⟩ := x
            simp only at hxl hxa hxb d0 d1 d2
            subst hxl hxa hxb
            obtain ⟨hl0, hl1⟩ := letB_num hcc
            have e1 := size1 (s := ⟨#[cc]⟩) (show (1 : Nat) ≠ 0 by omega)
            have e2 := size1' (s := ⟨#[cc]⟩) (show (1 : Nat) ≠ 0 by omega)
            have Hcc := Lib.hid hcc
            clear hcc cl fl
            go_wp2_with fail
            refine (l04Letter_any cc Hcc.out _).mono ?_
            rintro e w3 ⟨rfl, hb3⟩
            have b3 := hb2.trans (hb3.mono hb2.size)
            have BX3 := Lib.hid (BX2.out.next hb3)
            have BL3 := Lib.hid (BL2.out.next hb3)
            have hO3 := Lib.hid (own_next hO2.out hb3)
            have hQ3 := Lib.hid (show RowsOk w3 w.heap.size gs (outs Q4.nil cntF cntG rs k) from ⟨hQ2.out.1, fun i g h => ⟨(hQ2.out.2 i g h).1, (hQ2.out.2 i g h).2.next hb3⟩⟩)
            have cl := BL3.out.cell l
            rw [part_at q hl'] at cl
            have fl := BL3.out.frozen l
            have ll3 := BL3.out.lt
            by_cases hc' : cc.toNat - 97 = l
            · rw [if_pos hc'] at hq1
              have e3 : ((l : Int) == (cc.toNat : Int) - 97) = true := by simp; omega
              have S8 := Lib.hid (fill_row (x := ⟨⟨#[cc]⟩, 0, 0⟩) b3 hO3.out hQ3.out BX3.out BL3.out hgs.out (by have := hb.size; omega) hl')
              rw [hq1] at S8
              clear hc'
              go_wp2_with fail
              go_roundw
              case rel => exact ⟨l + 1, by go_num, by omega, S8.out.1, Lib.hid S8.out.2.1, Lib.hid S8.out.2.2.1, Lib.hid S8.out.2.2.2.1, Lib.hid S8.out.2.2.2.2⟩
              case measure => simp [intOf]; omega
            · rw [if_neg hc'] at hq1
              have e3 : ((l : Int) == (cc.toNat : Int) - 97) = false := by simp; omega
              have BL4 := Lib.hid (show Blk w3 (wo.heap.size + 1) 2 (part q (l + 1)) by rw [← part_skip q hl' hq1]; exact BL3.out)
              clear hc'
              go_wp2_with fail
              go_roundw
              case rel => exact ⟨l + 1, by go_num, by omega, b3, hO3, hQ3, BX3, BL4⟩
              case measure => simp [intOf]; omega
        · obtain rfl : l = 4 := by omega
          rw [part_all] at BL2
          go_wp2_with
            (at_builtin
             refine wpList_pushG rfl _ _ _ rfl w.heap.size 32 1 24 elemG encG _ k c' gs rfl (hO2.out.alloc _) wr.heap.size (wo.heap.size + 1) #[.slice (some ⟨wo.heap.size + 1, 0, none⟩) 4 4] 32 (0, 0) rfl (heap_alloc_new _ _) rfl rfl (one_encG _) (by omega) (by omega) (by unfold maxLen; omega) (by have := hb2.size; simp; omega) ?_
             intro A9 c9 w9 own9 hg9 hat9
             have O9 := Lib.hid own9
             have hz9 : w.heap.size ≤ (wr.alloc (Obj.cells #[Value.slice (some { block := wo.heap.size + 1, off := 0 }) 4 4] 32)).heap.size := (by have := hb2.size; simp; omega)
             have hb9 := Lib.hid ((hb2.alloc hb2.size _).grown hg9 hz9 (own_ge hO2.out))
             have G9 := Lib.hid hg9
             clear own9 hat9 hg9)
          go_roundw
          case rel =>
            refine ⟨k + 1, A9, c9, gs ++ [wo.heap.size + 1], by go_num, rfl, by omega, O9, Lib.hid ?_, hb9.out⟩
            rw [Hst.out]
            exact rows_push (hO2.out.alloc _) hQ2.out Hol.out BL2.out (by have := hb.size; omega) (fun g t cs h => h.alloc _) G9.out
          case measure => simp [intOf]; omega
    · have e := Lib.hid (show outs Q4.nil cntF cntG rs k = cnts rs from outs_all Q4.nil cntF cntG rs k (by rw [hl.out]; omega))
      have e2 := Lib.hid (outs_len Q4.nil cntF cntG rs k (by rw [hl.out]; omega))
      have hrow' := Lib.hid (show RowsOk wo w.heap.size gs (cnts rs) by rw [← e.out]; exact hrow.out)
      have e3 := Lib.hid (show (cnts rs).length = k by rw [← e.out, e2.out])
      go_wp2_with fail
      go_ret
      refine ⟨A', c', gs, ret_slice e3.out.symm, ?_, hrow'.out, hb⟩
      rw [e3.out]
      exact hown.out
end Go.Proofs.Ytecnkmndmnefdaa


/-
  The last of what is made of a grammar.
-/
namespace Go.Proofs.Ytecnkmndmnefdaa

def tup2 (a b : Int) : Value := .tuple #[.int .i64 a, .int .i64 b]
theorem foldAll_len {α : Type} (d : α) (F : Nat → α) (G : α → α → Fac → α) (z : α) (rs : List Fac) : 1 ≤ (foldAll d F G z rs).length ∧ (foldAll d F G z rs).length ≤ rs.length + 1 := by
  unfold foldAll
  split
  · simp
  · rw [foldG_len]; simp; omega
/-- the last of what is made -/
theorem foldAll_top {α : Type} (d : α) (F : Nat → α) (G : α → α → Fac → α) (z : α) (rs : List Fac) : (foldAll d F G z rs).getD ((foldAll d F G z rs).length - 1) d = if rs.length = 0 then z else (full d F G rs).getD (rs.length - 1) d := by
  unfold foldAll
  split
  · rfl
  · have := full_len d F G (rs := rs)
    unfold full at this ⊢
    rw [this]
theorem foldAll_pos {α : Type} (d : α) (F : Nat → α) (G : α → α → Fac → α) (z : α) {rs : List Fac} (h : 0 < rs.length) : foldAll d F G z rs = full d F G rs := by
  unfold foldAll
  rw [if_neg (by omega)]
end Go.Proofs.Ytecnkmndmnefdaa


/-
  The rules that are met when the last rule is taken apart for a part of its word: (Grammar).pieces, by the contract of the function that it is handed.
-/
namespace Go.Proofs.Ytecnkmndmnefdaa
open Go.RowKit

theorem Rd.i64 {w : World} {B n : Nat} {A : Option Addr} {xs : List Int} {k : Nat} (h : Rd w B A n 1 intE xs) (hk : k < n) :
    ∃ b o, A = some ⟨b, o, none⟩ ∧ b < B ∧ w.cell? ⟨b, o + k, none⟩ = some (.int .i64 (xs.getD k 0)) := by
  obtain ⟨b, o, hA, hb, x, hx, hc⟩ := h.at_ hk
  refine ⟨b, o, hA, hb, ?_⟩
  have := hc 0 _ rfl
  rw [List.getD_eq_getElem?_getD, hx]
  simpa using this
/-- the rules that are met -/
def pcs (ls : List Int) (rs : List Fac) (i j : Int) : Nat → Nat → Int → List Nat
  | 0, _, _ => []
  | f + 1, r, a =>
    if a + ls.getD r 0 ≤ i then [] else if j ≤ a then [] else if i ≤ a ∧ a + ls.getD r 0 ≤ j then [r] else
    match rs[r]? with
    | none => []
    | some x => pcs ls rs i j f x.a.toNat a ++ pcs ls rs i j f x.b.toNat (a + ls.getD x.a.toNat 0)
theorem pcs_out1 {ls : List Int} {rs : List Fac} {i j : Int} {f r : Nat} {a : Int} (h : a + ls.getD r 0 ≤ i) : pcs ls rs i j f r a = [] := by
  cases f with
  | zero => rfl
  | succ f => rw [pcs, if_pos h]
theorem pcs_out2 {ls : List Int} {rs : List Fac} {i j : Int} {f r : Nat} {a : Int} (h : j ≤ a) : pcs ls rs i j f r a = [] := by
  cases f with
  | zero => rfl
  | succ f => rw [pcs, if_pos h]; split <;> rfl
theorem pcs_in {ls : List Int} {rs : List Fac} {i j : Int} {f r : Nat} {a : Int} (hf : r < f) (h1 : ¬ a + ls.getD r 0 ≤ i) (h2 : ¬ j ≤ a) (h3 : i ≤ a) (h4 : a + ls.getD r 0 ≤ j) : pcs ls rs i j f r a = [r] := by
  obtain ⟨g, rfl⟩ : ∃ g, f = g + 1 := ⟨f - 1, by omega⟩
  rw [pcs, if_neg h1, if_neg h2, if_pos ⟨h3, h4⟩]
theorem pcs_go {ls : List Int} {rs : List Fac} {i j : Int} {f r : Nat} {a : Int} {x : Fac} (hf : r < f) (h1 : ¬ a + ls.getD r 0 ≤ i) (h2 : ¬ j ≤ a) (h3 : ¬ (i ≤ a ∧ a + ls.getD r 0 ≤ j)) (hx : rs[r]? = some x) :
    pcs ls rs i j f r a = pcs ls rs i j (f - 1) x.a.toNat a ++ pcs ls rs i j (f - 1) x.b.toNat (a + ls.getD x.a.toNat 0) := by
  obtain ⟨g, rfl⟩ : ∃ g, f = g + 1 := ⟨f - 1, by omega⟩
  rw [pcs, if_neg h1, if_neg h2, if_neg h3, hx]
  rfl
theorem pcs_fuel {ls : List Int} {rs : List Fac} {i j : Int} (hls : gLens rs [] = some ls) : ∀ {r f g : Nat} {a : Int}, r < f → r < g → pcs ls rs i j f r a = pcs ls rs i j g r a := by
  intro r
  induction r using Nat.strongRecOn with
  | ind r ih =>
    intro f g a hf hg
    by_cases h1 : a + ls.getD r 0 ≤ i
    · rw [pcs_out1 h1, pcs_out1 h1]
    by_cases h2 : j ≤ a
    · rw [pcs_out2 h2, pcs_out2 h2]
    by_cases h3 : i ≤ a ∧ a + ls.getD r 0 ≤ j
    · rw [pcs_in hf h1 h2 h3.1 h3.2, pcs_in hg h1 h2 h3.1 h3.2]
    rcases hx : rs[r]? with _ | x
    · obtain ⟨f', rfl⟩ : ∃ f', f = f' + 1 := ⟨f - 1, by omega⟩
      obtain ⟨g', rfl⟩ : ∃ g', g = g' + 1 := ⟨g - 1, by omega⟩
      rw [pcs, pcs, if_neg h1, if_neg h1, if_neg h2, if_neg h2, if_neg h3, if_neg h3, hx]
    · rcases wf_of hls r x hx with ⟨h0, ha0, ha1, hb0, hb1⟩ | ⟨cc, _, hxl, hxa, hxb⟩
      · rw [pcs_go hf h1 h2 h3 hx, pcs_go hg h1 h2 h3 hx, ih x.a.toNat (by omega) (f := f - 1) (g := g - 1) (by omega) (by omega), ih x.b.toNat (by omega) (f := f - 1) (g := g - 1) (by omega) (by omega)]
      · exfalso
        have h0 : x.l.size ≠ 0 := by rw [hxl]; show (1 : Nat) ≠ 0; omega
        have := lens_let hls hx h0
        apply h3
        omega
def takeV (b0 : Nat) : Value := .func (.func 95) #[] #[.pointer (some ⟨b0 + 1, 0, none⟩), .pointer (some ⟨b0 + 2, 0, none⟩), .pointer (some ⟨b0 + 3, 0, none⟩), .pointer (some ⟨b0 + 4, 0, none⟩), .pointer (some ⟨b0, 0, none⟩), .pointer (some ⟨b0 + 5, 0, none⟩)]
/-- the boxes of 'pieces', and the lists that it reads -/
def PEnv (B b0 : Nat) (A : Option Addr) (n c : Nat) (rs : List Fac) (A2 : Option Addr) (c2 : Nat) (ls : List Int) (i j : Int) (fp : Nat) (cp : Array Value) (w : World) : Prop :=
  Blk w b0 26 #[.slice A n c] ∧ Blk w (b0 + 1) 32 #[.slice A2 n c2] ∧ Blk w (b0 + 2) 2 #[.int .i64 i] ∧ Blk w (b0 + 3) 2 #[.int .i64 j] ∧
    Blk w (b0 + 4) 110 #[.func (.func fp) #[] cp] ∧ Blk w (b0 + 5) 126 #[takeV b0] ∧ Rd w B A n 3 Fac.cells rs ∧ Rd w B A2 n 1 intE ls
section
variable {B b0 : Nat} {A : Option Addr} {n c : Nat} {rs : List Fac} {A2 : Option Addr} {c2 : Nat} {ls : List Int} {i j : Int} {fp : Nat} {cp : Array Value} {w w' : World}
theorem PEnv.next (h : PEnv B b0 A n c rs A2 c2 ls i j fp cp w) (hB : B ≤ b0) (hb : Below w.heap.size w w') : PEnv B b0 A n c rs A2 c2 ls i j fp cp w' := by
  obtain ⟨h0, h1, h2, h3, h4, h5, h6, h7⟩ := h
  have := h0.lt
  exact ⟨h0.next hb, h1.next hb, h2.next hb, h3.next hb, h4.next hb, h5.next hb, h6.next' (by omega) hb, h7.next' (by omega) hb⟩
theorem PEnv.grown {ob : Nat} (h : PEnv B b0 A n c rs A2 c2 ls i j fp cp w) (hB : B ≤ ob) (ho : ob < b0) (hb : w.grownBy w' (some ob)) : PEnv B b0 A n c rs A2 c2 ls i j fp cp w' := by
  obtain ⟨h0, h1, h2, h3, h4, h5, h6, h7⟩ := h
  have := h0.lt
  have ne : ∀ k, b0 ≤ k → some k ≠ some ob := fun k hk e => by injection e with e; omega
  exact ⟨h0.grown hb (ne _ (by omega)), h1.grown hb (ne _ (by omega)), h2.grown hb (ne _ (by omega)), h3.grown hb (ne _ (by omega)), h4.grown hb (ne _ (by omega)), h5.grown hb (ne _ (by omega)),
    h6.grown (by omega) hb (fun k hk => by injection hk with hk; omega), h7.grown (by omega) hb (fun k hk => by injection hk with hk; omega)⟩
end
section
variable {S : Type} (Inv : S → World → Prop) (step : S → Nat → S) (hI : ∀ s w w', Inv s w → Below w.heap.size w w' → Inv s w') (B ob b0 : Nat) (hBo : B ≤ ob) (hob : ob < b0) (A : Option Addr) (n c : Nat) (rs : List Fac) (A2 : Option Addr) (c2 : Nat) (ls : List Int) (i j : Int)
  (fp : Nat) (ep : EnterOk fp) (cp : Array Value) (hn : n ≤ 1048576) (hls : gLens rs [] = some ls)
  (hW : ∀ (s : S) (k : Nat) (w : World), k < n → Inv s w → Calls Try.prog fp (#[.int .i64 (k : Int)] ++ cp) w (fun e w' => e = .returned (.tuple #[]) ∧ w.grownBy w' (some ob) ∧ Inv (step s k) w'))
include hI hBo hob ep hn hls hW
omit hn in
set_option maxHeartbeats 1000000 in
set_option maxRecDepth 100000 in
theorem take_any : ∀ (r : Nat) (a : Int) (s : S) (w : World), r < n → 0 ≤ a → a + ls.getD r 0 ≤ 1000000000000000 → PEnv B b0 A n c rs A2 c2 ls i j fp cp w → Inv s w →
    Calls Try.prog 95 #[.int .i64 (r : Int), .int .i64 a, .pointer (some ⟨b0 + 1, 0, none⟩), .pointer (some ⟨b0 + 2, 0, none⟩), .pointer (some ⟨b0 + 3, 0, none⟩), .pointer (some ⟨b0 + 4, 0, none⟩), .pointer (some ⟨b0, 0, none⟩), .pointer (some ⟨b0 + 5, 0, none⟩)] w
      (fun e w' => e = .returned (.tuple #[]) ∧ w.grownBy w' (some ob) ∧ Inv ((pcs ls rs i j (r + 1) r a).foldl step s) w') := by
  intro r
  induction r using Nat.strongRecOn with
  | ind r ih =>
    intro a s w hr ha ha2 hE hS
    have IH := Lib.hid ih; clear ih
    have HW := Lib.hid hW
    have HI := Lib.hid hI
    have HE := Lib.hid hE
    have HS := Lib.hid hS
    have HL := Lib.hid hls
    obtain ⟨e0, e1, e2, e3, e4, e5, e6, e7⟩ := hE
    have hl := Lib.hid e6.len
    have z0 := e0.lt; have z1 := e1.lt; have z2 := e2.lt; have z3 := e3.lt; have z4 := e4.lt; have z5 := e5.lt
    have d0 := e0.cell 0; have d1 := e1.cell 0; have d2 := e2.cell 0; have d3 := e3.cell 0; have d4 := e4.cell 0; have d5 := e5.cell 0
    have hBs : B ≤ w.heap.size := by omega
    have d5' : w.cell? ⟨b0 + 5, 0, none⟩ = some (takeV b0) := d5
    clear d5
    unfold takeV at d5'
    obtain ⟨p2, o2, rfl, hB2, c2'⟩ := (e7.more hBs).i64 (k := r) hr
    obtain ⟨b, o, x, rfl, hB1, gx, c00, c01, c02⟩ := (e6.more hBs).fac hr
    have lb := lens_bound HL.out (i := r) (by rw [hl.out]; exact hr)
    have Gx := Lib.hid gx
    clear hS e0 e1 e2 e3 e4 e5 e6 e7 hW hI gx
    have et := enterOk Try.func95 (by kernel_rfl) (by kernel_rfl)
    unfold EnterOk at et
    have ep' := ep
    unfold EnterOk at ep'
    generalize hlr : ls.getD r 0 = lr at *
    obtain ⟨lb0, lb1⟩ := lb
    have u1 : IntKind.i64.wrap (a + lr) = a + lr := IntWalk.i64_in _ (by omega)
    have i1 : (0 : Int) ≤ (r : Int) := by omega
    have i2 : (r : Int) < n := by omega
    by_cases h1 : a + lr ≤ i
    · have e := Lib.hid (show pcs ls rs i j (r + 1) r a = [] from pcs_out1 (by rw [hlr]; exact h1))
      go_enter Try.func95, Try.ntmps95
      go_wp2_with fail
      refine bodyPost_ret (results_none rfl _ _ _) rfl ?_
      exact ⟨rfl, gb_below (Below.refl _ _), by rw [e.out]; exact HS.out⟩
    by_cases h2 : j ≤ a
    · have e := Lib.hid (show pcs ls rs i j (r + 1) r a = [] from pcs_out2 h2)
      go_enter Try.func95, Try.ntmps95
      go_wp2_with fail
      refine bodyPost_ret (results_none rfl _ _ _) rfl ?_
      exact ⟨rfl, gb_below (Below.refl _ _), by rw [e.out]; exact HS.out⟩
    by_cases h3 : i ≤ a ∧ a + lr ≤ j
    · have e := Lib.hid (show pcs ls rs i j (r + 1) r a = [r] from pcs_in (by omega) (by rw [hlr]; exact h1) h2 h3.1 (by rw [hlr]; exact h3.2))
      obtain ⟨h30, h31⟩ := h3
      go_enter Try.func95, Try.ntmps95
      go_wp2_with fail
      refine (HW.out s r w hr HS.out).mono ?_
      rintro e1 w1 ⟨rfl, hg1, hs1⟩
      go_wp2_with fail
      refine bodyPost_ret (results_none rfl _ _ _) rfl ?_
      exact ⟨rfl, hg1, by rw [e.out]; exact hs1⟩
    · have e := Lib.hid (show pcs ls rs i j (r + 1) r a = _ from pcs_go (by omega) (by rw [hlr]; exact h1) h2 (by rw [hlr]; exact h3) Gx.out)
      rw [Nat.add_sub_cancel] at e
      rcases wf_of HL.out r x Gx.out with ⟨h0, ha0, ha1, hb0', hb1'⟩ | ⟨cc, _, hxl, _⟩
      case inr =>
        exfalso
        have h0 : x.l.size ≠ 0 := by rw [hxl]; show (1 : Nat) ≠ 0; omega
        have := lens_let HL.out Gx.out h0
        apply h3
        omega
      have lp := lens_pair HL.out Gx.out h0
      have lb2 := lens_bound HL.out (i := x.a.toNat) (by rw [hl.out]; omega)
      have lb3 := lens_bound HL.out (i := x.b.toNat) (by rw [hl.out]; omega)
      have hnot : i ≤ a → ¬ (a + lr ≤ j) := fun h4 h5 => h3 ⟨h4, h5⟩
      by_cases h4 : i ≤ a
      all_goals
        try have h5 := hnot h4
        clear hnot h3
        go_enter Try.func95, Try.ntmps95
        go_wp2_with fail
        refine namedC fun w1 H1 => ?_
        have hb1 : Below w.heap.size w w1 := by rw [H1.out]; (repeat first | exact Below.refl _ _ | assumption | refine Below.drew ?_ | refine Below.alloc ?_ (by first | exact Nat.le_refl _ | (simp; done) | omega | (simp; omega)) _ | refine Below.setCell ?_ (by first | exact Nat.le_refl _ | (simp; done) | omega | (simp; omega)) _)
        have BX := Lib.hid (show Blk w1 w.heap.size 69 #[.string x.l, .int .i64 x.a, .int .i64 x.b] by rw [H1.out]; exact Blk.new _ _ _)
        clear H1
        have hx0 := Lib.hid (IH.out x.a.toNat (by omega) a s w1 (by omega) ha (by omega) (HE.out.next (by omega) hb1) (HI.out s w w1 HS.out hb1))
        rw [show ((x.a.toNat : Nat) : Int) = x.a by omega] at hx0
        refine hx0.out.mono ?_
        rintro e1 w2 ⟨rfl, hg2, hs2⟩
        have G2 := Lib.hid (gb_trans (gb_below hb1 (r := some ob)) hg2)
        have HS2 := Lib.hid hs2
        have HE2 := Lib.hid ((HE.out.next (by omega) hb1).grown hBo hob hg2)
        have BX2 := BX.out.grown hg2 (by intro e; injection e with e; omega)
        have BX3 := Lib.hid BX2
        have zx := BX2.lt
        clear hs2 hg2 BX2 d0 d1 d2 d3 d4 d5' c00 c01 c02 c2'
        obtain ⟨e0, e1, e2, e3, e4, e5, e6, e7⟩ := HE2.out
        have z0' := e0.lt; have z1' := e1.lt; have z5' := e5.lt
        have d1 := e1.cell 0
        have d5 : w2.cell? ⟨b0 + 5, 0, none⟩ = some (takeV b0) := e5.cell 0
        unfold takeV at d5
        have hBs2 : B ≤ w2.heap.size := by omega
        obtain ⟨p9, o9, hA9, hB9, c9⟩ := (e7.more hBs2).i64 (k := x.a.toNat) (by omega)
        obtain ⟨rfl, rfl⟩ : p2 = p9 ∧ o2 = o9 := by injection hA9 with hA9; injection hA9 with h1 h2; exact ⟨h1, h2⟩
        have hx1 := Lib.hid (IH.out x.b.toNat (by omega) (a + ls.getD x.a.toNat 0) ((pcs ls rs i j (x.a.toNat + 1) x.a.toNat a).foldl step s) w2.drew (by omega) (by omega) (by omega) (HE2.out.next (by omega) (Below.refl _ _).drew) (HI.out _ _ _ HS2.out (Below.refl _ _).drew))
        rw [show ((x.b.toNat : Nat) : Int) = x.b by omega] at hx1
        have ef := Lib.hid (show (pcs ls rs i j (r + 1) r a).foldl step s = (pcs ls rs i j (x.b.toNat + 1) x.b.toNat (a + ls.getD x.a.toNat 0)).foldl step ((pcs ls rs i j (x.a.toNat + 1) x.a.toNat a).foldl step s) by
          rw [e.out, List.foldl_append, pcs_fuel HL.out (f := r) (g := x.a.toNat + 1) (by omega) (by omega), pcs_fuel HL.out (f := r) (g := x.b.toNat + 1) (by omega) (by omega)])
        generalize hy : ls.getD x.a.toNat 0 = y at *
        have u2 : IntKind.i64.wrap (a + y) = a + y := IntWalk.i64_in _ (by omega)
        have i5 : x.a < (n : Int) := by omega
        have D1 := Lib.hid d1; have D5 := Lib.hid d5; have C9 := Lib.hid c9
        have Hn4 := Lib.hid (show some p2 ≠ some ob from by
          obtain ⟨p9, o9, hA9, hB9', _⟩ := e7.i64 (k := x.a.toNat) (by omega)
          injection hA9 with hA9; injection hA9 with h1 h2
          intro e; injection e with e; omega)
        clear d1 d5 c9
        clear e0 e1 e2 e3 e4 e5 e6 e7 hA9 hx0 h1 h2 lp lb2 lb3 u1 hy hlr lb0 lb1 ha2 h4
        try clear h5
        clear IH HW HI HE HS HL BX e
        go_wp2_with fail
        have d1 := D1.out; have d5 := D5.out; have c9 := C9.out
        obtain ⟨x0, x1, x2⟩ := BX3.out.three
        have n1 : some w.heap.size ≠ some ob := by intro e; injection e with e; omega
        have n2 : some (b0 + 1) ≠ some ob := by intro e; injection e with e; omega
        have n3 : some (b0 + 5) ≠ some ob := by intro e; injection e with e; omega
        have n4 : some p2 ≠ some ob := Hn4.out
        go_region_held3 (fun w' => w'.cell? ⟨w.heap.size, 1, none⟩ = some (.int .i64 x.a) ∧ w'.cell? ⟨w.heap.size, 2, none⟩ = some (.int .i64 x.b) ∧ w'.cell? ⟨b0 + 1, 0, none⟩ = some (.slice (some ⟨p2, o2, none⟩) n c2) ∧
            w'.cell? ⟨b0 + 5, 0, none⟩ = some (.func (.func 95) #[] #[.pointer (some ⟨b0 + 1, 0, none⟩), .pointer (some ⟨b0 + 2, 0, none⟩), .pointer (some ⟨b0 + 3, 0, none⟩), .pointer (some ⟨b0 + 4, 0, none⟩), .pointer (some ⟨b0, 0, none⟩), .pointer (some ⟨b0 + 5, 0, none⟩)]) ∧
            w'.cell? ⟨p2, o2 + x.a.toNat, none⟩ = some (.int .i64 y))
          (first | exact ⟨s0, s1, s2, s3, s4⟩ | exact ⟨x1, x2, d1, d5, c9⟩ | go_keep)
          (first
            | (go_at_call 95
               refine hx1.out.mono ?_
               rintro e9 w3 ⟨rfl, hg3, hs3⟩
               have G3 := Lib.hid (gb_trans G2.out (gb_trans (gb_below (Below.refl w2.heap.size w2).drew (r := some ob)) hg3))
               have s0 : w3.cell? ⟨w.heap.size, 1, none⟩ = some (.int .i64 x.a) := (hg3.cell_far ⟨w.heap.size, 1, none⟩ zx n1).trans x1
               have s1 : w3.cell? ⟨w.heap.size, 2, none⟩ = some (.int .i64 x.b) := (hg3.cell_far ⟨w.heap.size, 2, none⟩ zx n1).trans x2
               have s2 : w3.cell? ⟨b0 + 1, 0, none⟩ = some (.slice (some ⟨p2, o2, none⟩) n c2) := (hg3.cell_far ⟨b0 + 1, 0, none⟩ z1' n2).trans d1
               have s3 := (hg3.cell_far ⟨b0 + 5, 0, none⟩ z5' n3).trans d5
               have s4 : w3.cell? ⟨p2, o2 + x.a.toNat, none⟩ = some (.int .i64 y) := (hg3.cell_far ⟨p2, o2 + x.a.toNat, none⟩ hB9 n4).trans c9
               have HS3 := Lib.hid hs3
               clear hg3 hs3)
            | fail)
        go_wp2_with fail
        go_end0
        exact ⟨rfl, G3.out, by rw [ef.out]; exact HS3.out⟩
/-- the rules that are met, from the last one on -/
def pcsT (ls : List Int) (rs : List Fac) (i j : Int) : List Nat := if 0 < rs.length ∧ i < j then pcs ls rs i j rs.length (rs.length - 1) 0 else []
set_option maxHeartbeats 1000000 in
set_option maxRecDepth 100000 in
theorem pieces_any (s : S) (w : World) (hw : w.heap.size = b0) (hA : Rd w B A n 3 Fac.cells rs) (hA2 : Rd w B A2 n 1 intE ls) (hS : Inv s w) :
    Calls Try.prog 84 #[.agg #[.slice A n c], .slice A2 n c2, .int .i64 i, .int .i64 j, .func (.func fp) #[] cp] w
      (fun e w' => e = .returned (.tuple #[]) ∧ w.grownBy w' (some ob) ∧ Inv ((pcsT ls rs i j).foldl step s) w') := by
  have HW := Lib.hid hW
  have HI := Lib.hid hI
  have HS := Lib.hid hS
  have HL := Lib.hid hls
  have hl := Lib.hid hA.len
  have HA := Lib.hid hA
  have HA2 := Lib.hid hA2
  subst hw
  clear hW hI hS hA hA2 hls
  have et := enterOk Try.func95 (by kernel_rfl) (by kernel_rfl)
  unfold EnterOk at et
  by_cases h0 : n = 0
  · have e := Lib.hid (show pcsT ls rs i j = [] by unfold pcsT; rw [if_neg (by rw [hl.out]; omega)])
    subst h0
    go_enter Try.func84, Try.ntmps84
    go_wp2_with fail
    go_end0
    rw [e.out]
    refine ⟨rfl, gb_below (by (repeat first | exact Below.refl _ _ | assumption | refine Below.drew ?_ | refine Below.alloc ?_ (by first | exact Nat.le_refl _ | (simp; done) | omega | (simp; omega)) _ | refine Below.setCell ?_ (by first | exact Nat.le_refl _ | (simp; done) | omega | (simp; omega)) _)), HI.out _ _ _ HS.out (by (repeat first | exact Below.refl _ _ | assumption | refine Below.drew ?_ | refine Below.alloc ?_ (by first | exact Nat.le_refl _ | (simp; done) | omega | (simp; omega)) _ | refine Below.setCell ?_ (by first | exact Nat.le_refl _ | (simp; done) | omega | (simp; omega)) _))⟩
  by_cases hij : i < j
  · have e := Lib.hid (show pcsT ls rs i j = pcs ls rs i j (n - 1 + 1) (n - 1) 0 by unfold pcsT; rw [if_pos (by rw [hl.out]; omega), hl.out, show n - 1 + 1 = n by omega])
    have h1 : 0 < n := by omega
    have u0 : IntKind.i64.wrap ((n : Int) - 1) = (n : Int) - 1 := IntWalk.i64_in _ (by omega)
    have hlb := lens_bound HL.out (i := n - 1) (by rw [hl.out]; omega)
    go_enter Try.func84, Try.ntmps84
    go_wp2_with fail
    refine namedC fun w1 H1 => ?_
    have hb1 : Below w.heap.size w w1 := by rw [H1.out]; (repeat first | exact Below.refl _ _ | assumption | refine Below.drew ?_ | refine Below.alloc ?_ (by first | exact Nat.le_refl _ | (simp; done) | omega | (simp; omega)) _ | refine Below.setCell ?_ (by first | exact Nat.le_refl _ | (simp; done) | omega | (simp; omega)) _)
    have hE : PEnv B w.heap.size A n c rs A2 c2 ls i j fp cp w1 := by
      refine ⟨?_, ?_, ?_, ?_, ?_, ?_, (HA.out.next' (by omega) hb1), (HA2.out.next' (by omega) hb1)⟩
      · rw [H1.out]; exact (((((Blk.new w _ _).alloc _).alloc _).alloc _).alloc _).alloc _
      · rw [H1.out]; simpa using ((((Blk.new (w.alloc _) _ _).alloc _).alloc _).alloc _).alloc _
      · rw [H1.out]; simpa using (((Blk.new ((w.alloc _).alloc _) _ _).alloc _).alloc _).alloc _
      · rw [H1.out]; simpa using ((Blk.new (((w.alloc _).alloc _).alloc _) _ _).alloc _).alloc _
      · rw [H1.out]; simpa using (Blk.new ((((w.alloc _).alloc _).alloc _).alloc _) _ _).alloc _
      · rw [H1.out]; simpa [takeV] using Blk.new (((((w.alloc _).alloc _).alloc _).alloc _).alloc _) _ _
    have hE' := Lib.hid hE
    clear hE H1
    have ht := take_any Inv step HI.out B ob w.heap.size hBo hob A n c rs A2 c2 ls i j fp ep cp HL.out HW.out (n - 1) 0 s w1 (by omega) (by omega) (by omega) hE'.out (HI.out _ _ _ HS.out hb1)
    rw [show ((n - 1 : Nat) : Int) = (n : Int) - 1 by omega] at ht
    refine (by simpa [Nat.add_assoc] using ht : Calls _ _ _ _ _).mono ?_
    rintro e1 w2 ⟨rfl, hg2, hs2⟩
    have G2 := Lib.hid (gb_trans (gb_below hb1 (r := some ob)) hg2)
    have HS2 := Lib.hid hs2
    clear hg2 hs2 ht
    go_wp2_with fail
    go_end0
    exact ⟨rfl, G2.out, by rw [e.out]; exact HS2.out⟩
  · have e := Lib.hid (show pcsT ls rs i j = [] by unfold pcsT; rw [if_neg (by omega)])
    have h1 : 0 < n := by omega
    go_enter Try.func84, Try.ntmps84
    go_wp2_with fail
    go_end0
    rw [e.out]
    refine ⟨rfl, gb_below (by (repeat first | exact Below.refl _ _ | assumption | refine Below.drew ?_ | refine Below.alloc ?_ (by first | exact Nat.le_refl _ | (simp; done) | omega | (simp; omega)) _ | refine Below.setCell ?_ (by first | exact Nat.le_refl _ | (simp; done) | omega | (simp; omega)) _)), HI.out _ _ _ HS.out (by (repeat first | exact Below.refl _ _ | assumption | refine Below.drew ?_ | refine Below.alloc ?_ (by first | exact Nat.le_refl _ | (simp; done) | omega | (simp; omega)) _ | refine Below.setCell ?_ (by first | exact Nat.le_refl _ | (simp; done) | omega | (simp; omega)) _))⟩
end
end Go.Proofs.Ytecnkmndmnefdaa


/-
  PlaceSum in the program and in the reference.
-/
namespace Go.Proofs.Ytecnkmndmnefdaa
open Go.RowKit

theorem emod_b {a m : Int} (hm : 0 < m) : 0 ≤ a % m ∧ a % m < m := ⟨Int.emod_nonneg a (by omega), Int.emod_lt_of_pos a hm⟩
theorem mul_b {a b : Int} (h0 : 0 ≤ a) (h1 : a ≤ 1000000000) (h2 : 0 ≤ b) (h3 : b ≤ 1000000000) : 0 ≤ a * b ∧ a * b ≤ 1000000000000000000 := by
  refine ⟨Int.mul_nonneg h0 h2, ?_⟩
  have := Int.mul_le_mul h1 h3 h2 (show (0 : Int) ≤ 1000000000 by omega)
  omega
def plF (_ : Nat) : Int := 0
def plG (ls : List Int) (cs : List Q4) (l : Nat) (m : Int) (x y : Int) (r : Fac) : Int := (x + y + (ls.getD r.a.toNat 0) % m * (((cs.getD r.b.toNat Q4.nil).at_ l) % m)) % m
theorem pl_prod {rs : List Fac} {ls : List Int} (hls : gLens rs [] = some ls) {m : Int} (h1 : 1 ≤ m) (h2 : m ≤ 1000000000) {i j : Nat} (hi : i < rs.length) (hj : j < rs.length) (l : Nat) :
    0 ≤ (ls.getD i 0) % m * ((((cnts rs).getD j Q4.nil).at_ l) % m) ∧ (ls.getD i 0) % m * ((((cnts rs).getD j Q4.nil).at_ l) % m) ≤ 1000000000000000000 := by
  have a1 := lens_bound hls hi
  have a2 := cnt_at hls hj l
  have b1 := emod_b (a := ls.getD i 0) (m := m) (by omega)
  have b2 := emod_b (a := ((cnts rs).getD j Q4.nil).at_ l) (m := m) (by omega)
  exact mul_b b1.1 (by omega) b2.1 (by omega)
theorem pl_bound {rs : List Fac} {ls : List Int} (hls : gLens rs [] = some ls) {l : Nat} {m : Int} (h1 : 1 ≤ m) (h2 : m ≤ 1000000000) {k : Nat} (hk : k < rs.length) :
    0 ≤ (full 0 plF (plG ls (cnts rs) l m) rs).getD k 0 ∧ (full 0 plF (plG ls (cnts rs) l m) rs).getD k 0 ≤ 1000000000 := by
  refine full_ind 0 plF (plG ls (cnts rs) l m) (wf_of hls) (fun _ x => 0 ≤ x ∧ x ≤ 1000000000) (fun k r _ _ => ?_) (fun k r a b hr h0 ha0 ha1 hb0 hb1 ha hb => ?_) k hk
  · show (0 : Int) ≤ 0 ∧ (0 : Int) ≤ 1000000000
    omega
  · have hk : k < rs.length := (List.getElem?_eq_some_iff.1 hr).1
    have p := pl_prod hls h1 h2 (i := r.a.toNat) (j := r.b.toNat) (by omega) (by omega) l
    have q := emod_b (a := a + b + (ls.getD r.a.toNat 0) % m * ((((cnts rs).getD r.b.toNat Q4.nil).at_ l) % m)) (m := m) (by omega)
    exact ⟨q.1, by show (a + b + _) % m ≤ _; omega⟩
def topI (F : Nat → Int) (G : Int → Int → Fac → Int) (rs : List Fac) : Int := if rs.length = 0 then 0 else (full 0 F G rs).getD (rs.length - 1) 0
def placeV (rs : List Fac) (s : ByteArray) (m : Int) : Value :=
  if (gOk rs).isSome = false then tup2 0 1 else if letT s = false then tup2 0 1 else if inB m 1 1000000000 = false then tup2 0 2
  else tup2 (topI plF (plG ((gLens rs []).getD []) (cnts rs) (letN s) m) rs) 0
theorem placeV_form (rs : List Fac) (s : ByteArray) (m : Int) : ∃ b k, placeV rs s m = .tuple #[.int .i64 b, .int .i64 k] := by
  unfold placeV
  split
  · exact ⟨_, _, rfl⟩
  split
  · exact ⟨_, _, rfl⟩
  split
  · exact ⟨_, _, rfl⟩
  · exact ⟨_, _, rfl⟩
theorem Rd.q4 {w : World} {B n : Nat} {A : Option Addr} {xs : List Q4} {k : Nat} (h : Rd w B A n 4 encQ4 xs) (hk : k < n) {l : Nat} (hl : l < 4) :
    ∃ b o, A = some ⟨b, o, none⟩ ∧ b < B ∧ w.cell? ⟨b, o + k * 4 + l, none⟩ = some (.int .i64 ((xs.getD k Q4.nil).at_ l)) := by
  obtain ⟨b, o, hA, hb, x, hx, hc⟩ := h.at_ hk
  refine ⟨b, o, hA, hb, ?_⟩
  rw [hc l _ (encQ4_at x hl), List.getD_eq_getElem?_getD, hx]; rfl
theorem pl1_any (l : Int) (w : World) : Calls Try.prog 62 #[.int .i64 l] w (Ret (.int .i64 0) w) := by
  go_enter Try.func62, Try.ntmps62
  go_wp2
  go_ret
  exact ⟨rfl, Below.refl _ _⟩
set_option maxHeartbeats 1000000 in
set_option maxRecDepth 100000 in
theorem pl2_any (x y : Int) (r : Fac) (cb mb lb : Nat) (A2 A3 A : Option Addr) (c n3 c2 c3 n : Nat) (l : Nat) (m : Int) (ls : List Int) (cs : List Q4) (w : World) (hcb : cb < w.heap.size) (hmb : mb < w.heap.size) (hlb : lb < w.heap.size)
    (d0 : w.cell? ⟨cb, 0, none⟩ = some (.slice A n c)) (d1 : w.cell? ⟨cb, 1, none⟩ = some (.slice A2 n c2)) (d2 : w.cell? ⟨cb, 2, none⟩ = some (.slice A3 n3 c3)) (dm : w.cell? ⟨mb, 0, none⟩ = some (.int .i64 m)) (dl : w.cell? ⟨lb, 0, none⟩ = some (.int .u8 (l : Int)))
    (hl : l < 4) (h1 : 1 ≤ m) (h2 : m ≤ 1000000000) (hL : Rd w w.heap.size A2 n 1 intE ls) (hC : Rd w w.heap.size A3 n3 4 encQ4 cs) (hra0 : 0 ≤ r.a) (hra : r.a < n) (hrb0 : 0 ≤ r.b) (hrb : r.b < n3)
    (hx : 0 ≤ x ∧ x ≤ 1000000000) (hy : 0 ≤ y ∧ y ≤ 1000000000) (hp : 0 ≤ (ls.getD r.a.toNat 0) % m * (((cs.getD r.b.toNat Q4.nil).at_ l) % m) ∧ (ls.getD r.a.toNat 0) % m * (((cs.getD r.b.toNat Q4.nil).at_ l) % m) ≤ 1000000000000000000)
    (hla : 0 ≤ ls.getD r.a.toNat 0 ∧ ls.getD r.a.toNat 0 ≤ 1000000000000000) (hcb' : 0 ≤ (cs.getD r.b.toNat Q4.nil).at_ l ∧ (cs.getD r.b.toNat Q4.nil).at_ l ≤ 1000000000000000) :
    Calls Try.prog 63 #[.int .i64 x, .int .i64 y, r.val, .pointer (some ⟨cb, 0, none⟩), .pointer (some ⟨mb, 0, none⟩), .pointer (some ⟨lb, 0, none⟩)] w (Ret (.int .i64 (plG ls cs l m x y r)) w) := by
  obtain ⟨p2, o2, rfl, hB2, e2⟩ := hL.i64 (k := r.a.toNat) (by omega)
  obtain ⟨p3, o3, rfl, hB3, e3⟩ := hC.q4 (k := r.b.toNat) (by omega) hl
  have e := Lib.hid (show plG ls cs l m x y r = (x + y + (ls.getD r.a.toNat 0) % m * (((cs.getD r.b.toNat Q4.nil).at_ l) % m)) % m from rfl)
  rw [e.out]
  clear hL hC e
  generalize ls.getD r.a.toNat 0 = u at *
  generalize (cs.getD r.b.toNat Q4.nil).at_ l = v at *
  obtain ⟨x0, x1⟩ := hx
  obtain ⟨y0, y1⟩ := hy
  obtain ⟨p0, p1⟩ := hp
  obtain ⟨u0, u1⟩ := hla
  obtain ⟨v0, v1⟩ := hcb'
  have t1 := emod_b (a := u) (m := m) (by omega)
  have t2 := emod_b (a := v) (m := m) (by omega)
  have t3 := emod_b (a := x + y + u % m * (v % m)) (m := m) (by omega)
  obtain ⟨t10, t11⟩ := t1
  obtain ⟨t20, t21⟩ := t2
  obtain ⟨t30, t31⟩ := t3
  unfold Fac.val
  go_enter Try.func63, Try.ntmps63
  go_wp2_with fail
  refine named fun w3 H3 => ?_
  have B3 : Blk w3 w.heap.size 69 #[.string r.l, .int .i64 r.a, .int .i64 r.b] := by rw [H3.out]; exact Blk.new _ _ _
  have hb3 : Below w.heap.size w w3 := by rw [H3.out]; (repeat first | exact Below.refl _ _ | assumption | refine Below.drew ?_ | refine Below.alloc ?_ (by first | exact Nat.le_refl _ | (simp; done) | omega | (simp; omega)) _ | refine Below.setCell ?_ (by first | exact Nat.le_refl _ | (simp; done) | omega | (simp; omega)) _)
  obtain ⟨g0, g1, g2⟩ := B3.three
  have hz3 := B3.lt
  have f0 := (hb3.cell (p := ⟨cb, 0, none⟩) hcb).trans d0
  have f1 := (hb3.cell (p := ⟨cb, 1, none⟩) hcb).trans d1
  have f2 := (hb3.cell (p := ⟨cb, 2, none⟩) hcb).trans d2
  have f3 := (hb3.cell (p := ⟨mb, 0, none⟩) hmb).trans dm
  have f4 := (hb3.cell (p := ⟨lb, 0, none⟩) hlb).trans dl
  have f5 := (hb3.cell (p := ⟨p2, o2 + r.a.toNat, none⟩) hB2).trans e2
  have f6 := (hb3.cell (p := ⟨p3, o3 + r.b.toNat * 4 + l, none⟩) hB3).trans e3
  have s1 : cb < w3.heap.size := by omega
  have s2 : mb < w3.heap.size := by omega
  have s3 : lb < w3.heap.size := by omega
  have s4 : p2 < w3.heap.size := by omega
  have s5 : p3 < w3.heap.size := by omega
  have hup := upc w3.heap.size w3
  have w1' : IntKind.i64.wrap (x + y) = x + y := IntWalk.i64_in _ (by omega)
  have w2' : IntKind.i64.wrap (u % m) = u % m := IntWalk.i64_in _ (by omega)
  have w3' : IntKind.i64.wrap (v % m) = v % m := IntWalk.i64_in _ (by omega)
  have w4' : IntKind.i64.wrap (u % m * (v % m)) = u % m * (v % m) := IntWalk.i64_in _ (by clear w1' w2' w3'; omega)
  have w5' : IntKind.i64.wrap (x + y + u % m * (v % m)) = x + y + u % m * (v % m) := IntWalk.i64_in _ (by clear w1' w2' w3' w4'; omega)
  have w6' : IntKind.i64.wrap ((x + y + u % m * (v % m)) % m) = (x + y + u % m * (v % m)) % m := IntWalk.i64_in _ (by clear w1' w2' w3' w4' w5'; omega)
  have hm0 : ¬ m = 0 := by omega
  have ht : (x + y + u % m * (v % m)).tmod m = (x + y + u % m * (v % m)) % m := Int.tmod_eq_emod_of_nonneg (by omega)
  have i0 : (0 : Int) ≤ (l : Int) := by omega
  have i1 : (l : Int) < 4 := by omega
  clear d0 d1 d2 dm dl e2 e3
  refine wp_region_up w3.heap.size (by kernel_rfl) (by kernel_rfl) ?_
  repeat (go_big_quiet_step (fail))
  refine wpQuiet_nil ?_
  intro w4 hup_w4
  have hb4 := up_of hup_w4
  have hb34 := hb3.trans (hb4.mono hb3.size)
  clear w1' w2' w3' w4' w5' w6'
  go_wp2_with fail
  go_ret
  exact ⟨rfl, hb34⟩
theorem placeV1 {rs : List Fac} {s : ByteArray} {m : Int} (h : (gOk rs).isSome = false) : placeV rs s m = tup2 0 1 := by unfold placeV; rw [if_pos h]
theorem placeV2 {rs : List Fac} {s : ByteArray} {m : Int} (h : (gOk rs).isSome = true) (h2 : letT s = false) : placeV rs s m = tup2 0 1 := by unfold placeV; rw [if_neg (by rw [h]; decide), if_pos h2]
theorem placeV3 {rs : List Fac} {s : ByteArray} {m : Int} (h : (gOk rs).isSome = true) (h2 : letT s = true) (h3 : inB m 1 1000000000 = false) : placeV rs s m = tup2 0 2 := by unfold placeV; rw [if_neg (by rw [h]; decide), if_neg (by rw [h2]; decide), if_pos h3]
theorem placeV4 {rs : List Fac} {ls : List Int} {s : ByteArray} {m : Int} (hls : gLens rs [] = some ls) (h : (gOk rs).isSome = true) (h2 : letT s = true) (h3 : inB m 1 1000000000 = true) : placeV rs s m = tup2 (topI plF (plG ls (cnts rs) (letN s) m) rs) 0 := by
  unfold placeV; rw [if_neg (by rw [h]; decide), if_neg (by rw [h2]; decide), if_neg (by rw [h3]; decide), hls]; rfl
theorem top_topI (F : Nat → Int) (G : Int → Int → Fac → Int) (rs : List Fac) : (foldAll 0 F G 0 rs).getD ((foldAll 0 F G 0 rs).length - 1) 0 = topI F G rs := foldAll_top _ _ _ _ rs
theorem isMod_any (m : Int) (b : Bool) (w : World) (hb : inB m 1 1000000000 = b) : Calls Try.prog 56 #[.int .i64 m] w (Ret (.bool b) w) := by
  have Hb := Lib.hid hb; clear hb
  go_enter Try.func56, Try.ntmps56
  go_wp2_with fail
  refine (within_any m 1 1000000000 b _ Hb.out).mono ?_
  rintro e w1 ⟨rfl, hb1⟩
  go_wp2_with fail
  go_ret
  exact ⟨rfl, hb1⟩
theorem topI_any (A : Option Addr) (n c : Nat) (xs : List Int) (w : World) (hn : n ≤ 1048577) (h0 : 0 < n) (hr : Rd w w.heap.size A n 1 intE xs) :
    Calls Try.prog 57 #[.slice A n c] w (Ret (.int .i64 (xs.getD (n - 1) 0)) w) := by
  obtain ⟨b, o, rfl, hB, c0⟩ := hr.i64 (k := n - 1) (by omega)
  generalize xs.getD (n - 1) 0 = y at *
  clear hr
  go_enter Try.func57, Try.ntmps57
  go_wp2_with fail
  go_ret
  exact ⟨rfl, Below.refl _ _⟩
set_option maxHeartbeats 2000000 in
set_option maxRecDepth 100000 in
theorem implPlace_any (A : Option Addr) (n c : Nat) (rs : List Fac) (s : ByteArray) (m : Int) (w : World) (hn : n ≤ 1048576) (hr : Rd w w.heap.size A n 3 Fac.cells rs) (hok : ∀ f ∈ rs, f.l.size ≤ maxLen) (hs : s.size ≤ maxLen) (hm : -9223372036854775808 ≤ m ∧ m ≤ 9223372036854775807) :
    Calls Try.prog 20 #[.agg #[.slice A n c], .string s, .int .i64 m] w (Ret (placeV rs s m) w) := by
  have hl := Lib.hid hr.len
  have HR := Lib.hid hr; clear hr
  have HO := Lib.hid hok; clear hok
  obtain ⟨m0, m1⟩ := hm
  go_enter Try.func20, Try.ntmps20
  go_wp2_with fail
  refine namedC fun w0 H0 => ?_
  have hb0 : Below w.heap.size w w0 := by rw [H0.out]; (repeat first | exact Below.refl _ _ | assumption | refine Below.drew ?_ | refine Below.alloc ?_ (by first | exact Nat.le_refl _ | (simp; done) | omega | (simp; omega)) _ | refine Below.setCell ?_ (by first | exact Nat.le_refl _ | (simp; done) | omega | (simp; omega)) _)
  have BG := Lib.hid (show Blk w0 w.heap.size 26 #[.slice A n c] by rw [H0.out]; exact (Blk.new w _ _).alloc _)
  have BM := Lib.hid (show Blk w0 (w.heap.size + 1) 2 #[.int .i64 m] by rw [H0.out]; simpa using Blk.new (w.alloc _) _ _)
  clear H0
  refine (census_any A n c rs w0 hn (HR.out.next hb0) HO.out).mono ?_
  rintro e w1 ⟨hb1, ⟨ls, A2, c2, A3, c3, hg, rfl, own2, own3⟩ | ⟨hg, rfl⟩⟩
  case inr =>
    have e := Lib.hid (placeV1 (s := s) (m := m) (show (gOk rs).isSome = false by rw [hg]; rfl))
    clear hg
    go_wp2_with fail
    go_ret2
    exact ⟨by rw [e.out]; rfl, (hb0.trans (hb1.mono hb0.size)).alloc (by have := hb0.size; have := hb1.size; omega) _⟩
  have HG := Lib.hid (show (gOk rs).isSome = true by rw [hg]; rfl)
  have HL := Lib.hid (gOk_lens hg).1
  have hll := Lib.hid ((gOk_lens hg).2.2.trans hl.out)
  clear hg
  have b1 := hb0.trans (hb1.mono hb0.size)
  have r2 := Lib.hid (Rd.of_own (enc := intE) (fun _ _ => rfl) hll.out own2)
  have r3 := Lib.hid (Rd.of_own (fun y _ => lenQ4 y) rfl own3)
  clear own2 own3
  generalize hN : (foldAll Q4.nil cntF cntG Q4.nil rs).length = N at *
  have HN := Lib.hid hN; clear hN
  go_wp2_with fail
  refine namedC fun w2 H2 => ?_
  have hb2 : Below w1.heap.size w1 w2 := by rw [H2.out]; (repeat first | exact Below.refl _ _ | assumption | refine Below.drew ?_ | refine Below.alloc ?_ (by first | exact Nat.le_refl _ | (simp; done) | omega | (simp; omega)) _ | refine Below.setCell ?_ (by first | exact Nat.le_refl _ | (simp; done) | omega | (simp; omega)) _)
  have BC := Lib.hid (show Blk w2 w1.heap.size 59 #[.slice A n c, .slice A2 n c2, .slice A3 N c3] by rw [H2.out]; exact Blk.new _ _ _)
  clear H2
  have b2 := b1.trans (hb2.mono b1.size)
  rcases h2 : letT s with _ | _
  · have e := Lib.hid (placeV2 (m := m) HG.out h2)
    have H2 := Lib.hid h2; clear h2
    refine (isLetterText_any s false _ hs H2.out).mono ?_
    rintro e1 w3 ⟨rfl, hb3⟩
    go_wp2_with fail
    go_ret2
    exact ⟨by rw [e.out]; rfl, b2.trans (hb3.mono b2.size)⟩
  have H2 := Lib.hid h2
  obtain ⟨cc, hcc, rfl⟩ := letT_one h2
  obtain ⟨k0, k1⟩ := letB_num hcc
  clear h2 hcc
  refine (isLetterText_any ⟨#[cc]⟩ true _ hs H2.out).mono ?_
  rintro e1 w3 ⟨rfl, hb3⟩
  have b3 := b2.trans (hb3.mono b2.size)
  have BM3 := Lib.hid (((BM.out.next hb1).next hb2).next hb3)
  have cm3 := BM3.out.cell 0
  have lm3 := BM3.out.lt
  rcases h3 : inB m 1 1000000000 with _ | _
  · have e := Lib.hid (placeV3 HG.out H2.out h3)
    have H3 := Lib.hid h3; clear h3
    go_wp2_with fail
    refine (isMod_any m false _ H3.out).mono ?_
    rintro e1 w4 ⟨rfl, hb4⟩
    go_wp2_with fail
    go_ret2
    exact ⟨by rw [e.out]; rfl, b3.trans (hb4.mono b3.size)⟩
  have e := Lib.hid (placeV4 HL.out HG.out H2.out h3)
  have hm : 1 ≤ m ∧ m ≤ 1000000000 := by simpa [inB] using h3
  obtain ⟨n1, n2⟩ := hm
  have H3 := Lib.hid h3; clear h3
  go_wp2_with fail
  refine (isMod_any m true _ H3.out).mono ?_
  rintro e1 w4 ⟨rfl, hb4⟩
  have b4 := b3.trans (hb4.mono b3.size)
  have hb14 := hb2.trans ((hb3.trans (hb4.mono hb3.size)).mono hb2.size)
  have cg4 := ((BG.out.next hb1).next hb14).cell 0
  have lg4 := ((BG.out.next hb1).next hb14).lt
  clear cm3 lm3
  have z1 : (0 : Nat) < (⟨#[cc]⟩ : ByteArray).size := show 0 < 1 by omega
  have v1 : IntKind.u8.wrap ((((⟨#[cc]⟩ : ByteArray)[0]'z1).toNat : Int) - 97) = (cc.toNat : Int) - 97 := by show ((cc.toNat : Int) - 97) % 256 = _; omega
  go_wp2_with fail
  refine namedC fun w5 H5 => ?_
  have hb5 : Below w4.heap.size w4 w5 := by rw [H5.out]; (repeat first | exact Below.refl _ _ | assumption | refine Below.drew ?_ | refine Below.alloc ?_ (by first | exact Nat.le_refl _ | (simp; done) | omega | (simp; omega)) _ | refine Below.setCell ?_ (by first | exact Nat.le_refl _ | (simp; done) | omega | (simp; omega)) _)
  have BL := Lib.hid (show Blk w5 w4.heap.size 5 #[.int .u8 ((cc.toNat - 97 : Nat) : Int)] by rw [H5.out, show ((cc.toNat - 97 : Nat) : Int) = (cc.toNat : Int) - 97 by omega]; exact Blk.new _ _ _)
  clear H5 v1 z1
  have b5 := b4.trans (hb5.mono b4.size)
  have BC5 := Lib.hid (((BC.out.next hb3).next hb4).next hb5)
  have BM5 := Lib.hid ((BM3.out.next hb4).next hb5)
  have hb15 := hb14.trans (hb5.mono hb14.size)
  have r25 := Lib.hid (r2.out.next hb15)
  have r35 := Lib.hid (r3.out.next hb15)
  have eN := Lib.hid (show letN ⟨#[cc]⟩ = cc.toNat - 97 from rfl)
  have HT := Lib.hid (top_topI plF (plG ls (cnts rs) (letN ⟨#[cc]⟩) m) rs)
  have HM := Lib.hid (foldAll_len 0 plF (plG ls (cnts rs) (letN ⟨#[cc]⟩) m) 0 rs)
  have hl4 : cc.toNat - 97 < 4 := by omega
  refine (foldI_any 62 63 (enterOk Try.func62 (by kernel_rfl) (by kernel_rfl)) (enterOk Try.func63 (by kernel_rfl) (by kernel_rfl)) #[] #[.pointer (some ⟨w1.heap.size, 0, none⟩), .pointer (some ⟨w.heap.size + 1, 0, none⟩), .pointer (some ⟨w4.heap.size, 0, none⟩)]
    plF (plG ls (cnts rs) (letN ⟨#[cc]⟩) m) 0 A n c rs w5 hn (HR.out.next b5) (wf_of HL.out) ?_ ?_).mono ?_
  · intro k r hr h0 w' hb'
    exact pl1_any _ w'
  · intro k r hr h0 w' hb'
    have hk : k < rs.length := (List.getElem?_eq_some_iff.1 hr).1
    have hfa := foldAll_pos Q4.nil cntF cntG Q4.nil (rs := rs) (by omega)
    have hNn : N = n := by rw [← HN.out, hfa, full_len]; exact hl.out
    subst hNn
    have hln := hl.out
    rcases wf_of HL.out k r hr with ⟨_, ha0, ha1, hb0', hb1'⟩ | ⟨cc, _, hxl, _⟩
    · rw [outs_full 0 plF _ (k := k) (i := r.a.toNat) (by omega) (by omega), outs_full 0 plF _ (k := k) (i := r.b.toNat) (by omega) (by omega)]
      have r36 := r35.out.next hb'
      rw [hfa] at r36
      have q1 := pl_bound HL.out (l := letN ⟨#[cc]⟩) n1 n2 (k := r.a.toNat) (by omega)
      have q2 := pl_bound HL.out (l := letN ⟨#[cc]⟩) n1 n2 (k := r.b.toNat) (by omega)
      have q3 := pl_prod HL.out n1 n2 (i := r.a.toNat) (j := r.b.toNat) (by omega) (by omega) (letN ⟨#[cc]⟩)
      have q4 := lens_bound HL.out (i := r.a.toNat) (by omega)
      have q5 := cnt_at HL.out (k := r.b.toNat) (by omega) (letN ⟨#[cc]⟩)
      have h := pl2_any _ _ r w1.heap.size (w.heap.size + 1) w4.heap.size A2 A3 A c N c2 c3 N (letN ⟨#[cc]⟩) m ls (cnts rs) w' (BC5.out.next hb').lt (BM5.out.next hb').lt (BL.out.next hb').lt ((BC5.out.next hb').cell 0) ((BC5.out.next hb').cell 1) ((BC5.out.next hb').cell 2) ((BM5.out.next hb').cell 0) ((BL.out.next hb').cell 0)
        hl4 n1 n2 (r25.out.next hb') r36 ha0 (by omega) hb0' (by omega) q1 q2 q3 ⟨by omega, by omega⟩ q5
      simpa using h
    · rw [hxl] at h0; exact absurd h0 (show ¬ (1 : Nat) = 0 by omega)
  rintro e6 w6 ⟨A6, c6, rfl, own6, hb6⟩
  have r6 := Lib.hid (Rd.of_own (enc := intE) (fun _ _ => rfl) rfl own6)
  clear own6
  have b6 := b5.trans (hb6.mono b5.size)
  go_wp2_with fail
  refine (topI_any A6 _ c6 _ w6 (by have := HM.out; have := hl.out; omega) (by have := HM.out; omega) r6.out).mono ?_
  rintro e7 w7 ⟨rfl, hb7⟩
  rw [HT.out]
  go_wp2_with fail
  go_ret2
  exact ⟨by rw [e.out]; rfl, b6.trans (hb7.mono b6.size)⟩
theorem elemI : Elem Try.prog 32 2 1 8 := Elem.mk' (z := .int .i64 0) Try.underlying32 (by kernel_rfl) rfl
end Go.Proofs.Ytecnkmndmnefdaa


/-
  SelectOf in the program and in the reference.
-/
namespace Go.Proofs.Ytecnkmndmnefdaa
open Go.RowKit

def selGo (cs : List Q4) (ls : List Int) (rs : List Fac) (l : Nat) : Nat → Nat → Int → Int → Int
  | 0, _, _, n => n
  | f + 1, r, k, n =>
    match rs[r]? with
    | none => n
    | some x => if x.l.size = 0 then (if k < (cs.getD x.a.toNat Q4.nil).at_ l then selGo cs ls rs l f x.a.toNat k n else selGo cs ls rs l f x.b.toNat (k - (cs.getD x.a.toNat Q4.nil).at_ l) (n + ls.getD x.a.toNat 0)) else n
theorem selGo_step {cs : List Q4} {ls : List Int} {rs : List Fac} {l : Nat} {f r : Nat} {k n : Int} {x : Fac} (hf : r < f) (hx : rs[r]? = some x) (h0 : x.l.size = 0) :
    selGo cs ls rs l f r k n = if k < (cs.getD x.a.toNat Q4.nil).at_ l then selGo cs ls rs l (f - 1) x.a.toNat k n else selGo cs ls rs l (f - 1) x.b.toNat (k - (cs.getD x.a.toNat Q4.nil).at_ l) (n + ls.getD x.a.toNat 0) := by
  obtain ⟨g, rfl⟩ : ∃ g, f = g + 1 := ⟨f - 1, by omega⟩
  rw [selGo, hx]
  simp only [if_pos h0, Nat.add_sub_cancel]
theorem selGo_stop {cs : List Q4} {ls : List Int} {rs : List Fac} {l : Nat} {f r : Nat} {k n : Int} {x : Fac} (hf : r < f) (hx : rs[r]? = some x) (h0 : x.l.size ≠ 0) : selGo cs ls rs l f r k n = n := by
  obtain ⟨g, rfl⟩ : ∃ g, f = g + 1 := ⟨f - 1, by omega⟩
  rw [selGo, hx]
  simp only [if_neg h0]
def topQ (rs : List Fac) : Q4 := if rs.length = 0 then Q4.nil else (cnts rs).getD (rs.length - 1) Q4.nil
theorem top_topQ (rs : List Fac) : (foldAll Q4.nil cntF cntG Q4.nil rs).getD ((foldAll Q4.nil cntF cntG Q4.nil rs).length - 1) Q4.nil = topQ rs := foldAll_top _ _ _ _ rs
def selV (rs : List Fac) (s : ByteArray) (k : Int) : Value :=
  if (gOk rs).isSome = false then tup2 0 1 else if letT s = false then tup2 0 1 else if k < 0 then tup2 0 2
  else if (topQ rs).at_ (letN s) ≤ k then tup2 0 6 else tup2 (selGo (cnts rs) ((gLens rs []).getD []) rs (letN s) rs.length (rs.length - 1) k 0) 0
theorem selV_form (rs : List Fac) (s : ByteArray) (k : Int) : ∃ b j, selV rs s k = .tuple #[.int .i64 b, .int .i64 j] := by
  unfold selV
  split
  · exact ⟨_, _, rfl⟩
  split
  · exact ⟨_, _, rfl⟩
  split
  · exact ⟨_, _, rfl⟩
  split
  · exact ⟨_, _, rfl⟩
  · exact ⟨_, _, rfl⟩
theorem selV1 {rs : List Fac} {s : ByteArray} {k : Int} (h : (gOk rs).isSome = false) : selV rs s k = tup2 0 1 := by unfold selV; rw [if_pos h]
theorem selV2 {rs : List Fac} {s : ByteArray} {k : Int} (h : (gOk rs).isSome = true) (h2 : letT s = false) : selV rs s k = tup2 0 1 := by unfold selV; rw [if_neg (by rw [h]; decide), if_pos h2]
theorem selV3 {rs : List Fac} {s : ByteArray} {k : Int} (h : (gOk rs).isSome = true) (h2 : letT s = true) (h3 : k < 0) : selV rs s k = tup2 0 2 := by unfold selV; rw [if_neg (by rw [h]; decide), if_neg (by rw [h2]; decide), if_pos h3]
theorem selV4 {rs : List Fac} {s : ByteArray} {k : Int} (h : (gOk rs).isSome = true) (h2 : letT s = true) (h3 : 0 ≤ k) (h4 : (topQ rs).at_ (letN s) ≤ k) : selV rs s k = tup2 0 6 := by
  unfold selV; rw [if_neg (by rw [h]; decide), if_neg (by rw [h2]; decide), if_neg (by omega), if_pos h4]
theorem selV5 {rs : List Fac} {ls : List Int} {s : ByteArray} {k : Int} (hls : gLens rs [] = some ls) (h : (gOk rs).isSome = true) (h2 : letT s = true) (h3 : 0 ≤ k) (h4 : k < (topQ rs).at_ (letN s)) : selV rs s k = tup2 (selGo (cnts rs) ls rs (letN s) rs.length (rs.length - 1) k 0) 0 := by
  unfold selV; rw [if_neg (by rw [h]; decide), if_neg (by rw [h2]; decide), if_neg (by omega), if_neg (by omega), hls]; rfl
theorem ix_u8 (q : Q4) {l : Nat} (h : l < 4) (w : World) : (Instr.index 87 (.agg #[.int .i64 q.a, .int .i64 q.b, .int .i64 q.c, .int .i64 q.d]) (.int .u8 (l : Int))).run Try.prog w = .ok (.int .i64 (q.at_ l)) w := by
  rcases (show l = 0 ∨ l = 1 ∨ l = 2 ∨ l = 3 by omega) with rfl | rfl | rfl | rfl
  all_goals kernel_rfl
theorem topQ_any (A : Option Addr) (n c : Nat) (xs : List Q4) (w : World) (hn : n ≤ 1048577) (h0 : 0 < n) (hr : Rd w w.heap.size A n 4 encQ4 xs) :
    Calls Try.prog 87 #[.slice A n c] w (Ret (Q4.v (xs.getD (n - 1) Q4.nil)) w) := by
  obtain ⟨b, o, rfl, hB, x, gx, hc⟩ := hr.at_ (k := n - 1) (by omega)
  have e1 := Lib.hid (show xs.getD (n - 1) Q4.nil = x by rw [List.getD_eq_getElem?_getD, gx]; rfl)
  have c0 : w.cell? ⟨b, o + (n - 1) * 4, none⟩ = some (.int .i64 x.a) := hc 0 _ rfl
  have c1 : w.cell? ⟨b, o + (n - 1) * 4 + 1, none⟩ = some (.int .i64 x.b) := hc 1 _ rfl
  have c2 : w.cell? ⟨b, o + (n - 1) * 4 + 2, none⟩ = some (.int .i64 x.c) := hc 2 _ rfl
  have c3 : w.cell? ⟨b, o + (n - 1) * 4 + 3, none⟩ = some (.int .i64 x.d) := hc 3 _ rfl
  clear gx hc hr
  go_enter Try.func87, Try.ntmps87
  go_wp2_with fail
  rw [e1.out]
  refine bodyPost_ret (v := Q4.v x) (by simp [results, Try.results87, go_sem]) rfl ⟨rfl, by (repeat first | exact Below.refl _ _ | assumption | refine Below.drew ?_ | refine Below.alloc ?_ (by first | exact Nat.le_refl _ | (simp; done) | omega | (simp; omega)) _ | refine Below.setCell ?_ (by first | exact Nat.le_refl _ | (simp; done) | omega | (simp; omega)) _)⟩
set_option maxHeartbeats 2000000 in
set_option maxRecDepth 100000 in
theorem sel_any (A : Option Addr) (n c : Nat) (rs : List Fac) (A2 : Option Addr) (c2 : Nat) (A3 : Option Addr) (N c3 : Nat) (ls : List Int) (l : Nat) (k0 : Int) (w : World) (hn : n ≤ 1048576) (hr : Rd w w.heap.size A n 3 Fac.cells rs)
    (hls : gLens rs [] = some ls) (h2 : Rd w w.heap.size A2 n 1 intE ls) (hN : (foldAll Q4.nil cntF cntG Q4.nil rs).length = N) (h3 : Rd w w.heap.size A3 N 4 encQ4 (foldAll Q4.nil cntF cntG Q4.nil rs)) (hl4 : l < 4) (hk0 : 0 ≤ k0) (hk1 : k0 ≤ 9223372036854775807)
    (v : Value) (hv : (if (topQ rs).at_ l ≤ k0 then Value.tuple #[.int .i64 0, .bool false] else .tuple #[.int .i64 (selGo (cnts rs) ls rs l rs.length (rs.length - 1) k0 0), .bool true]) = v) :
    Calls Try.prog 50 #[.agg #[.slice A n c, .slice A2 n c2, .slice A3 N c3], .int .u8 (l : Int), .int .i64 k0] w
      (Ret v w) := by
  have Hv := Lib.hid hv; clear hv
  have hl := Lib.hid hr.len
  have HR := Lib.hid hr; clear hr
  have HL := Lib.hid hls; clear hls
  have HM := Lib.hid (foldAll_len Q4.nil cntF cntG Q4.nil rs)
  have HT := Lib.hid (top_topQ rs)
  have HN := Lib.hid hN; clear hN
  have r2 := Lib.hid h2; clear h2
  have r3 := Lib.hid h3; clear h3
  go_enter Try.func50, Try.ntmps50
  go_wp2_with fail
  refine namedC fun w0 H0 => ?_
  have hb0 : Below w.heap.size w w0 := by rw [H0.out]; (repeat first | exact Below.refl _ _ | assumption | refine Below.drew ?_ | refine Below.alloc ?_ (by first | exact Nat.le_refl _ | (simp; done) | omega | (simp; omega)) _ | refine Below.setCell ?_ (by first | exact Nat.le_refl _ | (simp; done) | omega | (simp; omega)) _)
  have BC := Lib.hid (show Blk w0 w.heap.size 59 #[.slice A n c, .slice A2 n c2, .slice A3 N c3] by rw [H0.out]; exact Blk.new _ _ _)
  clear H0
  refine (topQ_any A3 N c3 _ w0 (by have := HM.out; have := hl.out; have := HN.out; omega) (by have := HM.out; have := HN.out; omega) (r3.out.next hb0)).mono ?_
  rintro e1 w1 ⟨rfl, hb1⟩
  rw [← HN.out, HT.out]
  have b1 := hb0.trans (hb1.mono hb0.size)
  have BC1 := Lib.hid (BC.out.next hb1)
  have hix := ix_u8 (topQ rs) hl4
  unfold Q4.v
  by_cases q1 : (topQ rs).at_ l ≤ k0
  · have Hv' := Lib.hid (show Value.tuple #[.int .i64 0, .bool false] = v by rw [← Hv.out, if_pos q1])
    go_wp2_with fail
    go_ret2
    exact ⟨by rw [← Hv'.out]; rfl, b1⟩
  have Hv' := Lib.hid (show Value.tuple #[.int .i64 (selGo (cnts rs) ls rs l rs.length (rs.length - 1) k0 0), .bool true] = v by rw [← Hv.out, if_neg q1])
  clear Hv
  have hpos : 0 < rs.length := by
    rcases Nat.eq_zero_or_pos rs.length with h | h
    · exfalso; apply q1; rw [show topQ rs = Q4.nil by unfold topQ; rw [if_pos h]]
      have : Q4.nil.at_ l = 0 := by
        match l, hl4 with
        | 0, _ => rfl
        | 1, _ => rfl
        | 2, _ => rfl
        | 3, _ => rfl
      omega
    · exact h
  have hfa := foldAll_pos Q4.nil cntF cntG Q4.nil hpos
  have hNn : N = n := by rw [← HN.out, hfa, full_len]; exact hl.out
  have r31 := Lib.hid (show Rd w1 w1.heap.size A3 n 4 encQ4 (cnts rs) by have := (r3.out.next b1); rw [hfa, hNn] at this; exact this)
  have r21 := Lib.hid (r2.out.next b1)
  have R1 := Lib.hid (HR.out.next b1)
  have HW := Lib.hid (wf_of HL.out)
  have hn0 : 0 < n := by rw [← hl.out]; exact hpos
  have cg1 := BC1.out.cell 0
  have lg1 := BC1.out.lt
  rw [hNn] at BC1
  rw [hl.out] at Hv'
  subst hNn
  clear hfa HT HM HN hpos
  go_wp2_with fail
  have hup := upc w1.heap.size w1
  refine wp_region_up w1.heap.size (by kernel_rfl) (by kernel_rfl) ?_
  repeat (go_big_quiet_step (fail))
  refine wpQuiet_nil ?_
  intro w2 hup_w2
  have hb2 := up_of hup_w2
  have b2 := b1.trans (hb2.mono b1.size)
  have BC2 := Lib.hid (BC1.out.next hb2)
  have R2 := Lib.hid (R1.out.next hb2)
  have r22 := Lib.hid (r21.out.next hb2)
  have r32 := Lib.hid (r31.out.next hb2)
  clear hix cg1 lg1 hup
  go_wp2_with fail
  go_loopw [2, 8, 9] (fun k_ n_ r_ w' => ∃ (r f : Nat) (k t : Int), r_ = .int .i64 r ∧ n_ = .int .i64 t ∧ k_ = .int .i64 k ∧ r < N ∧ r < f ∧ Below w2.heap.size w2 w' ∧
      (0 ≤ t ∧ t + ls.getD r 0 ≤ 1000000000000000 ∧ 0 ≤ k ∧ k ≤ 9223372036854775807) ∧ Hid (selGo (cnts rs) ls rs l N (N - 1) k0 0 = selGo (cnts rs) ls rs l f r k t)) (fun _ _ r_ _ => (intOf r_).toNat)
  case atStart =>
    have := lens_bound HL.out (i := N - 1) (by rw [hl.out]; omega)
    exact ⟨N - 1, N, k0, 0, by go_num, rfl, rfl, by omega, by omega, Below.refl _ _, by omega, Lib.hid rfl⟩
  case round =>
    obtain ⟨r, f, k, t, rfl, rfl, rfl, hrn, hrf, hb, ⟨g1, g2, g3, g4⟩, H⟩ := hrel
    obtain ⟨b, o, x, rfl, hB, gx, c0, c1, c2⟩ := (R2.out.next hb).fac hrn
    have BCr := BC2.out.next hb
    obtain ⟨cg0, cg1, cg2⟩ := BCr.three
    have lg := BCr.lt
    rcases HW.out r x gx with ⟨h0, ha0, ha1, hb0', hb1'⟩ | ⟨cc, hcc, hxl, hxa, hxb⟩
    · obtain ⟨p1, o1, rfl, hB1, d1⟩ := (r32.out.next hb).q4 (k := x.a.toNat) (by omega) hl4
      obtain ⟨p2, o2, rfl, hB2, l0⟩ := (r22.out.next hb).i64 (k := x.a.toNat) (by omega)
      have H' := selGo_step (cs := cnts rs) (ls := ls) (l := l) (k := k) (n := t) hrf gx h0
      rw [← H.out] at H'
      have H2 := Lib.hid H'
      have cb := cnt_at HL.out (k := x.a.toNat) (by rw [hl.out]; omega) l
      have lp := lens_pair HL.out gx h0
      have lb1 := lens_bound HL.out (i := x.a.toNat) (by rw [hl.out]; omega)
      have lb2 := lens_bound HL.out (i := x.b.toNat) (by rw [hl.out]; omega)
      generalize ((cnts rs).getD x.a.toNat Q4.nil).at_ l = v at *
      obtain ⟨v0, v1⟩ := cb
      clear H' gx H
      go_wp2_with fail
      refine (isPair_any x true _ (by simpa [isP] using h0)).mono ?_
      rintro e1 w5 ⟨rfl, hb5⟩
      have c0' := (hb5.cell (p := ⟨b, o + r * 3, none⟩) hB).trans c0
      have c1' := (hb5.cell (p := ⟨b, o + r * 3 + 1, none⟩) hB).trans c1
      have c2' := (hb5.cell (p := ⟨b, o + r * 3 + 2, none⟩) hB).trans c2
      have d1' := (hb5.cell (p := ⟨p1, o1 + x.a.toNat * 4 + l, none⟩) hB1).trans d1
      have l0' := (hb5.cell (p := ⟨p2, o2 + x.a.toNat, none⟩) hB2).trans l0
      have cg0' := (hb5.cell (p := ⟨w.heap.size, 0, none⟩) lg).trans cg0
      have cg1' := (hb5.cell (p := ⟨w.heap.size, 1, none⟩) lg).trans cg1
      have cg2' := (hb5.cell (p := ⟨w.heap.size, 2, none⟩) lg).trans cg2
      have sz5 := hb5.size
      have s51 : p1 < w5.heap.size := by omega
      have s52 : p2 < w5.heap.size := by omega
      have s53 : w.heap.size < w5.heap.size := by omega
      have b5 := hb.trans (hb5.mono hb.size)
      have i0 : (0 : Int) ≤ (l : Int) := by omega
      have i1 : (l : Int) < 4 := by omega
      have i2 : x.a < (N : Int) := by omega
      clear c0 c1 c2 d1 l0 cg0 cg1 cg2 h0 BCr
      by_cases q4 : k < v
      · rw [if_pos q4] at H2
        go_wp2_with fail
        go_roundw
        case rel => exact ⟨x.a.toNat, f - 1, k, t, by go_num, rfl, rfl, by omega, by omega, b5.alloc b5.size _, ⟨g1, by omega, g3, g4⟩, H2⟩
        case measure => simp [intOf]; omega
      · rw [if_neg q4] at H2
        go_wp2_with fail
        refine named fun w6 H6 => ?_
        have B6 : Blk w6 w5.heap.size 69 #[.string x.l, .int .i64 x.a, .int .i64 x.b] := by rw [H6.out]; exact Blk.new _ _ _
        have hb6 : Below w5.heap.size w5 w6 := by rw [H6.out]; (repeat first | exact Below.refl _ _ | assumption | refine Below.drew ?_ | refine Below.alloc ?_ (by first | exact Nat.le_refl _ | (simp; done) | omega | (simp; omega)) _ | refine Below.setCell ?_ (by first | exact Nat.le_refl _ | (simp; done) | omega | (simp; omega)) _)
        obtain ⟨t0, t1, t2⟩ := B6.three
        have hz6 := B6.lt
        have l0'' := (hb6.cell (p := ⟨p2, o2 + x.a.toNat, none⟩) (by show p2 < _; omega)).trans l0'
        have cg1'' := (hb6.cell (p := ⟨w.heap.size, 1, none⟩) (by show w.heap.size < _; omega)).trans cg1'
        have sp2 : p2 < w6.heap.size := by omega
        have sp3 : w.heap.size < w6.heap.size := by omega
        have hup := upc w6.heap.size w6
        generalize ls.getD x.a.toNat 0 = y2 at *
        have u1 : IntKind.i64.wrap (t + y2) = t + y2 := IntWalk.i64_in _ (by omega)
        have u2 : IntKind.i64.wrap (k - v) = k - v := IntWalk.i64_in _ (by clear u1; omega)
        refine wp_region_up w6.heap.size (by kernel_rfl) (by kernel_rfl) ?_
        repeat (go_big_quiet_step (fail))
        refine wpQuiet_nil ?_
        intro w7 hup_w7
        have hb7 := up_of hup_w7
        have b7 := b5.trans ((hb6.trans (hb7.mono hb6.size)).mono b5.size)
        clear u1 u2
        go_wp2_with fail
        go_roundw
        case rel => exact ⟨x.b.toNat, f - 1, k - v, t + y2, by go_num, rfl, rfl, by omega, by omega, b7, ⟨by omega, by omega, by omega, by omega⟩, H2⟩
        case measure => simp [intOf]; omega
    · have h0 : x.l.size ≠ 0 := by rw [hxl]; show (1 : Nat) ≠ 0; omega
      have H' := Lib.hid (H.out.trans (selGo_stop (cs := cnts rs) (ls := ls) (l := l) (k := k) (n := t) hrf gx h0))
      clear gx H hxl hxa hxb
      go_wp2_with fail
      refine (isPair_any x false _ (by simpa [isP] using h0)).mono ?_
      rintro e1 w5 ⟨rfl, hb5⟩
      have b5 := hb.trans (hb5.mono hb.size)
      go_wp2_with fail
      go_ret2
      exact ⟨by rw [← Hv'.out, H'.out]; rfl, b2.trans (b5.mono b2.size)⟩
set_option maxHeartbeats 2000000 in
set_option maxRecDepth 100000 in
theorem implSel_any (A : Option Addr) (n c : Nat) (rs : List Fac) (s : ByteArray) (k : Int) (w : World) (hn : n ≤ 1048576) (hr : Rd w w.heap.size A n 3 Fac.cells rs) (hok : ∀ f ∈ rs, f.l.size ≤ maxLen) (hs : s.size ≤ maxLen) (hm : -9223372036854775808 ≤ k ∧ k ≤ 9223372036854775807) :
    Calls Try.prog 14 #[.agg #[.slice A n c], .string s, .int .i64 k] w (Ret (selV rs s k) w) := by
  have hl := Lib.hid hr.len
  have HR := Lib.hid hr; clear hr
  have HO := Lib.hid hok; clear hok
  obtain ⟨m0, m1⟩ := hm
  go_enter Try.func14, Try.ntmps14
  go_wp2_with fail
  refine namedC fun w0 H0 => ?_
  have hb0 : Below w.heap.size w w0 := by rw [H0.out]; (repeat first | exact Below.refl _ _ | assumption | refine Below.drew ?_ | refine Below.alloc ?_ (by first | exact Nat.le_refl _ | (simp; done) | omega | (simp; omega)) _ | refine Below.setCell ?_ (by first | exact Nat.le_refl _ | (simp; done) | omega | (simp; omega)) _)
  clear H0
  refine (census_any A n c rs w0 hn (HR.out.next hb0) HO.out).mono ?_
  rintro e w1 ⟨hb1, ⟨ls, A2, c2, A3, c3, hg, rfl, own2, own3⟩ | ⟨hg, rfl⟩⟩
  case inr =>
    have e := Lib.hid (selV1 (s := s) (k := k) (show (gOk rs).isSome = false by rw [hg]; rfl))
    clear hg
    go_wp2_with fail
    go_ret2
    exact ⟨by rw [e.out]; rfl, (hb0.trans (hb1.mono hb0.size)).alloc (by have := hb0.size; have := hb1.size; omega) _⟩
  have HG := Lib.hid (show (gOk rs).isSome = true by rw [hg]; rfl)
  have HL := Lib.hid (gOk_lens hg).1
  have hll := Lib.hid ((gOk_lens hg).2.2.trans hl.out)
  clear hg
  have b1 := hb0.trans (hb1.mono hb0.size)
  have r2 := Lib.hid (Rd.of_own (enc := intE) (fun _ _ => rfl) hll.out own2)
  have r3 := Lib.hid (Rd.of_own (fun y _ => lenQ4 y) rfl own3)
  clear own2 own3
  generalize hN : (foldAll Q4.nil cntF cntG Q4.nil rs).length = N at *
  have HN := Lib.hid hN; clear hN
  go_wp2_with fail
  refine namedC fun w2 H2 => ?_
  have hb2 : Below w1.heap.size w1 w2 := by rw [H2.out]; (repeat first | exact Below.refl _ _ | assumption | refine Below.drew ?_ | refine Below.alloc ?_ (by first | exact Nat.le_refl _ | (simp; done) | omega | (simp; omega)) _ | refine Below.setCell ?_ (by first | exact Nat.le_refl _ | (simp; done) | omega | (simp; omega)) _)
  have BC := Lib.hid (show Blk w2 w1.heap.size 59 #[.slice A n c, .slice A2 n c2, .slice A3 N c3] by rw [H2.out]; exact Blk.new _ _ _)
  clear H2
  have b2 := b1.trans (hb2.mono b1.size)
  rcases h2 : letT s with _ | _
  · have e := Lib.hid (selV2 (k := k) HG.out h2)
    have H2 := Lib.hid h2; clear h2
    refine (isLetterText_any s false _ hs H2.out).mono ?_
    rintro e1 w3 ⟨rfl, hb3⟩
    go_wp2_with fail
    go_ret2
    exact ⟨by rw [e.out]; rfl, b2.trans (hb3.mono b2.size)⟩
  have H2 := Lib.hid h2
  obtain ⟨cc, hcc, rfl⟩ := letT_one h2
  obtain ⟨k0, k1⟩ := letB_num hcc
  clear h2 hcc
  refine (isLetterText_any ⟨#[cc]⟩ true _ hs H2.out).mono ?_
  rintro e1 w3 ⟨rfl, hb3⟩
  have b3 := b2.trans (hb3.mono b2.size)
  by_cases h3 : k < 0
  · have e := Lib.hid (selV3 HG.out H2.out h3)
    go_wp2_with fail
    go_ret2
    exact ⟨by rw [e.out]; rfl, b3⟩
  have h30 : 0 ≤ k := by omega
  have hb13 := hb2.trans (hb3.mono hb2.size)
  have BC3 := BC.out.next hb3
  obtain ⟨d0, d1, d2⟩ := BC3.three
  have l3 := BC3.lt
  have z1 : (0 : Nat) < (⟨#[cc]⟩ : ByteArray).size := show 0 < 1 by omega
  have v1 : IntKind.u8.wrap ((((⟨#[cc]⟩ : ByteArray)[0]'z1).toNat : Int) - 97) = ((cc.toNat - 97 : Nat) : Int) := by show ((cc.toNat : Int) - 97) % 256 = _; omega
  have hl4 : cc.toNat - 97 < 4 := by omega
  have eN := Lib.hid (show letN ⟨#[cc]⟩ = cc.toNat - 97 from rfl)
  have hsel := Lib.hid (fun (v : Value) hv (w' : World) (hb : Below w3.heap.size w3 w') => sel_any A n c rs A2 c2 A3 N c3 ls (cc.toNat - 97) k w' hn (HR.out.next (b3.trans (hb.mono b3.size))) HL.out ((r2.out.next hb13).next hb) HN.out ((r3.out.next hb13).next hb) hl4 h30 m1 v hv)
  clear BC3 h3
  by_cases h4 : (topQ rs).at_ (cc.toNat - 97) ≤ k
  · have e := Lib.hid (selV4 HG.out H2.out h30 h4)
    have hs4 := Lib.hid (hsel.out _ (if_pos h4) w3.drew (Below.refl _ _).drew)
    clear h4 hsel
    go_wp2_with fail
    go_region_with
      (go_at_call 50
       refine hs4.out.mono ?_
       rintro e4 w4 ⟨rfl, hb4⟩
       have b4 : Below w.heap.size w w4 := b3.trans (((Below.refl _ _).drew.trans hb4).mono b3.size))
    all_goals
      go_wp2_with fail
      go_ret2
      exact ⟨by rw [e.out]; rfl, b4⟩
  · have e := Lib.hid (selV5 HL.out HG.out H2.out h30 (by rw [eN.out]; omega))
    have hs4 := Lib.hid (hsel.out _ (if_neg h4) w3.drew (Below.refl _ _).drew)
    rw [eN.out] at e
    generalize selGo (cnts rs) ls rs (cc.toNat - 97) rs.length (rs.length - 1) k 0 = y at *
    clear h4 hsel
    go_wp2_with fail
    go_region_with
      (go_at_call 50
       refine hs4.out.mono ?_
       rintro e4 w4 ⟨rfl, hb4⟩
       have b4 : Below w.heap.size w w4 := b3.trans (((Below.refl _ _).drew.trans hb4).mono b3.size))
    all_goals
      go_wp2_with fail
      go_ret2
      exact ⟨by rw [e.out]; rfl, b4⟩
theorem l05Total_any (A : Option Addr) (n c : Nat) (rs : List Fac) (l : Nat) (w : World) (hn : n ≤ 1048576) (hT : Tab w w.heap.size A n (cnts rs)) (hl4 : l < 4) :
    Calls Try.prog 51 #[.slice A n c, .int .i64 (l : Int)] w (Ret (.int .i64 ((topQ rs).at_ l)) w) := by
  have hlen : (cnts rs).length = rs.length := full_len Q4.nil cntF cntG (rs := rs)
  have h1 := hT.1
  by_cases h0 : n = 0
  · have e := Lib.hid (show (topQ rs).at_ l = 0 by
      rw [show topQ rs = Q4.nil by unfold topQ; rw [if_pos (by omega)]]
      rcases (show l = 0 ∨ l = 1 ∨ l = 2 ∨ l = 3 by omega) with rfl | rfl | rfl | rfl <;> rfl)
    have hk0 : ((n : Int) == 0) = true := by simp [h0]
    clear hT h1 hlen
    go_enter Try.func51, Try.ntmps51
    go_wp2_with fail
    go_ret
    exact ⟨ret_int e.out.symm, Below.refl _ _⟩
  · have e := Lib.hid (show (topQ rs).at_ l = ((cnts rs).getD (n - 1) Q4.nil).at_ l by unfold topQ; rw [if_neg (by omega), show rs.length = n by omega])
    have hk0 : ((n : Int) == 0) = false := by simp [h0]
    obtain ⟨b, o, g, rfl, hB, hg, e1, e2⟩ := hT.2 (n - 1) (by omega)
    have e3 := e2 l hl4
    rw [← e.out] at e3
    have hj : ((n : Int) - 1).toNat = n - 1 := by omega
    have u0 : IntKind.i64.wrap ((n : Int) - 1) = (n : Int) - 1 := IntWalk.i64_in _ (by omega)
    have j0 : (0 : Int) ≤ (n : Int) - 1 := by omega
    have j1 : (l : Int) < 4 := by omega
    have j2 : (0 : Int) ≤ (l : Int) := by omega
    clear hT h1 hlen e2
    generalize (topQ rs).at_ l = y at *
    go_enter Try.func51, Try.ntmps51
    go_wp2_with fail
    go_ret
    exact ⟨rfl, Below.refl _ _⟩
set_option maxHeartbeats 2000000 in
set_option maxRecDepth 100000 in
theorem l05Select_any (gb : Nat) (A : Option Addr) (n c : Nat) (rs : List Fac) (A2 : Option Addr) (c2 : Nat) (A3 : Option Addr) (c3 : Nat) (ls : List Int) (l : Nat) (k0 : Int) (w : World) (hg : gb < w.heap.size) (hc : w.cell? ⟨gb, 0, none⟩ = some (.slice A n c)) (hn : n ≤ 1048576) (hn0 : 0 < n) (hr : Rd w w.heap.size A n 3 Fac.cells rs)
    (hls : gLens rs [] = some ls) (h2 : Rd w w.heap.size A2 n 1 intE ls) (hT : Tab w w.heap.size A3 n (cnts rs)) (hl4 : l < 4) (hk0 : 0 ≤ k0) (hk1 : k0 ≤ 9223372036854775807) :
    Calls Try.prog 52 #[.pointer (some ⟨gb, 0, none⟩), .slice A2 n c2, .slice A3 n c3, .int .i64 (l : Int), .int .i64 k0] w (Ret (.int .i64 (selGo (cnts rs) ls rs l rs.length (rs.length - 1) k0 0)) w) := by
  have hl := Lib.hid hr.len
  have R2 := Lib.hid hr; clear hr
  have HL := Lib.hid hls; clear hls
  have r22 := Lib.hid h2; clear h2
  have T2 := Lib.hid hT; clear hT
  have HW := Lib.hid (wf_of HL.out)
  rw [hl.out]
  go_enter Try.func52, Try.ntmps52
  go_wp2_with fail
  go_loopw [4, 11, 12] (fun k_ n_ r_ w' => ∃ (r f : Nat) (k t : Int), r_ = .int .i64 r ∧ n_ = .int .i64 t ∧ k_ = .int .i64 k ∧ r < n ∧ r < f ∧ Below w.heap.size w w' ∧
      (0 ≤ t ∧ t + ls.getD r 0 ≤ 1000000000000000 ∧ 0 ≤ k ∧ k ≤ 9223372036854775807) ∧ Hid (selGo (cnts rs) ls rs l n (n - 1) k0 0 = selGo (cnts rs) ls rs l f r k t)) (fun _ _ r_ _ => (intOf r_).toNat)
  case atStart =>
    have := lens_bound HL.out (i := n - 1) (by rw [hl.out]; omega)
    exact ⟨n - 1, n, k0, 0, by go_num, rfl, rfl, by omega, by omega, Below.refl _ _, by omega, Lib.hid rfl⟩
  case round =>
    obtain ⟨r, f, k, t, rfl, rfl, rfl, hrn, hrf, hb, ⟨g1, g2, g3, g4⟩, H⟩ := hrel
    obtain ⟨b, o, x, rfl, hB, gx, c0, c1, c2⟩ := (R2.out.next hb).fac hrn
    have cg := (hb.cell (p := ⟨gb, 0, none⟩) hg).trans hc
    have lg : gb < wr.heap.size := by have := hb.size; omega
    rcases HW.out r x gx with ⟨h0, ha0, ha1, hb0', hb1'⟩ | ⟨cc, hcc, hxl, hxa, hxb⟩
    · have e5 := size0 h0
      obtain ⟨p1, o1, gq, rfl, hB1, hgq, d1, d2⟩ := (T2.out.next hb).2 x.a.toNat (by omega)
      obtain ⟨p2, o2, rfl, hB2, l0⟩ := (r22.out.next hb).i64 (k := x.a.toNat) (by omega)
      have d3 := d2 l hl4
      have H' := selGo_step (cs := cnts rs) (ls := ls) (l := l) (k := k) (n := t) hrf gx h0
      rw [← H.out] at H'
      have H2 := Lib.hid H'
      have cb := cnt_at HL.out (k := x.a.toNat) (by rw [hl.out]; omega) l
      have lp := lens_pair HL.out gx h0
      have lb1 := lens_bound HL.out (i := x.a.toNat) (by rw [hl.out]; omega)
      have lb2 := lens_bound HL.out (i := x.b.toNat) (by rw [hl.out]; omega)
      generalize ((cnts rs).getD x.a.toNat Q4.nil).at_ l = v at *
      generalize hy2 : ls.getD x.a.toNat 0 = y2 at *
      obtain ⟨v0, v1⟩ := cb
      have i0 : (0 : Int) ≤ (l : Int) := by omega
      have i1 : (l : Int) < 4 := by omega
      have i2 : x.a < (n : Int) := by omega
      have u1 : IntKind.i64.wrap (t + y2) = t + y2 := IntWalk.i64_in _ (by omega)
      have u2 : IntKind.i64.wrap (k - v) = k - v := IntWalk.i64_in _ (by clear u1; omega)
      clear H' gx H h0 d2
      by_cases q4 : k < v
      · rw [if_pos q4] at H2
        clear u1 u2
        go_wp2_with fail
        go_roundw
        case rel => exact ⟨x.a.toNat, f - 1, k, t, by go_num, rfl, rfl, by omega, by omega, hb.alloc hb.size _, ⟨g1, by omega, g3, g4⟩, H2⟩
        case measure => simp [intOf]; omega
      · rw [if_neg q4] at H2
        go_wp2_with fail
        clear u1 u2
        go_roundw
        case rel => exact ⟨x.b.toNat, f - 1, k - v, t + y2, by go_num, rfl, rfl, by omega, by omega, hb.alloc hb.size _, ⟨by omega, by omega, by omega, by omega⟩, H2⟩
        case measure => simp [intOf]; omega
    · have h0 : x.l.size ≠ 0 := by rw [hxl]; show (1 : Nat) ≠ 0; omega
      have H' := Lib.hid (H.out.trans (selGo_stop (cs := cnts rs) (ls := ls) (l := l) (k := k) (n := t) hrf gx h0))
      have e5 := size1 h0
      have e6 := size1' h0
      clear gx H hxl hxa hxb h0
      go_wp2_with fail
      go_ret
      exact ⟨ret_int H'.out.symm, hb⟩
set_option maxHeartbeats 2000000 in
set_option maxRecDepth 100000 in
theorem specSel_any (A : Option Addr) (n c : Nat) (rs : List Fac) (s : ByteArray) (k : Int) (w : World) (hn : n ≤ 1048576) (hr : Rd w w.heap.size A n 3 Fac.cells rs) (hok : ∀ f ∈ rs, f.l.size ≤ maxLen) (hs : s.size ≤ maxLen) (hm : -9223372036854775808 ≤ k ∧ k ≤ 9223372036854775807) :
    Calls Try.prog 15 #[.agg #[.slice A n c], .string s, .int .i64 k] w (Ret (selV rs s k) w) := by
  have hb0 : Below w.heap.size w (w.alloc (.cells #[.slice A n c] 26)) := by (repeat first | exact Below.refl _ _ | assumption | refine Below.drew ?_ | refine Below.alloc ?_ (by first | exact Nat.le_refl _ | (simp; done) | omega | (simp; omega)) _ | refine Below.setCell ?_ (by first | exact Nat.le_refl _ | (simp; done) | omega | (simp; omega)) _)
  have hB0 := Lib.hid (Blk.new w 26 #[.slice A n c])
  have hl := Lib.hid hr.len
  have HR := Lib.hid hr; clear hr
  have HO := Lib.hid hok; clear hok
  obtain ⟨m0, m1⟩ := hm
  rcases hg : (gOk rs).isSome with _ | _
  · have e := Lib.hid (selV1 (s := s) (k := k) hg)
    have Hg := Lib.hid hg; clear hg
    go_enter Try.func15, Try.ntmps15
    go_wp2_with fail
    refine (l02Ok_any w.heap.size A n c rs _ hB0.out.lt (hB0.out.cell 0) (by omega) (HR.out.next hb0) HO.out false Hg.out).mono ?_
    rintro e1 w1 ⟨rfl, hb1⟩
    go_wp2_with fail
    go_ret2
    exact ⟨by rw [e.out]; rfl, hb0.trans (hb1.mono hb0.size)⟩
  have HG := Lib.hid hg
  obtain ⟨ls, hls⟩ := Option.isSome_iff_exists.1 hg
  have Hk := Lib.hid hls
  have HL := Lib.hid (gOk_lens hls).1
  have hll := Lib.hid ((gOk_lens hls).2.2.trans hl.out)
  have hn4 : n ≤ 400 := by have := (gOk_lens hls).2.1; have := hl.out; omega
  clear hg hls
  rcases h2 : letT s with _ | _
  · have e := Lib.hid (selV2 (k := k) HG.out h2)
    have H2 := Lib.hid h2; clear h2
    go_enter Try.func15, Try.ntmps15
    go_wp2_with fail
    refine (l02Ok_any w.heap.size A n c rs _ hB0.out.lt (hB0.out.cell 0) (by omega) (HR.out.next hb0) HO.out true HG.out).mono ?_
    rintro e1 w1 ⟨rfl, hb1⟩
    go_wp2_with fail
    refine (specLetter_any s false _ hs H2.out).mono ?_
    rintro e1 w2 ⟨rfl, hb2⟩
    go_wp2_with fail
    go_ret2
    exact ⟨by rw [e.out]; rfl, hb0.trans ((hb1.trans (hb2.mono hb1.size)).mono hb0.size)⟩
  have H2 := Lib.hid h2
  obtain ⟨cc, hcc, rfl⟩ := letT_one h2
  have Hcc := Lib.hid hcc
  obtain ⟨k0, k1⟩ := letB_num hcc
  have hl4 : cc.toNat - 97 < 4 := by omega
  have eN := Lib.hid (show letN ⟨#[cc]⟩ = cc.toNat - 97 from rfl)
  have eC := Lib.hid (show (cc.toNat : Int) - 97 = ((cc.toNat - 97 : Nat) : Int) by omega)
  clear h2 hcc
  go_enter Try.func15, Try.ntmps15
  go_wp2_with fail
  refine (l02Ok_any w.heap.size A n c rs _ hB0.out.lt (hB0.out.cell 0) (by omega) (HR.out.next hb0) HO.out true HG.out).mono ?_
  rintro e1 w1 ⟨rfl, hb1⟩
  go_wp2_with fail
  refine (specLetter_any ⟨#[cc]⟩ true _ hs H2.out).mono ?_
  rintro e1 w3 ⟨rfl, hb3⟩
  have b3 := hb0.trans ((hb1.trans (hb3.mono hb1.size)).mono hb0.size)
  have B3 := Lib.hid ((hB0.out.next hb1).next hb3)
  by_cases h3 : k < 0
  · have e := Lib.hid (selV3 HG.out H2.out h3)
    go_wp2_with fail
    go_ret2
    exact ⟨by rw [e.out]; rfl, b3⟩
  have h30 : 0 ≤ k := by omega
  have cg3 := B3.out.cell 0
  have lg3 := B3.out.lt
  go_wp2_with fail
  refine (l05Counts_any w.heap.size A n c rs ls w3 lg3 cg3 hn (HR.out.next b3) HL.out).mono ?_
  rintro e1 w5 ⟨A5, c5, gs, rfl, own5, rows5, hb5⟩
  have hcl := Lib.hid ((full_len Q4.nil cntF cntG (rs := rs)).trans hl.out)
  rw [hcl.out] at own5 ⊢
  have T5 := Lib.hid (Tab.of hcl.out own5 rows5)
  have b5 := b3.trans (hb5.mono b3.size)
  have B5 := Lib.hid (B3.out.next hb5)
  clear cg3 lg3 own5 rows5
  go_wp2_with fail
  refine (l04Letter_any cc Hcc.out _).mono ?_
  rintro e w6 ⟨rfl, hb6⟩
  rw [eC.out]
  have b6 := b5.trans (hb6.mono b5.size)
  have B6 := Lib.hid (B5.out.next hb6)
  have T6 := Lib.hid (T5.out.next hb6)
  go_wp2_with fail
  refine (l05Total_any A5 n c5 rs (cc.toNat - 97) w6 hn T6.out hl4).mono ?_
  rintro e w7 ⟨rfl, hb7⟩
  have b7 := b6.trans (hb7.mono b6.size)
  have B7 := Lib.hid (B6.out.next hb7)
  have T7 := Lib.hid (T6.out.next hb7)
  by_cases h4 : (topQ rs).at_ (cc.toNat - 97) ≤ k
  · have e := Lib.hid (selV4 HG.out H2.out h30 h4)
    generalize (topQ rs).at_ (cc.toNat - 97) = y at *
    go_wp2_with fail
    go_ret2
    exact ⟨by rw [e.out]; rfl, b7⟩
  have e := Lib.hid (selV5 HL.out HG.out H2.out h30 (by rw [eN.out]; omega))
  rw [eN.out] at e
  have hn0 : 0 < n := by
    rcases Nat.eq_zero_or_pos n with h | h
    · exfalso; apply h4; rw [show topQ rs = Q4.nil by unfold topQ; rw [if_pos (by rw [hl.out]; exact h)]]
      have : Q4.nil.at_ (cc.toNat - 97) = 0 := by
        generalize cc.toNat - 97 = l at *
        rcases (show l = 0 ∨ l = 1 ∨ l = 2 ∨ l = 3 by omega) with rfl | rfl | rfl | rfl <;> rfl
      omega
    · exact h
  have cg7 := B7.out.cell 0
  have lg7 := B7.out.lt
  generalize (topQ rs).at_ (cc.toNat - 97) = y at *
  go_wp2_with fail
  refine (l02Lengths_any w.heap.size A n c rs w7 lg7 cg7 (by omega) (HR.out.next b7) HO.out).mono ?_
  rintro e1 w8 ⟨hb8, ⟨ls', A2, c2, hg2, rfl, hown2⟩ | ⟨hg2, _⟩⟩
  case inr => exact absurd (hg2.symm.trans Hk.out) (by simp)
  obtain rfl : ls' = ls := Option.some.inj (hg2.symm.trans Hk.out)
  have r8 := Lib.hid (Rd.of_own (enc := intE) (fun _ _ => rfl) rfl hown2)
  rw [hll.out] at r8 ⊢
  have b8 := b7.trans (hb8.mono b7.size)
  have B8 := Lib.hid (B7.out.next hb8)
  have T8 := Lib.hid (T7.out.next hb8)
  clear cg7 lg7 hown2 hg2
  go_wp2_with fail
  refine (l04Letter_any cc Hcc.out _).mono ?_
  rintro e2 w9 ⟨rfl, hb9⟩
  rw [eC.out]
  have b9 := b8.trans (hb9.mono b8.size)
  have B9 := Lib.hid (B8.out.next hb9)
  go_wp2_with fail
  refine (l05Select_any w.heap.size A n c rs A2 c2 A5 c5 ls' (cc.toNat - 97) k w9 B9.out.lt (B9.out.cell 0) hn hn0 (HR.out.next b9) HL.out (r8.out.next hb9) (T8.out.next hb9) hl4 h30 m1).mono ?_
  rintro e3 w10 ⟨rfl, hb10⟩
  go_wp2_with fail
  go_ret2
  exact ⟨by rw [e.out]; rfl, b9.trans (hb10.mono b9.size)⟩
end Go.Proofs.Ytecnkmndmnefdaa


/-
  Sums over the rules that are met for a beginning of the word.
-/
namespace Go.Proofs.Ytecnkmndmnefdaa
open Go.RowKit

/-- the sum of values for the first letters of a rule's word -/
def rk (v : Nat → Int) (ls : List Int) (rs : List Fac) : Nat → Nat → Int → Int
  | 0, _, _ => 0
  | f + 1, r, m =>
    if m ≤ 0 then 0 else if ls.getD r 0 ≤ m then v r else
    match rs[r]? with
    | none => 0
    | some x => rk v ls rs f x.a.toNat m + rk v ls rs f x.b.toNat (m - ls.getD x.a.toNat 0)
section
variable {v : Nat → Int} {ls : List Int} {rs : List Fac}
theorem rk_zero {f r : Nat} {m : Int} (h : m ≤ 0) : rk v ls rs f r m = 0 := by
  cases f with
  | zero => rfl
  | succ f => rw [rk, if_pos h]
theorem rk_full {f r : Nat} {m : Int} (hf : r < f) (h0 : 0 < m) (h : ls.getD r 0 ≤ m) : rk v ls rs f r m = v r := by
  obtain ⟨g, rfl⟩ : ∃ g, f = g + 1 := ⟨f - 1, by omega⟩
  rw [rk, if_neg (by omega), if_pos h]
theorem rk_go {f r : Nat} {m : Int} {x : Fac} (hf : r < f) (h0 : 0 < m) (h : m < ls.getD r 0) (hx : rs[r]? = some x) : rk v ls rs f r m = rk v ls rs (f - 1) x.a.toNat m + rk v ls rs (f - 1) x.b.toNat (m - ls.getD x.a.toNat 0) := by
  obtain ⟨g, rfl⟩ : ∃ g, f = g + 1 := ⟨f - 1, by omega⟩
  rw [rk, if_neg (by omega), if_neg (by omega), hx]
  rfl
def sumL (v : Nat → Int) : List Nat → Int
  | [] => 0
  | k :: r => v k + sumL v r
theorem sumL_app (v : Nat → Int) : ∀ a b : List Nat, sumL v (a ++ b) = sumL v a + sumL v b
  | [], b => by simp [sumL]
  | k :: r, b => by simp only [List.cons_append, sumL, sumL_app v r b]; omega
theorem pcs_sum (hls : gLens rs [] = some ls) (j : Int) : ∀ (f r : Nat) (a : Int), r < rs.length → 0 ≤ a → sumL v (pcs ls rs 0 j f r a) = rk v ls rs f r (j - a)
  | 0, _, _, _, _ => rfl
  | f + 1, r, a, hr, ha => by
    have lb := lens_bound hls hr
    rw [pcs, rk, if_neg (show ¬ a + ls.getD r 0 ≤ 0 by omega)]
    by_cases h2 : j ≤ a
    · rw [if_pos h2, if_pos (show j - a ≤ 0 by omega)]; rfl
    rw [if_neg h2, if_neg (show ¬ j - a ≤ 0 by omega)]
    by_cases h3 : a + ls.getD r 0 ≤ j
    · rw [if_pos (show 0 ≤ a ∧ a + ls.getD r 0 ≤ j from ⟨ha, h3⟩), if_pos (show ls.getD r 0 ≤ j - a by omega)]; simp [sumL]
    rw [if_neg (show ¬ (0 ≤ a ∧ a + ls.getD r 0 ≤ j) from fun h => h3 h.2), if_neg (show ¬ ls.getD r 0 ≤ j - a by omega)]
    have hx : rs[r]? = some (rs[r]'hr) := List.getElem?_eq_getElem _
    rw [hx]
    generalize rs[r]'hr = x at *
    have hab : x.a.toNat < rs.length ∧ x.b.toNat < rs.length := by
      rcases wf_of hls r x hx with ⟨_, h4, h5, h6, h7⟩ | ⟨_, _, _, h5, h6⟩
      · omega
      · rw [h5, h6]; show 0 < _ ∧ 0 < _; omega
    have lb2 := lens_bound hls hab.1
    show sumL v (pcs ls rs 0 j f x.a.toNat a ++ pcs ls rs 0 j f x.b.toNat (a + ls.getD x.a.toNat 0)) = _
    rw [sumL_app, pcs_sum hls j f _ a hab.1 ha, pcs_sum hls j f _ _ hab.2 (by omega), show j - (a + ls.getD x.a.toNat 0) = j - a - ls.getD x.a.toNat 0 by omega]
theorem rk_fuel (hls : gLens rs [] = some ls) : ∀ {r f g : Nat} {m : Int}, r < f → r < g → r < rs.length → rk v ls rs f r m = rk v ls rs g r m := by
  intro r
  induction r using Nat.strongRecOn with
  | ind r ih =>
    intro f g m hf hg hr
    by_cases h0 : m ≤ 0
    · rw [rk_zero h0, rk_zero h0]
    by_cases h1 : ls.getD r 0 ≤ m
    · rw [rk_full hf (by omega) h1, rk_full hg (by omega) h1]
    have hx : rs[r]? = some (rs[r]'hr) := List.getElem?_eq_getElem _
    generalize rs[r]'hr = x at *
    rcases wf_of hls r x hx with ⟨_, ha0, ha1, hb0, hb1⟩ | ⟨cc, _, hxl, _⟩
    · rw [rk_go hf (by omega) (by omega) hx, rk_go hg (by omega) (by omega) hx, ih x.a.toNat (by omega) (f := f - 1) (g := g - 1) (by omega) (by omega) (by omega), ih x.b.toNat (by omega) (f := f - 1) (g := g - 1) (by omega) (by omega) (by omega)]
    · exfalso
      have := lens_let hls hx (show x.l.size ≠ 0 by rw [hxl]; show (1 : Nat) ≠ 0; omega)
      omega
/-- between 0 and the length, where each value is -/
theorem rk_bound (hls : gLens rs [] = some ls) {c : Int} (hc : 0 ≤ c) (hv : ∀ k, k < rs.length → -(c * ls.getD k 0) ≤ v k ∧ v k ≤ c * ls.getD k 0) : ∀ (f r : Nat) (m : Int), r < rs.length → 0 ≤ m → -(c * m) ≤ rk v ls rs f r m ∧ rk v ls rs f r m ≤ c * m
  | 0, r, m, _, hm => by
    have := Int.mul_nonneg hc hm
    exact ⟨by show _ ≤ (0 : Int); omega, by show (0 : Int) ≤ _; omega⟩
  | f + 1, r, m, hr, hm => by
    have hcm := Int.mul_nonneg hc hm
    rw [rk]
    by_cases h0 : m ≤ 0
    · rw [if_pos h0]; omega
    rw [if_neg h0]
    by_cases h1 : ls.getD r 0 ≤ m
    · rw [if_pos h1]
      have := hv r hr
      have := Int.mul_le_mul_of_nonneg_left h1 hc
      omega
    rw [if_neg h1]
    have hx : rs[r]? = some (rs[r]'hr) := List.getElem?_eq_getElem _
    rw [hx]
    generalize rs[r]'hr = x at *
    have hab : x.a.toNat < rs.length ∧ x.b.toNat < rs.length := by
      rcases wf_of hls r x hx with ⟨_, h4, h5, h6, h7⟩ | ⟨_, _, _, h5, h6⟩
      · omega
      · rw [h5, h6]; show 0 < _ ∧ 0 < _; omega
    have lb2 := lens_bound hls hab.1
    show -(c * m) ≤ rk v ls rs f x.a.toNat m + rk v ls rs f x.b.toNat (m - ls.getD x.a.toNat 0) ∧ rk v ls rs f x.a.toNat m + rk v ls rs f x.b.toNat (m - ls.getD x.a.toNat 0) ≤ c * m
    by_cases h2 : m ≤ ls.getD x.a.toNat 0
    · rw [rk_zero (r := x.b.toNat) (show m - ls.getD x.a.toNat 0 ≤ 0 by omega)]
      have := rk_bound hls hc hv f x.a.toNat m hab.1 hm
      omega
    · have e1 : f = 0 ∨ rk v ls rs f x.a.toNat m = v x.a.toNat := by
        cases f with
        | zero => exact Or.inl rfl
        | succ f => right; rw [rk, if_neg h0, if_pos (by omega)]
      rcases e1 with e1 | e1
      · subst e1
        show -(c * m) ≤ (0 : Int) + 0 ∧ (0 : Int) + 0 ≤ c * m
        omega
      · rw [e1]
        have a1 := hv x.a.toNat hab.1
        have a2 := rk_bound hls hc hv f x.b.toNat (m - ls.getD x.a.toNat 0) hab.2 (by omega)
        rw [Int.mul_sub] at a2
        omega
end
theorem wrap_add (a b : Int) : wrap64 (wrap64 a + b) = wrap64 (a + b) := by unfold wrap64; omega
theorem wrap_in {a : Int} (h0 : -9223372036854775808 ≤ a) (h1 : a ≤ 9223372036854775807) : wrap64 a = a := by unfold wrap64; omega
theorem fold_wrap (v : Nat → Int) : ∀ (l : List Nat) (s : Int), -9223372036854775808 ≤ s → s ≤ 9223372036854775807 → l.foldl (fun s k => wrap64 (s + v k)) s = wrap64 (s + sumL v l)
  | [], s, h0, h1 => by simp only [List.foldl_nil, sumL, Int.add_zero]; rw [wrap_in h0 h1]
  | k :: r, s, h0, h1 => by
    rw [List.foldl_cons, fold_wrap v r _ (by unfold wrap64; omega) (by unfold wrap64; omega), wrap_add, sumL, Int.add_assoc]
/-- the whole sum -/
def rkT (v : Nat → Int) (ls : List Int) (rs : List Fac) (m : Int) : Int := if rs.length = 0 then 0 else rk v ls rs rs.length (rs.length - 1) m
theorem pcsT_sum {v : Nat → Int} {ls : List Int} {rs : List Fac} (hls : gLens rs [] = some ls) {m : Int} (hm : 0 ≤ m) : sumL v (pcsT ls rs 0 m) = rkT v ls rs m := by
  unfold pcsT rkT
  by_cases h0 : rs.length = 0
  · rw [if_neg (by omega), if_pos h0]; rfl
  rw [if_neg h0]
  by_cases h1 : 0 < m
  · rw [if_pos (by omega), pcs_sum hls m rs.length _ 0 (by omega) (by omega), Int.sub_zero]
  · rw [if_neg (by omega), rk_zero (by omega)]; rfl
theorem fold_pcsT {v : Nat → Int} {ls : List Int} {rs : List Fac} (hls : gLens rs [] = some ls) {m : Int} (hm : 0 ≤ m) {c : Int} (hc : 0 ≤ c) (hv : ∀ k, k < rs.length → -(c * ls.getD k 0) ≤ v k ∧ v k ≤ c * ls.getD k 0) (hb : c * m ≤ 9000000000000000000) :
    (pcsT ls rs 0 m).foldl (fun s k => wrap64 (s + v k)) 0 = rkT v ls rs m := by
  have h : -(c * m) ≤ rkT v ls rs m ∧ rkT v ls rs m ≤ c * m := by
    have := Int.mul_nonneg hc hm
    unfold rkT
    by_cases h0 : rs.length = 0
    · rw [if_pos h0]; omega
    · rw [if_neg h0]; exact rk_bound hls hc hv _ _ _ (by omega) hm
  rw [fold_wrap v _ 0 (by omega) (by omega), pcsT_sum hls hm, Int.zero_add, wrap_in (by omega) (by omega)]
end Go.Proofs.Ytecnkmndmnefdaa


/-
  RankOf in the program.
-/
namespace Go.Proofs.Ytecnkmndmnefdaa
open Go.RowKit

def rkV (rs : List Fac) (l : Nat) (k : Nat) : Int := ((cnts rs).getD k Q4.nil).at_ l
theorem rkV_bound {rs : List Fac} {ls : List Int} (hls : gLens rs [] = some ls) (l : Nat) : ∀ k, k < rs.length → -(1 * ls.getD k 0) ≤ rkV rs l k ∧ rkV rs l k ≤ 1 * ls.getD k 0 := fun k hk => by
  have := (cnt_bound hls hk).at_ l
  have := lens_bound hls hk
  unfold rkV
  omega
def rankV (rs : List Fac) (s : ByteArray) (m : Int) : Value :=
  if (gOk rs).isSome = false then tup2 0 1 else if letT s = false then tup2 0 1 else if inB m 0 (lastI ((gLens rs []).getD [])) = false then tup2 0 2
  else tup2 (rkT (rkV rs (letN s)) ((gLens rs []).getD []) rs m) 0
theorem rankV_form (rs : List Fac) (s : ByteArray) (m : Int) : ∃ b k, rankV rs s m = .tuple #[.int .i64 b, .int .i64 k] := by
  unfold rankV
  split
  · exact ⟨_, _, rfl⟩
  split
  · exact ⟨_, _, rfl⟩
  split
  · exact ⟨_, _, rfl⟩
  · exact ⟨_, _, rfl⟩
theorem rankV1 {rs : List Fac} {s : ByteArray} {m : Int} (h : (gOk rs).isSome = false) : rankV rs s m = tup2 0 1 := by unfold rankV; rw [if_pos h]
theorem rankV2 {rs : List Fac} {s : ByteArray} {m : Int} (h : (gOk rs).isSome = true) (h2 : letT s = false) : rankV rs s m = tup2 0 1 := by unfold rankV; rw [if_neg (by rw [h]; decide), if_pos h2]
theorem rankV3 {rs : List Fac} {ls : List Int} {s : ByteArray} {m : Int} (hls : gLens rs [] = some ls) (h : (gOk rs).isSome = true) (h2 : letT s = true) (h3 : inB m 0 (lastI ls) = false) : rankV rs s m = tup2 0 2 := by
  unfold rankV; rw [if_neg (by rw [h]; decide), if_neg (by rw [h2]; decide), hls, if_pos (show inB m 0 (lastI ((some ls).getD [])) = false from h3)]
theorem rankV4 {rs : List Fac} {ls : List Int} {s : ByteArray} {m : Int} (hls : gLens rs [] = some ls) (h : (gOk rs).isSome = true) (h2 : letT s = true) (h3 : inB m 0 (lastI ls) = true) : rankV rs s m = tup2 (rkT (rkV rs (letN s)) ls rs m) 0 := by
  have : ¬ inB m 0 (lastI (Option.getD (some ls) [])) = false := by show ¬ inB m 0 (lastI ls) = false; rw [h3]; decide
  unfold rankV; rw [if_neg (by rw [h]; decide), if_neg (by rw [h2]; decide), hls, if_neg this]; rfl
theorem lastI_bound {rs : List Fac} {ls : List Int} (hls : gLens rs [] = some ls) (hl : ls.length = rs.length) : 0 ≤ lastI ls ∧ lastI ls ≤ 1000000000000000 := by
  unfold lastI
  by_cases h0 : rs.length = 0
  · rw [List.eq_nil_of_length_eq_zero (hl.trans h0)]; show (0 : Int) ≤ 0 ∧ (0 : Int) ≤ 1000000000000000; omega
  · have := lens_bound hls (i := ls.length - 1) (by omega)
    omega
set_option maxHeartbeats 1000000 in
set_option maxRecDepth 100000 in
theorem rank1_any (k : Nat) (o : Int) (ob cb lb : Nat) (A2 A3 A : Option Addr) (c n3 c2 c3 n : Nat) (l : Nat) (cs : List Q4) (w : World) (hob : Blk w ob 2 #[.int .i64 o]) (hcb : Blk w cb 59 #[.slice A n c, .slice A2 n c2, .slice A3 n3 c3]) (hlb : Blk w lb 5 #[.int .u8 (l : Int)])
    (hl : l < 4) (hC : Rd w w.heap.size A3 n3 4 encQ4 cs) (hk : k < n3) :
    Calls Try.prog 85 #[.int .i64 (k : Int), .pointer (some ⟨ob, 0, none⟩), .pointer (some ⟨cb, 0, none⟩), .pointer (some ⟨lb, 0, none⟩)] w (fun e w' => e = .returned (.tuple #[]) ∧ w.grownBy w' (some ob) ∧ Blk w' ob 2 #[.int .i64 (wrap64 (o + (cs.getD k Q4.nil).at_ l))]) := by
  obtain ⟨p3, o3, rfl, hB3, e3⟩ := hC.q4 (k := k) (by omega) hl
  have d0 := hob.cell 0
  have z0 := hob.lt
  have f0 := hob.frozen 0
  obtain ⟨d1, d2, d3⟩ := hcb.three
  have z1 := hcb.lt
  have d4 := hlb.cell 0
  have z2 := hlb.lt
  generalize (cs.getD k Q4.nil).at_ l = v at *
  have i0 : (0 : Int) ≤ (l : Int) := by omega
  have i1 : (l : Int) < 4 := by omega
  have i2 : (0 : Int) ≤ (k : Int) := by omega
  have i3 : (k : Int) < n3 := by omega
  have HB := Lib.hid hob
  clear hob hcb hlb hC
  go_enter Try.func85, Try.ntmps85
  go_wp2_with fail
  go_region
  generalize hW : (w.setCell ⟨ob, 0, none⟩ (.int .i64 (wrap64 (o + v)))).drew = w8
  have H8 := Lib.hid hW.symm; clear hW
  go_wp2_with fail
  go_end0
  refine ⟨rfl, ?_, ?_⟩
  · rw [H8.out]; exact gb_trans (gb_set w ob 0 _) (gb_below (Below.refl _ _).drew)
  · rw [H8.out]; exact HB.out.set_ 0 _
set_option maxHeartbeats 1000000 in
set_option maxRecDepth 100000 in
theorem rank_any (A : Option Addr) (n c : Nat) (rs : List Fac) (A2 : Option Addr) (c2 : Nat) (A3 : Option Addr) (N c3 : Nat) (ls : List Int) (l : Nat) (m : Int) (w : World) (hn : n ≤ 1048576) (hr : Rd w w.heap.size A n 3 Fac.cells rs)
    (hls : gLens rs [] = some ls) (h2 : Rd w w.heap.size A2 n 1 intE ls) (hN : (foldAll Q4.nil cntF cntG Q4.nil rs).length = N) (h3 : Rd w w.heap.size A3 N 4 encQ4 (foldAll Q4.nil cntF cntG Q4.nil rs)) (hl4 : l < 4) (hm0 : 0 ≤ m) (hm1 : m ≤ 1000000000000000) :
    Calls Try.prog 39 #[.agg #[.slice A n c, .slice A2 n c2, .slice A3 N c3], .int .u8 (l : Int), .int .i64 m] w (Ret (.int .i64 (rkT (rkV rs l) ls rs m)) w) := by
  have hl := Lib.hid hr.len
  have HR := Lib.hid hr; clear hr
  have HL := Lib.hid hls; clear hls
  have HN := Lib.hid hN; clear hN
  have r2 := Lib.hid h2; clear h2
  have r3 := Lib.hid h3; clear h3
  have hfw := Lib.hid (fold_pcsT HL.out hm0 (by omega) (rkV_bound HL.out l) (by omega))
  go_enter Try.func39, Try.ntmps39
  go_wp2_with fail
  refine namedC fun w0 H0 => ?_
  have hb0 : Below w.heap.size w w0 := by rw [H0.out]; (repeat first | exact Below.refl _ _ | assumption | refine Below.drew ?_ | refine Below.alloc ?_ (by first | exact Nat.le_refl _ | (simp; done) | omega | (simp; omega)) _ | refine Below.setCell ?_ (by first | exact Nat.le_refl _ | (simp; done) | omega | (simp; omega)) _)
  have BC := Lib.hid (show Blk w0 w.heap.size 59 #[.slice A n c, .slice A2 n c2, .slice A3 N c3] by rw [H0.out]; exact ((Blk.new w _ _).alloc _).alloc _)
  have BL := Lib.hid (show Blk w0 (w.heap.size + 1) 5 #[.int .u8 (l : Int)] by rw [H0.out]; simpa using (Blk.new (w.alloc _) _ _).alloc _)
  have BO := Lib.hid (show Blk w0 (w.heap.size + 1 + 1) 2 #[.int .i64 0] by rw [H0.out]; simpa using Blk.new ((w.alloc _).alloc _) _ _)
  clear H0
  have hp := pieces_any (fun (s : Int) (w' : World) => Blk w' (w.heap.size + 1 + 1) 2 #[.int .i64 s] ∧ Blk w' w.heap.size 59 #[.slice A n c, .slice A2 n c2, .slice A3 N c3] ∧ Blk w' (w.heap.size + 1) 5 #[.int .u8 (l : Int)] ∧ Rd w' w.heap.size A3 N 4 encQ4 (foldAll Q4.nil cntF cntG Q4.nil rs))
    (fun s k => wrap64 (s + rkV rs l k)) (fun s wa wb h hb => ⟨h.1.next hb, h.2.1.next hb, h.2.2.1.next hb, h.2.2.2.next' (by have := h.2.1.lt; omega) hb⟩)
    w.heap.size (w.heap.size + 1 + 1) w0.heap.size (by omega) BO.out.lt A n c rs A2 c2 ls 0 m 85 (enterOk Try.func85 (by kernel_rfl) (by kernel_rfl)) #[.pointer (some ⟨w.heap.size + 1 + 1, 0, none⟩), .pointer (some ⟨w.heap.size, 0, none⟩), .pointer (some ⟨w.heap.size + 1, 0, none⟩)] hn HL.out
    (fun s k wa hk h => by
      have hfa := foldAll_pos Q4.nil cntF cntG Q4.nil (rs := rs) (by have := hl.out; omega)
      have hNn : N = n := by rw [← HN.out, hfa, full_len]; exact hl.out
      have hr3 := h.2.2.2.more (B' := wa.heap.size) (by have := h.2.1.lt; omega)
      rw [hfa] at hr3
      have hc := rank1_any k s (w.heap.size + 1 + 1) w.heap.size (w.heap.size + 1) A2 A3 A c N c2 c3 n l (cnts rs) wa h.1 h.2.1 h.2.2.1 hl4 hr3 (by omega)
      refine (by simpa using hc : Calls _ _ _ _ _).mono ?_
      rintro e w' ⟨rfl, hg, hB⟩
      refine ⟨rfl, hg, hB, h.2.1.grown hg (by intro e; injection e with e; omega), h.2.2.1.grown hg (by intro e; injection e with e; omega), h.2.2.2.grown (by have := h.2.1.lt; omega) hg (fun k hk => by injection hk with hk; omega)⟩)
    0 w0 rfl (HR.out.below hb0) (r2.out.below hb0) ⟨BO.out, BC.out, BL.out, r3.out.below hb0⟩
  refine hp.mono ?_
  rintro e w1 ⟨rfl, hg1, hB1, hB2, hB3, hB4⟩
  rw [hfw.out] at hB1
  generalize rkT (rkV rs l) ls rs m = y at *
  have d0 := hB1.cell 0
  have z0 := hB1.lt
  have G1 := Lib.hid hg1
  clear hg1 hB1 hB2 hB3 hB4 hp
  go_wp2_with fail
  go_ret
  exact ⟨rfl, hb0.grown G1.out hb0.size (fun k hk => by injection hk with hk; omega)⟩
set_option maxHeartbeats 2000000 in
set_option maxRecDepth 100000 in
theorem implRank_any (A : Option Addr) (n c : Nat) (rs : List Fac) (s : ByteArray) (m : Int) (w : World) (hn : n ≤ 1048576) (hr : Rd w w.heap.size A n 3 Fac.cells rs) (hok : ∀ f ∈ rs, f.l.size ≤ maxLen) (hs : s.size ≤ maxLen) (hm : -9223372036854775808 ≤ m ∧ m ≤ 9223372036854775807) :
    Calls Try.prog 10 #[.agg #[.slice A n c], .string s, .int .i64 m] w (Ret (rankV rs s m) w) := by
  have hl := Lib.hid hr.len
  have HR := Lib.hid hr; clear hr
  have HO := Lib.hid hok; clear hok
  obtain ⟨m0, m1⟩ := hm
  go_enter Try.func10, Try.ntmps10
  go_wp2_with fail
  refine namedC fun w0 H0 => ?_
  have hb0 : Below w.heap.size w w0 := by rw [H0.out]; (repeat first | exact Below.refl _ _ | assumption | refine Below.drew ?_ | refine Below.alloc ?_ (by first | exact Nat.le_refl _ | (simp; done) | omega | (simp; omega)) _ | refine Below.setCell ?_ (by first | exact Nat.le_refl _ | (simp; done) | omega | (simp; omega)) _)
  clear H0
  refine (census_any A n c rs w0 hn (HR.out.next hb0) HO.out).mono ?_
  rintro e w1 ⟨hb1, ⟨ls, A2, c2, A3, c3, hg, rfl, own2, own3⟩ | ⟨hg, rfl⟩⟩
  case inr =>
    have e := Lib.hid (rankV1 (s := s) (m := m) (show (gOk rs).isSome = false by rw [hg]; rfl))
    clear hg
    go_wp2_with fail
    go_ret2
    exact ⟨by rw [e.out]; rfl, (hb0.trans (hb1.mono hb0.size)).alloc (by have := hb0.size; have := hb1.size; omega) _⟩
  have HG := Lib.hid (show (gOk rs).isSome = true by rw [hg]; rfl)
  have HL := Lib.hid (gOk_lens hg).1
  have hll := Lib.hid ((gOk_lens hg).2.2.trans hl.out)
  have hlb := lastI_bound (gOk_lens hg).1 (gOk_lens hg).2.2
  have hn4 : n ≤ 400 := by have := (gOk_lens hg).2.1; have := hl.out; omega
  clear hg
  have b1 := hb0.trans (hb1.mono hb0.size)
  have r2 := Lib.hid (Rd.of_own (enc := intE) (fun _ _ => rfl) hll.out own2)
  have r3 := Lib.hid (Rd.of_own (fun y _ => lenQ4 y) rfl own3)
  clear own2 own3
  generalize hN : (foldAll Q4.nil cntF cntG Q4.nil rs).length = N at *
  have HN := Lib.hid hN; clear hN
  go_wp2_with fail
  refine namedC fun w2 H2 => ?_
  have hb2 : Below w1.heap.size w1 w2 := by rw [H2.out]; (repeat first | exact Below.refl _ _ | assumption | refine Below.drew ?_ | refine Below.alloc ?_ (by first | exact Nat.le_refl _ | (simp; done) | omega | (simp; omega)) _ | refine Below.setCell ?_ (by first | exact Nat.le_refl _ | (simp; done) | omega | (simp; omega)) _)
  have BC := Lib.hid (show Blk w2 w1.heap.size 59 #[.slice A n c, .slice A2 n c2, .slice A3 N c3] by rw [H2.out]; exact Blk.new _ _ _)
  clear H2
  have b2 := b1.trans (hb2.mono b1.size)
  rcases h2 : letT s with _ | _
  · have e := Lib.hid (rankV2 (m := m) HG.out h2)
    have H2 := Lib.hid h2; clear h2
    refine (isLetterText_any s false _ hs H2.out).mono ?_
    rintro e1 w3 ⟨rfl, hb3⟩
    go_wp2_with fail
    go_ret2
    exact ⟨by rw [e.out]; rfl, b2.trans (hb3.mono b2.size)⟩
  have H2 := Lib.hid h2
  obtain ⟨cc, hcc, rfl⟩ := letT_one h2
  obtain ⟨k0, k1⟩ := letB_num hcc
  clear h2 hcc
  refine (isLetterText_any ⟨#[cc]⟩ true _ hs H2.out).mono ?_
  rintro e1 w3 ⟨rfl, hb3⟩
  have b3 := b2.trans (hb3.mono b2.size)
  have hb13 := hb2.trans (hb3.mono hb2.size)
  have BC3 := BC.out.next hb3
  obtain ⟨d0, d1, d2⟩ := BC3.three
  have l3 := BC3.lt
  clear BC3
  go_wp2_with fail
  refine (last_any A2 n c2 ls w3 (by omega) (r2.out.next hb13)).mono ?_
  rintro e1 w4 ⟨rfl, hb4⟩
  have b4 := b3.trans (hb4.mono b3.size)
  have hb14 := hb13.trans (hb4.mono hb13.size)
  have BC4 := Lib.hid (BC.out.next (hb3.trans (hb4.mono hb3.size)))
  clear d0 d1 d2 l3
  rcases h3 : inB m 0 (lastI ls) with _ | _
  · have e := Lib.hid (rankV3 HL.out HG.out H2.out h3)
    have H3 := Lib.hid h3; clear h3
    go_wp2_with fail
    refine (within_any m 0 (lastI ls) false _ H3.out).mono ?_
    rintro e1 w5 ⟨rfl, hb5⟩
    go_wp2_with fail
    go_ret2
    exact ⟨by rw [e.out]; rfl, b4.trans (hb5.mono b4.size)⟩
  have e := Lib.hid (rankV4 HL.out HG.out H2.out h3)
  have hm : 0 ≤ m ∧ m ≤ lastI ls := by simpa [inB] using h3
  obtain ⟨n1, n2⟩ := hm
  have H3 := Lib.hid h3; clear h3
  go_wp2_with fail
  refine (within_any m 0 (lastI ls) true _ H3.out).mono ?_
  rintro e1 w5 ⟨rfl, hb5⟩
  have b5 := b4.trans (hb5.mono b4.size)
  have hb15 := hb14.trans (hb5.mono hb14.size)
  have BC5 := BC4.out.next hb5
  obtain ⟨d0, d1, d2⟩ := BC5.three
  have l5 := BC5.lt
  have z1 : (0 : Nat) < (⟨#[cc]⟩ : ByteArray).size := show 0 < 1 by omega
  have v1 : IntKind.u8.wrap ((((⟨#[cc]⟩ : ByteArray)[0]'z1).toNat : Int) - 97) = ((cc.toNat - 97 : Nat) : Int) := by show ((cc.toNat : Int) - 97) % 256 = _; omega
  have hl4 : cc.toNat - 97 < 4 := by omega
  have eN := Lib.hid (show letN ⟨#[cc]⟩ = cc.toNat - 97 from rfl)
  have hrk := Lib.hid (rank_any A n c rs A2 c2 A3 N c3 ls (cc.toNat - 97) m w5.drew hn (HR.out.next (b5.trans ((Below.refl _ _).drew.mono b5.size))) HL.out ((r2.out.next hb15).next (Below.refl _ _).drew) HN.out ((r3.out.next hb15).next (Below.refl _ _).drew) hl4 n1 (by omega))
  rw [eN.out] at e
  generalize rkT (rkV rs (cc.toNat - 97)) ls rs m = y at *
  clear BC5
  go_wp2_with fail
  go_region_with
    (go_at_call 39
     refine hrk.out.mono ?_
     rintro e4 w6 ⟨rfl, hb6⟩
     have b6 : Below w.heap.size w w6 := b5.trans (((Below.refl _ _).drew.trans hb6).mono b5.size))
  all_goals
    go_wp2_with fail
    go_ret2
    exact ⟨by rw [e.out]; rfl, b6⟩
end Go.Proofs.Ytecnkmndmnefdaa


/-
  RankOf in the reference.
-/
namespace Go.Proofs.Ytecnkmndmnefdaa
open Go.RowKit

set_option maxHeartbeats 2000000 in
set_option maxRecDepth 100000 in
theorem l05Rank_any (gb : Nat) (A : Option Addr) (n c : Nat) (rs : List Fac) (A2 : Option Addr) (c2 : Nat) (A3 : Option Addr) (c3 : Nat) (ls : List Int) (l : Nat) (m0 : Int) (w : World) (hg : gb < w.heap.size) (hc : w.cell? ⟨gb, 0, none⟩ = some (.slice A n c)) (hn : n ≤ 1048576) (hr : Rd w w.heap.size A n 3 Fac.cells rs)
    (hls : gLens rs [] = some ls) (hll : ls.length = rs.length) (h2 : Rd w w.heap.size A2 n 1 intE ls) (hT : Tab w w.heap.size A3 n (cnts rs)) (hl4 : l < 4) (hm0 : 0 ≤ m0) (hm1 : m0 ≤ lastI ls) :
    Calls Try.prog 47 #[.pointer (some ⟨gb, 0, none⟩), .slice A2 n c2, .slice A3 n c3, .int .i64 (l : Int), .int .i64 m0] w (Ret (.int .i64 (rkT (rkV rs l) ls rs m0)) w) := by
  have hl := Lib.hid hr.len
  have R2 := Lib.hid hr; clear hr
  have HL := Lib.hid hls; clear hls
  have Hll := Lib.hid hll; clear hll
  have r22 := Lib.hid h2; clear h2
  have T2 := Lib.hid hT; clear hT
  have HW := Lib.hid (wf_of HL.out)
  have HV := Lib.hid (rkV_bound HL.out l)
  by_cases h0 : m0 ≤ 0
  · have e := Lib.hid (show rkT (rkV rs l) ls rs m0 = 0 by unfold rkT; split; rfl; exact rk_zero h0)
    obtain rfl : m0 = 0 := by omega
    rw [e.out]
    go_enter Try.func47, Try.ntmps47
    go_wp2_with fail
    go_loopw [4, 11] (fun m_ s_ w' => m_ = .int .i64 0 ∧ s_ = .int .i64 0 ∧ w' = w) (fun _ _ _ => 0)
    case atStart => exact ⟨rfl, rfl, rfl⟩
    case round =>
      obtain ⟨rfl, rfl, rfl⟩ := hrel
      go_wp2_with fail
      go_ret
      exact ⟨rfl, Below.refl _ _⟩
  have hpos : 0 < rs.length := by
    rcases Nat.eq_zero_or_pos rs.length with h | h
    · exfalso
      unfold lastI at hm1
      rw [List.eq_nil_of_length_eq_zero (Hll.out.trans h)] at hm1
      have : m0 ≤ 0 := hm1
      omega
    · exact h
  have hm2 : m0 ≤ ls.getD (n - 1) 0 := by
    unfold lastI at hm1
    rw [Hll.out, hl.out] at hm1
    exact hm1
  have e := Lib.hid (show rkT (rkV rs l) ls rs m0 = rk (rkV rs l) ls rs n (n - 1) m0 by unfold rkT; rw [if_neg (by omega), hl.out])
  rw [e.out]
  rw [hl.out] at hpos
  clear e hm1
  go_enter Try.func47, Try.ntmps47
  go_wp2_with fail
  go_loopw [4, 11, 12] (fun m_ s_ r_ w' => ∃ (r f : Nat) (m s : Int), r_ = .int .i64 r ∧ s_ = .int .i64 s ∧ m_ = .int .i64 m ∧ r < n ∧ r < f ∧ Below w.heap.size w w' ∧
      (0 ≤ m ∧ m ≤ ls.getD r 0 ∧ 0 ≤ s ∧ s + m ≤ 1000000000000000) ∧ Hid (rk (rkV rs l) ls rs n (n - 1) m0 = s + rk (rkV rs l) ls rs f r m)) (fun _ _ r_ _ => (intOf r_).toNat)
  case atStart =>
    have := lens_bound HL.out (i := n - 1) (by rw [hl.out]; omega)
    exact ⟨n - 1, n, m0, 0, by go_num, rfl, rfl, by omega, by omega, Below.refl _ _, by omega, Lib.hid (by omega)⟩
  case round =>
    obtain ⟨r, f, m, s, rfl, rfl, rfl, hrn, hrf, hb, ⟨g1, g2, g3, g4⟩, H⟩ := hrel
    by_cases hm : m ≤ 0
    · have H' := Lib.hid (show rk (rkV rs l) ls rs n (n - 1) m0 = s by rw [H.out, rk_zero hm]; omega)
      clear H
      go_wp2_with fail
      go_ret
      exact ⟨ret_int H'.out.symm, hb⟩
    obtain ⟨b, o, x, rfl, hB, gx, c0, c1, c2⟩ := (R2.out.next hb).fac hrn
    have cg := (hb.cell (p := ⟨gb, 0, none⟩) hg).trans hc
    have lg : gb < wr.heap.size := by have := hb.size; omega
    obtain ⟨p2, o2, rfl, hB2, l0⟩ := (r22.out.next hb).i64 (k := r) hrn
    obtain ⟨p1, o1, gr, rfl, hB1, hgr, d1, d2⟩ := (T2.out.next hb).2 r hrn
    have d3 := d2 l hl4
    have hvr := HV.out r (by rw [hl.out]; exact hrn)
    have hcr := cnt_at HL.out (k := r) (by rw [hl.out]; exact hrn) l
    have hlr := lens_bound HL.out (i := r) (by rw [hl.out]; exact hrn)
    have i0 : (0 : Int) ≤ (l : Int) := by omega
    have i1 : (l : Int) < 4 := by omega
    have i2 : (0 : Int) ≤ (r : Int) := by omega
    have i3 : (r : Int) < (n : Int) := by omega
    have ev : rkV rs l r = ((cnts rs).getD r Q4.nil).at_ l := rfl
    clear d2
    by_cases hmr : m = ls.getD r 0
    · have H' := Lib.hid (show rk (rkV rs l) ls rs n (n - 1) m0 = s + ((cnts rs).getD r Q4.nil).at_ l by rw [H.out, rk_full hrf (by omega) (by omega)]; rfl)
      rw [ev] at hvr
      generalize ((cnts rs).getD r Q4.nil).at_ l = v at *
      have u1 : IntKind.i64.wrap (s + v) = s + v := IntWalk.i64_in _ (by omega)
      have hbe : (m == ls.getD r 0) = true := by simpa using hmr
      generalize ls.getD r 0 = lr at *
      clear H
      go_wp2_with fail
      go_ret
      exact ⟨ret_int H'.out.symm, hb⟩
    have hbe : (m == ls.getD r 0) = false := by simpa using hmr
    rcases HW.out r x gx with ⟨h0', ha0, ha1, hb0', hb1'⟩ | ⟨cc, hcc, hxl, hxa, hxb⟩
    case inr =>
      exfalso
      have := lens_let HL.out gx (show x.l.size ≠ 0 by rw [hxl]; show (1 : Nat) ≠ 0; omega)
      omega
    have H1 := rk_go (v := rkV rs l) hrf (show 0 < m by omega) (show m < ls.getD r 0 by omega) gx
    have lp := lens_pair HL.out gx h0'
    have lb1 := lens_bound HL.out (i := x.a.toNat) (by rw [hl.out]; omega)
    have lb2 := lens_bound HL.out (i := x.b.toNat) (by rw [hl.out]; omega)
    obtain ⟨p3, o3, hA3, hB3, l1⟩ := (r22.out.next hb).i64 (k := x.a.toNat) (by omega)
    obtain ⟨rfl, rfl⟩ : p2 = p3 ∧ o2 = o3 := by injection hA3 with hA3; injection hA3 with h1 h2; exact ⟨h1, h2⟩
    obtain ⟨p4, o4, ga, hA4, hB4, hga, d4, d5⟩ := (T2.out.next hb).2 x.a.toNat (by omega)
    obtain ⟨rfl, rfl⟩ : p1 = p4 ∧ o1 = o4 := by injection hA4 with hA4; injection hA4 with h1 h2; exact ⟨h1, h2⟩
    have d6 := d5 l hl4
    have hva := HV.out x.a.toNat (by rw [hl.out]; omega)
    have hca := cnt_at HL.out (k := x.a.toNat) (by rw [hl.out]; omega) l
    have eva : rkV rs l x.a.toNat = ((cnts rs).getD x.a.toNat Q4.nil).at_ l := rfl
    rw [eva] at hva
    clear hA3 hA4 d5 ev hvr hcr hmr
    by_cases q4 : ls.getD x.a.toNat 0 ≤ m
    · have H2 := Lib.hid (show rk (rkV rs l) ls rs n (n - 1) m0 = s + ((cnts rs).getD x.a.toNat Q4.nil).at_ l + rk (rkV rs l) ls rs (f - 1) x.b.toNat (m - ls.getD x.a.toNat 0) by
        rw [H.out, H1, rk_full (r := x.a.toNat) (by omega) (by omega) q4, eva]; omega)
      generalize ((cnts rs).getD x.a.toNat Q4.nil).at_ l = v at *
      generalize hya : ls.getD x.a.toNat 0 = ya at *
      generalize hyr : ls.getD r 0 = lr at *
      have u1 : IntKind.i64.wrap (s + v) = s + v := IntWalk.i64_in _ (by omega)
      have u2 : IntKind.i64.wrap (m - ya) = m - ya := IntWalk.i64_in _ (by clear u1; omega)
      have LP := Lib.hid lp
      clear H H1 gx lp
      go_wp2_with fail
      clear u1 u2
      have lp := LP.out
      go_roundw
      case rel => exact ⟨x.b.toNat, f - 1, m - ya, s + v, by go_num, rfl, rfl, by omega, by omega, hb.alloc hb.size _, ⟨by omega, by omega, by omega, by omega⟩, H2⟩
      case measure => simp [intOf]; omega
    · have H2 := Lib.hid (show rk (rkV rs l) ls rs n (n - 1) m0 = s + rk (rkV rs l) ls rs (f - 1) x.a.toNat m by
        rw [H.out, H1, rk_zero (r := x.b.toNat) (show m - ls.getD x.a.toNat 0 ≤ 0 by omega)]; omega)
      generalize hya : ls.getD x.a.toNat 0 = ya at *
      generalize hyr : ls.getD r 0 = lr at *
      have LP := Lib.hid lp
      clear H H1 gx lp
      go_wp2_with fail
      have lp := LP.out
      go_roundw
      case rel => exact ⟨x.a.toNat, f - 1, m, s, by go_num, rfl, rfl, by omega, by omega, hb.alloc hb.size _, ⟨by omega, by omega, by omega, by omega⟩, H2⟩
      case measure => simp [intOf]; omega
set_option maxHeartbeats 2000000 in
set_option maxRecDepth 100000 in
theorem specRank_any (A : Option Addr) (n c : Nat) (rs : List Fac) (s : ByteArray) (m : Int) (w : World) (hn : n ≤ 1048576) (hr : Rd w w.heap.size A n 3 Fac.cells rs) (hok : ∀ f ∈ rs, f.l.size ≤ maxLen) (hs : s.size ≤ maxLen) (hm : -9223372036854775808 ≤ m ∧ m ≤ 9223372036854775807) :
    Calls Try.prog 13 #[.agg #[.slice A n c], .string s, .int .i64 m] w (Ret (rankV rs s m) w) := by
  have hb0 : Below w.heap.size w (w.alloc (.cells #[.slice A n c] 26)) := by (repeat first | exact Below.refl _ _ | assumption | refine Below.drew ?_ | refine Below.alloc ?_ (by first | exact Nat.le_refl _ | (simp; done) | omega | (simp; omega)) _ | refine Below.setCell ?_ (by first | exact Nat.le_refl _ | (simp; done) | omega | (simp; omega)) _)
  have hB0 := Lib.hid (Blk.new w 26 #[.slice A n c])
  have hl := Lib.hid hr.len
  have HR := Lib.hid hr; clear hr
  have HO := Lib.hid hok; clear hok
  obtain ⟨m0, m1⟩ := hm
  rcases hg : (gOk rs).isSome with _ | _
  · have e := Lib.hid (rankV1 (s := s) (m := m) hg)
    have Hg := Lib.hid hg; clear hg
    go_enter Try.func13, Try.ntmps13
    go_wp2_with fail
    refine (l02Ok_any w.heap.size A n c rs _ hB0.out.lt (hB0.out.cell 0) (by omega) (HR.out.next hb0) HO.out false Hg.out).mono ?_
    rintro e1 w1 ⟨rfl, hb1⟩
    go_wp2_with fail
    go_ret2
    exact ⟨by rw [e.out]; rfl, hb0.trans (hb1.mono hb0.size)⟩
  have HG := Lib.hid hg
  obtain ⟨ls, hls⟩ := Option.isSome_iff_exists.1 hg
  have Hk := Lib.hid hls
  have HL := Lib.hid (gOk_lens hls).1
  have hll0 := Lib.hid (gOk_lens hls).2.2
  have hll := Lib.hid ((gOk_lens hls).2.2.trans hl.out)
  have hn4 : n ≤ 400 := by have := (gOk_lens hls).2.1; have := hl.out; omega
  clear hg hls
  rcases h2 : letT s with _ | _
  · have e := Lib.hid (rankV2 (m := m) HG.out h2)
    have H2 := Lib.hid h2; clear h2
    go_enter Try.func13, Try.ntmps13
    go_wp2_with fail
    refine (l02Ok_any w.heap.size A n c rs _ hB0.out.lt (hB0.out.cell 0) (by omega) (HR.out.next hb0) HO.out true HG.out).mono ?_
    rintro e1 w1 ⟨rfl, hb1⟩
    go_wp2_with fail
    refine (specLetter_any s false _ hs H2.out).mono ?_
    rintro e1 w2 ⟨rfl, hb2⟩
    go_wp2_with fail
    go_ret2
    exact ⟨by rw [e.out]; rfl, hb0.trans ((hb1.trans (hb2.mono hb1.size)).mono hb0.size)⟩
  have H2 := Lib.hid h2
  obtain ⟨cc, hcc, rfl⟩ := letT_one h2
  have Hcc := Lib.hid hcc
  obtain ⟨k0, k1⟩ := letB_num hcc
  have hl4 : cc.toNat - 97 < 4 := by omega
  have eN := Lib.hid (show letN ⟨#[cc]⟩ = cc.toNat - 97 from rfl)
  have eC := Lib.hid (show (cc.toNat : Int) - 97 = ((cc.toNat - 97 : Nat) : Int) by omega)
  clear h2 hcc
  go_enter Try.func13, Try.ntmps13
  go_wp2_with fail
  refine (l02Ok_any w.heap.size A n c rs _ hB0.out.lt (hB0.out.cell 0) (by omega) (HR.out.next hb0) HO.out true HG.out).mono ?_
  rintro e1 w1 ⟨rfl, hb1⟩
  go_wp2_with fail
  refine (specLetter_any ⟨#[cc]⟩ true _ hs H2.out).mono ?_
  rintro e1 w3 ⟨rfl, hb3⟩
  have b3 := hb0.trans ((hb1.trans (hb3.mono hb1.size)).mono hb0.size)
  have B3 := Lib.hid ((hB0.out.next hb1).next hb3)
  go_wp2_with fail
  refine (l02Length_any w.heap.size A n c rs w3 B3.out.lt (B3.out.cell 0) (by omega) (HR.out.next b3) HO.out ls HL.out).mono ?_
  rintro e1 w4 ⟨rfl, hb4⟩
  have b4 := b3.trans (hb4.mono b3.size)
  have B4 := Lib.hid (B3.out.next hb4)
  rcases h3 : inB m 0 (lastI ls) with _ | _
  · have e := Lib.hid (rankV3 HL.out HG.out H2.out h3)
    have H3 := Lib.hid h3; clear h3
    go_wp2_with fail
    refine (specIn_any m 0 (lastI ls) false _ H3.out).mono ?_
    rintro e1 w5 ⟨rfl, hb5⟩
    go_wp2_with fail
    go_ret2
    exact ⟨by rw [e.out]; rfl, b4.trans (hb5.mono b4.size)⟩
  have e := Lib.hid (rankV4 HL.out HG.out H2.out h3)
  have hm : 0 ≤ m ∧ m ≤ lastI ls := by simpa [inB] using h3
  obtain ⟨n1, n2⟩ := hm
  have H3 := Lib.hid h3; clear h3
  go_wp2_with fail
  refine (specIn_any m 0 (lastI ls) true _ H3.out).mono ?_
  rintro e1 w5 ⟨rfl, hb5⟩
  have b5 := b4.trans (hb5.mono b4.size)
  have B5 := Lib.hid (B4.out.next hb5)
  have cg5 := B5.out.cell 0
  have lg5 := B5.out.lt
  go_wp2_with fail
  refine (l02Lengths_any w.heap.size A n c rs w5 lg5 cg5 (by omega) (HR.out.next b5) HO.out).mono ?_
  rintro e1 w8 ⟨hb8, ⟨ls', A2, c2, hg2, rfl, hown2⟩ | ⟨hg2, _⟩⟩
  case inr => exact absurd (hg2.symm.trans Hk.out) (by simp)
  obtain rfl : ls' = ls := Option.some.inj (hg2.symm.trans Hk.out)
  have r8 := Lib.hid (Rd.of_own (enc := intE) (fun _ _ => rfl) rfl hown2)
  rw [hll.out] at r8 ⊢
  have b8 := b5.trans (hb8.mono b5.size)
  have B8 := Lib.hid (B5.out.next hb8)
  have R8 := Lib.hid (HR.out.next b8)
  have hcl := Lib.hid ((full_len Q4.nil cntF cntG (rs := rs)).trans hl.out)
  clear cg5 lg5 hown2 hg2
  have hcnt := Lib.hid (fun (w' : World) (hb : Below w8.heap.size w8 w') => l05Counts_any w.heap.size A n c rs ls' w' (B8.out.next hb).lt ((B8.out.next hb).cell 0) hn (R8.out.next hb) HL.out)
  have hlet := Lib.hid (fun (w' : World) => l04Letter_any cc Hcc.out w')
  have hrnk := Lib.hid (fun (w' : World) (A5 : Option Addr) (c5 : Nat) (hb : Below w8.heap.size w8 w') (hT : Tab w' w'.heap.size A5 n (cnts rs)) =>
    l05Rank_any w.heap.size A n c rs A2 c2 A5 c5 ls' (cc.toNat - 97) m w' (B8.out.next hb).lt ((B8.out.next hb).cell 0) hn (R8.out.next hb) HL.out hll0.out (r8.out.next hb) hT hl4 n1 n2)
  rw [eC.out] at hlet
  rw [eN.out] at e
  generalize rkT (rkV rs (cc.toNat - 97)) ls' rs m = y at *
  have hd8 : Below w8.heap.size w8 w8.drew := (Below.refl _ _).drew
  go_wp2_with fail
  go_region_with
    (first
      | (go_at_call 48
         refine (hcnt.out _ (by first | exact bk | exact hd8)).mono ?_
         rintro e2 w9 ⟨A5, c5, gs, rfl, own5, rows5, hb9⟩
         rw [hcl.out] at own5 ⊢
         have T9 := Lib.hid (Tab.of hcl.out own5 rows5)
         have bk : Below w8.heap.size w8 w9 := by first | exact bk.trans (hb9.mono bk.size) | exact hd8.trans (hb9.mono hd8.size)
         clear own5 rows5 hb9)
      | (go_at_call 49
         refine (hlet.out _).mono ?_
         rintro e3 w10 ⟨rfl, hb10⟩
         try have T9 := Lib.hid (T9.out.next hb10)
         have bk : Below w8.heap.size w8 w10 := by first | exact bk.trans (hb10.mono bk.size) | exact hd8.trans (hb10.mono hd8.size)
         clear hb10)
      | (go_at_call 47
         refine (hrnk.out _ A5 c5 bk T9.out).mono ?_
         rintro e4 w11 ⟨rfl, hb11⟩
         have b11 : Below w.heap.size w w11 := b8.trans ((bk.trans (hb11.mono bk.size)).mono b8.size)))
  all_goals
    go_wp2_with fail
    go_ret2
    exact ⟨by rw [e.out]; rfl, b11⟩
end Go.Proofs.Ytecnkmndmnefdaa


/-
  The code of a grammar, a plain word and a modulus.
-/
namespace Go.Proofs.Ytecnkmndmnefdaa
open Go.RowKit

def modC (rs : List Fac) (p : ByteArray) (m : Int) : Int := if (gOk rs).isSome = false then 1 else if okW p = false then 1 else if inB m 1 1000000000 = false then 2 else 0
end Go.Proofs.Ytecnkmndmnefdaa


/-
  InversionCount in the program and in the reference.
-/
namespace Go.Proofs.Ytecnkmndmnefdaa
open Go.RowKit

def invP (p q : Q4) (m : Int) (k l : Nat) : Int := p.at_ k % m * (q.at_ l % m)
def invT (p q : Q4) (m : Int) (k : Nat) : Nat → Int
  | 0 => 0
  | l + 1 => invT p q m k l + (if l < k then invP p q m k l % m else 0)
def invS (p q : Q4) (m : Int) : Nat → Int
  | 0 => 0
  | k + 1 => invS p q m k + invT p q m k 4
def invG (cs : List Q4) (m : Int) (x y : Int) (r : Fac) : Int := (x + y + invS (cs.getD r.a.toNat Q4.nil) (cs.getD r.b.toNat Q4.nil) m 4) % m
theorem invT_b (p q : Q4) {m : Int} (h1 : 1 ≤ m) (h2 : m ≤ 1000000000) (k : Nat) : ∀ l : Nat, 0 ≤ invT p q m k l ∧ invT p q m k l ≤ 1000000000 * l
  | 0 => by simp [invT]
  | l + 1 => by
    have := invT_b p q h1 h2 k l
    have e := emod_b (a := invP p q m k l) (m := m) (by omega)
    unfold invT
    split <;> omega
theorem invS_b (p q : Q4) {m : Int} (h1 : 1 ≤ m) (h2 : m ≤ 1000000000) : ∀ k : Nat, 0 ≤ invS p q m k ∧ invS p q m k ≤ 4000000000 * k
  | 0 => by simp [invS]
  | k + 1 => by
    have := invS_b p q h1 h2 k
    have := invT_b p q h1 h2 k 4
    unfold invS
    omega
theorem invT_stop (p q : Q4) (m : Int) (k : Nat) : ∀ d : Nat, invT p q m k (k + d) = invT p q m k k
  | 0 => rfl
  | d + 1 => by
    rw [show k + (d + 1) = (k + d) + 1 by omega, invT, if_neg (by omega), invT_stop p q m k d]; omega
theorem invT_four (p q : Q4) (m : Int) {k : Nat} (h : k ≤ 4) : invT p q m k 4 = invT p q m k k := by
  rw [show 4 = k + (4 - k) by omega, invT_stop]
theorem inv_mod (a p m : Int) : (a % m + p) % m = (a + p % m) % m := by
  rw [Int.emod_add_emod, Int.add_emod_emod]
theorem inv_bound {rs : List Fac} {ls : List Int} (hls : gLens rs [] = some ls) {m : Int} (h1 : 1 ≤ m) (h2 : m ≤ 1000000000) {k : Nat} (hk : k < rs.length) :
    0 ≤ (full 0 plF (invG (cnts rs) m) rs).getD k 0 ∧ (full 0 plF (invG (cnts rs) m) rs).getD k 0 ≤ 1000000000 := by
  refine full_ind 0 plF (invG (cnts rs) m) (wf_of hls) (fun _ x => 0 ≤ x ∧ x ≤ 1000000000) (fun k r _ _ => ?_) (fun k r a b hr h0 ha0 ha1 hb0 hb1 ha hb => ?_) k hk
  · show (0 : Int) ≤ 0 ∧ (0 : Int) ≤ 1000000000
    omega
  · have q := emod_b (a := a + b + invS ((cnts rs).getD r.a.toNat Q4.nil) ((cnts rs).getD r.b.toNat Q4.nil) m 4) (m := m) (by omega)
    exact ⟨q.1, by show (a + b + _) % m ≤ _; omega⟩
def invV (rs : List Fac) (m : Int) : Value :=
  if (gOk rs).isSome = false then tup2 0 1 else if inB m 1 1000000000 = false then tup2 0 2 else tup2 (topI plF (invG (cnts rs) m) rs) 0
theorem invV_form (rs : List Fac) (m : Int) : ∃ b k, invV rs m = .tuple #[.int .i64 b, .int .i64 k] := by
  unfold invV
  split
  · exact ⟨_, _, rfl⟩
  split
  · exact ⟨_, _, rfl⟩
  · exact ⟨_, _, rfl⟩
theorem invV1 {rs : List Fac} {m : Int} (h : (gOk rs).isSome = false) : invV rs m = tup2 0 1 := by unfold invV; rw [if_pos h]
theorem invV3 {rs : List Fac} {m : Int} (h : (gOk rs).isSome = true) (h3 : inB m 1 1000000000 = false) : invV rs m = tup2 0 2 := by unfold invV; rw [if_neg (by rw [h]; decide), if_pos h3]
theorem invV4 {rs : List Fac} {m : Int} (h : (gOk rs).isSome = true) (h3 : inB m 1 1000000000 = true) : invV rs m = tup2 (topI plF (invG (cnts rs) m) rs) 0 := by
  unfold invV; rw [if_neg (by rw [h]; decide), if_neg (by rw [h3]; decide)]
theorem ix_i64 (q : Q4) {l : Nat} (h : l < 4) (w : World) : (Instr.index 87 (.agg #[.int .i64 q.a, .int .i64 q.b, .int .i64 q.c, .int .i64 q.d]) (.int .i64 (l : Int))).run Try.prog w = .ok (.int .i64 (q.at_ l)) w := by
  rcases (show l = 0 ∨ l = 1 ∨ l = 2 ∨ l = 3 by omega) with rfl | rfl | rfl | rfl
  all_goals kernel_rfl
theorem Rd.q4c {w : World} {B n : Nat} {A : Option Addr} {xs : List Q4} {k : Nat} (h : Rd w B A n 4 encQ4 xs) (hk : k < n) :
    ∃ b o x, A = some ⟨b, o, none⟩ ∧ b < B ∧ xs.getD k Q4.nil = x ∧ w.cell? ⟨b, o + k * 4, none⟩ = some (.int .i64 x.a) ∧ w.cell? ⟨b, o + k * 4 + 1, none⟩ = some (.int .i64 x.b) ∧
      w.cell? ⟨b, o + k * 4 + 2, none⟩ = some (.int .i64 x.c) ∧ w.cell? ⟨b, o + k * 4 + 3, none⟩ = some (.int .i64 x.d) := by
  obtain ⟨b, o, hA, hb, x, hx, hc⟩ := h.at_ hk
  exact ⟨b, o, x, hA, hb, by rw [List.getD_eq_getElem?_getD, hx]; rfl, hc 0 _ rfl, hc 1 _ rfl, hc 2 _ rfl, hc 3 _ rfl⟩
theorem inv1_any (l : Int) (w : World) : Calls Try.prog 59 #[.int .i64 l] w (Ret (.int .i64 0) w) := by
  go_enter Try.func59, Try.ntmps59
  go_wp2
  go_ret
  exact ⟨rfl, Below.refl _ _⟩
set_option maxHeartbeats 2000000 in
set_option maxRecDepth 100000 in
theorem inv2_any (x y : Int) (r : Fac) (cb mb : Nat) (A2 A3 A : Option Addr) (c n3 c2 c3 n : Nat) (m : Int) (cs : List Q4) (w : World) (hcb : cb < w.heap.size) (hmb : mb < w.heap.size)
    (d0 : w.cell? ⟨cb, 0, none⟩ = some (.slice A n c)) (_d1 : w.cell? ⟨cb, 1, none⟩ = some (.slice A2 n c2)) (d2 : w.cell? ⟨cb, 2, none⟩ = some (.slice A3 n3 c3)) (dm : w.cell? ⟨mb, 0, none⟩ = some (.int .i64 m))
    (h1 : 1 ≤ m) (h2 : m ≤ 1000000000) (hC : Rd w w.heap.size A3 n3 4 encQ4 cs) (hra0 : 0 ≤ r.a) (hra : r.a < n3) (hrb0 : 0 ≤ r.b) (hrb : r.b < n3)
    (hx : 0 ≤ x ∧ x ≤ 1000000000) (hy : 0 ≤ y ∧ y ≤ 1000000000) (hca : ∀ j, 0 ≤ (cs.getD r.a.toNat Q4.nil).at_ j ∧ (cs.getD r.a.toNat Q4.nil).at_ j ≤ 1000000000000000) (hcb' : ∀ j, 0 ≤ (cs.getD r.b.toNat Q4.nil).at_ j ∧ (cs.getD r.b.toNat Q4.nil).at_ j ≤ 1000000000000000) :
    Calls Try.prog 60 #[.int .i64 x, .int .i64 y, r.val, .pointer (some ⟨cb, 0, none⟩), .pointer (some ⟨mb, 0, none⟩)] w (Ret (.int .i64 (invG cs m x y r)) w) := by
  have e := Lib.hid (show invG cs m x y r = (x + y + invS (cs.getD r.a.toNat Q4.nil) (cs.getD r.b.toNat Q4.nil) m 4) % m from rfl)
  obtain ⟨p3, o3, qa, rfl, hB3, ea, a0, a1, a2, a3⟩ := hC.q4c (k := r.a.toNat) (by omega)
  obtain ⟨p4, o4, qb, hA4, hB4, eb, b0, b1, b2, b3⟩ := hC.q4c (k := r.b.toNat) (by omega)
  obtain ⟨rfl, rfl⟩ : p3 = p4 ∧ o3 = o4 := by injection hA4 with hA4; injection hA4 with h1 h2; exact ⟨h1, h2⟩
  rw [e.out]
  rw [ea] at hca ⊢
  rw [eb] at hcb' ⊢
  clear hC e ea eb hA4
  obtain ⟨x0, x1⟩ := hx
  obtain ⟨y0, y1⟩ := hy
  have Hca := Lib.hid hca
  have Hcb := Lib.hid hcb'
  clear hca hcb'
  unfold Fac.val
  go_enter Try.func60, Try.ntmps60
  go_wp2_with fail
  refine named fun w3 H3 => ?_
  have B3 : Blk w3 w.heap.size 69 #[.string r.l, .int .i64 r.a, .int .i64 r.b] := by rw [H3.out]; exact Blk.new _ _ _
  have hb3 : Below w.heap.size w w3 := by rw [H3.out]; (repeat first | exact Below.refl _ _ | assumption | refine Below.drew ?_ | refine Below.alloc ?_ (by first | exact Nat.le_refl _ | (simp; done) | omega | (simp; omega)) _ | refine Below.setCell ?_ (by first | exact Nat.le_refl _ | (simp; done) | omega | (simp; omega)) _)
  have B3' := Lib.hid B3; clear B3 H3
  go_loopw [9, 23] (fun o_ k_ w' => ∃ (k : Nat), k_ = .int .i64 k ∧ o_ = .int .i64 (x + y + invS qa qb m k) ∧ k ≤ 4 ∧ Below w3.heap.size w3 w') (fun _ k_ _ => 4 - (intOf k_).toNat)
  case atStart => exact ⟨0, rfl, by simp [invS], by omega, Below.refl _ _⟩
  case round =>
    obtain ⟨k, rfl, rfl, hk, hb⟩ := hrel
    rename World => wo
    have hbw := hb3.trans (hb.mono hb3.size)
    have s0 := invS_b qa qb h1 h2 k
    obtain ⟨s1, s2⟩ := s0
    by_cases hlt : k < 4
    · have f0 := (hbw.cell (p := ⟨cb, 0, none⟩) hcb).trans d0
      have f1 := (hbw.cell (p := ⟨cb, 2, none⟩) hcb).trans d2
      have f2 := (hbw.cell (p := ⟨p3, o3 + r.b.toNat * 4, none⟩) hB3).trans b0
      have f3 := (hbw.cell (p := ⟨p3, o3 + r.b.toNat * 4 + 1, none⟩) hB3).trans b1
      have f4 := (hbw.cell (p := ⟨p3, o3 + r.b.toNat * 4 + 2, none⟩) hB3).trans b2
      have f5 := (hbw.cell (p := ⟨p3, o3 + r.b.toNat * 4 + 3, none⟩) hB3).trans b3
      have BR := B3'.out.next hb
      obtain ⟨g0, g1, g2⟩ := BR.three
      have ix1 := ix_i64 qa hlt
      clear BR
      go_wp2_with fail
      clear ix1 f0 f1 f2 f3 f4 f5 g0 g1 g2
      go_loopw [9, 33] (fun o_ l_ w' => ∃ (l : Nat), l_ = .int .i64 l ∧ o_ = .int .i64 (x + y + invS qa qb m k + invT qa qb m k l) ∧ l ≤ 4 ∧ Below wo.heap.size wo w') (fun _ l_ _ => 4 - (intOf l_).toNat)
      case atStart => exact ⟨0, rfl, by simp [invT], by omega, Below.refl _ _⟩
      case round =>
        obtain ⟨l, rfl, rfl, hl, hb4⟩ := hrel
        have t0 := invT_b qa qb h1 h2 k l
        obtain ⟨t1, t2⟩ := t0
        by_cases hl4 : l < 4
        · have ix2 := ix_i64 qb hl4
          by_cases hlk : l < k
          · have fm := (hb4.cell (p := ⟨mb, 0, none⟩) (by have := hbw.size; show mb < _; omega)).trans ((hbw.cell (p := ⟨mb, 0, none⟩) hmb).trans dm)
            have lm : mb < wr.heap.size := by have := hbw.size; have := hb4.size; omega
            have eT := Lib.hid (show invT qa qb m k (l + 1) = invT qa qb m k l + (qa.at_ k % m * (qb.at_ l % m)) % m by rw [invT, if_pos hlk]; rfl)
            obtain ⟨u0, u1⟩ := Hca.out k
            obtain ⟨v0, v1⟩ := Hcb.out l
            generalize qa.at_ k = u at *
            generalize qb.at_ l = v at *
            have p1 := emod_b (a := u) (m := m) (by omega)
            have p2 := emod_b (a := v) (m := m) (by omega)
            have p3 := mul_b p1.1 (by omega) p2.1 (by omega)
            have p4 := emod_b (a := u % m * (v % m)) (m := m) (by omega)
            obtain ⟨p30, p31⟩ := p3
            obtain ⟨p40, p41⟩ := p4
            have w2' : IntKind.i64.wrap (u % m) = u % m := IntWalk.i64_in _ (by omega)
            have w3' : IntKind.i64.wrap (v % m) = v % m := IntWalk.i64_in _ (by omega)
            have w4' : IntKind.i64.wrap (u % m * (v % m)) = u % m * (v % m) := IntWalk.i64_in _ (by clear w2' w3'; omega)
            have w5' : IntKind.i64.wrap (u % m * (v % m) % m) = u % m * (v % m) % m := IntWalk.i64_in _ (by clear w2' w3' w4'; omega)
            have w6' : IntKind.i64.wrap (x + y + invS qa qb m k + invT qa qb m k l + u % m * (v % m) % m) = x + y + invS qa qb m k + invT qa qb m k l + u % m * (v % m) % m := IntWalk.i64_in _ (by clear w2' w3' w4' w5'; omega)
            have hm0 : ¬ m = 0 := by omega
            have ht : (u % m * (v % m)).tmod m = (u % m * (v % m)) % m := Int.tmod_eq_emod_of_nonneg p30
            go_wp2_with fail
            have hup := upc wr.heap.size wr
            refine wp_region_up wr.heap.size (by kernel_rfl) (by kernel_rfl) ?_
            repeat (go_big_quiet_step (fail))
            refine wpQuiet_nil ?_
            intro w6 hup_w6
            have hb6 := up_of hup_w6
            clear w2' w3' w4' w5' w6' ht
            go_wp2_with fail
            go_roundw
            case rel => exact ⟨l + 1, by go_num, by rw [eT.out]; go_num, by omega, hb4.trans (hb6.mono hb4.size)⟩
            case measure => simp [intOf]; omega
          · have eT := Lib.hid (show invT qa qb m k (l + 1) = invT qa qb m k l by rw [invT, if_neg hlk]; omega)
            go_wp2_with fail
            go_roundw
            case rel => exact ⟨l + 1, by go_num, by rw [eT.out], by omega, hb4⟩
            case measure => simp [intOf]; omega
        · obtain rfl : l = 4 := by omega
          have eS := Lib.hid (show invS qa qb m (k + 1) = invS qa qb m k + invT qa qb m k 4 from rfl)
          go_wp2_with fail
          go_roundw
          case rel => exact ⟨k + 1, by go_num, by rw [eS.out]; go_num, by omega, hb.trans (hb4.mono hb.size)⟩
          case measure => simp [intOf]; omega
    · obtain rfl : k = 4 := by omega
      have fm := (hbw.cell (p := ⟨mb, 0, none⟩) hmb).trans dm
      have hm0 : ¬ m = 0 := by omega
      generalize invS qa qb m 4 = S at *
      have p4 := emod_b (a := x + y + S) (m := m) (by omega)
      obtain ⟨p40, p41⟩ := p4
      have ht : (x + y + S).tmod m = (x + y + S) % m := Int.tmod_eq_emod_of_nonneg (by omega)
      have w2' : IntKind.i64.wrap ((x + y + S) % m) = (x + y + S) % m := IntWalk.i64_in _ (by omega)
      go_wp2_with fail
      go_ret
      exact ⟨rfl, hbw⟩
set_option maxHeartbeats 2000000 in
set_option maxRecDepth 100000 in
theorem implInv_any (A : Option Addr) (n c : Nat) (rs : List Fac) (m : Int) (w : World) (hn : n ≤ 1048576) (hr : Rd w w.heap.size A n 3 Fac.cells rs) (hok : ∀ f ∈ rs, f.l.size ≤ maxLen) (hm : -9223372036854775808 ≤ m ∧ m ≤ 9223372036854775807) :
    Calls Try.prog 18 #[.agg #[.slice A n c], .int .i64 m] w (Ret (invV rs m) w) := by
  have hl := Lib.hid hr.len
  have HR := Lib.hid hr; clear hr
  have HO := Lib.hid hok; clear hok
  obtain ⟨m0, m1⟩ := hm
  go_enter Try.func18, Try.ntmps18
  go_wp2_with fail
  refine namedC fun w0 H0 => ?_
  have hb0 : Below w.heap.size w w0 := by rw [H0.out]; (repeat first | exact Below.refl _ _ | assumption | refine Below.drew ?_ | refine Below.alloc ?_ (by first | exact Nat.le_refl _ | (simp; done) | omega | (simp; omega)) _ | refine Below.setCell ?_ (by first | exact Nat.le_refl _ | (simp; done) | omega | (simp; omega)) _)
  have BG := Lib.hid (show Blk w0 w.heap.size 26 #[.slice A n c] by rw [H0.out]; exact (Blk.new w _ _).alloc _)
  have BM := Lib.hid (show Blk w0 (w.heap.size + 1) 2 #[.int .i64 m] by rw [H0.out]; simpa using Blk.new (w.alloc _) _ _)
  clear H0
  refine (census_any A n c rs w0 hn (HR.out.next hb0) HO.out).mono ?_
  rintro e w1 ⟨hb1, ⟨ls, A2, c2, A3, c3, hg, rfl, own2, own3⟩ | ⟨hg, rfl⟩⟩
  case inr =>
    have e := Lib.hid (invV1 (m := m) (show (gOk rs).isSome = false by rw [hg]; rfl))
    clear hg
    go_wp2_with fail
    go_ret2
    exact ⟨by rw [e.out]; rfl, (hb0.trans (hb1.mono hb0.size)).alloc (by have := hb0.size; have := hb1.size; omega) _⟩
  have HG := Lib.hid (show (gOk rs).isSome = true by rw [hg]; rfl)
  have HL := Lib.hid (gOk_lens hg).1
  have hll := Lib.hid ((gOk_lens hg).2.2.trans hl.out)
  clear hg
  have b1 := hb0.trans (hb1.mono hb0.size)
  have r3 := Lib.hid (Rd.of_own (fun y _ => lenQ4 y) rfl own3)
  clear own2 own3
  generalize hN : (foldAll Q4.nil cntF cntG Q4.nil rs).length = N at *
  have HN := Lib.hid hN; clear hN
  have BM1 := BM.out.next hb1
  have cm1 := BM1.cell 0
  have lm1 := BM1.lt
  clear BM1
  go_wp2_with fail
  refine namedC fun w2 H2 => ?_
  have hb2 : Below w1.heap.size w1 w2 := by rw [H2.out]; (repeat first | exact Below.refl _ _ | assumption | refine Below.drew ?_ | refine Below.alloc ?_ (by first | exact Nat.le_refl _ | (simp; done) | omega | (simp; omega)) _ | refine Below.setCell ?_ (by first | exact Nat.le_refl _ | (simp; done) | omega | (simp; omega)) _)
  have BC := Lib.hid (show Blk w2 w1.heap.size 59 #[.slice A n c, .slice A2 n c2, .slice A3 N c3] by rw [H2.out]; exact Blk.new _ _ _)
  clear H2 cm1 lm1
  have b2 := b1.trans (hb2.mono b1.size)
  rcases h3 : inB m 1 1000000000 with _ | _
  · have e := Lib.hid (invV3 HG.out h3)
    have H3 := Lib.hid h3; clear h3
    refine (isMod_any m false _ H3.out).mono ?_
    rintro e1 w4 ⟨rfl, hb4⟩
    go_wp2_with fail
    go_ret2
    exact ⟨by rw [e.out]; rfl, b2.trans (hb4.mono b2.size)⟩
  have e := Lib.hid (invV4 HG.out h3)
  have hm : 1 ≤ m ∧ m ≤ 1000000000 := by simpa [inB] using h3
  obtain ⟨n1, n2⟩ := hm
  have H3 := Lib.hid h3; clear h3
  refine (isMod_any m true _ H3.out).mono ?_
  rintro e1 w4 ⟨rfl, hb4⟩
  have b4 := b2.trans (hb4.mono b2.size)
  have hb14 := hb2.trans (hb4.mono hb2.size)
  have cg4 := ((BG.out.next hb1).next hb14).cell 0
  have lg4 := ((BG.out.next hb1).next hb14).lt
  have BC5 := Lib.hid (BC.out.next hb4)
  have BM5 := Lib.hid ((BM.out.next hb1).next hb14)
  have r35 := Lib.hid (r3.out.next hb14)
  have HT := Lib.hid (top_topI plF (invG (cnts rs) m) rs)
  have HM := Lib.hid (foldAll_len 0 plF (invG (cnts rs) m) 0 rs)
  go_wp2_with fail
  refine (foldI_any 59 60 (enterOk Try.func59 (by kernel_rfl) (by kernel_rfl)) (enterOk Try.func60 (by kernel_rfl) (by kernel_rfl)) #[] #[.pointer (some ⟨w1.heap.size, 0, none⟩), .pointer (some ⟨w.heap.size + 1, 0, none⟩)]
    plF (invG (cnts rs) m) 0 A n c rs w4 hn (HR.out.next b4) (wf_of HL.out) ?_ ?_).mono ?_
  · intro k r hr h0 w' hb'
    exact inv1_any _ w'
  · intro k r hr h0 w' hb'
    have hk : k < rs.length := (List.getElem?_eq_some_iff.1 hr).1
    have hfa := foldAll_pos Q4.nil cntF cntG Q4.nil (rs := rs) (by omega)
    have hNn : N = n := by rw [← HN.out, hfa, full_len]; exact hl.out
    subst hNn
    have hln := hl.out
    rcases wf_of HL.out k r hr with ⟨_, ha0, ha1, hb0', hb1'⟩ | ⟨cc, _, hxl, _⟩
    · rw [outs_full 0 plF _ (k := k) (i := r.a.toNat) (by omega) (by omega), outs_full 0 plF _ (k := k) (i := r.b.toNat) (by omega) (by omega)]
      have r36 := r35.out.next hb'
      rw [hfa] at r36
      have q1 := inv_bound HL.out n1 n2 (k := r.a.toNat) (by omega)
      have q2 := inv_bound HL.out n1 n2 (k := r.b.toNat) (by omega)
      have q4 := fun j => cnt_at HL.out (k := r.a.toNat) (by omega) j
      have q5 := fun j => cnt_at HL.out (k := r.b.toNat) (by omega) j
      have h := inv2_any _ _ r w1.heap.size (w.heap.size + 1) A2 A3 A c N c2 c3 N m (cnts rs) w' (BC5.out.next hb').lt (BM5.out.next hb').lt ((BC5.out.next hb').cell 0) ((BC5.out.next hb').cell 1) ((BC5.out.next hb').cell 2) ((BM5.out.next hb').cell 0)
        n1 n2 r36 ha0 (by omega) hb0' (by omega) q1 q2 q4 q5
      simpa using h
    · rw [hxl] at h0; exact absurd h0 (show ¬ (1 : Nat) = 0 by omega)
  rintro e6 w6 ⟨A6, c6, rfl, own6, hb6⟩
  have r6 := Lib.hid (Rd.of_own (enc := intE) (fun _ _ => rfl) rfl own6)
  clear own6
  have b6 := b4.trans (hb6.mono b4.size)
  go_wp2_with fail
  refine (topI_any A6 _ c6 _ w6 (by have := HM.out; have := hl.out; omega) (by have := HM.out; omega) r6.out).mono ?_
  rintro e7 w7 ⟨rfl, hb7⟩
  rw [HT.out]
  go_wp2_with fail
  go_ret2
  exact ⟨by rw [e.out]; rfl, b6.trans (hb7.mono b6.size)⟩
end Go.Proofs.Ytecnkmndmnefdaa


/-
  The word of a rule, and what a fold over rules says of it.
-/
namespace Go.Proofs.Ytecnkmndmnefdaa

def wdF (k : Nat) : List Nat := [k]
def wdG (a b : List Nat) (_ : Fac) : List Nat := a ++ b
/-- the words of all rules, as numbers of letters -/
def wds (rs : List Fac) : List (List Nat) := full [] wdF wdG rs
/-- the word of a grammar -/
def wdN (rs : List Fac) : List Nat := if rs = [] then [] else (wds rs).getD (rs.length - 1) []
theorem wds_pos {rs : List Fac} (hwf : WF rs) {k : Nat} (hk : k < rs.length) : (wds rs).getD k [] ≠ [] := by
  refine full_ind (rs := rs) [] wdF wdG hwf (fun _ u => u ≠ []) (fun k r _ _ => by simp [wdF]) (fun k r a b _ _ _ _ _ _ h1 _ => ?_) k hk
  intro e
  simp only [wdG, List.append_eq_nil_iff] at e
  exact h1 e.1
theorem wds_let {rs : List Fac} (hwf : WF rs) {k : Nat} (hk : k < rs.length) : ∀ x ∈ (wds rs).getD k [], x < 4 := by
  refine full_ind (rs := rs) [] wdF wdG hwf (fun _ u => ∀ x ∈ u, x < 4) (fun k r _ h => by
    intro x hx
    simp only [wdF, List.mem_singleton] at hx
    subst hx
    exact letN_lt h) (fun k r a b _ _ _ _ _ _ h1 h2 => ?_) k hk
  intro x hx
  rcases List.mem_append.1 hx with h | h
  · exact h1 x h
  · exact h2 x h
section
variable {α : Type} {d : α} {F : Nat → α} {G : α → α → Fac → α}
/-- a fold that is a function of the word -/
theorem full_hom {rs : List Fac} (hwf : WF rs) (h : List Nat → α) (hF : ∀ k, k < 4 → F k = h [k]) (hG : ∀ u v r, u ≠ [] → v ≠ [] → (∀ x ∈ u, x < 4) → (∀ x ∈ v, x < 4) → G (h u) (h v) r = h (u ++ v)) :
    ∀ k, k < rs.length → (full d F G rs).getD k d = h ((wds rs).getD k []) := by
  intro k
  induction k using Nat.strongRecOn with
  | ind k ih =>
    intro hk
    have hr : rs[k]? = some rs[k] := List.getElem?_eq_getElem hk
    rcases hwf k _ hr with ⟨h0, ha0, ha1, hb0, hb1⟩ | ⟨c, hc, hl, _, _⟩
    · have e1 := full_pair (d := d) (F := F) (G := G) hwf hr h0
      have e2 := full_pair (d := []) (F := wdF) (G := wdG) hwf hr h0
      have ia := ih rs[k].a.toNat (by omega) (by omega)
      have ib := ih rs[k].b.toNat (by omega) (by omega)
      rw [e1, ia, ib]
      unfold wds at *
      rw [e2]
      exact hG _ _ _ (wds_pos hwf (by omega)) (wds_pos hwf (by omega)) (wds_let hwf (by omega)) (wds_let hwf (by omega))
    · have hz : rs[k].l.size ≠ 0 := by rw [hl]; show (1 : Nat) ≠ 0; omega
      have e1 := full_let (d := d) (F := F) (G := G) hr hz
      have e2 := full_let (d := []) (F := wdF) (G := wdG) hr hz
      have h4 : letN rs[k].l < 4 := by
        rw [hl, letN_one]
        have := letB_num hc
        omega
      rw [e1, hF _ h4]
      unfold wds
      rw [e2]; rfl
end
theorem lens_word {rs : List Fac} {ls : List Int} (h : gLens rs [] = some ls) {k : Nat} (hk : k < rs.length) : ls.getD k 0 = ((wds rs).getD k []).length := by
  have e := gLens_fold rs [] ls h
  have := full_hom (d := (0 : Int)) (F := lenF) (G := lenG) (wf_of h) (fun u => (u.length : Int)) (fun k _ => rfl) (fun u v r _ _ _ _ => by simp [lenG]) k hk
  rw [e]; exact this
theorem last_word {rs : List Fac} {ls : List Int} (h : gLens rs [] = some ls) : lastI ls = ((wdN rs).length : Int) := by
  have hl := gLens_len rs [] ls h
  simp only [List.length_nil, Nat.zero_add] at hl
  unfold wdN
  split
  · rename_i h0; subst h0
    obtain rfl : ls = [] := List.eq_nil_of_length_eq_zero hl
    rfl
  · rename_i h0
    have : 0 < rs.length := List.length_pos_iff.2 h0
    unfold lastI
    rw [hl]
    exact lens_word h (by omega)
/-- a word as a text -/
def txB (u : List Nat) : List UInt8 := u.map fun k => UInt8.ofNat (97 + k)
def tx (u : List Nat) : ByteArray := ⟨(txB u).toArray⟩
theorem tx_size (u : List Nat) : (tx u).size = u.length := by simp [tx, txB, ByteArray.size]
theorem tx_toList (u : List Nat) : (tx u).data.toList = txB u := rfl
theorem tx_app (u v : List Nat) : tx (u ++ v) = tx u ++ tx v := by
  apply ByteArray.ext
  apply Array.ext'
  rw [ByteArray.data_append, Array.toList_append]
  simp [tx, txB]
theorem tx_let {u : List Nat} (h : ∀ x ∈ u, x < 4) : (tx u).data.toList.all letB = true := by
  rw [tx_toList, txB, List.all_map, List.all_eq_true]
  intro x hx
  have := h x hx
  simp only [Function.comp, letB]
  have e : (UInt8.ofNat (97 + x)).toNat = 97 + x := by rw [UInt8.toNat_ofNat']; omega
  simp [e]; omega
theorem wdN_let {rs : List Fac} (hwf : WF rs) : ∀ x ∈ wdN rs, x < 4 := by
  unfold wdN
  split
  · simp
  · rename_i h0
    have : 0 < rs.length := List.length_pos_iff.2 h0
    exact wds_let hwf (by omega)
end Go.Proofs.Ytecnkmndmnefdaa
