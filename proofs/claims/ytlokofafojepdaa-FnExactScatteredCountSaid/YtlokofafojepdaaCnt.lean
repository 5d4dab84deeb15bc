/-
  How often letters occur in the words of all rules: the model, and the program's census.
-/
import Derived.Test.YtlokofafojepdaaFoldQ
import Derived.Test.YtlokofafojepdaaFoldL
import Derived.Test.YtlokofafojepdaaGramV
import Derived.Test.YtlokofafojepdaaGramL
namespace Go.Proofs.Ytlokofafojepdaa
open Go.RowKit

/-- the number of a letter in four numbers -/
def Q4.at_ (q : Q4) : Nat → Int
  | 0 => q.a
  | 1 => q.b
  | 2 => q.c
  | _ => q.d
theorem encQ4_at (q : Q4) {l : Nat} (h : l < 4) : (encQ4 q)[l]? = some (.int .i64 (q.at_ l)) := by
  match l, h with
  | 0, _ => rfl
  | 1, _ => rfl
  | 2, _ => rfl
  | 3, _ => rfl
def cntF (l : Nat) : Q4 := ⟨if l = 0 then 1 else 0, if l = 1 then 1 else 0, if l = 2 then 1 else 0, if l = 3 then 1 else 0⟩
def cntG (x y : Q4) (_ : Fac) : Q4 := ⟨x.a + y.a, x.b + y.b, x.c + y.c, x.d + y.d⟩
theorem cntF_at (l : Nat) {j : Nat} (h : j < 4) : (cntF l).at_ j = if l = j then 1 else 0 := by
  match j, h with
  | 0, _ => rfl
  | 1, _ => rfl
  | 2, _ => rfl
  | 3, _ => rfl
theorem cntG_at (x y : Q4) (r : Fac) (j : Nat) : (cntG x y r).at_ j = x.at_ j + y.at_ j := by
  match j with
  | 0 => rfl
  | 1 => rfl
  | 2 => rfl
  | _ + 3 => rfl
/-- how often letters occur, for each rule -/
abbrev cnts (rs : List Fac) : List Q4 := full Q4.nil cntF cntG rs
def QB (m : Int) (q : Q4) : Prop := 0 ≤ q.a ∧ 0 ≤ q.b ∧ 0 ≤ q.c ∧ 0 ≤ q.d ∧ q.a + q.b + q.c + q.d = m
theorem QB.at_ {m : Int} {q : Q4} (h : QB m q) (j : Nat) : 0 ≤ q.at_ j ∧ q.at_ j ≤ m := by
  obtain ⟨h0, h1, h2, h3, h4⟩ := h
  match j with
  | 0 => exact ⟨h0, show q.a ≤ m by omega⟩
  | 1 => exact ⟨h1, show q.b ≤ m by omega⟩
  | 2 => exact ⟨h2, show q.c ≤ m by omega⟩
  | _ + 3 => exact ⟨h3, show q.d ≤ m by omega⟩
theorem cnt_bound {rs : List Fac} {ls : List Int} (hls : gLens rs [] = some ls) {k : Nat} (hk : k < rs.length) : QB (ls.getD k 0) ((cnts rs).getD k Q4.nil) := by
  have hwf := wf_of hls
  refine full_ind Q4.nil cntF cntG hwf (fun k x => QB (ls.getD k 0) x) (fun k r hr h => ?_) (fun k r a b hr h0 h1 h2 h3 h4 ha hb => ?_) k hk
  · have h0 : r.l.size ≠ 0 := by
      obtain ⟨c, _, e⟩ := letT_one h
      rw [e]; show (1 : Nat) ≠ 0; omega
    show QB (ls.getD k 0) _
    rw [lens_let hls hr h0]
    have := letN_lt h
    generalize letN r.l = l at *
    match l, this with
    | 0, _ => simp [QB, cntF]
    | 1, _ => simp [QB, cntF]
    | 2, _ => simp [QB, cntF]
    | 3, _ => simp [QB, cntF]
  · show QB (ls.getD k 0) _
    rw [lens_pair hls hr h0]
    obtain ⟨a0, a1, a2, a3, a4⟩ := ha
    obtain ⟨b0, b1, b2, b3, b4⟩ := hb
    simp only [QB, cntG]
    omega
theorem cnt_at {rs : List Fac} {ls : List Int} (hls : gLens rs [] = some ls) {k : Nat} (hk : k < rs.length) (j : Nat) : 0 ≤ ((cnts rs).getD k Q4.nil).at_ j ∧ ((cnts rs).getD k Q4.nil).at_ j ≤ 1000000000000000 := by
  have h1 := (cnt_bound hls hk).at_ j
  have h2 := lens_bound hls hk
  omega
abbrev Q4.v (x : Q4) : Value := .agg #[.int .i64 x.a, .int .i64 x.b, .int .i64 x.c, .int .i64 x.d]
theorem Blk.four {w : World} {g : Nat} {t : TypeId} {x y z u : Value} (h : Blk w g t #[x, y, z, u]) : w.cell? ⟨g, 0, none⟩ = some x ∧ w.cell? ⟨g, 1, none⟩ = some y ∧ w.cell? ⟨g, 2, none⟩ = some z ∧ w.cell? ⟨g, 3, none⟩ = some u := ⟨h.cell 0, h.cell 1, h.cell 2, h.cell 3⟩

set_option maxHeartbeats 1000000 in
theorem cens1_any (l : Nat) (w : World) (hl : l < 4) : Calls Try.prog 112 #[.int .i64 (l : Int)] w (Ret (Q4.v (cntF l)) w) := by
  rcases (show l = 0 ∨ l = 1 ∨ l = 2 ∨ l = 3 by omega) with rfl | rfl | rfl | rfl
  all_goals
    go_enter Try.func112, Try.ntmps112
    go_wp2
    refine bodyPost_ret (v := Q4.v (cntF _)) ?_ rfl ⟨rfl, by (repeat first | exact Below.refl _ _ | assumption | refine Below.drew ?_ | refine Below.alloc ?_ (by first | exact Nat.le_refl _ | (simp; done) | omega | (simp; omega)) _ | refine Below.setCell ?_ (by first | exact Nat.le_refl _ | (simp; done) | omega | (simp; omega)) _)⟩
    simp [results, Try.results112, go_sem, cntF]
theorem ix4 (a b c d : Int) : (∀ w : World, (Instr.index 139 (.agg #[.int .i64 a, .int .i64 b, .int .i64 c, .int .i64 d]) (.int .i64 0)).run Try.prog w = .ok (.int .i64 a) w) ∧
    (∀ w : World, (Instr.index 139 (.agg #[.int .i64 a, .int .i64 b, .int .i64 c, .int .i64 d]) (.int .i64 1)).run Try.prog w = .ok (.int .i64 b) w) ∧
    (∀ w : World, (Instr.index 139 (.agg #[.int .i64 a, .int .i64 b, .int .i64 c, .int .i64 d]) (.int .i64 2)).run Try.prog w = .ok (.int .i64 c) w) ∧
    (∀ w : World, (Instr.index 139 (.agg #[.int .i64 a, .int .i64 b, .int .i64 c, .int .i64 d]) (.int .i64 3)).run Try.prog w = .ok (.int .i64 d) w) :=
  ⟨fun _ => by kernel_rfl, fun _ => by kernel_rfl, fun _ => by kernel_rfl, fun _ => by kernel_rfl⟩
set_option maxHeartbeats 2000000 in
set_option maxRecDepth 100000 in
theorem cens2_any (x y : Q4) (r : Fac) (w : World) (hs : ∀ j, 0 ≤ x.at_ j ∧ x.at_ j ≤ 1000000000000000 ∧ 0 ≤ y.at_ j ∧ y.at_ j ≤ 1000000000000000) :
    Calls Try.prog 113 #[.agg #[.int .i64 x.a, .int .i64 x.b, .int .i64 x.c, .int .i64 x.d], .agg #[.int .i64 y.a, .int .i64 y.b, .int .i64 y.c, .int .i64 y.d], r.val] w (Ret (Q4.v (cntG x y r)) w) := by
  obtain ⟨x0, x0', y0, y0'⟩ : 0 ≤ x.a ∧ x.a ≤ 1000000000000000 ∧ 0 ≤ y.a ∧ y.a ≤ 1000000000000000 := hs 0
  obtain ⟨x1, x1', y1, y1'⟩ : 0 ≤ x.b ∧ x.b ≤ 1000000000000000 ∧ 0 ≤ y.b ∧ y.b ≤ 1000000000000000 := hs 1
  obtain ⟨x2, x2', y2, y2'⟩ : 0 ≤ x.c ∧ x.c ≤ 1000000000000000 ∧ 0 ≤ y.c ∧ y.c ≤ 1000000000000000 := hs 2
  obtain ⟨x3, x3', y3, y3'⟩ : 0 ≤ x.d ∧ x.d ≤ 1000000000000000 ∧ 0 ≤ y.d ∧ y.d ≤ 1000000000000000 := hs 3
  clear hs
  obtain ⟨xa, xb, xc, xd⟩ := x
  obtain ⟨ya, yb, yc, yd⟩ := y
  simp only at x0 x0' y0 y0' x1 x1' y1 y1' x2 x2' y2 y2' x3 x3' y3 y3'
  unfold Fac.val
  go_enter Try.func113, Try.ntmps113
  go_wp2_with fail
  refine named fun w3 H3 => ?_
  have hb3 : Below w.heap.size w w3 := by rw [H3.out]; (repeat first | exact Below.refl _ _ | assumption | refine Below.drew ?_ | refine Below.alloc ?_ (by first | exact Nat.le_refl _ | (simp; done) | omega | (simp; omega)) _ | refine Below.setCell ?_ (by first | exact Nat.le_refl _ | (simp; done) | omega | (simp; omega)) _)
  have BX : Blk w3 w.heap.size 139 #[.int .i64 xa, .int .i64 xb, .int .i64 xc, .int .i64 xd] := by rw [H3.out]; simpa using (((Blk.new w _ _).alloc _).alloc _).alloc _
  have BR : Blk w3 (w.heap.size + 3) 139 #[.int .i64 0, .int .i64 0, .int .i64 0, .int .i64 0] := by rw [H3.out]; simpa using Blk.new (((w.alloc _).alloc _).alloc _) _ _
  have BR' := Lib.hid BR; clear BR
  have BX' := Lib.hid BX; clear BX H3
  go_loopw [10] (fun i_ w' => ∃ (l : Nat), i_ = .int .i64 l ∧ l ≤ 4 ∧ Below w.heap.size w w' ∧ Hid (Blk w' (w.heap.size + 3) 139 #[.int .i64 0, .int .i64 0, .int .i64 0, .int .i64 0]) ∧
      Hid (Blk w' w.heap.size 139 #[.int .i64 (if 0 < l then xa + ya else xa), .int .i64 (if 1 < l then xb + yb else xb), .int .i64 (if 2 < l then xc + yc else xc), .int .i64 (if 3 < l then xd + yd else xd)])) (fun i_ _ => 4 - (intOf i_).toNat)
  case atStart => exact ⟨0, rfl, by omega, hb3, BR', BX'⟩
  case round =>
    obtain ⟨l, rfl, hl, hb, hBR, hB⟩ := hrel
    rcases (show l = 0 ∨ l = 1 ∨ l = 2 ∨ l = 3 ∨ l = 4 by omega) with rfl | rfl | rfl | rfl | rfl
    case inr.inr.inr.inr =>
      have B4 := hB.out
      simp only [show (0 : Nat) < 4 by omega, show (1 : Nat) < 4 by omega, show (2 : Nat) < 4 by omega, show (3 : Nat) < 4 by omega, if_true] at B4
      obtain ⟨d0, d1, d2, d3⟩ := B4.four
      obtain ⟨f0, f1, f2, f3⟩ := hBR.out.four
      have g0 := hBR.out.frozen
      have l0 := hBR.out.lt
      have l1 := B4.lt
      clear B4 hB hBR
      go_wp2_with fail
      refine bodyPost_ret (v := Q4.v (cntG ⟨xa, xb, xc, xd⟩ ⟨ya, yb, yc, yd⟩ r)) (by simp [results, Try.results113, go_sem, cntG, f0, f1, f2, f3]) rfl ⟨rfl, ?_⟩
      exact (((hb.setCell (by simp; try omega) _).setCell (by simp; try omega) _).setCell (by simp; try omega) _).setCell (by simp; try omega) _
    all_goals
      have B4 := Lib.hid hB.out
      obtain ⟨d0, d1, d2, d3⟩ := B4.out.four
      have g0 := B4.out.frozen
      have l1 := B4.out.lt
      simp only [show ¬ (3 : Nat) < 3 by omega, show ¬ (3 : Nat) < 2 by omega, show ¬ (3 : Nat) < 1 by omega, show ¬ (3 : Nat) < 0 by omega, show ¬ (2 : Nat) < 2 by omega, show ¬ (2 : Nat) < 1 by omega, show ¬ (2 : Nat) < 0 by omega,
        show ¬ (1 : Nat) < 1 by omega, show ¬ (1 : Nat) < 0 by omega, show ¬ (0 : Nat) < 0 by omega, if_false] at d0 d1 d2 d3
      clear hB
      have i0 := ix4 ya yb yc yd
      obtain ⟨i0, i1, i2, i3⟩ := i0
      go_wp2_with fail
      go_roundw
      case rel =>
        first
          | exact ⟨1, by go_num, by omega, hb.setCell (Nat.le_refl _) _, Lib.hid (hBR.out.far (by simp) _), Lib.hid (B4.out.set_ 0 _)⟩
          | exact ⟨2, by go_num, by omega, hb.setCell (Nat.le_refl _) _, Lib.hid (hBR.out.far (by simp) _), Lib.hid (B4.out.set_ 1 _)⟩
          | exact ⟨3, by go_num, by omega, hb.setCell (Nat.le_refl _) _, Lib.hid (hBR.out.far (by simp) _), Lib.hid (B4.out.set_ 2 _)⟩
          | exact ⟨4, by go_num, by omega, hb.setCell (Nat.le_refl _) _, Lib.hid (hBR.out.far (by simp) _), Lib.hid (B4.out.set_ 3 _)⟩
      case measure => simp [intOf]
end Go.Proofs.Ytlokofafojepdaa
