/-
  The longest runs of the letters in the program: a letter.
-/
import Derived.Test.YtkknhpailohjcaaLrM
import Derived.Test.YtkknhpailohjcaaStop
import Derived.Laws.Rows
import Derived.Laws.Tables
import Derived.Laws.CopyOwn
namespace Go.Proofs.Ytkknhpailohjcaa
open Go.RowKit

def R4.arr (y : R4) : Array Value := #[.int .i64 y.f0, .int .i64 y.l0, .int .i64 y.m0, .int .i64 y.n0, .int .i64 y.f1, .int .i64 y.l1, .int .i64 y.m1, .int .i64 y.n1, .int .i64 y.f2, .int .i64 y.l2, .int .i64 y.m2, .int .i64 y.n2, .int .i64 y.f3, .int .i64 y.l3, .int .i64 y.m3, .int .i64 y.n3]
theorem R4.arr_size (y : R4) : y.arr.size = 16 := rfl
theorem R4.arr_one (y : R4) : y.arr.all (·.oneCell') = true := by simp [R4.arr, Value.oneCell']
theorem R4.arr_at (y : R4) {k : Nat} (h : k < 4) : y.arr[k * 4]? = some (.int .i64 (y.at_ k).f) ∧ y.arr[k * 4 + 1]? = some (.int .i64 (y.at_ k).l) ∧ y.arr[k * 4 + 2]? = some (.int .i64 (y.at_ k).m) ∧ y.arr[k * 4 + 3]? = some (.int .i64 (y.at_ k).n) := by
  match k, h with
  | 0, _ => exact ⟨rfl, rfl, rfl, rfl⟩
  | 1, _ => exact ⟨rfl, rfl, rfl, rfl⟩
  | 2, _ => exact ⟨rfl, rfl, rfl, rfl⟩
  | 3, _ => exact ⟨rfl, rfl, rfl, rfl⟩
/-- four runs of which those from k on are of no letters -/
def r4P (t : Nat → Rc) (z : Rc) (k : Nat) : R4 := .mk4 (if 0 < k then t 0 else z) (if 1 < k then t 1 else z) (if 2 < k then t 2 else z) (if 3 < k then t 3 else z)
theorem r4P_zero (t : Nat → Rc) (z : Rc) : r4P t z 0 = .mk4 z z z z := rfl
theorem r4P_all (t : Nat → Rc) (z : Rc) : r4P t z 4 = .mk4 (t 0) (t 1) (t 2) (t 3) := rfl
def Rc.cells (x : Rc) : Array Value := #[.int .i64 x.f, .int .i64 x.l, .int .i64 x.m, .int .i64 x.n]
/-- one run put in its place -/
theorem r4_put (y : R4) {k : Nat} (h : k < 4) (x : Rc) : ((((y.arr.setIfInBounds (k * 4) (.int .i64 x.f)).setIfInBounds (k * 4 + 1) (.int .i64 x.l)).setIfInBounds (k * 4 + 2) (.int .i64 x.m)).setIfInBounds (k * 4 + 3) (.int .i64 x.n)) = (R4.mk4 (if k = 0 then x else y.at_ 0) (if k = 1 then x else y.at_ 1) (if k = 2 then x else y.at_ 2) (if k = 3 then x else y.at_ 3)).arr := by
  match k, h with
  | 0, _ => rfl
  | 1, _ => rfl
  | 2, _ => rfl
  | 3, _ => rfl
theorem r4P_put (t : Nat → Rc) (z : Rc) {k : Nat} (h : k < 4) : R4.mk4 (if k = 0 then t k else (r4P t z k).at_ 0) (if k = 1 then t k else (r4P t z k).at_ 1) (if k = 2 then t k else (r4P t z k).at_ 2) (if k = 3 then t k else (r4P t z k).at_ 3) = r4P t z (k + 1) := by
  match k, h with
  | 0, _ => rfl
  | 1, _ => rfl
  | 2, _ => rfl
  | 3, _ => rfl
theorem lrF_put {l : Nat} (hl : l < 4) : lrF l = R4.mk4 (if l = 0 then ⟨1, 1, 1, 1⟩ else (r4P (fun _ => ⟨0, 0, 0, 1⟩) ⟨0, 0, 0, 0⟩ 4).at_ 0) (if l = 1 then ⟨1, 1, 1, 1⟩ else (r4P (fun _ => ⟨0, 0, 0, 1⟩) ⟨0, 0, 0, 0⟩ 4).at_ 1) (if l = 2 then ⟨1, 1, 1, 1⟩ else (r4P (fun _ => ⟨0, 0, 0, 1⟩) ⟨0, 0, 0, 0⟩ 4).at_ 2) (if l = 3 then ⟨1, 1, 1, 1⟩ else (r4P (fun _ => ⟨0, 0, 0, 1⟩) ⟨0, 0, 0, 0⟩ 4).at_ 3) := by
  match l, hl with
  | 0, _ => rfl
  | 1, _ => rfl
  | 2, _ => rfl
  | 3, _ => rfl
theorem r4P_len (t : Nat → Rc) (z : Rc) {k : Nat} (h : k < 4) (n : Int) (ht : ∀ k, t k = ⟨z.f, z.l, z.m, n⟩) : (r4P t z k).arr.setIfInBounds (k * 4 + 3) (.int .i64 n) = (r4P t z (k + 1)).arr := by
  match k, h with
  | 0, _ => simp [r4P, ht]; rfl
  | 1, _ => simp [r4P, ht]; rfl
  | 2, _ => simp [r4P, ht]; rfl
  | 3, _ => simp [r4P, ht]; rfl
theorem Blk.row {w : World} {g : Nat} {t : TypeId} {cs cs' : Array Value} (h : Blk w g t cs) : Blk (w.setRow g cs') g t cs' := setRow_heap w g cs cs' t (0, 0) h
theorem results_cell {fn : Func} {k : Tmp} {t : TypeId} (h : fn.results = #[.cell k t]) (tmps : Array Value) (P : Program) (w : World) {ad : Addr} {v : Value} (hq : tmps.getD k undef = .pointer (some ad)) (hl : (loadVar t ad).run P w = .ok v w) :
    (results fn tmps).run P w = .ok v w := by
  simp only [Array.getD_eq_getD_getElem?] at hq
  simp [results, h, hq, hl, asAddr]
theorem stopL {P : Program} {ops : Array Oper} {Q : Exit → Act → World → Prop} {a : Act} {w : World} {d : Option Tmp} {x : Operand} {t : TypeId} {pos : String} {af : Array Edge} {g : Option (Tmp × Bool)} {rest : List Oper} (h : Stop (wpList P ops Q (⟨d, .load 72 x, t, pos, af, g⟩ :: rest) a w)) : wpList P ops Q (⟨d, .load 72 x, t, pos, af, g⟩ :: rest) a w := h
theorem info_r4 : (Try.prog.info? 72).map (·.size) = some 16 := by kernel_rfl
theorem und_r4 : (Try.prog.underlying 72) = some (.array 4 71) := by kernel_rfl
set_option maxHeartbeats 2000000 in
set_option maxRecDepth 100000 in
theorem lr1_any (l : Nat) (w : World) (hl : l < 4) : Calls Try.prog 43 #[.int .i64 (l : Int)] w (Ret (.agg (lrF l).arr) w) := by
  go_enter Try.func43, Try.ntmps43
  go_wp2_with fail
  refine named fun w3 H3 => ?_
  have hb3 : Below w.heap.size w w3 := by rw [H3.out]; (repeat first | exact Below.refl _ _ | assumption | refine Below.drew ?_ | refine Below.alloc ?_ (by first | exact Nat.le_refl _ | (simp; done) | omega | (simp; omega)) _ | refine Below.setCell ?_ (by first | exact Nat.le_refl _ | (simp; done) | omega | (simp; omega)) _)
  have BR := Lib.hid (show Blk w3 w.heap.size 72 (R4.mk4 ⟨0, 0, 0, 0⟩ ⟨0, 0, 0, 0⟩ ⟨0, 0, 0, 0⟩ ⟨0, 0, 0, 0⟩).arr by rw [H3.out]; exact (Blk.new w _ _).alloc _)
  have BX := Lib.hid (show Blk w3 (w.heap.size + 1) 72 (r4P (fun _ => ⟨0, 0, 0, 1⟩) ⟨0, 0, 0, 0⟩ 0).arr by
    rw [H3.out]
    have h := Blk.new (w.alloc (.cells (R4.mk4 ⟨0, 0, 0, 0⟩ ⟨0, 0, 0, 0⟩ ⟨0, 0, 0, 0⟩ ⟨0, 0, 0, 0⟩).arr 72)) 72 (R4.mk4 ⟨0, 0, 0, 0⟩ ⟨0, 0, 0, 0⟩ ⟨0, 0, 0, 0⟩ ⟨0, 0, 0, 0⟩).arr
    rw [show (w.alloc (.cells (R4.mk4 ⟨0, 0, 0, 0⟩ ⟨0, 0, 0, 0⟩ ⟨0, 0, 0, 0⟩ ⟨0, 0, 0, 0⟩).arr 72)).heap.size = w.heap.size + 1 by simp] at h
    exact h)
  clear H3
  go_loopw [6] (fun i_ w' => ∃ (j : Nat), i_ = .int .i64 j ∧ j ≤ 4 ∧ Below w.heap.size w w' ∧ Hid (Blk w' w.heap.size 72 (R4.mk4 ⟨0, 0, 0, 0⟩ ⟨0, 0, 0, 0⟩ ⟨0, 0, 0, 0⟩ ⟨0, 0, 0, 0⟩).arr) ∧
      Hid (Blk w' (w.heap.size + 1) 72 (r4P (fun _ => ⟨0, 0, 0, 1⟩) ⟨0, 0, 0, 0⟩ j).arr)) (fun i_ _ => 4 - (intOf i_).toNat)
  case atStart => exact ⟨0, rfl, by omega, hb3, BR, BX⟩
  case round =>
    obtain ⟨j, rfl, hj, hb, hR, hB⟩ := hrel
    by_cases hlt : j < 4
    · have B4 := Lib.hid hB.out
      have g0 := B4.out.frozen
      have l1 := B4.out.lt
      have a3 := (B4.out.cell (j * 4 + 3)).trans (R4.arr_at _ hlt).2.2.2
      have HS := Lib.hid (r4P_len (fun _ => ⟨0, 0, 0, 1⟩) ⟨0, 0, 0, 0⟩ hlt 1 (fun _ => rfl))
      clear hB
      go_wp2_with fail
      go_roundw
      case rel =>
        refine ⟨j + 1, by go_num, by omega, hb.setCell (by simp; try omega) _, Lib.hid (hR.out.far (by simp) _), Lib.hid ?_⟩
        rw [← HS.out]
        exact B4.out.set_ _ _
      case measure => simp [intOf]; omega
    · obtain rfl : j = 4 := by omega
      have R0 := hR.out.frozen
      have l0 := hR.out.lt
      have g0 := hB.out.frozen
      have l1 := hB.out.lt
      obtain ⟨c0, c1, c2, c3⟩ := R4.arr_at (r4P (fun _ => ⟨0, 0, 0, 1⟩) ⟨0, 0, 0, 0⟩ 4) hl
      have a0 := (hB.out.cell (l * 4)).trans c0
      have a1 := (hB.out.cell (l * 4 + 1)).trans c1
      have a2 := (hB.out.cell (l * 4 + 2)).trans c2
      have a3 := (hB.out.cell (l * 4 + 3)).trans c3
      clear c0 c1 c2 c3
      have HB := Lib.hid hB.out
      have HR := Lib.hid hR.out
      clear hB hR
      have HP := Lib.hid (show Blk ((((wr.setCell ⟨w.heap.size + 1, l * 4, none⟩ (.int .i64 1)).setCell ⟨w.heap.size + 1, l * 4 + 1, none⟩ (.int .i64 1)).setCell ⟨w.heap.size + 1, l * 4 + 2, none⟩ (.int .i64 1)).setCell ⟨w.heap.size + 1, l * 4 + 3, none⟩ (.int .i64 1)) (w.heap.size + 1) 72 (lrF l).arr by
        have h := (((HB.out.set_ (l * 4) (.int .i64 1)).set_ (l * 4 + 1) (.int .i64 1)).set_ (l * 4 + 2) (.int .i64 1)).set_ (l * 4 + 3) (.int .i64 1)
        rw [r4_put _ hl ⟨1, 1, 1, 1⟩] at h
        rw [lrF_put hl]
        exact h)
      have HQ := Lib.hid ((((HR.out.far (p := ⟨w.heap.size + 1, l * 4, none⟩) (by simp) (.int .i64 1)).far (p := ⟨w.heap.size + 1, l * 4 + 1, none⟩) (by simp) (.int .i64 1)).far (p := ⟨w.heap.size + 1, l * 4 + 2, none⟩) (by simp) (.int .i64 1)).far (p := ⟨w.heap.size + 1, l * 4 + 3, none⟩) (by simp) (.int .i64 1))
      have hb' := Lib.hid ((((hb.setCell (p := ⟨w.heap.size + 1, l * 4, none⟩) (by simp) (.int .i64 1)).setCell (p := ⟨w.heap.size + 1, l * 4 + 1, none⟩) (by simp) (.int .i64 1)).setCell (p := ⟨w.heap.size + 1, l * 4 + 2, none⟩) (by simp) (.int .i64 1)).setCell (p := ⟨w.heap.size + 1, l * 4 + 3, none⟩) (by simp) (.int .i64 1))
      go_wp2_with (with_reducible refine stopL ?_)
      unfold Stop
      refine wpList_load_row rfl 72 _ rfl (w.heap.size + 1) rfl 72 (lrF l).arr (0, 0) _ HP.out und_r4 rfl info_r4 ?_
      refine wpList_store_row rfl 72 _ _ rfl w.heap.size (lrF l).arr rfl rfl 72 _ HQ.out info_r4 rfl (R4.arr_one _) ?_
      have HZ := Lib.hid (HQ.out.row (cs' := (lrF l).arr))
      have hbz := Lib.hid (below_setRow hb'.out (Nat.le_refl _) (lrF l).arr)
      generalize ((((wr.setCell ⟨w.heap.size + 1, l * 4, none⟩ (.int .i64 1)).setCell ⟨w.heap.size + 1, l * 4 + 1, none⟩ (.int .i64 1)).setCell ⟨w.heap.size + 1, l * 4 + 2, none⟩ (.int .i64 1)).setCell ⟨w.heap.size + 1, l * 4 + 3, none⟩ (.int .i64 1)).setRow w.heap.size (lrF l).arr = w9 at *
      go_wp2_with fail
      exact bodyPost_ret (v := .agg (lrF l).arr) (results_cell Try.results43 _ _ _ (ad := ⟨w.heap.size, 0, none⟩) (by rfl) (run_loadVar_row (P := Try.prog) w9 w.heap.size 72 72 _ (0, 0) _ HZ.out und_r4 rfl info_r4)) rfl ⟨rfl, hbz.out⟩
end Go.Proofs.Ytkknhpailohjcaa
