/-
  RankOf in the program.
-/
import Derived.Test.YtchlipklmdlklaaPlace
import Derived.Test.YtchlipklmdlklaaPieceS
import Derived.Deep.RegionWith
namespace Go.Proofs.Ytchlipklmdlklaa
open Go.RowKit

def rkV (rs : List Fac) (l : Nat) (k : Nat) : Int := ((cnts rs).getD k Q4.nil).at_ l
theorem rkV_bound {rs : List Fac} {ls : List Int} (hls : gLens rs [] = some ls) (l : Nat) : ∀ k, k < rs.length → -(1 * ls.getD k 0) ≤ rkV rs l k ∧ rkV rs l k ≤ 1 * ls.getD k 0 := fun k hk => by
  have := (cnt_bound hls hk).at_ l
  have := lens_bound hls hk
  unfold rkV
  omega
def rankV (rs : List Fac) (s : ByteArray) (m : Int) : Value :=
  if (gOk rs).isSome = false then tup2 0 1 else if letT s = false then tup2 0 1 else if inB m 0 (lastI ((gLens rs []).getD [])) = false then tup2 0 2
  else tup2 (rkT (rkV rs (letN s)) ((gLens rs []).getD []) rs m) 0
theorem rankV_form (rs : List Fac) (s : ByteArray) (m : Int) : ∃ b k, rankV rs s m = .tuple #[.int .i64 b, .int .i64 k] := by
  unfold rankV
  split
  · exact ⟨_, _, rfl⟩
  split
  · exact ⟨_, _, rfl⟩
  split
  · exact ⟨_, _, rfl⟩
  · exact ⟨_, _, rfl⟩
theorem rankV1 {rs : List Fac} {s : ByteArray} {m : Int} (h : (gOk rs).isSome = false) : rankV rs s m = tup2 0 1 := by unfold rankV; rw [if_pos h]
theorem rankV2 {rs : List Fac} {s : ByteArray} {m : Int} (h : (gOk rs).isSome = true) (h2 : letT s = false) : rankV rs s m = tup2 0 1 := by unfold rankV; rw [if_neg (by rw [h]; decide), if_pos h2]
theorem rankV3 {rs : List Fac} {ls : List Int} {s : ByteArray} {m : Int} (hls : gLens rs [] = some ls) (h : (gOk rs).isSome = true) (h2 : letT s = true) (h3 : inB m 0 (lastI ls) = false) : rankV rs s m = tup2 0 2 := by
  unfold rankV; rw [if_neg (by rw [h]; decide), if_neg (by rw [h2]; decide), hls, if_pos (show inB m 0 (lastI ((some ls).getD [])) = false from h3)]
theorem rankV4 {rs : List Fac} {ls : List Int} {s : ByteArray} {m : Int} (hls : gLens rs [] = some ls) (h : (gOk rs).isSome = true) (h2 : letT s = true) (h3 : inB m 0 (lastI ls) = true) : rankV rs s m = tup2 (rkT (rkV rs (letN s)) ls rs m) 0 := by
  have : ¬ inB m 0 (lastI (Option.getD (some ls) [])) = false := by show ¬ inB m 0 (lastI ls) = false; rw [h3]; decide
  unfold rankV; rw [if_neg (by rw [h]; decide), if_neg (by rw [h2]; decide), hls, if_neg this]; rfl
theorem lastI_bound {rs : List Fac} {ls : List Int} (hls : gLens rs [] = some ls) (hl : ls.length = rs.length) : 0 ≤ lastI ls ∧ lastI ls ≤ 1000000000000000 := by
  unfold lastI
  by_cases h0 : rs.length = 0
  · rw [List.eq_nil_of_length_eq_zero (hl.trans h0)]; show (0 : Int) ≤ 0 ∧ (0 : Int) ≤ 1000000000000000; omega
  · have := lens_bound hls (i := ls.length - 1) (by omega)
    omega
set_option maxHeartbeats 1000000 in
set_option maxRecDepth 100000 in
theorem rank1_any (k : Nat) (o : Int) (ob cb lb : Nat) (A2 A3 A : Option Addr) (c n3 c2 c3 n : Nat) (l : Nat) (cs : List Q4) (w : World) (hob : Blk w ob 2 #[.int .i64 o]) (hcb : Blk w cb 63 #[.slice A n c, .slice A2 n c2, .slice A3 n3 c3]) (hlb : Blk w lb 5 #[.int .u8 (l : Int)])
    (hl : l < 4) (hC : Rd w w.heap.size A3 n3 4 encQ4 cs) (hk : k < n3) :
    Calls Try.prog 77 #[.int .i64 (k : Int), .pointer (some ⟨ob, 0, none⟩), .pointer (some ⟨cb, 0, none⟩), .pointer (some ⟨lb, 0, none⟩)] w (fun e w' => e = .returned (.tuple #[]) ∧ w.grownBy w' (some ob) ∧ Blk w' ob 2 #[.int .i64 (wrap64 (o + (cs.getD k Q4.nil).at_ l))]) := by
  obtain ⟨p3, o3, rfl, hB3, e3⟩ := hC.q4 (k := k) (by omega) hl
  have d0 := hob.cell 0
  have z0 := hob.lt
  have f0 := hob.frozen 0
  obtain ⟨d1, d2, d3⟩ := hcb.three
  have z1 := hcb.lt
  have d4 := hlb.cell 0
  have z2 := hlb.lt
  generalize (cs.getD k Q4.nil).at_ l = v at *
  have i0 : (0 : Int) ≤ (l : Int) := by omega
  have i1 : (l : Int) < 4 := by omega
  have i2 : (0 : Int) ≤ (k : Int) := by omega
  have i3 : (k : Int) < n3 := by omega
  have HB := Lib.hid hob
  clear hob hcb hlb hC
  go_enter Try.func77, Try.ntmps77
  go_wp2_with fail
  go_region
  generalize hW : (w.setCell ⟨ob, 0, none⟩ (.int .i64 (wrap64 (o + v)))).drew = w8
  have H8 := Lib.hid hW.symm; clear hW
  go_wp2_with fail
  go_end0
  refine ⟨rfl, ?_, ?_⟩
  · rw [H8.out]; exact gb_trans (gb_set w ob 0 _) (gb_below (Below.refl _ _).drew)
  · rw [H8.out]; exact HB.out.set_ 0 _
set_option maxHeartbeats 1000000 in
set_option maxRecDepth 100000 in
theorem rank_any (A : Option Addr) (n c : Nat) (rs : List Fac) (A2 : Option Addr) (c2 : Nat) (A3 : Option Addr) (N c3 : Nat) (ls : List Int) (l : Nat) (m : Int) (w : World) (hn : n ≤ 1048576) (hr : Rd w w.heap.size A n 3 Fac.cells rs)
    (hls : gLens rs [] = some ls) (h2 : Rd w w.heap.size A2 n 1 intE ls) (hN : (foldAll Q4.nil cntF cntG Q4.nil rs).length = N) (h3 : Rd w w.heap.size A3 N 4 encQ4 (foldAll Q4.nil cntF cntG Q4.nil rs)) (hl4 : l < 4) (hm0 : 0 ≤ m) (hm1 : m ≤ 1000000000000000) :
    Calls Try.prog 65 #[.agg #[.slice A n c, .slice A2 n c2, .slice A3 N c3], .int .u8 (l : Int), .int .i64 m] w (Ret (.int .i64 (rkT (rkV rs l) ls rs m)) w) := by
  have hl := Lib.hid hr.len
  have HR := Lib.hid hr; clear hr
  have HL := Lib.hid hls; clear hls
  have HN := Lib.hid hN; clear hN
  have r2 := Lib.hid h2; clear h2
  have r3 := Lib.hid h3; clear h3
  have hfw := Lib.hid (fold_pcsT HL.out hm0 (by omega) (rkV_bound HL.out l) (by omega))
  go_enter Try.func65, Try.ntmps65
  go_wp2_with fail
  refine namedC fun w0 H0 => ?_
  have hb0 : Below w.heap.size w w0 := by rw [H0.out]; (repeat first | exact Below.refl _ _ | assumption | refine Below.drew ?_ | refine Below.alloc ?_ (by first | exact Nat.le_refl _ | (simp; done) | omega | (simp; omega)) _ | refine Below.setCell ?_ (by first | exact Nat.le_refl _ | (simp; done) | omega | (simp; omega)) _)
  have BC := Lib.hid (show Blk w0 w.heap.size 63 #[.slice A n c, .slice A2 n c2, .slice A3 N c3] by rw [H0.out]; exact ((Blk.new w _ _).alloc _).alloc _)
  have BL := Lib.hid (show Blk w0 (w.heap.size + 1) 5 #[.int .u8 (l : Int)] by rw [H0.out]; simpa using (Blk.new (w.alloc _) _ _).alloc _)
  have BO := Lib.hid (show Blk w0 (w.heap.size + 1 + 1) 2 #[.int .i64 0] by rw [H0.out]; simpa using Blk.new ((w.alloc _).alloc _) _ _)
  clear H0
  have hp := pieces_any (fun (s : Int) (w' : World) => Blk w' (w.heap.size + 1 + 1) 2 #[.int .i64 s] ∧ Blk w' w.heap.size 63 #[.slice A n c, .slice A2 n c2, .slice A3 N c3] ∧ Blk w' (w.heap.size + 1) 5 #[.int .u8 (l : Int)] ∧ Rd w' w.heap.size A3 N 4 encQ4 (foldAll Q4.nil cntF cntG Q4.nil rs))
    (fun s k => wrap64 (s + rkV rs l k)) (fun s wa wb h hb => ⟨h.1.next hb, h.2.1.next hb, h.2.2.1.next hb, h.2.2.2.next' (by have := h.2.1.lt; omega) hb⟩)
    w.heap.size (w.heap.size + 1 + 1) w0.heap.size (by omega) BO.out.lt A n c rs A2 c2 ls 0 m 77 (enterOk Try.func77 (by kernel_rfl) (by kernel_rfl)) #[.pointer (some ⟨w.heap.size + 1 + 1, 0, none⟩), .pointer (some ⟨w.heap.size, 0, none⟩), .pointer (some ⟨w.heap.size + 1, 0, none⟩)] hn HL.out
    (fun s k wa hk h => by
      have hfa := foldAll_pos Q4.nil cntF cntG Q4.nil (rs := rs) (by have := hl.out; omega)
      have hNn : N = n := by rw [← HN.out, hfa, full_len]; exact hl.out
      have hr3 := h.2.2.2.more (B' := wa.heap.size) (by have := h.2.1.lt; omega)
      rw [hfa] at hr3
      have hc := rank1_any k s (w.heap.size + 1 + 1) w.heap.size (w.heap.size + 1) A2 A3 A c N c2 c3 n l (cnts rs) wa h.1 h.2.1 h.2.2.1 hl4 hr3 (by omega)
      refine (by simpa using hc : Calls _ _ _ _ _).mono ?_
      rintro e w' ⟨rfl, hg, hB⟩
      refine ⟨rfl, hg, hB, h.2.1.grown hg (by intro e; injection e with e; omega), h.2.2.1.grown hg (by intro e; injection e with e; omega), h.2.2.2.grown (by have := h.2.1.lt; omega) hg (fun k hk => by injection hk with hk; omega)⟩)
    0 w0 rfl (HR.out.below hb0) (r2.out.below hb0) ⟨BO.out, BC.out, BL.out, r3.out.below hb0⟩
  refine hp.mono ?_
  rintro e w1 ⟨rfl, hg1, hB1, hB2, hB3, hB4⟩
  rw [hfw.out] at hB1
  generalize rkT (rkV rs l) ls rs m = y at *
  have d0 := hB1.cell 0
  have z0 := hB1.lt
  have G1 := Lib.hid hg1
  clear hg1 hB1 hB2 hB3 hB4 hp
  go_wp2_with fail
  go_ret
  exact ⟨rfl, hb0.grown G1.out hb0.size (fun k hk => by injection hk with hk; omega)⟩
end Go.Proofs.Ytchlipklmdlklaa
