/-
  The least places at which a word is scattered: in the program.
-/
import Derived.Test.YtchlipklmdlklaaEmb
import Derived.Deep.RegionHeld3
namespace Go.Proofs.Ytchlipklmdlklaa
open Go.RowKit

theorem okW_b {p : ByteArray} (h : okW p = true) : p.size ≤ 2000 ∧ ∀ i (hi : i < p.size), letB (p[i]'hi) = true := by
  simp only [okW, Bool.and_eq_true, decide_eq_true_eq, List.all_eq_true] at h
  refine ⟨h.1, fun i hi => h.2 _ ?_⟩
  exact List.mem_of_getElem? (at_byte p i hi)
set_option maxHeartbeats 4000000 in
set_option maxRecDepth 100000 in
theorem embed_any (A : Option Addr) (n c : Nat) (rs : List Fac) (A2 : Option Addr) (c2 : Nat) (A3 : Option Addr) (N c3 : Nat) (ls : List Int) (p : ByteArray) (w : World) (hn : n ≤ 1048576) (hr : Rd w w.heap.size A n 3 Fac.cells rs)
    (hls : gLens rs [] = some ls) (hll : ls.length = rs.length) (h2 : Rd w w.heap.size A2 n 1 intE ls) (hN : (foldAll Q4.nil cntF cntG Q4.nil rs).length = N) (h3 : Rd w w.heap.size A3 N 4 encQ4 (foldAll Q4.nil cntF cntG Q4.nil rs)) (hp : okW p = true) :
    Calls Try.prog 36 #[.agg #[.slice A n c, .slice A2 n c2, .slice A3 N c3], .string p] w (RetNew w 2 1 intE (embAll rs ls p)) := by
  have hl := Lib.hid hr.len
  have HR := Lib.hid hr; clear hr
  have HL := Lib.hid hls; clear hls
  have Hll := Lib.hid hll; clear hll
  have HN := Lib.hid hN; clear hN
  have r2 := Lib.hid h2; clear h2
  have r3 := Lib.hid h3; clear h3
  have hps := (okW_b hp).1
  have HP := Lib.hid (okW_b hp).2; clear hp
  have hlb := lastI_bound HL.out Hll.out
  have hbl := byte_len p
  go_enter Try.func36, Try.ntmps36
  go_wp2_with fail
  go_loopw [5, 6, 14] (fun o_ n_ i_ w' => ∃ (i : Nat) (nx : Int) (o : List Int) (A' : Option Addr) (c' : Nat), i_ = .int .i64 i ∧ n_ = .int .i64 nx ∧ o_ = .slice A' o.length c' ∧ i ≤ p.size ∧ o.length ≤ i ∧ Below w.heap.size w w' ∧
      Hid (w'.ownsRow w.heap.size 2 1 (.slice A' o.length c') o.length (o.flatMap intE)) ∧ Hid (Blk w' w.heap.size 63 #[.slice A n c, .slice A2 n c2, .slice A3 N c3]) ∧ (0 ≤ nx ∧ nx ≤ lastI ls) ∧
      Hid (embAll rs ls p = o ++ embGo rs ls (p.data.toList.drop i) nx)) (fun _ _ i_ _ => p.size - (intOf i_).toNat)
  case atStart =>
    exact ⟨0, 0, [], _, 0, rfl, rfl, rfl, by omega, by simp, by (repeat first | exact Below.refl _ _ | assumption | refine Below.drew ?_ | refine Below.alloc ?_ (by first | exact Nat.le_refl _ | (simp; done) | omega | (simp; omega)) _ | refine Below.setCell ?_ (by first | exact Nat.le_refl _ | (simp; done) | omega | (simp; omega)) _),
      Lib.hid (by simpa using World.ownsRow_made (base := w.heap.size) (e := 2) (size := 1) (w.alloc (.cells #[.slice A n c, .slice A2 n c2, .slice A3 N c3] 63)) #[] 0 (by simp) (by unfold maxLen; omega) rfl),
      Lib.hid ((Blk.new w _ _).alloc _), by omega, Lib.hid rfl⟩
  case round =>
    obtain ⟨i, nx, o, A', c', rfl, rfl, rfl, hi, hoi, hb, hown, hBC, ⟨n1, n2⟩, H⟩ := hrel
    by_cases hlt : i < p.size
    · have hlet := HP.out i hlt
      obtain ⟨k0, k1⟩ := letB_num hlet
      have H' := Lib.hid (show embAll rs ls p = o ++ (if (topQ rs).at_ ((p[i]'hlt).toNat - 97) ≤ rkT (rkV rs ((p[i]'hlt).toNat - 97)) ls rs nx then [] else nextAt rs ls ((p[i]'hlt).toNat - 97) nx :: embGo rs ls (p.data.toList.drop (i + 1)) (nextAt rs ls ((p[i]'hlt).toNat - 97) nx + 1)) by
        rw [H.out, drop_cons (at_byte p i hlt)]; rfl)
      have v1 : IntKind.u8.wrap (((p[i]'hlt).toNat : Int) - 97) = (((p[i]'hlt).toNat - 97 : Nat) : Int) := by show (((p[i]'hlt).toNat : Int) - 97) % 256 = _; omega
      have hl4 : (p[i]'hlt).toNat - 97 < 4 := by omega
      clear H hlet
      generalize hgl : (p[i]'hlt).toNat - 97 = l at *
      have hd : Below wr.heap.size wr wr.drew := (Below.refl _ _).drew
      have hbd := rkT_b HL.out l n1
      obtain ⟨q0, q1⟩ := hbd
      have hrk := Lib.hid (rank_any A n c rs A2 c2 A3 N c3 ls l nx wr.drew hn (HR.out.next (hb.trans (hd.mono hb.size))) HL.out (r2.out.next (hb.trans (hd.mono hb.size))) HN.out (r3.out.next (hb.trans (hd.mono hb.size))) hl4 n1 (by omega))
      have hsel := Lib.hid (fun (v : Value) hv (w' : World) (hb' : Below wr.heap.size wr w') => sel_any A n c rs A2 c2 A3 N c3 ls l (rkT (rkV rs l) ls rs nx) w' hn (HR.out.next (hb.trans (hb'.mono hb.size))) HL.out (r2.out.next (hb.trans (hb'.mono hb.size))) HN.out (r3.out.next (hb.trans (hb'.mono hb.size))) hl4 q0 (by omega) v hv)
      have hNA := Lib.hid (fun h => nextAt_b HL.out Hll.out hl4 n1 h)
      have enx := Lib.hid (show nextAt rs ls l nx = selGo (cnts rs) ls rs l rs.length (rs.length - 1) (rkT (rkV rs l) ls rs nx) 0 from rfl)
      obtain ⟨d0, d1, d2⟩ := hBC.out.three
      have lc := hBC.out.lt
      rw [enx.out] at H' hNA
      generalize rkT (rkV rs l) ls rs nx = y at *
      generalize selGo (cnts rs) ls rs l rs.length (rs.length - 1) y 0 = z at *
      by_cases hf : (topQ rs).at_ l ≤ y
      · rw [if_pos hf] at H'
        have hs4 := Lib.hid (hsel.out _ (if_pos hf))
        clear hf hsel hNA
        go_wp2_with fail
        go_region_held3 (fun w' => w'.cell? ⟨w.heap.size, 0, none⟩ = some (.slice A n c) ∧ w'.cell? ⟨w.heap.size, 1, none⟩ = some (.slice A2 n c2) ∧ w'.cell? ⟨w.heap.size, 2, none⟩ = some (.slice A3 N c3))
          (first | exact ⟨t0, t1, t2⟩ | exact ⟨s0, s1, s2⟩ | exact ⟨d0, d1, d2⟩ | go_keep)
          (first
            | (go_at_call 65
               refine hrk.out.mono ?_
               rintro e w6 ⟨rfl, hb6⟩
               have b6 : Below wr.heap.size wr w6 := hd.trans (hb6.mono hd.size)
               have s0 : w6.cell? ⟨w.heap.size, 0, none⟩ = some (.slice A n c) := (b6.cell (p := ⟨w.heap.size, 0, none⟩) lc).trans d0
               have s1 : w6.cell? ⟨w.heap.size, 1, none⟩ = some (.slice A2 n c2) := (b6.cell (p := ⟨w.heap.size, 1, none⟩) lc).trans d1
               have s2 : w6.cell? ⟨w.heap.size, 2, none⟩ = some (.slice A3 N c3) := (b6.cell (p := ⟨w.heap.size, 2, none⟩) lc).trans d2)
            | (go_at_call 64
               refine (hs4.out w6 b6).mono ?_
               rintro e w7 ⟨rfl, hb7⟩
               have b7 : Below wr.heap.size wr w7 := b6.trans (hb7.mono b6.size)
               have t0 : w7.cell? ⟨w.heap.size, 0, none⟩ = some (.slice A n c) := (b7.cell (p := ⟨w.heap.size, 0, none⟩) lc).trans d0
               have t1 : w7.cell? ⟨w.heap.size, 1, none⟩ = some (.slice A2 n c2) := (b7.cell (p := ⟨w.heap.size, 1, none⟩) lc).trans d1
               have t2 : w7.cell? ⟨w.heap.size, 2, none⟩ = some (.slice A3 N c3) := (b7.cell (p := ⟨w.heap.size, 2, none⟩) lc).trans d2)
            | fail)
        all_goals
          go_wp2_with fail
          go_ret
          refine ⟨A', c', ret_slice (by rw [H'.out]; simp), ?_, hb.trans (b7.mono hb.size)⟩
          rw [show embAll rs ls p = o by rw [H'.out]; simp]
          exact own_next hown.out b7
      · rw [if_neg hf] at H'
        have hs4 := Lib.hid (hsel.out _ (if_neg hf))
        have hN2 := hNA.out (by simpa using hf)
        obtain ⟨z0, z1⟩ := hN2
        have u1 : IntKind.i64.wrap (z + 1) = z + 1 := IntWalk.i64_in _ (by omega)
        clear hf hsel hNA
        go_wp2_with fail
        go_region_held3 (fun w' => w'.cell? ⟨w.heap.size, 0, none⟩ = some (.slice A n c) ∧ w'.cell? ⟨w.heap.size, 1, none⟩ = some (.slice A2 n c2) ∧ w'.cell? ⟨w.heap.size, 2, none⟩ = some (.slice A3 N c3))
          (first | exact ⟨t0, t1, t2⟩ | exact ⟨s0, s1, s2⟩ | exact ⟨d0, d1, d2⟩ | go_keep)
          (first
            | (go_at_call 65
               refine hrk.out.mono ?_
               rintro e w6 ⟨rfl, hb6⟩
               have b6 : Below wr.heap.size wr w6 := hd.trans (hb6.mono hd.size)
               have s0 : w6.cell? ⟨w.heap.size, 0, none⟩ = some (.slice A n c) := (b6.cell (p := ⟨w.heap.size, 0, none⟩) lc).trans d0
               have s1 : w6.cell? ⟨w.heap.size, 1, none⟩ = some (.slice A2 n c2) := (b6.cell (p := ⟨w.heap.size, 1, none⟩) lc).trans d1
               have s2 : w6.cell? ⟨w.heap.size, 2, none⟩ = some (.slice A3 N c3) := (b6.cell (p := ⟨w.heap.size, 2, none⟩) lc).trans d2)
            | (go_at_call 64
               refine (hs4.out w6 b6).mono ?_
               rintro e w7 ⟨rfl, hb7⟩
               have b7 : Below wr.heap.size wr w7 := b6.trans (hb7.mono b6.size)
               have t0 : w7.cell? ⟨w.heap.size, 0, none⟩ = some (.slice A n c) := (b7.cell (p := ⟨w.heap.size, 0, none⟩) lc).trans d0
               have t1 : w7.cell? ⟨w.heap.size, 1, none⟩ = some (.slice A2 n c2) := (b7.cell (p := ⟨w.heap.size, 1, none⟩) lc).trans d1
               have t2 : w7.cell? ⟨w.heap.size, 2, none⟩ = some (.slice A3 N c3) := (b7.cell (p := ⟨w.heap.size, 2, none⟩) lc).trans d2)
            | fail)
        all_goals
          have hown7 := Lib.hid (own_next hown.out b7)
          have BC7 := Lib.hid (hBC.out.next b7)
          have cb7 := hb.trans (b7.mono hb.size)
          have hne := Lib.hid (show some w.heap.size ≠ (Value.slice A' o.length c').ownBlock from own_blk_ne hown7.out BC7.out (by decide))
          have BC8 := Lib.hid (BC7.out.alloc (.cells #[.int .i64 z] 2))
          have cb8 := cb7.alloc cb7.size (.cells #[.int .i64 z] 2)
          clear s0 s1 s2 t0 t1 t2 d0 d1 d2
          go_wp2_with
            (at_builtin
             refine wpList_push (w0 := w) rfl _ _ _ rfl w.heap.size 2 1 8 elem_int intE _ o.length c' o rfl (hown7.out.alloc _) w7.heap.size z #[.int .i64 z] 2 (0, 0) rfl (heap_alloc_new _ _) rfl rfl (by simp [intE, Value.oneCell']) (by omega) (by omega) (by unfold maxLen; omega) rfl cb8 ?_
             intro A9 c9 w9 own9 hg9 hat9 hb9
             have O9 := Lib.hid own9
             have BC9 := Lib.hid (BC8.out.grown hg9 hne.out)
             clear own9 hat9 hg9)
          clear u1
          go_roundw
          case rel =>
            refine ⟨i + 1, z + 1, o ++ [z], A9, c9, by go_num, rfl, by simp, by omega, by simp; omega, hb9, Lib.hid ?_, BC9, by omega, Lib.hid (by rw [H'.out]; simp)⟩
            simpa using O9.out
          case measure => simp [intOf]; omega
    · have H' := Lib.hid (show embAll rs ls p = o by rw [H.out, List.drop_of_length_le (by rw [hbl]; omega)]; simp [embGo])
      go_wp2_with fail
      go_ret
      refine ⟨A', c', ret_slice (by rw [H'.out]), ?_, hb⟩
      rw [H'.out]
      exact hown.out
end Go.Proofs.Ytchlipklmdlklaa
