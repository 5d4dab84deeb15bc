/-
  The longest runs of the letters in the program: the whole.
-/
import Derived.Test.YtkknhpailohjcaaLrJ
import Derived.Test.YtkknhpailohjcaaGramV
import Derived.Test.YtkknhpailohjcaaFoldT
namespace Go.Proofs.Ytkknhpailohjcaa
open Go.RowKit

theorem stopS {P : Program} {ops : Array Oper} {Q : Exit → Act → World → Prop} {a : Act} {w : World} {d : Option Tmp} {x y : Operand} {t : TypeId} {pos : String} {af : Array Edge} {g : Option (Tmp × Bool)} {rest : List Oper} (h : Stop (wpList P ops Q (⟨d, .store 72 x y, t, pos, af, g⟩ :: rest) a w)) : wpList P ops Q (⟨d, .store 72 x y, t, pos, af, g⟩ :: rest) a w := h
def lrL (rs : List Fac) : List Int := if (gOk rs).isSome = false then [] else lrTop rs
def lrC (rs : List Fac) : Int := if (gOk rs).isSome = false then 1 else 0
theorem lrTop_len (rs : List Fac) : (lrTop rs).length = 4 := by
  unfold lrTop
  split
  · rfl
  · simp
theorem lrL_len (rs : List Fac) : (lrL rs).length ≤ 4 := by
  unfold lrL
  split
  · simp
  · rw [lrTop_len]; omega
theorem lrTop_at (rs : List Fac) {k : Nat} (h : k < 4) : (lrTop rs)[k]? = some ((if rs.length = 0 then R4.nil else (lrAll rs).getD (rs.length - 1) R4.nil).at_ k).m := by
  unfold lrTop
  split
  · match k, h with
    | 0, _ => rfl
    | 1, _ => rfl
    | 2, _ => rfl
    | 3, _ => rfl
  · rw [List.getElem?_map, List.getElem?_range h]; rfl
set_option maxHeartbeats 2000000 in
set_option maxRecDepth 100000 in
theorem topR_any (A : Option Addr) (n c : Nat) (xs : List R4) (w : World) (hn : n ≤ 1048577) (h0 : 0 < n) (hr : Rd w w.heap.size A n 16 encR4 xs) :
    Calls Try.prog 45 #[.slice A n c] w (Ret (.agg (xs.getD (n - 1) R4.nil).arr) w) := by
  obtain ⟨b, o, rfl, hB, x, gx, hc⟩ := hr.at_ (k := n - 1) (by omega)
  have e1 := Lib.hid (show xs.getD (n - 1) R4.nil = x by rw [List.getD_eq_getElem?_getD, gx]; rfl)
  have c0 : w.cell? ⟨b, o + (n - 1) * 16, none⟩ = some (.int .i64 x.f0) := hc 0 _ rfl
  have c1 : w.cell? ⟨b, o + (n - 1) * 16 + 1, none⟩ = some (.int .i64 x.l0) := hc 1 _ rfl
  have c2 : w.cell? ⟨b, o + (n - 1) * 16 + 2, none⟩ = some (.int .i64 x.m0) := hc 2 _ rfl
  have c3 : w.cell? ⟨b, o + (n - 1) * 16 + 3, none⟩ = some (.int .i64 x.n0) := hc 3 _ rfl
  have c4 : w.cell? ⟨b, o + (n - 1) * 16 + 4, none⟩ = some (.int .i64 x.f1) := hc 4 _ rfl
  have c5 : w.cell? ⟨b, o + (n - 1) * 16 + 5, none⟩ = some (.int .i64 x.l1) := hc 5 _ rfl
  have c6 : w.cell? ⟨b, o + (n - 1) * 16 + 6, none⟩ = some (.int .i64 x.m1) := hc 6 _ rfl
  have c7 : w.cell? ⟨b, o + (n - 1) * 16 + 7, none⟩ = some (.int .i64 x.n1) := hc 7 _ rfl
  have c8 : w.cell? ⟨b, o + (n - 1) * 16 + 8, none⟩ = some (.int .i64 x.f2) := hc 8 _ rfl
  have c9 : w.cell? ⟨b, o + (n - 1) * 16 + 9, none⟩ = some (.int .i64 x.l2) := hc 9 _ rfl
  have c10 : w.cell? ⟨b, o + (n - 1) * 16 + 10, none⟩ = some (.int .i64 x.m2) := hc 10 _ rfl
  have c11 : w.cell? ⟨b, o + (n - 1) * 16 + 11, none⟩ = some (.int .i64 x.n2) := hc 11 _ rfl
  have c12 : w.cell? ⟨b, o + (n - 1) * 16 + 12, none⟩ = some (.int .i64 x.f3) := hc 12 _ rfl
  have c13 : w.cell? ⟨b, o + (n - 1) * 16 + 13, none⟩ = some (.int .i64 x.l3) := hc 13 _ rfl
  have c14 : w.cell? ⟨b, o + (n - 1) * 16 + 14, none⟩ = some (.int .i64 x.m3) := hc 14 _ rfl
  have c15 : w.cell? ⟨b, o + (n - 1) * 16 + 15, none⟩ = some (.int .i64 x.n3) := hc 15 _ rfl
  clear gx hc hr
  have hb0 : Below w.heap.size w (w.alloc (.cells R4.nil.arr 72)) := by (repeat first | exact Below.refl _ _ | assumption | refine Below.drew ?_ | refine Below.alloc ?_ (by first | exact Nat.le_refl _ | (simp; done) | omega | (simp; omega)) _ | refine Below.setCell ?_ (by first | exact Nat.le_refl _ | (simp; done) | omega | (simp; omega)) _)
  have BX := Lib.hid (Blk.new w 72 R4.nil.arr)
  have hb0' := Lib.hid hb0
  go_enter Try.func45, Try.ntmps45
  go_wp2_with (with_reducible refine stopS ?_)
  unfold Stop
  refine wpList_store_row rfl 72 _ _ rfl w.heap.size x.arr rfl rfl 72 _ BX.out info_r4 rfl (R4.arr_one _) ?_
  have HZ := Lib.hid (BX.out.row (cs' := x.arr))
  have hbz := Lib.hid (below_setRow hb0'.out (Nat.le_refl _) x.arr)
  go_wp2_with fail
  exact bodyPost_ret (v := .agg x.arr) (results_cell Try.results45 _ _ _ (ad := ⟨w.heap.size, 0, none⟩) (by rfl) (run_loadVar_row (P := Try.prog) _ w.heap.size 72 72 _ (0, 0) _ HZ.out und_r4 rfl info_r4)) rfl ⟨by rw [e1.out], hbz.out⟩
set_option maxHeartbeats 2000000 in
set_option maxRecDepth 100000 in
theorem implLr_any (A : Option Addr) (n c : Nat) (rs : List Fac) (w : World) (hn : n ≤ 1048576) (hr : Rd w w.heap.size A n 3 Fac.cells rs) (hok : ∀ f ∈ rs, f.l.size ≤ maxLen) :
    Calls Try.prog 12 #[.agg #[.slice A n c]] w (RetNewC w 2 1 intE (lrL rs) (lrC rs)) := by
  have hb0 : Below w.heap.size w (w.alloc (.cells #[.slice A n c] 31)) := by (repeat first | exact Below.refl _ _ | assumption | refine Below.drew ?_ | refine Below.alloc ?_ (by first | exact Nat.le_refl _ | (simp; done) | omega | (simp; omega)) _ | refine Below.setCell ?_ (by first | exact Nat.le_refl _ | (simp; done) | omega | (simp; omega)) _)
  have hB0 := Lib.hid (Blk.new w 31 #[.slice A n c])
  have hl := Lib.hid hr.len
  have HR := Lib.hid hr; clear hr
  have HO := Lib.hid hok; clear hok
  rcases hg : gOk rs with _ | ls
  · have e1 := Lib.hid (show lrL rs = [] by unfold lrL; rw [hg]; rfl)
    have e2 := Lib.hid (show lrC rs = 1 by unfold lrC; rw [hg]; rfl)
    have HG := Lib.hid (show (gOk rs).isSome = false by rw [hg]; rfl)
    clear hg
    go_enter Try.func12, Try.ntmps12
    go_wp2_with fail
    refine (validG_any A n c rs _ (by omega) (HR.out.next hb0) HO.out false HG.out).mono ?_
    rintro e w1 ⟨rfl, hb1⟩
    go_wp2_with fail
    go_ret2
    refine ⟨none, 0, by rw [e1.out, e2.out]; rfl, ?_, hb0.trans (hb1.mono hb0.size)⟩
    rw [e1.out]
    exact World.ownsRow_nil _ _ _ _
  have e1 := Lib.hid (show lrL rs = lrTop rs by unfold lrL; rw [hg]; rfl)
  have e2 := Lib.hid (show lrC rs = 0 by unfold lrC; rw [hg]; rfl)
  have HG := Lib.hid (show (gOk rs).isSome = true by rw [hg]; rfl)
  have HL := Lib.hid (gOk_lens hg).1
  clear hg
  go_enter Try.func12, Try.ntmps12
  go_wp2_with fail
  refine (validG_any A n c rs _ (by omega) (HR.out.next hb0) HO.out true HG.out).mono ?_
  rintro e w1 ⟨rfl, hb1⟩
  have b1 := hb0.trans (hb1.mono hb0.size)
  have cg1 := (hB0.out.next hb1).cell 0
  have lg1 := (hB0.out.next hb1).lt
  go_wp2_with fail
  clear cg1 lg1
  refine (foldR_any 43 44 (enterOk Try.func43 (by kernel_rfl) (by kernel_rfl)) (enterOk Try.func44 (by kernel_rfl) (by kernel_rfl)) #[] #[] lrF lrG R4.nil A n c rs w1 hn (HR.out.next b1) (wf_of HL.out) ?_ ?_).mono ?_
  · intro k r hr h0 w' hb'
    rcases wf_of HL.out k r hr with ⟨h0', _⟩ | ⟨cc, hcc, hxl, _⟩
    · exact absurd h0' h0
    · exact lr1_any (letN r.l) w' (letN_lt (by rw [hxl]; exact hcc))
  · intro k r hr h0 w' hb'
    have hk : k < rs.length := (List.getElem?_eq_some_iff.1 hr).1
    rcases wf_of HL.out k r hr with ⟨_, ha0, ha1, hb0, hb1⟩ | ⟨cc, _, hxl, _⟩
    · rw [outs_full R4.nil lrF lrG (k := k) (i := r.a.toNat) (by omega) (by omega), outs_full R4.nil lrF lrG (k := k) (i := r.b.toNat) (by omega) (by omega)]
      have q1 := lr_bound HL.out (k := r.a.toNat) (by omega)
      have q2 := lr_bound HL.out (k := r.b.toNat) (by omega)
      have m1 := lens_bound HL.out (i := r.a.toNat) (by omega)
      have m2 := lens_bound HL.out (i := r.b.toNat) (by omega)
      exact lr2_any ((lrAll rs).getD r.a.toNat R4.nil) ((lrAll rs).getD r.b.toNat R4.nil) r _ _ w' m1.1 m1.2 m2.1 m2.2 q1 q2
    · rw [hxl] at h0; exact absurd h0 (show ¬ (1 : Nat) = 0 by omega)
  rintro e4 w5 ⟨A3, c3, rfl, own5, hb5⟩
  have b5 := b1.trans (hb5.mono b1.size)
  have r5 := Lib.hid (Rd.of_own (enc := encR4) (fun y _ => lenR4 y) rfl own5)
  have hlf := foldAll_len R4.nil lrF lrG R4.nil rs
  have ht := Lib.hid (foldAll_top R4.nil lrF lrG R4.nil rs)
  clear own5
  generalize foldAll R4.nil lrF lrG R4.nil rs = out at *
  have hlo : out.length ≤ 1048577 := by have := hl.out; omega
  go_wp2_with fail
  have b56 : Below w5.heap.size w5 (w5.alloc (.cells #[] 2)) := by (repeat first | exact Below.refl _ _ | assumption | refine Below.drew ?_ | refine Below.alloc ?_ (by first | exact Nat.le_refl _ | (simp; done) | omega | (simp; omega)) _ | refine Below.setCell ?_ (by first | exact Nat.le_refl _ | (simp; done) | omega | (simp; omega)) _)
  refine (topR_any A3 _ c3 out _ hlo (by omega) (r5.out.next b56)).mono ?_
  rintro e4 w6 ⟨rfl, hb6⟩
  rw [ht.out]
  have HT := Lib.hid (fun (k : Nat) (hk : k < 4) => lrTop_at rs hk)
  generalize (if rs.length = 0 then R4.nil else (lrAll rs).getD (rs.length - 1) R4.nil) = y at *
  have hlen := Lib.hid (lrTop_len rs)
  have z5 := b5.size
  have own0 : (w5.alloc (.cells #[] 2)).ownsRow w.heap.size 2 1 (.slice (some ⟨w5.heap.size, 0, none⟩) 0 0) 0 (((lrTop rs).take 0).flatMap intE) := by
    simpa using World.ownsRow_made (base := w.heap.size) (e := 2) (size := 1) w5 #[] 0 z5 (by unfold maxLen; omega) rfl
  have O6 := Lib.hid (own_next own0 hb6)
  have b6 := b5.trans ((b56.trans (hb6.mono b56.size)).mono b5.size)
  clear own0 hlf r5 ht
  go_wp2_with fail
  go_loopw [5, 17] (fun o_ i_ w' => ∃ (k : Nat) (A' : Option Addr) (c' : Nat), i_ = .int .i64 k ∧ o_ = .slice A' k c' ∧ k ≤ 4 ∧ Hid (w'.ownsRow w.heap.size 2 1 (.slice A' k c') k (((lrTop rs).take k).flatMap intE)) ∧ Below w.heap.size w w') (fun _ i_ _ => 4 - (intOf i_).toNat)
  case atStart => exact ⟨0, _, 0, rfl, rfl, by omega, O6, b6⟩
  case round =>
    obtain ⟨k, A', c', rfl, rfl, hk, hown, hb⟩ := hrel
    by_cases hlt : k < 4
    · have ix := fun w => ixR y hlt w
      have hx := Lib.hid (HT.out k hlt)
      have hs := Lib.hid (show (lrTop rs).take (k + 1) = (lrTop rs).take k ++ [(y.at_ k).m] by rw [List.take_add_one, HT.out k hlt]; rfl)
      generalize y.at_ k = z at *
      obtain ⟨zf, zl, zm, zn⟩ := z
      simp only at ix hs
      have hgA : ((wr.alloc (.cells #[.int .i64 zf, .int .i64 zl, .int .i64 zm, .int .i64 zn] 71)).alloc (.cells #[.int .i64 zm] 2)).heap[wr.heap.size + 1]? = some (.cells #[.int .i64 zm] 2 (0, 0)) := by
        have h := heap_alloc_new (wr.alloc (.cells #[.int .i64 zf, .int .i64 zl, .int .i64 zm, .int .i64 zn] 71)) (.cells #[.int .i64 zm] 2)
        rw [show (wr.alloc (.cells #[.int .i64 zf, .int .i64 zl, .int .i64 zm, .int .i64 zn] 71)).heap.size = wr.heap.size + 1 by simp] at h
        exact h
      have HgA := Lib.hid hgA
      clear hgA
      go_wp2_with
        (at_builtin
         refine wpList_push (w0 := w) rfl _ _ _ rfl w.heap.size 2 1 8 elem_int intE _ k c' ((lrTop rs).take k) rfl ((hown.out.alloc _).alloc _) (wr.heap.size + 1) zm #[.int .i64 zm] 2 (0, 0) rfl HgA.out rfl rfl (by simp [intE, Value.oneCell']) (by omega) (by omega) (by unfold maxLen; omega) rfl ((hb.alloc hb.size _).alloc (by have := hb.size; simp; omega) _) ?_
         intro A9 c9 w9 own9 hg9 hat9 hb9
         have O9 := Lib.hid own9; clear own9)
      go_roundw
      case rel =>
        refine ⟨k + 1, A9, c9, by go_num, rfl, by omega, Lib.hid ?_, hb9⟩
        rw [hs.out]; exact O9.out
      case measure => simp [intOf]; omega
    · obtain rfl : k = 4 := by omega
      have e4 := Lib.hid (show (lrTop rs).take 4 = lrTop rs from List.take_of_length_le (by rw [hlen.out]; omega))
      go_wp2_with fail
      go_ret2
      refine ⟨A', c', by rw [e1.out, e2.out, hlen.out]; rfl, ?_, hb⟩
      rw [e1.out, hlen.out, ← e4.out]
      exact hown.out
end Go.Proofs.Ytkknhpailohjcaa
