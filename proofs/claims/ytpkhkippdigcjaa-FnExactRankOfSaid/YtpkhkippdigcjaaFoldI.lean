/-
  impl.folded at int64: what it makes of a grammar, by the contracts of the two functions that it is handed.
-/
import Derived.Test.YtpkhkippdigcjaaFoldM
import Derived.Test.YtpkhkippdigcjaaFrame
import Derived.Deep.RegionHeld3
namespace Go.Proofs.Ytpkhkippdigcjaa
open Go.RowKit

theorem calls_arg {P : Program} {f : FuncId} {a b : Int} {cl : Array Value} {w : World} {Q : Ending → World → Prop} (h : a = b) (hc : Calls P f (#[.int .i64 b] ++ cl) w Q) : Calls P f (#[.int .i64 a] ++ cl) w Q := by rw [h]; exact hc
/-- a function of the program's own, that can be called by its value -/
def EnterOk (f : FuncId) : Prop := ∀ (args : Array Value) (w : World), Sem.run Try.prog (callFunc f args) w = .ok (.enter f args) w
theorem enterOk {f : FuncId} {fn : Func} (h : Try.prog.funcs[f]? = some fn) (h1 : (fn.name == "runtime.NumGoroutine") = false) (h2 : fn.body.isNone = false) : EnterOk f := by
  intro args w
  have h3 : ¬ fn.name = "runtime.NumGoroutine" := by simpa using h1
  have h4 : ¬ fn.body = none := by intro e; rw [e] at h2; cases h2
  simp [callFunc, h, h3, h4]

set_option maxHeartbeats 1000000 in
set_option maxRecDepth 100000 in
theorem foldI_any (fl fp : Nat) (el : EnterOk fl) (ep : EnterOk fp) (cl cp : Array Value) (F : Nat → Int) (G : Int → Int → Fac → Int) (z : Int) (A : Option Addr) (n c : Nat) (rs : List Fac) (w : World) (hn : n ≤ 1048576) (hr : Rd w w.heap.size A n 3 Fac.cells rs) (hwf : WF rs)
    (hF : ∀ (k : Nat) (r : Fac), rs[k]? = some r → r.l.size ≠ 0 → ∀ w', Below w.heap.size w w' → Calls Try.prog fl (#[.int .i64 (letN r.l : Nat)] ++ cl) w' (Ret (.int .i64 (F (letN r.l))) w'))
    (hG : ∀ (k : Nat) (r : Fac), rs[k]? = some r → r.l.size = 0 → ∀ w', Below w.heap.size w w' →
      Calls Try.prog fp (#[.int .i64 ((outs 0 F G rs k).getD r.a.toNat 0), .int .i64 ((outs 0 F G rs k).getD r.b.toNat 0), r.val] ++ cp) w' (Ret (.int .i64 (G ((outs 0 F G rs k).getD r.a.toNat 0) ((outs 0 F G rs k).getD r.b.toNat 0) r)) w')) :
    Calls Try.prog 56 #[.agg #[.slice A n c], .int .i64 z, .func (.func fl) #[] cl, .func (.func fp) #[] cp] w (RetNew w 2 1 intE (foldAll 0 F G z rs)) := by
  have hl := Lib.hid hr.len
  have HF := Lib.hid hF; clear hF
  unfold EnterOk at el ep
  have HG := Lib.hid hG; clear hG
  have HW := Lib.hid hwf; clear hwf
  go_enter Try.func56, Try.ntmps56
  go_wp2_with fail
  go_loopw [9, 16] (fun o_ i_ w' => ∃ (k : Nat) (A' : Option Addr) (c' : Nat), i_ = .int .i64 k ∧ o_ = .slice A' k c' ∧ k ≤ n ∧
      Hid (w'.ownsRow w.heap.size 2 1 (.slice A' k c') k ((outs 0 F G rs k).flatMap intE)) ∧ Below w.heap.size w w') (fun _ i_ _ => n - (intOf i_).toNat)
  case atStart =>
    exact ⟨0, _, 0, rfl, rfl, by omega, Lib.hid (by simpa [outs, foldG] using World.ownsRow_made (base := w.heap.size) (e := 2) (size := 1) (w.alloc (.cells #[.slice A n c] 30)) #[] 0 (by simp) (by unfold maxLen; omega) rfl), by (repeat first | exact Below.refl _ _ | assumption | refine Below.drew ?_ | refine Below.alloc ?_ (by first | exact Nat.le_refl _ | (simp; done) | omega | (simp; omega)) _ | refine Below.setCell ?_ (by first | exact Nat.le_refl _ | (simp; done) | omega | (simp; omega)) _)⟩
  case round =>
    obtain ⟨k, A', c', rfl, rfl, hk, hown, hb⟩ := hrel
    by_cases hlt : k < n
    · obtain ⟨b, o, x, rfl, hB, gx, c0, c1, c2⟩ := (hr.next hb).fac hlt
      have Hst := Lib.hid (outs_step 0 F G gx)
      have Hol := Lib.hid (outs_len 0 F G rs k (by rw [hl.out]; exact hk))
      rcases HW.out k x gx with ⟨h0, ha0, ha1, hb0, hb1⟩ | ⟨cc, hcc, hxl, hxa, hxb⟩
      · have hG := HG.out k x gx h0
        have hfs := Lib.hid (show fStep 0 F G (outs 0 F G rs k) x = G ((outs 0 F G rs k).getD x.a.toNat 0) ((outs 0 F G rs k).getD x.b.toNat 0) x by unfold fStep; rw [if_pos h0])
        have HG2 := Lib.hid hG; clear hG gx
        go_wp2_with fail
        refine (isPair_any x true _ (by simpa [isP] using h0)).mono ?_
        rintro e w1 ⟨rfl, hb1'⟩
        obtain ⟨d0, d1, d2⟩ := ((Blk.new wr _ _).next hb1').three
        have b1 := (hb.alloc hb.size _).trans (hb1'.mono (by have := hb.size; simp; omega))
        have hz1 : wr.heap.size < w1.heap.size := ((Blk.new wr 57 #[.string x.l, .int .i64 x.a, .int .i64 x.b]).next hb1').lt
        have own1 := Lib.hid (own_next (hown.out.alloc _) hb1')
        obtain ⟨g, rfl, hg0, hg1, e1⟩ := own_int own1.out Hol.out x.a ha0 (by omega)
        obtain ⟨g', hgg, _, _, e2⟩ := own_int own1.out Hol.out x.b hb0 (by omega)
        obtain rfl : g = g' := by injection hgg with hgg; injection hgg
        clear hgg
        have na : x.a.toNat < k := by omega
        have nb : x.b.toNat < k := by omega
        have HE1 := Lib.hid (fun (w' : World) (h : w'.ownsRow w.heap.size 2 1 (.slice (some ⟨g, 0, none⟩) k c') k ((outs 0 F G rs k).flatMap intE)) =>
          show w'.cell? ⟨g, x.a.toNat, none⟩ = some (.int .i64 ((outs 0 F G rs k).getD x.a.toNat 0)) by simpa [intE] using own_at (enc := intE) (sz := 1) (fun _ _ => rfl) h Hol.out 0 x.a.toNat na 0 Nat.zero_lt_one)
        have HE2 := Lib.hid (fun (w' : World) (h : w'.ownsRow w.heap.size 2 1 (.slice (some ⟨g, 0, none⟩) k c') k ((outs 0 F G rs k).flatMap intE)) =>
          show w'.cell? ⟨g, x.b.toNat, none⟩ = some (.int .i64 ((outs 0 F G rs k).getD x.b.toNat 0)) by simpa [intE] using own_at (enc := intE) (sz := 1) (fun _ _ => rfl) h Hol.out 0 x.b.toNat nb 0 Nat.zero_lt_one)
        generalize (outs 0 F G rs k).getD x.a.toNat 0 = y1 at *
        generalize (outs 0 F G rs k).getD x.b.toNat 0 = y2 at *
        have hgw : some wr.heap.size ≠ (Value.slice (some ⟨g, 0, none⟩) k c').ownBlock := by intro e; have h1 : g < wr.heap.size := (hown.out.lt g rfl).2; have h2 : wr.heap.size = g := Option.some.inj e; omega
        clear h0
        go_wp2_with fail
        go_region_held3 (fun w' => w'.cell? ⟨wr.heap.size, 0, none⟩ = some (.string x.l) ∧ w'.cell? ⟨wr.heap.size, 1, none⟩ = some (.int .i64 x.a) ∧ w'.cell? ⟨wr.heap.size, 2, none⟩ = some (.int .i64 x.b) ∧ w'.cell? ⟨g, x.a.toNat, none⟩ = some (.int .i64 y1) ∧ w'.cell? ⟨g, x.b.toNat, none⟩ = some (.int .i64 y2))
          (first | exact ⟨t0, t1, t2, t3, t4⟩ | exact ⟨s0, s1, s2, s3, s4⟩ | go_keep)
          (first
            | (refine (HG2.out _ b1.drew).mono ?_
               rintro e w2 ⟨rfl, hb2⟩
               have hz2 : wr.heap.size < w2.heap.size := Nat.lt_of_lt_of_le hz1 hb2.size
               have s0 : w2.cell? ⟨wr.heap.size, 0, none⟩ = some (.string x.l) := (hb2.cell (p := ⟨wr.heap.size, 0, none⟩) hz1).trans d0
               have s1 : w2.cell? ⟨wr.heap.size, 1, none⟩ = some (.int .i64 x.a) := (hb2.cell (p := ⟨wr.heap.size, 1, none⟩) hz1).trans d1
               have s2 : w2.cell? ⟨wr.heap.size, 2, none⟩ = some (.int .i64 x.b) := (hb2.cell (p := ⟨wr.heap.size, 2, none⟩) hz1).trans d2
               have s3 : w2.cell? ⟨g, x.a.toNat, none⟩ = some (.int .i64 y1) := (hb2.cell (p := ⟨g, x.a.toNat, none⟩) hg1).trans e1
               have s4 : w2.cell? ⟨g, x.b.toNat, none⟩ = some (.int .i64 y2) := (hb2.cell (p := ⟨g, x.b.toNat, none⟩) hg1).trans e2)
            | (refine step_push (by rfl) _ _ _ (by rfl) w.heap.size 2 1 8 elem_int intE (some ⟨g, 0, none⟩) k c' (outs 0 F G rs k) (by rfl) ((own_next own1.out.drew hb2).alloc _) w2.heap.size (G y1 y2 x) #[.int .i64 (G y1 y2 x)] 2 (0, 0) (by rfl) (heap_alloc_new _ _) rfl rfl (by simp [intE, Value.oneCell']) (by omega) (by omega) (by unfold maxLen; omega) (Nat.le_trans b1.size (Nat.le_trans hb2.size (by simp))) ?_
               intro A5 c5 w5 own5 hg5 old5
               have t0 : w5.cell? ⟨wr.heap.size, 0, none⟩ = some (.string x.l) := far_alloc hg5 s0 hz2 hgw
               have t1 : w5.cell? ⟨wr.heap.size, 1, none⟩ = some (.int .i64 x.a) := far_alloc hg5 s1 hz2 hgw
               have t2 : w5.cell? ⟨wr.heap.size, 2, none⟩ = some (.int .i64 x.b) := far_alloc hg5 s2 hz2 hgw
               have t3 : w5.cell? ⟨g, x.a.toNat, none⟩ = some (.int .i64 y1) := HE1.out w5 old5
               have t4 : w5.cell? ⟨g, x.b.toNat, none⟩ = some (.int .i64 y2) := HE2.out w5 old5))
        go_wp2_with fail
        go_roundw
        case rel =>
          refine ⟨k + 1, A5, c5, by go_num, rfl, by omega, Lib.hid ?_, ?_⟩
          · rw [Hst.out, hfs.out]; exact own5
          · exact ((b1.drew.trans (hb2.mono b1.size)).alloc (Nat.le_trans b1.size hb2.size) _).grown hg5 (Nat.le_trans b1.size (Nat.le_trans hb2.size (by simp))) (own_ge own1.out)
        case measure => simp [intOf]; omega
      · obtain ⟨xl, xa, xb⟩ := x
        simp only at hxl hxa hxb c0 c1 c2
        subst hxl hxa hxb
        obtain ⟨hl0, hl1⟩ := letB_num hcc
        have hF := HF.out k _ gx (by show (1 : Nat) ≠ 0; omega)
        have hfs := Lib.hid (show fStep 0 F G (outs 0 F G rs k) ⟨⟨#[cc]⟩, 0, 0⟩ = F (letN ⟨#[cc]⟩) from rfl)
        have hln := Lib.hid (show ((letN ⟨#[cc]⟩ : Nat) : Int) = (cc.toNat : Int) - 97 by rw [letN_one]; omega)
        simp only at hF
        rw [hln.out] at hF
        generalize F (letN ⟨#[cc]⟩) = y at *
        have HF2 := Lib.hid hF; clear hF gx hcc
        go_wp2_with fail
        refine (isPair_any ⟨⟨#[cc]⟩, 0, 0⟩ false _ (decide_eq_false (show ¬ (1 : Nat) = 0 by omega))).mono ?_
        rintro e w1 ⟨rfl, hb1'⟩
        obtain ⟨d0, d1, d2⟩ := ((Blk.new wr _ _).next hb1').three
        have b1 := (hb.alloc hb.size _).trans (hb1'.mono (by have := hb.size; simp; omega))
        have own1 := Lib.hid (own_next (hown.out.alloc _) hb1')
        go_wp2_with fail
        refine calls_arg (b := (cc.toNat : Int) - 97) (by show ((cc.toNat : Int) - 97) % 256 = _; omega) ?_
        refine (HF2.out _ b1).mono ?_
        rintro e w2 ⟨rfl, hb2⟩
        have b2 := b1.trans (hb2.mono b1.size)
        have own2 := Lib.hid (own_next own1.out hb2)
        go_wp2_with
          (at_builtin
           refine wpList_push (w0 := w) rfl _ _ _ rfl w.heap.size 2 1 8 elem_int intE _ k c' (outs 0 F G rs k) rfl (own2.out.alloc _) w2.heap.size y #[.int .i64 y] 2 (0, 0) rfl (heap_alloc_new _ _) rfl rfl (by simp [intE, Value.oneCell']) (by omega) (by omega) (by unfold maxLen; omega) rfl (b2.alloc b2.size _) ?_
           intro A9 c9 w9 own9 hg9 hat9 hb9
           have O9 := Lib.hid own9; clear own9)
        go_roundw
        case rel =>
          refine ⟨k + 1, A9, c9, by go_num, rfl, by omega, Lib.hid ?_, hb9⟩
          rw [Hst.out, hfs.out]; exact O9.out
        case measure => simp [intOf]; omega
    · have hkn : k = n := by omega
      have Hall := Lib.hid (outs_all 0 F G rs k (by rw [hl.out]; omega))
      have Hol := Lib.hid (outs_len 0 F G rs k (by rw [hl.out]; omega))
      by_cases h0 : k = 0
      · subst h0
        have e0 := Lib.hid (show foldAll 0 F G z rs = [z] by unfold foldAll; rw [hl.out, if_pos hkn.symm])
        have e1 := Lib.hid (show outs 0 F G rs 0 = [] by unfold outs; simp [foldG])
        have own1 : wr.ownsRow w.heap.size 2 1 (.slice A' 0 c') 0 (([] : List Int).flatMap intE) := by rw [← e1.out]; exact hown.out
        have Own1 := Lib.hid own1; clear own1 hkn
        go_wp2_with
          (at_builtin
           refine wpList_push (w0 := w) rfl _ _ _ rfl w.heap.size 2 1 8 elem_int intE _ 0 c' [] rfl (Own1.out.alloc _) wr.heap.size z #[.int .i64 z] 2 (0, 0) rfl (heap_alloc_new _ _) rfl rfl (by simp [intE, Value.oneCell']) (by omega) (by omega) (by unfold maxLen; omega) rfl (hb.alloc hb.size _) ?_
           intro A9 c9 w9 own9 hg9 hat9 hb9
           have O9 := Lib.hid own9; clear own9)
        go_ret
        rw [e0.out]
        exact ⟨A9, c9, rfl, O9.out, hb9⟩
      · have e0 := Lib.hid (show foldAll 0 F G z rs = outs 0 F G rs k by unfold foldAll; rw [hl.out, if_neg (by omega), Hall.out])
        have h1 : ((k : Int) == 0) = false := by simp; omega
        clear h0 hkn
        go_wp2_with fail
        go_ret
        rw [e0.out]
        refine ⟨A', c', ret_slice Hol.out.symm, ?_, hb⟩
        rw [Hol.out]
        exact hown.out
end Go.Proofs.Ytpkhkippdigcjaa
