/-
  The letters of a grammar replaced: the small functions.
-/
import Derived.Test.YtkknhpailohjcaaMapM
import Derived.Test.YtkknhpailohjcaaPlainP
namespace Go.Proofs.Ytkknhpailohjcaa
open Go.RowKit

set_option maxHeartbeats 2000000 in
set_option maxRecDepth 100000 in
theorem raised_any (A : Option Addr) (n c : Nat) (rs : List Fac) (by_ : Int) (w : World) (hn : n ≤ 100000) (hr : Rd w w.heap.size A n 3 Fac.cells rs) (hwf : WF rs) (h0 : 0 ≤ by_) (h1 : by_ ≤ 1048576) :
    Calls Try.prog 81 #[.slice A n c, .int .i64 by_] w (RetNew w 75 3 Fac.cells (raiseL by_ rs)) := by
  have hl := Lib.hid hr.len
  have HR := Lib.hid hr; clear hr
  have HW := Lib.hid hwf; clear hwf
  go_enter Try.func81, Try.ntmps81
  go_wp2_with fail
  go_loopw [5, 11] (fun o_ i_ w' => ∃ (k : Nat) (A' : Option Addr) (c' : Nat), i_ = .int .i64 k ∧ o_ = .slice A' k c' ∧ k ≤ n ∧
      Hid (w'.ownsRow w.heap.size 75 3 (.slice A' k c') k ((raiseL by_ (rs.take k)).flatMap Fac.cells)) ∧ Below w.heap.size w w') (fun _ i_ _ => n - (intOf i_).toNat)
  case atStart =>
    exact ⟨0, _, 0, rfl, rfl, by omega, Lib.hid (by simpa [raiseL] using World.ownsRow_made (base := w.heap.size) (e := 75) (size := 3) w #[] 0 (by simp) (by unfold maxLen; omega) rfl), by (repeat first | exact Below.refl _ _ | assumption | refine Below.drew ?_ | refine Below.alloc ?_ (by first | exact Nat.le_refl _ | (simp; done) | omega | (simp; omega)) _ | refine Below.setCell ?_ (by first | exact Nat.le_refl _ | (simp; done) | omega | (simp; omega)) _)⟩
  case round =>
    obtain ⟨k, A', c', rfl, rfl, hk, hown, hb⟩ := hrel
    by_cases hlt : k < n
    · obtain ⟨b, o, x, rfl, hB, gx, c0, c1, c2⟩ := (HR.out.next hb).fac hlt
      have Hst := Lib.hid (show raiseL by_ (rs.take (k + 1)) = raiseL by_ (rs.take k) ++ [rsF by_ x] by rw [take_succ_at gx]; simp [raiseL])
      rcases HW.out k x gx with ⟨h0', ha0, ha1, hb0, hb1⟩ | ⟨cc, hcc, hxl, hxa, hxb⟩
      · have Hy := Lib.hid (show rsF by_ x = ⟨x.l, x.a + by_, x.b + by_⟩ by unfold rsF; rw [if_pos h0'])
        have Hp := Lib.hid (show isP x = true by simp [isP, h0'])
        have i0 : (0 : Int) ≤ (k : Int) := by omega
        clear gx h0'
        go_wp2_with fail
        refine (isPair_any x true _ Hp.out).mono ?_
        rintro e w1 ⟨rfl, hb1'⟩
        have B1 := Lib.hid ((Blk.new wr 75 #[.string x.l, .int .i64 x.a, .int .i64 x.b]).next hb1')
        have b1 := (hb.alloc hb.size _).trans (hb1'.mono (by have := hb.size; simp; omega))
        have own1 := Lib.hid (own_next (hown.out.alloc _) hb1')
        have hz1 : w.heap.size ≤ wr.heap.size := hb.size
        obtain ⟨d0, d1, d2⟩ := B1.out.three
        have lx := B1.out.lt
        have fx := B1.out.frozen
        have B2 := Lib.hid ((B1.out.set_ 1 (.int .i64 (x.a + by_))).set_ 2 (.int .i64 (x.b + by_)))
        have hgm := gb_setCell (gb_set w1 wr.heap.size 1 (.int .i64 (x.a + by_))) 2 (.int .i64 (x.b + by_))
        have own2 := Lib.hid (own1.out.kept hgm (by
          cases hv : (Value.slice A' k c').ownBlock with
          | none => exact .inl rfl
          | some q => exact .inr fun e => by injection e with e; have := (hown.out.lt q hv).2; omega))
        have b2 := (b1.setCell (p := ⟨wr.heap.size, 1, none⟩) hz1 (.int .i64 (x.a + by_))).setCell (p := ⟨wr.heap.size, 2, none⟩) hz1 (.int .i64 (x.b + by_))
        obtain ⟨e0, e1, e2⟩ := B2.out.three
        have BN0 := Blk.new ((w1.setCell ⟨wr.heap.size, 1, none⟩ (.int .i64 (x.a + by_))).setCell ⟨wr.heap.size, 2, none⟩ (.int .i64 (x.b + by_))) 75 #[.string x.l, .int .i64 (x.a + by_), .int .i64 (x.b + by_)]
        rw [show ((w1.setCell ⟨wr.heap.size, 1, none⟩ (.int .i64 (x.a + by_))).setCell ⟨wr.heap.size, 2, none⟩ (.int .i64 (x.b + by_))).heap.size = w1.heap.size by simp] at BN0
        have BN := Lib.hid BN0
        clear hgm BN0
        go_wp2_with
          (at_builtin
           refine wpList_push (w0 := w) rfl _ _ _ rfl w.heap.size 75 3 32 elem_rule Fac.cells _ k c' (raiseL by_ (rs.take k)) rfl (own2.out.alloc _) w1.heap.size ⟨x.l, x.a + by_, x.b + by_⟩ #[.string x.l, .int .i64 (x.a + by_), .int .i64 (x.b + by_)] 75 (0, 0) rfl BN.out rfl rfl (one_fac _) (by omega) (by omega) (by unfold maxLen; omega) rfl (b2.alloc b2.size _) ?_
           intro A9 c9 w9 own9 hg9 hat9 hb9
           have O9 := Lib.hid own9; clear own9)
        go_roundw
        case rel =>
          refine ⟨k + 1, A9, c9, by go_num, rfl, by omega, Lib.hid ?_, hb9⟩
          rw [Hst.out, Hy.out]; exact O9.out
        case measure => simp [intOf]; omega
      · have Hy := Lib.hid (show rsF by_ x = x by unfold rsF; rw [if_neg (by rw [hxl]; show ¬ (1 : Nat) = 0; omega)])
        have Hp := Lib.hid (show isP x = false by unfold isP; rw [hxl]; rfl)
        clear hxl hxa hxb gx
        go_wp2_with fail
        refine (isPair_any x false _ Hp.out).mono ?_
        rintro e w1 ⟨rfl, hb1'⟩
        have B1 := Lib.hid ((Blk.new wr 75 #[.string x.l, .int .i64 x.a, .int .i64 x.b]).next hb1')
        have b1 := (hb.alloc hb.size _).trans (hb1'.mono (by have := hb.size; simp; omega))
        have own1 := Lib.hid (own_next (hown.out.alloc _) hb1')
        obtain ⟨d0, d1, d2⟩ := B1.out.three
        go_wp2_with
          (at_builtin
           refine wpList_push (w0 := w) rfl _ _ _ rfl w.heap.size 75 3 32 elem_rule Fac.cells _ k c' (raiseL by_ (rs.take k)) rfl (own1.out.alloc _) _ x #[.string x.l, .int .i64 x.a, .int .i64 x.b] 75 (0, 0) rfl (heap_alloc_new _ _) rfl rfl (one_fac _) (by omega) (by omega) (by unfold maxLen; omega) rfl (b1.alloc b1.size _) ?_
           intro A9 c9 w9 own9 hg9 hat9 hb9
           have O9 := Lib.hid own9; clear own9)
        go_roundw
        case rel =>
          refine ⟨k + 1, A9, c9, by go_num, rfl, by omega, Lib.hid ?_, hb9⟩
          rw [Hst.out, Hy.out]; exact O9.out
        case measure => simp [intOf]; omega
    · have hkn : k = n := by omega
      have e := Lib.hid (show rs.take k = rs from List.take_of_length_le (by rw [hl.out]; omega))
      clear hkn
      have hk2 : k = n := by omega
      have hl2 := Lib.hid (show (raiseL by_ rs).length = k by rw [raiseL_len, hl.out]; omega)
      clear hk2
      go_wp2_with fail
      go_ret
      refine ⟨A', c', ret_slice (by rw [hl2.out]), ?_, hb⟩
      rw [hl2.out]
      have := hown.out
      rw [e.out] at this; exact this
theorem raisedL_any (A : Option Addr) (n c : Nat) (rs : List Fac) (by_ : Int) (w : World) (hn : n ≤ 100000) (hr : Rd w w.heap.size A n 3 Fac.cells rs) (hwf : WF rs) (h0 : 0 ≤ by_) (h1 : by_ ≤ 1048576) :
    Calls Try.prog 81 #[.slice A n c, .int .i64 by_] w fun e w' => ∃ A' c', e = .returned (.slice A' n c') ∧ w'.ownsRow w.heap.size 75 3 (.slice A' n c') n ((raiseL by_ rs).flatMap Fac.cells) ∧ Below w.heap.size w w' := by
  have hl : (raiseL by_ rs).length = n := by rw [raiseL_len, hr.len]
  refine (raised_any A n c rs by_ w hn hr hwf h0 h1).mono ?_
  rintro e w' ⟨A', c', he, ho, hb⟩
  rw [hl] at he ho
  exact ⟨A', c', he, ho, hb⟩
set_option maxHeartbeats 1000000 in
theorem l02Raised_any (x : Fac) (by_ : Int) (w : World) (hx : x.l.size = 0 → 0 ≤ x.a ∧ x.a ≤ 1048576 ∧ 0 ≤ x.b ∧ x.b ≤ 1048576) (h0 : 0 ≤ by_) (h1 : by_ ≤ 1048576) :
    Calls Try.prog 77 #[x.val, .int .i64 by_] w (Ret (rsF by_ x).val w) := by
  unfold Fac.val
  by_cases h : x.l.size = 0
  · have Hy := Lib.hid (show rsF by_ x = ⟨x.l, x.a + by_, x.b + by_⟩ by unfold rsF; rw [if_pos h])
    have e0 := size0 h
    obtain ⟨q0, q1, q2, q3⟩ := hx h
    rw [Hy.out]
    clear hx h
    go_enter Try.func77, Try.ntmps77
    go_wp2_with fail
    refine bodyPost_ret (v := .agg #[.string x.l, .int .i64 (x.a + by_), .int .i64 (x.b + by_)]) (by simp [results, Try.results77, go_sem]) rfl ⟨rfl, ?_⟩
    (repeat first | exact Below.refl _ _ | assumption | refine Below.drew ?_ | refine Below.alloc ?_ (by first | exact Nat.le_refl _ | (simp; done) | omega | (simp; omega)) _ | refine Below.setCell ?_ (by first | exact Nat.le_refl _ | (simp; done) | omega | (simp; omega)) _)
  · have Hy := Lib.hid (show rsF by_ x = x by unfold rsF; rw [if_neg h])
    have e0 := size1 h
    have e1 := size1' h
    rw [Hy.out]
    clear hx h
    go_enter Try.func77, Try.ntmps77
    go_wp2_with fail
    refine bodyPost_ret (v := .agg #[.string x.l, .int .i64 x.a, .int .i64 x.b]) (by simp [results, Try.results77, go_sem]) rfl ⟨rfl, ?_⟩
    (repeat first | exact Below.refl _ _ | assumption | refine Below.drew ?_ | refine Below.alloc ?_ (by first | exact Nat.le_refl _ | (simp; done) | omega | (simp; omega)) _ | refine Below.setCell ?_ (by first | exact Nat.le_refl _ | (simp; done) | omega | (simp; omega)) _)
theorem ixR_ge (f : Fac) : ∀ (rs : List Fac) (i : Int), 0 ≤ i → decide (0 ≤ ixR f rs i) = decide (f ∈ rs)
  | [], i, _ => by simp [ixR]
  | x :: r, i, h => by
    unfold ixR
    by_cases hx : f = x
    · simp [hx, h]
    · rw [if_neg hx, ixR_ge f r (i + 1) (by omega)]; simp [hx]
set_option maxHeartbeats 1000000 in
theorem containsR_any (A : Option Addr) (n c : Nat) (rs : List Fac) (f : Fac) (w : World) (hn : n ≤ 1048576) (hr : Rd w w.heap.size A n 3 Fac.cells rs) :
    Calls Try.prog 108 #[.slice A n c, .agg #[.string f.l, .int .i64 f.a, .int .i64 f.b]] w (Ret (.bool (decide (f ∈ rs))) w) := by
  have HR := Lib.hid hr; clear hr
  have hg := Lib.hid (ixR_ge f rs 0 (by omega))
  go_enter Try.func108, Try.ntmps108
  go_wp2_with fail
  refine (indexR_any A n c rs f _ hn (HR.out.next ((Below.refl _ _).alloc (Nat.le_refl _) _))).mono ?_
  rintro e w1 ⟨rfl, hb1⟩
  generalize ixR f rs 0 = z at *
  go_wp2_with fail
  go_ret
  exact ⟨ret_bool hg.out, ((Below.refl _ _).alloc (Nat.le_refl _) _).trans (hb1.mono (by simp))⟩
set_option maxHeartbeats 1000000 in
theorem hasLetter_any (A : Option Addr) (n c : Nat) (rs : List Fac) (z : Int) (u : UInt8) (hz : z = (u.toNat : Int)) (w : World) (hn : n ≤ 1048576) (hr : Rd w w.heap.size A n 3 Fac.cells rs) (b : Bool) (hb : decide (ruleC u ∈ rs) = b) :
    Calls Try.prog 80 #[.agg #[.slice A n c], .int .u8 z] w (Ret (.bool b) w) := by
  subst hz
  have HR := Lib.hid hr; clear hr
  have Hb := Lib.hid hb; clear hb
  go_enter Try.func80, Try.ntmps80
  go_wp2_with fail
  refine named fun w0 H0 => ?_
  have B0 := Lib.hid (show Blk w0 w.heap.size 31 #[.slice A n c] by rw [H0.out]; exact Blk.new _ _ _)
  have hb0 : Below w.heap.size w w0 := by rw [H0.out]; (repeat first | exact Below.refl _ _ | assumption | refine Below.drew ?_ | refine Below.alloc ?_ (by first | exact Nat.le_refl _ | (simp; done) | omega | (simp; omega)) _ | refine Below.setCell ?_ (by first | exact Nat.le_refl _ | (simp; done) | omega | (simp; omega)) _)
  have c0 := B0.out.cell 0
  have l0 := B0.out.lt
  have HR0 := Lib.hid (HR.out.next hb0)
  clear H0
  have hup := upc w0.heap.size w0
  refine wp_region_up w0.heap.size (by kernel_rfl) (by kernel_rfl) ?_
  repeat (go_big_quiet_step ((first | (go_at_call 103; exact Calls.up (Nat.le_refl _) (letter_any u _)) | (go_at_call 108; exact Calls.up (Nat.le_refl _) (containsR_any A n c rs (ruleC u) _ hn ((HR0.out.below (Up.h _)).more (Up.h _).size))))))
  refine wpQuiet_nil ?_
  intro w4 hup_w4
  have hb4 := up_of hup_w4
  go_wp2_with fail
  go_ret
  exact ⟨ret_bool Hb.out, hb0.trans (hb4.mono hb0.size)⟩
end Go.Proofs.Ytkknhpailohjcaa
