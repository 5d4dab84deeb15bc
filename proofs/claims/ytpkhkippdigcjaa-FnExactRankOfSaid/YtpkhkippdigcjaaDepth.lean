/-
  The depths of rules, in the program and in the reference.
-/
import Derived.Test.YtpkhkippdigcjaaFoldI
import Derived.Test.YtpkhkippdigcjaaGramL
namespace Go.Proofs.Ytpkhkippdigcjaa
open Go.RowKit

section
variable {α : Type} {d : α} {F : Nat → α} {G : α → α → Fac → α} {rs : List Fac}
/-- what holds of all that is made of a grammar -/
theorem outs_inv (hwf : WF rs) (I : Nat → α → Prop) (mono : ∀ k x, I k x → I (k + 1) x) (hF : ∀ (k : Nat) (r : Fac), rs[k]? = some r → letT r.l = true → I (k + 1) (F (letN r.l)))
    (hG : ∀ (k : Nat) (r : Fac) (a b : α), rs[k]? = some r → I k a → I k b → I (k + 1) (G a b r)) : ∀ k, k ≤ rs.length → ∀ x ∈ outs d F G rs k, I k x := by
  intro k
  induction k with
  | zero => intro _ x hx; simp [outs, foldG] at hx
  | succ k ih =>
    intro hk x hx
    have gx : rs[k]? = some (rs[k]'(by omega)) := List.getElem?_eq_getElem _
    rw [outs_step d F G gx] at hx
    have hl := outs_len d F G rs k (by omega)
    rcases List.mem_append.1 hx with hx | hx
    · exact mono _ _ (ih (by omega) x hx)
    · simp only [List.mem_singleton] at hx
      subst hx
      unfold fStep
      rcases hwf k _ gx with ⟨h0, ha0, ha1, hb0, hb1⟩ | ⟨c, hc, hl', _⟩
      · rw [if_pos h0]
        refine hG k _ _ _ gx (ih (by omega) _ ?_) (ih (by omega) _ ?_)
        · rw [List.getD_eq_getElem?_getD, List.getElem?_eq_getElem (by omega)]; simp
        · rw [List.getD_eq_getElem?_getD, List.getElem?_eq_getElem (by omega)]; simp
      · have hl1 : letT (rs[k]'(by omega)).l = true := by rw [hl']; exact hc
        have hne : ¬ (rs[k]'(by omega)).l.size = 0 := by rw [hl']; show ¬ (1 : Nat) = 0; omega
        rw [if_neg hne]
        exact hF k _ gx hl1
theorem outs_getD (hwf : WF rs) (I : Nat → α → Prop) (mono : ∀ k x, I k x → I (k + 1) x) (hF : ∀ (k : Nat) (r : Fac), rs[k]? = some r → letT r.l = true → I (k + 1) (F (letN r.l)))
    (hG : ∀ (k : Nat) (r : Fac) (a b : α), rs[k]? = some r → I k a → I k b → I (k + 1) (G a b r)) {k : Nat} (hk : k ≤ rs.length) {i : Nat} (hi : i < k) : I k ((outs d F G rs k).getD i d) := by
  refine outs_inv (d := d) hwf I mono hF hG k hk _ ?_
  have hl := outs_len d F G rs k hk
  rw [List.getD_eq_getElem?_getD, List.getElem?_eq_getElem (by omega)]; simp
end

def depF (_ : Nat) : Int := 1
def depG (a b : Int) (_ : Fac) : Int := max a b + 1
/-- the depths of all rules -/
def depths (rs : List Fac) : List Int := foldG 0 depF depG rs []
theorem dep_bound {rs : List Fac} (hwf : WF rs) {k i : Nat} (hk : k ≤ rs.length) (hi : i < k) : 1 ≤ (outs 0 depF depG rs k).getD i 0 ∧ (outs 0 depF depG rs k).getD i 0 ≤ k := by
  refine outs_getD (d := 0) (F := depF) (G := depG) hwf (fun (k : Nat) (x : Int) => 1 ≤ x ∧ x ≤ k) (fun k x h => ⟨h.1, by omega⟩) (fun k r _ _ => by unfold depF; omega) (fun k r a b _ ha hb => ?_) hk hi
  unfold depG
  omega

theorem depths1_any (l : Int) (w : World) : Calls Try.prog 76 #[.int .i64 l] w (Ret (.int .i64 1) w) := by
  go_enter Try.func76, Try.ntmps76
  go_wp2
  go_ret
  exact ⟨rfl, Below.refl _ _⟩
theorem depths2_any (a b : Int) (r : Fac) (w : World) (ha : 1 ≤ a) (ha' : a ≤ 1048576) (hb : 1 ≤ b) (hb' : b ≤ 1048576) : Calls Try.prog 77 #[.int .i64 a, .int .i64 b, r.val] w (Ret (.int .i64 (max a b + 1)) w) := by
  unfold Fac.val
  go_enter Try.func77, Try.ntmps77
  go_wp2
  all_goals
    go_ret
    exact ⟨ret_int (by omega), by (repeat first | exact Below.refl _ _ | assumption | refine Below.drew ?_ | refine Below.alloc ?_ (by first | exact Nat.le_refl _ | (simp; done) | omega | (simp; omega)) _ | refine Below.setCell ?_ (by first | exact Nat.le_refl _ | (simp; done) | omega | (simp; omega)) _)⟩
set_option maxHeartbeats 400000 in
theorem depths_any (A : Option Addr) (n c : Nat) (rs : List Fac) (w : World) (hn : n ≤ 1048576) (hr : Rd w w.heap.size A n 3 Fac.cells rs) (hwf : WF rs) :
    Calls Try.prog 39 #[.agg #[.slice A n c]] w (RetNew w 2 1 intE (foldAll 0 depF depG 0 rs)) := by
  have hl := Lib.hid hr.len
  have hb0 : Below w.heap.size w (w.alloc (.cells #[.slice A n c] 30)) := by (repeat first | exact Below.refl _ _ | assumption | refine Below.drew ?_ | refine Below.alloc ?_ (by first | exact Nat.le_refl _ | (simp; done) | omega | (simp; omega)) _ | refine Below.setCell ?_ (by first | exact Nat.le_refl _ | (simp; done) | omega | (simp; omega)) _)
  have hc := foldI_any 76 77 (enterOk Try.func76 (by kernel_rfl) (by kernel_rfl)) (enterOk Try.func77 (by kernel_rfl) (by kernel_rfl)) #[] #[] depF depG 0 A n c rs _ hn (hr.next hb0) hwf
    (fun k r _ _ w' _ => by simpa [depF] using depths1_any _ w')
    (fun k r hx h0 w' _ => by
      have hk : k < rs.length := (List.getElem?_eq_some_iff.1 hx).1
      rcases hwf k r hx with ⟨_, a0, a1, b0, b1⟩ | ⟨cc, _, hl, _⟩
      · have ha := dep_bound hwf (k := k) (i := r.a.toNat) (by omega) (by omega)
        have hb := dep_bound hwf (k := k) (i := r.b.toNat) (by omega) (by omega)
        have := hl.out
        simpa [depG] using depths2_any ((outs 0 depF depG rs k).getD r.a.toNat 0) ((outs 0 depF depG rs k).getD r.b.toNat 0) r w' ha.1 (by omega) hb.1 (by omega)
      · rw [hl] at h0; exact absurd h0 (show ¬ (1 : Nat) = 0 by omega))
  have Hc := Lib.hid hc; clear hc
  go_enter Try.func39, Try.ntmps39
  go_wp2_with fail
  refine Hc.out.mono ?_
  rintro e w1 ⟨A', c', rfl, own1, hb1⟩
  have Own1 := Lib.hid own1; clear own1
  go_wp2_with fail
  go_ret
  exact ⟨A', c', rfl, Own1.out.mono hb0.size, hb0.trans (hb1.mono hb0.size)⟩
theorem l00Max_any (a b : Int) (w : World) : Calls Try.prog 74 #[.int .i64 a, .int .i64 b] w (Ret (.int .i64 (max a b)) w) := by
  go_enter Try.func74, Try.ntmps74
  go_wp2
  all_goals
    go_ret
    exact ⟨ret_int (by omega), by (repeat first | exact Below.refl _ _ | assumption | refine Below.drew ?_ | refine Below.alloc ?_ (by first | exact Nat.le_refl _ | (simp; done) | omega | (simp; omega)) _ | refine Below.setCell ?_ (by first | exact Nat.le_refl _ | (simp; done) | omega | (simp; omega)) _)⟩
set_option maxHeartbeats 1000000 in
set_option maxRecDepth 100000 in
theorem l06Depths_any (A : Option Addr) (n c : Nat) (rs : List Fac) (w : World) (hn : n ≤ 1048576) (hr : Rd w w.heap.size A n 3 Fac.cells rs) (hwf : WF rs) :
    Calls Try.prog 35 #[.slice A n c] w (RetNew w 2 1 intE (depths rs)) := by
  have hl := Lib.hid hr.len
  have HW := Lib.hid hwf; clear hwf
  go_enter Try.func35, Try.ntmps35
  go_wp2
  go_loopw [3, 4] (fun o_ i_ w' => ∃ (k : Nat) (A' : Option Addr) (c' : Nat), i_ = .int .i64 k ∧ o_ = .slice A' k c' ∧ k ≤ n ∧
      Hid (w'.ownsRow w.heap.size 2 1 (.slice A' k c') k ((outs 0 depF depG rs k).flatMap intE)) ∧ Below w.heap.size w w') (fun _ i_ _ => n - (intOf i_).toNat)
  case atStart =>
    exact ⟨0, _, 0, rfl, rfl, by omega, Lib.hid (by simpa [outs, foldG] using World.ownsRow_made (base := w.heap.size) (e := 2) (size := 1) w #[] 0 (Nat.le_refl _) (by unfold maxLen; omega) rfl), by (repeat first | exact Below.refl _ _ | assumption | refine Below.drew ?_ | refine Below.alloc ?_ (by first | exact Nat.le_refl _ | (simp; done) | omega | (simp; omega)) _ | refine Below.setCell ?_ (by first | exact Nat.le_refl _ | (simp; done) | omega | (simp; omega)) _)⟩
  case round =>
    obtain ⟨k, A', c', rfl, rfl, hk, hown, hb⟩ := hrel
    by_cases hlt : k < n
    · obtain ⟨b, o, x, rfl, hB, gx, c0, c1, c2⟩ := (hr.next hb).fac hlt
      have Hst := Lib.hid (outs_step 0 depF depG gx)
      have Hol := Lib.hid (outs_len 0 depF depG rs k (by rw [hl.out]; exact hk))
      rcases HW.out k x gx with ⟨h0, ha0, ha1, hb0, hb1⟩ | ⟨cc, hcc, hxl, hxa, hxb⟩
      · have e0 := size0 h0
        have hbd1 := dep_bound HW.out (k := k) (i := x.a.toNat) (by rw [hl.out]; omega) (by omega)
        have hbd2 := dep_bound HW.out (k := k) (i := x.b.toNat) (by rw [hl.out]; omega) (by omega)
        have hfs := Lib.hid (show fStep 0 depF depG (outs 0 depF depG rs k) x = 1 + max ((outs 0 depF depG rs k).getD x.a.toNat 0) ((outs 0 depF depG rs k).getD x.b.toNat 0) by unfold fStep; rw [if_pos h0]; unfold depG; omega)
        obtain ⟨g, rfl, hg0, hg1, e1⟩ := own_int hown.out Hol.out x.a ha0 (by omega)
        obtain ⟨g', hgg, _, _, e2⟩ := own_int hown.out Hol.out x.b hb0 (by omega)
        obtain rfl : g = g' := by injection hgg with hgg; injection hgg
        clear hgg
        generalize (outs 0 depF depG rs k).getD x.a.toNat 0 = y1 at *
        generalize (outs 0 depF depG rs k).getD x.b.toNat 0 = y2 at *
        have hup := upc wr.heap.size wr
        have bd10 := hbd1.1; have bd11 := hbd1.2; have bd20 := hbd2.1; have bd21 := hbd2.2
        clear hbd1 hbd2 h0 gx
        have m1 : max y1 y2 ≤ 1048576 := by omega
        have m0 : 1 ≤ max y1 y2 := by omega
        have i0 : (0 : Int) ≤ k := by omega
        have i1 : (k : Int) < n := by omega
        go_wp2_with fail
        refine wp_region_up wr.heap.size (by kernel_rfl) (by kernel_rfl) ?_
        repeat (go_big_quiet_step ((go_at_call 74; exact Calls.up (Nat.le_refl _) (l00Max_any y1 y2 _))))
        refine wpQuiet_nil ?_
        intro w4 hup_w4
        have hb4 := up_of hup_w4
        have b4 := hb.trans (hb4.mono hb.size)
        have own4 := Lib.hid (own_next hown.out hb4)
        go_wp2_with
          (at_builtin
           refine wpList_push (w0 := w) rfl _ _ _ rfl w.heap.size 2 1 8 elem_int intE _ k c' (outs 0 depF depG rs k) rfl (own4.out.alloc _) w4.heap.size (1 + max y1 y2) #[.int .i64 (1 + max y1 y2)] 2 (0, 0) rfl (heap_alloc_new _ _) rfl rfl (by simp [intE, Value.oneCell']) (by omega) (by omega) (by unfold maxLen; omega) rfl (b4.alloc b4.size _) ?_
           intro A9 c9 w9 own9 hg9 hat9 hb9
           have O9 := Lib.hid own9; clear own9)
        go_roundw
        case rel =>
          refine ⟨k + 1, A9, c9, by go_num, rfl, by omega, Lib.hid ?_, hb9⟩
          rw [Hst.out, hfs.out]; exact O9.out
        case measure => simp [intOf]; omega
      · obtain ⟨xl, xa, xb⟩ := x
        simp only at hxl hxa hxb c0 c1 c2
        subst hxl hxa hxb
        have e1 := size1 (s := ⟨#[cc]⟩) (show (1 : Nat) ≠ 0 by omega)
        have e2 := size1' (s := ⟨#[cc]⟩) (show (1 : Nat) ≠ 0 by omega)
        have hfs := Lib.hid (show fStep 0 depF depG (outs 0 depF depG rs k) ⟨⟨#[cc]⟩, 0, 0⟩ = 1 from rfl)
        clear gx hcc
        go_wp2_with
          (at_builtin
           refine wpList_push (w0 := w) rfl _ _ _ rfl w.heap.size 2 1 8 elem_int intE _ k c' (outs 0 depF depG rs k) rfl (hown.out.alloc _) wr.heap.size 1 #[.int .i64 1] 2 (0, 0) rfl (heap_alloc_new _ _) rfl rfl (by simp [intE, Value.oneCell']) (by omega) (by omega) (by unfold maxLen; omega) rfl (hb.alloc hb.size _) ?_
           intro A9 c9 w9 own9 hg9 hat9 hb9
           have O9 := Lib.hid own9; clear own9)
        go_roundw
        case rel =>
          refine ⟨k + 1, A9, c9, by go_num, rfl, by omega, Lib.hid ?_, hb9⟩
          rw [Hst.out, hfs.out]; exact O9.out
        case measure => simp [intOf]; omega
    · have e := Lib.hid (show outs 0 depF depG rs k = depths rs from outs_all 0 depF depG rs k (by rw [hl.out]; omega))
      have e2 := Lib.hid (outs_len 0 depF depG rs k (by rw [hl.out]; omega))
      go_wp2_with fail
      go_ret
      refine ⟨A', c', ret_slice (by rw [← e.out, e2.out]), ?_, hb⟩
      rw [← e.out, e2.out]
      exact hown.out
end Go.Proofs.Ytpkhkippdigcjaa
