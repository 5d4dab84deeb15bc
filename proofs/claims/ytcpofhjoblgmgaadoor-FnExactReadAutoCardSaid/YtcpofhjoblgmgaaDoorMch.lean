
/-
  Whether states, a start and a table are those of a machine, on both sides.
-/
import Derived.Test.YtcpofhjoblgmgaaDoorIdxI
import Derived.Test.YtcpofhjoblgmgaaDoorIdxT
import Derived.Test.YtcpofhjoblgmgaaDoorGramS
namespace Go.Proofs.YtcpofhjoblgmgaaDoor
open Go.RowKit

/-- the last state -/
def w1 (S : Int) : Int := IntKind.i64.wrap (S - 1)
def rowB (hi : Int) (r : List Int) : Bool := decide (r.length = 4) && r.all fun z => inB z 0 hi
def mchB (S q : Int) (nx : List (List Int)) : Bool := inB S 1 24 && inB q 0 (w1 S) && decide ((nx.length : Int) = S) && nx.all (rowB (w1 S))
theorem not_any {α : Type} (p : α → Bool) (xs : List α) : (!(xs.any fun x => !p x)) = xs.all p := by
  induction xs with
  | nil => rfl
  | cons x r ih => simp [← ih]
theorem any_not {α : Type} (p : α → Bool) (xs : List α) : (xs.any fun x => !p x) = !xs.all p := by rw [← not_any, Bool.not_not]
theorem mch_ok {S q : Int} {nx : List (List Int)} (h : mchB S q nx = true) : 1 ≤ S ∧ S ≤ 24 ∧ 0 ≤ q ∧ q < S ∧ (nx.length : Int) = S ∧ ∀ r ∈ nx, r.length = 4 ∧ ∀ z ∈ r, 0 ≤ z ∧ z < S := by
  simp only [mchB, Bool.and_eq_true, inB, decide_eq_true_eq, List.all_eq_true] at h
  obtain ⟨⟨⟨⟨s1, s2⟩, q1, q2⟩, hl⟩, hr⟩ := h
  have e : w1 S = S - 1 := IntWalk.i64_in _ (by omega)
  rw [e] at q2
  refine ⟨s1, s2, q1, by omega, hl, fun r hm => ?_⟩
  have := hr r hm
  simp only [rowB, Bool.and_eq_true, decide_eq_true_eq, List.all_eq_true, inB, e] at this
  exact ⟨this.1, fun z hz => by have := this.2 z hz; omega⟩
theorem isM11_any (g : Nat) (S z : Int) (w : World) (hg : w.cell? ⟨g, 0, none⟩ = some (.int .i64 S)) :
    Calls Tryd.prog 42 #[.int .i64 z, .pointer (some ⟨g, 0, none⟩)] w (Ret (.bool (!inB z 0 (w1 S))) w) := by
  have hc := Lib.hid (fun W => within_any z 0 (w1 S) (inB z 0 (w1 S)) W rfl)
  have ew : IntKind.i64.wrap (S - 1) = w1 S := rfl
  generalize inB z 0 (w1 S) = b at *
  generalize w1 S = S1 at *
  have gl := cell_lt hg
  go_enter Tryd.func42, Tryd.ntmps42
  go_wp2_with fail
  refine (hc.out _).mono ?_
  rintro e w1 ⟨rfl, hb1⟩
  go_wp2_with fail
  go_ret
  exact ⟨rfl, hb1⟩
set_option maxRecDepth 100000 in
theorem isM1_any (g : Nat) (S : Int) (A : Option Addr) (n c : Nat) (r : List Int) (w : World) (hn : n ≤ 1048576) (hg : w.cell? ⟨g, 0, none⟩ = some (.int .i64 S)) (hr : Rd w w.heap.size A n 1 intE r) :
    Calls Tryd.prog 40 #[.slice A n c, .pointer (some ⟨g, 0, none⟩)] w (Ret (.bool (!rowB (w1 S) r)) w) := by
  have hl := hr.len
  have gl := cell_lt hg
  by_cases h : n = 4
  · subst h
    have e := Lib.hid (show (!rowB (w1 S) r) = (r.any fun z => !inB z 0 (w1 S)) by rw [any_not]; unfold rowB; rw [hl]; simp)
    have HC := Lib.hid (containsInt_any 42 (enterOk Tryd.func42 (by kernel_rfl) (by kernel_rfl)) #[.pointer (some ⟨g, 0, none⟩)] (fun z => !inB z 0 (w1 S)) A 4 c r w hn hr (fun k x _ w' hb => isM11_any g S x w' ((hb.cell (p := ⟨g, 0, none⟩) gl).trans hg)))
    rw [e.out]
    clear hl hr
    generalize (r.any fun z => !inB z 0 (w1 S)) = b at *
    go_enter Tryd.func40, Tryd.ntmps40
    go_wp2_with fail
    refine HC.out.mono ?_
    rintro e w1 ⟨rfl, hb1⟩
    go_wp2_with fail
    go_ret
    exact ⟨rfl, hb1⟩
  · have e := Lib.hid (show (!rowB (w1 S) r) = true by unfold rowB; rw [hl]; simp [h])
    have e0 : ¬ (n : Int) = 4 := by omega
    rw [e.out]
    clear hl hr h
    go_enter Tryd.func40, Tryd.ntmps40
    go_wp2_with fail
    go_ret
    exact ⟨rfl, Below.refl _ _⟩
set_option maxHeartbeats 1000000 in
set_option maxRecDepth 100000 in
theorem isMachine_any (S q : Int) (A : Option Addr) (n c : Nat) (hs : List RowH) (nx : List (List Int)) (w : World) (hn : n ≤ 1048576) (hr : RdT w w.heap.size A n intE hs nx) (hsz : ∀ r ∈ nx, r.length ≤ 1048576) (b : Bool) (hb : mchB S q nx = b) :
    Calls Tryd.prog 32 #[.int .i64 S, .int .i64 q, .slice A n c] w (Ret (.bool b) w) := by
  subst hb
  have hl := hr.len
  have HR := Lib.hid hr; clear hr
  have ew : IntKind.i64.wrap (S - 1) = w1 S := rfl
  have HC := Lib.hid (fun (g : Nat) (W : World) (hb : Below w.heap.size w W) (hg : W.cell? ⟨g, 0, none⟩ = some (.int .i64 S)) =>
    containsRowI_any 40 (enterOk Tryd.func40 (by kernel_rfl) (by kernel_rfl)) #[.pointer (some ⟨g, 0, none⟩)] (fun r => !rowB (w1 S) r) A n c hs nx W hn (HR.out.next hb)
      (fun k h x hx _ w' hb' hr' => isM1_any g S h.A h.n h.c x w' (by rw [← hr'.len]; exact hsz x (List.mem_of_getElem? hx)) ((hb'.cell (p := ⟨g, 0, none⟩) (cell_lt hg)).trans hg) hr'))
  rw [any_not] at HC
  have Hm := Lib.hid (show mchB S q nx = (inB S 1 24 && inB q 0 (w1 S) && decide ((nx.length : Int) = S) && nx.all (rowB (w1 S))) from rfl)
  generalize mchB S q nx = M at *
  generalize nx.all (rowB (w1 S)) = b4 at *
  have W1 := Lib.hid (fun W => within_any S 1 24 (inB S 1 24) W rfl)
  have W2 := Lib.hid (fun W => within_any q 0 (w1 S) (inB q 0 (w1 S)) W rfl)
  generalize inB S 1 24 = b1 at *
  generalize inB q 0 (w1 S) = b2 at *
  generalize w1 S = S1 at *
  rcases b1 with _ | _
  · go_enter Tryd.func32, Tryd.ntmps32
    go_wp2_with fail
    refine (W1.out _).mono ?_
    rintro e w2 ⟨rfl, hb2⟩
    go_wp2_with fail
    go_ret
    exact ⟨ret_bool (by rw [Hm.out]; rfl), (show Below w.heap.size w _ from by (repeat first | exact Below.refl _ _ | assumption | refine Below.drew ?_ | refine Below.alloc ?_ (by first | exact Nat.le_refl _ | (simp; done) | omega | (simp; omega)) _ | refine Below.setCell ?_ (by first | exact Nat.le_refl _ | (simp; done) | omega | (simp; omega)) _)).trans (hb2.mono (by simp))⟩
  rcases b2 with _ | _
  · go_enter Tryd.func32, Tryd.ntmps32
    go_wp2_with fail
    refine (W1.out _).mono ?_
    rintro e w2 ⟨rfl, hb2⟩
    have B2 := Lib.hid ((Blk.new w 2 #[.int .i64 S]).next hb2)
    have c0 := B2.out.cell 0
    have cl := B2.out.lt
    go_wp2_with fail
    refine (W2.out _).mono ?_
    rintro e w3 ⟨rfl, hb3⟩
    go_wp2_with fail
    go_ret
    exact ⟨ret_bool (by rw [Hm.out]; rfl), ((show Below w.heap.size w _ from by (repeat first | exact Below.refl _ _ | assumption | refine Below.drew ?_ | refine Below.alloc ?_ (by first | exact Nat.le_refl _ | (simp; done) | omega | (simp; omega)) _ | refine Below.setCell ?_ (by first | exact Nat.le_refl _ | (simp; done) | omega | (simp; omega)) _)).trans (hb2.mono (by simp))).trans (hb3.mono (by have := hb2.size; simp at this; omega))⟩
  have hd : ∃ b3 : Bool, decide ((nx.length : Int) = S) = b3 ∧ ((n : Int) == S) = b3 := by
    rw [hl]
    exact ⟨_, rfl, rfl⟩
  obtain ⟨b3, h3, h3'⟩ := hd
  rw [h3] at Hm
  clear hl h3
  go_enter Tryd.func32, Tryd.ntmps32
  go_wp2_with fail
  refine (W1.out _).mono ?_
  rintro e w2 ⟨rfl, hb2⟩
  have B2 := Lib.hid ((Blk.new w 2 #[.int .i64 S]).next hb2)
  have b2 := Lib.hid ((show Below w.heap.size w (w.alloc (.cells #[.int .i64 S] 2)) from by (repeat first | exact Below.refl _ _ | assumption | refine Below.drew ?_ | refine Below.alloc ?_ (by first | exact Nat.le_refl _ | (simp; done) | omega | (simp; omega)) _ | refine Below.setCell ?_ (by first | exact Nat.le_refl _ | (simp; done) | omega | (simp; omega)) _)).trans (hb2.mono (by simp)))
  have c0 := B2.out.cell 0
  have cl := B2.out.lt
  clear hb2
  go_wp2_with fail
  refine (W2.out _).mono ?_
  rintro e w3 ⟨rfl, hb3⟩
  have B3 := Lib.hid (B2.out.next hb3)
  have b3' := Lib.hid (b2.out.trans (hb3.mono b2.out.size))
  clear hb3 c0 cl B2 b2
  have c0 := B3.out.cell 0
  have cl := B3.out.lt
  have HC3 := Lib.hid (HC.out w.heap.size w3 b3'.out c0)
  rcases b3 with _ | _
  · go_wp2_with fail
    go_ret
    exact ⟨ret_bool (by rw [Hm.out]; rfl), b3'.out⟩
  · go_wp2_with fail
    refine HC3.out.mono ?_
    rintro e w4 ⟨rfl, hb4⟩
    go_wp2_with fail
    go_ret
    exact ⟨ret_bool (by rw [Hm.out]; cases b4 <;> rfl), b3'.out.trans (hb4.mono b3'.out.size)⟩
/-- the rows from one on -/
def nxB (hi : Int) : List (List Int) → Bool := fun l => l.all (rowB hi)
def rwB (hi : Int) : List Int → Bool := fun l => l.all fun z => inB z 0 hi
set_option maxHeartbeats 1000000 in
set_option maxRecDepth 100000 in
theorem l04Next_any (S : Int) (A : Option Addr) (n c : Nat) (hs : List RowH) (nx : List (List Int)) (w : World) (hn : n ≤ 1048576) (hr : RdT w w.heap.size A n intE hs nx) (b : Bool) (hb : (nx.all (rowB (w1 S)) && decide ((nx.length : Int) = S)) = b) :
    Calls Tryd.prog 26 #[.int .i64 S, .slice A n c] w (Ret (.bool b) w) := by
  have hl := hr.len
  have HR := Lib.hid hr; clear hr
  have ew : IntKind.i64.wrap (S - 1) = w1 S := rfl
  have Hb := Lib.hid (show (nxB (w1 S) nx && decide ((n : Int) = S)) = b by rw [← hl]; exact hb)
  clear hb
  generalize w1 S = S1 at *
  have HI := Lib.hid (fun z W => specIn_any z 0 S1 (inB z 0 S1) W rfl)
  go_enter Tryd.func26, Tryd.ntmps26
  go_wp2_with fail
  go_loopw [5] (fun i_ w' => ∃ k : Nat, i_ = .int .i64 k ∧ k ≤ n ∧ Hid (Below w.heap.size w w') ∧ Hid ((nxB S1 (nx.drop k) && decide ((n : Int) = S)) = b)) (fun i_ _ => n - (intOf i_).toNat)
  case atStart => exact ⟨0, rfl, by omega, Lib.hid (Below.refl _ _), Hb⟩
  case round =>
    obtain ⟨k, rfl, hk, hb, H⟩ := hrel
    by_cases hlt : k < n
    · obtain ⟨p, o, q, x, rfl, hB, gq, gx, c0, rx⟩ := (HR.out.next hb.out).at_ hlt
      have hx4 := rx.len
      have H' := Lib.hid (show ((rowB S1 x && nxB S1 (nx.drop (k + 1))) && decide ((n : Int) = S)) = b by rw [← H.out, drop_cons gx]; rfl)
      have RX := Lib.hid rx
      have i0 : (0 : Int) ≤ (k : Int) := by omega
      have i1 : (k : Int) < (n : Int) := by omega
      clear gx gq H rx
      obtain ⟨qA, qn, qc⟩ := q
      have hx4 : x.length = qn := hx4
      have RX := Lib.hid (show Rd wr wr.heap.size qA qn 1 intE x from RX.out)
      by_cases h4 : qn = 4
      · subst h4
        have H2 := Lib.hid (show ((rwB S1 x && nxB S1 (nx.drop (k + 1))) && decide ((n : Int) = S)) = b by
          rw [← H'.out]; unfold rowB; rw [hx4]; rfl)
        clear H'
        go_wp2_with fail
        go_loopw [6] (fun i_ w' => ∃ j : Nat, i_ = .int .i64 j ∧ j ≤ 4 ∧ Hid (Below wr.heap.size wr w') ∧ Hid (((rwB S1 (x.drop j) && nxB S1 (nx.drop (k + 1))) && decide ((n : Int) = S)) = b)) (fun i_ _ => 4 - (intOf i_).toNat)
        case atStart => exact ⟨0, rfl, by omega, Lib.hid (Below.refl _ _), H2⟩
        case round =>
          obtain ⟨j, rfl, hj, hb2, H3⟩ := hrel
          by_cases hlt2 : j < 4
          · rename_i wr2
            obtain ⟨p2, o2, z, rfl, hB2, gz, c1⟩ := (show Rd _ _ (qA) 4 1 (fun s => [.int .i64 s]) x from RX.out.next hb2.out).int hlt2
            have c0' := (hb2.out.cell (p := ⟨p, o + k, none⟩) hB).trans c0
            have hB' : p < _ := Nat.lt_of_lt_of_le hB hb2.out.size
            have H4 := Lib.hid (show (((inB z 0 S1 && rwB S1 (x.drop (j + 1))) && nxB S1 (nx.drop (k + 1))) && decide ((n : Int) = S)) = b by rw [← H3.out, drop_cons gz]; rfl)
            have HIz := Lib.hid (HI.out z)
            have j0 : (0 : Int) ≤ (j : Int) := by omega
            have j1 : (j : Int) < 4 := by omega
            generalize inB z 0 S1 = bz at *
            clear gz H3
            rcases bz with _ | _
            · go_wp2_with fail
              refine (HIz.out _).mono ?_
              rintro e w2 ⟨rfl, hb3⟩
              go_wp2_with fail
              go_ret
              exact ⟨ret_bool (by rw [← H4.out]; rfl), hb.out.trans ((hb2.out.trans (hb3.mono hb2.out.size)).mono hb.out.size)⟩
            · go_wp2_with fail
              refine (HIz.out _).mono ?_
              rintro e w2 ⟨rfl, hb3⟩
              go_wp2_with fail
              go_roundw
              case rel => exact ⟨j + 1, by go_num, by omega, Lib.hid (hb2.out.trans (hb3.mono hb2.out.size)), Lib.hid (by rw [← H4.out]; rfl)⟩
              case measure => simp [intOf]; omega
          · have ht : x.drop j = [] := List.drop_of_length_le (by omega)
            have H4 := Lib.hid (show (nxB S1 (nx.drop (k + 1)) && decide ((n : Int) = S)) = b by rw [← H3.out, ht]; rfl)
            have j1 : ¬ (j : Int) < 4 := by omega
            go_wp2_with fail
            go_roundw
            case rel => exact ⟨k + 1, by go_num, by omega, Lib.hid (hb.out.trans (hb2.out.mono hb.out.size)), H4⟩
            case measure => simp [intOf]; omega
      · have e0 : ¬ (qn : Int) = 4 := by omega
        have e1 : ((qn : Int) == 4) = false := by simp; omega
        have hf : rowB S1 x = false := by unfold rowB; rw [hx4]; simp [h4]
        have H4 := Lib.hid (show b = false by rw [← H'.out, hf]; rfl)
        go_wp2_with fail
        go_ret
        exact ⟨ret_bool H4.out.symm, hb.out⟩
    · have ht : nx.drop k = [] := List.drop_of_length_le (by omega)
      have H4 := Lib.hid (show decide ((n : Int) = S) = b by rw [← H.out, ht]; rfl)
      have i1 : ¬ (k : Int) < (n : Int) := by omega
      go_wp2_with fail
      go_ret
      exact ⟨ret_bool (by rw [← H4.out]; first | rfl | simp [Int.beq_eq_decide_eq]), hb.out⟩
end Go.Proofs.YtcpofhjoblgmgaaDoor
