
/-
  What the helpers on lists of factors do: sizes, copies and equality.
-/
import Derived.Test.YtkkadlihlbpbiaaDoorBase
namespace Go.Proofs.YtkkadlihlbpbiaaDoor
open Go.RowKit

def szFac (left : Int) (f : Fac) : Int := if left < f.l.size then -1 else left - f.l.size

/-- the rest of the loop -/
def szFacs : Int → List Fac → Int
  | left, [] => left
  | left, f :: r => if szFac left f < 0 then -1 else szFacs (szFac left f) r
def szFacAll (left : Int) (fs : List Fac) : Int := if left < fs.length then -1 else szFacs (left - fs.length) fs

theorem szFac_le (left : Int) (f : Fac) (h0 : 0 ≤ left) (h1 : left ≤ 1048576) : szFac left f ≤ 1048576 := by unfold szFac; split <;> omega
theorem eq_fac (f g : Fac) : decide (f = g) = (decide (f.l = g.l) && (decide (f.a = g.a) && decide (f.b = g.b))) := by
  cases f; cases g; simp
set_option maxHeartbeats 400000 in
theorem eqFactor_any (f g : Fac) (w : World) :
    Calls Tryd.prog 18 #[f.val, g.val] w (Ret (.bool (decide (f = g))) w) := by
  have e := Lib.hid (eq_fac f g)
  unfold Fac.val
  go_enter Tryd.func18, Tryd.ntmps18
  go_wp2
  all_goals go_ret
  all_goals refine ⟨ret_bool ?_, by (repeat first | exact Below.refl _ _ | assumption | refine Below.drew ?_ | refine Below.alloc ?_ (by first | exact Nat.le_refl _ | (simp; done) | omega | (simp; omega)) _ | refine Below.setCell ?_ (by first | exact Nat.le_refl _ | (simp; done) | omega | (simp; omega)) _)⟩
  all_goals (rw [e.out]; simp_all [tl_inj])

theorem neq_fac (f g : Fac) (W : World) : (binOp .neq 32 (.agg #[.string f.l, .int .i64 f.a, .int .i64 f.b]) (.agg #[.string g.l, .int .i64 g.a, .int .i64 g.b])).run Tryd.prog W = .ok (.bool (!decide (f = g))) W := by
  rw [eq_fac]
  simp [go_sem, tl_inj]
  by_cases h1 : f.l = g.l <;> by_cases h2 : f.a = g.a <;> by_cases h3 : f.b = g.b <;> simp [h1, h2, h3]

def eqFacs : List Fac → List Fac → Bool
  | x :: r, y :: s => decide (x = y) && eqFacs r s
  | _, _ => true
theorem eqFacs_eq : ∀ (a b : List Fac), a.length = b.length → eqFacs a b = decide (a = b)
  | [], [], _ => rfl
  | x :: r, y :: s, h => by
    rw [eqFacs, eqFacs_eq r s (by simpa using h)]
    by_cases h1 : x = y <;> by_cases h2 : r = s <;> simp [h1, h2]

set_option maxHeartbeats 400000 in
theorem eqFactorS_any (A D : Option Addr) (n c m d : Nat) (xs ys : List Fac) (w : World) (hn : n ≤ maxLen) (hm : m ≤ maxLen)
    (hx : Rd w w.heap.size A n 3 Fac.cells xs) (hy : Rd w w.heap.size D m 3 Fac.cells ys) :
    Calls Tryd.prog 6 #[.slice A n c, .slice D m d] w (Ret (.bool (decide (xs = ys))) w) := by
  have hl := Lib.hid hx.len
  have hl' := Lib.hid hy.len
  unfold maxLen at hn hm
  by_cases h : n = m
  · obtain rfl := h
    have HR := Lib.hid (show eqFacs (xs.drop 0) (ys.drop 0) = decide (xs = ys) from eqFacs_eq _ _ (by rw [List.drop_zero, List.drop_zero, hl.out, hl'.out]))
    go_enter Tryd.func6, Tryd.ntmps6
    go_wp2
    go_loopw [5] (fun i w' => ∃ k : Nat, i = .int .i64 k ∧ k ≤ n ∧ Below w.heap.size w w' ∧ Hid (eqFacs (xs.drop k) (ys.drop k) = decide (xs = ys))) (fun i _ => n - (intOf i).toNat)
    case atStart => exact ⟨0, rfl, by omega, Below.refl _ _, HR⟩
    case round =>
      obtain ⟨k, rfl, hk, hb, H⟩ := hrel
      by_cases hlt : k < n
      · obtain ⟨b, o, x, rfl, hB, gx, c0, c1, c2⟩ := (hx.next hb).fac hlt
        obtain ⟨b', o', y, rfl, hB', gy, d0, d1, d2⟩ := (hy.next hb).fac hlt
        have H' := Lib.hid (show (decide (x = y) && eqFacs (xs.drop (k + 1)) (ys.drop (k + 1))) = decide (xs = ys) by
          rw [← H.out, drop_cons gx, drop_cons gy]; rfl)
        clear gx gy H hx hy HR
        have hup := upc wr.heap.size wr
        have i0 : (0 : Int) ≤ (k : Int) := by omega
        have i1 : (k : Int) < (n : Int) := by omega
        by_cases he : x = y
        · have he' := Lib.hid (show decide (x = y) = true by simpa using he)
          clear he
          go_wp2_with fail
          refine wp_region_up wr.heap.size (by kernel_rfl) (by kernel_rfl) ?_
          repeat (go_big_quiet_step ((go_at_call 18; exact Calls.up (Nat.le_refl _) (he'.out ▸ eqFactor_any x y _))))
          refine wpQuiet_nil ?_
          intro w2 hw2
          have hb2 := up_of hw2
          go_wp2
          go_roundw
          case rel => exact ⟨k + 1, by go_num, by omega, hb.trans (hb2.mono hb.size), by rw [← H'.out, he'.out, Bool.true_and]; exact Lib.hid rfl⟩
          case measure => simp [intOf]; omega
        · have he' := Lib.hid (show decide (x = y) = false by simpa using he)
          clear he
          go_wp2_with fail
          refine wp_region_up wr.heap.size (by kernel_rfl) (by kernel_rfl) ?_
          repeat (go_big_quiet_step ((go_at_call 18; exact Calls.up (Nat.le_refl _) (he'.out ▸ eqFactor_any x y _))))
          refine wpQuiet_nil ?_
          intro w2 hw2
          have hb2 := up_of hw2
          go_wp2
          go_ret
          exact ⟨ret_bool (by rw [← H'.out, he'.out, Bool.false_and]), hb.trans (hb2.mono hb.size)⟩
      · go_wp2
        go_ret
        exact ⟨ret_bool (by rw [← H.out, List.drop_of_length_le (by rw [hl.out]; omega)]; rfl), hb⟩
  · have e := Lib.hid (show decide (xs = ys) = false by simp; rintro rfl; exact h (hl.out.symm.trans hl'.out))
    go_enter Tryd.func6, Tryd.ntmps6
    go_wp2
    go_ret
    exact ⟨ret_bool e.out.symm, Below.refl _ _⟩
theorem szFacs_le : ∀ (fs : List Fac) (left : Int), 0 ≤ left → szFacs left fs ≤ left
  | [], left, _ => Int.le_refl _
  | f :: r, left, h => by
    unfold szFacs
    split
    · omega
    · have := szFacs_le r (szFac left f) (by omega)
      have h2 : szFac left f ≤ left := by unfold szFac; split <;> omega
      omega
theorem szFacAll_le (left : Int) (fs : List Fac) (h : 0 ≤ left) : szFacAll left fs ≤ left := by
  unfold szFacAll
  split
  · omega
  · have := szFacs_le fs (left - fs.length) (by omega); omega
theorem szFacAll_len (left : Int) (fs : List Fac) (h0 : 0 ≤ szFacAll left fs) : (fs.length : Int) ≤ left := by
  unfold szFacAll at h0
  split at h0 <;> omega

end Go.Proofs.YtkkadlihlbpbiaaDoor
