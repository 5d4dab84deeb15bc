/-
  A grammar trimmed, if it has not too many rules before: in the program and in the reference.
-/
import Derived.Test.YtikhjoianbndhaaOrLim
import Derived.Test.YtikhjoianbndhaaTrimI
import Derived.Test.YtikhjoianbndhaaTrimS
import Derived.Test.YtikhjoianbndhaaTrimV
namespace Go.Proofs.Ytikhjoianbndhaa
open Go.RowKit

def toldF (rs : List Fac) : List Fac := if 400 < rs.length then [] else trimL rs
def toldC (rs : List Fac) : Int := if 400 < rs.length then 3 else 0
theorem trimL_len (rs : List Fac) : (trimL rs).length ≤ rs.length := by
  unfold trimL
  split
  · simp
  · have h1 := outT_len (useT (trK rs [] []).1 rs.length (use0 rs.length (trK rs [] []).2)) (trK rs [] []).1 0 [] (List.replicate rs.length 0)
    have h2 := trK_len rs [] []
    simp at h1 h2
    omega
theorem toldF_len (rs : List Fac) : (toldF rs).length ≤ 400 := by
  unfold toldF
  split
  · simp
  · have := trimL_len rs; omega
/-- what a rule's word may be -/
def ShortV (rs : List Fac) : Prop := ∀ k, k < rs.length → (full 0 lenF lenG rs).getD k 0 ≤ 1000000000000000
theorem wf_size {rs : List Fac} (h : WF rs) : ∀ f ∈ rs, f.l.size ≤ maxLen := by
  intro f hf
  obtain ⟨k, hk, rfl⟩ := List.getElem_of_mem hf
  rcases h k _ (List.getElem?_eq_getElem hk) with q | ⟨c, _, q, _⟩
  · rw [q.1]; exact Nat.zero_le _
  · rw [q]; show 1 ≤ maxLen; unfold maxLen; omega
theorem told_lim {rs : List Fac} (hwf : WF rs) (hv : ShortV rs) (h : ¬ 400 < rs.length) : WF (trimL rs) ∧ (gOk (trimL rs)).isSome = true := by
  refine ⟨?_, trim_ok hwf hv (by have := trimL_len rs; omega)⟩
  by_cases h0 : rs.length = 0
  · have : trimL rs = [] := by unfold trimL; rw [if_pos h0]
    rw [this]; exact wf_nil
  · exact (trim_val 0 lenF lenG (fun _ _ _ _ => rfl) hwf (by omega)).1
set_option maxHeartbeats 1000000 in
set_option maxRecDepth 100000 in
theorem trimOrLimit_any (A : Option Addr) (n c : Nat) (rs : List Fac) (w : World) (hn : n ≤ 1048576) (hr : Rd w w.heap.size A n 3 Fac.cells rs) (hwf : WF rs) (hv : ShortV rs) :
    Calls Try.prog 31 #[.agg #[.slice A n c]] w (RetGC w (toldF rs) (toldC rs)) := by
  have hl := hr.len
  have HR := Lib.hid hr; clear hr
  have HWF := Lib.hid hwf
  by_cases hbig : 400 < n
  · have e1 := Lib.hid (show toldF rs = [] by unfold toldF; rw [if_pos (by omega)])
    have e2 := Lib.hid (show toldC rs = 3 by unfold toldC; rw [if_pos (by omega)])
    rw [e1.out, e2.out]
    clear e1 e2 hwf hv
    go_enter Try.func31, Try.ntmps31
    go_wp2_with fail
    refine bodyPost_ret (v := .tuple #[.agg #[.slice none 0 0], .int .i64 3]) (by simp [results, Try.results31, go_sem]) rfl ⟨none, 0, rfl, World.ownsRow_nil _ _ _ _, by (repeat first | exact Below.refl _ _ | assumption | refine Below.drew ?_ | refine Below.alloc ?_ (by first | exact Nat.le_refl _ | (simp; done) | omega | (simp; omega)) _ | refine Below.setCell ?_ (by first | exact Nat.le_refl _ | (simp; done) | omega | (simp; omega)) _)⟩
  · have hT := Lib.hid (told_lim hwf hv (by omega))
    have e1 := Lib.hid (show toldF rs = trimL rs by unfold toldF; rw [if_neg (by omega)])
    have e2 := Lib.hid (show toldC rs = 0 by unfold toldC; rw [if_neg (by omega)])
    have e3 := Lib.hid (show (trimL rs).length ≤ 400 by have := trimL_len rs; omega)
    rw [e1.out, e2.out]
    clear e1 e2 hwf hv
    go_enter Try.func31, Try.ntmps31
    go_wp2_with fail
    refine namedC fun w3 H3 => ?_
    have hb3 : Below w.heap.size w w3 := by rw [H3.out]; (repeat first | exact Below.refl _ _ | assumption | refine Below.drew ?_ | refine Below.alloc ?_ (by first | exact Nat.le_refl _ | (simp; done) | omega | (simp; omega)) _ | refine Below.setCell ?_ (by first | exact Nat.le_refl _ | (simp; done) | omega | (simp; omega)) _)
    have BC := Lib.hid (show Blk w3 (w.heap.size + 1) 24 #[.slice none 0 0] by rw [H3.out]; simpa using Blk.new (w.alloc (.cells #[.slice A n c] 24)) 24 #[.slice none 0 0])
    clear H3
    refine (trimmed_any A n c rs w3 hn (HR.out.next hb3) HWF.out).mono ?_
    rintro e w4 ⟨A4, c4, rfl, own4, hb4⟩
    have b4 := hb3.trans (hb4.mono hb3.size)
    have O4 := Lib.hid own4
    clear own4
    generalize trimL rs = T at *
    go_wp2_with fail
    refine (orLimit_yes A4 _ c4 T w4 (by have := e3.out; omega) (Rd.of_own (fun x _ => fac_len x) rfl O4.out) (wf_size hT.out.1) hT.out.2).mono ?_
    rintro e w5 ⟨rfl, hb5⟩
    have b5 := b4.trans (hb5.mono b4.size)
    have B5 := Lib.hid ((BC.out.next hb4).next hb5)
    have O5 := Lib.hid (own_next O4.out hb5)
    have d5 := B5.out.cell 0
    have f5 := B5.out.frozen
    have l5 := B5.out.lt
    have B6 := B5.out.set_ 0 (.slice A4 T.length c4)
    have x6 : (w5.setCell ⟨w.heap.size + 1, 0, none⟩ (.slice A4 T.length c4)).cell? ⟨w.heap.size + 1, 0, none⟩ = some (.slice A4 T.length c4) := by rw [B6.cell 0]; rfl
    have b6 := b5.setCell (p := ⟨w.heap.size + 1, 0, none⟩) (by simp) (.slice A4 T.length c4)
    have O6 := Lib.hid ((own_kept' O5.out B5.out (by decide) (.slice A4 T.length c4) (i := 0)).mono hb3.size)
    clear B6
    go_wp2_with fail
    exact bodyPost_ret (v := .tuple #[.agg #[.slice A4 T.length c4], .int .i64 0]) (by simp [results, Try.results31, go_sem, x6]) rfl ⟨A4, c4, rfl, O6.out, b6⟩
set_option maxHeartbeats 1000000 in
set_option maxRecDepth 100000 in
theorem l06Told_any (A : Option Addr) (n c : Nat) (rs : List Fac) (w : World) (hn : n ≤ 1048576) (hr : Rd w w.heap.size A n 3 Fac.cells rs) (hwf : WF rs) :
    Calls Try.prog 24 #[.slice A n c] w (RetGC w (toldF rs) (toldC rs)) := by
  have hl := hr.len
  have HR := Lib.hid hr; clear hr
  have HWF := Lib.hid hwf
  by_cases hbig : 400 < n
  · have e1 := Lib.hid (show toldF rs = [] by unfold toldF; rw [if_pos (by omega)])
    have e2 := Lib.hid (show toldC rs = 3 by unfold toldC; rw [if_pos (by omega)])
    rw [e1.out, e2.out]
    clear e1 e2 hwf
    go_enter Try.func24, Try.ntmps24
    go_wp2_with fail
    refine bodyPost_ret (v := .tuple #[.agg #[.slice none 0 0], .int .i64 3]) (by simp [results, Try.results24, go_sem]) rfl ⟨none, 0, rfl, World.ownsRow_nil _ _ _ _, by (repeat first | exact Below.refl _ _ | assumption | refine Below.drew ?_ | refine Below.alloc ?_ (by first | exact Nat.le_refl _ | (simp; done) | omega | (simp; omega)) _ | refine Below.setCell ?_ (by first | exact Nat.le_refl _ | (simp; done) | omega | (simp; omega)) _)⟩
  · have e1 := Lib.hid (show toldF rs = trimL rs by unfold toldF; rw [if_neg (by omega)])
    have e2 := Lib.hid (show toldC rs = 0 by unfold toldC; rw [if_neg (by omega)])
    rw [e1.out, e2.out]
    clear e1 e2 hwf
    go_enter Try.func24, Try.ntmps24
    go_wp2_with fail
    refine namedC fun w3 H3 => ?_
    have hb3 : Below w.heap.size w w3 := by rw [H3.out]; (repeat first | exact Below.refl _ _ | assumption | refine Below.drew ?_ | refine Below.alloc ?_ (by first | exact Nat.le_refl _ | (simp; done) | omega | (simp; omega)) _ | refine Below.setCell ?_ (by first | exact Nat.le_refl _ | (simp; done) | omega | (simp; omega)) _)
    have BC := Lib.hid (show Blk w3 w.heap.size 24 #[.slice none 0 0] by rw [H3.out]; exact (Blk.new _ _ _).alloc _)
    have BG := Lib.hid (show Blk w3 (w.heap.size + 1) 24 #[.slice A n c] by rw [H3.out]; simpa using Blk.new (w.alloc (.cells #[.slice none 0 0] 24)) 24 #[.slice A n c])
    clear H3
    refine (l02Trim_any (w.heap.size + 1) A n c rs w3 BG.out.lt (BG.out.cell 0) hn (HR.out.next hb3) HWF.out).mono ?_
    rintro e w4 ⟨A4, c4, rfl, own4, hb4⟩
    have b4 := hb3.trans (hb4.mono hb3.size)
    have O4 := Lib.hid own4
    clear own4
    generalize trimL rs = T at *
    have B5 := Lib.hid (BC.out.next hb4)
    have d5 := B5.out.cell 0
    have f5 := B5.out.frozen
    have l5 := B5.out.lt
    have B6 := B5.out.set_ 0 (.slice A4 T.length c4)
    have x6 : (w4.setCell ⟨w.heap.size, 0, none⟩ (.slice A4 T.length c4)).cell? ⟨w.heap.size, 0, none⟩ = some (.slice A4 T.length c4) := by rw [B6.cell 0]; rfl
    have b6 := b4.setCell (p := ⟨w.heap.size, 0, none⟩) (Nat.le_refl _) (.slice A4 T.length c4)
    have O6 := Lib.hid ((own_kept' O4.out B5.out (by decide) (.slice A4 T.length c4) (i := 0)).mono hb3.size)
    clear B6
    go_wp2_with fail
    exact bodyPost_ret (v := .tuple #[.agg #[.slice A4 T.length c4], .int .i64 0]) (by simp [results, Try.results24, go_sem, x6]) rfl ⟨A4, c4, rfl, O6.out, b6⟩
end Go.Proofs.Ytikhjoianbndhaa
