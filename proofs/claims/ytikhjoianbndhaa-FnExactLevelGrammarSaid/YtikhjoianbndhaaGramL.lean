/-
  Is a grammar valid, how long is its word: the small functions, in the program and in the reference; copies and equality of grammars in the laws.
-/
import Derived.Test.YtikhjoianbndhaaGramS
import Derived.Test.YtikhjoianbndhaaGramV
import Derived.Test.YtikhjoianbndhaaRule
import Derived.Test.YtikhjoianbndhaaFrame
namespace Go.Proofs.Ytikhjoianbndhaa
open Go.RowKit

def lastI (l : List Int) : Int := l.getD (l.length - 1) 0
theorem gOk_lens {rs : List Fac} {ls : List Int} (h : gOk rs = some ls) : gLens rs [] = some ls ∧ rs.length ≤ 400 ∧ ls.length = rs.length := by
  unfold gOk at h
  split at h
  · cases h
  · have := gLens_len rs [] ls h
    exact ⟨h, by omega, by simpa using this⟩
section
variable (gb : Nat) (A : Option Addr) (n c : Nat) (rs : List Fac) (w : World) (hg : gb < w.heap.size) (hc : w.cell? ⟨gb, 0, none⟩ = some (.slice A n c)) (hn : n ≤ 100000000) (hr : Rd w w.heap.size A n 3 Fac.cells rs) (hok : ∀ f ∈ rs, f.l.size ≤ maxLen)
include hg hc hn hr hok
set_option maxHeartbeats 400000 in
theorem l02Lengths_any : Calls Try.prog 63 #[.pointer (some ⟨gb, 0, none⟩)] w (LenPost rs w) := by
  have hl := Lib.hid hr.len
  by_cases h4 : 400 < n
  · have e := Lib.hid (show gOk rs = none by unfold gOk; rw [hl.out, if_pos h4])
    go_enter Try.func63, Try.ntmps63
    go_wp2_with fail
    go_ret2
    exact LenPost.no e.out (by (repeat first | exact Below.refl _ _ | assumption | refine Below.drew ?_ | refine Below.alloc ?_ (by first | exact Nat.le_refl _ | (simp; done) | omega | (simp; omega)) _ | refine Below.setCell ?_ (by first | exact Nat.le_refl _ | (simp; done) | omega | (simp; omega)) _))
  · have e := Lib.hid (show gOk rs = gLens rs [] by unfold gOk; rw [hl.out, if_neg h4])
    go_enter Try.func63, Try.ntmps63
    go_wp2_with fail
    refine (l02Sizes_any gb A n c rs _ hg hc hn hr hok).mono ?_
    rintro e' w1 ⟨hb1, ⟨ls, A', c', hgl, rfl, hown⟩ | ⟨hgl, A', n', c', rfl⟩⟩
    · have Hgl := Lib.hid hgl; clear hgl
      go_wp2_with fail
      go_ret2
      exact ⟨hb1, .inl ⟨ls, A', c', e.out.trans Hgl.out, rfl, hown⟩⟩
    · have Hgl := Lib.hid hgl; clear hgl
      go_wp2_with fail
      go_ret2
      exact LenPost.no (e.out.trans Hgl.out) hb1
theorem l02Ok_any (b : Bool) (hb : (gOk rs).isSome = b) : Calls Try.prog 43 #[.pointer (some ⟨gb, 0, none⟩)] w (Ret (.bool b) w) := by
  have Hb := Lib.hid hb; clear hb
  go_enter Try.func43, Try.ntmps43
  go_wp2_with fail
  refine (l02Lengths_any gb A n c rs _ hg hc hn hr hok).mono ?_
  rintro e w1 ⟨hb1, ⟨ls, A', c', hg, rfl, hown⟩ | ⟨hg, A', n', c', rfl⟩⟩
  · have e1 := Lib.hid (show true = b by rw [← Hb.out, hg]; rfl)
    clear hg
    go_wp2_with fail
    go_ret
    exact ⟨ret_bool e1.out, hb1⟩
  · have e1 := Lib.hid (show false = b by rw [← Hb.out, hg]; rfl)
    clear hg
    go_wp2_with fail
    go_ret
    exact ⟨ret_bool e1.out, hb1⟩
end
theorem last_any (A : Option Addr) (n c : Nat) (ls : List Int) (w : World) (hn : n ≤ 100000000) (hr : Rd w w.heap.size A n 1 intE ls) :
    Calls Try.prog 52 #[.slice A n c] w (Ret (.int .i64 (lastI ls)) w) := by
  have hl := Lib.hid hr.len
  by_cases h0 : n = 0
  · subst h0
    have e1 := Lib.hid (show lastI ls = 0 by unfold lastI; rw [List.getD_eq_getElem?_getD, List.getElem?_eq_none (by rw [hl.out]; omega)]; rfl)
    go_enter Try.func52, Try.ntmps52
    go_wp2_with fail
    go_ret
    exact ⟨ret_int e1.out.symm, Below.refl _ _⟩
  · have h0b : ((n : Int) == 0) = false := by simpa using h0
    obtain ⟨b, o, x, rfl, hB, gx, c1⟩ := (show Rd w w.heap.size A n 1 (fun s => [.int .i64 s]) ls from hr).int (k := n - 1) (by omega)
    have e1 := Lib.hid (show lastI ls = x by unfold lastI; rw [hl.out, List.getD_eq_getElem?_getD, gx]; rfl)
    have h1 : 0 < n := by omega
    clear h0 gx
    go_enter Try.func52, Try.ntmps52
    go_wp2_with fail
    go_ret
    exact ⟨ret_int e1.out.symm, Below.refl _ _⟩
theorem szGrammar_any (A : Option Addr) (n c : Nat) (fs : List Fac) (left : Int) (w : World) (h0 : 0 ≤ left) (h1 : left ≤ 1048576) (hn : n ≤ maxLen)
    (hr : Rd w w.heap.size A n 3 Fac.cells fs) (hs : ∀ f ∈ fs, f.l.size ≤ maxLen) :
    Calls Try.prog 16 #[.agg #[.slice A n c], .int .i64 left] w (Ret (.int .i64 (if szFacAll left fs < 0 then -1 else szFacAll left fs)) w) := by
  have hr' := hr.next ((Below.refl _ _).alloc (Nat.le_refl _) (.cells #[.slice A n c] 32))
  by_cases hz : szFacAll left fs < 0
  all_goals
    go_enter Try.func16, Try.ntmps16
    go_wp2_with fail
    refine (szRuleS_any A n c fs left _ h0 h1 hn hr' hs).mono ?_
    rintro e w1 ⟨rfl, hb1⟩
    go_wp2_with fail
    go_ret
    exact ⟨ret_int (by first | rfl | omega), ((Below.refl _ _).alloc (Nat.le_refl _) _).trans (hb1.mono (by simp))⟩
/-- a grammar in new memory -/
def RetG (w0 : World) (xs : List Fac) (e : Ending) (w' : World) : Prop :=
  ∃ A c, e = .returned (.agg #[.slice A xs.length c]) ∧ w'.ownsRow w0.heap.size 44 3 (.slice A xs.length c) xs.length (xs.flatMap Fac.cells) ∧ Below w0.heap.size w0 w'
theorem toGrammar_any (A : Option Addr) (n c : Nat) (fs : List Fac) (w : World) (hn : n ≤ 1048576) (hr : Rd w w.heap.size A n 3 Fac.cells fs) :
    Calls Try.prog 18 #[.agg #[.slice A n c]] w (RetG w fs) := by
  go_enter Try.func18, Try.ntmps18
  go_wp2_with fail
  refine namedC fun w3 H3 => ?_
  have B1 : Blk w3 (w.heap.size + 1) 24 #[.slice none 0 0] := by rw [H3.out]; simpa using (Blk.new (w.alloc _) _ _).alloc _
  have B2 : Blk w3 (w.heap.size + 2) 24 #[.slice none 0 0] := by rw [H3.out]; simpa using Blk.new ((w.alloc _).alloc _) _ _
  have hb0 : Below w.heap.size w w3 := by rw [H3.out]; (repeat first | exact Below.refl _ _ | assumption | refine Below.drew ?_ | refine Below.alloc ?_ (by first | exact Nat.le_refl _ | (simp; done) | omega | (simp; omega)) _ | refine Below.setCell ?_ (by first | exact Nat.le_refl _ | (simp; done) | omega | (simp; omega)) _)
  have B1' := Lib.hid B1; have B2' := Lib.hid B2; clear B1 B2
  refine (toRuleS_any A n c fs w3 hn (hr.next hb0)).mono ?_
  rintro e w1 ⟨A', c', rfl, own1, hb1⟩
  have o1 := Lib.hid own1; clear own1
  have C1 := B1'.out.next hb1
  have C2 := B2'.out.next hb1
  have x1 : w1.cell? ⟨w.heap.size + 1, 0, none⟩ = some (.slice none 0 0) := C1.cell 0
  have x2 : w1.cell? ⟨w.heap.size + 2, 0, none⟩ = some (.slice none 0 0) := C2.cell 0
  have y1 := C1.frozen
  have y2 := C2.frozen
  have z1 := C1.lt
  have z2 := C2.lt
  have hz3 := hb0.size
  have lt1 := B1'.out.lt
  have lt2 := B2'.out.lt
  go_wp2_with fail
  refine bodyPost_ret (v := .agg #[.slice A' fs.length c']) (by simp [results, Try.results18, go_sem, x1]) rfl ⟨A', c', rfl, ?_, ?_⟩
  · exact (own_kept (own_kept o1.out (gb_set _ _ _ _) lt2) (gb_set _ _ _ _) lt1).mono hz3
  · exact ((hb0.trans (hb1.mono hz3)).setCell (by simp; omega) _).setCell (by simp) _
theorem eqGrammar_any (A D : Option Addr) (n c m d : Nat) (xs ys : List Fac) (w : World) (hn : n ≤ maxLen) (hm : m ≤ maxLen)
    (hx : Rd w w.heap.size A n 3 Fac.cells xs) (hy : Rd w w.heap.size D m 3 Fac.cells ys) (b : Bool) (hb : decide (xs = ys) = b) :
    Calls Try.prog 9 #[.agg #[.slice A n c], .agg #[.slice D m d]] w (Ret (.bool b) w) := by
  have Hb := Lib.hid hb; clear hb
  have hb0 : Below w.heap.size w ((w.alloc (.cells #[.slice A n c] 24)).alloc (.cells #[.slice D m d] 24)) := by (repeat first | exact Below.refl _ _ | assumption | refine Below.drew ?_ | refine Below.alloc ?_ (by first | exact Nat.le_refl _ | (simp; done) | omega | (simp; omega)) _ | refine Below.setCell ?_ (by first | exact Nat.le_refl _ | (simp; done) | omega | (simp; omega)) _)
  have hc := eqRuleS_any A D n c m d xs ys _ hn hm (hx.next hb0) (hy.next hb0)
  rw [Hb.out] at hc
  have Hc := Lib.hid hc; clear hc
  cases b
  all_goals
    go_enter Try.func9, Try.ntmps9
    go_wp2_with fail
    refine Hc.out.mono ?_
    rintro e w1 ⟨rfl, hb1⟩
    go_wp2_with fail
    go_ret
    exact ⟨rfl, hb0.trans (hb1.mono hb0.size)⟩
end Go.Proofs.Ytikhjoianbndhaa
