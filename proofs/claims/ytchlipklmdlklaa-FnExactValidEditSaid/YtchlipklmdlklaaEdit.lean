/-
  Is an edit valid: the model, and the program.
-/
import Derived.Test.YtchlipklmdlklaaGramV
import Derived.Test.YtchlipklmdlklaaGramL
namespace Go.Proofs.Ytchlipklmdlklaa
open Go.RowKit

def usJ (k : Int) : Bool := decide (2 ≤ k ∧ k ≤ 7)
def usK (k : Int) : Bool := decide (k = 3 ∨ k = 4 ∨ k = 6)
def usP (k : Int) : Bool := decide (k = 1)
def usM (k : Int) : Bool := decide (k = 7)
def mapB (mp : ByteArray) : Bool := decide (mp.size = 4) && okW mp
/-- is an edit valid -/
def edB (k i j l : Int) (rs : List Fac) (mp : ByteArray) : Bool :=
  inB k 1 7 && inB i 0 1000000000000000 && inB j 0 1000000000000000 && inB l 0 1000000000000000 && !(usJ k && decide (j < i)) && !(!usJ k && decide (j ≠ 0)) && !(!usK k && decide (l ≠ 0)) &&
    (usP k == decide (0 < rs.length)) && (gOk rs).isSome && (if usM k then mapB mp else decide (mp.size = 0))
set_option maxHeartbeats 1000000 in
theorem formOf_any (k : Int) (w : World) : ∃ wd : ByteArray, Calls Try.prog 40 #[.int .i64 k] w (Ret (.tuple #[.agg #[.string wd, .bool (usJ k), .bool (usK k), .bool (usP k), .bool (usM k)], .bool (inB k 1 7)]) w) := by
  rcases (show k = 1 ∨ k = 2 ∨ k = 3 ∨ k = 4 ∨ k = 5 ∨ k = 6 ∨ k = 7 ∨ (k < 1 ∨ 7 < k) by omega) with rfl | rfl | rfl | rfl | rfl | rfl | rfl | h
  case inr.inr.inr.inr.inr.inr.inr =>
    have e1 := Lib.hid (show usJ k = false by simp only [usJ, decide_eq_false_iff_not]; omega)
    have e2 := Lib.hid (show usK k = false by simp only [usK, decide_eq_false_iff_not]; omega)
    have e3 := Lib.hid (show usP k = false by simp only [usP, decide_eq_false_iff_not]; omega)
    have e4 := Lib.hid (show usM k = false by simp only [usM, decide_eq_false_iff_not]; omega)
    have e5 := Lib.hid (show inB k 1 7 = false by simp only [inB, decide_eq_false_iff_not]; omega)
    have n1 : (k == 1) = false := by simp; omega
    have n2 : (k == 2) = false := by simp; omega
    have n3 : (k == 3) = false := by simp; omega
    have n4 : (k == 4) = false := by simp; omega
    have n5 : (k == 5) = false := by simp; omega
    have n6 : (k == 6) = false := by simp; omega
    have n7 : (k == 7) = false := by simp; omega
    refine ⟨.empty, ?_⟩
    rw [e1.out, e2.out, e3.out, e4.out, e5.out]
    clear h
    go_enter Try.func40, Try.ntmps40
    go_wp2
    refine bodyPost_ret (v := .tuple #[.agg #[.string .empty, .bool false, .bool false, .bool false, .bool false], .bool false]) (by simp [results, Try.results40, go_sem]; try rfl) rfl ⟨rfl, by (repeat first | exact Below.refl _ _ | assumption | refine Below.drew ?_ | refine Below.alloc ?_ (by first | exact Nat.le_refl _ | (simp; done) | omega | (simp; omega)) _ | refine Below.setCell ?_ (by first | exact Nat.le_refl _ | (simp; done) | omega | (simp; omega)) _)⟩
  · refine ⟨⟨#[105, 110, 115, 101, 114, 116]⟩, ?_⟩
    go_enter Try.func40, Try.ntmps40
    go_wp2
    refine bodyPost_ret (v := .tuple #[.agg #[.string ⟨#[105, 110, 115, 101, 114, 116]⟩, .bool false, .bool false, .bool true, .bool false], .bool true]) (by simp [results, Try.results40, go_sem]; try rfl) rfl ⟨rfl, by (repeat first | exact Below.refl _ _ | assumption | refine Below.drew ?_ | refine Below.alloc ?_ (by first | exact Nat.le_refl _ | (simp; done) | omega | (simp; omega)) _ | refine Below.setCell ?_ (by first | exact Nat.le_refl _ | (simp; done) | omega | (simp; omega)) _)⟩
  · refine ⟨⟨#[100, 101, 108, 101, 116, 101]⟩, ?_⟩
    go_enter Try.func40, Try.ntmps40
    go_wp2
    refine bodyPost_ret (v := .tuple #[.agg #[.string ⟨#[100, 101, 108, 101, 116, 101]⟩, .bool true, .bool false, .bool false, .bool false], .bool true]) (by simp [results, Try.results40, go_sem]; try rfl) rfl ⟨rfl, by (repeat first | exact Below.refl _ _ | assumption | refine Below.drew ?_ | refine Below.alloc ?_ (by first | exact Nat.le_refl _ | (simp; done) | omega | (simp; omega)) _ | refine Below.setCell ?_ (by first | exact Nat.le_refl _ | (simp; done) | omega | (simp; omega)) _)⟩
  · refine ⟨⟨#[99, 111, 112, 121]⟩, ?_⟩
    go_enter Try.func40, Try.ntmps40
    go_wp2
    refine bodyPost_ret (v := .tuple #[.agg #[.string ⟨#[99, 111, 112, 121]⟩, .bool true, .bool true, .bool false, .bool false], .bool true]) (by simp [results, Try.results40, go_sem]; try rfl) rfl ⟨rfl, by (repeat first | exact Below.refl _ _ | assumption | refine Below.drew ?_ | refine Below.alloc ?_ (by first | exact Nat.le_refl _ | (simp; done) | omega | (simp; omega)) _ | refine Below.setCell ?_ (by first | exact Nat.le_refl _ | (simp; done) | omega | (simp; omega)) _)⟩
  · refine ⟨⟨#[109, 111, 118, 101]⟩, ?_⟩
    go_enter Try.func40, Try.ntmps40
    go_wp2
    refine bodyPost_ret (v := .tuple #[.agg #[.string ⟨#[109, 111, 118, 101]⟩, .bool true, .bool true, .bool false, .bool false], .bool true]) (by simp [results, Try.results40, go_sem]; try rfl) rfl ⟨rfl, by (repeat first | exact Below.refl _ _ | assumption | refine Below.drew ?_ | refine Below.alloc ?_ (by first | exact Nat.le_refl _ | (simp; done) | omega | (simp; omega)) _ | refine Below.setCell ?_ (by first | exact Nat.le_refl _ | (simp; done) | omega | (simp; omega)) _)⟩
  · refine ⟨⟨#[116, 117, 114, 110]⟩, ?_⟩
    go_enter Try.func40, Try.ntmps40
    go_wp2
    refine bodyPost_ret (v := .tuple #[.agg #[.string ⟨#[116, 117, 114, 110]⟩, .bool true, .bool false, .bool false, .bool false], .bool true]) (by simp [results, Try.results40, go_sem]; try rfl) rfl ⟨rfl, by (repeat first | exact Below.refl _ _ | assumption | refine Below.drew ?_ | refine Below.alloc ?_ (by first | exact Nat.le_refl _ | (simp; done) | omega | (simp; omega)) _ | refine Below.setCell ?_ (by first | exact Nat.le_refl _ | (simp; done) | omega | (simp; omega)) _)⟩
  · refine ⟨⟨#[114, 101, 112, 101, 97, 116]⟩, ?_⟩
    go_enter Try.func40, Try.ntmps40
    go_wp2
    refine bodyPost_ret (v := .tuple #[.agg #[.string ⟨#[114, 101, 112, 101, 97, 116]⟩, .bool true, .bool true, .bool false, .bool false], .bool true]) (by simp [results, Try.results40, go_sem]; try rfl) rfl ⟨rfl, by (repeat first | exact Below.refl _ _ | assumption | refine Below.drew ?_ | refine Below.alloc ?_ (by first | exact Nat.le_refl _ | (simp; done) | omega | (simp; omega)) _ | refine Below.setCell ?_ (by first | exact Nat.le_refl _ | (simp; done) | omega | (simp; omega)) _)⟩
  · refine ⟨⟨#[109, 97, 112]⟩, ?_⟩
    go_enter Try.func40, Try.ntmps40
    go_wp2
    refine bodyPost_ret (v := .tuple #[.agg #[.string ⟨#[109, 97, 112]⟩, .bool true, .bool false, .bool false, .bool true], .bool true]) (by simp [results, Try.results40, go_sem]; try rfl) rfl ⟨rfl, by (repeat first | exact Below.refl _ _ | assumption | refine Below.drew ?_ | refine Below.alloc ?_ (by first | exact Nat.le_refl _ | (simp; done) | omega | (simp; omega)) _ | refine Below.setCell ?_ (by first | exact Nat.le_refl _ | (simp; done) | omega | (simp; omega)) _)⟩
theorem isMap_any (mp : ByteArray) (w : World) (hs : mp.size ≤ maxLen) : Calls Try.prog 43 #[.string mp] w (Ret (.bool (mapB mp)) w) := by
  by_cases h : mp.size = 4
  · have e := Lib.hid (show mapB mp = okW mp by unfold mapB; rw [decide_eq_true h, Bool.true_and])
    have e0 : ((mp.size : Int) == 4) = true := by simp [h]
    rw [e.out]
    have hv := fun w' => validWord_any mp (okW mp) w' hs rfl
    generalize okW mp = b at *
    clear h
    go_enter Try.func43, Try.ntmps43
    go_wp2_with fail
    refine (hv _).mono ?_
    rintro e1 w1 ⟨rfl, hb1⟩
    go_wp2_with fail
    go_ret
    exact ⟨rfl, hb1⟩
  · have e := Lib.hid (show mapB mp = false by unfold mapB; rw [decide_eq_false h, Bool.false_and])
    have e0 : ((mp.size : Int) == 4) = false := by simp; omega
    rw [e.out]
    clear h
    go_enter Try.func43, Try.ntmps43
    go_wp2_with fail
    go_ret
    exact ⟨rfl, Below.refl _ _⟩
end Go.Proofs.Ytchlipklmdlklaa
