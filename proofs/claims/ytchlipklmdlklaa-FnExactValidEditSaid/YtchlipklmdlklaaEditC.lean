/-
  Edits measured, copied and compared.
-/
import Derived.Test.YtchlipklmdlklaaEdit
import Derived.Test.YtchlipklmdlklaaFacM
namespace Go.Proofs.Ytchlipklmdlklaa
open Go.RowKit

def edE (k i j l : Int) (s : Value) (mp : ByteArray) : Value := .agg #[.int .i64 k, .int .i64 i, .int .i64 j, .int .i64 l, s, .string mp]
theorem six {w : World} {g : Nat} {t : TypeId} {a b c d e f : Value} (h : Blk w g t #[a, b, c, d, e, f]) : w.cell? ⟨g, 0, none⟩ = some a ∧ w.cell? ⟨g, 1, none⟩ = some b ∧ w.cell? ⟨g, 2, none⟩ = some c ∧ w.cell? ⟨g, 3, none⟩ = some d ∧ w.cell? ⟨g, 4, none⟩ = some e ∧ w.cell? ⟨g, 5, none⟩ = some f :=
  ⟨h.cell 0, h.cell 1, h.cell 2, h.cell 3, h.cell 4, h.cell 5⟩
def szE (left : Int) (fs : List Fac) (mp : ByteArray) : Int := if szFacAll left fs < 0 then -1 else if szFacAll left fs - mp.size < 0 then -1 else szFacAll left fs - mp.size
set_option maxHeartbeats 1000000 in
theorem szEdit_any (k i j l : Int) (A : Option Addr) (n c : Nat) (fs : List Fac) (mp : ByteArray) (w : World) (hn : n ≤ maxLen) (hr : Rd w w.heap.size A n 3 Fac.cells fs) (hs : ∀ f ∈ fs, f.l.size ≤ maxLen) (hm : mp.size ≤ maxLen) :
    Calls Try.prog 16 #[.agg #[.int .i64 k, .int .i64 i, .int .i64 j, .int .i64 l, .slice A n c, .string mp], .int .i64 1048576] w (Ret (.int .i64 (szE 1048576 fs mp)) w) := by
  have hb0 : Below w.heap.size w (w.alloc (.cells #[.int .i64 k, .int .i64 i, .int .i64 j, .int .i64 l, .slice A n c, .string mp] 39)) := by (repeat first | exact Below.refl _ _ | assumption | refine Below.drew ?_ | refine Below.alloc ?_ (by first | exact Nat.le_refl _ | (simp; done) | omega | (simp; omega)) _ | refine Below.setCell ?_ (by first | exact Nat.le_refl _ | (simp; done) | omega | (simp; omega)) _)
  have BE := Lib.hid (Blk.new w 39 #[.int .i64 k, .int .i64 i, .int .i64 j, .int .i64 l, .slice A n c, .string mp])
  have hsz := Lib.hid (szGrammar_any A n c fs 1048576 _ (by omega) (by omega) hn (hr.next hb0) hs)
  have hle := szFacAll_le 1048576 fs (by omega)
  have e := Lib.hid (show szE 1048576 fs mp = if szFacAll 1048576 fs < 0 then -1 else if szFacAll 1048576 fs - mp.size < 0 then -1 else szFacAll 1048576 fs - mp.size from rfl)
  rw [e.out]
  unfold maxLen at hm
  generalize hz : szFacAll 1048576 fs = z at *
  clear e hr hs hz
  by_cases h0 : z < 0
  · rw [if_pos h0]
    have h1 := hsz.out
    rw [if_pos h0] at h1
    have H1 := Lib.hid h1
    clear h1 hsz
    go_enter Try.func16, Try.ntmps16
    go_wp2_with fail
    refine H1.out.mono ?_
    rintro e1 w1 ⟨rfl, hb1⟩
    go_wp2_with fail
    go_ret
    exact ⟨rfl, hb0.trans (hb1.mono hb0.size)⟩
  rw [if_neg h0]
  have h1 := hsz.out
  rw [if_neg h0] at h1
  have H1 := Lib.hid h1
  clear h1 hsz
  have u1 : IntKind.i64.wrap (z - mp.size) = z - mp.size := IntWalk.i64_in _ (by omega)
  by_cases h2 : z - mp.size < 0
  · rw [if_pos h2]
    go_enter Try.func16, Try.ntmps16
    go_wp2_with fail
    refine H1.out.mono ?_
    rintro e1 w1 ⟨rfl, hb1⟩
    have c5 := (BE.out.next hb1).cell 5
    have lt := (BE.out.next hb1).lt
    go_wp2_with fail
    go_ret
    exact ⟨rfl, hb0.trans (hb1.mono hb0.size)⟩
  · rw [if_neg h2]
    go_enter Try.func16, Try.ntmps16
    go_wp2_with fail
    refine H1.out.mono ?_
    rintro e1 w1 ⟨rfl, hb1⟩
    have c5 := (BE.out.next hb1).cell 5
    have lt := (BE.out.next hb1).lt
    go_wp2_with fail
    go_ret
    exact ⟨rfl, hb0.trans (hb1.mono hb0.size)⟩
theorem own_blk2 {w w' : World} {base : Nat} {e : TypeId} {sz n : Nat} {v : Value} {xs : List Value} (h : w.ownsRow base e sz v n xs) (hb : ∀ k, v.ownBlock = some k → w'.heap[k]? = w.heap[k]?) : w'.ownsRow base e sz v n xs := by
  refine ⟨h.1, ?_⟩
  rcases h.2 with hn | ⟨g, cap, cur, rfl, hg, hh, r⟩
  · exact .inl hn
  · exact .inr ⟨g, cap, cur, rfl, hg, (hb g rfl).trans hh, r⟩
set_option maxHeartbeats 600000 in
set_option maxRecDepth 100000 in
theorem toEdit_any (k i j l : Int) (A : Option Addr) (n c : Nat) (fs : List Fac) (mp : ByteArray) (w : World) (hn : n ≤ 1048576) (hr : Rd w w.heap.size A n 3 Fac.cells fs) :
    Calls Try.prog 18 #[.agg #[.int .i64 k, .int .i64 i, .int .i64 j, .int .i64 l, .slice A n c, .string mp]] w
      (fun e w' => ∃ A' c', e = .returned (.agg #[.int .i64 k, .int .i64 i, .int .i64 j, .int .i64 l, .slice A' fs.length c', .string mp]) ∧ w'.ownsRow w.heap.size 95 3 (.slice A' fs.length c') fs.length (fs.flatMap Fac.cells) ∧ Below w.heap.size w w') := by
  have HR := Lib.hid hr; clear hr
  go_enter Try.func18, Try.ntmps18
  go_wp2_with fail
  refine namedC fun w1 H1 => ?_
  have hb1 : Below w.heap.size w w1 := by rw [H1.out]; (repeat first | exact Below.refl _ _ | assumption | refine Below.drew ?_ | refine Below.alloc ?_ (by first | exact Nat.le_refl _ | (simp; done) | omega | (simp; omega)) _ | refine Below.setCell ?_ (by first | exact Nat.le_refl _ | (simp; done) | omega | (simp; omega)) _)
  have BA := Lib.hid (show Blk w1 w.heap.size 39 #[.int .i64 k, .int .i64 i, .int .i64 j, .int .i64 l, .slice A n c, .string mp] by rw [H1.out]; exact ((Blk.new w _ _).alloc _).alloc _)
  have BR := Lib.hid (show Blk w1 (w.heap.size + 1) 43 #[.int .i64 0, .int .i64 0, .int .i64 0, .int .i64 0, .slice none 0 0, .string ⟨#[]⟩] by rw [H1.out]; simpa using (Blk.new (w.alloc _) _ _).alloc _)
  have BO := Lib.hid (show Blk w1 (w.heap.size + 1 + 1) 43 #[.int .i64 k, .int .i64 i, .int .i64 j, .int .i64 l, .slice none 0 0, .string ⟨#[]⟩] by rw [H1.out]; simpa using Blk.new ((w.alloc _).alloc _) _ _)
  clear H1
  refine (toGrammar_any A n c fs w1 hn (HR.out.next hb1)).mono ?_
  rintro e w2 ⟨A2, c2, rfl, own2, hb2⟩
  have O2 := Lib.hid own2; clear own2
  obtain ⟨a0, a1, a2, a3, a4, a5⟩ := six (BA.out.next hb2)
  obtain ⟨r0, r1, r2, r3, r4, r5⟩ := six (BR.out.next hb2)
  obtain ⟨o0, o1, o2, o3, o4, o5⟩ := six (BO.out.next hb2)
  have la := (BA.out.next hb2).lt
  have lr := (BR.out.next hb2).lt
  have lo := (BO.out.next hb2).lt
  have fr := (BR.out.next hb2).frozen
  have fo := (BO.out.next hb2).frozen
  have b2 := hb1.trans (hb2.mono hb1.size)
  have hsz1 := Lib.hid BO.out.lt
  go_wp2_with fail
  refine bodyPost_ret (v := .agg #[.int .i64 k, .int .i64 i, .int .i64 j, .int .i64 l, .slice A2 fs.length c2, .string mp]) (by simp [results, Try.results18, go_sem, r0, r1, r2, r3, r4, r5]) rfl ⟨A2, c2, rfl, ?_, ?_⟩
  · refine own_blk2 (O2.out.mono hb1.size) (fun q hq => ?_)
    have hq1 := (O2.out.lt q hq).1
    have h1 := hsz1.out
    repeat rw [Below.heap_setCell _ _ _ _ (by simp; omega)]
  · repeat (refine Below.setCell ?_ (by simp; try omega) _)
    exact b2
set_option maxHeartbeats 2000000 in
set_option maxRecDepth 100000 in
theorem eqEdit_any (k i j l : Int) (A D : Option Addr) (n c m d : Nat) (fs : List Fac) (mp : ByteArray) (w : World) (hn : n ≤ maxLen) (hm : m ≤ maxLen) (hr : Rd w w.heap.size A n 3 Fac.cells fs) (hq : Rd w w.heap.size D m 3 Fac.cells fs) :
    Calls Try.prog 20 #[.agg #[.int .i64 k, .int .i64 i, .int .i64 j, .int .i64 l, .slice A n c, .string mp], .agg #[.int .i64 k, .int .i64 i, .int .i64 j, .int .i64 l, .slice D m d, .string mp]] w (Ret (.bool true) w) := by
  have HR := Lib.hid hr; clear hr
  have HQ := Lib.hid hq; clear hq
  have e1 : (mp.toList == mp.toList) = true := by simp
  go_enter Try.func20, Try.ntmps20
  go_wp2_with fail
  refine namedC fun w1 H1 => ?_
  have hb1 : Below w.heap.size w w1 := by rw [H1.out]; (repeat first | exact Below.refl _ _ | assumption | refine Below.drew ?_ | refine Below.alloc ?_ (by first | exact Nat.le_refl _ | (simp; done) | omega | (simp; omega)) _ | refine Below.setCell ?_ (by first | exact Nat.le_refl _ | (simp; done) | omega | (simp; omega)) _)
  have BA := Lib.hid (show Blk w1 w.heap.size 43 #[.int .i64 k, .int .i64 i, .int .i64 j, .int .i64 l, .slice A n c, .string mp] by rw [H1.out]; exact (Blk.new w _ _).alloc _)
  have BD := Lib.hid (show Blk w1 (w.heap.size + 1) 43 #[.int .i64 k, .int .i64 i, .int .i64 j, .int .i64 l, .slice D m d, .string mp] by rw [H1.out]; simpa using Blk.new (w.alloc _) _ _)
  clear H1
  refine (eqGrammar_any A D _ _ _ _ fs fs w1 hn hm (HR.out.next hb1) (HQ.out.next hb1) true (by simp)).mono ?_
  rintro e w2 ⟨rfl, hb2⟩
  obtain ⟨a0, a1, a2, a3, a4, a5⟩ := six (BA.out.next hb2)
  obtain ⟨r0, r1, r2, r3, r4, r5⟩ := six (BD.out.next hb2)
  have la := (BA.out.next hb2).lt
  have lr := (BD.out.next hb2).lt
  go_wp2_with fail
  go_ret
  exact ⟨rfl, hb1.trans (hb2.mono hb1.size)⟩
end Go.Proofs.Ytchlipklmdlklaa
