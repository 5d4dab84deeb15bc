/-
  The grammar of a plain word in the program: the small functions.
-/
import Derived.Test.YtikhjoianbndhaaPlainM
import Derived.Test.YtikhjoianbndhaaRuleK
import Derived.Test.YtikhjoianbndhaaMarkI
import Derived.Lib.Bytealg
namespace Go.Proofs.Ytikhjoianbndhaa
open Go.RowKit

theorem conv_letter (W : World) (g c : Nat) (b : UInt8) (h : W.cell? ⟨g, 0, none⟩ = some (.int .u8 (b.toNat : Int))) : (convert 87 9 (.slice (some ⟨g, 0, none⟩) 1 c)).run Try.prog W = .ok (.string ⟨#[b]⟩) W := by
  refine run_convert_bytes_back (P := Try.prog) W _ _ 5 ⟨g, 0, none⟩ c [b] Try.underlying87 Try.underlying5 Try.underlying9 fun j hj => ?_
  obtain rfl : j = 0 := by simpa using hj
  simp [Addr.add, h]
set_option maxHeartbeats 1000000 in
set_option maxRecDepth 100000 in
theorem letter_any (c : UInt8) (w : World) : Calls Try.prog 57 #[.int .u8 (c.toNat : Int)] w (Ret (Fac.val (ruleC c)) w) := by
  go_enter Try.func57, Try.ntmps57
  have hcv := conv_letter ((w.alloc (.cells #[.string ⟨#[]⟩, .int .i64 0, .int .i64 0] 44)).alloc (.cells #[.int .u8 (c.toNat : Int)] 5)) (w.heap.size + 1) 1 c (by simp)
  go_wp2_with fail
  refine bodyPost_ret (v := Fac.val (ruleC c)) (by simp [results, Try.results57, go_sem, Fac.val, ruleC]; try rfl) rfl ⟨rfl, ?_⟩
  (repeat first | exact Below.refl _ _ | assumption | refine Below.drew ?_ | refine Below.alloc ?_ (by first | exact Nat.le_refl _ | (simp; done) | omega | (simp; omega)) _ | refine Below.setCell ?_ (by first | exact Nat.le_refl _ | (simp; done) | omega | (simp; omega)) _)
theorem pairInt_any (a b : Int) (w : World) (ha : -9223372036854775808 ≤ a ∧ a ≤ 9223372036854775807) (hb : -9223372036854775808 ≤ b ∧ b ≤ 9223372036854775807) : Calls Try.prog 40 #[.int .i64 a, .int .i64 b] w (Ret (Fac.val ⟨⟨#[]⟩, a, b⟩) w) := by
  have u1 : IntKind.i64.wrap a = a := IntWalk.i64_in _ (by omega)
  have u2 : IntKind.i64.wrap b = b := IntWalk.i64_in _ (by omega)
  go_enter Try.func40, Try.ntmps40
  go_wp2
  refine bodyPost_ret (v := Fac.val ⟨⟨#[]⟩, a, b⟩) (by simp [results, Try.results40, go_sem, Fac.val]; try rfl) rfl ⟨rfl, ?_⟩
  (repeat first | exact Below.refl _ _ | assumption | refine Below.drew ?_ | refine Below.alloc ?_ (by first | exact Nat.le_refl _ | (simp; done) | omega | (simp; omega)) _ | refine Below.setCell ?_ (by first | exact Nat.le_refl _ | (simp; done) | omega | (simp; omega)) _)
set_option maxHeartbeats 1000000 in
set_option maxRecDepth 100000 in
theorem stringslite_any (s : ByteArray) (c : Int) (w : World) : Calls Try.prog 71 #[.string s, .int .u8 c] w fun e w' => e = .returned (.int .i64 (Lib.indexByte s.data.toList c.toNat.toUInt8)) ∧ w' = w := by
  go_enter Try.func71, Try.ntmps71
  go_wp2
  rw [run_callFunc_extern Try.func75 (by kernel_rfl) (by kernel_rfl) (by kernel_rfl) (e := Extern.BytealgIndexByte.indexByte) (by kernel_rfl), Lib.run_indexByteString]
  simp only [Result.andThen]
  rw [Oper.upon_value]
  go_wp2
  go_ret
  exact ⟨rfl, rfl⟩
theorem indexByte_any (s : ByteArray) (c : Int) (z : Int) (w : World) (hz : Lib.indexByte s.data.toList c.toNat.toUInt8 = z) : Calls Try.prog 56 #[.string s, .int .u8 c] w (Ret (.int .i64 z) w) := by
  have HZ := Lib.hid hz; clear hz
  go_enter Try.func56, Try.ntmps56
  go_wp2_with (go_at_call 71; refine (stringslite_any s c _).mono ?_; rintro e w' ⟨rfl, rfl⟩; rw [HZ.out])
  go_ret
  exact ⟨rfl, Below.refl _ _⟩
theorem indexByte_mem (l : List UInt8) (c : UInt8) : (0 ≤ Lib.indexByte l c) ↔ c ∈ l := by
  induction l with
  | nil => simp [Lib.indexByte]
  | cons b l ih =>
    unfold Lib.indexByte
    have := Lib.indexByte_ge l c
    by_cases hb : b = c
    · simp [hb]
    · have hb' : (b == c) = false := by simpa using hb
      rw [hb']
      simp only [Bool.false_eq_true, if_false, List.mem_cons, (Ne.symm hb : c ≠ b), false_or, ← ih]
      by_cases h1 : Lib.indexByte l c = -1
      · simp [h1]
      · have : (Lib.indexByte l c == -1) = false := by simpa using h1
        rw [this]; simp; omega
set_option maxHeartbeats 1000000 in
set_option maxRecDepth 100000 in
theorem indexR_any (A : Option Addr) (n c : Nat) (rs : List Fac) (f : Fac) (w : World) (hn : n ≤ 1048576) (hr : Rd w w.heap.size A n 3 Fac.cells rs) :
    Calls Try.prog 58 #[.slice A n c, .agg #[.string f.l, .int .i64 f.a, .int .i64 f.b]] w (Ret (.int .i64 (ixR f rs 0)) w) := by
  have hl := Lib.hid hr.len
  have HR := Lib.hid hr; clear hr
  go_enter Try.func58, Try.ntmps58
  go_wp2_with fail
  refine named fun w0 H0 => ?_
  have B0 := Lib.hid (show Blk w0 w.heap.size 44 #[.string f.l, .int .i64 f.a, .int .i64 f.b] by rw [H0.out]; exact Blk.new _ _ _)
  have hb0 : Below w.heap.size w w0 := by rw [H0.out]; (repeat first | exact Below.refl _ _ | assumption | refine Below.drew ?_ | refine Below.alloc ?_ (by first | exact Nat.le_refl _ | (simp; done) | omega | (simp; omega)) _ | refine Below.setCell ?_ (by first | exact Nat.le_refl _ | (simp; done) | omega | (simp; omega)) _)
  clear H0
  go_loopw [8] (fun i w' => ∃ k : Nat, i = .int .i64 k ∧ k ≤ n ∧ Below w0.heap.size w0 w' ∧ Hid (ixR f (rs.drop k) k = ixR f rs 0)) (fun i _ => n - (intOf i).toNat)
  case atStart => exact ⟨0, rfl, by omega, Below.refl _ _, Lib.hid rfl⟩
  case round =>
    obtain ⟨k, rfl, hk, hb, H⟩ := hrel
    have hbb := hb0.trans (hb.mono hb0.size)
    by_cases hlt : k < n
    · obtain ⟨b, o, x, rfl, hB, gx, c0, c1, c2⟩ := (HR.out.next hbb).fac hlt
      have H' := Lib.hid (show (if f = x then (k : Int) else ixR f (rs.drop (k + 1)) (k + 1)) = ixR f rs 0 by
        rw [← H.out, drop_cons gx]; rfl)
      clear gx H
      have B1 := B0.out.next hb
      obtain ⟨d0, d1, d2⟩ := B1.three
      have l1 := B1.lt
      have hup := upc wr.heap.size wr
      have i0 : (0 : Int) ≤ (k : Int) := by omega
      have i1 : (k : Int) < (n : Int) := by omega
      by_cases he : f = x
      · have he' := Lib.hid (show decide (f = x) = true by simpa using he)
        have hne := fun W => (eql_rule f x W).trans (by rw [he'.out])
        have e2 := Lib.hid (show ixR f rs 0 = (k : Int) by rw [← H'.out, if_pos he])
        clear he B1
        go_wp2_with fail
        refine wp_region_up wr.heap.size (by kernel_rfl) (by kernel_rfl) ?_
        repeat (go_big_quiet_step (fail))
        refine wpQuiet_nil ?_
        intro w2 hw2
        have hb2 := up_of hw2
        go_wp2
        go_ret
        exact ⟨ret_int e2.out.symm, hbb.trans (hb2.mono hbb.size)⟩
      · have he' := Lib.hid (show decide (f = x) = false by simpa using he)
        have hne := fun W => (eql_rule f x W).trans (by rw [he'.out])
        have e2 := Lib.hid (show ixR f (rs.drop (k + 1)) (k + 1) = ixR f rs 0 by rw [← H'.out, if_neg he])
        clear he B1
        go_wp2_with fail
        refine wp_region_up wr.heap.size (by kernel_rfl) (by kernel_rfl) ?_
        repeat (go_big_quiet_step (fail))
        refine wpQuiet_nil ?_
        intro w2 hw2
        have hb2 := up_of hw2
        go_wp2
        go_roundw
        case rel => exact ⟨k + 1, by go_num, by omega, hb.trans (hb2.mono hb.size), e2⟩
        case measure => simp [intOf]; omega
    · have e2 := Lib.hid (show ixR f rs 0 = -1 by rw [← H.out, List.drop_of_length_le (by rw [hl.out]; omega)]; rfl)
      go_wp2
      go_ret
      exact ⟨ret_int e2.out.symm, hbb⟩
end Go.Proofs.Ytikhjoianbndhaa
