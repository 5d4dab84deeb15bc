
/-
  Numbers in decimal digits: the program's (strconv.FormatInt) and the reference's.
-/
import Derived.Test.YtcpofhjoblgmgaaDoorFrame
import Derived.Test.YtcpofhjoblgmgaaDoorShelf
import Derived.Deep.RegionLaw
import Derived.Deep.DeepCutAuto
namespace Go.Proofs.YtcpofhjoblgmgaaDoor
open Go.RowKit

def dgB (k : Nat) : UInt8 := UInt8.ofNat (48 + k % 10)
/-- a number's digits as a text -/
def decS (n : Nat) : ByteArray := ⟨(Lib.decDigits n).toArray⟩
theorem decS_small {n : Nat} (h : n < 10) : decS n = ⟨#[dgB n]⟩ := by
  unfold decS dgB
  rw [Lib.decDigits, dif_pos h, show n % 10 = n by omega]
theorem decS_big {n : Nat} (h : ¬ n < 10) : decS n = decS (n / 10) ++ ⟨#[dgB n]⟩ := by
  unfold decS dgB
  rw [Lib.decDigits, dif_neg h]
  apply ByteArray.ext
  rw [ByteArray.data_append]
  apply Array.ext'
  simp
theorem decS_size : ∀ (n : Nat), (decS n).size ≤ n + 1 := by
  intro n
  induction n using Nat.strongRecOn with
  | ind n ih =>
    by_cases h : n < 10
    · rw [decS_small h]; show 1 ≤ n + 1; omega
    · rw [decS_big h, ByteArray.size_append]
      have := ih (n / 10) (by omega)
      show (decS (n / 10)).size + 1 ≤ n + 1
      omega
theorem below_more (w : World) (k : Nat) (os : Array Obj) : Below w.heap.size w (Go.Sort.grow (w.drewN k) os) :=
  ⟨rfl, rfl, rfl, by simp [Go.Sort.grow, World.drewN], fun q hq => by
    show (w.heap ++ os)[q]? = _
    rw [Array.getElem?_append_left hq]⟩
/-- behind a call nothing old has turned -/
def Fmt (v : Value) (w : World) : Prop := Calls Tryd.prog 66 #[v, .int .i64 10] w fun e w' => ∃ n : Nat, v = .int .i64 n ∧ e = .returned (.string (decS n)) ∧ Below w.heap.size w w'
theorem fmt_any (n : Nat) (hn : n ≤ 9223372036854775807) (w : World) (ht : Lib.TabIs Tryd.prog w "internal/strconv.uint64pow10" .u64 Lib.pow10Tab) : Calls Tryd.prog 66 #[.int .i64 (n : Int), .int .i64 10] w (Ret (.string (decS n)) w) := by
  refine (Tryd.internal_strconv_FormatInt_10 (n : Int) (by omega) (by omega) w ht).mono ?_
  rintro e w' ⟨he, k, os, hw⟩
  refine ⟨?_, by rw [hw]; exact below_more w k os⟩
  rw [he]
  unfold Lib.itoa decS; rw [if_neg (by omega), Int.toNat_natCast]
set_option maxRecDepth 100000 in
theorem fmt2_any (n : Nat) (hn : n ≤ 9223372036854775807) (w : World) (ht : Lib.TabIs Tryd.prog w "internal/strconv.uint64pow10" .u64 Lib.pow10Tab) : Calls Tryd.prog 55 #[.int .i64 (n : Int), .int .i64 10] w (Ret (.string (decS n)) w) := by
  have HD := Lib.hid (fmt_any n hn w ht)
  clear ht
  go_enter Tryd.func55, Tryd.ntmps55
  go_wp2_with fail
  refine HD.out.mono ?_
  rintro e w1 ⟨rfl, hb1⟩
  go_wp2_with fail
  go_ret
  exact ⟨rfl, hb1⟩
set_option maxRecDepth 100000 in
theorem implDec_any (n : Nat) (hn : n ≤ 9223372036854775807) (w : World) (ht : Lib.TabIs Tryd.prog w "internal/strconv.uint64pow10" .u64 Lib.pow10Tab) : Calls Tryd.prog 43 #[.int .i64 (n : Int)] w (Ret (.string (decS n)) w) := by
  have HD := Lib.hid (fmt2_any n hn w ht)
  clear ht
  go_enter Tryd.func43, Tryd.ntmps43
  go_wp2_with fail
  refine HD.out.mono ?_
  rintro e w1 ⟨rfl, hb1⟩
  go_wp2_with fail
  go_ret
  exact ⟨rfl, hb1⟩
theorem conv_dig (W : World) (g c : Nat) (j : Nat) (h : W.cell? ⟨g, 0, none⟩ = some (.int .u8 (48 + (j : Int) % 10))) : (convert 58 9 (.slice (some ⟨g, 0, none⟩) 1 c)).run Tryd.prog W = .ok (.string ⟨#[dgB j]⟩) W := by
  have e : ((dgB j).toNat : Int) = 48 + (j : Int) % 10 := by
    unfold dgB; rw [UInt8.toNat_ofNat']; omega
  refine run_convert_bytes_back (P := Tryd.prog) W _ _ 5 ⟨g, 0, none⟩ c [dgB j] Tryd.underlying58 Tryd.underlying5 Tryd.underlying9 fun i hi => ?_
  obtain rfl : i = 0 := by simpa using hi
  rw [List.getElem_cons_zero, e]
  exact h
set_option maxHeartbeats 1000000 in
set_option maxRecDepth 100000 in
theorem specDec_any : ∀ (k n : Nat) (w : World), n = k → n ≤ 9223372036854775807 → Calls Tryd.prog 27 #[.int .i64 (n : Int)] w (Ret (.string (decS n)) w) := by
  intro k
  induction k using Nat.strongRecOn with
  | ind k ih =>
    intro n w hk hn
    subst hk
    by_cases h : n < 10
    · have e := Lib.hid (decS_small h)
      have hcv := conv_dig (w.alloc (.cells #[.int .u8 (48 + (n : Int) % 10)] 5)) w.heap.size 1 n (by simp)
      rw [show (n : Int) % 10 = (n : Int) by omega] at hcv
      have h' : ¬ (10 : Int) ≤ (n : Int) := by omega
      have u1 : IntKind.i64.wrap (48 + (n : Int)) = 48 + (n : Int) := IntWalk.i64_in _ (by omega)
      have u2 : IntKind.u8.wrap (48 + (n : Int)) = 48 + (n : Int) := IntWalk.u8_in _ (by omega)
      rw [e.out]
      clear ih
      go_enter Tryd.func27, Tryd.ntmps27
      go_wp2_with fail
      go_ret
      exact ⟨rfl, by (repeat first | exact Below.refl _ _ | assumption | refine Below.drew ?_ | refine Below.alloc ?_ (by first | exact Nat.le_refl _ | (simp; done) | omega | (simp; omega)) _ | refine Below.setCell ?_ (by first | exact Nat.le_refl _ | (simp; done) | omega | (simp; omega)) _)⟩
    · have e := Lib.hid (decS_big h)
      have hI := ih (n / 10) (by omega) (n / 10)
      have HI := Lib.hid (fun W => (hI W rfl (by omega)).mono (R' := fun e' w' => (e' = .returned (.string (decS (n / 10))) ∧ Below W.heap.size W w') ∧ (W.cell? ⟨w.heap.size, 0, none⟩ = some (.int .u8 (48 + (n : Int) % 10)) → w'.cell? ⟨w.heap.size, 0, none⟩ = some (.int .u8 (48 + (n : Int) % 10)))) fun e' w' h => ⟨h, fun hv => by
        have hlt : w.heap.size < W.heap.size := by
          rcases Nat.lt_or_ge w.heap.size W.heap.size with q | q
          · exact q
          · unfold World.cell? at hv
            rw [Array.getElem?_eq_none (by simpa using q)] at hv
            simp at hv
        exact (h.2.cell (p := ⟨w.heap.size, 0, none⟩) hlt).trans hv⟩)
      have h' : (10 : Int) ≤ (n : Int) := by omega
      obtain ⟨m, hm⟩ : ∃ m, n / 10 = m := ⟨_, rfl⟩
      have v1 : Int.tdiv (n : Int) 10 = (m : Int) := by rw [Int.tdiv_eq_ediv_of_nonneg (by omega)]; omega
      have v2 : Int.tmod (n : Int) 10 = (n : Int) % 10 := by rw [Int.tmod_eq_emod_of_nonneg (by omega)]
      have v3 : IntKind.i64.wrap (m : Int) = (m : Int) := IntWalk.i64_in _ (by omega)
      have v4 : IntKind.i64.wrap ((n : Int) % 10) = (n : Int) % 10 := IntWalk.i64_in _ (by omega)
      have u1 : IntKind.i64.wrap (48 + (n : Int) % 10) = 48 + (n : Int) % 10 := IntWalk.i64_in _ (by omega)
      have u2 : IntKind.u8.wrap (48 + (n : Int) % 10) = 48 + (n : Int) % 10 := IntWalk.u8_in _ (by omega)
      rw [e.out]
      rw [hm] at HI ⊢
      have hsz : ¬ 9223372036854775807 < (decS m).size + 1 := by have := decS_size m; omega
      clear ih hI h hm e
      go_enter Tryd.func27, Tryd.ntmps27
      go_wp2_with fail
      have hcv := fun (W : World) (g : Nat) (h : W.cell? ⟨g, 0, none⟩ = some (.int .u8 (48 + (n : Int) % 10))) => conv_dig W g 1 n h
      go_region_law
        (go_simp
         go_wp2_with
           (go_at_call 27
            refine (HI.out _).mono ?_
            rintro e w4 ⟨⟨rfl, hb4⟩, c4⟩
            try simp at c4))
      all_goals
        go_wp2_with fail
        go_ret
        refine ⟨rfl, ?_⟩
        have z := hb4.size
        first
          | exact ((Below.refl w.heap.size w).drew.trans (hb4.mono (Nat.le_refl _))).alloc z _
          | exact (((Below.refl w.heap.size w).alloc (Nat.le_refl _) _).drew).trans (hb4.mono (by simp))
end Go.Proofs.YtcpofhjoblgmgaaDoor
