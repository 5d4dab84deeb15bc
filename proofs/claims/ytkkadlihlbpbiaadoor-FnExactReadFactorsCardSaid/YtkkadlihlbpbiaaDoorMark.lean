
/-
  The marks that the laws lay into results, and whether they are still there.
-/
import Derived.Test.YtkkadlihlbpbiaaDoorOwn
namespace Go.Proofs.YtkkadlihlbpbiaaDoor
open Go.RowKit

def digB (k : Nat) : UInt8 := UInt8.ofNat (48 + k % 10)
/-- the digits of a number, ahead of a text -/
def mtGo (k : Nat) (out : ByteArray) : ByteArray :=
  if 0 < k then mtGo (k / 10) ((⟨#[digB k]⟩ : ByteArray) ++ out) else out
termination_by k
decreasing_by omega
def mt (k : Nat) : ByteArray := if k = 0 then ⟨#[109, 48]⟩ else (⟨#[109]⟩ : ByteArray) ++ mtGo k ⟨#[]⟩

theorem mtGo_pos {j : Nat} (h : 0 < j) (out : ByteArray) : mtGo j out = mtGo (j / 10) ((⟨#[digB j]⟩ : ByteArray) ++ out) := by
  conv => lhs; rw [mtGo]
  rw [if_pos h]
/-- one byte as a text -/
theorem conv_one (W : World) (j c : Nat) : (convert 49 9 (.slice (some ⟨W.heap.size, 0, none⟩) 1 c)).run Tryd.prog (W.alloc (.cells #[.int .u8 (48 + (j : Int) % 10)] 5)) =
    .ok (.string ⟨#[digB j]⟩) (W.alloc (.cells #[.int .u8 (48 + (j : Int) % 10)] 5)) := by
  have e : ((digB j).toNat : Int) = 48 + (j : Int) % 10 := by
    unfold digB; rw [UInt8.toNat_ofNat']; omega
  refine run_convert_bytes_back (P := Tryd.prog) _ _ _ 5 ⟨W.heap.size, 0, none⟩ c [digB j] Tryd.underlying49 Tryd.underlying5 Tryd.underlying9 fun i hi => ?_
  obtain rfl : i = 0 := by simpa using hi
  rw [List.getElem_cons_zero, e]
  exact (Blk.new W 5 #[.int .u8 (48 + (j : Int) % 10)]).cell 0

set_option maxHeartbeats 400000 in
set_option maxRecDepth 100000 in
theorem markText_any (k : Nat) (w : World) (hk : k ≤ 100000000) :
    Calls Tryd.prog 19 #[.int .i64 (k : Int)] w (Ret (.string (mt k)) w) := by
  by_cases h : k = 0
  · subst h
    have e := Lib.hid (show mt 0 = ⟨#[109, 48]⟩ from rfl)
    go_enter Tryd.func19, Tryd.ntmps19
    go_wp2
    go_ret
    exact ⟨by rw [e.out]; rfl, Below.refl _ _⟩
  · have e := Lib.hid (show mt k = (⟨#[109]⟩ : ByteArray) ++ mtGo k ⟨#[]⟩ by unfold mt; rw [if_neg h])
    have h1 : (0 : Int) < k := by omega
    go_enter Tryd.func19, Tryd.ntmps19
    go_wp2
    go_loopw [0, 3] (fun k_ o_ w' => ∃ (j : Nat) (out : ByteArray), k_ = .int .i64 j ∧ o_ = .string out ∧ j ≤ 100000000 ∧ out.size + j ≤ 200000000 ∧ Below w.heap.size w w' ∧ Hid (mtGo j out = mtGo k ⟨#[]⟩)) (fun k_ _ _ => (intOf k_).toNat)
    case atStart => exact ⟨k, ⟨#[]⟩, rfl, rfl, hk, by show 0 + k ≤ 200000000; omega, Below.refl _ _, Lib.hid rfl⟩
    case round =>
      obtain ⟨j, out, rfl, rfl, hj, ho, hb, H⟩ := hrel
      by_cases h0 : 0 < j
      · have hcv := fun W => conv_one W j 1
        have hn := Lib.hid (show mtGo (j / 10) ((⟨#[digB j]⟩ : ByteArray) ++ out) = mtGo k ⟨#[]⟩ from (mtGo_pos h0 out).symm.trans H.out)
        clear H
        go_wp2_with fail
        go_roundw
        case rel => exact ⟨j / 10, _, by go_num, rfl, by omega, by rw [ByteArray.size_append]; show 1 + out.size + _ ≤ _; omega, hb.alloc hb.size _, hn⟩
        case measure => simp [intOf]; omega
      · have hn := Lib.hid (show out = mtGo k ⟨#[]⟩ by rw [← H.out, mtGo, if_neg h0])
        go_wp2
        go_ret
        exact ⟨by rw [e.out, ← hn.out]; rfl, hb⟩
theorem markText_int (z : Int) (w : World) (h0 : 0 ≤ z) (h1 : z ≤ 100000000) :
    Calls Tryd.prog 19 #[.int .i64 z] w (Ret (.string (mt z.toNat)) w) := by
  obtain ⟨k, rfl⟩ := Int.eq_ofNat_of_zero_le h0
  rw [Int.toNat_natCast]
  exact markText_any k w (by omega)
theorem markText_eq (z : Int) (j : Nat) (w : World) (h0 : 0 ≤ z) (h1 : z ≤ 100000000) (hz : z.toNat = j) :
    Calls Tryd.prog 19 #[.int .i64 z] w (Ret (.string (mt j)) w) := by
  subst hz
  exact markText_int z w h0 h1
theorem mtGo_size : ∀ (k : Nat) (out : ByteArray), k ≤ 100000000 → (mtGo k out).size ≤ out.size + k := by
  intro k
  induction k using Nat.strongRecOn with
  | ind k ih =>
    intro out hk
    by_cases h : 0 < k
    · rw [mtGo_pos h]
      have := ih (k / 10) (by omega) ((⟨#[digB k]⟩ : ByteArray) ++ out) (by omega)
      rw [ByteArray.size_append] at this
      have e : (⟨#[digB k]⟩ : ByteArray).size = 1 := rfl
      omega
    · rw [mtGo, if_neg h]; omega
theorem mt_size (k : Nat) (h : k ≤ 100000000) : (mt k).size ≤ 200000000 := by
  unfold mt
  split
  · show 2 ≤ _; omega
  · rw [ByteArray.size_append]
    have := mtGo_size k ⟨#[]⟩ h
    have e : (⟨#[109]⟩ : ByteArray).size = 1 := rfl
    have e2 : (⟨#[]⟩ : ByteArray).size = 0 := rfl
    omega
def strEM (s : ByteArray) : List Value := [.string s]
/-- the marks from k on -/
def marks (k : Nat) : Nat → List ByteArray
  | 0 => []
  | n + 1 => mt k :: marks (k + 1) n
theorem marks_len : ∀ (n k : Nat), (marks k n).length = n
  | 0, _ => rfl
  | n + 1, k => by simp [marks, marks_len n]
theorem marks_at : ∀ (n k i : Nat), i < n → (marks k n)[i]? = some (mt (k + i))
  | 0, _, i, h => by omega
  | n + 1, k, 0, _ => by simp [marks]
  | n + 1, k, i + 1, h => by
    rw [marks, List.getElem?_cons_succ, marks_at n (k + 1) i (by omega)]
    congr 2; omega

/-- the cells of a slice of the call's own, marked -/
theorem own_set {w : World} {base : Nat} {e : TypeId} {sz n c g : Nat} {xs : List Value} (h : w.ownsRow base e sz (.slice (some ⟨g, 0, none⟩) n c) n xs) (i : Nat) (u : Value) :
    (w.setCell ⟨g, i, none⟩ u).ownsRow base e sz (.slice (some ⟨g, 0, none⟩) n c) n (xs.set i u) := by
  exact (h.stored i u).1
end Go.Proofs.YtkkadlihlbpbiaaDoor
