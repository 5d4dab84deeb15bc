
/-
  The marks that the laws lay into results, and whether they are still there.
-/
import Derived.Test.YtcpofhjoblgmgaaDoorOwn
namespace Go.Proofs.YtcpofhjoblgmgaaDoor
open Go.RowKit

def digB (k : Nat) : UInt8 := UInt8.ofNat (48 + k % 10)
/-- the digits of a number, ahead of a text -/
def mtGo (k : Nat) (out : ByteArray) : ByteArray :=
  if 0 < k then mtGo (k / 10) ((⟨#[digB k]⟩ : ByteArray) ++ out) else out
termination_by k
decreasing_by omega
def mt (k : Nat) : ByteArray := if k = 0 then ⟨#[109, 48]⟩ else (⟨#[109]⟩ : ByteArray) ++ mtGo k ⟨#[]⟩

theorem mtGo_pos {j : Nat} (h : 0 < j) (out : ByteArray) : mtGo j out = mtGo (j / 10) ((⟨#[digB j]⟩ : ByteArray) ++ out) := by
  conv => lhs; rw [mtGo]
  rw [if_pos h]
/-- one byte as a text -/
theorem conv_one (W : World) (j c : Nat) : (convert 58 9 (.slice (some ⟨W.heap.size, 0, none⟩) 1 c)).run Tryd.prog (W.alloc (.cells #[.int .u8 (48 + (j : Int) % 10)] 5)) =
    .ok (.string ⟨#[digB j]⟩) (W.alloc (.cells #[.int .u8 (48 + (j : Int) % 10)] 5)) := by
  have e : ((digB j).toNat : Int) = 48 + (j : Int) % 10 := by
    unfold digB; rw [UInt8.toNat_ofNat']; omega
  refine run_convert_bytes_back (P := Tryd.prog) _ _ _ 5 ⟨W.heap.size, 0, none⟩ c [digB j] Tryd.underlying58 Tryd.underlying5 Tryd.underlying9 fun i hi => ?_
  obtain rfl : i = 0 := by simpa using hi
  rw [List.getElem_cons_zero, e]
  exact (Blk.new W 5 #[.int .u8 (48 + (j : Int) % 10)]).cell 0

theorem mtGo_size : ∀ (k : Nat) (out : ByteArray), k ≤ 100000000 → (mtGo k out).size ≤ out.size + k := by
  intro k
  induction k using Nat.strongRecOn with
  | ind k ih =>
    intro out hk
    by_cases h : 0 < k
    · rw [mtGo_pos h]
      have := ih (k / 10) (by omega) ((⟨#[digB k]⟩ : ByteArray) ++ out) (by omega)
      rw [ByteArray.size_append] at this
      have e : (⟨#[digB k]⟩ : ByteArray).size = 1 := rfl
      omega
    · rw [mtGo, if_neg h]; omega
theorem mt_size (k : Nat) (h : k ≤ 100000000) : (mt k).size ≤ 200000000 := by
  unfold mt
  split
  · show 2 ≤ _; omega
  · rw [ByteArray.size_append]
    have := mtGo_size k ⟨#[]⟩ h
    have e : (⟨#[109]⟩ : ByteArray).size = 1 := rfl
    have e2 : (⟨#[]⟩ : ByteArray).size = 0 := rfl
    omega
def strEM (s : ByteArray) : List Value := [.string s]
/-- the marks from k on -/
def marks (k : Nat) : Nat → List ByteArray
  | 0 => []
  | n + 1 => mt k :: marks (k + 1) n
theorem marks_len : ∀ (n k : Nat), (marks k n).length = n
  | 0, _ => rfl
  | n + 1, k => by simp [marks, marks_len n]
theorem marks_at : ∀ (n k i : Nat), i < n → (marks k n)[i]? = some (mt (k + i))
  | 0, _, i, h => by omega
  | n + 1, k, 0, _ => by simp [marks]
  | n + 1, k, i + 1, h => by
    rw [marks, List.getElem?_cons_succ, marks_at n (k + 1) i (by omega)]
    congr 2; omega

/-- the cells of a slice of the call's own, marked -/
theorem own_set {w : World} {base : Nat} {e : TypeId} {sz n c g : Nat} {xs : List Value} (h : w.ownsRow base e sz (.slice (some ⟨g, 0, none⟩) n c) n xs) (i : Nat) (u : Value) :
    (w.setCell ⟨g, i, none⟩ u).ownsRow base e sz (.slice (some ⟨g, 0, none⟩) n c) n (xs.set i u) := by
  exact (h.stored i u).1
end Go.Proofs.YtcpofhjoblgmgaaDoor
