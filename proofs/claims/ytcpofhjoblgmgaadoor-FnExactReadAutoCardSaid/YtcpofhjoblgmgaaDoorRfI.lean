
/-
  Factors that are read, in the program.
-/
import Derived.Test.YtcpofhjoblgmgaaDoorRfS
import Derived.Test.YtcpofhjoblgmgaaDoorShelf
namespace Go.Proofs.YtcpofhjoblgmgaaDoor
open Go.RowKit

theorem splitB_bas (s : ByteArray) (c : UInt8) : Lib.splitB ⟨#[c]⟩ 0 (Lib.countB s ⟨#[c]⟩) s = bas (spl c s.data.toList) := by
  have h := Lib.splitB_data ⟨#[c]⟩ 0 (Lib.countB s ⟨#[c]⟩) s
  have e : Lib.countB s ⟨#[c]⟩ = Lib.count s.data.toList [c] := rfl
  rw [e] at h ⊢
  have h2 : Lib.splitK (⟨#[c]⟩ : ByteArray).data.toList 0 (Lib.count s.data.toList [c]) s.data.toList = spl c s.data.toList := split_spl c _ _ (Nat.le_refl _)
  rw [h2] at h
  unfold bas
  rw [← h, List.map_map]
  conv => lhs; rw [← List.map_id (Lib.splitB _ _ _ _)]
  refine List.map_congr_left fun x _ => ?_
  show x = ⟨x.data.toList.toArray⟩
  rw [Array.toArray_toList]
theorem flat_strE (L : List ByteArray) : L.flatMap strE = L.map Value.string := by
  induction L with
  | nil => rfl
  | cons a r ih => rw [List.flatMap_cons, List.map_cons, ← ih]; rfl
/-- what the library's variables hold -/
structure EnvR (m : Int) (es er : Value) (W : World) : Prop where
  h0 : W.cell? ⟨0, 0, none⟩ = some (.int .i64 m)
  h1 : W.cell? ⟨1, 0, none⟩ = some es
  h2 : W.cell? ⟨2, 0, none⟩ = some er
  e1 : ∃ te pe, es = .iface te pe
  e2 : ∃ te pe, er = .iface te pe
  ht : TabD W
theorem EnvR.next {m : Int} {es er : Value} {W W' : World} (h : EnvR m es er W) (hb : Below W.heap.size W W') : EnvR m es er W' :=
  ⟨(hb.cell (p := ⟨_, 0, none⟩) (Lib.lt_of_cell h.h0)).trans h.h0, (hb.cell (p := ⟨_, 0, none⟩) (Lib.lt_of_cell h.h1)).trans h.h1, (hb.cell (p := ⟨_, 0, none⟩) (Lib.lt_of_cell h.h2)).trans h.h2, h.e1, h.e2, tab_up h.ht hb⟩
theorem parse_any {m : Int} {es er : Value} (l : List UInt8) (W : World) (hE : EnvR m es er W) (hl : l.length ≤ 4000) :
    Calls Tryd.prog 30 #[.string ⟨l.toArray⟩, .int .i64 10, .int .i64 64] W (fun e w' => ∃ ev, e = .returned (.tuple #[.int .i64 (pI l), ev]) ∧ Below W.heap.size W w') := by
  have hs : (⟨l.toArray⟩ : ByteArray).size ≤ 4000 := by show l.toArray.size ≤ _; rw [List.size_toArray]; exact hl
  have hd : (⟨l.toArray⟩ : ByteArray).data.toList = l := rfl
  obtain ⟨t1, p1, q1⟩ := hE.e1
  obtain ⟨t2, p2, q2⟩ := hE.e2
  rcases hp : Lib.parseIntB 64 l with v | _ | _
  · have hv : pI l = v := by unfold pI; rw [hp]
    rw [hv]
    refine (Tryd.strconv_ParseInt_10_at64_ok ⟨l.toArray⟩ (by omega) v (by rw [hd]; exact hp) W).mono ?_
    rintro e w' ⟨rfl, hw⟩
    refine ⟨_, rfl, ?_⟩
    rcases hw with rfl | ⟨t, rfl⟩
    · exact Below.refl _ _
    · exact Lib.bytesWorld_below _ _ _
  · have hv : pI l = 0 := by unfold pI; rw [hp]
    rw [hv]
    refine (Any.strconv_ParseInt_10_at64_syntax Tryd.laysC174 ⟨l.toArray⟩ (by omega) (by rw [hd]; exact hp) es W hE.h1 (.inr ⟨t1, p1, q1⟩)).mono ?_
    rintro e w' ⟨N, rfl, _, _, hb⟩
    exact ⟨_, rfl, hb⟩
  · have hv : pI l = Lib.intSat 64 l := by unfold pI; rw [hp]
    rw [hv]
    refine (Tryd.strconv_ParseInt_10_at64_range ⟨l.toArray⟩ (by omega) (by rw [hd]; exact hp) er W hE.h2 (.inr ⟨t2, p2, q2⟩)).mono ?_
    rintro e w' ⟨N, rfl, _, _, hb⟩
    exact ⟨_, rfl, hb⟩
theorem splitI_any {m : Int} {es er : Value} (s : ByteArray) (W : World) (hE : EnvR m es er W) (hs : s.size ≤ 4000) :
    Calls Tryd.prog 13 #[.string s, .string ⟨#[10]⟩] W (RetNew W 9 1 strE (bas (spl 10 s.data.toList))) := by
  refine (Tryd.strings_Split s ⟨#[10]⟩ m W (by omega) hE.h0 (by show 1 ≤ 1; omega)).mono ?_
  rintro e w' ⟨rfl, rfl⟩
  have hlen : (bas (spl 10 s.data.toList)).length = Lib.countB s ⟨#[10]⟩ + 1 := by
    rw [← splitB_bas]; exact Lib.splitB_all ⟨#[10]⟩ (by show 1 ≤ 1; omega) 0 _ s rfl
  have hc := Lib.countB_le ⟨#[10]⟩ (by show 1 ≤ 1; omega) s.size s (Nat.le_refl _)
  rw [splitB_bas]
  generalize Lib.countB s ⟨#[10]⟩ = K at *
  generalize bas (spl 10 s.data.toList) = L at *
  refine ⟨_, K + 1, ret_slice hlen.symm, ?_, (Below.refl _ _).alloc (Nat.le_refl _) _⟩
  have hf := flat_strE L
  refine ⟨by rw [hf, List.length_map, Nat.mul_one], .inr ⟨W.heap.size, K + 1, (L.map Value.string).toArray, rfl, Nat.le_refl _, heap_alloc_new _ _, by omega, by unfold maxLen; omega, by simp [hlen], ?_⟩⟩
  rw [hf, List.toList_toArray, List.take_of_length_le (by rw [List.length_map, Nat.mul_one]; exact Nat.le_refl _)]
theorem lineI_size {l : List UInt8} (h : l.length ≤ 4000) : (lineI l).l.size ≤ maxLen := by
  unfold lineI maxLen
  split
  · show (0 : Nat) ≤ _; omega
  · show l.toArray.size ≤ _
    rw [List.size_toArray]; omega
theorem cut_small (l : List UInt8) : (Lib.cut l [32]).1.length ≤ l.length ∧ (Lib.cut l [32]).2.1.length ≤ l.length := by
  unfold Lib.cut
  split
  · exact ⟨by rw [List.length_take]; omega, by rw [List.length_drop]; omega⟩
  · exact ⟨Nat.le_refl _, by show 0 ≤ _; omega⟩
section
variable {w W W' : World} {lb lo : Nat} {LS : List (List UInt8)} {A : Option Addr} {i c : Nat} {out : List Fac}
end
end Go.Proofs.YtcpofhjoblgmgaaDoor
