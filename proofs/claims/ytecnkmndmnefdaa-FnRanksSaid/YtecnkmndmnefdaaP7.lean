/-
  Texts of this claim, merged: WdW SpW Bld PiecesR At Law.
-/
import Derived.Test.YtecnkmndmnefdaaP6
import Derived.Lib.AppendStr
import Derived.Lib.Builder
import Derived.Lib.UnsafeStr
import Derived.Laws.Externs
import Derived.ProofKit
import Derived.OpenShut
import Derived.JoinedCond
import Derived.Carry
import Derived.Deep.Slices
import Derived.Deep.Fields
import Derived.ChangeSame
import Derived.ChangeSlices
import Derived.SliceStrings
import Derived.Lib.SmallJoins


/-
  A grammar unpacked, in the reference.
-/
namespace Go.Proofs.Ytecnkmndmnefdaa
open Go.RowKit

/-- letters as bytes -/
theorem byteE_let (u : List Nat) (i : Nat) (h : ∀ x ∈ u, x < 4) : [lt8 u i] = byteE (UInt8.ofNat (97 + u.getD i 0)) := by
  have hb : u.getD i 0 < 4 := by
    rw [List.getD_eq_getElem?_getD]
    cases e : u[i]? with
    | none => simp
    | some x => exact h x (List.mem_of_getElem? e)
  have e : (UInt8.ofNat (97 + u.getD i 0)).toNat = 97 + u.getD i 0 := by rw [UInt8.toNat_ofNat']; omega
  unfold lt8 byteE
  rw [e]
theorem txB_snoc (u : List Nat) {i : Nat} (hi : i < u.length) : txB (u.take i) ++ [UInt8.ofNat (97 + u.getD i 0)] = txB (u.take (i + 1)) := by
  rw [List.take_succ_eq_append_getElem hi]
  unfold txB
  rw [List.map_append, List.getD_eq_getElem?_getD, List.getElem?_eq_getElem hi]; rfl
theorem txB_len (u : List Nat) : (txB u).length = u.length := by simp [txB]
/-- a text's letter -/
theorem tx_at (u : List Nat) (hu : ∀ x ∈ u, x < 4) (i : Nat) (hi : i < (tx u).size) : (tx u)[i].toNat = 97 + u.getD i 0 ∧ u.getD i 0 < 4 := by
  have hl : i < u.length := by rw [← tx_size]; exact hi
  have hb : u.getD i 0 < 4 := by
    rw [List.getD_eq_getElem?_getD, List.getElem?_eq_getElem hl]
    exact hu _ (List.getElem_mem hl)
  refine ⟨?_, hb⟩
  have h1 := at_byte (tx u) i hi
  rw [tx_toList, txB, List.getElem?_map, List.getElem?_eq_getElem hl] at h1
  injection h1 with h1
  rw [← h1, List.getD_eq_getElem?_getD, List.getElem?_eq_getElem hl, UInt8.toNat_ofNat']
  rw [List.getD_eq_getElem?_getD, List.getElem?_eq_getElem hl] at hb
  simp only [Option.getD_some] at hb ⊢
  omega
set_option maxHeartbeats 2000000 in
set_option maxRecDepth 100000 in
/-- the whole word -/
theorem l02Unpack_any (gb : Nat) (A : Option Addr) (n c : Nat) (rs : List Fac) (ls : List Int) (w : World) (hg : gb < w.heap.size) (hc : w.cell? ⟨gb, 0, none⟩ = some (.slice A n c)) (hr : Rd w w.heap.size A n 3 Fac.cells rs)
    (hok : ∀ f ∈ rs, f.l.size ≤ maxLen) (hls : gOk rs = some ls) (hlen : (wdN rs).length ≤ 1048576) :
    Calls Try.prog 64 #[.pointer (some ⟨gb, 0, none⟩), .int .i64 0, .int .i64 ((wdN rs).length : Nat)] w (Ret (.string (tx (wdN rs))) w) := by
  have HN := Lib.hid hr.len
  have hn4 : n ≤ 400 := by have := (gOk_lens hls).2.1; have := HN.out; omega
  have HL := Lib.hid (l02Lengths_any gb A n c rs w hg hc (by omega) hr hok)
  have HLT := Lib.hid (fun (B : Option Addr) (d : Nat) (i : Nat) (w' : World) (hb : Below w.heap.size w w') (h : Rd w' w'.heap.size B ls.length 1 intE ls) (hi : i < (wdN rs).length) =>
    l02Letter_any gb A n c rs B ls.length d ls i w' (by have := hb.size; omega) ((hb.cell (p := ⟨gb, 0, none⟩) hg).trans hc) hn4 (hr.next hb) h (gOk_lens hls).1 hi (by omega))
  have HW := Lib.hid (wdN_let (wf_of (gOk_lens hls).1))
  have HLs := Lib.hid hls
  clear hr hok hls hg hc
  generalize wdN rs = u at *
  obtain ⟨L, hL⟩ : ∃ L, u.length = L := ⟨_, rfl⟩
  have HU := Lib.hid hL
  rw [hL] at hlen ⊢
  clear hL
  go_enter Try.func64, Try.ntmps64
  go_wp2_with fail
  refine HL.out.mono ?_
  rintro e w1 ⟨hb1, ⟨ls', A', c', hgl, rfl, own1⟩ | ⟨hgl, _⟩⟩
  · obtain rfl : ls = ls' := by have := HLs.out.symm.trans hgl; injection this
    have O1 := Lib.hid (own1.alloc (.cells #[] 5))
    have W1 := Lib.hid (World.ownsRow_made (base := w.heap.size) (e := 5) (size := 1) w1 #[] 0 (by have := hb1.size; omega) (by unfold maxLen; omega) rfl)
    have B1 := Lib.hid (show Below w.heap.size w (w1.alloc (.cells #[] 5)) from hb1.alloc hb1.size _)
    clear hgl own1 hb1
    go_wp2_with fail
    go_loopw [9, 10] (fun o_ k_ w' => ∃ (k : Nat) (A2 : Option Addr) (c2 : Nat), k_ = .int .i64 k ∧ o_ = .slice A2 k c2 ∧ k ≤ L ∧ Hid (w'.ownsRow w.heap.size 5 1 (.slice A2 k c2) k ((txB (u.take k)).flatMap byteE)) ∧
        Hid (w'.ownsRow w.heap.size 2 1 (.slice A' ls.length c') ls.length (ls.flatMap intE)) ∧ Hid (Below w.heap.size w w')) (fun _ k_ _ => L - (intOf k_).toNat)
    case atStart => exact ⟨0, _, 0, rfl, rfl, by omega, Lib.hid (by simpa [txB] using W1.out), O1, B1⟩
    case round =>
      obtain ⟨k, A2, c2, rfl, rfl, hk, hown, hlr, hbb⟩ := hrel
      clear W1 O1 B1
      by_cases hlt : k < L
      · have hku : k < u.length := by rw [HU.out]; exact hlt
        have hlet := Lib.hid (show [.int .u8 (((97 + u.getD k 0 : Nat)) : Int)] = byteE (UInt8.ofNat (97 + u.getD k 0)) from byteE_let u k HW.out)
        have hsn := Lib.hid (txB_snoc u hku)
        have hkl := Lib.hid (show (txB (u.take k)).length = k by rw [txB_len, List.length_take]; omega)
        have RL := Lib.hid (Rd.of_own (enc := intE) (fun _ _ => rfl) rfl hlr.out)
        have C := Lib.hid (show Calls _ _ _ _ (Ret (.int .u8 (((97 + u.getD k 0 : Nat)) : Int)) wr) from HLT.out A' c' k wr hbb.out RL.out hku)
        generalize hz : 97 + u.getD k 0 = z at *
        clear hz
        generalize UInt8.ofNat z = b8 at *
        have i1 : (k : Int) < (L : Int) := by omega
        clear hku
        go_wp2_with fail
        refine C.out.mono ?_
        rintro e w3 ⟨rfl, hb3⟩
        have O3 := Lib.hid ((own_next hown.out hb3).alloc (.cells #[.int .u8 (z : Int)] 5))
        have L3 := Lib.hid ((own_next hlr.out hb3).alloc (.cells #[.int .u8 (z : Int)] 5))
        have B3 := Lib.hid (hbb.out.trans (hb3.mono hbb.out.size))
        have B3' := Lib.hid (show Below w.heap.size w (w3.alloc (.cells #[.int .u8 (z : Int)] 5)) from B3.out.alloc B3.out.size _)
        clear hb3
        go_wp2_with
          (at_builtin
           refine wpList_push (w0 := w) rfl _ _ _ rfl w.heap.size 5 1 1 elem_byte byteE A2 k c2 (txB (u.take k)) rfl O3.out w3.heap.size b8 #[.int .u8 (z : Int)] 5 (0, 0) rfl (heap_alloc_new _ _) hlet.out rfl (by simp [byteE, Value.oneCell']) (by omega) (by omega) (by unfold maxLen; omega) rfl B3'.out ?_
           intro A9 c9 w9 own9 hg9 hat9 hb9
           have O9 := Lib.hid own9
           have L9 := Lib.hid (L3.out.kept hg9 (own_ne L3.out O3.out (by decide)))
           have B9 := Lib.hid hb9
           clear own9 hg9 hat9 hb9)
        go_roundw
        case rel => exact ⟨k + 1, A9, c9, by go_num, rfl, by omega, Lib.hid (by rw [← hsn.out]; exact O9.out), L9, B9⟩
        case measure => simp [intOf]; omega
      · obtain rfl : k = L := by omega
        have ht : u.take k = u := List.take_of_length_le (by rw [HU.out]; omega)
        have ho := hown.out
        rw [ht] at ho
        have hcv := conv_own ho (by rw [txB_len, HU.out])
        have HT := Lib.hid (show tx u = ⟨(txB u).toArray⟩ from rfl)
        clear ho ht
        go_wp2_with fail
        go_ret
        rw [HT.out]
        exact ⟨rfl, hbb.out⟩
  · rw [HLs.out] at hgl; cases hgl
section
variable (A : Option Addr) (n c : Nat) (rs : List Fac) (ls : List Int) (w : World) (hr : Rd w w.heap.size A n 3 Fac.cells rs) (hok : ∀ f ∈ rs, f.l.size ≤ maxLen) (hls : gOk rs = some ls)
include hr hok hls
set_option maxHeartbeats 1000000 in
/-- a short word -/
theorem unpackWord_any (hlen : (wdN rs).length ≤ 2000) : Calls Try.prog 23 #[.agg #[.slice A n c]] w (Ret (.tuple #[.string (tx (wdN rs)), .int .i64 0]) w) := by
  have HN := Lib.hid hr.len
  have hn4 : n ≤ 400 := by have := (gOk_lens hls).2.1; have := HN.out; omega
  have hb0 : Below w.heap.size w (w.alloc (.cells #[.slice A n c] 26)) := by (repeat first | exact Below.refl _ _ | assumption | refine Below.drew ?_ | refine Below.alloc ?_ (by first | exact Nat.le_refl _ | (simp; done) | omega | (simp; omega)) _ | refine Below.setCell ?_ (by first | exact Nat.le_refl _ | (simp; done) | omega | (simp; omega)) _)
  have B0 := Lib.hid (Blk.new w 26 #[.slice A n c])
  have hlw := Lib.hid (last_word (gOk_lens hls).1)
  have OK := Lib.hid (fun W (hb : Below w.heap.size w W) (hB : Blk W w.heap.size 26 #[.slice A n c]) => l02Ok_any w.heap.size A n c rs W hB.lt (hB.cell 0) (by omega) (hr.next hb) hok true (by rw [hls]; rfl))
  have LE := Lib.hid (fun W (hb : Below w.heap.size w W) (hB : Blk W w.heap.size 26 #[.slice A n c]) => l02Length_any w.heap.size A n c rs W hB.lt (hB.cell 0) (by omega) (hr.next hb) hok ls (gOk_lens hls).1)
  have UN := Lib.hid (fun W (hb : Below w.heap.size w W) (hB : Blk W w.heap.size 26 #[.slice A n c]) => l02Unpack_any w.heap.size A n c rs ls W hB.lt (hB.cell 0) (hr.next hb) hok hls (by omega))
  rw [hlw.out] at LE
  clear hr hok hls hlw
  generalize wdN rs = u at *
  generalize u.length = L at *
  go_enter Try.func23, Try.ntmps23
  go_wp2_with fail
  refine (OK.out _ hb0 B0.out).mono ?_
  rintro e w1 ⟨rfl, hb1⟩
  have b1 := Lib.hid (hb0.trans (hb1.mono (by simp)))
  have B1 := Lib.hid (B0.out.next hb1)
  go_wp2_with fail
  refine (LE.out _ b1.out B1.out).mono ?_
  rintro e w2 ⟨rfl, hb2⟩
  have b2 := Lib.hid (b1.out.trans (hb2.mono b1.out.size))
  have B2 := Lib.hid (B1.out.next hb2)
  have hL : ¬ (2000 : Int) < (L : Int) := by omega
  clear hb1 hb2 hb0
  go_wp2_with fail
  refine (UN.out _ b2.out B2.out).mono ?_
  rintro e w3 ⟨rfl, hb3⟩
  have b3 := Lib.hid (b2.out.trans (hb3.mono b2.out.size))
  clear hb3
  go_wp2_with fail
  go_ret2
  exact ⟨rfl, b3.out⟩
end
end Go.Proofs.Ytecnkmndmnefdaa


/-
  A pattern that is drawn, and the powers of a plain word: in the reference.
-/
namespace Go.Proofs.Ytecnkmndmnefdaa
open Go.RowKit

set_option maxHeartbeats 2000000 in
set_option maxRecDepth 100000 in
/-- a part of the word -/
theorem l02UnpackIJ_any (gb : Nat) (A : Option Addr) (n c : Nat) (rs : List Fac) (ls : List Int) (w : World) (hg : gb < w.heap.size) (hc : w.cell? ⟨gb, 0, none⟩ = some (.slice A n c)) (hr : Rd w w.heap.size A n 3 Fac.cells rs)
    (hok : ∀ f ∈ rs, f.l.size ≤ maxLen) (hls : gOk rs = some ls) (hlen : (wdN rs).length ≤ 1048576) (i0 j0 : Nat) (hij : i0 ≤ j0) (hj0 : j0 ≤ (wdN rs).length) :
    Calls Try.prog 64 #[.pointer (some ⟨gb, 0, none⟩), .int .i64 (i0 : Int), .int .i64 (j0 : Int)] w (Ret (.string (tx (((wdN rs).drop i0).take (j0 - i0)))) w) := by
  have HN := Lib.hid hr.len
  have hn4 : n ≤ 400 := by have := (gOk_lens hls).2.1; have := HN.out; omega
  have HL := Lib.hid (l02Lengths_any gb A n c rs w hg hc (by omega) hr hok)
  have HLT := Lib.hid (fun (B : Option Addr) (d : Nat) (i : Nat) (w' : World) (hb : Below w.heap.size w w') (h : Rd w' w'.heap.size B ls.length 1 intE ls) (hi : i < (wdN rs).length) =>
    l02Letter_any gb A n c rs B ls.length d ls i w' (by have := hb.size; omega) ((hb.cell (p := ⟨gb, 0, none⟩) hg).trans hc) hn4 (hr.next hb) h (gOk_lens hls).1 hi (by omega))
  have HW := Lib.hid (wdN_let (wf_of (gOk_lens hls).1))
  have HLs := Lib.hid hls
  clear hr hok hls hg hc
  generalize wdN rs = u at *
  obtain ⟨L, hL⟩ : ∃ L, u.length = L := ⟨_, rfl⟩
  have HU := Lib.hid hL
  rw [hL] at hlen hj0
  clear hL
  go_enter Try.func64, Try.ntmps64
  go_wp2_with fail
  refine HL.out.mono ?_
  rintro e w1 ⟨hb1, ⟨ls', A', c', hgl, rfl, own1⟩ | ⟨hgl, _⟩⟩
  · obtain rfl : ls = ls' := by have := HLs.out.symm.trans hgl; injection this
    have O1 := Lib.hid (own1.alloc (.cells #[] 5))
    have W1 := Lib.hid (World.ownsRow_made (base := w.heap.size) (e := 5) (size := 1) w1 #[] 0 (by have := hb1.size; omega) (by unfold maxLen; omega) rfl)
    have B1 := Lib.hid (show Below w.heap.size w (w1.alloc (.cells #[] 5)) from hb1.alloc hb1.size _)
    clear hgl own1 hb1
    go_wp2_with fail
    go_loopw [9, 10] (fun o_ k_ w' => ∃ (k : Nat) (A2 : Option Addr) (c2 : Nat), i0 ≤ k ∧ k_ = .int .i64 k ∧ o_ = .slice A2 (k - i0 : Nat) c2 ∧ k ≤ j0 ∧ Hid (w'.ownsRow w.heap.size 5 1 (.slice A2 (k - i0) c2) (k - i0) ((txB ((u.drop i0).take (k - i0))).flatMap byteE)) ∧
        Hid (w'.ownsRow w.heap.size 2 1 (.slice A' ls.length c') ls.length (ls.flatMap intE)) ∧ Hid (Below w.heap.size w w')) (fun _ k_ _ => j0 - (intOf k_).toNat)
    case atStart => exact ⟨i0, _, 0, Nat.le_refl _, rfl, by rw [Nat.sub_self], by omega, Lib.hid (by rw [Nat.sub_self]; simpa [txB] using W1.out), O1, B1⟩
    case round =>
      obtain ⟨k, A2, c2, hk0, rfl, rfl, hk, hown, hlr, hbb⟩ := hrel
      obtain ⟨q, hq⟩ : ∃ q, k - i0 = q := ⟨_, rfl⟩
      rw [hq] at hown ⊢
      clear W1 O1 B1
      by_cases hlt : k < j0
      · have hku : k < u.length := by rw [HU.out]; omega
        have hqu : q < (u.drop i0).length := by rw [List.length_drop, HU.out]; omega
        have hqe : (u.drop i0).getD q 0 = u.getD k 0 := by rw [List.getD_eq_getElem?_getD, List.getElem?_drop, List.getD_eq_getElem?_getD, show i0 + q = k by omega]
        have hlet := Lib.hid (show [.int .u8 (((97 + u.getD k 0 : Nat)) : Int)] = byteE (UInt8.ofNat (97 + u.getD k 0)) from byteE_let u k HW.out)
        have hsn0 := txB_snoc (u.drop i0) hqu
        rw [hqe] at hsn0
        have hsn := Lib.hid hsn0
        clear hsn0
        have hkl := Lib.hid (show (txB ((u.drop i0).take q)).length = q by rw [txB_len, List.length_take]; omega)
        have RL := Lib.hid (Rd.of_own (enc := intE) (fun _ _ => rfl) rfl hlr.out)
        have C := Lib.hid (show Calls _ _ _ _ (Ret (.int .u8 (((97 + u.getD k 0 : Nat)) : Int)) wr) from HLT.out A' c' k wr hbb.out RL.out hku)
        generalize hz : 97 + u.getD k 0 = z at *
        clear hz
        generalize UInt8.ofNat z = b8 at *
        have i1 : (k : Int) < (j0 : Int) := by omega
        clear hku hqu hqe
        go_wp2_with fail
        refine C.out.mono ?_
        rintro e w3 ⟨rfl, hb3⟩
        have O3 := Lib.hid ((own_next hown.out hb3).alloc (.cells #[.int .u8 (z : Int)] 5))
        have L3 := Lib.hid ((own_next hlr.out hb3).alloc (.cells #[.int .u8 (z : Int)] 5))
        have B3 := Lib.hid (hbb.out.trans (hb3.mono hbb.out.size))
        have B3' := Lib.hid (show Below w.heap.size w (w3.alloc (.cells #[.int .u8 (z : Int)] 5)) from B3.out.alloc B3.out.size _)
        clear hb3
        go_wp2_with
          (at_builtin
           refine wpList_push (w0 := w) rfl _ _ _ rfl w.heap.size 5 1 1 elem_byte byteE A2 q c2 (txB ((u.drop i0).take q)) rfl O3.out w3.heap.size b8 #[.int .u8 (z : Int)] 5 (0, 0) rfl (heap_alloc_new _ _) hlet.out rfl (by simp [byteE, Value.oneCell']) (by omega) (by omega) (by unfold maxLen; omega) rfl B3'.out ?_
           intro A9 c9 w9 own9 hg9 hat9 hb9
           have O9 := Lib.hid own9
           have L9 := Lib.hid (L3.out.kept hg9 (own_ne L3.out O3.out (by decide)))
           have B9 := Lib.hid hb9
           clear own9 hg9 hat9 hb9)
        go_roundw
        case rel => exact ⟨k + 1, A9, c9, by omega, by go_num, by rw [show k + 1 - i0 = q + 1 by omega], by omega, Lib.hid (by rw [show k + 1 - i0 = q + 1 by omega, ← hsn.out]; exact O9.out), L9, B9⟩
        case measure => simp [intOf]; omega
      · obtain rfl : k = j0 := by omega
        rw [hq]
        have hkl := Lib.hid (show (txB ((u.drop i0).take q)).length = q by rw [txB_len, List.length_take, List.length_drop, HU.out]; omega)
        have hcv := conv_own hown.out hkl.out
        have HT := Lib.hid (show tx ((u.drop i0).take q) = ⟨(txB ((u.drop i0).take q)).toArray⟩ from rfl)
        go_wp2_with fail
        go_ret
        rw [hq, HT.out]
        exact ⟨rfl, hbb.out⟩
  · rw [HLs.out] at hgl; cases hgl
theorem strCells_byteE (s : ByteArray) : Go.Lib.strCells s = s.data.toList.flatMap byteE := by
  have h : ∀ l : List UInt8, l.flatMap byteE = l.map fun b => Value.int .u8 (b.toNat : Int) := fun l => by
    induction l with
    | nil => rfl
    | cons b r ih => rw [List.flatMap_cons, ih]; rfl
  rw [h]; rfl
theorem info_u8b : (Try.prog.info? 5).map (fun i => (i.zero, i.size, i.bytes)) = some (some (.int .u8 0), 1, 1) := by kernel_rfl
theorem txB_app (u v : List Nat) : txB (u ++ v) = txB u ++ txB v := by simp [txB]
set_option maxHeartbeats 2000000 in
set_option maxRecDepth 100000 in
theorem l01Times_any (P : List Nat) (k : Nat) (w : World) (hk : k * P.length ≤ 2000) (h0 : 0 < P.length) :
    Calls Try.prog 75 #[.string (tx P), .int .i64 (k : Int)] w (Ret (.string (tx (rep P k))) w) := by
  have hsz := tx_size P
  have HS := Lib.hid (show (tx P).data.toList = txB P from rfl)
  have HT := Lib.hid (show tx (rep P k) = ⟨(txB (rep P k)).toArray⟩ from rfl)
  have HSC := Lib.hid (strCells_byteE (tx P))
  generalize tx P = x at *
  have HX := Lib.hid hsz; clear hsz
  have hk2 : k ≤ 2000 := Nat.le_trans (by have := Nat.mul_le_mul_left k h0; omega) hk
  have W1 := Lib.hid (World.ownsRow_made (base := w.heap.size) (e := 5) (size := 1) w #[] 0 (Nat.le_refl _) (by unfold maxLen; omega) rfl)
  obtain ⟨i0, hi, hz0, hz1, hz2⟩ := info_parts info_u8b
  go_enter Try.func75, Try.ntmps75
  go_wp2_with fail
  go_loopw [5, 6] (fun o_ k_ w' => ∃ (j : Nat) (A : Option Addr) (c : Nat), k_ = .int .i64 j ∧ o_ = .slice A (j * P.length) c ∧ j ≤ k ∧ Hid (w'.ownsRow w.heap.size 5 1 (.slice A (j * P.length) c) (j * P.length) ((txB (rep P j)).flatMap byteE)) ∧ Hid (Below w.heap.size w w')) (fun _ k_ _ => k - (intOf k_).toNat)
  case atStart => exact ⟨0, some ⟨w.heap.size, 0, none⟩, 0, rfl, by rw [Nat.zero_mul], by omega, Lib.hid (by rw [Nat.zero_mul]; simpa [txB, rep] using W1.out), Lib.hid (by (repeat first | exact Below.refl _ _ | assumption | refine Below.drew ?_ | refine Below.alloc ?_ (by first | exact Nat.le_refl _ | (simp; done) | omega | (simp; omega)) _ | refine Below.setCell ?_ (by first | exact Nat.le_refl _ | (simp; done) | omega | (simp; omega)) _))⟩
  case round =>
    obtain ⟨j, A, c, rfl, rfl, hj, hown, hbb⟩ := hrel
    have hjm : j * P.length ≤ k * P.length := Nat.mul_le_mul_right _ hj
    obtain ⟨N, hN⟩ : ∃ N, j * P.length = N := ⟨_, rfl⟩
    rw [hN] at hown hjm ⊢
    have Hlen := Lib.hid (show (txB (rep P j)).length = N by rw [txB_len, rep_len]; exact hN)
    by_cases hlt : j < k
    · have i1 : (j : Int) < (k : Int) := by omega
      have hnx : (j + 1) * P.length = N + P.length := by rw [Nat.succ_mul, hN]
      have hnk : N + P.length ≤ k * P.length := by rw [← hnx]; exact Nat.mul_le_mul_right _ hlt
      have Hnx := Lib.hid hnx
      have e := Lib.hid (show (txB (rep P j)).flatMap byteE ++ Go.Lib.strCells x = (txB (rep P (j + 1))).flatMap byteE by
        rw [HSC.out, HS.out, ← List.flatMap_append, ← txB_app]; rfl)
      clear hN hnx
      go_wp2_with
        (at_builtin
         refine Go.Lib.wpList_append_own_string _ rfl _ _ 22 9 rfl w.heap.size 5 i0 Try.underlying22 Try.underlying9 hi hz0 hz1 hz2 (.slice A N c) N _ rfl hown.out x rfl (by rw [HX.out]; unfold maxLen; omega) (by rw [HX.out]; omega) hbb.out.size ?_
         rw [e.out, HX.out]
         intro v9 w9 own9 hg9 hat9
         obtain ⟨g9, c9, hv9, _, _⟩ := own9.form (by omega)
         subst hv9
         have O9 := Lib.hid own9
         have B9 := Lib.hid (hbb.out.grown hg9 hbb.out.size (own_ge hown.out))
         clear own9 hg9 hat9)
      go_roundw
      case rel => exact ⟨j + 1, some ⟨g9, 0, none⟩, c9, by go_num, by rw [Hnx.out], by omega, Lib.hid (by rw [Hnx.out]; exact O9.out), B9⟩
      case measure => simp [intOf]; omega
    · obtain rfl : j = k := by omega
      have hcv := conv_own hown.out Hlen.out
      go_wp2_with fail
      go_ret
      rw [HT.out]
      exact ⟨rfl, hbb.out⟩
set_option maxHeartbeats 1000000 in
theorem powerWord_any (P : List Nat) (k : Nat) (w : World) (hP : ∀ x ∈ P, x < 4) (hk : k * P.length ≤ 2000) (h0 : 0 < P.length) (hp : P.length ≤ 2000) :
    Calls Try.prog 27 #[.string (tx P), .int .i64 (k : Int)] w (Ret (.tuple #[.string (tx (rep P k)), .int .i64 0]) w) := by
  have hsz := tx_size P
  have hok := Lib.hid (okW_tx hP hp)
  have LT := Lib.hid (fun W => l01Times_any P k W hk h0)
  have hk2 : k ≤ 2000 := Nat.le_trans (by have := Nat.mul_le_mul_left k h0; omega) hk
  have hmul : (P.length : Int) * (k : Int) = ((k * P.length : Nat) : Int) := by rw [Int.natCast_mul, Int.mul_comm]
  have hxk : ((tx P).size : Int) * (k : Int) = ((k * P.length : Nat) : Int) := by rw [hsz]; exact hmul
  generalize tx P = x at *
  generalize tx (rep P k) = y at *
  generalize k * P.length = N at *
  have u1 : IntKind.i64.wrap ((x.size : Int) * (k : Int)) = (N : Int) := by rw [hxk, IntWalk.i64_in _ (by omega)]
  have u2 : wrap64 ((x.size : Int) * (k : Int)) = (N : Int) := by rw [hxk, IntWalk.wrap64_in _ (by omega)]
  have x1 : ¬ (x.size = 0) := by omega
  have k1 : ¬ ((k : Int) < 0) := by omega
  have k2 : ¬ ((2000 : Int) < (k : Int)) := by omega
  have n2 : ¬ ((2000 : Int) < (N : Int)) := by omega
  go_enter Try.func27, Try.ntmps27
  go_wp2_with fail
  refine (specOk_any x true _ (by rw [hsz]; unfold maxLen; omega) hok.out).mono ?_
  rintro e w1 ⟨rfl, hb1⟩
  go_wp2_with fail
  refine (LT.out w1).mono ?_
  rintro e w2 ⟨rfl, hb2⟩
  go_wp2_with fail
  go_ret2
  exact ⟨rfl, hb1.trans (hb2.mono hb1.size)⟩
theorem tx_nums {s : ByteArray} (h : s.data.toList.all letB = true) : tx (nums s) = s := by
  have e : txB (nums s) = s.data.toList := by
    unfold txB nums
    rw [List.map_map]
    conv => rhs; rw [← List.map_id s.data.toList]
    refine List.map_congr_left fun c hc => ?_
    rw [List.all_eq_true] at h
    have hb := letB_num (h c hc)
    show UInt8.ofNat (97 + (c.toNat - 97)) = c
    rw [show 97 + (c.toNat - 97) = c.toNat by omega]
    exact UInt8.ofNat_toNat
  show (⟨(txB (nums s)).toArray⟩ : ByteArray) = s
  rw [e]
theorem nums_let {s : ByteArray} (h : s.data.toList.all letB = true) : ∀ x ∈ nums s, x < 4 := by
  intro x hx
  obtain ⟨c, hc, rfl⟩ := List.mem_map.1 hx
  rw [List.all_eq_true] at h
  have hb := letB_num (h c hc)
  show c.toNat - 97 < 4
  omega
theorem nums_len (s : ByteArray) : (nums s).length = s.size := by unfold nums; rw [List.length_map]; rfl
/-- a pattern -/
structure PatOk (P : List Nat) : Prop where
  pos : 0 < P.length
  few : P.length ≤ 4
  lt : ∀ x ∈ P, x < 4
set_option maxHeartbeats 2000000 in
set_option maxRecDepth 100000 in
theorem p6Pattern_any (D : Option Addr) (m d : Nat) (bs : List UInt8) (A : Option Addr) (n c : Nat) (rs : List Fac) (w : World) (hm : m ≤ 4096) (hd : Rd w w.heap.size D m 1 byteE bs) (hr : Rd w w.heap.size A n 3 Fac.cells rs) (hg : (gOk rs).isSome = true) (hpos : 0 < (wdN rs).length) (hlen : (wdN rs).length ≤ 1000) :
    Calls Try.prog 24 #[.slice D m d, .agg #[.slice A n c]] w (fun e w' => ∃ P, e = .returned (.string (tx P)) ∧ PatOk P ∧ Below w.heap.size w w') := by
  obtain ⟨ls, hls⟩ := Option.isSome_iff_exists.1 hg
  have hls' := (gOk_lens hls).1
  have hn : n ≤ 400 := by have := (gOk_lens hls).2.1; have := hr.len; omega
  have HR := Lib.hid hr; clear hr
  have HD := Lib.hid hd; clear hd
  have HZ := Lib.hid (wf_sz (wf_of hls'))
  have hlast := last_word hls'
  have LN := Lib.hid (fun W (h : Below w.heap.size w W) (hB : Blk W w.heap.size 26 #[.slice A n c]) => l02Length_any w.heap.size A n c rs W hB.lt (hB.cell 0) (by omega) (HR.out.next h) HZ.out ls hls')
  have UP := Lib.hid (fun W (h : Below w.heap.size w W) (hB : Blk W w.heap.size 26 #[.slice A n c]) (i j : Nat) (hij : i ≤ j) (hj : j ≤ (wdN rs).length) => l02UnpackIJ_any w.heap.size A n c rs ls W hB.lt (hB.cell 0) (HR.out.next h) HZ.out hls (by omega) i j hij hj)
  have HU := Lib.hid (wdN_let (wf_of hls'))
  rw [hlast] at LN
  clear hls hls' hlast hg HZ
  generalize wdN rs = u at *
  obtain ⟨L, hL⟩ : ∃ L, u.length = L := ⟨_, rfl⟩
  rw [hL] at LN UP hpos hlen
  have hLu := Lib.hid hL
  clear hL
  go_enter Try.func24, Try.ntmps24
  go_wp2_with fail
  refine namedC fun w1 H1 => ?_
  have c1 := Lib.hid (show Below w.heap.size w w1 by rw [H1.out]; (repeat first | exact Below.refl _ _ | assumption | refine Below.drew ?_ | refine Below.alloc ?_ (by first | exact Nat.le_refl _ | (simp; done) | omega | (simp; omega)) _ | refine Below.setCell ?_ (by first | exact Nat.le_refl _ | (simp; done) | omega | (simp; omega)) _))
  have B1 := Lib.hid (show Blk w1 w.heap.size 26 #[.slice A n c] by rw [H1.out]; exact Blk.new _ _ _)
  clear H1
  refine (l00From_any D m d bs w1 hm (HD.out.next c1.out)).mono ?_
  rintro e w2 ⟨g, rfl, hg, s2, hb2⟩
  have hg0 : w.heap.size < g := by have := B1.out.lt; omega
  have c2 := Lib.hid (c1.out.trans (hb2.mono c1.out.size))
  have B2 := Lib.hid (B1.out.next hb2)
  clear c1 B1 hb2 hg
  go_wp2_with fail
  refine (l01Drawn_any g 0 3 w2 s2 (by omega) (by omega) (by omega)).mono ?_
  rintro e w3 ⟨x, rfl, hx3, hxl, s3, g3⟩
  have c3 := Lib.hid (c2.out.grown g3 c2.out.size (fun k e => by injection e; omega))
  have B3 := Lib.hid (B2.out.grown g3 (by intro e; injection e with e; omega))
  have XL := Lib.hid hxl
  clear c2 B2 s2 g3 hxl
  have L0 : (0 : Int) < (L : Int) := by omega
  go_wp2_with fail
  refine (LN.out w3 c3.out B3.out).mono ?_
  rintro e w4 ⟨rfl, hb4⟩
  have c4 := Lib.hid (c3.out.trans (hb4.mono c3.out.size))
  have B4 := Lib.hid (B3.out.next hb4)
  have S4 := Lib.hid (s3.next hb4)
  clear c3 B3 s3 hb4
  have part : ∀ (wa : World) (K : Nat), K ≤ 5000000 → Below w.heap.size w wa → True := fun _ _ _ _ => trivial
  clear part
  by_cases hx0 : x.size = 0
  · have e0 := size0 hx0
    go_wp2_with fail
    refine (LN.out w4 c4.out B4.out).mono ?_
    rintro e w6 ⟨rfl, hb6⟩
    have c6 := Lib.hid (c4.out.trans (hb6.mono c4.out.size))
    have B6 := Lib.hid (B4.out.next hb6)
    have S6 := Lib.hid (S4.out.next hb6)
    clear c4 B4
    go_wp2_with fail
    refine (pick_any g _ L L w6 S6.out (by omega) (by omega) (by omega)).mono ?_
    rintro e w7 ⟨v, rfl, v0, v1, s7, g7⟩
    have c7 := Lib.hid (c6.out.grown g7 c6.out.size (fun k e => by injection e; omega))
    have B7 := Lib.hid (B6.out.grown g7 (by intro e; injection e with e; omega))
    clear c6 B6 S6 hb6 g7
    go_wp2_with fail
    refine (LN.out w7 c7.out B7.out).mono ?_
    rintro e w8 ⟨rfl, hb8⟩
    have c8 := Lib.hid (c7.out.trans (hb8.mono c7.out.size))
    have B8 := Lib.hid (B7.out.next hb8)
    have S8 := Lib.hid (s7.next hb8)
    clear c7 B7 s7 hb8
    have um1 : IntKind.i64.wrap (v + 1) = v + 1 := IntWalk.i64_in _ (by omega)
    go_wp2_with fail
    refine (pick_any g _ 4 4 w8 S8.out (by omega) (by omega) (by omega)).mono ?_
    rintro e w9 ⟨v2, rfl, v20, v21, s9, g9⟩
    have c9 := Lib.hid (c8.out.grown g9 c8.out.size (fun k e => by injection e; omega))
    have B9 := Lib.hid (B8.out.grown g9 (by intro e; injection e with e; omega))
    clear c8 B8 S8 g9 s9
    have um2 : IntKind.i64.wrap (v + 1 + v2) = v + 1 + v2 := IntWalk.i64_in _ (by omega)
    go_wp2_with fail
    refine (l00Min_any (L : Int) (v + 1 + v2) w9).mono ?_
    rintro e w10 ⟨rfl, hb10⟩
    have c10 := Lib.hid (c9.out.trans (hb10.mono c9.out.size))
    have B10 := Lib.hid (B9.out.next hb10)
    clear c9 B9 hb10 um1 um2
    obtain ⟨i, rfl⟩ := Int.eq_ofNat_of_zero_le v0
    obtain ⟨j, hj⟩ := Int.eq_ofNat_of_zero_le (show 0 ≤ min (L : Int) ((i : Int) + 1 + v2) by omega)
    rw [hj]
    have ij : i < j := by omega
    have jL : j ≤ L := by omega
    have ij4 : j ≤ i + 4 := by omega
    go_wp2_with fail
    refine (UP.out w10 c10.out B10.out i j (by omega) jL).mono ?_
    have hPl : ((u.drop i).take (j - i)).length = j - i := by rw [List.length_take, List.length_drop, hLu.out]; omega
    have hP4 : ∀ z ∈ (u.drop i).take (j - i), z < 4 := fun z hz => HU.out z (List.mem_of_mem_drop (List.mem_of_mem_take hz))
    generalize (u.drop i).take (j - i) = P at *
    rintro e w11 ⟨rfl, hb11⟩
    have hys := tx_size P
    have hy0 : (tx P).size ≠ 0 := by omega
    have f0 := size1 hy0
    have f1 := size1' hy0
    generalize hyx : tx P = y at *
    go_wp2_with fail
    go_ret
    exact ⟨P, by rw [hyx]; rfl, ⟨by omega, by omega, hP4⟩, c10.out.trans (hb11.mono c10.out.size)⟩
  · have e0 := size1 hx0
    have e1 := size1' hx0
    go_wp2_with fail
    refine (one_any g _ 3 w4 S4.out (by omega) (by omega)).mono ?_
    rintro e w5 ⟨b, rfl, s5, g5⟩
    have c5 := Lib.hid (c4.out.grown g5 c4.out.size (fun k e => by injection e; omega))
    have B5 := Lib.hid (B4.out.grown g5 (by intro e; injection e with e; omega))
    cases b
    · go_wp2_with fail
      refine (LN.out w5 c5.out B5.out).mono ?_
      rintro e w6 ⟨rfl, hb6⟩
      have c6 := Lib.hid (c5.out.trans (hb6.mono c5.out.size))
      have B6 := Lib.hid (B5.out.next hb6)
      have S6 := Lib.hid (s5.next hb6)
      clear c5 B5
      go_wp2_with fail
      refine (pick_any g _ L L w6 S6.out (by omega) (by omega) (by omega)).mono ?_
      rintro e w7 ⟨v, rfl, v0, v1, s7, g7⟩
      have c7 := Lib.hid (c6.out.grown g7 c6.out.size (fun k e => by injection e; omega))
      have B7 := Lib.hid (B6.out.grown g7 (by intro e; injection e with e; omega))
      clear c6 B6 S6 hb6 g7
      go_wp2_with fail
      refine (LN.out w7 c7.out B7.out).mono ?_
      rintro e w8 ⟨rfl, hb8⟩
      have c8 := Lib.hid (c7.out.trans (hb8.mono c7.out.size))
      have B8 := Lib.hid (B7.out.next hb8)
      have S8 := Lib.hid (s7.next hb8)
      clear c7 B7 s7 hb8
      have um1 : IntKind.i64.wrap (v + 1) = v + 1 := IntWalk.i64_in _ (by omega)
      go_wp2_with fail
      refine (pick_any g _ 4 4 w8 S8.out (by omega) (by omega) (by omega)).mono ?_
      rintro e w9 ⟨v2, rfl, v20, v21, s9, g9⟩
      have c9 := Lib.hid (c8.out.grown g9 c8.out.size (fun k e => by injection e; omega))
      have B9 := Lib.hid (B8.out.grown g9 (by intro e; injection e with e; omega))
      clear c8 B8 S8 g9 s9
      have um2 : IntKind.i64.wrap (v + 1 + v2) = v + 1 + v2 := IntWalk.i64_in _ (by omega)
      go_wp2_with fail
      refine (l00Min_any (L : Int) (v + 1 + v2) w9).mono ?_
      rintro e w10 ⟨rfl, hb10⟩
      have c10 := Lib.hid (c9.out.trans (hb10.mono c9.out.size))
      have B10 := Lib.hid (B9.out.next hb10)
      clear c9 B9 hb10 um1 um2
      obtain ⟨i, rfl⟩ := Int.eq_ofNat_of_zero_le v0
      obtain ⟨j, hj⟩ := Int.eq_ofNat_of_zero_le (show 0 ≤ min (L : Int) ((i : Int) + 1 + v2) by omega)
      rw [hj]
      have ij : i < j := by omega
      have jL : j ≤ L := by omega
      have ij4 : j ≤ i + 4 := by omega
      go_wp2_with fail
      refine (UP.out w10 c10.out B10.out i j (by omega) jL).mono ?_
      have hPl : ((u.drop i).take (j - i)).length = j - i := by rw [List.length_take, List.length_drop, hLu.out]; omega
      have hP4 : ∀ z ∈ (u.drop i).take (j - i), z < 4 := fun z hz => HU.out z (List.mem_of_mem_drop (List.mem_of_mem_take hz))
      generalize (u.drop i).take (j - i) = P at *
      rintro e w11 ⟨rfl, hb11⟩
      have hys := tx_size P
      have hy0 : (tx P).size ≠ 0 := by omega
      have f0 := size1 hy0
      have f1 := size1' hy0
      generalize hyx : tx P = y at *
      go_wp2_with fail
      go_ret
      exact ⟨P, by rw [hyx]; rfl, ⟨by omega, by omega, hP4⟩, c10.out.trans (hb11.mono c10.out.size)⟩
    · go_wp2_with fail
      go_ret
      exact ⟨nums x, by rw [tx_nums XL.out]; rfl, ⟨by rw [nums_len]; omega, by rw [nums_len]; omega, nums_let XL.out⟩, c5.out⟩
end Go.Proofs.Ytecnkmndmnefdaa


/-
  strings.Builder: a fresh one into which one text is written.
-/
namespace Go.Proofs.Ytecnkmndmnefdaa
open Go.RowKit

theorem bld_size : (Try.prog.info? 115).map (·.size) = some 2 := by kernel_rfl
theorem bld_lies : liesAt Try.prog Try.prog.depth 115 (2 / Try.prog.cellsOf 115) 0 115 1 = true := by kernel_rfl
set_option maxHeartbeats 1000000 in
set_option maxRecDepth 100000 in
theorem bCopy_any (b : Nat) (v : Value) (w : World) (hB : Blk w b 115 #[.pointer none, v]) :
    Calls Try.prog 96 #[.pointer (some ⟨b, 0, none⟩)] w fun e w' => e = .returned (.tuple #[]) ∧ w' = w.setCell ⟨b, 0, none⟩ (.pointer (some ⟨b, 0, none⟩)) := by
  obtain ⟨j, hj, hjs⟩ := Option.map_eq_some_iff.1 bld_size
  have h0 : w.cell? ⟨b, 0, none⟩ = some (.pointer none) := hB.cell 0
  have hsh : w.shape? b = some (115, 2) := by unfold Blk at hB; simp [World.shape?, hB]
  have hfz := hB.frozen 0
  have hl := hB.lt
  go_enter Try.func96, Try.ntmps96
  go_wp2
  rw [Lib.run_to_unsafe w ⟨b, 0, none⟩ Try.underlying113 Try.underlying129 hj (by rw [hjs]; decide) hsh (Nat.zero_lt_succ 1)]
  simp only [Result.andThen]
  rw [Oper.upon_value]
  go_wp2
  rw [run_callFunc_extern Try.func98 (by kernel_rfl) (by kernel_rfl) (by kernel_rfl) (e := Extern.AbiNoEscape.same) (by kernel_rfl)]
  rw [Lib.run_noEscape]
  simp only [Result.andThen]
  rw [Oper.upon_value]
  go_wp2
  rw [Lib.run_from_unsafe w ⟨b, 0, none⟩ Try.underlying129 Try.underlying113 hj hsh bld_lies]
  simp only [Result.andThen]
  rw [Oper.upon_value]
  go_wp2
  go_end0
  exact ⟨rfl, rfl⟩
theorem bld_next {T e : TypeId} {B b : Nat} {p : Value} {bs : List Value} {w w' : World} (h : Lib.BuilderAt T e B b p bs w) (hb : Below w.heap.size w w') : Lib.BuilderAt T e B b p bs w' := by
  have hl := h.lt
  obtain ⟨hB, v, hbk, hown, hne⟩ := h
  exact ⟨hB, v, (hb.block b hl).trans hbk, own_next hown hb, hne⟩
set_option maxHeartbeats 2000000 in
set_option maxRecDepth 100000 in
/-- the first text in a fresh builder -/
theorem bWrite_any (B b : Nat) (s : ByteArray) (w : World) (hB : B ≤ b) (hbk : Blk w b 115 #[.pointer none, .slice none 0 0]) (hs : s.size ≤ 1048576) :
    Calls Try.prog 89 #[.pointer (some ⟨b, 0, none⟩), .string s] w fun e w' => e = .returned (.tuple #[.int .i64 s.size, .nilIface]) ∧ w.grownBy w' (some b) ∧ Lib.BuilderAt 115 5 B b (.pointer (some ⟨b, 0, none⟩)) (Lib.strCells s) w' := by
  obtain ⟨i0, hi, hz0, hz1, hz2⟩ := info_parts info_u8b
  have hlt := hbk.lt
  have HC := Lib.hid (bCopy_any b _ w hbk)
  have B1 := Lib.hid (hbk.set_ 0 (.pointer (some ⟨b, 0, none⟩)))
  have hg := Lib.hid (gb_set w b 0 (.pointer (some ⟨b, 0, none⟩)))
  have hsz : (w.setCell ⟨b, 0, none⟩ (.pointer (some ⟨b, 0, none⟩))).heap.size = w.heap.size := by simp [World.setCell]
  go_enter Try.func89, Try.ntmps89
  go_wp2_with fail
  refine HC.out.mono ?_
  rintro e w1 ⟨rfl, rfl⟩
  generalize w.setCell ⟨b, 0, none⟩ (.pointer (some ⟨b, 0, none⟩)) = w1 at *
  have B1' : Blk w1 b 115 #[.pointer (some ⟨b, 0, none⟩), .slice none 0 0] := B1.out
  have c1 : w1.cell? ⟨b, 1, none⟩ = some (.slice none 0 0) := B1'.cell 1
  have e1 : w1.cell? ⟨b, 0, none⟩ = some (.pointer (some ⟨b, 0, none⟩)) := B1'.cell 0
  have n0 := World.ownsRow_nil w1 B 5 1
  have b1 := Lib.hid B1'
  clear B1' HC B1
  go_wp2_with
    (at_builtin
     refine Go.Lib.wpList_append_own_string _ rfl _ _ 22 9 rfl B 5 i0 Try.underlying22 Try.underlying9 hi hz0 hz1 hz2 (.slice none 0 0) 0 [] rfl n0 s rfl (by unfold maxLen; omega) (by omega) (by omega) ?_
     intro v9 w9 own9 hg9 hat9
     have O9 := Lib.hid own9
     have G9 := Lib.hid hg9
     have b9 := Lib.hid (b1.out.grown hg9 (by intro e; cases e))
     have hv : ∃ A c, v9 = .slice A (0 + s.size) c := by
       rcases own9.2 with ⟨hv, h0⟩ | ⟨g, cap, cur, hv, _⟩
       · exact ⟨none, 0, by rw [hv, h0]⟩
       · exact ⟨_, _, hv⟩
     obtain ⟨A9, c9, rfl⟩ := hv
     have d0 : w9.cell? ⟨b, 0, none⟩ = some (.pointer (some ⟨b, 0, none⟩)) := b9.out.cell 0
     have d1 : w9.cell? ⟨b, 1, none⟩ = some (.slice none 0 0) := b9.out.cell 1
     have f1 : w9.frozen? ⟨b, 1, none⟩ = false := b9.out.frozen 1
     have l9 := b9.out.lt
     clear own9 hg9 hat9)
  go_ret2
  refine ⟨rfl, gb_setCell (gb_trans hg.out ⟨G9.out.os, G9.out.tape, G9.out.output, G9.out.size, fun k hk _ => G9.out.block k hk (by intro e; cases e)⟩) 1 _, ?_⟩
  exact Lib.BuilderAt.put (T := 115) (e := 5) hB b9.out (bs' := Lib.strCells s) (by simpa [Lib.strCells_length] using O9.out) (by decide)
theorem bld_cells : Try.prog.cellsOf 5 = 1 := by kernel_rfl
set_option maxHeartbeats 1000000 in
set_option maxRecDepth 100000 in
theorem bString_any (B b : Nat) (p : Value) (l : List UInt8) (w : World) (h : Lib.BuilderAt 115 5 B b p (Lib.byteCells l) w) (h0 : l ≠ []) :
    Calls Try.prog 90 #[.pointer (some ⟨b, 0, none⟩)] w fun e w' => e = .returned (.string ⟨l.toArray⟩) ∧ Below B w w' := by
  obtain ⟨hB, v, hbk, hown, hne⟩ := h
  have hl0 : l.length ≠ 0 := by simpa using h0
  rw [Lib.byteCells_length] at hown
  obtain ⟨g, cap, cur, rfl, hbg, hg, hnc, hcm, hcs, htake⟩ : ∃ g cap cur, v = .slice (some ⟨g, 0, none⟩) l.length cap ∧ B ≤ g ∧ w.heap[g]? = some (.cells cur 5 (0, 0)) ∧ l.length ≤ cap ∧ cap ≤ maxLen ∧ cur.size = cap * 1 ∧ cur.toList.take (l.length * 1) = Lib.byteCells l := by
    rcases hown.2 with ⟨_, hz⟩ | ⟨g, cap, cur, hv, r⟩
    · exact absurd hz hl0
    · exact ⟨g, cap, cur, hv, r⟩
  have c1 : w.drew.cell? ⟨b, 1, none⟩ = some (.slice (some ⟨g, 0, none⟩) l.length cap) := by
    have : w.drew.heap[b]? = some (.cells #[p, .slice (some ⟨g, 0, none⟩) l.length cap] 115 (0, 0)) := hbk
    rw [Lib.cell_of_heap this]; rfl
  have hSD : (Builtin.unsafeSliceData_ #[22] 127 #[.slice (some ⟨g, 0, none⟩) l.length cap]).run Try.prog w.drew = .ok (.pointer (some ⟨g, 0, none⟩)) w.drew :=
    Lib.run_unsafeSliceData_row _ _ _ _ _ _ (by omega)
  have hUS : (Builtin.unsafeString_ #[127, 3] 9 #[.pointer (some ⟨g, 0, none⟩), .int .i64 l.length]).run Try.prog w.drew = .ok (.string ⟨l.toArray⟩) (w.drew.freeze ⟨g, 0, none⟩ l.length) := by
    refine Lib.run_unsafeString_row w.drew 127 3 9 5 Try.underlying127 bld_cells g cur.size (by have hg' : w.drew.heap[g]? = some (.cells cur 5 (0, 0)) := hg; simp [World.shape?, hg']) l h0 (by omega) (by unfold maxLen at hcm; omega) ?_
    intro j x hx
    have := hown.cells (g := g) rfl j (.int .u8 x.toNat) (by simp [Lib.byteCells, hx])
    exact this
  go_enter Try.func90, Try.ntmps90
  go_wp2
  go_region
  all_goals (go_wp2; go_ret; exact ⟨rfl, Lib.below_freeze (Below.drew (Below.refl B w)) (p := ⟨g, 0, none⟩) hbg _⟩)
end Go.Proofs.Ytecnkmndmnefdaa


/-
  (impl.Grammar).pieces, where the function value is asked for the pieces that are met and for no others.
-/
namespace Go.Proofs.Ytecnkmndmnefdaa
open Go.RowKit

section
variable (Inv : List Nat → World → Prop) (hI : ∀ s w w', Inv s w → Below w.heap.size w w' → Inv s w') (B ob b0 : Nat) (hBo : B ≤ ob) (hob : ob < b0) (A : Option Addr) (n c : Nat) (rs : List Fac) (A2 : Option Addr) (c2 : Nat) (ls : List Int) (i j : Int)
  (fp : Nat) (ep : EnterOk fp) (cp : Array Value) (hn : n ≤ 1048576) (hls : gLens rs [] = some ls)
  (hW : ∀ (s : List Nat) (k : Nat) (w : World), k < n → Inv (k :: s) w → Calls Try.prog fp (#[.int .i64 (k : Int)] ++ cp) w (fun e w' => e = .returned (.tuple #[]) ∧ w.grownBy w' (some ob) ∧ Inv s w'))
include hI hBo hob ep hn hls hW
omit hn in
set_option maxHeartbeats 1000000 in
set_option maxRecDepth 100000 in
theorem takeR_any : ∀ (r : Nat) (a : Int) (s : List Nat) (w : World), r < n → 0 ≤ a → a + ls.getD r 0 ≤ 1000000000000000 → PEnv B b0 A n c rs A2 c2 ls i j fp cp w → Inv (pcs ls rs i j (r + 1) r a ++ s) w →
    Calls Try.prog 95 #[.int .i64 (r : Int), .int .i64 a, .pointer (some ⟨b0 + 1, 0, none⟩), .pointer (some ⟨b0 + 2, 0, none⟩), .pointer (some ⟨b0 + 3, 0, none⟩), .pointer (some ⟨b0 + 4, 0, none⟩), .pointer (some ⟨b0, 0, none⟩), .pointer (some ⟨b0 + 5, 0, none⟩)] w
      (fun e w' => e = .returned (.tuple #[]) ∧ w.grownBy w' (some ob) ∧ Inv s w') := by
  intro r
  induction r using Nat.strongRecOn with
  | ind r ih =>
    intro a s w hr ha ha2 hE hS
    have IH := Lib.hid ih; clear ih
    have HW := Lib.hid hW
    have HI := Lib.hid hI
    have HE := Lib.hid hE
    have HS := Lib.hid hS
    have HL := Lib.hid hls
    obtain ⟨e0, e1, e2, e3, e4, e5, e6, e7⟩ := hE
    have hl := Lib.hid e6.len
    have z0 := e0.lt; have z1 := e1.lt; have z2 := e2.lt; have z3 := e3.lt; have z4 := e4.lt; have z5 := e5.lt
    have d0 := e0.cell 0; have d1 := e1.cell 0; have d2 := e2.cell 0; have d3 := e3.cell 0; have d4 := e4.cell 0; have d5 := e5.cell 0
    have hBs : B ≤ w.heap.size := by omega
    have d5' : w.cell? ⟨b0 + 5, 0, none⟩ = some (takeV b0) := d5
    clear d5
    unfold takeV at d5'
    obtain ⟨p2, o2, rfl, hB2, c2'⟩ := (e7.more hBs).i64 (k := r) hr
    obtain ⟨b, o, x, rfl, hB1, gx, c00, c01, c02⟩ := (e6.more hBs).fac hr
    have lb := lens_bound HL.out (i := r) (by rw [hl.out]; exact hr)
    have Gx := Lib.hid gx
    clear hS e0 e1 e2 e3 e4 e5 e6 e7 hW hI gx
    have et := enterOk Try.func95 (by kernel_rfl) (by kernel_rfl)
    unfold EnterOk at et
    have ep' := ep
    unfold EnterOk at ep'
    generalize hlr : ls.getD r 0 = lr at *
    obtain ⟨lb0, lb1⟩ := lb
    have u1 : IntKind.i64.wrap (a + lr) = a + lr := IntWalk.i64_in _ (by omega)
    have i1 : (0 : Int) ≤ (r : Int) := by omega
    have i2 : (r : Int) < n := by omega
    by_cases h1 : a + lr ≤ i
    · have e := Lib.hid (show pcs ls rs i j (r + 1) r a = [] from pcs_out1 (by rw [hlr]; exact h1))
      go_enter Try.func95, Try.ntmps95
      go_wp2_with fail
      refine bodyPost_ret (results_none rfl _ _ _) rfl ?_
      exact ⟨rfl, gb_below (Below.refl _ _), by have h := HS.out; rw [e.out] at h; exact h⟩
    by_cases h2 : j ≤ a
    · have e := Lib.hid (show pcs ls rs i j (r + 1) r a = [] from pcs_out2 h2)
      go_enter Try.func95, Try.ntmps95
      go_wp2_with fail
      refine bodyPost_ret (results_none rfl _ _ _) rfl ?_
      exact ⟨rfl, gb_below (Below.refl _ _), by have h := HS.out; rw [e.out] at h; exact h⟩
    by_cases h3 : i ≤ a ∧ a + lr ≤ j
    · have e := Lib.hid (show pcs ls rs i j (r + 1) r a = [r] from pcs_in (by omega) (by rw [hlr]; exact h1) h2 h3.1 (by rw [hlr]; exact h3.2))
      obtain ⟨h30, h31⟩ := h3
      go_enter Try.func95, Try.ntmps95
      go_wp2_with fail
      refine (HW.out s r w hr (by have h := HS.out; rw [e.out] at h; exact h)).mono ?_
      rintro e1 w1 ⟨rfl, hg1, hs1⟩
      go_wp2_with fail
      refine bodyPost_ret (results_none rfl _ _ _) rfl ?_
      exact ⟨rfl, hg1, hs1⟩
    · have e := Lib.hid (show pcs ls rs i j (r + 1) r a = _ from pcs_go (by omega) (by rw [hlr]; exact h1) h2 (by rw [hlr]; exact h3) Gx.out)
      rw [Nat.add_sub_cancel] at e
      rcases wf_of HL.out r x Gx.out with ⟨h0, ha0, ha1, hb0', hb1'⟩ | ⟨cc, _, hxl, _⟩
      case inr =>
        exfalso
        have h0 : x.l.size ≠ 0 := by rw [hxl]; show (1 : Nat) ≠ 0; omega
        have := lens_let HL.out Gx.out h0
        apply h3
        omega
      have HS0 := HS.out
      rw [e.out, List.append_assoc, pcs_fuel HL.out (f := r) (g := x.a.toNat + 1) (by omega) (by omega), pcs_fuel HL.out (f := r) (g := x.b.toNat + 1) (by omega) (by omega)] at HS0
      have HS := Lib.hid HS0
      clear HS0
      have lp := lens_pair HL.out Gx.out h0
      have lb2 := lens_bound HL.out (i := x.a.toNat) (by rw [hl.out]; omega)
      have lb3 := lens_bound HL.out (i := x.b.toNat) (by rw [hl.out]; omega)
      have hnot : i ≤ a → ¬ (a + lr ≤ j) := fun h4 h5 => h3 ⟨h4, h5⟩
      by_cases h4 : i ≤ a
      all_goals
        try have h5 := hnot h4
        clear hnot h3
        go_enter Try.func95, Try.ntmps95
        go_wp2_with fail
        refine namedC fun w1 H1 => ?_
        have hb1 : Below w.heap.size w w1 := by rw [H1.out]; (repeat first | exact Below.refl _ _ | assumption | refine Below.drew ?_ | refine Below.alloc ?_ (by first | exact Nat.le_refl _ | (simp; done) | omega | (simp; omega)) _ | refine Below.setCell ?_ (by first | exact Nat.le_refl _ | (simp; done) | omega | (simp; omega)) _)
        have BX := Lib.hid (show Blk w1 w.heap.size 69 #[.string x.l, .int .i64 x.a, .int .i64 x.b] by rw [H1.out]; exact Blk.new _ _ _)
        clear H1
        have hx0 := Lib.hid (IH.out x.a.toNat (by omega) a (pcs ls rs i j (x.b.toNat + 1) x.b.toNat (a + ls.getD x.a.toNat 0) ++ s) w1 (by omega) ha (by omega) (HE.out.next (by omega) hb1) (HI.out _ w w1 HS.out hb1))
        rw [show ((x.a.toNat : Nat) : Int) = x.a by omega] at hx0
        refine hx0.out.mono ?_
        rintro e1 w2 ⟨rfl, hg2, hs2⟩
        have G2 := Lib.hid (gb_trans (gb_below hb1 (r := some ob)) hg2)
        have HS2 := Lib.hid hs2
        have HE2 := Lib.hid ((HE.out.next (by omega) hb1).grown hBo hob hg2)
        have BX2 := BX.out.grown hg2 (by intro e; injection e with e; omega)
        have BX3 := Lib.hid BX2
        have zx := BX2.lt
        clear hs2 hg2 BX2 d0 d1 d2 d3 d4 d5' c00 c01 c02 c2'
        obtain ⟨e0, e1, e2, e3, e4, e5, e6, e7⟩ := HE2.out
        have z0' := e0.lt; have z1' := e1.lt; have z5' := e5.lt
        have d1 := e1.cell 0
        have d5 : w2.cell? ⟨b0 + 5, 0, none⟩ = some (takeV b0) := e5.cell 0
        unfold takeV at d5
        have hBs2 : B ≤ w2.heap.size := by omega
        obtain ⟨p9, o9, hA9, hB9, c9⟩ := (e7.more hBs2).i64 (k := x.a.toNat) (by omega)
        obtain ⟨rfl, rfl⟩ : p2 = p9 ∧ o2 = o9 := by injection hA9 with hA9; injection hA9 with h1 h2; exact ⟨h1, h2⟩
        have hx1 := Lib.hid (IH.out x.b.toNat (by omega) (a + ls.getD x.a.toNat 0) s w2.drew (by omega) (by omega) (by omega) (HE2.out.next (by omega) (Below.refl _ _).drew) (HI.out _ _ _ HS2.out (Below.refl _ _).drew))
        rw [show ((x.b.toNat : Nat) : Int) = x.b by omega] at hx1
        generalize hy : ls.getD x.a.toNat 0 = y at *
        have u2 : IntKind.i64.wrap (a + y) = a + y := IntWalk.i64_in _ (by omega)
        have i5 : x.a < (n : Int) := by omega
        have D1 := Lib.hid d1; have D5 := Lib.hid d5; have C9 := Lib.hid c9
        have Hn4 := Lib.hid (show some p2 ≠ some ob from by
          obtain ⟨p9, o9, hA9, hB9', _⟩ := e7.i64 (k := x.a.toNat) (by omega)
          injection hA9 with hA9; injection hA9 with h1 h2
          intro e; injection e with e; omega)
        clear d1 d5 c9
        clear e0 e1 e2 e3 e4 e5 e6 e7 hA9 hx0 h1 h2 lp lb2 lb3 u1 hy hlr lb0 lb1 ha2 h4
        try clear h5
        clear IH HW HI HE HS HL BX e
        go_wp2_with fail
        have d1 := D1.out; have d5 := D5.out; have c9 := C9.out
        obtain ⟨x0, x1, x2⟩ := BX3.out.three
        have n1 : some w.heap.size ≠ some ob := by intro e; injection e with e; omega
        have n2 : some (b0 + 1) ≠ some ob := by intro e; injection e with e; omega
        have n3 : some (b0 + 5) ≠ some ob := by intro e; injection e with e; omega
        have n4 : some p2 ≠ some ob := Hn4.out
        go_region_held3 (fun w' => w'.cell? ⟨w.heap.size, 1, none⟩ = some (.int .i64 x.a) ∧ w'.cell? ⟨w.heap.size, 2, none⟩ = some (.int .i64 x.b) ∧ w'.cell? ⟨b0 + 1, 0, none⟩ = some (.slice (some ⟨p2, o2, none⟩) n c2) ∧
            w'.cell? ⟨b0 + 5, 0, none⟩ = some (.func (.func 95) #[] #[.pointer (some ⟨b0 + 1, 0, none⟩), .pointer (some ⟨b0 + 2, 0, none⟩), .pointer (some ⟨b0 + 3, 0, none⟩), .pointer (some ⟨b0 + 4, 0, none⟩), .pointer (some ⟨b0, 0, none⟩), .pointer (some ⟨b0 + 5, 0, none⟩)]) ∧
            w'.cell? ⟨p2, o2 + x.a.toNat, none⟩ = some (.int .i64 y))
          (first | exact ⟨s0, s1, s2, s3, s4⟩ | exact ⟨x1, x2, d1, d5, c9⟩ | go_keep)
          (first
            | (go_at_call 95
               refine hx1.out.mono ?_
               rintro e9 w3 ⟨rfl, hg3, hs3⟩
               have G3 := Lib.hid (gb_trans G2.out (gb_trans (gb_below (Below.refl w2.heap.size w2).drew (r := some ob)) hg3))
               have s0 : w3.cell? ⟨w.heap.size, 1, none⟩ = some (.int .i64 x.a) := (hg3.cell_far ⟨w.heap.size, 1, none⟩ zx n1).trans x1
               have s1 : w3.cell? ⟨w.heap.size, 2, none⟩ = some (.int .i64 x.b) := (hg3.cell_far ⟨w.heap.size, 2, none⟩ zx n1).trans x2
               have s2 : w3.cell? ⟨b0 + 1, 0, none⟩ = some (.slice (some ⟨p2, o2, none⟩) n c2) := (hg3.cell_far ⟨b0 + 1, 0, none⟩ z1' n2).trans d1
               have s3 := (hg3.cell_far ⟨b0 + 5, 0, none⟩ z5' n3).trans d5
               have s4 : w3.cell? ⟨p2, o2 + x.a.toNat, none⟩ = some (.int .i64 y) := (hg3.cell_far ⟨p2, o2 + x.a.toNat, none⟩ hB9 n4).trans c9
               have HS3 := Lib.hid hs3
               clear hg3 hs3)
            | fail)
        go_wp2_with fail
        go_end0
        exact ⟨rfl, G3.out, HS3.out⟩
set_option maxHeartbeats 1000000 in
set_option maxRecDepth 100000 in
theorem piecesR_any (s : List Nat) (w : World) (hw : w.heap.size = b0) (hA : Rd w B A n 3 Fac.cells rs) (hA2 : Rd w B A2 n 1 intE ls) (hS : Inv (pcsT ls rs i j ++ s) w) :
    Calls Try.prog 84 #[.agg #[.slice A n c], .slice A2 n c2, .int .i64 i, .int .i64 j, .func (.func fp) #[] cp] w
      (fun e w' => e = .returned (.tuple #[]) ∧ w.grownBy w' (some ob) ∧ Inv s w') := by
  have HW := Lib.hid hW
  have HI := Lib.hid hI
  have HS := Lib.hid hS
  have HL := Lib.hid hls
  have hl := Lib.hid hA.len
  have HA := Lib.hid hA
  have HA2 := Lib.hid hA2
  subst hw
  clear hW hI hS hA hA2 hls
  have et := enterOk Try.func95 (by kernel_rfl) (by kernel_rfl)
  unfold EnterOk at et
  by_cases h0 : n = 0
  · have e := Lib.hid (show pcsT ls rs i j = [] by unfold pcsT; rw [if_neg (by rw [hl.out]; omega)])
    subst h0
    go_enter Try.func84, Try.ntmps84
    go_wp2_with fail
    go_end0
    have h := HS.out
    rw [e.out] at h
    refine ⟨rfl, gb_below (by (repeat first | exact Below.refl _ _ | assumption | refine Below.drew ?_ | refine Below.alloc ?_ (by first | exact Nat.le_refl _ | (simp; done) | omega | (simp; omega)) _ | refine Below.setCell ?_ (by first | exact Nat.le_refl _ | (simp; done) | omega | (simp; omega)) _)), HI.out _ _ _ h (by (repeat first | exact Below.refl _ _ | assumption | refine Below.drew ?_ | refine Below.alloc ?_ (by first | exact Nat.le_refl _ | (simp; done) | omega | (simp; omega)) _ | refine Below.setCell ?_ (by first | exact Nat.le_refl _ | (simp; done) | omega | (simp; omega)) _))⟩
  by_cases hij : i < j
  · have e := Lib.hid (show pcsT ls rs i j = pcs ls rs i j (n - 1 + 1) (n - 1) 0 by unfold pcsT; rw [if_pos (by rw [hl.out]; omega), hl.out, show n - 1 + 1 = n by omega])
    have h1 : 0 < n := by omega
    have u0 : IntKind.i64.wrap ((n : Int) - 1) = (n : Int) - 1 := IntWalk.i64_in _ (by omega)
    have hlb := lens_bound HL.out (i := n - 1) (by rw [hl.out]; omega)
    go_enter Try.func84, Try.ntmps84
    go_wp2_with fail
    refine namedC fun w1 H1 => ?_
    have hb1 : Below w.heap.size w w1 := by rw [H1.out]; (repeat first | exact Below.refl _ _ | assumption | refine Below.drew ?_ | refine Below.alloc ?_ (by first | exact Nat.le_refl _ | (simp; done) | omega | (simp; omega)) _ | refine Below.setCell ?_ (by first | exact Nat.le_refl _ | (simp; done) | omega | (simp; omega)) _)
    have hE : PEnv B w.heap.size A n c rs A2 c2 ls i j fp cp w1 := by
      refine ⟨?_, ?_, ?_, ?_, ?_, ?_, (HA.out.next' (by omega) hb1), (HA2.out.next' (by omega) hb1)⟩
      · rw [H1.out]; exact (((((Blk.new w _ _).alloc _).alloc _).alloc _).alloc _).alloc _
      · rw [H1.out]; simpa using ((((Blk.new (w.alloc _) _ _).alloc _).alloc _).alloc _).alloc _
      · rw [H1.out]; simpa using (((Blk.new ((w.alloc _).alloc _) _ _).alloc _).alloc _).alloc _
      · rw [H1.out]; simpa using ((Blk.new (((w.alloc _).alloc _).alloc _) _ _).alloc _).alloc _
      · rw [H1.out]; simpa using (Blk.new ((((w.alloc _).alloc _).alloc _).alloc _) _ _).alloc _
      · rw [H1.out]; simpa [takeV] using Blk.new (((((w.alloc _).alloc _).alloc _).alloc _).alloc _) _ _
    have hE' := Lib.hid hE
    clear hE H1
    have HS1 := HS.out
    rw [e.out] at HS1
    have ht := takeR_any Inv HI.out B ob w.heap.size hBo hob A n c rs A2 c2 ls i j fp ep cp HL.out HW.out (n - 1) 0 s w1 (by omega) (by omega) (by omega) hE'.out (HI.out _ _ _ HS1 hb1)
    rw [show ((n - 1 : Nat) : Int) = (n : Int) - 1 by omega] at ht
    refine (by simpa [Nat.add_assoc] using ht : Calls _ _ _ _ _).mono ?_
    rintro e1 w2 ⟨rfl, hg2, hs2⟩
    have G2 := Lib.hid (gb_trans (gb_below hb1 (r := some ob)) hg2)
    have HS2 := Lib.hid hs2
    clear hg2 hs2 ht
    go_wp2_with fail
    go_end0
    exact ⟨rfl, G2.out, HS2.out⟩
  · have e := Lib.hid (show pcsT ls rs i j = [] by unfold pcsT; rw [if_neg (by omega)])
    have h1 : 0 < n := by omega
    go_enter Try.func84, Try.ntmps84
    go_wp2_with fail
    go_end0
    have h := HS.out
    rw [e.out] at h
    refine ⟨rfl, gb_below (by (repeat first | exact Below.refl _ _ | assumption | refine Below.drew ?_ | refine Below.alloc ?_ (by first | exact Nat.le_refl _ | (simp; done) | omega | (simp; omega)) _ | refine Below.setCell ?_ (by first | exact Nat.le_refl _ | (simp; done) | omega | (simp; omega)) _)), HI.out _ _ _ h (by (repeat first | exact Below.refl _ _ | assumption | refine Below.drew ?_ | refine Below.alloc ?_ (by first | exact Nat.le_refl _ | (simp; done) | omega | (simp; omega)) _ | refine Below.setCell ?_ (by first | exact Nat.le_refl _ | (simp; done) | omega | (simp; omega)) _))⟩
end
end Go.Proofs.Ytecnkmndmnefdaa


/-
  The letter at a place of a word: the program's LetterAt.
-/
namespace Go.Proofs.Ytecnkmndmnefdaa
open Go.RowKit

theorem getD_appL (u v : List Nat) {q : Nat} (h : q < u.length) : (u ++ v).getD q 0 = u.getD q 0 := by
  rw [List.getD_eq_getElem?_getD, List.getD_eq_getElem?_getD, List.getElem?_append_left h]
theorem getD_appR (u v : List Nat) {q : Nat} (h : u.length ≤ q) : (u ++ v).getD q 0 = v.getD (q - u.length) 0 := by
  rw [List.getD_eq_getElem?_getD, List.getD_eq_getElem?_getD, List.getElem?_append_right h]
section
variable {rs : List Fac} {ls : List Int}
/-- one place is one letter's rule -/
theorem pcs_word1 (hls : gLens rs [] = some ls) : ∀ (f r : Nat) (a i : Int) (q : Nat), r < f → r < rs.length → a + q = i → q < ((wds rs).getD r []).length →
    ∃ k x cc, pcs ls rs i (i + 1) f r a = [k] ∧ k < rs.length ∧ rs[k]? = some x ∧ x.l = ⟨#[cc]⟩ ∧ letB cc = true ∧ cc.toNat - 97 = ((wds rs).getD r []).getD q 0
  | 0, _, _, _, _, h, _, _, _ => by omega
  | f + 1, r, a, i, q, _, hr, hq, hq1 => by
    have hwf := wf_of hls
    have hlen := lens_word hls hr
    have hx : rs[r]? = some (rs[r]'hr) := List.getElem?_eq_getElem _
    generalize rs[r]'hr = x at hx
    have n1 : ¬ a + ls.getD r 0 ≤ i := by omega
    have n2 : ¬ i + 1 ≤ a := by omega
    rcases hwf r x hx with ⟨h0, a0, a1, b0, b1⟩ | ⟨cc, hc, hl, _, _⟩
    · have e := wds_pair hwf hx h0
      have la := lens_word hls (k := x.a.toNat) (by omega)
      have lb := lens_word hls (k := x.b.toNat) (by omega)
      have pa := List.length_pos_iff.2 (wds_pos hwf (k := x.a.toNat) (by omega))
      have pb := List.length_pos_iff.2 (wds_pos hwf (k := x.b.toNat) (by omega))
      have el : ((wds rs).getD r []).length = ((wds rs).getD x.a.toNat []).length + ((wds rs).getD x.b.toNat []).length := by rw [e, List.length_append]
      rw [pcs_go (by omega) n1 n2 (by omega) hx, Nat.add_sub_cancel]
      by_cases hqa : q < ((wds rs).getD x.a.toNat []).length
      · obtain ⟨k, y, cc, e1, e2, e3, e4, e5, e6⟩ := pcs_word1 hls f x.a.toNat a i q (by omega) (by omega) hq hqa
        refine ⟨k, y, cc, ?_, e2, e3, e4, e5, ?_⟩
        · rw [e1, pcs_out2 (by omega)]; rfl
        · rw [e6, e, getD_appL _ _ hqa]
      · obtain ⟨k, y, cc, e1, e2, e3, e4, e5, e6⟩ := pcs_word1 hls f x.b.toNat (a + ls.getD x.a.toNat 0) i (q - ((wds rs).getD x.a.toNat []).length) (by omega) (by omega) (by omega) (by omega)
        refine ⟨k, y, cc, ?_, e2, e3, e4, e5, ?_⟩
        · rw [e1, pcs_out1 (by omega)]; rfl
        · rw [e6, e, getD_appR _ _ (by omega)]
    · have e := wds_one hx hl
      rw [e] at hlen hq1 ⊢
      have q0 : q = 0 := by simpa using hq1
      subst q0
      refine ⟨r, x, cc, pcs_in (by omega) n1 n2 (by omega) ?_, hr, hx, hl, hc, rfl⟩
      have : ls.getD r 0 = 1 := hlen
      omega
theorem pcsT_word1 (hls : gLens rs [] = some ls) {i : Nat} (hi : i < (wdN rs).length) :
    ∃ k x cc, pcsT ls rs (i : Int) ((i : Int) + 1) = [k] ∧ k < rs.length ∧ rs[k]? = some x ∧ x.l = ⟨#[cc]⟩ ∧ letB cc = true ∧ cc.toNat - 97 = (wdN rs).getD i 0 := by
  by_cases h : rs = []
  · subst h; simp [wdN] at hi
  · have h0 : 0 < rs.length := List.length_pos_iff.2 h
    unfold wdN at hi ⊢
    rw [if_neg h] at hi ⊢
    unfold pcsT
    rw [if_pos ⟨h0, by omega⟩]
    exact pcs_word1 hls rs.length (rs.length - 1) 0 i i (by omega) (by omega) (by omega) hi
end
/-- where a builder is asked for one letter's rule -/
def InvB (gb ob k : Nat) (A : Option Addr) (n c : Nat) (s : ByteArray) : List Nat → World → Prop
  | [], w => Lib.BuilderAt 115 5 ob ob (.pointer (some ⟨ob, 0, none⟩)) (Lib.strCells s) w
  | [k'], w => k' = k ∧ Blk w gb 26 #[.slice A n c] ∧ Blk w ob 115 #[.pointer none, .slice none 0 0] ∧ ∃ x o, A = some ⟨x, o, none⟩ ∧ x < w.heap.size ∧ w.cell? ⟨x, o + k * 3, none⟩ = some (.string s) ∧ w.cell? ⟨x, o + k * 3 + 1, none⟩ = some (.int .i64 0) ∧ w.cell? ⟨x, o + k * 3 + 2, none⟩ = some (.int .i64 0)
  | _, _ => False
theorem InvB.next {gb ob k : Nat} {A : Option Addr} {n c : Nat} {s : ByteArray} (q : List Nat) (w w' : World) (h : InvB gb ob k A n c s q w) (hb : Below w.heap.size w w') : InvB gb ob k A n c s q w' := by
  match q, h with
  | [], h => exact bld_next h hb
  | [k'], ⟨h1, h2, h3, x, o, e, hx, c0, c1, c2⟩ => exact ⟨h1, h2.next hb, h3.next hb, x, o, e, Nat.lt_of_lt_of_le hx hb.size, (hb.cell (p := ⟨x, _, none⟩) hx).trans c0, (hb.cell (p := ⟨x, _, none⟩) hx).trans c1, (hb.cell (p := ⟨x, _, none⟩) hx).trans c2⟩
set_option maxHeartbeats 1000000 in
set_option maxRecDepth 100000 in
theorem spell1_any (gb sb ob k : Nat) (A : Option Addr) (n c : Nat) (cc : UInt8) (w : World) (hk : k < n) (hn : n ≤ 1048576) (h : InvB gb ob k A n c ⟨#[cc]⟩ [k] w) :
    Calls Try.prog 88 #[.int .i64 (k : Int), .pointer (some ⟨gb, 0, none⟩), .pointer (some ⟨sb, 0, none⟩), .pointer (some ⟨ob, 0, none⟩)] w (fun e w' => e = .returned (.tuple #[]) ∧ w.grownBy w' (some ob) ∧ InvB gb ob k A n c ⟨#[cc]⟩ [] w') := by
  obtain ⟨_, hG, hO, x, o, rfl, hx, c0, c1, c2⟩ := h
  have g0 : w.cell? ⟨gb, 0, none⟩ = some (.slice (some ⟨x, o, none⟩) n c) := hG.cell 0
  have gl := hG.lt
  have ol := hO.lt
  have HO := Lib.hid hO
  have i0 : (0 : Int) ≤ (k : Int) := by omega
  have i1 : (k : Int) < (n : Int) := by omega
  clear hG hO
  go_enter Try.func88, Try.ntmps88
  go_wp2_with fail
  refine namedC fun w1 H1 => ?_
  have hb1 : Below w.heap.size w w1 := by rw [H1.out]; (repeat first | exact Below.refl _ _ | assumption | refine Below.drew ?_ | refine Below.alloc ?_ (by first | exact Nat.le_refl _ | (simp; done) | omega | (simp; omega)) _ | refine Below.setCell ?_ (by first | exact Nat.le_refl _ | (simp; done) | omega | (simp; omega)) _)
  have BX := Lib.hid (show Blk w1 w.heap.size 69 #[.string ⟨#[cc]⟩, .int .i64 0, .int .i64 0] by rw [H1.out]; exact Blk.new _ _ _)
  clear H1
  have x0 : w1.cell? ⟨w.heap.size, 0, none⟩ = some (.string ⟨#[cc]⟩) := BX.out.cell 0
  have x1 : w1.cell? ⟨w.heap.size, 1, none⟩ = some (.int .i64 0) := BX.out.cell 1
  have x2 : w1.cell? ⟨w.heap.size, 2, none⟩ = some (.int .i64 0) := BX.out.cell 2
  refine (isPair_any ⟨⟨#[cc]⟩, 0, 0⟩ false _ (decide_eq_false (show ¬ (1 : Nat) = 0 by omega))).mono ?_
  rintro e w2 ⟨rfl, hb2⟩
  have b2 := Lib.hid (hb1.trans (hb2.mono hb1.size))
  have BX2 := Lib.hid (BX.out.next hb2)
  have y0 : w2.cell? ⟨w.heap.size, 0, none⟩ = some (.string ⟨#[cc]⟩) := BX2.out.cell 0
  have O2 := Lib.hid (HO.out.next b2.out)
  have HWr := Lib.hid (fun (W : World) (hW : Blk W ob 115 #[.pointer none, .slice none 0 0]) => bWrite_any ob ob ⟨#[cc]⟩ W (Nat.le_refl _) hW (show (1 : Nat) ≤ 1048576 by omega))
  clear hb1 hb2 BX
  go_wp2_with fail
  refine (HWr.out w2 O2.out).mono ?_
  rintro e w3 ⟨rfl, hg3, hB3⟩
  have G3 := Lib.hid (gb_trans (gb_below b2.out (r := some ob)) hg3)
  have B3 := Lib.hid hB3
  clear hg3 hB3
  go_wp2_with fail
  go_end0
  exact ⟨rfl, G3.out, B3.out⟩
set_option maxHeartbeats 1000000 in
set_option maxRecDepth 100000 in
theorem unpack1_any (A : Option Addr) (n c : Nat) (rs : List Fac) (A2 : Option Addr) (c2 : Nat) (ls : List Int) (i : Nat) (w : World) (hn : n ≤ 1048576) (hr : Rd w w.heap.size A n 3 Fac.cells rs) (hls : gLens rs [] = some ls) (h2 : Rd w w.heap.size A2 n 1 intE ls) (hi : i < (wdN rs).length) :
    Calls Try.prog 54 #[.agg #[.slice A n c], .slice A2 n c2, .int .i64 (i : Int), .int .i64 ((i : Int) + 1)] w (Ret (.string (tx [(wdN rs).getD i 0])) w) := by
  obtain ⟨k, x, cc, hp, hk, hx, hxl, hcc, hcu⟩ := pcsT_word1 hls hi
  have hl := hr.len
  have hx0 : x.a = 0 ∧ x.b = 0 := by
    rcases wf_of hls k x hx with ⟨h0, _⟩ | ⟨_, _, _, h1, h2⟩
    · rw [hxl] at h0; exact absurd h0 (show ¬ (1 : Nat) = 0 by omega)
    · exact ⟨h1, h2⟩
  have htx : tx [(wdN rs).getD i 0] = ⟨#[cc]⟩ := by
    have := letB_num hcc
    rw [← hcu]
    unfold tx txB
    simp only [List.map_cons, List.map_nil]
    rw [show 97 + (cc.toNat - 97) = cc.toNat by omega]
    simp
  rw [htx]
  obtain ⟨xb, xo, y, rfl, hxB, hy, c0, c1, c2'⟩ := hr.fac (k := k) (by omega)
  obtain rfl : x = y := by have := hx.symm.trans hy; injection this
  rw [hxl] at c0; rw [hx0.1] at c1; rw [hx0.2] at c2'
  have HR := Lib.hid hr
  have H2 := Lib.hid h2
  have HP := Lib.hid hp
  have HL := Lib.hid hls
  have hkn : k < n := by omega
  clear hr h2 hp hx hy hi htx hcu hls hl
  go_enter Try.func54, Try.ntmps54
  go_wp2_with fail
  refine namedC fun w1 H1 => ?_
  have hb1 : Below w.heap.size w w1 := by rw [H1.out]; (repeat first | exact Below.refl _ _ | assumption | refine Below.drew ?_ | refine Below.alloc ?_ (by first | exact Nat.le_refl _ | (simp; done) | omega | (simp; omega)) _ | refine Below.setCell ?_ (by first | exact Nat.le_refl _ | (simp; done) | omega | (simp; omega)) _)
  have BO := Lib.hid (show Blk w1 (w.heap.size + 1) 115 #[.pointer none, .slice none 0 0] by rw [H1.out]; simpa using (Blk.new (w.alloc _) _ _).alloc _)
  have hS : InvB w.heap.size (w.heap.size + 1) k (some ⟨xb, xo, none⟩) n c ⟨#[cc]⟩ [k] w1 := by
    refine ⟨rfl, ?_, BO.out, xb, xo, rfl, Nat.lt_of_lt_of_le hxB hb1.size, (hb1.cell (p := ⟨xb, _, none⟩) hxB).trans c0, (hb1.cell (p := ⟨xb, _, none⟩) hxB).trans c1, (hb1.cell (p := ⟨xb, _, none⟩) hxB).trans c2'⟩
    rw [H1.out]; exact ((Blk.new w _ _).alloc _).alloc _
  have hbo := BO.out.lt
  clear H1
  have hp := piecesR_any (InvB w.heap.size (w.heap.size + 1) k (some ⟨xb, xo, none⟩) n c ⟨#[cc]⟩) (fun q wa wb h hb => InvB.next q wa wb h hb)
    w.heap.size (w.heap.size + 1) w1.heap.size (by omega) hbo (some ⟨xb, xo, none⟩) n c rs A2 c2 ls (i : Int) ((i : Int) + 1) 88 (enterOk Try.func88 (by kernel_rfl) (by kernel_rfl)) #[.pointer (some ⟨w.heap.size, 0, none⟩), .pointer (some ⟨w.heap.size + 2, 0, none⟩), .pointer (some ⟨w.heap.size + 1, 0, none⟩)] hn HL.out
    (fun q k' wa hk' h => by
      match q, h with
      | [], ⟨he, h⟩ =>
        subst he
        have hc := spell1_any w.heap.size (w.heap.size + 2) (w.heap.size + 1) k' (some ⟨xb, xo, none⟩) n c cc wa hk' hn ⟨rfl, h⟩
        exact (by simpa using hc : Calls _ _ _ _ _))
    [] w1 rfl (HR.out.below hb1) (H2.out.below hb1) (by rw [HP.out]; exact hS)
  refine hp.mono ?_
  rintro e w2 ⟨rfl, hg2, hB2⟩
  have b2 := Lib.hid (show Below w.heap.size w w2 from ⟨hg2.os.trans hb1.os, hg2.tape.trans hb1.tape, hg2.output.trans hb1.output, Nat.le_trans hb1.size hg2.size, fun k hk => (hg2.block k (by have := hb1.size; omega) (by intro e; injection e with e; omega)).trans (hb1.block k hk)⟩)
  have HSt := Lib.hid (bString_any (w.heap.size + 1) (w.heap.size + 1) _ [cc] w2 hB2 (by simp))
  clear hp hS hg2 hB2 BO
  go_wp2_with fail
  refine HSt.out.mono ?_
  rintro e w3 ⟨rfl, hb3⟩
  have b3 := Lib.hid (b2.out.trans (hb3.mono (by omega)))
  clear hb3
  go_wp2_with fail
  go_ret
  exact ⟨rfl, b3.out⟩
set_option maxHeartbeats 1000000 in
set_option maxRecDepth 100000 in
theorem implAt_any (A : Option Addr) (n c : Nat) (rs : List Fac) (i : Nat) (w : World) (hr : Rd w w.heap.size A n 3 Fac.cells rs) (hg : (gOk rs).isSome = true) (hi : i < (wdN rs).length) :
    Calls Try.prog 16 #[.agg #[.slice A n c], .int .i64 (i : Int)] w (Ret (.tuple #[.string (tx [(wdN rs).getD i 0]), .int .i64 0]) w) := by
  obtain ⟨ls, hls, hlen, hll⟩ := big_lens hg
  have hl := hr.len
  have hn : n ≤ 400 := by omega
  have HR := Lib.hid hr
  have HO := Lib.hid (wf_sz (wf_of hls))
  have HLS := Lib.hid hls
  have HLL := Lib.hid (hll.trans hl)
  have HG := Lib.hid hg
  have hlast := last_word hls
  have hmx : ((wdN rs).length : Int) ≤ 1000000000000000 := by
    have := lens_last_le hls (by rcases Nat.eq_zero_or_pos rs.length with h | h; (have := List.eq_nil_of_length_eq_zero h; subst this; simp [wdN] at hi); exact h) hll
    omega
  have HUN := Lib.hid (fun (A2 : Option Addr) (c2 : Nat) (W : World) (hb : Below w.heap.size w W) (h2 : Rd W W.heap.size A2 n 1 intE ls) => unpack1_any A n c rs A2 c2 ls i W (by omega) (HR.out.next hb) hls h2 hi)
  generalize tx [(wdN rs).getD i 0] = T at *
  generalize (wdN rs).length = L at *
  clear hr hg hls hlen hll hl
  have u1 : IntKind.i64.wrap ((i : Int) + 1) = (i : Int) + 1 := IntWalk.i64_in _ (by omega)
  have u2 : IntKind.i64.wrap ((L : Int) - 1) = (L : Int) - 1 := IntWalk.i64_in _ (by omega)
  go_enter Try.func16, Try.ntmps16
  go_wp2_with fail
  refine namedC fun w0 H0 => ?_
  have hb0 : Below w.heap.size w w0 := by rw [H0.out]; (repeat first | exact Below.refl _ _ | assumption | refine Below.drew ?_ | refine Below.alloc ?_ (by first | exact Nat.le_refl _ | (simp; done) | omega | (simp; omega)) _ | refine Below.setCell ?_ (by first | exact Nat.le_refl _ | (simp; done) | omega | (simp; omega)) _)
  have BG := Lib.hid (show Blk w0 w.heap.size 26 #[.slice A n c] by rw [H0.out]; exact Blk.new _ _ _)
  clear H0
  refine (lengths_any A n c rs w0 (by omega) (HR.out.next hb0) HO.out).mono ?_
  rintro e w1 ⟨hb1, ⟨ls', A', c', hgl, rfl, own1⟩ | ⟨hgl, _⟩⟩
  case inr => exfalso; have := HG.out; rw [hgl] at this; exact absurd this (by simp)
  obtain rfl : ls = ls' := by have := (gOk_lens hgl).1; rw [HLS.out] at this; injection this
  rw [HLL.out] at own1 ⊢
  have b1 := Lib.hid (hb0.trans (hb1.mono hb0.size))
  have r1 := Lib.hid (Rd.of_own (enc := intE) (fun _ _ => rfl) HLL.out own1)
  have BG1 := Lib.hid (BG.out.next hb1)
  have g1 : w1.cell? ⟨w.heap.size, 0, none⟩ = some (.slice A n c) := BG1.out.cell 0
  have HLa := Lib.hid (fun (W : World) (hb : Below w1.heap.size w1 W) => last_any A' n c' ls W (by omega) (r1.out.next hb))
  rw [hlast] at HLa
  clear own1 hb1 hb0 BG hgl
  go_wp2_with fail
  refine (HLa.out w1 (Below.refl _ _)).mono ?_
  rintro e w2 ⟨rfl, hb2⟩
  have hW := within_any (i : Int) 0 ((L : Int) - 1) true w2 (by simp only [inB, Bool.and_eq_true, decide_eq_true_eq]; omega)
  have HW := Lib.hid hW
  have b2 := Lib.hid (b1.out.trans (hb2.mono b1.out.size))
  have r2 := Lib.hid (r1.out.next hb2)
  have g2 : w2.cell? ⟨w.heap.size, 0, none⟩ = some (.slice A n c) := (BG1.out.next hb2).cell 0
  have BG2 := Lib.hid (BG1.out.next hb2)
  clear hW hb2 g1 BG1 r1 b1
  go_wp2_with fail
  refine HW.out.mono ?_
  rintro e w3 ⟨rfl, hb3⟩
  have b3 := Lib.hid (b2.out.trans (hb3.mono b2.out.size))
  have r3 := Lib.hid (r2.out.next hb3)
  have g3 : w3.cell? ⟨w.heap.size, 0, none⟩ = some (.slice A n c) := (BG2.out.next hb3).cell 0
  have hU := Lib.hid (HUN.out A' c' w3 b3.out r3.out)
  clear hb3 g2 BG2 r2 b2 HUN
  go_wp2_with fail
  refine hU.out.mono ?_
  rintro e w4 ⟨rfl, hb4⟩
  have b4 := Lib.hid (b3.out.trans (hb4.mono b3.out.size))
  clear hb4
  go_wp2_with fail
  go_ret2
  exact ⟨rfl, b4.out⟩
end Go.Proofs.Ytecnkmndmnefdaa


/-
  How a law's statement follows from its walk: the arguments opened to plain data; behind the walk they read as they did.
-/
namespace Go.Proofs.Ytecnkmndmnefdaa
open Go.ChangeShapes Go.WideShapes Go.ChangeAt Go.RowKit Go.Deep

theorem own : ownKnob Try.prog.godebug = none := by kernel_rfl
theorem laidOut : laidOutB Try.prog = true := by kernel_rfl
theorem mapsRowed' : mapsRowed Try.prog = true := by kernel_rfl
theorem heard' : Try.prog.stopsHeard = true := by kernel_rfl
theorem mayEnter' : Try.prog.mayEnter = true := by kernel_rfl
theorem lifts' : (Rows.fnRanksRow.lifted == Try.prog.liftsFinal) = true := by kernel_rfl
theorem make' : (Try.prog.make == some Rows.fnRanksRow.make) = true := by kernel_rfl
theorem plainKeys' : (Rows.fnRanksRow.plainKeys == Try.prog.plainKeys) = true := by kernel_rfl
/-- a row's closed facts, one by one: so that the kernel gives its memory back behind each -/
theorem joined_mk {P : Program} {f : FuncId} {fn : Func} {s : ChangeSpec} {c : OpenClaim} (h1 : c.wf (OpenSpec.ofChange s) = true) (h2 : laidOutB P = true) (h3 : mapsRowed P = true)
    (h4 : (fn.params.all (P.readableRec ·) && namedTie P c.named s.vars && (c.stops == []) && (P.stops == []) && (c.knobs == []) && (P.stopKnobs == [])) = true)
    (h5 : (c.inPlace == P.inPlace f) = true) (h6 : (c.unfollowed == P.unfollowed f) = true) (h7 : (c.recurses == P.recurses f) = true) (h8 : (c.named == P.varsNamed f) = true)
    (h9 : ((c.maps == (fn.params.toList ++ s.plain.varTypes P).any (P.mapsRec ·)) && (c.ifaces == (fn.params.toList ++ s.plain.varTypes P).any (P.ifacesRec ·)) && (c.mapsOut == P.mapsAmong fn.resultTypes.toList) &&
      (c.loops == (fn.params.toList ++ s.plain.varTypes P).any (P.loopsFrom ·)) && (c.wideKeys == (fn.params.toList ++ s.plain.varTypes P ++ fn.resultTypes.toList).any (P.wideKeysFrom ·)) &&
      s.vars.all (P.varReadable ·) && fn.resultTypes.all (fun t => P.readableRec t && decide (t < P.types.size)) && (c.ifacesOut == fn.resultTypes.toList.any (P.ifacesRec ·)) && (c.loopsOut == fn.resultTypes.toList.any (P.loopsFrom ·))) = true)
    (h10 : (c.plainKeys == P.plainKeys) = true) (h11 : c.shortTexts.isNone = true) (h12 : P.stopsHeard = true) (h13 : P.mayEnter = true) (h14 : (c.lifted == P.liftsFinal) = true) (h15 : (P.make == some c.make) = true)
    (h16 : ((c.kinds == (if c.domain.isEmpty then [] else fn.params.toList.map fun t => match P.underlying t with | some (.int k) => some k | _ => none)) && (c.pinned == c.pinnedBy) &&
      (c.veiled == (fn.params.toList ++ s.plain.varTypes P ++ fn.resultTypes.toList).any (P.veiledRec ·)) && c.veiledFits P fn.params.toList (fn.params.toList ++ s.plain.varTypes P ++ fn.resultTypes.toList)) = true) :
    joinedFacts P f fn s c = true := by
  simp only [Bool.and_eq_true] at h4 h9 h16
  simp only [joinedFacts, Bool.and_eq_true]
  simp only [h1, h2, h3, h4, h5, h6, h7, h8, h9, h10, h11, h12, h13, h14, h15, h16, and_self]
  exact ⟨⟨⟨⟨trivial, h16.1.1.1⟩, trivial⟩, trivial⟩, trivial⟩

section
variable {H : Type} {enc : TypeId × Value → H} {P : Program}
/-- the arguments read as they did, where nothing old has turned -/
theorem args_below (hl : laidOutB P = true) {W W' : World} (hb : Below W.heap.size W W') : ∀ {ts : List TypeId} {vs : List Value} {ds : List (DataW H)} {ps : List MemPlace},
    (∀ t ∈ ts, P.readableRec t = true ∧ t < P.types.size) → DataW.TrodAll enc P W 0 (fun _ => true) true ts vs ds ps → (∀ p ∈ ps, p.block < W.heap.size) →
    ∀ sp : Nat → Bool, (∀ p ∈ ps, sp p.block = true) → DataW.TrodAll enc P W' 0 sp true ts vs ds ps
  | [], [], [], _, _, h, _, _, _ => h
  | t :: ts, v :: vs, d :: ds, ps, ht, h, hlt, sp, hsp => by
    obtain ⟨p, q, h1, h2, rfl⟩ := h
    obtain ⟨hr, hrow⟩ := ht t (by simp)
    exact ⟨p, q, WideElems.Trod_stays hl hr hrow h1 (fun x hx => hb.same (hlt x (by simp [hx]))) (fun x hx => hsp x (by simp [hx])),
      args_below hl hb (fun t' h' => ht t' (by simp [h'])) h2 (fun x hx => hlt x (by simp [hx])) sp (fun x hx => hsp x (by simp [hx])), rfl⟩
  | [], _ :: _, _, _, _, h, _, _, _ => by cases h
  | [], [], _ :: _, _, _, h, _, _, _ => by cases h
  | _ :: _, [], _, _, _, h, _, _, _ => by cases h
  | _ :: _, _ :: _, [], _, _, h, _, _, _ => by cases h

/-- a law's last step: it has returned true, and nothing old has turned -/
theorem law_post {f : Func} {s : ChangeSpec} {W W' : World} {args : Array Value} {ds gs : List (DataW H)} {before : List MemPlace} (hl : laidOutB P = true)
    (hW : DataW.Whole enc P f.params.toList s.vars false W args.toList ds gs before) (hv : s.vars = []) (b : TypeId) (hbool : P.underlying b = some .bool) (hrt : f.resultTypes = #[b])
    (hts : ∀ t ∈ f.params.toList, P.readableRec t = true ∧ t < P.types.size)
    (hsp : s.fn H (ds ++ gs) = { results := [.lit (.bool true)], args := ds }) (hb : Below W.heap.size W W') : s.post enc P f false true false false W args (.bool true) W' := by
  have hW0 := hW
  have hlt : ∀ p ∈ before, p.block < W.heap.size := fun p hp => hW.lt p hp
  obtain ⟨p, q, hA, hV, hpq, hz, hn⟩ := hW
  rw [hv] at hV
  obtain ⟨hg, hq⟩ := trodVars_none hV
  subst hg hq
  rw [List.append_nil] at hpq
  subst hpq
  have hargs := args_below hl hb hts hA hlt
  refine ⟨ds, [], before, [], before, [], hW0, ?_, ?_, ?_, World.keptBut_mono (fun p hp => ⟨hp, Or.inr (Or.inl hp)⟩) (hb.frame (· ∈ before)), fun h => by cases h⟩
  · rw [hsp, hrt]
    exact trodAll_mk1 (shut_bool hbool _)
  · rw [hsp]
    exact hargs _ (fun p hp => by simpa using hlt p hp)
  · rw [hsp, hv]
    exact rfl
end

def I64 (x : Int) : Prop := -9223372036854775808 ≤ x ∧ x ≤ 9223372036854775807
def Fac.ok (f : Fac) : Prop := f.l.size ≤ maxLen ∧ I64 f.a ∧ I64 f.b

theorem cell_spot {w : World} {a : Addr} {v : Value} (h : w.cell? a = some v) : a = ⟨a.block, a.off, none⟩ := by
  obtain ⟨b, o, s⟩ := a
  cases s with
  | none => rfl
  | some x =>
    exfalso
    unfold World.cell? at h
    split at h <;> simp at h

section
variable {H : Type} {enc : TypeId × Value → H} {P : Program} {w : World} {base : Nat} {spare : Nat → Bool} {held : Bool}
/-- a list of structs of a string and two numbers, as it reads -/
theorem facs_of_trod {t e : TypeId} {f0 f1 f2 : Field} {fuel : Nat} {cs0 : List Value} {x0 : DataW H × List MemPlace} (ht : P.underlying t = some (.slice e)) (he : P.underlying e = some (.struct #[f0, f1, f2]))
    (hone : oneCellFields P #[f0, f1, f2] = true) (hC : P.cellsOf e = 3) (t0 : P.underlying f0.type = some .string) (t1 : P.underlying f1.type = some (.int .i64)) (t2 : P.underlying f2.type = some (.int .i64))
    (hf : DataW.trod enc P w base spare held fuel t cs0 = some x0) :
    ∃ A n c fs, cs0 = [.slice A n c] ∧ n ≤ maxLen ∧ Rd w w.heap.size A n 3 Fac.cells fs ∧ ∀ f ∈ fs, Fac.ok f := by
  rcases open_slice ht hf with ⟨hcs, hx⟩ | ⟨a, len, cap, m, n, D, Pl, hcs, _, hl, hm, hmm, hx, hi⟩
  · exact ⟨none, 0, 0, [], hcs, by omega, Rd.none_, by simp⟩
  · subst hcs
    have hlm : len ≤ m := by rw [hmm]; split <;> omega
    have key : ∀ i, i < len → ∃ f : Fac, Fac.ok f ∧ w.cell? (a.add (i * 3)) = some (.string f.l) ∧ w.cell? ((a.add (i * 3)).add 1) = some (.int .i64 f.a) ∧ w.cell? ((a.add (i * 3)).add 2) = some (.int .i64 f.b) := by
      intro i hil
      obtain ⟨cs', hc, ht'⟩ := hi i (by omega)
      rw [hC] at hc
      obtain ⟨ys, n', hn', hy, hlen, hyl, hfld⟩ := DataW.trod_struct he ht'
      obtain ⟨_, hcl, hat⟩ := World.cells?_some hc
      obtain ⟨o0, k0⟩ := hone_of hone 0 f0 rfl
      obtain ⟨o1, k1⟩ := hone_of hone 1 f1 rfl
      obtain ⟨o2, k2⟩ := hone_of hone 2 f2 rfl
      rw [hC] at hlen
      match cs', hlen with
      | [x0, x1, x2], _ =>
        have q0 := hfld 0 f0 rfl
        have q1 := hfld 1 f1 rfl
        have q2 := hfld 2 f2 rfl
        match ys, hyl with
        | [y0, y1, y2], _ =>
          simp only [o0, k0, o1, k1, o2, k2] at q0 q1 q2
          obtain ⟨s, e0, _, hs⟩ := DataW.trod_string t0 (x := y0) (by simpa using q0)
          obtain ⟨z1, e1, _, w1⟩ := DataW.trod_int t1 (x := y1) (by simpa using q1)
          obtain ⟨z2, e2, _, w2⟩ := DataW.trod_int t2 (x := y2) (by simpa using q2)
          simp at e0 e1 e2
          subst e0 e1 e2
          refine ⟨⟨s, z1, z2⟩, ⟨hs, ?_, ?_⟩, ?_, ?_, ?_⟩
          · simpa [I64, Lit.wf, IntKind.min, IntKind.max, IntKind.signed, IntKind.bits] using w1
          · simpa [I64, Lit.wf, IntKind.min, IntKind.max, IntKind.signed, IntKind.bits] using w2
          · simpa [Addr.add] using hat 0 (by omega)
          · simpa using hat 1 (by omega)
          · simpa using hat 2 (by omega)
    obtain ⟨F, hF⟩ := choose_lt (α := Fac) (p := fun i f => Fac.ok f ∧ w.cell? (a.add (i * 3)) = some (.string f.l) ∧ w.cell? ((a.add (i * 3)).add 1) = some (.int .i64 f.a) ∧ w.cell? ((a.add (i * 3)).add 2) = some (.int .i64 f.b)) key
    refine ⟨some a, len, cap, (List.range len).map F, rfl, by omega, ⟨by simp, fun hp => ?_⟩, ?_⟩
    · have h0 := (hF 0 hp).2.1
      have ha : a = ⟨a.block, a.off, none⟩ := by
        have : a.add (0 * 3) = a := by simp [Addr.add]
        rw [this] at h0
        exact cell_spot h0
      refine ⟨a.block, a.off, by rw [← ha], ?_, ?_⟩
      · have := World.block_lt_of_cell? w _ h0
        simpa [Addr.add] using this
      · intro k x hx j u hu
        have hk : k < len := by
          have := (List.getElem?_eq_some_iff.1 hx).1
          simpa using this
        obtain rfl : F k = x := by simpa [hk] using hx
        obtain ⟨_, g0, g1, g2⟩ := hF k hk
        rw [ha] at g0 g1 g2
        simp only [Addr.add_lit] at g0 g1 g2
        rcases j with _ | _ | _ | j
        · simp [Fac.cells] at hu; subst hu; simpa using g0
        · simp [Fac.cells] at hu; subst hu; simpa using g1
        · simp [Fac.cells] at hu; subst hu; simpa using g2
        · simp [Fac.cells] at hu
    · intro f hf
      simp only [List.mem_map, List.mem_range] at hf
      obtain ⟨i, hil, rfl⟩ := hf
      exact (hF i hil).1
/-- an argument that is a list of structs of a string and two numbers -/
theorem open_facs {t e : TypeId} {f0 f1 f2 : Field} {r : Reach} {b0 : Nat} {v : Value} {d : DataW H} {p : List MemPlace} (ht : P.underlying t = some (.slice e)) (he : P.underlying e = some (.struct #[f0, f1, f2]))
    (hone : oneCellFields P #[f0, f1, f2] = true) (hC : P.cellsOf e = 3) (t0 : P.underlying f0.type = some .string) (t1 : P.underlying f1.type = some (.int .i64)) (t2 : P.underlying f2.type = some (.int .i64))
    (hv : Value.okWide P w r b0 t v) (h : DataW.Trod enc P w base spare held t v d p) :
    ∃ A n c fs, v = .slice A n c ∧ n ≤ maxLen ∧ Rd w w.heap.size A n 3 Fac.cells fs ∧ ∀ f ∈ fs, Fac.ok f := by
  obtain ⟨a0, len, cap, rfl⟩ := okWide_slice ht hv
  obtain ⟨fuel, hf⟩ := h
  simp only [Value.cells] at hf
  obtain ⟨A, n, c, fs, hcs, h2⟩ := facs_of_trod ht he hone hC t0 t1 t2 hf
  exact ⟨A, n, c, fs, by simpa using hcs, h2⟩
/-- an argument that is a grammar: a struct of one list -/
theorem open_grammar {g e : TypeId} {f f0 f1 f2 : Field} {r : Reach} {b0 : Nat} {v : Value} {d : DataW H} {p : List MemPlace} (hg : P.underlying g = some (.struct #[f])) (hone1 : oneCellFields P #[f] = true) (hC1 : P.cellsOf g = 1)
    (ht : P.underlying f.type = some (.slice e)) (he : P.underlying e = some (.struct #[f0, f1, f2]))
    (hone : oneCellFields P #[f0, f1, f2] = true) (hC : P.cellsOf e = 3) (t0 : P.underlying f0.type = some .string) (t1 : P.underlying f1.type = some (.int .i64)) (t2 : P.underlying f2.type = some (.int .i64))
    (hv : Value.okWide P w r b0 g v) (h : DataW.Trod enc P w base spare held g v d p) :
    ∃ A n c fs, v = .agg #[.slice A n c] ∧ n ≤ maxLen ∧ Rd w w.heap.size A n 3 Fac.cells fs ∧ ∀ f ∈ fs, Fac.ok f := by
  obtain ⟨cs, rfl, hsz⟩ := okWide_struct hg hv
  obtain ⟨l⟩ := cs
  match l, hsz.trans hC1 with
  | [x0], _ =>
    obtain ⟨fuel, hf⟩ := h
    obtain ⟨ys, n', hn', hy, hlen, hyl, hfld⟩ := DataW.trod_struct hg hf
    obtain ⟨o0, k0⟩ := hone_of hone1 0 f rfl
    match ys, hyl with
    | [y0], _ =>
      have q0 := hfld 0 f rfl
      simp only [o0, k0] at q0
      have q1 : DataW.trod enc P w base spare held n' f.type [x0] = some y0 := by simpa [Value.cells] using q0
      obtain ⟨A, n, c, fs, hcs, h2⟩ := facs_of_trod ht he hone hC t0 t1 t2 q1
      obtain rfl : x0 = .slice A n c := by simpa using hcs
      exact ⟨A, n, c, fs, rfl, h2⟩
/-- an argument that is a list of numbers -/
theorem open_nums {t e : TypeId} {k : IntKind} {r : Reach} {b0 : Nat} {v : Value} {d : DataW H} {p : List MemPlace} (ht : P.underlying t = some (.slice e)) (he : P.underlying e = some (.int k)) (hC : P.cellsOf e = 1)
    (hv : Value.okWide P w r b0 t v) (h : DataW.Trod enc P w base spare held t v d p) :
    ∃ A n c zs, v = .slice A n c ∧ n ≤ maxLen ∧ Rd w w.heap.size A n 1 (fun z => [.int k z]) zs ∧ ∀ z ∈ zs, (Lit.int k z).wf = true := by
  obtain ⟨a0, len0, cap0, rfl⟩ := okWide_slice ht hv
  obtain ⟨fuel, hf⟩ := h
  simp only [Value.cells] at hf
  rcases open_ints ht he hC hf with ⟨hcs, hx⟩ | ⟨a, len, cap, zs, hcs, _, hl, hm, hz, hx, hi, hw⟩
  · exact ⟨none, 0, 0, [], by simpa using hcs, by omega, Rd.none_, by simp⟩
  · have hlz : len ≤ zs.length := by rw [hz]; split <;> omega
    refine ⟨some a, len, cap, zs.take len, by simpa using hcs, by omega, ⟨by simp; omega, fun hp => ?_⟩, fun z h2 => hw z (List.mem_of_mem_take h2)⟩
    have h0 := hi 0 (by omega)
    have ha : a = ⟨a.block, a.off, none⟩ := by
      have : a.add 0 = a := by simp [Addr.add]
      rw [this] at h0
      exact cell_spot h0
    refine ⟨a.block, a.off, by rw [← ha], ?_, fun i x hx j u hu => ?_⟩
    · have := World.block_lt_of_cell? w _ h0
      simpa [Addr.add] using this
    · have hil : i < len := by have := (List.getElem?_eq_some_iff.1 hx).1; simp at this; omega
      rw [List.getElem?_take_of_lt hil] at hx
      have g0 := hi i (by omega)
      rw [ha, Addr.add_lit, List.getD_eq_getElem?_getD, hx] at g0
      rcases j with _ | j
      · simp at hu; subst hu; simpa using g0
      · simp at hu
theorem open_bytes {t e : TypeId} {r : Reach} {b0 : Nat} {v : Value} {d : DataW H} {p : List MemPlace} (ht : P.underlying t = some (.slice e)) (he : P.underlying e = some (.int .u8)) (hC : P.cellsOf e = 1)
    (hv : Value.okWide P w r b0 t v) (h : DataW.Trod enc P w base spare held t v d p) :
    ∃ A n c zs, v = .slice A n c ∧ n ≤ maxLen ∧ Rd w w.heap.size A n 1 (fun z => [.int .u8 z]) zs ∧ ∀ z ∈ zs, 0 ≤ z ∧ z < 256 := by
  obtain ⟨A, n, c, zs, h1, h2, h3, h4⟩ := open_nums ht he hC hv h
  refine ⟨A, n, c, zs, h1, h2, h3, fun z hz => ?_⟩
  have := h4 z hz
  simp [Lit.wf, IntKind.min, IntKind.max, IntKind.signed, IntKind.bits] at this
  omega
theorem open_i64s {t e : TypeId} {r : Reach} {b0 : Nat} {v : Value} {d : DataW H} {p : List MemPlace} (ht : P.underlying t = some (.slice e)) (he : P.underlying e = some (.int .i64)) (hC : P.cellsOf e = 1)
    (hv : Value.okWide P w r b0 t v) (h : DataW.Trod enc P w base spare held t v d p) :
    ∃ A n c zs, v = .slice A n c ∧ n ≤ maxLen ∧ Rd w w.heap.size A n 1 (fun z => [.int .i64 z]) zs ∧ ∀ z ∈ zs, I64 z := by
  obtain ⟨A, n, c, zs, h1, h2, h3, h4⟩ := open_nums ht he hC hv h
  refine ⟨A, n, c, zs, h1, h2, h3, fun z hz => ?_⟩
  simpa [I64, Lit.wf, IntKind.min, IntKind.max, IntKind.signed, IntKind.bits] using h4 z hz
theorem open_i64 {t : TypeId} {r : Reach} {b0 : Nat} {v : Value} {d : DataW H} {p : List MemPlace} (ht : P.underlying t = some (.int .i64)) (hv : Value.okWide P w r b0 t v) (h : DataW.Trod enc P w base spare held t v d p) :
    ∃ z, v = .int .i64 z ∧ d = .lit (.int .i64 z) ∧ p = [] ∧ I64 z := by
  obtain ⟨z, h1, h2, h3, h4⟩ := Go.ChangeShapes.open_int ht hv h
  exact ⟨z, h1, h2, h3, by simpa [I64, Lit.wf, IntKind.min, IntKind.max, IntKind.signed, IntKind.bits] using h4⟩
/-- an argument that is a list of texts -/
theorem open_strs {t e : TypeId} {r : Reach} {b0 : Nat} {v : Value} {d : DataW H} {p : List MemPlace} (ht : P.underlying t = some (.slice e)) (he : P.underlying e = some .string) (hC : P.cellsOf e = 1)
    (hv : Value.okWide P w r b0 t v) (h : DataW.Trod enc P w base spare held t v d p) :
    ∃ A n c ss, v = .slice A n c ∧ n ≤ maxLen ∧ Rd w w.heap.size A n 1 (fun s => [.string s]) ss ∧ ∀ s ∈ ss, s.size ≤ maxLen := by
  obtain ⟨a0, len0, cap0, rfl⟩ := okWide_slice ht hv
  obtain ⟨fuel, hf⟩ := h
  simp only [Value.cells] at hf
  rcases open_strings ht he hC hf with ⟨hcs, hx⟩ | ⟨a, len, cap, zs, hcs, _, hl, hm, hz, hx, hi, hw⟩
  · exact ⟨none, 0, 0, [], by simpa using hcs, by omega, Rd.none_, by simp⟩
  · have hlz : len ≤ zs.length := by rw [hz]; split <;> omega
    refine ⟨some a, len, cap, zs.take len, by simpa using hcs, by omega, ⟨by simp; omega, fun hp => ?_⟩, fun z h2 => hw z (List.mem_of_mem_take h2)⟩
    have h0 := hi 0 (by omega)
    have ha : a = ⟨a.block, a.off, none⟩ := by
      have : a.add 0 = a := by simp [Addr.add]
      rw [this] at h0
      exact cell_spot h0
    refine ⟨a.block, a.off, by rw [← ha], ?_, fun i x hx j u hu => ?_⟩
    · have := World.block_lt_of_cell? w _ h0
      simpa [Addr.add] using this
    · have hil : i < len := by have := (List.getElem?_eq_some_iff.1 hx).1; simp at this; omega
      rw [List.getElem?_take_of_lt hil] at hx
      have g0 := hi i (by omega)
      rw [ha, Addr.add_lit, List.getD_eq_getElem?_getD, hx] at g0
      rcases j with _ | j
      · simp at hu; subst hu; simpa using g0
      · simp at hu
end
end Go.Proofs.Ytecnkmndmnefdaa
