
/-
  Numbers behind a line's first word, and numbers as words, in the program.
-/
import Derived.Test.YtcpofhjoblgmgaaDoorAuM
import Derived.Test.YtcpofhjoblgmgaaDoorRfI
import Derived.Test.YtcpofhjoblgmgaaDoorDec
namespace Go.Proofs.YtcpofhjoblgmgaaDoor
open Go.RowKit

theorem splitC_any {m : Int} {es er : Value} (s : ByteArray) (c : UInt8) (W : World) (hE : EnvR m es er W) (hs : s.size ≤ 4000) :
    Calls Tryd.prog 13 #[.string s, .string ⟨#[c]⟩] W (RetNew W 9 1 strE (bas (spl c s.data.toList))) := by
  refine (Tryd.strings_Split s ⟨#[c]⟩ m W (by omega) hE.h0 (by show 1 ≤ 1; omega)).mono ?_
  rintro e w' ⟨rfl, rfl⟩
  have hlen : (bas (spl c s.data.toList)).length = Lib.countB s ⟨#[c]⟩ + 1 := by
    rw [← splitB_bas]; exact Lib.splitB_all ⟨#[c]⟩ (by show 1 ≤ 1; omega) 0 _ s rfl
  have hc := Lib.countB_le ⟨#[c]⟩ (by show 1 ≤ 1; omega) s.size s (Nat.le_refl _)
  rw [splitB_bas]
  generalize Lib.countB s ⟨#[c]⟩ = K at *
  generalize bas (spl c s.data.toList) = L at *
  refine ⟨_, K + 1, ret_slice hlen.symm, ?_, (Below.refl _ _).alloc (Nat.le_refl _) _⟩
  have hf := flat_strE L
  refine ⟨by rw [hf, List.length_map, Nat.mul_one], .inr ⟨W.heap.size, K + 1, (L.map Value.string).toArray, rfl, Nat.le_refl _, heap_alloc_new _ _, by omega, by unfold maxLen; omega, by simp [hlen], ?_⟩⟩
  rw [hf, List.toList_toArray, List.take_of_length_le (by rw [List.length_map, Nat.mul_one]; exact Nat.le_refl _)]
/-- pieces of a text that lie in a row: what a walk over them wants -/
theorem pieces_at {w w1 : World} {L : List (List UInt8)} {A : Option Addr} {n c : Nat} (hn : (bas L).length = n) (h0 : 0 < n) (own : w1.ownsRow w.heap.size 9 1 (.slice A n c) n ((bas L).flatMap strE)) :
    ∃ lb, A = some ⟨lb, 0, none⟩ ∧ lb < w1.heap.size ∧ w.heap.size ≤ lb ∧ n ≤ c ∧ ∀ (k : Nat) (x : List UInt8), L[k]? = some x → w1.cell? ⟨lb, k, none⟩ = some (.string ⟨x.toArray⟩) := by
  have r1 := (show Rd w1 w1.heap.size A n 1 (fun s => [.string s]) (bas L) from Rd.of_own (enc := strE) (fun _ _ => rfl) hn own)
  obtain ⟨g, cap, hv, hg, hlt⟩ := own.form h0
  have hA : A = some ⟨g, 0, none⟩ := by injection hv
  subst hA
  obtain ⟨lb, lo, hA, hlB, hc1⟩ := r1.2 h0
  injection hA with hA
  injection hA with h1 h2
  subst h1 h2
  refine ⟨g, rfl, hlt, hg, ?_, fun k x hk => ?_⟩
  · rcases own.2 with ⟨h, _⟩ | ⟨g', cap', cur', h, _, _, h3, _⟩
    · cases h
    · injection h with _ _ h; omega
  · have := hc1 k _ (bas_get hk) 0 _ rfl
    simpa using this
/-- what the loop over the words keeps -/
structure NbW (w W : World) (lb lo : Nat) (LS : List (List UInt8)) (A : Option Addr) (i c : Nat) (out : List Int) : Prop where
  own : W.ownsRow w.heap.size 2 1 (.slice A i c) i (out.flatMap intE)
  ne : some lb ≠ (Value.slice A i c).ownBlock
  lt : lb < W.heap.size
  rd : ∀ (k : Nat) (x : List UInt8), LS[k]? = some x → W.cell? ⟨lb, lo + k, none⟩ = some (.string ⟨x.toArray⟩)
  be : Below w.heap.size w W
section
variable {w W W' : World} {lb lo : Nat} {LS : List (List UInt8)} {A : Option Addr} {i c : Nat} {out : List Int}
theorem NbW.next (h : NbW w W lb lo LS A i c out) (hb : Below W.heap.size W W') : NbW w W' lb lo LS A i c out :=
  ⟨own_next h.own hb, h.ne, Nat.lt_of_lt_of_le h.lt hb.size, fun k x hx => (hb.cell (p := ⟨lb, lo + k, none⟩) h.lt).trans (h.rd k x hx), h.be.trans (hb.mono h.be.size)⟩
theorem NbW.alloc (h : NbW w W lb lo LS A i c out) (o : Obj) : NbW w (W.alloc o) lb lo LS A i c out := h.next ((Below.refl _ _).alloc (Nat.le_refl _) o)
theorem NbW.push (h : NbW w W lb lo LS A i c out) {A' : Option Addr} {i' c' : Nat} {out' : List Int} (ho : W'.ownsRow w.heap.size 2 1 (.slice A' i' c') i' (out'.flatMap intE)) (hg : W.grownBy W' (Value.slice A i c).ownBlock)
    (hat : (Value.slice A' i' c').ownBlock = (Value.slice A i c).ownBlock ∨ (Value.slice A' i' c').ownBlock = some W.heap.size) : NbW w W' lb lo LS A' i' c' out' := by
  refine ⟨ho, ?_, Nat.lt_of_lt_of_le h.lt hg.size, fun k x hx => hg.cell (h.rd k x hx) h.ne, h.be.grown hg h.be.size (own_ge h.own)⟩
  rcases hat with e | e
  · rw [e]; exact h.ne
  · rw [e]; intro q; injection q with q; have := h.lt; omega
end
set_option maxHeartbeats 2000000 in
set_option maxRecDepth 100000 in
theorem nbI_any {mx : Int} {es er : Value} (x : List UInt8) (w : World) (hE : EnvR mx es er w) (hx : x.length ≤ 4000) : Calls Tryd.prog 14 #[.string ⟨x.toArray⟩] w (RetNew w 2 1 intE (nbI x)) := by
  have HE := Lib.hid (fun (W : World) (h : Below w.heap.size w W) => hE.next h)
  clear hE
  have hsz : (⟨x.toArray⟩ : ByteArray).size = x.length := by show x.toArray.size = _; rw [List.size_toArray]
  have hcnt := spl_count 32 x
  have hpos := List.length_pos_iff.2 (spl_ne 32 x)
  have hsm := Lib.hid (fun y hy => spl_small 32 x y hy)
  have hnb : nbI x = ((spl 32 x).drop 1).map pI := rfl
  have SPc := Lib.hid (fun W (h : Below w.heap.size w W) => show Calls Tryd.prog 13 #[.string ⟨x.toArray⟩, .string ⟨#[32]⟩] W (RetNew W 9 1 strE (bas (spl 32 x))) from splitC_any ⟨x.toArray⟩ 32 W (HE.out W h) (by omega))
  generalize nbI x = NB at *
  generalize spl 32 x = LS at *
  generalize (⟨x.toArray⟩ : ByteArray) = tx_ at *
  have hbl : (bas LS).length = LS.length := by unfold bas; simp
  obtain ⟨m, hm⟩ : ∃ m, LS.length = m := ⟨_, rfl⟩
  obtain ⟨M, hM⟩ : ∃ M, m = M + 1 := ⟨m - 1, by omega⟩
  have HNB := Lib.hid hnb
  clear hnb
  go_enter Tryd.func14, Tryd.ntmps14
  go_wp2_with fail
  refine (SPc.out _ (by (repeat first | exact Below.refl _ _ | assumption | refine Below.drew ?_ | refine Below.alloc ?_ (by first | exact Nat.le_refl _ | (simp; done) | omega | (simp; omega)) _ | refine Below.setCell ?_ (by first | exact Nat.le_refl _ | (simp; done) | omega | (simp; omega)) _))).mono ?_
  rintro e w1 ⟨A1, c1, rfl, own1, hb1⟩
  rw [hbl, hm] at own1 ⊢
  obtain ⟨lb, rfl, hlB, hlb, hcap, RL⟩ := pieces_at (hbl.trans hm) (by omega) own1
  have hlb : w.heap.size < lb := by simp at hlb; omega
  have O1 := Lib.hid (own_next (World.ownsRow_made (base := w.heap.size) (e := 2) (size := 1) w #[] 0 (Nat.le_refl _) (by unfold maxLen; omega) rfl) hb1)
  have b1 := Lib.hid ((show Below w.heap.size w (w.alloc (.cells #[] 2)) from (by (repeat first | exact Below.refl _ _ | assumption | refine Below.drew ?_ | refine Below.alloc ?_ (by first | exact Nat.le_refl _ | (simp; done) | omega | (simp; omega)) _ | refine Below.setCell ?_ (by first | exact Nat.le_refl _ | (simp; done) | omega | (simp; omega)) _))).trans (hb1.mono (by simp)))
  have RL := Lib.hid RL
  have M0 : (1 : Int) ≤ (m : Int) := by omega
  have M1 : (m : Int) ≤ (c1 : Int) := by omega
  have M2 : (m : Int) - 1 = (M : Int) := by omega
  clear own1 hb1 SPc
  rcases (show c1 = 1 ∨ ¬ c1 = 1 by omega) with hc1 | hc1
  all_goals
    go_wp2_with fail
    go_loopw [3, 13] (fun o_ i_ w' => ∃ (A : Option Addr) (c i : Nat), o_ = .slice A i c ∧ i_ = .int .i64 i ∧ i ≤ M ∧ Hid (NbW w w' lb 1 (LS.drop 1) A i c (((LS.drop 1).take i).map pI))) (fun _ i_ _ => M - (intOf i_).toNat)
    case atStart => exact ⟨some ⟨w.heap.size, 0, none⟩, 0, 0, rfl, rfl, by omega, Lib.hid ⟨by simpa using O1.out, by intro e; injection e with e; have e' : lb = w.heap.size := e; omega, hlB, fun k y hy => by
      rw [List.getElem?_drop] at hy
      exact RL.out (1 + k) y hy, b1.out⟩⟩
    case round =>
      obtain ⟨A, c, i, rfl, rfl, him, HP⟩ := hrel
      clear O1 RL b1 hlB
      by_cases hlt : i < M
      · obtain ⟨y, hy⟩ : ∃ y, (LS.drop 1)[i]? = some y := ⟨_, List.getElem?_eq_getElem (by rw [List.length_drop]; omega)⟩
        have l0 := HP.out.rd i y hy
        have hys : y.length ≤ x.length := hsm.out y (List.mem_of_mem_drop (List.mem_of_getElem? hy))
        have hsn := Lib.hid (show ((LS.drop 1).take (i + 1)).map pI = ((LS.drop 1).take i).map pI ++ [pI y] by rw [List.take_add_one, hy]; simp)
        have i0 : (0 : Int) ≤ (i : Int) := by omega
        have i2 : (i : Int) < (M : Int) := by omega
        have PP := Lib.hid (fun (W : World) (h : Below w.heap.size w W) => parse_any y W (HE.out W h) (by omega))
        have PY := Lib.hid (PP.out wr HP.out.be)
        have hlw := HP.out.lt
        generalize (⟨y.toArray⟩ : ByteArray) = ty at *
        generalize pI y = v at *
        clear hy PP
        first
          | (exfalso; omega)
          | (go_wp2_with fail
             refine PY.out.mono ?_
             rintro e w2 ⟨ev, rfl, hb2⟩
             have P2 := Lib.hid ((HP.out.next hb2).alloc (.cells #[.int .i64 v] 2))
             clear hb2 HP l0
             go_wp2_with
               (at_builtin
                refine wpList_pushG rfl _ _ _ rfl w.heap.size 2 1 8 elem_int intE A i c (((LS.drop 1).take i).map pI) rfl P2.out.own w2.heap.size v _ _ _ rfl (heap_alloc_new _ _) rfl rfl (by simp [intE, Value.oneCell']) (by omega) (by omega) (by unfold maxLen; omega) P2.out.be.size ?_
                intro A9 c9 w9 own9 hg9 hat9
                have P9 := Lib.hid (P2.out.push own9 hg9 hat9)
                clear own9 hg9 hat9)
             go_roundw
             case rel => exact ⟨A9, c9, i + 1, rfl, by go_num, by omega, Lib.hid (by rw [hsn.out]; exact P9.out)⟩
             case measure => simp [intOf]; omega)
      · obtain rfl : i = M := by omega
        have i2 : ¬ (i : Int) < (i : Int) := by omega
        have ht : (LS.drop 1).take i = LS.drop 1 := List.take_of_length_le (by rw [List.length_drop]; omega)
        have HO := Lib.hid HP.out.own
        have HB := Lib.hid HP.out.be
        rw [ht, ← HNB.out] at HO
        have hl : NB.length = i := by rw [HNB.out, List.length_map, List.length_drop]; omega
        go_wp2_with fail
        go_ret
        exact ⟨A, c, ret_slice hl.symm, by rw [hl]; exact HO.out, HB.out⟩
/-- numbers as words behind a word, and a newline -/
def wrdS (s : ByteArray) : List Int → ByteArray
  | [] => s ++ ⟨#[10]⟩
  | n :: r => wrdS (s ++ (⟨#[32]⟩ ++ decS n.toNat)) r
set_option maxHeartbeats 1000000 in
set_option maxRecDepth 100000 in
theorem words_any (s : ByteArray) (A : Option Addr) (n c : Nat) (l : List Int) (w : World) (hn : n ≤ 1000) (hr : Rd w w.heap.size A n 1 intE l) (hl : ∀ z ∈ l, 0 ≤ z ∧ z < 1000) (hs : s.size ≤ 100000) (ht : TabD w) :
    Calls Tryd.prog 33 #[.string s, .slice A n c] w (Ret (.string (wrdS s l)) w) := by
  have HR := Lib.hid hr
  have hlen := hr.len
  have HT := Lib.hid (fun W (h : Below w.heap.size w W) => tab_up ht h)
  have HL := Lib.hid hl
  clear hr hl ht
  go_enter Tryd.func33, Tryd.ntmps33
  go_wp2_with fail
  go_loopw [0, 9] (fun o_ i_ w' => ∃ (i : Nat) (t : ByteArray), o_ = .string t ∧ i_ = .int .i64 i ∧ i ≤ n ∧ Hid (wrdS t (l.drop i) = wrdS s l) ∧ t.size ≤ 100000 + 5 * i ∧ Hid (Below w.heap.size w w')) (fun _ i_ _ => n - (intOf i_).toNat)
  case atStart => exact ⟨0, s, rfl, rfl, by omega, Lib.hid rfl, by omega, Lib.hid (Below.refl _ _)⟩
  case round =>
    obtain ⟨i, t, rfl, rfl, hi, HW, hts, hb⟩ := hrel
    by_cases hlt : i < n
    · obtain ⟨b, o, z, rfl, hB, gz, c0⟩ := (show Rd _ _ A n 1 (fun s => [.int .i64 s]) l from HR.out.next hb.out).int hlt
      have hz := HL.out z (List.mem_of_getElem? gz)
      obtain ⟨k, rfl⟩ := Int.eq_ofNat_of_zero_le hz.1
      have HW2 := Lib.hid (show wrdS (t ++ (⟨#[32]⟩ ++ decS k)) (l.drop (i + 1)) = wrdS s l by rw [← HW.out, drop_cons gz]; rfl)
      have D := Lib.hid (implDec_any k (by omega) wr (HT.out wr hb.out))
      have hds : (decS k).size ≤ 3 := by
        have := dec_len 2 k (by omega)
        show (Lib.decDigits k).toArray.size ≤ 3
        rw [List.size_toArray]; exact this
      have i0 : (0 : Int) ≤ (i : Int) := by omega
      have i2 : (i : Int) < (n : Int) := by omega
      have hsz2 : (t ++ (⟨#[32]⟩ ++ decS k)).size ≤ 100000 + 5 * (i + 1) := by
        rw [ByteArray.size_append, ByteArray.size_append]
        have : (⟨#[32]⟩ : ByteArray).size = 1 := rfl
        omega
      generalize decS k = dk at *
      clear gz hz
      go_wp2_with fail
      refine D.out.mono ?_
      rintro e w2 ⟨rfl, hb2⟩
      go_wp2_with fail
      go_roundw
      case rel => exact ⟨i + 1, _, rfl, by go_num, by omega, HW2, hsz2, Lib.hid (hb.out.trans (hb2.mono hb.out.size))⟩
      case measure => simp [intOf]; omega
    · have ht : l.drop i = [] := List.drop_of_length_le (by omega)
      have i2 : ¬ (i : Int) < (n : Int) := by omega
      have HW2 := Lib.hid (show t ++ ⟨#[10]⟩ = wrdS s l by rw [← HW.out, ht]; rfl)
      go_wp2_with fail
      go_ret
      exact ⟨by rw [← HW2.out]; rfl, hb.out⟩
end Go.Proofs.YtcpofhjoblgmgaaDoor
