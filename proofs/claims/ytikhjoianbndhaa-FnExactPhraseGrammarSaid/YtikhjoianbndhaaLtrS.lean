/-
  The rules of a word's letters and the numbers of its letters, in the reference.
-/
import Derived.Test.YtikhjoianbndhaaLtrP
import Derived.Test.YtikhjoianbndhaaPlainS
import Derived.Test.YtikhjoianbndhaaLett
import Derived.Test.YtikhjoianbndhaaTrimS
import Derived.Test.YtikhjoianbndhaaStop
namespace Go.Proofs.Ytikhjoianbndhaa
open Go.RowKit

theorem take_mem {s : ByteArray} {i : Nat} (u : UInt8) (h : i < s.size) : (u ∈ s.data.toList.take (i + 1)) ↔ (u ∈ s.data.toList.take i ∨ s[i] = u) := by
  have h1 : i < s.data.toList.length := by rw [byte_len]; exact h
  have h2 : s.data.toList[i]'h1 = s[i] := by
    have := at_byte s i h
    rw [List.getElem?_eq_getElem h1] at this
    exact Option.some.inj this
  rw [List.take_succ_eq_append_getElem h1, h2]
  simp [eq_comm]
theorem one_text {s : ByteArray} {i : Nat} (u : UInt8) (h : i < s.size) : ((s.extract i (i + 1)).toList == [u]) = decide (s[i] = u) := by
  have e : s.extract i (i + 1) = ⟨#[s[i]]⟩ := by
    apply ByteArray.ext
    rw [ByteArray.data_extract]
    apply Array.ext'
    rw [Array.toList_extract, List.extract_eq_take_drop, drop_cons (at_byte s i h)]
    simp only [Nat.add_sub_cancel_left, List.take_succ_cons, List.take_zero]
  rw [e, show [u] = (⟨#[u]⟩ : ByteArray).toList by rw [ByteArray.toList_eq], tl_beq]
  simp
/-- 'l06Letters' under way -/
structure LsW (w W : World) (A : Option Addr) (n c : Nat) (rs : List Fac) (at_ : List Int) : Prop where
  q : W.ownsRow w.heap.size 44 3 (.slice A n c) n (rs.flatMap Fac.cells)
  v : Blk W (w.heap.size + 1) 2 (intA at_)
  e : Below w.heap.size w W
section
variable {w W W' : World} {A : Option Addr} {n c : Nat} {rs : List Fac} {at_ : List Int}
theorem LsW.next (h : LsW w W A n c rs at_) (hb : Below W.heap.size W W') : LsW w W' A n c rs at_ := ⟨own_next h.q hb, h.v.next hb, h.e.trans (hb.mono h.e.size)⟩
theorem LsW.alloc (h : LsW w W A n c rs at_) (o : Obj) : LsW w (W.alloc o) A n c rs at_ := h.next ((Below.refl _ _).alloc (Nat.le_refl _) _)
theorem LsW.push {A8 : Option Addr} {k8 c8 : Nat} {rs' : List Fac} (h : LsW w W A n c rs at_) (hq : W'.ownsRow w.heap.size 44 3 (.slice A8 k8 c8) k8 (rs'.flatMap Fac.cells)) (hg : W.grownBy W' (Value.slice A n c).ownBlock) : LsW w W' A8 k8 c8 rs' at_ :=
  ⟨hq, h.v.grown hg (own_blk_ne h.q h.v (by decide)), h.e.grown hg h.e.size (own_ge h.q)⟩
theorem LsW.tell (h : LsW w W A n c rs at_) (i : Nat) (z : Int) : LsW w (W.setCell ⟨w.heap.size + 1, i, none⟩ (.int .i64 z)) A n c rs (at_.set i z) := by
  have := h.v.set_ i (.int .i64 z)
  rw [intA_set] at this
  exact ⟨own_kept' h.q h.v (by decide) _, this, h.e.setCell (by simp) _⟩
end
set_option maxHeartbeats 4000000 in
set_option maxRecDepth 100000 in
theorem l06Letters_any (s : ByteArray) (w : World) (ho : okW s = true) : Calls Try.prog 21 #[.string s] w (RetLt w (lettersP s.data.toList) (numsP s.data.toList) sliceV) := by
  have hs := okW_size ho
  have HL := Lib.hid (fun (i : Nat) (hi : i < s.size) => okW_at ho hi)
  have mkN := fun W => show (Instr.makeSlice 37 (.int .i64 4) (.int .i64 4)).run Try.prog W = .ok (.slice (some ⟨W.heap.size, 0, none⟩) 4 4) (W.alloc (.cells (intA (List.replicate 4 0)) 2)) from makeN 4 W (by omega)
  clear ho
  go_enter Try.func21, Try.ntmps21
  go_wp2_with fail
  refine named fun w0 H0 => ?_
  have P0 := Lib.hid (show LsW w w0 (some ⟨w.heap.size, 0, none⟩) 0 0 [] (List.replicate 4 0) by
    rw [H0.out]
    refine ⟨?_, ?_, by (repeat first | exact Below.refl _ _ | assumption | refine Below.drew ?_ | refine Below.alloc ?_ (by first | exact Nat.le_refl _ | (simp; done) | omega | (simp; omega)) _ | refine Below.setCell ?_ (by first | exact Nat.le_refl _ | (simp; done) | omega | (simp; omega)) _)⟩
    · exact (World.ownsRow_made (base := w.heap.size) (e := 44) (size := 3) w #[] 0 (Nat.le_refl _) (by unfold maxLen; omega) rfl).alloc _
    · simpa using Blk.new (w.alloc (.cells #[] 44)) 2 (intA (List.replicate 4 0)))
  clear H0 mkN
  go_loopw [4, 6] (fun r_ c_ w' => ∃ (k : Nat) (A : Option Addr) (n cp : Nat) (at_ : List Int), r_ = .slice A n cp ∧ c_ = .int .i64 k ∧ k ≤ 4 ∧ n ≤ 4 ∧ Hid ((ksT s.data.toList (97 + k)).length = n) ∧ Hid (LsW w w' A n cp ((ksT s.data.toList (97 + k)).map ruleC) at_) ∧
    Hid (at_.length = 4) ∧ Hid (∀ u : UInt8, letB u = true → (u.toNat : Int) < 97 + k → u ∈ s.data.toList → at_.getD (u.toNat - 97) 0 = atP s.data.toList u)) (fun _ c_ _ => (4 - intOf c_).toNat)
  case atStart => exact ⟨0, _, 0, 0, _, rfl, rfl, by omega, by omega, Lib.hid (by rw [show (97 : Int) + ((0 : Nat) : Int) = 97 from rfl, ksT_first]; rfl), by rw [show (97 : Int) + ((0 : Nat) : Int) = 97 from rfl, ksT_first]; exact P0, Lib.hid rfl, Lib.hid (fun u h1 h2 => by simp [letB] at h1; omega)⟩
  case round =>
    obtain ⟨k, A, n, cp, at_, rfl, rfl, hk4, hn4, hnl, P1, hal, hat⟩ := hrel
    by_cases hlt : k < 4
    · obtain ⟨u, hu⟩ : ∃ u : UInt8, u.toNat = 97 + k := ⟨UInt8.ofNat (97 + k), by simp; omega⟩
      have hlb : letB u = true := by simp [letB]; omega
      have hu' : (u.toNat : Int) = 97 + k := by omega
      have Hst0 := ksT_step s.data.toList u hlb
      rw [hu', show (97 : Int) + (k : Int) + 1 = 97 + ((k + 1 : Nat) : Int) by omega] at Hst0
      have Hst := Lib.hid Hst0
      have Hu := Lib.hid hu'
      have hcv := conv_letter (wr.alloc (.cells #[.int .u8 (97 + (k : Int))] 5)) wr.heap.size 1 u (by rw [hu']; simp)
      have P2 := Lib.hid (P1.out.alloc (.cells #[.int .u8 (97 + (k : Int))] 5))
      have hlb' := Lib.hid hlb
      have hix := Lib.hid (idx_ks s.data.toList u hlb)
      have v0 := P2.out.v.cell k
      rw [intA_at at_ (by rw [hal.out]; exact hlt)] at v0
      have vf := P2.out.v.frozen
      have vl := P2.out.v.lt
      have P3 := Lib.hid (P2.out.tell k (-1))
      have i0 : (0 : Int) ≤ (k : Int) := by omega
      have i1 : (k : Int) < 4 := by omega
      clear Hst0 hu' hlb hu
      go_wp2_with fail
      generalize hwi : (wr.alloc (.cells #[.int .u8 (97 + (k : Int))] 5)).setCell ⟨w.heap.size + 1, k, none⟩ (.int .i64 (-1)) = wi at *
      go_loopw [4, 8] (fun r_ i_ w' => ∃ (i : Nat) (A' : Option Addr) (n' cp' : Nat) (b : Bool), r_ = .slice A' n' cp' ∧ i_ = .int .i64 i ∧ i ≤ s.size ∧ n' = n + (bif b then 1 else 0) ∧ Hid (b = true ↔ u ∈ s.data.toList.take i) ∧
        Hid (LsW w w' A' n' cp' ((ksT s.data.toList (97 + k)).map ruleC ++ (bif b then [ruleC u] else [])) (at_.set k (bif b then (n : Int) else -1)))) (fun _ i_ _ => s.size - (intOf i_).toNat)
      case atStart => exact ⟨0, A, n, cp, false, rfl, rfl, by omega, by simp, Lib.hid (by simp), by simpa using P3⟩
      case round =>
        obtain ⟨i, A', n', cp', b, rfl, rfl, hi, hn', hb, PR⟩ := hrel
        by_cases hlt2 : i < s.size
        · have hcmp := one_text u hlt2
          have htm := Lib.hid (take_mem u hlt2)
          have g0 := PR.out.v.cell k
          rw [intA_at _ (by rw [List.length_set, hal.out]; exact hlt), List.getD_eq_getElem?_getD, List.getElem?_set_self (by rw [hal.out]; exact hlt), Option.getD_some] at g0
          have gf := PR.out.v.frozen
          have gl := PR.out.v.lt
          have j0 : (0 : Int) ≤ (i : Int) := by omega
          have j1 : (i : Int) < (s.size : Int) := by omega
          cases b
          · simp only [cond_false] at g0 hn' PR
            obtain rfl : n' = n := by omega
            clear hn'
            by_cases hc : s[i] = u
            · have hcmp' : ((s.extract i (i + 1)).toList == [u]) = true := by rw [hcmp]; simpa using hc
              have Hc := Lib.hid hc
              have P4 := Lib.hid (PR.out.tell k (n' : Int))
              have P5 := Lib.hid (P4.out.alloc (.cells #[.string ⟨#[u]⟩, .int .i64 0, .int .i64 0] 44))
              have BN0 := Blk.new (wr.setCell ⟨w.heap.size + 1, k, none⟩ (.int .i64 (n' : Int))) 44 #[.string (ruleC u).l, .int .i64 (ruleC u).a, .int .i64 (ruleC u).b]
              have sz4 : (wr.setCell ⟨w.heap.size + 1, k, none⟩ (.int .i64 (n' : Int))).heap.size = wr.heap.size := by simp
              rw [sz4] at BN0
              have BN := Lib.hid BN0
              clear hc BN0 sz4 hcmp
              go_wp2_with
                (at_builtin
                 refine wpList_app rfl _ _ _ rfl w.heap.size 44 3 32 elem_rule Fac.cells A' n' cp' ((ksT s.data.toList (97 + (k : Int))).map ruleC ++ []) rfl P5.out.q ⟨wr.heap.size, 0, none⟩ 1 1 [ruleC u] rfl rfl (by omega) (news1 (y := ruleC u) BN.out) (fun x _ => fac_len x) (fun x _ => one_fac x) (by omega) (by omega) (by unfold maxLen; omega) P5.out.e.size ?_
                 intro A9 c9 w9 own9 hg9 hat9
                 have P6 := Lib.hid (P5.out.push own9 hg9)
                 clear own9)
              go_roundw
              case rel =>
                refine ⟨i + 1, A9, n' + 1, c9, true, rfl, by go_num, by omega, by simp, Lib.hid (by rw [htm.out]; simp [Hc.out]), Lib.hid ?_⟩
                have := P6.out
                rw [List.set_set, List.append_nil] at this
                exact this
              case measure => simp [intOf]; omega
            · have hcmp' : ((s.extract i (i + 1)).toList == [u]) = false := by rw [hcmp]; simpa using hc
              have Hc := Lib.hid hc
              clear hc hcmp
              go_wp2_with fail
              go_roundw
              case rel => exact ⟨i + 1, A', n', cp', false, rfl, by go_num, by omega, by simp, Lib.hid (by rw [htm.out]; simp [Hc.out, ← hb.out]), PR⟩
              case measure => simp [intOf]; omega
          · simp only [cond_true] at g0 hn' PR
            have hn0 : ¬ (n : Int) < 0 := by omega
            have e2 := Lib.hid (htm.out.2 (.inl (hb.out.1 rfl)))
            by_cases hc : s[i] = u
            · have hcmp' : ((s.extract i (i + 1)).toList == [u]) = true := by rw [hcmp]; simpa using hc
              clear hc hcmp
              go_wp2_with fail
              go_roundw
              case rel => exact ⟨i + 1, A', n', cp', true, rfl, by go_num, by omega, hn', Lib.hid ⟨fun _ => e2.out, fun _ => rfl⟩, PR⟩
              case measure => simp [intOf]; omega
            · have hcmp' : ((s.extract i (i + 1)).toList == [u]) = false := by rw [hcmp]; simpa using hc
              clear hc hcmp
              go_wp2_with fail
              go_roundw
              case rel => exact ⟨i + 1, A', n', cp', true, rfl, by go_num, by omega, hn', Lib.hid ⟨fun _ => e2.out, fun _ => rfl⟩, PR⟩
              case measure => simp [intOf]; omega
        · have htk := Lib.hid (show b = true ↔ u ∈ s.data.toList by rw [hb.out, List.take_of_length_le (by rw [byte_len]; omega)])
          go_wp2_with fail
          go_roundw
          case rel =>
            cases b
            · have Hm := Lib.hid (show ¬ u ∈ s.data.toList from fun q => by have := htk.out.2 q; cases this)
              have Hst2 := Lib.hid (show ksT s.data.toList (97 + ((k + 1 : Nat) : Int)) = ksT s.data.toList (97 + (k : Int)) by rw [Hst.out, if_neg Hm.out])
              refine ⟨k + 1, A', n', cp', at_.set k (-1), rfl, by go_num, by omega, by simp at hn'; omega, Lib.hid (by rw [Hst2.out, hnl.out]; simpa using hn'.symm), Lib.hid (by rw [Hst2.out]; have := PR.out; simpa using this), Lib.hid (by rw [List.length_set, hal.out]), Lib.hid (fun u' h1 h2 h3 => ?_)⟩
              by_cases hq : (u'.toNat : Int) < 97 + (k : Int)
              · rw [List.getD_eq_getElem?_getD, List.getElem?_set_ne (by simp [letB] at h1; omega), ← List.getD_eq_getElem?_getD]
                exact hat.out u' h1 hq h3
              · obtain rfl : u' = u := UInt8.toNat_inj.1 (by have := Hu.out; omega)
                exact absurd h3 Hm.out
            · have Hm := Lib.hid (htk.out.1 rfl)
              have Hst2 := Lib.hid (show ksT s.data.toList (97 + ((k + 1 : Nat) : Int)) = ksT s.data.toList (97 + (k : Int)) ++ [u] by rw [Hst.out, if_pos Hm.out])
              have hn4' : n + 1 ≤ 4 := by
                have h1 := ksT_le s.data.toList (97 + ((k + 1 : Nat) : Int))
                rw [Hst2.out, List.length_append, hnl.out] at h1; exact h1
              refine ⟨k + 1, A', n', cp', at_.set k (n : Int), rfl, by go_num, by omega, by simp at hn'; omega, Lib.hid (by rw [Hst2.out, List.length_append, hnl.out]; simpa using hn'.symm), Lib.hid (by rw [Hst2.out, List.map_append]; exact PR.out), Lib.hid (by rw [List.length_set, hal.out]), Lib.hid (fun u' h1 h2 h3 => ?_)⟩
              by_cases hq : (u'.toNat : Int) < 97 + (k : Int)
              · rw [List.getD_eq_getElem?_getD, List.getElem?_set_ne (by simp [letB] at h1; omega), ← List.getD_eq_getElem?_getD]
                exact hat.out u' h1 hq h3
              · obtain rfl : u' = u := UInt8.toNat_inj.1 (by have := Hu.out; omega)
                rw [show u'.toNat - 97 = k by have := Hu.out; omega, List.getD_eq_getElem?_getD, List.getElem?_set_self (by rw [hal.out]; exact hlt)]
                have h5 := hix.out Hm.out
                rw [Hu.out, hnl.out] at h5
                unfold atP
                rw [h5]; rfl
          case measure => simp [intOf]; omega
    · have hk5 : k = 4 := by omega
      have hK := ksT_last s.data.toList
      rw [hk5, show (97 : Int) + ((4 : Nat) : Int) = 101 from rfl, hK] at hnl P1
      clear hK hk5
      have Hat := Lib.hid (fun (j : Nat) (hj : j < s.size) => show at_.getD (s[j].toNat - 97) 0 = atP s.data.toList s[j] from hat.out s[j] (HL.out j hj) (by have := HL.out j hj; simp [letB] at this; omega) (List.mem_of_getElem? (at_byte s j hj)))
      clear hat
      have P2 := Lib.hid (show LsW w wr A n cp (lettersP s.data.toList) at_ from P1.out)
      have hll := Lib.hid (show (lettersP s.data.toList).length = n by rw [← hnl.out]; simp [lettersP])
      clear P1
      go_wp2_with fail
      refine named fun w5 H5 => ?_
      have P5 := Lib.hid (show LsW w w5 A n cp (lettersP s.data.toList) at_ by rw [H5.out]; exact P2.out.alloc _)
      have K5 := Lib.hid (show w5.ownsRow wr.heap.size 2 1 (.slice (some ⟨wr.heap.size, 0, none⟩) 0 0) 0 (([] : List Int).flatMap intE) by
        rw [H5.out]; exact World.ownsRow_made (base := wr.heap.size) (e := 2) (size := 1) wr #[] 0 (Nat.le_refl _) (by unfold maxLen; omega) rfl)
      have hwl : w.heap.size + 1 < wr.heap.size := P2.out.v.lt
      have hw5 : wr.heap.size ≤ w5.heap.size := by rw [H5.out]; simp
      clear H5 P2
      generalize wr.heap.size = L at *
      go_loopw [9, 10] (fun l_ i_ w' => ∃ (i : Nat) (B : Option Addr) (d : Nat) (ks : List Int), l_ = .slice B i d ∧ i_ = .int .i64 i ∧ i ≤ s.size ∧ Hid (ks.length = i) ∧ Hid (ks ++ (s.data.toList.drop i).map (atP s.data.toList) = numsP s.data.toList) ∧
        Hid (LsW w w' A n cp (lettersP s.data.toList) at_) ∧ Hid (w'.ownsRow L 2 1 (.slice B i d) i (ks.flatMap intE)) ∧ L ≤ w'.heap.size) (fun _ i_ _ => s.size - (intOf i_).toNat)
      case atStart => exact ⟨0, _, 0, [], rfl, rfl, by omega, Lib.hid rfl, Lib.hid (by simp [numsP]), P5, K5, hw5⟩
      case round =>
        obtain ⟨i, B, d, ks, rfl, rfl, hi, hkl, HE, PR, KR, hB⟩ := hrel
        by_cases hlt2 : i < s.size
        · have HE2 := Lib.hid (show (ks ++ [atP s.data.toList s[i]]) ++ (s.data.toList.drop (i + 1)).map (atP s.data.toList) = numsP s.data.toList by
            rw [← HE.out, drop_cons (at_byte s i hlt2), List.append_assoc]; rfl)
          have hlb := HL.out i hlt2
          have hat2 := Hat.out i hlt2
          obtain ⟨l0, l1⟩ := letB_num hlb
          have Hlb := Lib.hid hlb
          generalize atP s.data.toList s[i] = v at *
          generalize hcc : s[i] = cc at *
          obtain ⟨q, hq⟩ : ∃ q : Nat, cc.toNat = 97 + q := ⟨cc.toNat - 97, by omega⟩
          have hq4 : q < 4 := by omega
          have hq0 : (0 : Int) ≤ (q : Int) := by omega
          have hq1 : (q : Int) < 4 := by omega
          have j0 : (0 : Int) ≤ (i : Int) := by omega
          have j1 : (i : Int) < (s.size : Int) := by omega
          have LL := Lib.hid (fun W => show Calls Try.prog 54 #[.int .u8 (cc.toNat : Int)] W (Ret (.int .i64 (q : Int)) W) by
            have h := l04Letter_any cc Hlb.out W
            rw [show (cc.toNat : Int) - 97 = (q : Int) by omega] at h; exact h)
          have Hv := Lib.hid (show at_.getD q 0 = v by rw [← hat2]; congr 1; omega)
          clear hlb hat2 hq l0 l1
          go_upto_region 18 with fail
          go_wp2_with
            (first
              | (go_at_call 54
                 refine (LL.out _).mono ?_
                 rintro e w6 ⟨rfl, hb6⟩
                 have P6 := Lib.hid (PR.out.next hb6)
                 have K6 := Lib.hid (own_next KR.out hb6)
                 have hL6 : L ≤ w6.heap.size := Nat.le_trans hB hb6.size
                 have v6 := P6.out.v.cell q
                 rw [intA_at at_ (by rw [hal.out]; exact hq4), Hv.out] at v6
                 have vl6 := P6.out.v.lt
                 have P7 := Lib.hid (P6.out.alloc (.cells #[.int .i64 v] 2))
                 have K7 := Lib.hid (K6.out.alloc (.cells #[.int .i64 v] 2)))
              | (at_builtin; refine stopW ?_))
          unfold Stop
          refine wpList_app rfl _ _ _ rfl L 2 1 8 elem_int intE B i d ks rfl K7.out ⟨w6.heap.size, 0, none⟩ 1 1 [v] rfl rfl (by omega) (news1i (Blk.new w6 2 #[.int .i64 v])) (fun _ _ => rfl) (by simp [intE, Value.oneCell']) (by omega) (by omega) (by unfold maxLen; omega) (by simp; omega) ?_
          intro A8 c8 w8 own8 hg8 hat8
          have P8 := Lib.hid (show LsW w w8 A n cp (lettersP s.data.toList) at_ from ⟨P7.out.q.kept hg8 (own_ne P7.out.q K7.out (by decide)), P7.out.v.grown hg8 (fun e => by have := own_ge K7.out _ e.symm; omega), P7.out.e.grown hg8 P7.out.e.size (fun k hk => by have := own_ge K7.out k hk; omega)⟩)
          have K8 := Lib.hid own8
          have hL8 : L ≤ w8.heap.size := by have h4 := hg8.4; simp only [World.alloc, Array.size_push] at h4; omega
          clear own8 hg8 hat8
          go_wp2_with fail
          go_roundw
          case rel => exact ⟨i + 1, A8, c8, ks ++ [v], rfl, by go_num, by omega, Lib.hid (by rw [List.length_append, hkl.out]; rfl), HE2, P8, K8, hL8⟩
          case measure => simp [intOf]; omega
        · have e := Lib.hid (show numsP s.data.toList = ks by rw [← HE.out, List.drop_of_length_le (by rw [byte_len]; omega)]; simp)
          go_wp2_with fail
          go_ret2
          exact ⟨A, cp, B, d, by rw [hll.out, e.out, hkl.out]; rfl, by rw [hll.out]; exact PR.out.q, by rw [e.out, hkl.out]; exact KR.out.mono (by omega), PR.out.e⟩
end Go.Proofs.Ytikhjoianbndhaa
