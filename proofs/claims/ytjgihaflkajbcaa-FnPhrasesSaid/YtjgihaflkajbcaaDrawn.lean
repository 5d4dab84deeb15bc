/-
  The draw of a plain word: its letters are right, and it is not too long.
-/
import Derived.Test.YtjgihaflkajbcaaSrc
namespace Go.Proofs.Ytjgihaflkajbcaa
open Go.RowKit

theorem elem_byte : Elem Try.prog 22 5 1 1 := Elem.mk' (z := .int .u8 0) Try.underlying22 (by kernel_rfl) rfl
/-- what the draw of a word leaves -/
def StrDraw (w : World) (g K : Nat) (most : Int) (e : Ending) (w' : World) : Prop :=
  ∃ s : ByteArray, e = .returned (.string s) ∧ (s.size : Int) ≤ most ∧ s.data.toList.all letB = true ∧ Src w' g K ∧ w.grownBy w' (some g)
theorem byteE_of {v : Int} (h0 : 0 ≤ v) (h1 : v < 4) : #[Value.int .u8 (97 + v)].toList = byteE (UInt8.ofNat (97 + v.toNat)) ∧ letB (UInt8.ofNat (97 + v.toNat)) = true := by
  obtain ⟨j, rfl⟩ := Int.eq_ofNat_of_zero_le h0
  have e : (UInt8.ofNat (97 + j)).toNat = 97 + j := by rw [UInt8.toNat_ofNat']; omega
  constructor
  · simp only [byteE, Int.toNat_natCast, e]; simp
  · simp only [letB, Int.toNat_natCast, e]; simp; omega

theorem conv_own {w : World} {base n c : Nat} {A : Option Addr} {bs : List UInt8} (h : w.ownsRow base 5 1 (.slice A n c) n (bs.flatMap byteE)) (hl : bs.length = n) :
    (convert 22 9 (.slice A n c)).run Try.prog w = .ok (.string ⟨bs.toArray⟩) w := by
  subst hl
  cases A with
  | some a =>
    refine run_convert_bytes_back (P := Try.prog) w _ _ 5 a c bs Try.underlying22 Try.underlying5 Try.underlying9 fun j hj => ?_
    obtain ⟨g, cap, hv, _, _⟩ := h.form (by omega)
    obtain rfl := Option.some.inj (show some a = some ⟨g, 0, none⟩ from by injection hv)
    have := h.cells (g := g) rfl j _ (by
      have := flat_at (enc := byteE) (sz := 1) bs (fun _ _ => rfl) j _ (List.getElem?_eq_getElem hj) 0 (by omega)
      rw [Nat.mul_one, Nat.add_zero] at this
      rw [this]; rfl)
    simpa using this
  | none =>
    rcases h.2 with ⟨h1, h2⟩ | ⟨g, cap, cur, hv, _⟩
    · obtain rfl : bs = [] := List.eq_nil_of_length_eq_zero (by omega)
      rw [run_convert_bytes_string w _ _ 5 none _ c Try.underlying22 Try.underlying5 Try.underlying9]
      simp [Conv.bytesToString, go_sem]
      rfl
    · cases hv
theorem ext_let {s : ByteArray} (h : s.data.toList.all letB = true) (i j : Nat) : (s.extract i j).data.toList.all letB = true := by
  rw [ByteArray.data_extract, Array.toList_extract]
  rw [List.all_eq_true] at *
  intro x hx
  exact h x (List.mem_of_mem_drop (List.mem_of_mem_take hx))
set_option maxHeartbeats 1000000 in
set_option maxRecDepth 100000 in
theorem l01Drawn_any (g K : Nat) (most : Int) (w : World) (h : Src w g K) (hK : K ≤ 10000000) (hm0 : 0 ≤ most) (hm : most ≤ 100000) :
    Calls Try.prog 33 #[.pointer (some ⟨g, 0, none⟩), .int .i64 most] w (StrDraw w g (K + 1000000) most) := by
  have hg := h.lt
  go_enter Try.func33, Try.ntmps33
  go_wp2_with fail
  refine (pick_any g K 3 3 _ h (by omega) (by omega) (by omega)).mono ?_
  rintro e w1 ⟨v, rfl, v0, v1, s1, g1⟩
  go_wp2_with fail
  have g1' := gb_trans g1 (World.grownBy_alloc w1 (.cells #[] 5) _)
  refine (pick_any g (K + 2) (most + 1) (most + 1) _ (s1.grown (World.grownBy_alloc w1 (.cells #[] 5) none) (fun k e => by cases e)) (by omega) (by omega) (by omega)).mono ?_
  rintro e w2 ⟨k, rfl, k0, k1, s2, g2⟩
  have g2' := Lib.hid (gb_trans g1' g2)
  have own2 := Lib.hid (own_kept (by simpa using World.ownsRow_made (base := w.heap.size) (e := 5) (size := 1) w1 #[] 0 (by have := g1.size; omega) (by unfold maxLen; omega) rfl) g2 hg)
  have S2 := Lib.hid s2
  clear s2 g2 g1' g1 s1 h
  go_wp2_with fail
  go_loopw [6, 7] (fun o_ k_ w' => ∃ (z : Int) (out : List UInt8) (A : Option Addr) (n c : Nat), k_ = .int .i64 z ∧ o_ = .slice A n c ∧ 0 ≤ z ∧ (n : Int) + z ≤ most ∧ Hid (out.length = n) ∧
      Hid (w'.ownsRow w.heap.size 5 1 (.slice A n c) n (out.flatMap byteE)) ∧ Hid (out.all letB = true) ∧ Hid (Src w' g (K + 4 + 2 * n)) ∧ Hid (w.grownBy w' (some g))) (fun _ k_ _ => (intOf k_).toNat)
  case atStart => exact ⟨k, [], _, 0, 0, rfl, rfl, k0, by omega, Lib.hid rfl, own2, Lib.hid rfl, S2, g2'⟩
  case round =>
    obtain ⟨z, out, A, n, c, rfl, rfl, hz0, hz1, ho, hown, hlet, hs, hgr⟩ := hrel
    by_cases hlt : 0 < z
    · go_wp2_with fail
      refine (pick_any g (K + 4 + 2 * n) (1 + v) 3 _ hs.out (by omega) (by omega) (by omega)).mono ?_
      rintro e w3 ⟨u, rfl, u0, u1, s3, g3⟩
      obtain ⟨hb1, hb2⟩ := byteE_of u0 (show u < 4 by omega)
      have Hb1 := Lib.hid hb1; have Hb2 := Lib.hid hb2; clear hb1 hb2
      have own3 := Lib.hid (own_kept hown.out g3 hg)
      have gr3 := Lib.hid (gb_trans hgr.out g3)
      have sz3 := gr3.out.size
      have S3 := Lib.hid s3; clear s3
      have G3 := Lib.hid g3; clear g3
      go_wp2_with
        (at_builtin
         refine wpList_pushG rfl _ _ _ rfl w.heap.size 5 1 1 elem_byte byteE A n c out rfl (own3.out.alloc _) w3.heap.size (UInt8.ofNat (97 + u.toNat)) #[.int .u8 (97 + u)] 5 (0, 0) rfl (heap_alloc_new _ _) Hb1.out rfl (by simp [byteE, Value.oneCell']) (by omega) (by omega) (by unfold maxLen; omega) (by simp; omega) ?_
         intro A' c' w4 own4 hg4 hat4
         have Own4 := Lib.hid own4; clear own4
         have Gr4 := Lib.hid (gb_weak' (gb_trans gr3.out (World.grownBy_alloc _ _ _)) hg4 (own_ge own3.out))
         have S4 := Lib.hid ((S3.out.grown (World.grownBy_alloc _ _ none) (fun k e => by cases e)).grown hg4 (fun k e => by have := own_ge own3.out k e; omega))
         clear hat4 hg4)
      go_roundw
      case rel => exact ⟨z - 1, out ++ [UInt8.ofNat (97 + u.toNat)], A', n + 1, c', by go_num, rfl, by omega, by omega, Lib.hid (by rw [List.length_append, ho.out]; rfl), Own4, Lib.hid (by rw [List.all_append, hlet.out]; simpa using Hb2.out), Lib.hid (S4.out.mono (by omega)), Gr4⟩
      case measure => simp [intOf]; omega
    · have hcv := conv_own hown.out ho.out
      go_wp2_with fail
      refine (one_any g (K + 4 + 2 * n) 3 _ hs.out (by omega) (by omega)).mono ?_
      rintro e w3 ⟨b, rfl, s3, g3⟩
      have gr3 := Lib.hid (gb_trans hgr.out g3)
      have S3 := Lib.hid s3; clear s3 g3
      have hsz : (⟨out.toArray⟩ : ByteArray).size = n := by rw [← ho.out]; simp [ByteArray.size]
      have Hlet : Hid ((⟨out.toArray⟩ : ByteArray).data.toList.all letB = true) := by simpa using hlet
      generalize (⟨out.toArray⟩ : ByteArray) = s at *
      have hs1 : s.size ≤ n := by omega
      have hs2 : n ≤ s.size := by omega
      clear hsz
      by_cases hn0 : s.size = 0
      · cases b
        all_goals
          go_wp2_with fail
          go_ret
          exact ⟨s, rfl, by omega, Hlet.out, S3.out.mono (by omega), gr3.out⟩
      cases b
      · go_wp2_with fail
        go_ret
        exact ⟨s, rfl, by omega, Hlet.out, S3.out.mono (by omega), gr3.out⟩
      have hn1 : 0 < s.size := by omega
      clear hn0
      go_wp2_with fail
      refine (pick_any g (K + 4 + 2 * n + 2) s.size s.size _ S3.out (by omega) (by omega) (by omega)).mono ?_
      rintro e w4 ⟨p, rfl, p0, p1, s4, g4⟩
      have gr4 := Lib.hid (gb_trans gr3.out g4)
      have S4 := Lib.hid s4; clear s4 g4 gr3 S3 hown hs hgr own2 S2 g2' ho hlet hcv
      have hex := Lib.hid (ext_let Hlet.out 0 (1 + p).toNat)
      have hes : (s.extract 0 (1 + p).toNat).size = min (1 + p).toNat s.size - 0 := ByteArray.size_extract
      have he1 : (s.extract 0 (1 + p).toNat).size ≤ s.size := by omega
      have he2 : 0 < (s.extract 0 (1 + p).toNat).size := by omega
      go_wp2_with fail
      go_loopw [9] (fun r_ w' => ∃ r : ByteArray, r_ = .string r ∧ 0 < r.size ∧ r.size ≤ 200000 ∧ Hid (r.data.toList.all letB = true) ∧ Hid (Src w' g (K + 8 + 2 * n + 2 * r.size)) ∧ Hid (w.grownBy w' (some g))) (fun r_ _ => most.toNat - strLen r_)
      case atStart => exact ⟨_, rfl, he2, by omega, hex, Lib.hid (S4.out.mono (by omega)), gr4⟩
      case round =>
        obtain ⟨r, rfl, hr0, hr1, hrl, hrs, hrg⟩ := hrel
        clear he1 he2 hes hex gr4 S4
        by_cases hlt2 : (r.size : Int) < most
        · go_wp2_with fail
          refine (one_any g (K + 8 + 2 * n + 2 * r.size) 2 _ hrs.out (by omega) (by omega)).mono ?_
          rintro e w5 ⟨b, rfl, s5, g5⟩
          have gr5 := Lib.hid (gb_trans hrg.out g5)
          have S5 := Lib.hid s5; clear s5 g5
          cases b
          · have hle : decide ((r.size : Int) ≤ most) = true := decide_eq_true (by omega)
            go_wp2_with fail
            go_ret
            exact ⟨r, rfl, by omega, hrl.out, S5.out.mono (by omega), gr5.out⟩
          · have hrr : (r ++ r).size = r.size + r.size := ByteArray.size_append
            have hl2 := Lib.hid (show (r ++ r).data.toList.all letB = true by rw [ByteArray.data_append, Array.toList_append, List.all_append, hrl.out]; rfl)
            have Hrr := Lib.hid hrr; clear hrr
            go_wp2_with fail
            go_roundw
            case rel => exact ⟨r ++ r, rfl, by rw [Hrr.out]; omega, by rw [Hrr.out]; omega, hl2, Lib.hid (S5.out.mono (by rw [Hrr.out]; omega)), gr5⟩
            case measure => simp [strLen]; omega
        · by_cases hle : (r.size : Int) ≤ most
          · go_wp2_with fail
            go_ret
            exact ⟨r, rfl, by omega, hrl.out, hrs.out.mono (by omega), hrg.out⟩
          · go_wp2_with fail
            go_ret
            exact ⟨s, rfl, by omega, Hlet.out, hrs.out.mono (by omega), hrg.out⟩
end Go.Proofs.Ytjgihaflkajbcaa
