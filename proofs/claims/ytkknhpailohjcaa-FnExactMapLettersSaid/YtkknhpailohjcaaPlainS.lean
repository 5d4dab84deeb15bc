/-
  The grammar of a plain word in the reference.
-/
import Derived.Test.YtkknhpailohjcaaPlainP
import Derived.Test.YtkknhpailohjcaaFound
import Derived.Test.YtkknhpailohjcaaTrimO
namespace Go.Proofs.Ytkknhpailohjcaa
open Go.RowKit

theorem fnd_one (u : UInt8) (s : ByteArray) : 0 < (fndL ⟨#[u]⟩ s).length ↔ u ∈ s.data.toList := by
  unfold fndL fndT
  rw [List.length_map, List.length_pos_iff_exists_mem]
  constructor
  · rintro ⟨i, hi⟩
    rw [List.mem_filter] at hi
    have h1 : i < s.size := by have := List.mem_range.1 hi.1; have : (⟨#[u]⟩ : ByteArray).size = 1 := rfl; omega
    have h2 : s.extract i (i + 1) = ⟨#[u]⟩ := of_decide_eq_true hi.2
    have h3 : (s.extract i (i + 1)).data.toList = [u] := by rw [h2]
    rw [ByteArray.data_extract, Array.toList_extract, List.extract_eq_take_drop, drop_cons (at_byte s i h1)] at h3
    simp only [Nat.add_sub_cancel_left, List.take_succ_cons, List.take_zero] at h3
    injection h3 with h4
    rw [← h4]; exact List.mem_of_getElem? (at_byte s i h1)
  · intro h
    obtain ⟨i, hi, he⟩ := List.mem_iff_getElem.1 h
    have hi' : i < s.size := by rw [byte_len] at hi; exact hi
    refine ⟨i, List.mem_filter.2 ⟨List.mem_range.2 ?_, decide_eq_true ?_⟩⟩
    · show i < s.size + 1 - 1; omega
    · show s.extract i (i + 1) = _
      apply ByteArray.ext
      rw [ByteArray.data_extract]
      apply Array.ext'
      rw [Array.toList_extract, List.extract_eq_take_drop, drop_cons (at_byte s i hi')]
      simp only [Nat.add_sub_cancel_left, List.take_succ_cons, List.take_zero]
      congr 1
theorem idx_ks (w : List UInt8) (u : UInt8) (h : letB u = true) (hm : u ∈ w) : (ksP w).idxOf u = (ksT w u.toNat).length := by
  have h : (97 : Int) ≤ u.toNat ∧ (u.toNat : Int) ≤ 100 := by simpa [letB] using h
  have h4 : u = 97 ∨ u = 98 ∨ u = 99 ∨ u = 100 := by
    simp only [← UInt8.toNat_inj]
    have : u.toNat = 97 ∨ u.toNat = 98 ∨ u.toNat = 99 ∨ u.toNat = 100 := by omega
    exact this
  unfold ksT ksP
  rcases h4 with rfl | rfl | rfl | rfl
  all_goals
    by_cases h1 : (97 : UInt8) ∈ w <;> by_cases h2 : (98 : UInt8) ∈ w <;> by_cases h3 : (99 : UInt8) ∈ w <;> by_cases h4 : (100 : UInt8) ∈ w <;> simp_all [List.idxOf_cons]

/-- 'l02Plain' under way -/
structure PsW (w W : World) (A : Option Addr) (n c : Nat) (rs : List Fac) (at_ : List Int) : Prop where
  q : W.ownsRow w.heap.size 75 3 (.slice A n c) n (rs.flatMap Fac.cells)
  o : Blk W w.heap.size 31 #[.slice none 0 0]
  g : Blk W (w.heap.size + 1) 31 #[.slice A n c]
  v : Blk W (w.heap.size + 2) 2 (intA at_)
  e : Below w.heap.size w W
section
variable {w W W' : World} {A : Option Addr} {n c : Nat} {rs : List Fac} {at_ : List Int}
theorem PsW.next (h : PsW w W A n c rs at_) (hb : Below W.heap.size W W') : PsW w W' A n c rs at_ :=
  ⟨own_next h.q hb, h.o.next hb, h.g.next hb, h.v.next hb, h.e.trans (hb.mono h.e.size)⟩
theorem PsW.alloc (h : PsW w W A n c rs at_) (o : Obj) : PsW w (W.alloc o) A n c rs at_ := h.next ((Below.refl _ _).alloc (Nat.le_refl _) _)
theorem PsW.push {A8 : Option Addr} {k8 c8 : Nat} {rs' : List Fac} (h : PsW w W A n c rs at_) (hq : W'.ownsRow w.heap.size 75 3 (.slice A8 k8 c8) k8 (rs'.flatMap Fac.cells)) (hg : W.grownBy W' (Value.slice A n c).ownBlock) :
    PsW w (W'.setCell ⟨w.heap.size + 1, 0, none⟩ (.slice A8 k8 c8)) A8 k8 c8 rs' at_ := by
  have ho' := h.o.grown hg (own_blk_ne h.q h.o (by decide))
  have hg' := h.g.grown hg (own_blk_ne h.q h.g (by decide))
  have hv' := h.v.grown hg (own_blk_ne h.q h.v (by decide))
  have he' := h.e.grown hg h.e.size (own_ge h.q)
  have hg2 := gb_set W' (w.heap.size + 1) 0 (.slice A8 k8 c8)
  exact ⟨own_kept' hq hg' (by decide) _, ho'.grown hg2 (by intro e; injection e with e; omega), hg'.set_ 0 _, hv'.grown hg2 (by intro e; injection e with e; omega), he'.setCell (by simp) _⟩
theorem PsW.tell (h : PsW w W A n c rs at_) (i : Nat) (z : Int) : PsW w (W.setCell ⟨w.heap.size + 2, i, none⟩ (.int .i64 z)) A n c rs (at_.set i z) := by
  have hg2 := gb_set W (w.heap.size + 2) i (.int .i64 z)
  have := h.v.set_ i (.int .i64 z)
  rw [intA_set] at this
  exact ⟨own_kept' h.q h.v (by decide) _, h.o.grown hg2 (by intro e; injection e with e; omega), h.g.grown hg2 (by intro e; injection e with e; omega), this, h.e.setCell (by simp) _⟩
end
set_option maxHeartbeats 4000000 in
set_option maxRecDepth 100000 in
theorem l02Plain_any (s : ByteArray) (w : World) (ho : okW s = true) : Calls Try.prog 74 #[.string s] w (RetG w (plainL s.data.toList)) := by
  have hs := okW_size ho
  have HL := Lib.hid (fun (i : Nat) (hi : i < s.size) => okW_at ho hi)
  have mkN := fun W => show (Instr.makeSlice 26 (.int .i64 4) (.int .i64 4)).run Try.prog W = .ok (.slice (some ⟨W.heap.size, 0, none⟩) 4 4) (W.alloc (.cells (intA (List.replicate 4 0)) 2)) from makeN 4 W (by omega)
  clear ho
  go_enter Try.func74, Try.ntmps74
  go_wp2_with fail
  refine named fun w0 H0 => ?_
  have P0 := Lib.hid (show PsW w w0 none 0 0 [] (List.replicate 4 0) by
    rw [H0.out]
    refine ⟨World.ownsRow_nil _ _ _ _, ?_, ?_, ?_, by (repeat first | exact Below.refl _ _ | assumption | refine Below.drew ?_ | refine Below.alloc ?_ (by first | exact Nat.le_refl _ | (simp; done) | omega | (simp; omega)) _ | refine Below.setCell ?_ (by first | exact Nat.le_refl _ | (simp; done) | omega | (simp; omega)) _)⟩
    · exact ((Blk.new w _ _).alloc _).alloc _
    · simpa using (Blk.new (w.alloc (.cells #[.slice none 0 0] 31)) 31 #[.slice none 0 0]).alloc _
    · simpa using Blk.new ((w.alloc (.cells #[.slice none 0 0] 31)).alloc (.cells #[.slice none 0 0] 31)) 2 (intA (List.replicate 4 0)))
  clear H0 mkN
  go_loopw [5] (fun c_ w' => ∃ (k : Nat) (A : Option Addr) (n cp : Nat) (at_ : List Int), c_ = .int .i64 k ∧ k ≤ 4 ∧ n ≤ 4 ∧ Hid ((ksT s.data.toList (97 + k)).length = n) ∧ Hid (PsW w w' A n cp ((ksT s.data.toList (97 + k)).map ruleC) at_) ∧
    Hid (at_.length = 4) ∧ Hid (∀ u : UInt8, letB u = true → (u.toNat : Int) < 97 + k → u ∈ s.data.toList → at_.getD (u.toNat - 97) 0 = atP s.data.toList u)) (fun c_ _ => (4 - intOf c_).toNat)
  case atStart => exact ⟨0, none, 0, 0, _, rfl, by omega, by omega, Lib.hid (by rw [show (97 : Int) + ((0 : Nat) : Int) = 97 from rfl, ksT_first]; rfl), by rw [show (97 : Int) + ((0 : Nat) : Int) = 97 from rfl, ksT_first]; exact P0, Lib.hid rfl, Lib.hid (fun u h1 h2 => by simp [letB] at h1; omega)⟩
  case round =>
    obtain ⟨k, A, n, cp, at_, rfl, hk4, hn4, hnl, P1, hal, hat⟩ := hrel
    by_cases hlt : k < 4
    · obtain ⟨u, hu⟩ : ∃ u : UInt8, u.toNat = 97 + k := ⟨UInt8.ofNat (97 + k), by simp; omega⟩
      have hlb : letB u = true := by simp [letB]; omega
      have hu' : (u.toNat : Int) = 97 + k := by omega
      have Hst0 := ksT_step s.data.toList u hlb
      rw [hu', show (97 : Int) + (k : Int) + 1 = 97 + ((k + 1 : Nat) : Int) by omega] at Hst0
      have Hst := Lib.hid Hst0
      have Hu := Lib.hid hu'
      have hcv := conv_letter (wr.alloc (.cells #[.int .u8 (97 + (k : Int))] 5)) wr.heap.size 1 u (by rw [hu']; simp)
      have P2 := Lib.hid (P1.out.alloc (.cells #[.int .u8 (97 + (k : Int))] 5))
      have HF := Lib.hid (fun W => l01Found_any ⟨#[u]⟩ s W (by show (1 : Nat) ≤ _; omega) (by omega))
      have hf1 := Lib.hid (fnd_one u s)
      have hlb' := Lib.hid hlb
      have hix := Lib.hid (idx_ks s.data.toList u hlb)
      clear Hst0 hu' hlb hu
      go_wp2_with fail
      refine (HF.out _).mono ?_
      rintro e w3 ⟨A3, c3, rfl, own3, hb3⟩
      have hlz := Lib.hid hb3.size
      have P3 := Lib.hid (P2.out.next hb3)
      have hl3 := fndT_len ⟨#[u]⟩ s (s.size + 1 - 1)
      have hl3' : (fndL ⟨#[u]⟩ s).length ≤ 2000 := by
        have : (fndL ⟨#[u]⟩ s).length ≤ s.size + 1 - 1 := fndT_len ⟨#[u]⟩ s (s.size + 1 - 1)
        omega
      generalize (fndL ⟨#[u]⟩ s).length = fl at *
      clear hl3 own3 hb3
      by_cases hz : 0 < fl
      · have hm := hf1.out.1 hz
        have Hm := Lib.hid hm
        have Hst2 := Lib.hid (show ksT s.data.toList (97 + ((k + 1 : Nat) : Int)) = ksT s.data.toList (97 + (k : Int)) ++ [u] by rw [Hst.out, if_pos hm])
        have hn4' : n + 1 ≤ 4 := by
          have h1 := ksT_le s.data.toList (97 + ((k + 1 : Nat) : Int))
          rw [Hst2.out, List.length_append, hnl.out] at h1; exact h1
        have d0 := P3.out.g.cell 0
        have l0 := P3.out.g.lt
        have v0 := P3.out.v.cell k
        rw [intA_at at_ (by rw [hal.out]; exact hlt)] at v0
        have vf := P3.out.v.frozen
        have P4 := Lib.hid (P3.out.tell k (n : Int))
        have d4 := P4.out.g.cell 0
        have l4 := P4.out.g.lt
        have P5 := Lib.hid (P4.out.alloc (.cells #[.string ⟨#[u]⟩, .int .i64 0, .int .i64 0] 75))
        have BN0 := Blk.new (w3.setCell ⟨w.heap.size + 2, k, none⟩ (.int .i64 (n : Int))) 75 #[.string (ruleC u).l, .int .i64 (ruleC u).a, .int .i64 (ruleC u).b]
        have sz4 : (w3.setCell ⟨w.heap.size + 2, k, none⟩ (.int .i64 (n : Int))).heap.size = w3.heap.size := by simp
        rw [sz4] at BN0
        have BN := Lib.hid BN0
        have i0 : (0 : Int) ≤ (k : Int) := by omega
        have i1 : (k : Int) < 4 := by omega
        clear hm BN0 sz4
        go_wp2_with
          (at_builtin
           refine wpList_app rfl _ _ _ rfl w.heap.size 75 3 32 elem_rule Fac.cells A n cp ((ksT s.data.toList (97 + (k : Int))).map ruleC) rfl P5.out.q ⟨w3.heap.size, 0, none⟩ 1 1 [ruleC u] rfl rfl (by omega) (news1 (y := ruleC u) BN.out) (fun x _ => fac_len x) (fun x _ => one_fac x) (by omega) (by omega) (by unfold maxLen; omega) P5.out.e.size ?_
           intro A9 c9 w9 own9 hg9 hat9
           have P6 := Lib.hid (P5.out.push own9 hg9)
           have G6 := P5.out.g.grown hg9 (own_blk_ne P5.out.q P5.out.g (by decide))
           have f9 := G6.frozen
           have d9 := G6.cell 0
           have l9 := G6.lt
           clear own9 G6)
        go_roundw
        case rel =>
          refine ⟨k + 1, A9, n + 1, c9, at_.set k (n : Int), by go_num, by omega, hn4', Lib.hid (by rw [Hst2.out, List.length_append, hnl.out]; rfl), Lib.hid (by rw [Hst2.out, List.map_append]; exact P6.out), Lib.hid (by rw [List.length_set, hal.out]), Lib.hid (fun u' h1 h2 h3 => ?_)⟩
          by_cases hq : (u'.toNat : Int) < 97 + (k : Int)
          · rw [List.getD_eq_getElem?_getD, List.getElem?_set_ne (by simp [letB] at h1; omega), ← List.getD_eq_getElem?_getD]
            exact hat.out u' h1 hq h3
          · obtain rfl : u' = u := UInt8.toNat_inj.1 (by have := Hu.out; omega)
            rw [show u'.toNat - 97 = k by have := Hu.out; omega, List.getD_eq_getElem?_getD, List.getElem?_set_self (by rw [hal.out]; exact hlt)]
            have h5 := hix.out Hm.out
            rw [Hu.out, hnl.out] at h5
            unfold atP
            rw [h5]; rfl
        case measure => simp [intOf]; omega
      · have Hm := Lib.hid (fun h => hz (hf1.out.2 h))
        have Hst2 := Lib.hid (show ksT s.data.toList (97 + ((k + 1 : Nat) : Int)) = ksT s.data.toList (97 + (k : Int)) by rw [Hst.out, if_neg Hm.out])
        obtain rfl : fl = 0 := by omega
        go_wp2_with fail
        go_roundw
        case rel =>
          refine ⟨k + 1, A, n, cp, at_, by go_num, by omega, hn4, by rw [Hst2.out]; exact hnl, by rw [Hst2.out]; exact P3, hal, Lib.hid (fun u' h1 h2 h3 => ?_)⟩
          by_cases hq : (u'.toNat : Int) < 97 + (k : Int)
          · exact hat.out u' h1 hq h3
          · obtain rfl : u' = u := UInt8.toNat_inj.1 (by have := Hu.out; omega)
            exact absurd h3 Hm.out
        case measure => simp [intOf]; omega
    · have hk5 : k = 4 := by omega
      have hK := ksT_last s.data.toList
      rw [hk5, show (97 : Int) + ((4 : Nat) : Int) = 101 from rfl, hK] at hnl P1
      clear hK hk5
      have Hat := Lib.hid (fun (j : Nat) (hj : j < s.size) => show at_.getD (s[j].toNat - 97) 0 = atP s.data.toList s[j] from hat.out s[j] (HL.out j hj) (by have := HL.out j hj; simp [letB] at this; omega) (List.mem_of_getElem? (at_byte s j hj)))
      clear hat
      have P2 := Lib.hid (show PsW w wr A n cp (lettersP s.data.toList) at_ from P1.out)
      have hll := Lib.hid (show (lettersP s.data.toList).length = n by rw [← hnl.out]; simp [lettersP])
      clear P1
      obtain ⟨bf0, hbf0, hpl0⟩ : ∃ bf : Int, ((∀ h : 0 < s.size, bf = atP s.data.toList s[0]) ∧ (s.size = 0 → bf = 0)) ∧ lettersP s.data.toList ++ pairsP s.data.toList (s.data.toList.drop 1) bf n = plainL s.data.toList := by
        by_cases h0 : 0 < s.size
        · refine ⟨atP s.data.toList s[0], ⟨fun _ => rfl, fun h => by omega⟩, ?_⟩
          have := drop_cons (at_byte s 0 h0)
          rw [List.drop_zero] at this
          generalize hq : s.data.toList.drop (0 + 1) = q at this
          unfold plainL
          rw [← hnl.out]
          split
          · rename_i h; rw [h] at this; cases this
          · rename_i c cs h
            have h2 := h.symm.trans this
            injection h2 with h3 h4
            rw [← h3, ← h4]
        · refine ⟨0, ⟨fun h => absurd h h0, fun _ => rfl⟩, ?_⟩
          have : s.data.toList = [] := List.eq_nil_of_length_eq_zero (by rw [byte_len]; omega)
          rw [this]; rfl
      have hk6 : ¬ (k : Int) < 4 := by omega
      clear hlt
      go_wp2_with fail
      clear hk6
      go_loopw [7] (fun i_ w' => ∃ (i : Nat) (A' : Option Addr) (n' cp' : Nat) (rs : List Fac) (bf : Int), i_ = .int .i64 i ∧ 1 ≤ i ∧ (i ≤ s.size ∨ i = 1) ∧ Hid (n' + 1 = n + i) ∧ Hid (rs.length = n') ∧
        Hid (PsW w w' A' n' cp' rs at_) ∧ Hid ((i = 1 → ∀ h : 0 < s.size, bf = atP s.data.toList s[0]) ∧ (i ≠ 1 → bf = (n' : Int) - 1)) ∧ Hid (rs ++ pairsP s.data.toList (s.data.toList.drop i) bf n' = plainL s.data.toList)) (fun i_ _ => s.size - (intOf i_).toNat)
      case atStart =>
        exact ⟨1, A, n, cp, _, bf0, rfl, by omega, by omega, Lib.hid rfl, hll, P2, Lib.hid ⟨fun _ h => hbf0.1 h, fun h => absurd rfl h⟩, Lib.hid hpl0⟩
      case round =>
        obtain ⟨i, A', n', cp', rs, bf, rfl, hi1, hi2, hn', hrl, PR, hbf, HQ⟩ := hrel
        have g1 := PR.out.g.cell 0
        have lg1 := PR.out.g.lt
        have o1 := PR.out.o.cell 0
        have f1 := PR.out.o.frozen
        by_cases hlt : i < s.size
        · clear hk4
          have hlb := HL.out i hlt
          have hlb0 := HL.out 0 (by omega)
          have hb1 : (97 : Int) ≤ s[i].toNat ∧ (s[i].toNat : Int) ≤ 100 := by simpa [letB] using hlb
          have hb0 : (97 : Int) ≤ s[0].toNat ∧ (s[0].toNat : Int) ≤ 100 := by simpa [letB] using hlb0
          have hat0 := atP_lt (List.mem_of_getElem? (at_byte s 0 (by omega))) hlb0
          have hati := atP_lt (List.mem_of_getElem? (at_byte s i hlt)) hlb
          have hkl : (ksP s.data.toList).length = n := hnl.out
          rw [hkl] at hat0 hati
          have hn1' : 1 ≤ n' := by have := hn'.out; omega
          have hn2' : n' ≤ 2010 := by have := hn'.out; omega
          have c0 := PR.out.v.cell (s[0].toNat - 97)
          rw [intA_at at_ (by rw [hal.out]; omega), Hat.out 0 (by omega)] at c0
          have c1 := PR.out.v.cell (s[i].toNat - 97)
          rw [intA_at at_ (by rw [hal.out]; omega), Hat.out i hlt] at c1
          have hstep := Lib.hid (show (rs ++ [⟨⟨#[]⟩, bf, atP s.data.toList s[i]⟩]) ++ pairsP s.data.toList (s.data.toList.drop (i + 1)) ((n' : Int)) (n' + 1) = plainL s.data.toList by
            rw [← HQ.out, drop_cons (at_byte s i hlt), List.append_assoc]; rfl)
          have Hbf := Lib.hid hbf.out
          have hbb : -1 ≤ bf ∧ bf ≤ 2010 := by
            by_cases h1 : i = 1
            · have := hbf.out.1 h1 (by omega); omega
            · have := hbf.out.2 h1; omega
          have hv := Lib.hid hati
          clear hkl hlb hlb0
          go_upto_if 49 with (fail)
          go_cut [8] (fun b_ wx => b_ = .int .i64 bf ∧ Hid (PsW w wx A' n' cp' rs at_))
          case first =>
            by_cases h1 : i = 1
            · subst h1
              have hb1' := Lib.hid (hbf.out.1 rfl (by omega))
              have hs0 : 0 < s.size := by omega
              go_wp2_with fail
              go_meet
              exact ⟨by rw [hb1'.out], PR⟩
            · have hb1' := Lib.hid (hbf.out.2 h1)
              have h1' : ((i : Int) == 1) = false := by simp; omega
              clear h1
              go_wp2_with fail
              go_meet
              exact ⟨by rw [hb1'.out], PR⟩
          case rest =>
            obtain ⟨rfl, PC⟩ := hcut
            have c2 := PC.out.v.cell (s[i].toNat - 97)
            rw [intA_at at_ (by rw [hal.out]; omega), Hat.out i hlt] at c2
            have lv2 := PC.out.v.lt
            clear c0 c1 g1 lg1 o1 f1 hat0 hati hb0
            generalize atP s.data.toList s[i] = v at *
            obtain ⟨y, hy⟩ : ∃ y : Fac, (⟨⟨#[]⟩, bf, v⟩ : Fac) = y := ⟨_, rfl⟩
            have P6 := Lib.hid (PC.out.alloc (.cells #[.string .empty, .int .i64 bf, .int .i64 v] 75))
            have P7 := Lib.hid (P6.out.next (Below.refl _ _).drew)
            have d6 := PC.out.g.cell 0
            have l6 := PC.out.g.lt
            have zk : (n' + 1) * 32 ≤ 140737488355328 := by omega
            have zkm : n' + 1 ≤ maxLen := by unfold maxLen; omega
            clear hy y
            have wz : IntKind.u8.wrap ((s[i].toNat : Int) - 97) = (s[i].toNat : Int) - 97 := by show ((s[i].toNat : Int) - 97) % 256 = _; omega
            have wn : ((s[i].toNat : Int) - 97).toNat = s[i].toNat - 97 := by omega
            have w4' : (s[i].toNat : Int) - 97 < 4 := by omega
            go_wp2_with fail
            go_region_law
              (refine step_push (by rfl) _ _ _ (by rfl) w.heap.size 75 3 32 elem_rule Fac.cells A' n' cp' rs (by rfl) P7.out.q _ ⟨⟨#[]⟩, bf, v⟩ #[.string .empty, .int .i64 bf, .int .i64 v] 75 (0, 0) (by rfl) (heap_alloc_new _ _) rfl rfl (one_fac _) (by omega) zk zkm P7.out.e.size ?_
               intro A8 c8 w8 own8 hg8 old8
               have P8 := Lib.hid (P7.out.push own8 hg8)
               have G8 := P7.out.g.grown hg8 (own_blk_ne P7.out.q P7.out.g (by decide))
               have d8 := G8.cell 0
               have f8 := G8.frozen
               have l8 := G8.lt)
            all_goals
              go_wp2_with fail
              go_roundw
              case rel =>
                exact ⟨i + 1, A8, n' + 1, c8, rs ++ [⟨⟨#[]⟩, bf, v⟩], (n' : Int), by go_num, by omega, by omega, Lib.hid (by have := hn'.out; omega), Lib.hid (by rw [List.length_append, hrl.out]; rfl), P8, Lib.hid ⟨fun h => by omega, fun _ => by omega⟩, hstep⟩
              case measure => simp [intOf]; omega
        · have he := Lib.hid (show plainL s.data.toList = rs by
            rw [← HQ.out, List.drop_of_length_le (by rw [byte_len]; omega)]; simp [pairsP])
          go_wp2_with fail
          have hg := gb_set wr w.heap.size 0 (.slice A' n' cp')
          have x9 := PR.out.o.set_ 0 (.slice A' n' cp')
          have x10 : (wr.setCell ⟨w.heap.size, 0, none⟩ (.slice A' n' cp')).cell? ⟨w.heap.size, 0, none⟩ = some (.slice A' n' cp') := by rw [x9.cell 0]; rfl
          refine bodyPost_ret (v := .agg #[.slice A' n' cp']) (by simp [results, Try.results74, go_sem, x10]) rfl ⟨A', cp', by rw [he.out, hrl.out], ?_, PR.out.e.grown hg PR.out.e.size (fun q hq => by injection hq with hq; omega)⟩
          rw [he.out, hrl.out]
          exact PR.out.q.kept hg (.inr fun e => own_blk_ne PR.out.q PR.out.o (by decide) e.symm)
end Go.Proofs.Ytkknhpailohjcaa
