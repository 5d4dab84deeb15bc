/-
  Texts of this claim, merged: PlainS Plain LevelI FoldQ Cnt Make Cens FoldT Place Sel PieceS Rank RankS ModC.
-/
import Derived.Test.YtajfjgemfnfakaaP5
import Derived.Deep.RegionWith


/-
  The grammar of a plain word in the reference.
-/
namespace Go.Proofs.Ytajfjgemfnfakaa
open Go.RowKit

theorem fnd_one (u : UInt8) (s : ByteArray) : 0 < (fndL ⟨#[u]⟩ s).length ↔ u ∈ s.data.toList := by
  unfold fndL fndT
  rw [List.length_map, List.length_pos_iff_exists_mem]
  constructor
  · rintro ⟨i, hi⟩
    rw [List.mem_filter] at hi
    have h1 : i < s.size := by have := List.mem_range.1 hi.1; have : (⟨#[u]⟩ : ByteArray).size = 1 := rfl; omega
    have h2 : s.extract i (i + 1) = ⟨#[u]⟩ := of_decide_eq_true hi.2
    have h3 : (s.extract i (i + 1)).data.toList = [u] := by rw [h2]
    rw [ByteArray.data_extract, Array.toList_extract, List.extract_eq_take_drop, drop_cons (at_byte s i h1)] at h3
    simp only [Nat.add_sub_cancel_left, List.take_succ_cons, List.take_zero] at h3
    injection h3 with h4
    rw [← h4]; exact List.mem_of_getElem? (at_byte s i h1)
  · intro h
    obtain ⟨i, hi, he⟩ := List.mem_iff_getElem.1 h
    have hi' : i < s.size := by rw [byte_len] at hi; exact hi
    refine ⟨i, List.mem_filter.2 ⟨List.mem_range.2 ?_, decide_eq_true ?_⟩⟩
    · show i < s.size + 1 - 1; omega
    · show s.extract i (i + 1) = _
      apply ByteArray.ext
      rw [ByteArray.data_extract]
      apply Array.ext'
      rw [Array.toList_extract, List.extract_eq_take_drop, drop_cons (at_byte s i hi')]
      simp only [Nat.add_sub_cancel_left, List.take_succ_cons, List.take_zero]
      congr 1
theorem idx_ks (w : List UInt8) (u : UInt8) (h : letB u = true) (hm : u ∈ w) : (ksP w).idxOf u = (ksT w u.toNat).length := by
  have h : (97 : Int) ≤ u.toNat ∧ (u.toNat : Int) ≤ 100 := by simpa [letB] using h
  have h4 : u = 97 ∨ u = 98 ∨ u = 99 ∨ u = 100 := by
    simp only [← UInt8.toNat_inj]
    have : u.toNat = 97 ∨ u.toNat = 98 ∨ u.toNat = 99 ∨ u.toNat = 100 := by omega
    exact this
  unfold ksT ksP
  rcases h4 with rfl | rfl | rfl | rfl
  all_goals
    by_cases h1 : (97 : UInt8) ∈ w <;> by_cases h2 : (98 : UInt8) ∈ w <;> by_cases h3 : (99 : UInt8) ∈ w <;> by_cases h4 : (100 : UInt8) ∈ w <;> simp_all [List.idxOf_cons]

/-- 'l02Plain' under way -/
structure PsW (w W : World) (A : Option Addr) (n c : Nat) (rs : List Fac) (at_ : List Int) : Prop where
  q : W.ownsRow w.heap.size 59 3 (.slice A n c) n (rs.flatMap Fac.cells)
  o : Blk W w.heap.size 26 #[.slice none 0 0]
  g : Blk W (w.heap.size + 1) 26 #[.slice A n c]
  v : Blk W (w.heap.size + 2) 2 (intA at_)
  e : Below w.heap.size w W
section
variable {w W W' : World} {A : Option Addr} {n c : Nat} {rs : List Fac} {at_ : List Int}
theorem PsW.next (h : PsW w W A n c rs at_) (hb : Below W.heap.size W W') : PsW w W' A n c rs at_ :=
  ⟨own_next h.q hb, h.o.next hb, h.g.next hb, h.v.next hb, h.e.trans (hb.mono h.e.size)⟩
theorem PsW.alloc (h : PsW w W A n c rs at_) (o : Obj) : PsW w (W.alloc o) A n c rs at_ := h.next ((Below.refl _ _).alloc (Nat.le_refl _) _)
theorem PsW.push {A8 : Option Addr} {k8 c8 : Nat} {rs' : List Fac} (h : PsW w W A n c rs at_) (hq : W'.ownsRow w.heap.size 59 3 (.slice A8 k8 c8) k8 (rs'.flatMap Fac.cells)) (hg : W.grownBy W' (Value.slice A n c).ownBlock) :
    PsW w (W'.setCell ⟨w.heap.size + 1, 0, none⟩ (.slice A8 k8 c8)) A8 k8 c8 rs' at_ := by
  have ho' := h.o.grown hg (own_blk_ne h.q h.o (by decide))
  have hg' := h.g.grown hg (own_blk_ne h.q h.g (by decide))
  have hv' := h.v.grown hg (own_blk_ne h.q h.v (by decide))
  have he' := h.e.grown hg h.e.size (own_ge h.q)
  have hg2 := gb_set W' (w.heap.size + 1) 0 (.slice A8 k8 c8)
  exact ⟨own_kept' hq hg' (by decide) _, ho'.grown hg2 (by intro e; injection e with e; omega), hg'.set_ 0 _, hv'.grown hg2 (by intro e; injection e with e; omega), he'.setCell (by simp) _⟩
theorem PsW.tell (h : PsW w W A n c rs at_) (i : Nat) (z : Int) : PsW w (W.setCell ⟨w.heap.size + 2, i, none⟩ (.int .i64 z)) A n c rs (at_.set i z) := by
  have hg2 := gb_set W (w.heap.size + 2) i (.int .i64 z)
  have := h.v.set_ i (.int .i64 z)
  rw [intA_set] at this
  exact ⟨own_kept' h.q h.v (by decide) _, h.o.grown hg2 (by intro e; injection e with e; omega), h.g.grown hg2 (by intro e; injection e with e; omega), this, h.e.setCell (by simp) _⟩
end
set_option maxHeartbeats 4000000 in
set_option maxRecDepth 100000 in
theorem l02Plain_any (s : ByteArray) (w : World) (ho : okW s = true) : Calls Try.prog 24 #[.string s] w (RetG w (plainL s.data.toList)) := by
  have hs := okW_size ho
  have HL := Lib.hid (fun (i : Nat) (hi : i < s.size) => okW_at ho hi)
  have mkN := fun W => show (Instr.makeSlice 55 (.int .i64 4) (.int .i64 4)).run Try.prog W = .ok (.slice (some ⟨W.heap.size, 0, none⟩) 4 4) (W.alloc (.cells (intA (List.replicate 4 0)) 2)) from makeN 4 W (by omega)
  clear ho
  go_enter Try.func24, Try.ntmps24
  go_wp2_with fail
  refine named fun w0 H0 => ?_
  have P0 := Lib.hid (show PsW w w0 none 0 0 [] (List.replicate 4 0) by
    rw [H0.out]
    refine ⟨World.ownsRow_nil _ _ _ _, ?_, ?_, ?_, by (repeat first | exact Below.refl _ _ | assumption | refine Below.drew ?_ | refine Below.alloc ?_ (by first | exact Nat.le_refl _ | (simp; done) | omega | (simp; omega)) _ | refine Below.setCell ?_ (by first | exact Nat.le_refl _ | (simp; done) | omega | (simp; omega)) _)⟩
    · exact ((Blk.new w _ _).alloc _).alloc _
    · simpa using (Blk.new (w.alloc (.cells #[.slice none 0 0] 26)) 26 #[.slice none 0 0]).alloc _
    · simpa using Blk.new ((w.alloc (.cells #[.slice none 0 0] 26)).alloc (.cells #[.slice none 0 0] 26)) 2 (intA (List.replicate 4 0)))
  clear H0 mkN
  go_loopw [5] (fun c_ w' => ∃ (k : Nat) (A : Option Addr) (n cp : Nat) (at_ : List Int), c_ = .int .i64 k ∧ k ≤ 4 ∧ n ≤ 4 ∧ Hid ((ksT s.data.toList (97 + k)).length = n) ∧ Hid (PsW w w' A n cp ((ksT s.data.toList (97 + k)).map ruleC) at_) ∧
    Hid (at_.length = 4) ∧ Hid (∀ u : UInt8, letB u = true → (u.toNat : Int) < 97 + k → u ∈ s.data.toList → at_.getD (u.toNat - 97) 0 = atP s.data.toList u)) (fun c_ _ => (4 - intOf c_).toNat)
  case atStart => exact ⟨0, none, 0, 0, _, rfl, by omega, by omega, Lib.hid (by rw [show (97 : Int) + ((0 : Nat) : Int) = 97 from rfl, ksT_first]; rfl), by rw [show (97 : Int) + ((0 : Nat) : Int) = 97 from rfl, ksT_first]; exact P0, Lib.hid rfl, Lib.hid (fun u h1 h2 => by simp [letB] at h1; omega)⟩
  case round =>
    obtain ⟨k, A, n, cp, at_, rfl, hk4, hn4, hnl, P1, hal, hat⟩ := hrel
    by_cases hlt : k < 4
    · obtain ⟨u, hu⟩ : ∃ u : UInt8, u.toNat = 97 + k := ⟨UInt8.ofNat (97 + k), by simp; omega⟩
      have hlb : letB u = true := by simp [letB]; omega
      have hu' : (u.toNat : Int) = 97 + k := by omega
      have Hst0 := ksT_step s.data.toList u hlb
      rw [hu', show (97 : Int) + (k : Int) + 1 = 97 + ((k + 1 : Nat) : Int) by omega] at Hst0
      have Hst := Lib.hid Hst0
      have Hu := Lib.hid hu'
      have hcv := conv_letter (wr.alloc (.cells #[.int .u8 (97 + (k : Int))] 5)) wr.heap.size 1 u (by rw [hu']; simp)
      have P2 := Lib.hid (P1.out.alloc (.cells #[.int .u8 (97 + (k : Int))] 5))
      have HF := Lib.hid (fun W => l01Found_any ⟨#[u]⟩ s W (by show (1 : Nat) ≤ _; omega) (by omega))
      have hf1 := Lib.hid (fnd_one u s)
      have hlb' := Lib.hid hlb
      have hix := Lib.hid (idx_ks s.data.toList u hlb)
      clear Hst0 hu' hlb hu
      go_wp2_with fail
      refine (HF.out _).mono ?_
      rintro e w3 ⟨A3, c3, rfl, own3, hb3⟩
      have hlz := Lib.hid hb3.size
      have P3 := Lib.hid (P2.out.next hb3)
      have hl3 := fndT_len ⟨#[u]⟩ s (s.size + 1 - 1)
      have hl3' : (fndL ⟨#[u]⟩ s).length ≤ 2000 := by
        have : (fndL ⟨#[u]⟩ s).length ≤ s.size + 1 - 1 := fndT_len ⟨#[u]⟩ s (s.size + 1 - 1)
        omega
      generalize (fndL ⟨#[u]⟩ s).length = fl at *
      clear hl3 own3 hb3
      by_cases hz : 0 < fl
      · have hm := hf1.out.1 hz
        have Hm := Lib.hid hm
        have Hst2 := Lib.hid (show ksT s.data.toList (97 + ((k + 1 : Nat) : Int)) = ksT s.data.toList (97 + (k : Int)) ++ [u] by rw [Hst.out, if_pos hm])
        have hn4' : n + 1 ≤ 4 := by
          have h1 := ksT_le s.data.toList (97 + ((k + 1 : Nat) : Int))
          rw [Hst2.out, List.length_append, hnl.out] at h1; exact h1
        have d0 := P3.out.g.cell 0
        have l0 := P3.out.g.lt
        have v0 := P3.out.v.cell k
        rw [intA_at at_ (by rw [hal.out]; exact hlt)] at v0
        have vf := P3.out.v.frozen
        have P4 := Lib.hid (P3.out.tell k (n : Int))
        have d4 := P4.out.g.cell 0
        have l4 := P4.out.g.lt
        have P5 := Lib.hid (P4.out.alloc (.cells #[.string ⟨#[u]⟩, .int .i64 0, .int .i64 0] 59))
        have BN0 := Blk.new (w3.setCell ⟨w.heap.size + 2, k, none⟩ (.int .i64 (n : Int))) 59 #[.string (ruleC u).l, .int .i64 (ruleC u).a, .int .i64 (ruleC u).b]
        have sz4 : (w3.setCell ⟨w.heap.size + 2, k, none⟩ (.int .i64 (n : Int))).heap.size = w3.heap.size := by simp
        rw [sz4] at BN0
        have BN := Lib.hid BN0
        have i0 : (0 : Int) ≤ (k : Int) := by omega
        have i1 : (k : Int) < 4 := by omega
        clear hm BN0 sz4
        go_wp2_with
          (at_builtin
           refine wpList_app rfl _ _ _ rfl w.heap.size 59 3 32 elem_rule Fac.cells A n cp ((ksT s.data.toList (97 + (k : Int))).map ruleC) rfl P5.out.q ⟨w3.heap.size, 0, none⟩ 1 1 [ruleC u] rfl rfl (by omega) (news1 (y := ruleC u) BN.out) (fun x _ => fac_len x) (fun x _ => one_fac x) (by omega) (by omega) (by unfold maxLen; omega) P5.out.e.size ?_
           intro A9 c9 w9 own9 hg9 hat9
           have P6 := Lib.hid (P5.out.push own9 hg9)
           have G6 := P5.out.g.grown hg9 (own_blk_ne P5.out.q P5.out.g (by decide))
           have f9 := G6.frozen
           have d9 := G6.cell 0
           have l9 := G6.lt
           clear own9 G6)
        go_roundw
        case rel =>
          refine ⟨k + 1, A9, n + 1, c9, at_.set k (n : Int), by go_num, by omega, hn4', Lib.hid (by rw [Hst2.out, List.length_append, hnl.out]; rfl), Lib.hid (by rw [Hst2.out, List.map_append]; exact P6.out), Lib.hid (by rw [List.length_set, hal.out]), Lib.hid (fun u' h1 h2 h3 => ?_)⟩
          by_cases hq : (u'.toNat : Int) < 97 + (k : Int)
          · rw [List.getD_eq_getElem?_getD, List.getElem?_set_ne (by simp [letB] at h1; omega), ← List.getD_eq_getElem?_getD]
            exact hat.out u' h1 hq h3
          · obtain rfl : u' = u := UInt8.toNat_inj.1 (by have := Hu.out; omega)
            rw [show u'.toNat - 97 = k by have := Hu.out; omega, List.getD_eq_getElem?_getD, List.getElem?_set_self (by rw [hal.out]; exact hlt)]
            have h5 := hix.out Hm.out
            rw [Hu.out, hnl.out] at h5
            unfold atP
            rw [h5]; rfl
        case measure => simp [intOf]; omega
      · have Hm := Lib.hid (fun h => hz (hf1.out.2 h))
        have Hst2 := Lib.hid (show ksT s.data.toList (97 + ((k + 1 : Nat) : Int)) = ksT s.data.toList (97 + (k : Int)) by rw [Hst.out, if_neg Hm.out])
        obtain rfl : fl = 0 := by omega
        go_wp2_with fail
        go_roundw
        case rel =>
          refine ⟨k + 1, A, n, cp, at_, by go_num, by omega, hn4, by rw [Hst2.out]; exact hnl, by rw [Hst2.out]; exact P3, hal, Lib.hid (fun u' h1 h2 h3 => ?_)⟩
          by_cases hq : (u'.toNat : Int) < 97 + (k : Int)
          · exact hat.out u' h1 hq h3
          · obtain rfl : u' = u := UInt8.toNat_inj.1 (by have := Hu.out; omega)
            exact absurd h3 Hm.out
        case measure => simp [intOf]; omega
    · have hk5 : k = 4 := by omega
      have hK := ksT_last s.data.toList
      rw [hk5, show (97 : Int) + ((4 : Nat) : Int) = 101 from rfl, hK] at hnl P1
      clear hK hk5
      have Hat := Lib.hid (fun (j : Nat) (hj : j < s.size) => show at_.getD (s[j].toNat - 97) 0 = atP s.data.toList s[j] from hat.out s[j] (HL.out j hj) (by have := HL.out j hj; simp [letB] at this; omega) (List.mem_of_getElem? (at_byte s j hj)))
      clear hat
      have P2 := Lib.hid (show PsW w wr A n cp (lettersP s.data.toList) at_ from P1.out)
      have hll := Lib.hid (show (lettersP s.data.toList).length = n by rw [← hnl.out]; simp [lettersP])
      clear P1
      obtain ⟨bf0, hbf0, hpl0⟩ : ∃ bf : Int, ((∀ h : 0 < s.size, bf = atP s.data.toList s[0]) ∧ (s.size = 0 → bf = 0)) ∧ lettersP s.data.toList ++ pairsP s.data.toList (s.data.toList.drop 1) bf n = plainL s.data.toList := by
        by_cases h0 : 0 < s.size
        · refine ⟨atP s.data.toList s[0], ⟨fun _ => rfl, fun h => by omega⟩, ?_⟩
          have := drop_cons (at_byte s 0 h0)
          rw [List.drop_zero] at this
          generalize hq : s.data.toList.drop (0 + 1) = q at this
          unfold plainL
          rw [← hnl.out]
          split
          · rename_i h; rw [h] at this; cases this
          · rename_i c cs h
            have h2 := h.symm.trans this
            injection h2 with h3 h4
            rw [← h3, ← h4]
        · refine ⟨0, ⟨fun h => absurd h h0, fun _ => rfl⟩, ?_⟩
          have : s.data.toList = [] := List.eq_nil_of_length_eq_zero (by rw [byte_len]; omega)
          rw [this]; rfl
      have hk6 : ¬ (k : Int) < 4 := by omega
      clear hlt
      go_wp2_with fail
      clear hk6
      go_loopw [7] (fun i_ w' => ∃ (i : Nat) (A' : Option Addr) (n' cp' : Nat) (rs : List Fac) (bf : Int), i_ = .int .i64 i ∧ 1 ≤ i ∧ (i ≤ s.size ∨ i = 1) ∧ Hid (n' + 1 = n + i) ∧ Hid (rs.length = n') ∧
        Hid (PsW w w' A' n' cp' rs at_) ∧ Hid ((i = 1 → ∀ h : 0 < s.size, bf = atP s.data.toList s[0]) ∧ (i ≠ 1 → bf = (n' : Int) - 1)) ∧ Hid (rs ++ pairsP s.data.toList (s.data.toList.drop i) bf n' = plainL s.data.toList)) (fun i_ _ => s.size - (intOf i_).toNat)
      case atStart =>
        exact ⟨1, A, n, cp, _, bf0, rfl, by omega, by omega, Lib.hid rfl, hll, P2, Lib.hid ⟨fun _ h => hbf0.1 h, fun h => absurd rfl h⟩, Lib.hid hpl0⟩
      case round =>
        obtain ⟨i, A', n', cp', rs, bf, rfl, hi1, hi2, hn', hrl, PR, hbf, HQ⟩ := hrel
        have g1 := PR.out.g.cell 0
        have lg1 := PR.out.g.lt
        have o1 := PR.out.o.cell 0
        have f1 := PR.out.o.frozen
        by_cases hlt : i < s.size
        · clear hk4
          have hlb := HL.out i hlt
          have hlb0 := HL.out 0 (by omega)
          have hb1 : (97 : Int) ≤ s[i].toNat ∧ (s[i].toNat : Int) ≤ 100 := by simpa [letB] using hlb
          have hb0 : (97 : Int) ≤ s[0].toNat ∧ (s[0].toNat : Int) ≤ 100 := by simpa [letB] using hlb0
          have hat0 := atP_lt (List.mem_of_getElem? (at_byte s 0 (by omega))) hlb0
          have hati := atP_lt (List.mem_of_getElem? (at_byte s i hlt)) hlb
          have hkl : (ksP s.data.toList).length = n := hnl.out
          rw [hkl] at hat0 hati
          have hn1' : 1 ≤ n' := by have := hn'.out; omega
          have hn2' : n' ≤ 2010 := by have := hn'.out; omega
          have c0 := PR.out.v.cell (s[0].toNat - 97)
          rw [intA_at at_ (by rw [hal.out]; omega), Hat.out 0 (by omega)] at c0
          have c1 := PR.out.v.cell (s[i].toNat - 97)
          rw [intA_at at_ (by rw [hal.out]; omega), Hat.out i hlt] at c1
          have hstep := Lib.hid (show (rs ++ [⟨⟨#[]⟩, bf, atP s.data.toList s[i]⟩]) ++ pairsP s.data.toList (s.data.toList.drop (i + 1)) ((n' : Int)) (n' + 1) = plainL s.data.toList by
            rw [← HQ.out, drop_cons (at_byte s i hlt), List.append_assoc]; rfl)
          have Hbf := Lib.hid hbf.out
          have hbb : -1 ≤ bf ∧ bf ≤ 2010 := by
            by_cases h1 : i = 1
            · have := hbf.out.1 h1 (by omega); omega
            · have := hbf.out.2 h1; omega
          have hv := Lib.hid hati
          clear hkl hlb hlb0
          go_upto_if 49 with (fail)
          go_cut [8] (fun b_ wx => b_ = .int .i64 bf ∧ Hid (PsW w wx A' n' cp' rs at_))
          case first =>
            by_cases h1 : i = 1
            · subst h1
              have hb1' := Lib.hid (hbf.out.1 rfl (by omega))
              have hs0 : 0 < s.size := by omega
              go_wp2_with fail
              go_meet
              exact ⟨by rw [hb1'.out], PR⟩
            · have hb1' := Lib.hid (hbf.out.2 h1)
              have h1' : ((i : Int) == 1) = false := by simp; omega
              clear h1
              go_wp2_with fail
              go_meet
              exact ⟨by rw [hb1'.out], PR⟩
          case rest =>
            obtain ⟨rfl, PC⟩ := hcut
            have c2 := PC.out.v.cell (s[i].toNat - 97)
            rw [intA_at at_ (by rw [hal.out]; omega), Hat.out i hlt] at c2
            have lv2 := PC.out.v.lt
            clear c0 c1 g1 lg1 o1 f1 hat0 hati hb0
            generalize atP s.data.toList s[i] = v at *
            obtain ⟨y, hy⟩ : ∃ y : Fac, (⟨⟨#[]⟩, bf, v⟩ : Fac) = y := ⟨_, rfl⟩
            have P6 := Lib.hid (PC.out.alloc (.cells #[.string .empty, .int .i64 bf, .int .i64 v] 59))
            have P7 := Lib.hid (P6.out.next (Below.refl _ _).drew)
            have d6 := PC.out.g.cell 0
            have l6 := PC.out.g.lt
            have zk : (n' + 1) * 32 ≤ 140737488355328 := by omega
            have zkm : n' + 1 ≤ maxLen := by unfold maxLen; omega
            clear hy y
            have wz : IntKind.u8.wrap ((s[i].toNat : Int) - 97) = (s[i].toNat : Int) - 97 := by show ((s[i].toNat : Int) - 97) % 256 = _; omega
            have wn : ((s[i].toNat : Int) - 97).toNat = s[i].toNat - 97 := by omega
            have w4' : (s[i].toNat : Int) - 97 < 4 := by omega
            go_wp2_with fail
            go_region_law
              (refine step_push (by rfl) _ _ _ (by rfl) w.heap.size 59 3 32 elem_rule Fac.cells A' n' cp' rs (by rfl) P7.out.q _ ⟨⟨#[]⟩, bf, v⟩ #[.string .empty, .int .i64 bf, .int .i64 v] 59 (0, 0) (by rfl) (heap_alloc_new _ _) rfl rfl (one_fac _) (by omega) zk zkm P7.out.e.size ?_
               intro A8 c8 w8 own8 hg8 old8
               have P8 := Lib.hid (P7.out.push own8 hg8)
               have G8 := P7.out.g.grown hg8 (own_blk_ne P7.out.q P7.out.g (by decide))
               have d8 := G8.cell 0
               have f8 := G8.frozen
               have l8 := G8.lt)
            all_goals
              go_wp2_with fail
              go_roundw
              case rel =>
                exact ⟨i + 1, A8, n' + 1, c8, rs ++ [⟨⟨#[]⟩, bf, v⟩], (n' : Int), by go_num, by omega, by omega, Lib.hid (by have := hn'.out; omega), Lib.hid (by rw [List.length_append, hrl.out]; rfl), P8, Lib.hid ⟨fun h => by omega, fun _ => by omega⟩, hstep⟩
              case measure => simp [intOf]; omega
        · have he := Lib.hid (show plainL s.data.toList = rs by
            rw [← HQ.out, List.drop_of_length_le (by rw [byte_len]; omega)]; simp [pairsP])
          go_wp2_with fail
          have hg := gb_set wr w.heap.size 0 (.slice A' n' cp')
          have x9 := PR.out.o.set_ 0 (.slice A' n' cp')
          have x10 : (wr.setCell ⟨w.heap.size, 0, none⟩ (.slice A' n' cp')).cell? ⟨w.heap.size, 0, none⟩ = some (.slice A' n' cp') := by rw [x9.cell 0]; rfl
          refine bodyPost_ret (v := .agg #[.slice A' n' cp']) (by simp [results, Try.results24, go_sem, x10]) rfl ⟨A', cp', by rw [he.out, hrl.out], ?_, PR.out.e.grown hg PR.out.e.size (fun q hq => by injection hq with hq; omega)⟩
          rw [he.out, hrl.out]
          exact PR.out.q.kept hg (.inr fun e => own_blk_ne PR.out.q PR.out.o (by decide) e.symm)
end Go.Proofs.Ytajfjgemfnfakaa


/-
  PlainGrammar on both sides.
-/
namespace Go.Proofs.Ytajfjgemfnfakaa
open Go.RowKit

def plnF (s : ByteArray) : List Fac := if okW s then limF (plainL s.data.toList) else []
def plnC (s : ByteArray) : Int := if okW s then limC (plainL s.data.toList) else 1
theorem plnF_len (s : ByteArray) : (plnF s).length ≤ 1048576 := by
  unfold plnF
  split
  · rename_i h
    have h1 := okW_size h
    have h2 := plainL_len s.data.toList
    rw [byte_len] at h2
    unfold limF
    split
    · omega
    · simp
  · simp
theorem pairsP_ok (w : List UInt8) : ∀ (cs : List UInt8) (b : Int) (n : Nat), ∀ f ∈ pairsP w cs b n, f.l.size ≤ maxLen
  | [], _, _, f, h => by simp [pairsP] at h
  | c :: cs, b, n, f, h => by
    simp only [pairsP, List.mem_cons] at h
    rcases h with rfl | h
    · show 0 ≤ maxLen; omega
    · exact pairsP_ok w cs _ _ f h
theorem plainL_ok (w : List UInt8) : ∀ f ∈ plainL w, f.l.size ≤ maxLen := by
  intro f hf
  unfold plainL at hf
  split at hf
  · simp at hf
  · rcases List.mem_append.1 hf with h | h
    · obtain ⟨c, _, rfl⟩ := List.mem_map.1 h
      show 1 ≤ maxLen; unfold maxLen; omega
    · exact pairsP_ok _ _ _ _ f h
theorem plainL_big {w : List UInt8} (h : 400 < w.length) (hl : w.all letB = true) : (gOk (plainL w)).isSome = false := by
  unfold gOk
  rw [if_pos]
  · rfl
  · unfold plainL
    split
    · simp at h
    · rename_i c cs
      rw [List.length_append, pairsP_len]
      have hc : letB c = true := by simp at hl; exact hl.1
      have : 0 < (lettersP (c :: cs)).length := by
        rw [List.length_pos_iff_exists_mem]
        exact ⟨ruleC c, List.mem_map.2 ⟨c, mem_ks (by simp) hc, rfl⟩⟩
      simp only [List.length_cons] at h; omega
set_option maxHeartbeats 1000000 in
set_option maxRecDepth 100000 in
theorem specPlain_any (s : ByteArray) (w : World) (hs : s.size ≤ 1048576) : Calls Try.prog 7 #[.string s] w (RetGC w (plnF s) (plnC s)) := by
  rcases ho : okW s with _ | _
  · have Ho := Lib.hid ho
    have hT := Lib.hid (show plnF s = [] by unfold plnF; rw [ho]; rfl)
    have hC := Lib.hid (show plnC s = 1 by unfold plnC; rw [ho]; rfl)
    rw [hT.out, hC.out]
    clear ho hT hC
    go_enter Try.func7, Try.ntmps7
    go_wp2_with fail
    refine (specOk_any s false _ (by unfold maxLen; omega) Ho.out).mono ?_
    rintro e w1 ⟨rfl, hb1⟩
    have B1 := (Blk.new w 26 #[.slice none 0 0]).next hb1
    have b1 : Below w.heap.size w w1 := ((Below.refl w.heap.size w).alloc (Nat.le_refl _) (.cells #[.slice none 0 0] 26)).trans (hb1.mono (by simp))
    have d1 := B1.cell 0
    have f1 := B1.frozen
    have l1 := B1.lt
    have B5 := B1.set_ 0 (.slice none 0 0)
    have x5 : (w1.setCell ⟨w.heap.size, 0, none⟩ (.slice none 0 0)).cell? ⟨w.heap.size, 0, none⟩ = some (.slice none 0 0) := by rw [B5.cell 0]; rfl
    have b5 := b1.setCell (p := ⟨w.heap.size, 0, none⟩) (Nat.le_refl _) (.slice none 0 0)
    clear B5 B1
    go_wp2_with fail
    refine bodyPost_ret (v := .tuple #[.agg #[.slice none 0 0], .int .i64 1]) (by simp [results, Try.results7, go_sem, x5]) rfl ⟨none, 0, rfl, World.ownsRow_nil _ _ _ _, b5⟩
  · have Ho := Lib.hid ho
    have hT0 := show plnF s = limF (plainL s.data.toList) by unfold plnF; rw [ho]; rfl
    have hC0 := show plnC s = limC (plainL s.data.toList) by unfold plnC; rw [ho]; rfl
    have hlen := Lib.hid (show (plainL s.data.toList).length ≤ 100000 by
      have h1 := okW_size ho
      have h2 := plainL_len s.data.toList
      rw [byte_len] at h2; omega)
    have hok := Lib.hid (plainL_ok s.data.toList)
    by_cases hbig : 400 < s.size
    · have hg : (gOk (plainL s.data.toList)).isSome = false := plainL_big (by rw [byte_len]; exact hbig) (by unfold okW at ho; simp only [Bool.and_eq_true] at ho; exact ho.2)
      have hT := hT0
      have hC := hC0
      unfold limF at hT
      unfold limC at hC
      rw [hg] at hT hC
      have HT := Lib.hid hT
      have HC := Lib.hid hC
      clear ho hg hT hC hT0 hC0
      go_enter Try.func7, Try.ntmps7
      go_wp2_with fail
      refine (specOk_any s true _ (by unfold maxLen; omega) Ho.out).mono ?_
      rintro e w1 ⟨rfl, hb1⟩
      have B1 := (Blk.new w 26 #[.slice none 0 0]).next hb1
      have b1 : Below w.heap.size w w1 := ((Below.refl w.heap.size w).alloc (Nat.le_refl _) (.cells #[.slice none 0 0] 26)).trans (hb1.mono (by simp))
      have d1 := B1.cell 0
      have f1 := B1.frozen
      have l1 := B1.lt
      have B5 := B1.set_ 0 (.slice none 0 0)
      have x5 : (w1.setCell ⟨w.heap.size, 0, none⟩ (.slice none 0 0)).cell? ⟨w.heap.size, 0, none⟩ = some (.slice none 0 0) := by rw [B5.cell 0]; rfl
      have b5 := b1.setCell (p := ⟨w.heap.size, 0, none⟩) (Nat.le_refl _) (.slice none 0 0)
      clear B5 B1
      go_wp2_with fail
      refine bodyPost_ret (v := .tuple #[.agg #[.slice none 0 0], .int .i64 3]) (by simp [results, Try.results7, go_sem, x5]) rfl ⟨none, 0, by rw [HT.out, HC.out]; rfl, by rw [HT.out]; exact World.ownsRow_nil _ _ _ _, b5⟩
    rcases hg : (gOk (plainL s.data.toList)).isSome with _ | _
    all_goals
      have Hg := Lib.hid hg
      have hT := hT0
      have hC := hC0
      unfold limF at hT
      unfold limC at hC
      rw [hg] at hT hC
      have HT := Lib.hid hT
      have HC := Lib.hid hC
      clear ho hg hT hC hT0 hC0
      go_enter Try.func7, Try.ntmps7
      go_wp2_with fail
      refine (specOk_any s true _ (by unfold maxLen; omega) Ho.out).mono ?_
      rintro e w1 ⟨rfl, hb1⟩
      have B1 := Lib.hid ((Blk.new w 26 #[.slice none 0 0]).next hb1)
      have b1 : Below w.heap.size w w1 := ((Below.refl w.heap.size w).alloc (Nat.le_refl _) (.cells #[.slice none 0 0] 26)).trans (hb1.mono (by simp))
      go_wp2_with fail
      refine (l02Plain_any s w1 Ho.out).mono ?_
      rintro e w2 ⟨A2, c2, rfl, own2, hb2⟩
      have b2 := b1.trans (hb2.mono b1.size)
      have B2 := Lib.hid (B1.out.next hb2)
      have O2 := Lib.hid own2
      clear own2
      go_wp2_with fail
      first
        | (refine (l02Told_no A2 _ c2 (plainL s.data.toList) w2 (by have := hlen.out; omega) (Rd.of_own (fun x _ => fac_len x) rfl O2.out) hok.out Hg.out).mono ?_
           rintro e w3 ⟨rfl, hb3⟩
           have b3 := b2.trans (hb3.mono b2.size)
           have B3 := B2.out.next hb3
           have d3 := B3.cell 0
           have f3 := B3.frozen
           have l3 := B3.lt
           have B5 := B3.set_ 0 (.slice none 0 0)
           have x5 : (w3.setCell ⟨w.heap.size, 0, none⟩ (.slice none 0 0)).cell? ⟨w.heap.size, 0, none⟩ = some (.slice none 0 0) := by rw [B5.cell 0]; rfl
           have b5 := b3.setCell (p := ⟨w.heap.size, 0, none⟩) (Nat.le_refl _) (.slice none 0 0)
           clear B5 B3
           go_wp2_with fail
           refine bodyPost_ret (v := .tuple #[.agg #[.slice none 0 0], .int .i64 3]) (by simp [results, Try.results7, go_sem, x5]) rfl ⟨none, 0, by rw [HT.out, HC.out]; rfl, by rw [HT.out]; exact World.ownsRow_nil _ _ _ _, b5⟩)
        | (refine (l02Told_yes A2 _ c2 (plainL s.data.toList) w2 (by have := hlen.out; omega) (Rd.of_own (fun x _ => fac_len x) rfl O2.out) hok.out Hg.out).mono ?_
           rintro e w3 ⟨rfl, hb3⟩
           have b3 := b2.trans (hb3.mono b2.size)
           have B3 := Lib.hid (B2.out.next hb3)
           have O3 := Lib.hid (own_next O2.out hb3)
           have d3 := B3.out.cell 0
           have f3 := B3.out.frozen
           have l3 := B3.out.lt
           generalize plainL s.data.toList = T at *
           have B5 := B3.out.set_ 0 (.slice A2 T.length c2)
           have x5 : (w3.setCell ⟨w.heap.size, 0, none⟩ (.slice A2 T.length c2)).cell? ⟨w.heap.size, 0, none⟩ = some (.slice A2 T.length c2) := by rw [B5.cell 0]; rfl
           have b5 := b3.setCell (p := ⟨w.heap.size, 0, none⟩) (Nat.le_refl _) (.slice A2 T.length c2)
           have O5 := Lib.hid ((own_kept' O3.out B3.out (by decide) (.slice A2 T.length c2) (i := 0)).mono b1.size)
           clear B5
           go_wp2_with fail
           refine bodyPost_ret (v := .tuple #[.agg #[.slice A2 T.length c2], .int .i64 0]) (by simp [results, Try.results7, go_sem, x5]) rfl ⟨A2, c2, by rw [HT.out, HC.out]; rfl, by rw [HT.out]; exact O5.out, b5⟩)
end Go.Proofs.Ytajfjgemfnfakaa


/-
  Is a grammar level: in the program.
-/
namespace Go.Proofs.Ytajfjgemfnfakaa
open Go.RowKit

theorem notLv (ds : List Int) (x : Fac) (h0 : x.l.size = 0) : (!islRule ds x) = !inB (ds.getD x.a.toNat 0 - ds.getD x.b.toNat 0) (-1) 1 := by unfold islRule; rw [if_pos h0]
set_option maxHeartbeats 1000000 in
set_option maxRecDepth 100000 in
theorem isLevel1_any (pb : Nat) (A : Option Addr) (m c : Nat) (ds : List Int) (x : Fac) (w : World) (hpb : pb < w.heap.size) (hp : w.cell? ⟨pb, 0, none⟩ = some (.slice A m c)) (hd : Rd w w.heap.size A m 1 intE ds)
    (hx : x.l.size = 0 → 0 ≤ x.a ∧ x.a < m ∧ 0 ≤ x.b ∧ x.b < m) (hv : ∀ i, i < m → 1 ≤ ds.getD i 0 ∧ ds.getD i 0 ≤ 1048576) :
    Calls Try.prog 37 #[x.val, .pointer (some ⟨pb, 0, none⟩)] w (Ret (.bool (!islRule ds x)) w) := by
  have hl := Lib.hid hd.len
  have hisp : ∀ b, isP x = b → ∀ w', Calls Try.prog 27 #[.agg #[.string x.l, .int .i64 x.a, .int .i64 x.b]] w' (Ret (.bool b) w') := fun b h w' => isPair_any x b w' h
  unfold Fac.val
  by_cases h0 : x.l.size = 0
  · obtain ⟨ha0, ha1, hb0, hb1⟩ := hx h0
    obtain ⟨b, o, y1, rfl, hB, g1, e1⟩ := (show Rd w w.heap.size A m 1 (fun s => [.int .i64 s]) ds from hd).int (k := x.a.toNat) (by omega)
    obtain ⟨_, _, y2, hA, _, g2, e2⟩ := (show Rd w w.heap.size (some ⟨b, o, none⟩) m 1 (fun s => [.int .i64 s]) ds from hd).int (k := x.b.toNat) (by omega)
    obtain ⟨rfl, rfl⟩ : b = _ ∧ o = _ := by injection hA with hA; injection hA with h1 h2; exact ⟨h1, h2⟩
    clear hA
    have v1 := hv x.a.toNat (by omega)
    have v2 := hv x.b.toNat (by omega)
    rw [List.getD_eq_getElem?_getD, g1] at v1
    rw [List.getD_eq_getElem?_getD, g2] at v2
    simp only [Option.getD_some] at v1 v2
    have v10 := v1.1; have v11 := v1.2; have v20 := v2.1; have v21 := v2.2
    have hlv := Lib.hid (show (!islRule ds x) = !inB (y1 - y2) (-1) 1 by rw [notLv ds x h0, List.getD_eq_getElem?_getD, g1, List.getD_eq_getElem?_getD, g2]; rfl)
    have hT := Lib.hid (hisp true (by simpa [isP] using h0))
    clear hisp h0 hx hv v1 v2 g1 g2
    rcases hin : inB (y1 - y2) (-1) 1 with _ | _
    all_goals
      have Hin := Lib.hid hin; clear hin
      go_enter Try.func37, Try.ntmps37
      go_wp2_with fail
      refine named fun w3 H3 => ?_
      have B3 : Blk w3 w.heap.size 59 #[.string x.l, .int .i64 x.a, .int .i64 x.b] := by rw [H3.out]; exact Blk.new _ _ _
      have hb3 : Below w.heap.size w w3 := by rw [H3.out]; (repeat first | exact Below.refl _ _ | assumption | refine Below.drew ?_ | refine Below.alloc ?_ (by first | exact Nat.le_refl _ | (simp; done) | omega | (simp; omega)) _ | refine Below.setCell ?_ (by first | exact Nat.le_refl _ | (simp; done) | omega | (simp; omega)) _)
      obtain ⟨d0, d1, d2⟩ := B3.three
      have hz3 := B3.lt
      have f0 := (hb3.cell (p := ⟨pb, 0, none⟩) hpb).trans hp
      have f1 := (hb3.cell (p := ⟨b, o + x.a.toNat, none⟩) hB).trans e1
      have f2 := (hb3.cell (p := ⟨b, o + x.b.toNat, none⟩) hB).trans e2
      have hp3 : pb < w3.heap.size := by omega
      have hB3 : b < w3.heap.size := by omega
      have hup := upc w3.heap.size w3
      refine wp_region_up w3.heap.size (by kernel_rfl) (by kernel_rfl) ?_
      repeat (go_big_quiet_step ((first | (go_at_call 27; exact Calls.up (Nat.le_refl _) (hT.out _)) | (go_at_call 38; exact Calls.up (Nat.le_refl _) (within_any (y1 - y2) (-1) 1 _ _ Hin.out)))))
      refine wpQuiet_nil ?_
      intro w4 hup_w4
      have hb4 := up_of hup_w4
      have hb34 := hb3.trans (hb4.mono hb3.size)
      go_wp2_with fail
      go_ret
      exact ⟨ret_bool (by rw [hlv.out, Hin.out]; rfl), hb34⟩
  · have hlv := Lib.hid (show (!islRule ds x) = false by unfold islRule; rw [if_neg h0]; rfl)
    have hT := Lib.hid (hisp false (by simpa [isP] using h0))
    clear hisp h0 hx hv
    go_enter Try.func37, Try.ntmps37
    go_wp2_with fail
    refine named fun w3 H3 => ?_
    have B3 : Blk w3 w.heap.size 59 #[.string x.l, .int .i64 x.a, .int .i64 x.b] := by rw [H3.out]; exact Blk.new _ _ _
    have hb3 : Below w.heap.size w w3 := by rw [H3.out]; (repeat first | exact Below.refl _ _ | assumption | refine Below.drew ?_ | refine Below.alloc ?_ (by first | exact Nat.le_refl _ | (simp; done) | omega | (simp; omega)) _ | refine Below.setCell ?_ (by first | exact Nat.le_refl _ | (simp; done) | omega | (simp; omega)) _)
    obtain ⟨d0, d1, d2⟩ := B3.three
    have hz3 := B3.lt
    have hup := upc w3.heap.size w3
    refine wp_region_up w3.heap.size (by kernel_rfl) (by kernel_rfl) ?_
    repeat (go_big_quiet_step ((go_at_call 27; exact Calls.up (Nat.le_refl _) (hT.out _))))
    refine wpQuiet_nil ?_
    intro w4 hup_w4
    have hb4 := up_of hup_w4
    have hb34 := hb3.trans (hb4.mono hb3.size)
    go_wp2_with fail
    go_ret
    exact ⟨ret_bool hlv.out.symm, hb34⟩
theorem any_not {α : Type} (p : α → Bool) (xs : List α) : (!(xs.any fun x => !p x)) = xs.all p := by
  induction xs with
  | nil => rfl
  | cons x r ih => simp [← ih]
theorem depths_all {rs : List Fac} : foldAll 0 depF depG 0 rs = if rs.length = 0 then [0] else depths rs := rfl
set_option maxHeartbeats 1000000 in
set_option maxRecDepth 100000 in
theorem implIsLevel_any (A : Option Addr) (n c : Nat) (rs : List Fac) (w : World) (hn : n ≤ 1048576) (hr : Rd w w.heap.size A n 3 Fac.cells rs) (hok : ∀ f ∈ rs, f.l.size ≤ maxLen) :
    Calls Try.prog 12 #[.agg #[.slice A n c]] w (Ret (lvTuple rs) w) := by
  have hl := Lib.hid hr.len
  have hb0 : Below w.heap.size w (w.alloc (.cells #[.slice A n c] 26)) := by (repeat first | exact Below.refl _ _ | assumption | refine Below.drew ?_ | refine Below.alloc ?_ (by first | exact Nat.le_refl _ | (simp; done) | omega | (simp; omega)) _ | refine Below.setCell ?_ (by first | exact Nat.le_refl _ | (simp; done) | omega | (simp; omega)) _)
  have hB0 := Lib.hid (Blk.new w 26 #[.slice A n c])
  have hr0 := hr.next hb0
  rcases hg : (gOk rs).isSome with _ | _
  · have Hg := Lib.hid hg; clear hg
    have e := Lib.hid (show lvTuple rs = .tuple #[.bool false, .int .i64 1] by unfold lvTuple; rw [Hg.out]; rfl)
    have hc := Lib.hid (validG_any A n c rs _ (by omega) hr0 hok false Hg.out)
    go_enter Try.func12, Try.ntmps12
    go_wp2_with fail
    refine hc.out.mono ?_
    rintro e1 w1 ⟨rfl, hb1⟩
    go_wp2_with fail
    go_ret2
    exact ⟨by rw [e.out]; rfl, hb0.trans (hb1.mono hb0.size)⟩
  · have Hg := Lib.hid hg; clear hg
    obtain ⟨ls, hls⟩ := Option.isSome_iff_exists.1 Hg.out
    have HW := Lib.hid (wf_of (gOk_lens hls).1)
    have hlen : n ≤ 400 := by have := (gOk_lens hls).2.1; have := hl.out; omega
    have e := Lib.hid (show lvTuple rs = .tuple #[.bool (islAll rs), .int .i64 0] by unfold lvTuple; rw [Hg.out]; rfl)
    have hc := Lib.hid (validG_any A n c rs _ (by omega) hr0 hok true Hg.out)
    clear hls
    go_enter Try.func12, Try.ntmps12
    go_wp2_with fail
    refine hc.out.mono ?_
    rintro e1 w1 ⟨rfl, hb1⟩
    have b1 := hb0.trans (hb1.mono hb0.size)
    have cg1 := (hB0.out.next hb1).cell 0
    have lg1 := (hB0.out.next hb1).lt
    go_wp2_with fail
    refine (depths_any A n c rs w1 (by omega) (hr.next b1) HW.out).mono ?_
    rintro e2 w2 ⟨A2, c2, rfl, own2, hb2⟩
    have b2 := b1.trans (hb2.mono b1.size)
    have cg2 := ((hB0.out.next hb1).next hb2).cell 0
    have lg2 := ((hB0.out.next hb1).next hb2).lt
    have O2 := Lib.hid own2; clear own2 cg1 lg1
    go_wp2_with fail
    refine namedC fun w3 H3 => ?_
    have B3 : Blk w3 w2.heap.size 55 #[.slice A2 (foldAll 0 depF depG 0 rs).length c2] := by rw [H3.out]; exact Blk.new _ _ _
    have hb3 : Below w2.heap.size w2 w3 := by rw [H3.out]; (repeat first | exact Below.refl _ _ | assumption | refine Below.drew ?_ | refine Below.alloc ?_ (by first | exact Nat.le_refl _ | (simp; done) | omega | (simp; omega)) _ | refine Below.setCell ?_ (by first | exact Nat.le_refl _ | (simp; done) | omega | (simp; omega)) _)
    have own3 := own_next O2.out hb3
    have b3 := b2.trans (hb3.mono b2.size)
    refine (containsRule_any 37 (enterOk Try.func37 (by kernel_rfl) (by kernel_rfl)) #[.pointer (some ⟨w2.heap.size, 0, none⟩)] (fun x => !islRule (foldAll 0 depF depG 0 rs) x) A n c rs w3 (by omega) (hr.next b3) ?_).mono ?_
    · intro k x hx w' hb'
      have hln := hl.out
      have hkn : k < rs.length := (List.getElem?_eq_some_iff.1 hx).1
      have hfa : foldAll 0 depF depG 0 rs = depths rs := by rw [depths_all, if_neg (by omega)]
      rw [hfa] at B3 own3 ⊢
      have hdl := depths_len rs
      have B4 := B3.next hb'
      have R4 := (Rd.of_own (enc := intE) (fun _ _ => rfl) hdl.symm.symm (by rw [hdl] at own3; exact own3)).next hb'
      rw [hdl] at B4
      refine isLevel1_any w2.heap.size A2 rs.length c2 (depths rs) x w' B4.lt (B4.cell 0) R4 (fun h0 => ?_) (fun i hi => ?_)
      · rcases HW.out k x hx with ⟨_, h1, h2, h3, h4⟩ | ⟨cc, _, hxl, _⟩
        · exact ⟨h1, by omega, h3, by omega⟩
        · rw [hxl] at h0; exact absurd h0 (show ¬ (1 : Nat) = 0 by omega)
      · have := depths_getD HW.out hi; omega
    rintro e4 w4 ⟨rfl, hb4⟩
    have e5 := Lib.hid (show (!(rs.any fun x => !islRule (foldAll 0 depF depG 0 rs) x)) = islAll rs by
      rw [any_not]
      unfold islAll
      by_cases h0 : rs.length = 0
      · rw [List.eq_nil_of_length_eq_zero h0]; rfl
      · rw [depths_all, if_neg h0])
    go_wp2_with fail
    go_ret2
    exact ⟨by rw [e.out, ← e5.out]; rfl, b3.trans (hb4.mono b3.size)⟩
end Go.Proofs.Ytajfjgemfnfakaa


/-
  impl.folded at [4]int64: what it makes of a grammar, by the contracts of the two functions that it is handed.
-/
namespace Go.Proofs.Ytajfjgemfnfakaa
open Go.RowKit

structure Q4 where
  a : Int
  b : Int
  c : Int
  d : Int
  deriving Inhabited, DecidableEq
def Q4.nil : Q4 := ⟨0, 0, 0, 0⟩
def encQ4 (y : Q4) : List Value := [.int .i64 y.a, .int .i64 y.b, .int .i64 y.c, .int .i64 y.d]
theorem lenQ4 (y : Q4) : (encQ4 y).length = 4 := rfl

end Go.Proofs.Ytajfjgemfnfakaa


/-
  How often letters occur in the words of all rules: the model, and the program's census.
-/
namespace Go.Proofs.Ytajfjgemfnfakaa
open Go.RowKit

/-- the number of a letter in four numbers -/
def Q4.at_ (q : Q4) : Nat → Int
  | 0 => q.a
  | 1 => q.b
  | 2 => q.c
  | _ => q.d
theorem encQ4_at (q : Q4) {l : Nat} (h : l < 4) : (encQ4 q)[l]? = some (.int .i64 (q.at_ l)) := by
  match l, h with
  | 0, _ => rfl
  | 1, _ => rfl
  | 2, _ => rfl
  | 3, _ => rfl
def cntF (l : Nat) : Q4 := ⟨if l = 0 then 1 else 0, if l = 1 then 1 else 0, if l = 2 then 1 else 0, if l = 3 then 1 else 0⟩
def cntG (x y : Q4) (_ : Fac) : Q4 := ⟨x.a + y.a, x.b + y.b, x.c + y.c, x.d + y.d⟩
theorem cntF_at (l : Nat) {j : Nat} (h : j < 4) : (cntF l).at_ j = if l = j then 1 else 0 := by
  match j, h with
  | 0, _ => rfl
  | 1, _ => rfl
  | 2, _ => rfl
  | 3, _ => rfl
theorem cntG_at (x y : Q4) (r : Fac) (j : Nat) : (cntG x y r).at_ j = x.at_ j + y.at_ j := by
  match j with
  | 0 => rfl
  | 1 => rfl
  | 2 => rfl
  | _ + 3 => rfl
/-- how often letters occur, for each rule -/
abbrev cnts (rs : List Fac) : List Q4 := full Q4.nil cntF cntG rs
def QB (m : Int) (q : Q4) : Prop := 0 ≤ q.a ∧ 0 ≤ q.b ∧ 0 ≤ q.c ∧ 0 ≤ q.d ∧ q.a + q.b + q.c + q.d = m
theorem QB.at_ {m : Int} {q : Q4} (h : QB m q) (j : Nat) : 0 ≤ q.at_ j ∧ q.at_ j ≤ m := by
  obtain ⟨h0, h1, h2, h3, h4⟩ := h
  match j with
  | 0 => exact ⟨h0, show q.a ≤ m by omega⟩
  | 1 => exact ⟨h1, show q.b ≤ m by omega⟩
  | 2 => exact ⟨h2, show q.c ≤ m by omega⟩
  | _ + 3 => exact ⟨h3, show q.d ≤ m by omega⟩
theorem cnt_bound {rs : List Fac} {ls : List Int} (hls : gLens rs [] = some ls) {k : Nat} (hk : k < rs.length) : QB (ls.getD k 0) ((cnts rs).getD k Q4.nil) := by
  have hwf := wf_of hls
  refine full_ind Q4.nil cntF cntG hwf (fun k x => QB (ls.getD k 0) x) (fun k r hr h => ?_) (fun k r a b hr h0 h1 h2 h3 h4 ha hb => ?_) k hk
  · have h0 : r.l.size ≠ 0 := by
      obtain ⟨c, _, e⟩ := letT_one h
      rw [e]; show (1 : Nat) ≠ 0; omega
    show QB (ls.getD k 0) _
    rw [lens_let hls hr h0]
    have := letN_lt h
    generalize letN r.l = l at *
    match l, this with
    | 0, _ => simp [QB, cntF]
    | 1, _ => simp [QB, cntF]
    | 2, _ => simp [QB, cntF]
    | 3, _ => simp [QB, cntF]
  · show QB (ls.getD k 0) _
    rw [lens_pair hls hr h0]
    obtain ⟨a0, a1, a2, a3, a4⟩ := ha
    obtain ⟨b0, b1, b2, b3, b4⟩ := hb
    simp only [QB, cntG]
    omega
theorem cnt_at {rs : List Fac} {ls : List Int} (hls : gLens rs [] = some ls) {k : Nat} (hk : k < rs.length) (j : Nat) : 0 ≤ ((cnts rs).getD k Q4.nil).at_ j ∧ ((cnts rs).getD k Q4.nil).at_ j ≤ 1000000000000000 := by
  have h1 := (cnt_bound hls hk).at_ j
  have h2 := lens_bound hls hk
  omega
abbrev Q4.v (x : Q4) : Value := .agg #[.int .i64 x.a, .int .i64 x.b, .int .i64 x.c, .int .i64 x.d]
theorem Blk.four {w : World} {g : Nat} {t : TypeId} {x y z u : Value} (h : Blk w g t #[x, y, z, u]) : w.cell? ⟨g, 0, none⟩ = some x ∧ w.cell? ⟨g, 1, none⟩ = some y ∧ w.cell? ⟨g, 2, none⟩ = some z ∧ w.cell? ⟨g, 3, none⟩ = some u := ⟨h.cell 0, h.cell 1, h.cell 2, h.cell 3⟩

end Go.Proofs.Ytajfjgemfnfakaa


/-
  A new slice of four numbers.
-/
namespace Go.Proofs.Ytajfjgemfnfakaa
open Go.RowKit

theorem info_i64 : (Try.prog.info? 2).map (fun i => (i.zero, i.size, i.bytes)) = some (some (.int .i64 0), 1, 8) := by kernel_rfl
theorem made4 : madeCells (Value.int .i64 0).cells (4 * 1) = #[.int .i64 0, .int .i64 0, .int .i64 0, .int .i64 0] := by
  apply Array.ext
  · simp [size_madeCells]
  · intro i h1 h2
    have h3 : i < 4 := h2
    match i, h3 with
    | 0, _ => simp [madeCells, Value.cells]
    | 1, _ => simp [madeCells, Value.cells]
    | 2, _ => simp [madeCells, Value.cells]
    | 3, _ => simp [madeCells, Value.cells]
theorem make4 (W : World) : (Instr.makeSlice 55 (.int .i64 4) (.int .i64 4)).run Try.prog W = .ok (.slice (some ⟨W.heap.size, 0, none⟩) 4 4) (W.alloc (.cells #[.int .i64 0, .int .i64 0, .int .i64 0, .int .i64 0] 2)) := by
  obtain ⟨i0, hi, hz0, hz1, hz2⟩ := info_parts info_i64
  have hmk := run_make_rowN (P := Try.prog) 55 2 i0 _ Try.underlying55 hi hz0 .i64 .i64 4 4 (Nat.le_refl _) (by rw [hz2]; omega) (by omega) W
  rw [hz1, made4] at hmk
  exact hmk
end Go.Proofs.Ytajfjgemfnfakaa


/-
  The program's census, and the reference's table of counts.
-/
namespace Go.Proofs.Ytajfjgemfnfakaa
open Go.RowKit

def encG (g : Nat) : List Value := [.slice (some ⟨g, 0, none⟩) 4 4]
theorem one_encG (g : Nat) : ∀ u ∈ encG g, u.oneCell' = true := by
  intro u hu
  obtain rfl : u = .slice (some ⟨g, 0, none⟩) 4 4 := by simpa [encG] using hu
  rfl
def RowsOk (w : World) (base : Nat) (gs : List Nat) (qs : List Q4) : Prop := gs.length = qs.length ∧ ∀ i g, gs[i]? = some g → base ≤ g ∧ Blk w g 2 (encQ4 (qs.getD i Q4.nil)).toArray
def RetRows (w0 : World) (qs : List Q4) (e : Ending) (w' : World) : Prop :=
  ∃ A c gs, e = .returned (.slice A qs.length c) ∧ w'.ownsRow w0.heap.size 55 1 (.slice A qs.length c) qs.length (gs.flatMap encG) ∧ RowsOk w' w0.heap.size gs qs ∧ Below w0.heap.size w0 w'
/-- a table of numbers in memory -/
def Tab (w : World) (B : Nat) (A : Option Addr) (n : Nat) (qs : List Q4) : Prop :=
  qs.length = n ∧ ∀ k, k < n → ∃ b o g, A = some ⟨b, o, none⟩ ∧ b < B ∧ g < B ∧ w.cell? ⟨b, o + k, none⟩ = some (.slice (some ⟨g, 0, none⟩) 4 4) ∧ ∀ j, j < 4 → w.cell? ⟨g, j, none⟩ = some (.int .i64 ((qs.getD k Q4.nil).at_ j))
theorem Tab.next {w w' : World} {A : Option Addr} {n : Nat} {qs : List Q4} (h : Tab w w.heap.size A n qs) (hb : Below w.heap.size w w') : Tab w' w'.heap.size A n qs := by
  refine ⟨h.1, fun k hk => ?_⟩
  obtain ⟨b, o, g, hA, hB, hg, hc, hj⟩ := h.2 k hk
  have := hb.size
  exact ⟨b, o, g, hA, by omega, by omega, (hb.cell (p := ⟨b, o + k, none⟩) hB).trans hc, fun j hj' => (hb.cell (p := ⟨g, j, none⟩) hg).trans (hj j hj')⟩
theorem encG_at {w : World} {base c k : Nat} {A : Option Addr} {gs : List Nat} (h : w.ownsRow base 55 1 (.slice A k c) k (gs.flatMap encG)) (hl : gs.length = k) {i : Nat} (hi : i < k) :
    ∃ p g, A = some ⟨p, 0, none⟩ ∧ base ≤ p ∧ p < w.heap.size ∧ gs[i]? = some g ∧ w.cell? ⟨p, i, none⟩ = some (.slice (some ⟨g, 0, none⟩) 4 4) := by
  obtain ⟨p, cap, hv, hg, hs⟩ := h.form (by omega)
  injection hv with hA _ _
  subst hA
  have hx : gs[i]? = some (gs[i]'(by omega)) := List.getElem?_eq_getElem _
  refine ⟨p, _, rfl, hg, hs, hx, ?_⟩
  rw [h.cellAt i (by omega)]
  have := flat_at (enc := encG) (sz := 1) gs (fun _ _ => rfl) i _ hx 0 (by omega)
  rw [Nat.mul_one, Nat.add_zero] at this
  rw [this]; rfl
theorem Tab.of {w : World} {base c n : Nat} {A : Option Addr} {gs : List Nat} {qs : List Q4} (hn : qs.length = n) (h : w.ownsRow base 55 1 (.slice A n c) n (gs.flatMap encG)) (hr : RowsOk w base gs qs) : Tab w w.heap.size A n qs := by
  refine ⟨hn, fun k hk => ?_⟩
  obtain ⟨p, g, hA, hp, hs, hx, hc⟩ := encG_at h (hr.1.trans hn) hk
  obtain ⟨hg, hB⟩ := hr.2 k g hx
  refine ⟨p, 0, g, hA, hs, hB.lt, by simpa using hc, fun j hj => ?_⟩
  rw [hB.cell]
  simpa using encQ4_at (qs.getD k Q4.nil) hj
def part (q : Q4) (l : Nat) : Array Value := #[.int .i64 (if 0 < l then q.a else 0), .int .i64 (if 1 < l then q.b else 0), .int .i64 (if 2 < l then q.c else 0), .int .i64 (if 3 < l then q.d else 0)]
theorem part_size (q : Q4) (l : Nat) : (part q l).size = 4 := rfl
theorem part_all (q : Q4) : part q 4 = (encQ4 q).toArray := rfl
theorem part_at (q : Q4) {l : Nat} (h : l < 4) : (part q l)[l]? = some (.int .i64 0) := by
  match l, h with
  | 0, _ => rfl
  | 1, _ => rfl
  | 2, _ => rfl
  | 3, _ => rfl
theorem part_set (q : Q4) {l : Nat} (h : l < 4) : (part q l).setIfInBounds l (.int .i64 (q.at_ l)) = part q (l + 1) := by
  match l, h with
  | 0, _ => rfl
  | 1, _ => rfl
  | 2, _ => rfl
  | 3, _ => rfl
theorem part_skip (q : Q4) {l : Nat} (h : l < 4) (h0 : q.at_ l = 0) : part q l = part q (l + 1) := by
  rw [← part_set q h, h0]
  apply Array.ext_getElem?
  intro i
  by_cases hi : i = l
  · subst hi; rw [part_at q h, Array.getElem?_setIfInBounds_self_of_lt (by rw [part_size]; exact h)]
  · rw [Array.getElem?_setIfInBounds_ne (by omega)]
theorem fill_row {w wo wr : World} {k c' l : Nat} {A' : Option Addr} {gs : List Nat} {os : List Q4} {q : Q4} {x : Fac} (hb2 : Below w.heap.size w wr) (hO : wr.ownsRow w.heap.size 55 1 (.slice A' k c') k (gs.flatMap encG))
    (hQ : RowsOk wr w.heap.size gs os) (BX : Blk wr wo.heap.size 59 #[.string x.l, .int .i64 x.a, .int .i64 x.b]) (BL : Blk wr (wo.heap.size + 1) 2 (part q l)) (hgs : ∀ (i g : Nat), gs[i]? = some g → g < wo.heap.size)
    (hw : w.heap.size ≤ wo.heap.size + 1) (hl : l < 4) :
    Below w.heap.size w (wr.setCell ⟨wo.heap.size + 1, l, none⟩ (.int .i64 (q.at_ l))) ∧ (wr.setCell ⟨wo.heap.size + 1, l, none⟩ (.int .i64 (q.at_ l))).ownsRow w.heap.size 55 1 (.slice A' k c') k (gs.flatMap encG) ∧
      RowsOk (wr.setCell ⟨wo.heap.size + 1, l, none⟩ (.int .i64 (q.at_ l))) w.heap.size gs os ∧ Blk (wr.setCell ⟨wo.heap.size + 1, l, none⟩ (.int .i64 (q.at_ l))) wo.heap.size 59 #[.string x.l, .int .i64 x.a, .int .i64 x.b] ∧
      Blk (wr.setCell ⟨wo.heap.size + 1, l, none⟩ (.int .i64 (q.at_ l))) (wo.heap.size + 1) 2 (part q (l + 1)) := by
  refine ⟨hb2.setCell hw _, hO.kept (gb_set wr _ _ _) (.inr (own_blk_ne hO BL (by decide)).symm), ⟨hQ.1, fun i g h => ⟨(hQ.2 i g h).1, (hQ.2 i g h).2.far (by have := hgs i g h; show g ≠ wo.heap.size + 1; omega) _⟩⟩, BX.far (by show wo.heap.size ≠ wo.heap.size + 1; omega) _, ?_⟩
  rw [← part_set q hl]
  exact BL.set_ l _
theorem rows_push {w w8 w9 : World} {k c' g : Nat} {A' : Option Addr} {gs : List Nat} {os : List Q4} {q : Q4} {base : Nat} (hO : w8.ownsRow base 55 1 (.slice A' k c') k (gs.flatMap encG)) (hQ : RowsOk w base gs os) (hk : os.length = k)
    (BL : Blk w g 2 (encQ4 q).toArray) (hg : base ≤ g) (h8 : ∀ (g : Nat) (t : TypeId) (cs : Array Value), Blk w g t cs → Blk w8 g t cs) (hg9 : w8.grownBy w9 (Value.slice A' k c').ownBlock) : RowsOk w9 base (gs ++ [g]) (os ++ [q]) := by
  have hlen := hQ.1
  refine ⟨by simp [hlen], fun i p hp => ?_⟩
  by_cases hi : i < os.length
  · rw [List.getElem?_append_left (by omega)] at hp
    obtain ⟨h1, h2⟩ := hQ.2 i p hp
    have h3 := h8 _ _ _ h2
    refine ⟨h1, ?_⟩
    rw [List.getD_eq_getElem?_getD, List.getElem?_append_left hi, ← List.getD_eq_getElem?_getD]
    exact h3.grown hg9 (own_blk_ne hO h3 (by decide))
  · have hi2 : i = os.length := by
      have := (List.getElem?_eq_some_iff.1 hp).1
      simp at this; omega
    subst hi2
    rw [List.getElem?_append_right (by omega), hlen] at hp
    obtain rfl : g = p := by simpa using hp
    have h3 := h8 _ _ _ BL
    refine ⟨hg, ?_⟩
    rw [List.getD_eq_getElem?_getD, List.getElem?_append_right (by omega)]
    simp only [Nat.sub_self, List.getElem?_cons_zero, Option.getD_some]
    exact h3.grown hg9 (own_blk_ne hO h3 (by decide))
end Go.Proofs.Ytajfjgemfnfakaa


/-
  The last of what is made of a grammar.
-/
namespace Go.Proofs.Ytajfjgemfnfakaa

def tup2 (a b : Int) : Value := .tuple #[.int .i64 a, .int .i64 b]
theorem foldAll_len {α : Type} (d : α) (F : Nat → α) (G : α → α → Fac → α) (z : α) (rs : List Fac) : 1 ≤ (foldAll d F G z rs).length ∧ (foldAll d F G z rs).length ≤ rs.length + 1 := by
  unfold foldAll
  split
  · simp
  · rw [foldG_len]; simp; omega
/-- the last of what is made -/
theorem foldAll_top {α : Type} (d : α) (F : Nat → α) (G : α → α → Fac → α) (z : α) (rs : List Fac) : (foldAll d F G z rs).getD ((foldAll d F G z rs).length - 1) d = if rs.length = 0 then z else (full d F G rs).getD (rs.length - 1) d := by
  unfold foldAll
  split
  · rfl
  · have := full_len d F G (rs := rs)
    unfold full at this ⊢
    rw [this]
theorem foldAll_pos {α : Type} (d : α) (F : Nat → α) (G : α → α → Fac → α) (z : α) {rs : List Fac} (h : 0 < rs.length) : foldAll d F G z rs = full d F G rs := by
  unfold foldAll
  rw [if_neg (by omega)]
end Go.Proofs.Ytajfjgemfnfakaa


/-
  PlaceSum in the program and in the reference.
-/
namespace Go.Proofs.Ytajfjgemfnfakaa
open Go.RowKit

theorem emod_b {a m : Int} (hm : 0 < m) : 0 ≤ a % m ∧ a % m < m := ⟨Int.emod_nonneg a (by omega), Int.emod_lt_of_pos a hm⟩
theorem mul_b {a b : Int} (h0 : 0 ≤ a) (h1 : a ≤ 1000000000) (h2 : 0 ≤ b) (h3 : b ≤ 1000000000) : 0 ≤ a * b ∧ a * b ≤ 1000000000000000000 := by
  refine ⟨Int.mul_nonneg h0 h2, ?_⟩
  have := Int.mul_le_mul h1 h3 h2 (show (0 : Int) ≤ 1000000000 by omega)
  omega
def plF (_ : Nat) : Int := 0
def plG (ls : List Int) (cs : List Q4) (l : Nat) (m : Int) (x y : Int) (r : Fac) : Int := (x + y + (ls.getD r.a.toNat 0) % m * (((cs.getD r.b.toNat Q4.nil).at_ l) % m)) % m
theorem pl_prod {rs : List Fac} {ls : List Int} (hls : gLens rs [] = some ls) {m : Int} (h1 : 1 ≤ m) (h2 : m ≤ 1000000000) {i j : Nat} (hi : i < rs.length) (hj : j < rs.length) (l : Nat) :
    0 ≤ (ls.getD i 0) % m * ((((cnts rs).getD j Q4.nil).at_ l) % m) ∧ (ls.getD i 0) % m * ((((cnts rs).getD j Q4.nil).at_ l) % m) ≤ 1000000000000000000 := by
  have a1 := lens_bound hls hi
  have a2 := cnt_at hls hj l
  have b1 := emod_b (a := ls.getD i 0) (m := m) (by omega)
  have b2 := emod_b (a := ((cnts rs).getD j Q4.nil).at_ l) (m := m) (by omega)
  exact mul_b b1.1 (by omega) b2.1 (by omega)
theorem pl_bound {rs : List Fac} {ls : List Int} (hls : gLens rs [] = some ls) {l : Nat} {m : Int} (h1 : 1 ≤ m) (h2 : m ≤ 1000000000) {k : Nat} (hk : k < rs.length) :
    0 ≤ (full 0 plF (plG ls (cnts rs) l m) rs).getD k 0 ∧ (full 0 plF (plG ls (cnts rs) l m) rs).getD k 0 ≤ 1000000000 := by
  refine full_ind 0 plF (plG ls (cnts rs) l m) (wf_of hls) (fun _ x => 0 ≤ x ∧ x ≤ 1000000000) (fun k r _ _ => ?_) (fun k r a b hr h0 ha0 ha1 hb0 hb1 ha hb => ?_) k hk
  · show (0 : Int) ≤ 0 ∧ (0 : Int) ≤ 1000000000
    omega
  · have hk : k < rs.length := (List.getElem?_eq_some_iff.1 hr).1
    have p := pl_prod hls h1 h2 (i := r.a.toNat) (j := r.b.toNat) (by omega) (by omega) l
    have q := emod_b (a := a + b + (ls.getD r.a.toNat 0) % m * ((((cnts rs).getD r.b.toNat Q4.nil).at_ l) % m)) (m := m) (by omega)
    exact ⟨q.1, by show (a + b + _) % m ≤ _; omega⟩
def topI (F : Nat → Int) (G : Int → Int → Fac → Int) (rs : List Fac) : Int := if rs.length = 0 then 0 else (full 0 F G rs).getD (rs.length - 1) 0
def placeV (rs : List Fac) (s : ByteArray) (m : Int) : Value :=
  if (gOk rs).isSome = false then tup2 0 1 else if letT s = false then tup2 0 1 else if inB m 1 1000000000 = false then tup2 0 2
  else tup2 (topI plF (plG ((gLens rs []).getD []) (cnts rs) (letN s) m) rs) 0
theorem placeV_form (rs : List Fac) (s : ByteArray) (m : Int) : ∃ b k, placeV rs s m = .tuple #[.int .i64 b, .int .i64 k] := by
  unfold placeV
  split
  · exact ⟨_, _, rfl⟩
  split
  · exact ⟨_, _, rfl⟩
  split
  · exact ⟨_, _, rfl⟩
  · exact ⟨_, _, rfl⟩
theorem Rd.q4 {w : World} {B n : Nat} {A : Option Addr} {xs : List Q4} {k : Nat} (h : Rd w B A n 4 encQ4 xs) (hk : k < n) {l : Nat} (hl : l < 4) :
    ∃ b o, A = some ⟨b, o, none⟩ ∧ b < B ∧ w.cell? ⟨b, o + k * 4 + l, none⟩ = some (.int .i64 ((xs.getD k Q4.nil).at_ l)) := by
  obtain ⟨b, o, hA, hb, x, hx, hc⟩ := h.at_ hk
  refine ⟨b, o, hA, hb, ?_⟩
  rw [hc l _ (encQ4_at x hl), List.getD_eq_getElem?_getD, hx]; rfl
theorem placeV1 {rs : List Fac} {s : ByteArray} {m : Int} (h : (gOk rs).isSome = false) : placeV rs s m = tup2 0 1 := by unfold placeV; rw [if_pos h]
theorem placeV2 {rs : List Fac} {s : ByteArray} {m : Int} (h : (gOk rs).isSome = true) (h2 : letT s = false) : placeV rs s m = tup2 0 1 := by unfold placeV; rw [if_neg (by rw [h]; decide), if_pos h2]
theorem placeV3 {rs : List Fac} {s : ByteArray} {m : Int} (h : (gOk rs).isSome = true) (h2 : letT s = true) (h3 : inB m 1 1000000000 = false) : placeV rs s m = tup2 0 2 := by unfold placeV; rw [if_neg (by rw [h]; decide), if_neg (by rw [h2]; decide), if_pos h3]
theorem placeV4 {rs : List Fac} {ls : List Int} {s : ByteArray} {m : Int} (hls : gLens rs [] = some ls) (h : (gOk rs).isSome = true) (h2 : letT s = true) (h3 : inB m 1 1000000000 = true) : placeV rs s m = tup2 (topI plF (plG ls (cnts rs) (letN s) m) rs) 0 := by
  unfold placeV; rw [if_neg (by rw [h]; decide), if_neg (by rw [h2]; decide), if_neg (by rw [h3]; decide), hls]; rfl
theorem top_topI (F : Nat → Int) (G : Int → Int → Fac → Int) (rs : List Fac) : (foldAll 0 F G 0 rs).getD ((foldAll 0 F G 0 rs).length - 1) 0 = topI F G rs := foldAll_top _ _ _ _ rs
theorem elemI : Elem Try.prog 55 2 1 8 := Elem.mk' (z := .int .i64 0) Try.underlying55 (by kernel_rfl) rfl
end Go.Proofs.Ytajfjgemfnfakaa


/-
  SelectOf in the program and in the reference.
-/
namespace Go.Proofs.Ytajfjgemfnfakaa
open Go.RowKit

def selGo (cs : List Q4) (ls : List Int) (rs : List Fac) (l : Nat) : Nat → Nat → Int → Int → Int
  | 0, _, _, n => n
  | f + 1, r, k, n =>
    match rs[r]? with
    | none => n
    | some x => if x.l.size = 0 then (if k < (cs.getD x.a.toNat Q4.nil).at_ l then selGo cs ls rs l f x.a.toNat k n else selGo cs ls rs l f x.b.toNat (k - (cs.getD x.a.toNat Q4.nil).at_ l) (n + ls.getD x.a.toNat 0)) else n
theorem selGo_step {cs : List Q4} {ls : List Int} {rs : List Fac} {l : Nat} {f r : Nat} {k n : Int} {x : Fac} (hf : r < f) (hx : rs[r]? = some x) (h0 : x.l.size = 0) :
    selGo cs ls rs l f r k n = if k < (cs.getD x.a.toNat Q4.nil).at_ l then selGo cs ls rs l (f - 1) x.a.toNat k n else selGo cs ls rs l (f - 1) x.b.toNat (k - (cs.getD x.a.toNat Q4.nil).at_ l) (n + ls.getD x.a.toNat 0) := by
  obtain ⟨g, rfl⟩ : ∃ g, f = g + 1 := ⟨f - 1, by omega⟩
  rw [selGo, hx]
  simp only [if_pos h0, Nat.add_sub_cancel]
theorem selGo_stop {cs : List Q4} {ls : List Int} {rs : List Fac} {l : Nat} {f r : Nat} {k n : Int} {x : Fac} (hf : r < f) (hx : rs[r]? = some x) (h0 : x.l.size ≠ 0) : selGo cs ls rs l f r k n = n := by
  obtain ⟨g, rfl⟩ : ∃ g, f = g + 1 := ⟨f - 1, by omega⟩
  rw [selGo, hx]
  simp only [if_neg h0]
def topQ (rs : List Fac) : Q4 := if rs.length = 0 then Q4.nil else (cnts rs).getD (rs.length - 1) Q4.nil
theorem top_topQ (rs : List Fac) : (foldAll Q4.nil cntF cntG Q4.nil rs).getD ((foldAll Q4.nil cntF cntG Q4.nil rs).length - 1) Q4.nil = topQ rs := foldAll_top _ _ _ _ rs
def selV (rs : List Fac) (s : ByteArray) (k : Int) : Value :=
  if (gOk rs).isSome = false then tup2 0 1 else if letT s = false then tup2 0 1 else if k < 0 then tup2 0 2
  else if (topQ rs).at_ (letN s) ≤ k then tup2 0 6 else tup2 (selGo (cnts rs) ((gLens rs []).getD []) rs (letN s) rs.length (rs.length - 1) k 0) 0
theorem selV_form (rs : List Fac) (s : ByteArray) (k : Int) : ∃ b j, selV rs s k = .tuple #[.int .i64 b, .int .i64 j] := by
  unfold selV
  split
  · exact ⟨_, _, rfl⟩
  split
  · exact ⟨_, _, rfl⟩
  split
  · exact ⟨_, _, rfl⟩
  split
  · exact ⟨_, _, rfl⟩
  · exact ⟨_, _, rfl⟩
theorem selV1 {rs : List Fac} {s : ByteArray} {k : Int} (h : (gOk rs).isSome = false) : selV rs s k = tup2 0 1 := by unfold selV; rw [if_pos h]
theorem selV2 {rs : List Fac} {s : ByteArray} {k : Int} (h : (gOk rs).isSome = true) (h2 : letT s = false) : selV rs s k = tup2 0 1 := by unfold selV; rw [if_neg (by rw [h]; decide), if_pos h2]
theorem selV3 {rs : List Fac} {s : ByteArray} {k : Int} (h : (gOk rs).isSome = true) (h2 : letT s = true) (h3 : k < 0) : selV rs s k = tup2 0 2 := by unfold selV; rw [if_neg (by rw [h]; decide), if_neg (by rw [h2]; decide), if_pos h3]
theorem selV4 {rs : List Fac} {s : ByteArray} {k : Int} (h : (gOk rs).isSome = true) (h2 : letT s = true) (h3 : 0 ≤ k) (h4 : (topQ rs).at_ (letN s) ≤ k) : selV rs s k = tup2 0 6 := by
  unfold selV; rw [if_neg (by rw [h]; decide), if_neg (by rw [h2]; decide), if_neg (by omega), if_pos h4]
theorem selV5 {rs : List Fac} {ls : List Int} {s : ByteArray} {k : Int} (hls : gLens rs [] = some ls) (h : (gOk rs).isSome = true) (h2 : letT s = true) (h3 : 0 ≤ k) (h4 : k < (topQ rs).at_ (letN s)) : selV rs s k = tup2 (selGo (cnts rs) ls rs (letN s) rs.length (rs.length - 1) k 0) 0 := by
  unfold selV; rw [if_neg (by rw [h]; decide), if_neg (by rw [h2]; decide), if_neg (by omega), if_neg (by omega), hls]; rfl
end Go.Proofs.Ytajfjgemfnfakaa


/-
  Sums over the rules that are met for a beginning of the word.
-/
namespace Go.Proofs.Ytajfjgemfnfakaa
open Go.RowKit

/-- the sum of values for the first letters of a rule's word -/
def rk (v : Nat → Int) (ls : List Int) (rs : List Fac) : Nat → Nat → Int → Int
  | 0, _, _ => 0
  | f + 1, r, m =>
    if m ≤ 0 then 0 else if ls.getD r 0 ≤ m then v r else
    match rs[r]? with
    | none => 0
    | some x => rk v ls rs f x.a.toNat m + rk v ls rs f x.b.toNat (m - ls.getD x.a.toNat 0)
section
variable {v : Nat → Int} {ls : List Int} {rs : List Fac}
theorem rk_zero {f r : Nat} {m : Int} (h : m ≤ 0) : rk v ls rs f r m = 0 := by
  cases f with
  | zero => rfl
  | succ f => rw [rk, if_pos h]
theorem rk_full {f r : Nat} {m : Int} (hf : r < f) (h0 : 0 < m) (h : ls.getD r 0 ≤ m) : rk v ls rs f r m = v r := by
  obtain ⟨g, rfl⟩ : ∃ g, f = g + 1 := ⟨f - 1, by omega⟩
  rw [rk, if_neg (by omega), if_pos h]
theorem rk_go {f r : Nat} {m : Int} {x : Fac} (hf : r < f) (h0 : 0 < m) (h : m < ls.getD r 0) (hx : rs[r]? = some x) : rk v ls rs f r m = rk v ls rs (f - 1) x.a.toNat m + rk v ls rs (f - 1) x.b.toNat (m - ls.getD x.a.toNat 0) := by
  obtain ⟨g, rfl⟩ : ∃ g, f = g + 1 := ⟨f - 1, by omega⟩
  rw [rk, if_neg (by omega), if_neg (by omega), hx]
  rfl
def sumL (v : Nat → Int) : List Nat → Int
  | [] => 0
  | k :: r => v k + sumL v r
theorem sumL_app (v : Nat → Int) : ∀ a b : List Nat, sumL v (a ++ b) = sumL v a + sumL v b
  | [], b => by simp [sumL]
  | k :: r, b => by simp only [List.cons_append, sumL, sumL_app v r b]; omega
theorem pcs_sum (hls : gLens rs [] = some ls) (j : Int) : ∀ (f r : Nat) (a : Int), r < rs.length → 0 ≤ a → sumL v (pcs ls rs 0 j f r a) = rk v ls rs f r (j - a)
  | 0, _, _, _, _ => rfl
  | f + 1, r, a, hr, ha => by
    have lb := lens_bound hls hr
    rw [pcs, rk, if_neg (show ¬ a + ls.getD r 0 ≤ 0 by omega)]
    by_cases h2 : j ≤ a
    · rw [if_pos h2, if_pos (show j - a ≤ 0 by omega)]; rfl
    rw [if_neg h2, if_neg (show ¬ j - a ≤ 0 by omega)]
    by_cases h3 : a + ls.getD r 0 ≤ j
    · rw [if_pos (show 0 ≤ a ∧ a + ls.getD r 0 ≤ j from ⟨ha, h3⟩), if_pos (show ls.getD r 0 ≤ j - a by omega)]; simp [sumL]
    rw [if_neg (show ¬ (0 ≤ a ∧ a + ls.getD r 0 ≤ j) from fun h => h3 h.2), if_neg (show ¬ ls.getD r 0 ≤ j - a by omega)]
    have hx : rs[r]? = some (rs[r]'hr) := List.getElem?_eq_getElem _
    rw [hx]
    generalize rs[r]'hr = x at *
    have hab : x.a.toNat < rs.length ∧ x.b.toNat < rs.length := by
      rcases wf_of hls r x hx with ⟨_, h4, h5, h6, h7⟩ | ⟨_, _, _, h5, h6⟩
      · omega
      · rw [h5, h6]; show 0 < _ ∧ 0 < _; omega
    have lb2 := lens_bound hls hab.1
    show sumL v (pcs ls rs 0 j f x.a.toNat a ++ pcs ls rs 0 j f x.b.toNat (a + ls.getD x.a.toNat 0)) = _
    rw [sumL_app, pcs_sum hls j f _ a hab.1 ha, pcs_sum hls j f _ _ hab.2 (by omega), show j - (a + ls.getD x.a.toNat 0) = j - a - ls.getD x.a.toNat 0 by omega]
theorem rk_fuel (hls : gLens rs [] = some ls) : ∀ {r f g : Nat} {m : Int}, r < f → r < g → r < rs.length → rk v ls rs f r m = rk v ls rs g r m := by
  intro r
  induction r using Nat.strongRecOn with
  | ind r ih =>
    intro f g m hf hg hr
    by_cases h0 : m ≤ 0
    · rw [rk_zero h0, rk_zero h0]
    by_cases h1 : ls.getD r 0 ≤ m
    · rw [rk_full hf (by omega) h1, rk_full hg (by omega) h1]
    have hx : rs[r]? = some (rs[r]'hr) := List.getElem?_eq_getElem _
    generalize rs[r]'hr = x at *
    rcases wf_of hls r x hx with ⟨_, ha0, ha1, hb0, hb1⟩ | ⟨cc, _, hxl, _⟩
    · rw [rk_go hf (by omega) (by omega) hx, rk_go hg (by omega) (by omega) hx, ih x.a.toNat (by omega) (f := f - 1) (g := g - 1) (by omega) (by omega) (by omega), ih x.b.toNat (by omega) (f := f - 1) (g := g - 1) (by omega) (by omega) (by omega)]
    · exfalso
      have := lens_let hls hx (show x.l.size ≠ 0 by rw [hxl]; show (1 : Nat) ≠ 0; omega)
      omega
/-- between 0 and the length, where each value is -/
theorem rk_bound (hls : gLens rs [] = some ls) {c : Int} (hc : 0 ≤ c) (hv : ∀ k, k < rs.length → -(c * ls.getD k 0) ≤ v k ∧ v k ≤ c * ls.getD k 0) : ∀ (f r : Nat) (m : Int), r < rs.length → 0 ≤ m → -(c * m) ≤ rk v ls rs f r m ∧ rk v ls rs f r m ≤ c * m
  | 0, r, m, _, hm => by
    have := Int.mul_nonneg hc hm
    exact ⟨by show _ ≤ (0 : Int); omega, by show (0 : Int) ≤ _; omega⟩
  | f + 1, r, m, hr, hm => by
    have hcm := Int.mul_nonneg hc hm
    rw [rk]
    by_cases h0 : m ≤ 0
    · rw [if_pos h0]; omega
    rw [if_neg h0]
    by_cases h1 : ls.getD r 0 ≤ m
    · rw [if_pos h1]
      have := hv r hr
      have := Int.mul_le_mul_of_nonneg_left h1 hc
      omega
    rw [if_neg h1]
    have hx : rs[r]? = some (rs[r]'hr) := List.getElem?_eq_getElem _
    rw [hx]
    generalize rs[r]'hr = x at *
    have hab : x.a.toNat < rs.length ∧ x.b.toNat < rs.length := by
      rcases wf_of hls r x hx with ⟨_, h4, h5, h6, h7⟩ | ⟨_, _, _, h5, h6⟩
      · omega
      · rw [h5, h6]; show 0 < _ ∧ 0 < _; omega
    have lb2 := lens_bound hls hab.1
    show -(c * m) ≤ rk v ls rs f x.a.toNat m + rk v ls rs f x.b.toNat (m - ls.getD x.a.toNat 0) ∧ rk v ls rs f x.a.toNat m + rk v ls rs f x.b.toNat (m - ls.getD x.a.toNat 0) ≤ c * m
    by_cases h2 : m ≤ ls.getD x.a.toNat 0
    · rw [rk_zero (r := x.b.toNat) (show m - ls.getD x.a.toNat 0 ≤ 0 by omega)]
      have := rk_bound hls hc hv f x.a.toNat m hab.1 hm
      omega
    · have e1 : f = 0 ∨ rk v ls rs f x.a.toNat m = v x.a.toNat := by
        cases f with
        | zero => exact Or.inl rfl
        | succ f => right; rw [rk, if_neg h0, if_pos (by omega)]
      rcases e1 with e1 | e1
      · subst e1
        show -(c * m) ≤ (0 : Int) + 0 ∧ (0 : Int) + 0 ≤ c * m
        omega
      · rw [e1]
        have a1 := hv x.a.toNat hab.1
        have a2 := rk_bound hls hc hv f x.b.toNat (m - ls.getD x.a.toNat 0) hab.2 (by omega)
        rw [Int.mul_sub] at a2
        omega
end
theorem wrap_add (a b : Int) : wrap64 (wrap64 a + b) = wrap64 (a + b) := by unfold wrap64; omega
theorem wrap_in {a : Int} (h0 : -9223372036854775808 ≤ a) (h1 : a ≤ 9223372036854775807) : wrap64 a = a := by unfold wrap64; omega
theorem fold_wrap (v : Nat → Int) : ∀ (l : List Nat) (s : Int), -9223372036854775808 ≤ s → s ≤ 9223372036854775807 → l.foldl (fun s k => wrap64 (s + v k)) s = wrap64 (s + sumL v l)
  | [], s, h0, h1 => by simp only [List.foldl_nil, sumL, Int.add_zero]; rw [wrap_in h0 h1]
  | k :: r, s, h0, h1 => by
    rw [List.foldl_cons, fold_wrap v r _ (by unfold wrap64; omega) (by unfold wrap64; omega), wrap_add, sumL, Int.add_assoc]
/-- the whole sum -/
def rkT (v : Nat → Int) (ls : List Int) (rs : List Fac) (m : Int) : Int := if rs.length = 0 then 0 else rk v ls rs rs.length (rs.length - 1) m
theorem pcsT_sum {v : Nat → Int} {ls : List Int} {rs : List Fac} (hls : gLens rs [] = some ls) {m : Int} (hm : 0 ≤ m) : sumL v (pcsT ls rs 0 m) = rkT v ls rs m := by
  unfold pcsT rkT
  by_cases h0 : rs.length = 0
  · rw [if_neg (by omega), if_pos h0]; rfl
  rw [if_neg h0]
  by_cases h1 : 0 < m
  · rw [if_pos (by omega), pcs_sum hls m rs.length _ 0 (by omega) (by omega), Int.sub_zero]
  · rw [if_neg (by omega), rk_zero (by omega)]; rfl
theorem fold_pcsT {v : Nat → Int} {ls : List Int} {rs : List Fac} (hls : gLens rs [] = some ls) {m : Int} (hm : 0 ≤ m) {c : Int} (hc : 0 ≤ c) (hv : ∀ k, k < rs.length → -(c * ls.getD k 0) ≤ v k ∧ v k ≤ c * ls.getD k 0) (hb : c * m ≤ 9000000000000000000) :
    (pcsT ls rs 0 m).foldl (fun s k => wrap64 (s + v k)) 0 = rkT v ls rs m := by
  have h : -(c * m) ≤ rkT v ls rs m ∧ rkT v ls rs m ≤ c * m := by
    have := Int.mul_nonneg hc hm
    unfold rkT
    by_cases h0 : rs.length = 0
    · rw [if_pos h0]; omega
    · rw [if_neg h0]; exact rk_bound hls hc hv _ _ _ (by omega) hm
  rw [fold_wrap v _ 0 (by omega) (by omega), pcsT_sum hls hm, Int.zero_add, wrap_in (by omega) (by omega)]
end Go.Proofs.Ytajfjgemfnfakaa


/-
  RankOf in the program.
-/
namespace Go.Proofs.Ytajfjgemfnfakaa
open Go.RowKit

def rkV (rs : List Fac) (l : Nat) (k : Nat) : Int := ((cnts rs).getD k Q4.nil).at_ l
theorem rkV_bound {rs : List Fac} {ls : List Int} (hls : gLens rs [] = some ls) (l : Nat) : ∀ k, k < rs.length → -(1 * ls.getD k 0) ≤ rkV rs l k ∧ rkV rs l k ≤ 1 * ls.getD k 0 := fun k hk => by
  have := (cnt_bound hls hk).at_ l
  have := lens_bound hls hk
  unfold rkV
  omega
def rankV (rs : List Fac) (s : ByteArray) (m : Int) : Value :=
  if (gOk rs).isSome = false then tup2 0 1 else if letT s = false then tup2 0 1 else if inB m 0 (lastI ((gLens rs []).getD [])) = false then tup2 0 2
  else tup2 (rkT (rkV rs (letN s)) ((gLens rs []).getD []) rs m) 0
theorem rankV_form (rs : List Fac) (s : ByteArray) (m : Int) : ∃ b k, rankV rs s m = .tuple #[.int .i64 b, .int .i64 k] := by
  unfold rankV
  split
  · exact ⟨_, _, rfl⟩
  split
  · exact ⟨_, _, rfl⟩
  split
  · exact ⟨_, _, rfl⟩
  · exact ⟨_, _, rfl⟩
theorem rankV1 {rs : List Fac} {s : ByteArray} {m : Int} (h : (gOk rs).isSome = false) : rankV rs s m = tup2 0 1 := by unfold rankV; rw [if_pos h]
theorem rankV2 {rs : List Fac} {s : ByteArray} {m : Int} (h : (gOk rs).isSome = true) (h2 : letT s = false) : rankV rs s m = tup2 0 1 := by unfold rankV; rw [if_neg (by rw [h]; decide), if_pos h2]
theorem rankV3 {rs : List Fac} {ls : List Int} {s : ByteArray} {m : Int} (hls : gLens rs [] = some ls) (h : (gOk rs).isSome = true) (h2 : letT s = true) (h3 : inB m 0 (lastI ls) = false) : rankV rs s m = tup2 0 2 := by
  unfold rankV; rw [if_neg (by rw [h]; decide), if_neg (by rw [h2]; decide), hls, if_pos (show inB m 0 (lastI ((some ls).getD [])) = false from h3)]
theorem rankV4 {rs : List Fac} {ls : List Int} {s : ByteArray} {m : Int} (hls : gLens rs [] = some ls) (h : (gOk rs).isSome = true) (h2 : letT s = true) (h3 : inB m 0 (lastI ls) = true) : rankV rs s m = tup2 (rkT (rkV rs (letN s)) ls rs m) 0 := by
  have : ¬ inB m 0 (lastI (Option.getD (some ls) [])) = false := by show ¬ inB m 0 (lastI ls) = false; rw [h3]; decide
  unfold rankV; rw [if_neg (by rw [h]; decide), if_neg (by rw [h2]; decide), hls, if_neg this]; rfl
theorem lastI_bound {rs : List Fac} {ls : List Int} (hls : gLens rs [] = some ls) (hl : ls.length = rs.length) : 0 ≤ lastI ls ∧ lastI ls ≤ 1000000000000000 := by
  unfold lastI
  by_cases h0 : rs.length = 0
  · rw [List.eq_nil_of_length_eq_zero (hl.trans h0)]; show (0 : Int) ≤ 0 ∧ (0 : Int) ≤ 1000000000000000; omega
  · have := lens_bound hls (i := ls.length - 1) (by omega)
    omega
end Go.Proofs.Ytajfjgemfnfakaa


/-
  RankOf in the reference.
-/
namespace Go.Proofs.Ytajfjgemfnfakaa
open Go.RowKit

end Go.Proofs.Ytajfjgemfnfakaa


/-
  The code of a grammar, a plain word and a modulus.
-/
namespace Go.Proofs.Ytajfjgemfnfakaa
open Go.RowKit

def modC (rs : List Fac) (p : ByteArray) (m : Int) : Int := if (gOk rs).isSome = false then 1 else if okW p = false then 1 else if inB m 1 1000000000 = false then 2 else 0
end Go.Proofs.Ytajfjgemfnfakaa
