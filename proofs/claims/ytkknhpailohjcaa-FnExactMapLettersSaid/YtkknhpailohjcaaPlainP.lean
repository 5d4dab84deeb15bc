/-
  The grammar of a plain word in the program.
-/
import Derived.Test.YtkknhpailohjcaaPlainI
import Derived.Deep.RegionLaw
import Derived.Deep.DeepCutAuto
namespace Go.Proofs.Ytkknhpailohjcaa
open Go.RowKit

/-- a slice of the call's own that is the beginning of one which is appended to -/
theorem own_prefix {W W' : World} {base E sz k n c0 c : Nat} {A0 A : Option Addr} {xs0 ys : List Value} (hsz : 0 < sz) (hL : W.ownsRow base E sz (.slice A0 k c0) k xs0) (hA : W.ownsRow base E sz (.slice A n c) n (xs0 ++ ys))
    (hA' : W'.ownsRow base E sz (.slice A n c) n (xs0 ++ ys)) (hg : W.grownBy W' (Value.slice A n c).ownBlock) : W'.ownsRow base E sz (.slice A0 k c0) k xs0 := by
  rcases hL.2 with ⟨hnil, hk⟩ | ⟨g0, cap0, cur0, hv0, hb0, hh0, hk0, hm0, hs0, ht0⟩
  · rw [hnil] at hL ⊢
    exact ⟨hL.1, .inl ⟨rfl, hk⟩⟩
  · by_cases hne : (Value.slice A n c).ownBlock = some g0
    · rcases hA'.2 with ⟨hnil, _⟩ | ⟨g1, cap1, cur1, hv1, hb1, hh1, hk1, hm1, hs1, ht1⟩
      · rw [hnil] at hne; cases hne
      · rcases hA.2 with ⟨hnil, _⟩ | ⟨g2, cap2, cur2, hv2, hb2, hh2, hk2, hm2, hs2, ht2⟩
        · rw [hnil] at hne; cases hne
        · rw [hv1] at hne
          have e1 : g1 = g0 := by simpa [Value.ownBlock] using hne
          have e2 : g1 = g2 ∧ cap1 = cap2 := by
            rw [hv1] at hv2; injection hv2 with q1 q2 q3; injection q1 with q1; injection q1 with q1; exact ⟨q1, q3⟩
          obtain ⟨e2, e3⟩ := e2
          subst e1 e2 e3
          have ec : cur0 = cur2 := by
            rw [hh0] at hh2; injection hh2 with q; injection q with q
          subst ec
          have ecap : cap0 = cap1 := by
            have := hs0.symm.trans hs2
            exact Nat.eq_of_mul_eq_mul_right hsz this
          subst ecap
          refine ⟨hL.1, .inr ⟨g1, cap0, cur1, hv0, hb0, hh1, hk0, hm0, hs1, ?_⟩⟩
          have hkn : k * sz ≤ n * sz := by
            have h1 := hA.1
            have h2 := hL.1
            rw [List.length_append] at h1; omega
          have e5 : cur1.toList.take (k * sz) = (cur1.toList.take (n * sz)).take (k * sz) := by rw [List.take_take, Nat.min_eq_left hkn]
          rw [e5, ht1, ← hL.1]
          exact List.take_left
    · refine hL.kept hg (.inr ?_)
      rw [hv0]
      intro e; exact hne e.symm

/-- the letters up to one -/
def ksT (w : List UInt8) (c : Int) : List UInt8 := [97, 98, 99, 100].filter (fun u => decide (u ∈ w) && decide ((u.toNat : Int) < c))
theorem ksT_first (w : List UInt8) : ksT w 97 = [] := by simp [ksT]
theorem ksT_last (w : List UInt8) : ksT w 101 = ksP w := by
  unfold ksT ksP
  apply List.filter_congr
  intro u hu
  have : (u.toNat : Int) < 101 := by
    simp only [List.mem_cons, List.not_mem_nil, or_false] at hu
    rcases hu with rfl | rfl | rfl | rfl <;> decide
  simp [this]
theorem ksT_step (w : List UInt8) (u : UInt8) (h : letB u = true) : ksT w ((u.toNat : Int) + 1) = if u ∈ w then ksT w u.toNat ++ [u] else ksT w u.toNat := by
  have h : (97 : Int) ≤ u.toNat ∧ (u.toNat : Int) ≤ 100 := by simpa [letB] using h
  have h4 : u = 97 ∨ u = 98 ∨ u = 99 ∨ u = 100 := by
    simp only [← UInt8.toNat_inj]
    have : u.toNat = 97 ∨ u.toNat = 98 ∨ u.toNat = 99 ∨ u.toNat = 100 := by omega
    exact this
  unfold ksT
  rcases h4 with rfl | rfl | rfl | rfl
  all_goals
    by_cases h1 : (97 : UInt8) ∈ w <;> by_cases h2 : (98 : UInt8) ∈ w <;> by_cases h3 : (99 : UInt8) ∈ w <;> by_cases h4 : (100 : UInt8) ∈ w <;> simp [h1, h2, h3, h4]
theorem ksT_le (w : List UInt8) (c : Int) : (ksT w c).length ≤ 4 := by
  unfold ksT; exact Nat.le_trans (List.length_filter_le _ _) (by simp)

/-- 'plain' under way -/
structure PlW (w W : World) (s : ByteArray) (A : Option Addr) (n c : Nat) (rs : List Fac) : Prop where
  q : W.ownsRow w.heap.size 75 3 (.slice A n c) n (rs.flatMap Fac.cells)
  s : Blk W w.heap.size 9 #[.string s]
  o : Blk W (w.heap.size + 1) 31 #[.slice none 0 0]
  g : Blk W (w.heap.size + 2) 31 #[.slice A n c]
  e : Below w.heap.size w W
section
variable {w W W' : World} {s : ByteArray} {A : Option Addr} {n c : Nat} {rs : List Fac}
theorem PlW.next (h : PlW w W s A n c rs) (hb : Below W.heap.size W W') : PlW w W' s A n c rs :=
  ⟨own_next h.q hb, h.s.next hb, h.o.next hb, h.g.next hb, h.e.trans (hb.mono h.e.size)⟩
theorem PlW.alloc (h : PlW w W s A n c rs) (o : Obj) : PlW w (W.alloc o) s A n c rs := h.next ((Below.refl _ _).alloc (Nat.le_refl _) _)
theorem PlW.push {A8 : Option Addr} {k8 c8 : Nat} {rs' : List Fac} (h : PlW w W s A n c rs) (hq : W'.ownsRow w.heap.size 75 3 (.slice A8 k8 c8) k8 (rs'.flatMap Fac.cells)) (hg : W.grownBy W' (Value.slice A n c).ownBlock) :
    PlW w (W'.setCell ⟨w.heap.size + 2, 0, none⟩ (.slice A8 k8 c8)) s A8 k8 c8 rs' := by
  have hs' := h.s.grown hg (own_blk_ne h.q h.s (by decide))
  have ho' := h.o.grown hg (own_blk_ne h.q h.o (by decide))
  have hg' := h.g.grown hg (own_blk_ne h.q h.g (by decide))
  have he' := h.e.grown hg h.e.size (own_ge h.q)
  have hg2 := gb_set W' (w.heap.size + 2) 0 (.slice A8 k8 c8)
  exact ⟨own_kept' hq hg' (by decide) _, hs'.grown hg2 (by intro e; injection e with e; omega), ho'.grown hg2 (by intro e; injection e with e; omega), hg'.set_ 0 _, he'.setCell (by simp) _⟩
end
set_option maxHeartbeats 1000000 in
set_option maxRecDepth 100000 in
theorem plainOf_any (L S : Nat) (z : Int) (i k c0 : Nat) (A0 : Option Addr) (s : ByteArray) (w : World) (hz : z = (i : Int)) (hL : Blk w L 29 #[.slice A0 k c0]) (hS : Blk w S 9 #[.string s]) (hk : k ≤ 1048576)
    (hr : Rd w w.heap.size A0 k 3 Fac.cells (lettersP s.data.toList)) (hi : i < s.size) (hs : s.size ≤ maxLen) (hl : letB s[i] = true) :
    Calls Try.prog 104 #[.int .i64 z, .pointer (some ⟨L, 0, none⟩), .pointer (some ⟨S, 0, none⟩)] w (Ret (.int .i64 (atP s.data.toList s[i])) w) := by
  subst hz
  unfold maxLen at hs
  have hmem : s[i] ∈ s.data.toList := List.mem_of_getElem? (at_byte s i hi)
  have e := Lib.hid (atP_ix hmem hl)
  have l0 := hL.cell 0
  have lL := hL.lt
  have s0 := hS.cell 0
  have lS := hS.lt
  have HR := Lib.hid hr
  have i0 : (0 : Int) ≤ (i : Int) := by omega
  have i1 : (i : Int) < (s.size : Int) := by omega
  have hup := upc w.heap.size w
  clear hmem hr hL hS
  go_enter Try.func104, Try.ntmps104
  go_wp2_with fail
  refine wp_region_up w.heap.size (by kernel_rfl) (by kernel_rfl) ?_
  repeat (go_big_quiet_step ((first | (go_at_call 103; exact Calls.up (Nat.le_refl _) (letter_any s[i] _)) | (go_at_call 105; exact Calls.up (Nat.le_refl _) (indexR_any A0 k c0 (lettersP s.data.toList) (ruleC s[i]) _ hk ((HR.out.below (Up.h _)).more (Up.h _).size))))))
  refine wpQuiet_nil ?_
  intro w4 hup_w4
  have hb4 := up_of hup_w4
  go_wp2_with fail
  go_ret
  exact ⟨ret_int e.out, hb4⟩
theorem okW_at {s : ByteArray} (h : okW s = true) {i : Nat} (hi : i < s.size) : letB s[i] = true := by
  unfold okW at h
  simp only [Bool.and_eq_true, List.all_eq_true] at h
  exact h.2 _ (List.mem_of_getElem? (at_byte s i hi))
theorem okW_size {s : ByteArray} (h : okW s = true) : s.size ≤ 2000 := by
  unfold okW at h
  simp only [Bool.and_eq_true, decide_eq_true_eq] at h
  exact h.1
set_option maxHeartbeats 4000000 in
set_option maxRecDepth 100000 in
theorem plain_any (s : ByteArray) (w : World) (ho : okW s = true) : Calls Try.prog 76 #[.string s] w (RetG w (plainL s.data.toList)) := by
  have hs := okW_size ho
  have HL := Lib.hid (fun (i : Nat) (hi : i < s.size) => okW_at ho hi)
  clear ho
  go_enter Try.func76, Try.ntmps76
  go_wp2_with fail
  refine named fun w0 H0 => ?_
  have P0 := Lib.hid (show PlW w w0 s none 0 0 [] by
    rw [H0.out]
    refine ⟨World.ownsRow_nil _ _ _ _, ?_, ?_, ?_, by (repeat first | exact Below.refl _ _ | assumption | refine Below.drew ?_ | refine Below.alloc ?_ (by first | exact Nat.le_refl _ | (simp; done) | omega | (simp; omega)) _ | refine Below.setCell ?_ (by first | exact Nat.le_refl _ | (simp; done) | omega | (simp; omega)) _)⟩
    · exact ((Blk.new w _ _).alloc _).alloc _
    · simpa using (Blk.new (w.alloc (.cells #[.string s] 9)) 31 #[.slice none 0 0]).alloc _
    · simpa using Blk.new ((w.alloc (.cells #[.string s] 9)).alloc (.cells #[.slice none 0 0] 31)) 31 #[.slice none 0 0])
  clear H0
  go_loopw [4] (fun c_ w' => ∃ (c : Int) (A : Option Addr) (n cp : Nat), c_ = .int .u8 c ∧ 97 ≤ c ∧ c ≤ 101 ∧ n ≤ 4 ∧ Hid ((ksT s.data.toList c).length = n) ∧ Hid (PlW w w' s A n cp ((ksT s.data.toList c).map ruleC))) (fun c_ _ => (101 - intOf c_).toNat)
  case atStart => exact ⟨97, none, 0, 0, rfl, by omega, by omega, by omega, Lib.hid (by rw [ksT_first]; rfl), by rw [ksT_first]; exact P0⟩
  case round =>
    obtain ⟨c, A, n, cp, rfl, hc0, hc1, hn4, hnl, P1⟩ := hrel
    have s0 := P1.out.s.cell 0
    have ls := P1.out.s.lt
    by_cases hlt : c ≤ 100
    · obtain ⟨u, hu⟩ : ∃ u : UInt8, (u.toNat : Int) = c := ⟨UInt8.ofNat c.toNat, by simp; omega⟩
      subst hu
      have hlb : letB u = true := by simp [letB]; omega
      have Hst := Lib.hid (ksT_step s.data.toList u hlb)
      obtain ⟨z, hz⟩ : ∃ z, Lib.indexByte s.data.toList ((u.toNat : Int)).toNat.toUInt8 = z := ⟨_, rfl⟩
      have hzm := indexByte_mem s.data.toList u
      rw [show ((u.toNat : Int)).toNat.toUInt8 = u by simp] at hz
      rw [hz] at hzm
      have HZ := Lib.hid (show Lib.indexByte s.data.toList ((u.toNat : Int)).toNat.toUInt8 = z by rw [show ((u.toNat : Int)).toNat.toUInt8 = u by simp]; exact hz)
      have HZM := Lib.hid hzm
      clear hz hzm hlb
      by_cases hzz : 0 ≤ z
      · have Hst2 := Lib.hid (show ksT s.data.toList ((u.toNat : Int) + 1) = ksT s.data.toList u.toNat ++ [u] by rw [Hst.out, if_pos (HZM.out.1 hzz)])
        go_upto_if 17 with (go_at_call 102; refine (indexByte_any s _ z _ HZ.out).mono ?_; rintro e w1 ⟨rfl, hb1⟩)
        have P2 := Lib.hid (P1.out.next hb1)
        have d0 := P2.out.g.cell 0
        have l0 := P2.out.g.lt
        have P3 := Lib.hid (P2.out.next (Below.refl _ _).drew)
        have lc := fun W => letter_any u W
        obtain ⟨y, hy⟩ : ∃ y, ruleC u = y := ⟨_, rfl⟩
        rw [hy] at lc
        have LC := Lib.hid lc
        have HY := Lib.hid hy
        clear lc hy
        have zk : (n + 1) * 32 ≤ 140737488355328 := by omega
        have zkm : n + 1 ≤ maxLen := by unfold maxLen; omega
        go_wp2_with fail
        go_region_law
          (first
            | (refine step_push (by rfl) _ _ _ (by rfl) w.heap.size 75 3 32 elem_rule Fac.cells A n cp ((ksT s.data.toList u.toNat).map ruleC) (by rfl) P6.out.q _ y #[.string y.l, .int .i64 y.a, .int .i64 y.b] 75 (0, 0) (by rfl) (heap_alloc_new _ _) rfl rfl (one_fac _) (by omega) zk zkm P6.out.e.size ?_
               intro A8 c8 w8 own8 hg8 old8
               have P5 := Lib.hid (P6.out.push own8 hg8)
               have B5 := P6.out.g.grown hg8 (own_blk_ne P6.out.q P6.out.g (by decide))
               have d5 := B5.cell 0
               have f5 := B5.frozen
               have l5 := B5.lt)
            | (go_simp
               go_wp2_with (go_at_call 103; refine (LC.out _).mono ?_; rintro e w4 ⟨rfl, hb4⟩)
               have P4 := Lib.hid (P3.out.next hb4)
               have P6 := Lib.hid (P4.out.alloc (.cells #[.string y.l, .int .i64 y.a, .int .i64 y.b] 75))
               have d4 := P4.out.g.cell 0
               have l4 := P4.out.g.lt))
        all_goals
          have e5 := Lib.hid (show (ksT s.data.toList u.toNat).map ruleC ++ [y] = (ksT s.data.toList ((u.toNat : Int) + 1)).map ruleC by rw [Hst2.out, List.map_append, ← HY.out]; rfl)
          have hn4' : n + 1 ≤ 4 := by
            have h1 := ksT_le s.data.toList ((u.toNat : Int) + 1)
            rw [Hst2.out, List.length_append, hnl.out] at h1; exact h1
          have hnl' := Lib.hid (show (ksT s.data.toList ((u.toNat : Int) + 1)).length = n + 1 by rw [Hst2.out, List.length_append, hnl.out]; rfl)
          go_wp2_with fail
          go_roundw
          case rel => exact ⟨(u.toNat : Int) + 1, A8, n + 1, c8, by go_num, by omega, by omega, hn4', hnl', by rw [← e5.out]; exact P5⟩
          case measure => simp [intOf]; omega
      · have Hst2 := Lib.hid (show ksT s.data.toList ((u.toNat : Int) + 1) = ksT s.data.toList u.toNat by rw [Hst.out, if_neg (fun h => hzz (HZM.out.2 h))])
        go_wp2_with (go_at_call 102; refine (indexByte_any s _ z _ HZ.out).mono ?_; rintro e w1 ⟨rfl, hb1⟩)
        have P2 := Lib.hid (P1.out.next hb1)
        go_roundw
        case rel => exact ⟨(u.toNat : Int) + 1, A, n, cp, by go_num, by omega, by omega, hn4, by rw [Hst2.out]; exact hnl, by rw [Hst2.out]; exact P2⟩
        case measure => simp [intOf]; omega
    · obtain rfl : c = 101 := by omega
      have hK := ksT_last s.data.toList
      rw [hK] at hnl P1
      clear hK
      have d0 := P1.out.g.cell 0
      have l0 := P1.out.g.lt
      go_wp2_with fail
      refine named fun w2 H2 => ?_
      have P2 := Lib.hid (show PlW w w2 s A n cp (lettersP s.data.toList) by rw [H2.out]; exact P1.out.alloc _)
      have BL := Lib.hid (show Blk w2 wr.heap.size 29 #[.slice A n cp] by rw [H2.out]; exact Blk.new _ _ _)
      have hLw : w.heap.size + 2 < wr.heap.size := l0
      clear H2 P1 d0 l0 hlt hc0 hc1
      generalize wr.heap.size = L at *
      have LP2 := Lib.hid P2.out.q
      have hll := Lib.hid (show (lettersP s.data.toList).length = n by rw [← hnl.out]; simp [lettersP])
      obtain ⟨bf0, hbf0, hpl0⟩ : ∃ bf : Int, ((∀ h : 0 < s.size, bf = atP s.data.toList s[0]) ∧ (s.size = 0 → bf = 0)) ∧ lettersP s.data.toList ++ pairsP s.data.toList (s.data.toList.drop 1) bf n = plainL s.data.toList := by
        by_cases h0 : 0 < s.size
        · refine ⟨atP s.data.toList s[0], ⟨fun _ => rfl, fun h => by omega⟩, ?_⟩
          have := drop_cons (at_byte s 0 h0)
          rw [List.drop_zero] at this
          generalize hq : s.data.toList.drop (0 + 1) = q at this
          unfold plainL
          rw [← hnl.out]
          split
          · rename_i h; rw [h] at this; cases this
          · rename_i c cs h
            have h2 := h.symm.trans this
            injection h2 with h3 h4
            rw [← h3, ← h4]
        · refine ⟨0, ⟨fun h => absurd h h0, fun _ => rfl⟩, ?_⟩
          have : s.data.toList = [] := List.eq_nil_of_length_eq_zero (by rw [byte_len]; omega)
          rw [this]; rfl
      go_loopw [7] (fun i_ w' => ∃ (i : Nat) (A' : Option Addr) (n' cp' : Nat) (rs more : List Fac) (bf : Int), i_ = .int .i64 i ∧ 1 ≤ i ∧ (i ≤ s.size ∨ i = 1) ∧ Hid (n' + 1 = n + i) ∧ Hid (rs = lettersP s.data.toList ++ more) ∧ Hid (rs.length = n') ∧
        Hid (PlW w w' s A' n' cp' rs) ∧ Hid (Blk w' L 29 #[.slice A n cp]) ∧ Hid (w'.ownsRow w.heap.size 75 3 (.slice A n cp) n ((lettersP s.data.toList).flatMap Fac.cells)) ∧
        Hid ((i = 1 → ∀ h : 0 < s.size, bf = atP s.data.toList s[0]) ∧ (i ≠ 1 → bf = (n' : Int) - 1)) ∧ Hid (rs ++ pairsP s.data.toList (s.data.toList.drop i) bf n' = plainL s.data.toList)) (fun i_ _ => s.size - (intOf i_).toNat)
      case atStart =>
        exact ⟨1, A, n, cp, _, [], bf0, rfl, by omega, by omega, Lib.hid rfl, Lib.hid (by simp), hll, P2, BL, LP2, Lib.hid ⟨fun _ h => hbf0.1 h, fun h => absurd rfl h⟩, Lib.hid hpl0⟩
      case round =>
        obtain ⟨i, A', n', cp', rs, more, bf, rfl, hi1, hi2, hn', hrs, hrl, PR, BR, LR, hbf, HQ⟩ := hrel
        have s1 := PR.out.s.cell 0
        have ls1 := PR.out.s.lt
        have g1 := PR.out.g.cell 0
        have lg1 := PR.out.g.lt
        have o1 := PR.out.o.cell 0
        have f1 := PR.out.o.frozen
        by_cases hlt : i < s.size
        · have hat := fun (j : Nat) (hj : j < s.size) => atP_lt (List.mem_of_getElem? (at_byte s j hj)) (HL.out j hj)
          have hat0 := hat 0 (by omega)
          have hati := hat i hlt
          have hkl : (ksP s.data.toList).length = n := hnl.out
          rw [hkl] at hat0 hati
          have hn1 : 1 ≤ n := by omega
          have hn1' : 1 ≤ n' := by have := hn'.out; omega
          have hn2' : n' ≤ 2010 := by have := hn'.out; omega
          have hbb : -1 ≤ bf ∧ bf ≤ 2010 := by
            by_cases h1 : i = 1
            · have := hbf.out.1 h1 (by omega); omega
            · have := hbf.out.2 h1; omega
          have u1 : IntKind.i64.wrap ((n' : Int) - 1) = (n' : Int) - 1 := IntWalk.i64_in _ (by omega)
          have Hat := Lib.hid hat0
          have Hati := Lib.hid hati
          clear hat hat0 hati hkl
          go_upto_if 39 with (fail)
          go_cut [8] (fun b_ wx => b_ = .int .i64 bf ∧ Hid (PlW w wx s A' n' cp' rs) ∧ Hid (Blk wx L 29 #[.slice A n cp]) ∧ Hid (wx.ownsRow w.heap.size 75 3 (.slice A n cp) n ((lettersP s.data.toList).flatMap Fac.cells)))
          case first =>
            by_cases h1 : i = 1
            · subst h1
              have hb1 := Lib.hid (hbf.out.1 rfl (by omega))
              go_wp2_with (go_at_call 104; refine (plainOf_any L w.heap.size 0 0 n cp A s _ rfl BR.out PR.out.s (by omega) (Rd.of_own (fun x _ => fac_len x) hll.out LR.out) (by omega) (by unfold maxLen; omega) (HL.out 0 (by omega))).mono ?_; rintro e w4 ⟨rfl, hb4⟩; rw [← hb1.out])
              go_meet
              exact ⟨rfl, Lib.hid (PR.out.next hb4), Lib.hid (BR.out.next hb4), Lib.hid (own_next LR.out hb4)⟩
            · have hb1 := Lib.hid (hbf.out.2 h1)
              have h1' : ((i : Int) == 1) = false := by simp; omega
              clear h1
              go_wp2_with fail
              go_meet
              exact ⟨by rw [hb1.out], PR, BR, LR⟩
          case rest =>
            obtain ⟨rfl, PC, BC, LC⟩ := hcut
            have hat2 := Hati.out
            have HLi := Lib.hid (HL.out i hlt)
            have hstep := Lib.hid (show (rs ++ [⟨⟨#[]⟩, bf, atP s.data.toList s[i]⟩]) ++ pairsP s.data.toList (s.data.toList.drop (i + 1)) ((n' : Int)) (n' + 1) = plainL s.data.toList by
              rw [← HQ.out, drop_cons (at_byte s i hlt), List.append_assoc]; rfl)
            have LO := Lib.hid (fun W (h1 : Blk W L 29 #[.slice A n cp]) (h2 : Blk W w.heap.size 9 #[.string s]) h3 => plainOf_any L w.heap.size (i : Int) i n cp A s W rfl h1 h2 (by omega) h3 hlt (by unfold maxLen; omega) HLi.out)
            have hv := Lib.hid (atP_lt (List.mem_of_getElem? (at_byte s i hlt)) HLi.out)
            generalize atP s.data.toList s[i] = v at *
            have lc := fun W => pairInt_any bf v W (by omega) (by omega)
            obtain ⟨y, hy⟩ : ∃ y : Fac, (⟨⟨#[]⟩, bf, v⟩ : Fac) = y := ⟨_, rfl⟩
            rw [hy] at lc hstep
            have LC' := Lib.hid lc
            clear lc hy hat2 s1 ls1 g1 lg1 o1 f1
            have P3 := Lib.hid (PC.out.next (Below.refl _ _).drew)
            have B3 := Lib.hid (BC.out.next (Below.refl _ _).drew)
            have L3 := Lib.hid (own_next LC.out (Below.refl _ _).drew)
            have d0 := PC.out.g.cell 0
            have l0 := PC.out.g.lt
            have zk : (n' + 1) * 32 ≤ 140737488355328 := by omega
            have zkm : n' + 1 ≤ maxLen := by unfold maxLen; omega
            go_wp2_with fail
            go_region_law
              (first
                | (refine step_push (by rfl) _ _ _ (by rfl) w.heap.size 75 3 32 elem_rule Fac.cells A' n' cp' rs (by rfl) P6.out.q _ y #[.string y.l, .int .i64 y.a, .int .i64 y.b] 75 (0, 0) (by rfl) (heap_alloc_new _ _) rfl rfl (one_fac _) (by omega) zk zkm P6.out.e.size ?_
                   intro A8 c8 w8 own8 hg8 old8
                   have P7 := Lib.hid (P6.out.push own8 hg8)
                   have L7 := Lib.hid (own_prefix (by omega) L6.out (show _ ∧ _ from by have q := P6.out.q; rw [hrs.out, List.flatMap_append] at q; exact q) (by rw [hrs.out, List.flatMap_append] at old8; exact old8) hg8)
                   have G7 := Lib.hid (P6.out.g.grown hg8 (own_blk_ne P6.out.q P6.out.g (by decide)))
                   have B7 := Lib.hid (B6.out.grown hg8 (own_blk_ne P6.out.q B6.out (by decide)))
                   have d5 := G7.out.cell 0
                   have f5 := G7.out.frozen
                   have l5 := G7.out.lt)
                | (go_simp
                   go_wp2_with (go_at_call 106; refine (LC'.out _).mono ?_; rintro e w5 ⟨rfl, hb5⟩)
                   have P6 := Lib.hid ((P4.out.next hb5).alloc (.cells #[.string y.l, .int .i64 y.a, .int .i64 y.b] 75))
                   have B6 := Lib.hid ((B4.out.next hb5).alloc (.cells #[.string y.l, .int .i64 y.a, .int .i64 y.b] 75))
                   have L6 := Lib.hid ((own_next L4.out hb5).alloc (.cells #[.string y.l, .int .i64 y.a, .int .i64 y.b] 75))
                   have d6 := (P4.out.next hb5).g.cell 0
                   have l6 := (P4.out.next hb5).g.lt)
                | (go_simp
                   go_wp2_with (go_at_call 104; refine (LO.out _ B3.out P3.out.s (Rd.of_own (fun x _ => fac_len x) hll.out L3.out)).mono ?_; rintro e w4 ⟨rfl, hb4⟩)
                   have P4 := Lib.hid (P3.out.next hb4)
                   have B4 := Lib.hid (B3.out.next hb4)
                   have L4 := Lib.hid (own_next L3.out hb4)
                   have d4 := P4.out.g.cell 0
                   have l4 := P4.out.g.lt))
            all_goals
              go_wp2_with fail
              go_roundw
              case rel =>
                refine ⟨i + 1, A8, n' + 1, c8, rs ++ [y], more ++ [y], (n' : Int), by go_num, by omega, by omega, Lib.hid (by have := hn'.out; omega), Lib.hid (by rw [hrs.out, List.append_assoc]), Lib.hid (by rw [List.length_append, hrl.out]; rfl), P7, Lib.hid ?_, Lib.hid ?_, Lib.hid ⟨fun h => by omega, fun _ => by omega⟩, hstep⟩
                · exact B7.out.far (show L ≠ w.heap.size + 2 by omega) _
                · exact own_kept' L7.out G7.out (by decide) _
              case measure => simp [intOf]; omega
        · have he := Lib.hid (show plainL s.data.toList = rs by
            rw [← HQ.out, List.drop_of_length_le (by rw [byte_len]; omega)]; simp [pairsP])
          go_wp2_with fail
          have hg := gb_set wr (w.heap.size + 1) 0 (.slice A' n' cp')
          have x9 := PR.out.o.set_ 0 (.slice A' n' cp')
          have x10 : (wr.setCell ⟨w.heap.size + 1, 0, none⟩ (.slice A' n' cp')).cell? ⟨w.heap.size + 1, 0, none⟩ = some (.slice A' n' cp') := by rw [x9.cell 0]; rfl
          refine bodyPost_ret (v := .agg #[.slice A' n' cp']) (by simp [results, Try.results76, go_sem, x10]) rfl ⟨A', cp', by rw [he.out, hrl.out], ?_, PR.out.e.grown hg PR.out.e.size (fun q hq => by injection hq with hq; omega)⟩
          rw [he.out, hrl.out]
          exact PR.out.q.kept hg (.inr fun e => own_blk_ne PR.out.q PR.out.o (by decide) e.symm)
end Go.Proofs.Ytkknhpailohjcaa
