/-
  The rules of a word's letters and the numbers of its letters, in the program.
-/
import Derived.Test.YtikhjoianbndhaaPlainP
import Derived.Test.YtikhjoianbndhaaPhgM
namespace Go.Proofs.Ytikhjoianbndhaa
open Go.RowKit

/-- rules and numbers, both in memory of the call's own -/
def RetLt (w0 : World) (rs : List Fac) (ks : List Int) (g : Option Addr → Nat → Nat → Value) (e : Ending) (w' : World) : Prop :=
  ∃ A c B d, e = .returned (.tuple #[g A rs.length c, .slice B ks.length d]) ∧ w'.ownsRow w0.heap.size 44 3 (.slice A rs.length c) rs.length (rs.flatMap Fac.cells) ∧
    w'.ownsRow w0.heap.size 2 1 (.slice B ks.length d) ks.length (ks.flatMap intE) ∧ Below w0.heap.size w0 w'
def gramV (A : Option Addr) (n c : Nat) : Value := .agg #[.slice A n c]
def sliceV (A : Option Addr) (n c : Nat) : Value := .slice A n c
def numsP (w : List UInt8) : List Int := w.map (atP w)

/-- 'letters' under way -/
structure LtW (w W : World) (A : Option Addr) (n c : Nat) (rs : List Fac) (B : Option Addr) (m d : Nat) (ks : List Int) : Prop where
  q : W.ownsRow w.heap.size 44 3 (.slice A n c) n (rs.flatMap Fac.cells)
  k : W.ownsRow w.heap.size 2 1 (.slice B m d) m (ks.flatMap intE)
  o : Blk W w.heap.size 24 #[.slice none 0 0]
  g : Blk W (w.heap.size + 2) 24 #[.slice A n c]
  e : Below w.heap.size w W
section
variable {w W W' : World} {A : Option Addr} {n c : Nat} {rs : List Fac} {B : Option Addr} {m d : Nat} {ks : List Int}
theorem LtW.next (h : LtW w W A n c rs B m d ks) (hb : Below W.heap.size W W') : LtW w W' A n c rs B m d ks :=
  ⟨own_next h.q hb, own_next h.k hb, h.o.next hb, h.g.next hb, h.e.trans (hb.mono h.e.size)⟩
theorem LtW.alloc (h : LtW w W A n c rs B m d ks) (o : Obj) : LtW w (W.alloc o) A n c rs B m d ks := h.next ((Below.refl _ _).alloc (Nat.le_refl _) _)
theorem LtW.push {A8 : Option Addr} {k8 c8 : Nat} {rs' : List Fac} (h : LtW w W A n c rs B m d ks) (hq : W'.ownsRow w.heap.size 44 3 (.slice A8 k8 c8) k8 (rs'.flatMap Fac.cells)) (hg : W.grownBy W' (Value.slice A n c).ownBlock) :
    LtW w (W'.setCell ⟨w.heap.size + 2, 0, none⟩ (.slice A8 k8 c8)) A8 k8 c8 rs' B m d ks := by
  have ho' := h.o.grown hg (own_blk_ne h.q h.o (by decide))
  have hg' := h.g.grown hg (own_blk_ne h.q h.g (by decide))
  have hk' := h.k.kept hg (own_ne h.k h.q (by decide))
  have he' := h.e.grown hg h.e.size (own_ge h.q)
  have hg2 := gb_set W' (w.heap.size + 2) 0 (.slice A8 k8 c8)
  exact ⟨own_kept' hq hg' (by decide) _, own_kept' hk' hg' (by decide) _, ho'.grown hg2 (by intro e; injection e with e; omega), hg'.set_ 0 _, he'.setCell (by simp) _⟩
theorem LtW.pushK {B8 : Option Addr} {k8 c8 : Nat} {ks' : List Int} (h : LtW w W A n c rs B m d ks) (hq : W'.ownsRow w.heap.size 2 1 (.slice B8 k8 c8) k8 (ks'.flatMap intE)) (hg : W.grownBy W' (Value.slice B m d).ownBlock) : LtW w W' A n c rs B8 k8 c8 ks' :=
  ⟨h.q.kept hg (own_ne h.q h.k (by decide)), hq, h.o.grown hg (own_blk_ne h.k h.o (by decide)), h.g.grown hg (own_blk_ne h.k h.g (by decide)), h.e.grown hg h.e.size (own_ge h.k)⟩
end
set_option maxHeartbeats 4000000 in
set_option maxRecDepth 100000 in
theorem letters_any (s : ByteArray) (w : World) (ho : okW s = true) : Calls Try.prog 27 #[.string s] w (RetLt w (lettersP s.data.toList) (numsP s.data.toList) gramV) := by
  have hs := okW_size ho
  have HL := Lib.hid (fun (i : Nat) (hi : i < s.size) => okW_at ho hi)
  clear ho
  go_enter Try.func27, Try.ntmps27
  go_wp2_with fail
  refine named fun w0 H0 => ?_
  have P0 := Lib.hid (show LtW w w0 none 0 0 [] (some ⟨w.heap.size + 1, 0, none⟩) 0 0 [] by
    rw [H0.out]
    refine ⟨World.ownsRow_nil _ _ _ _, ?_, ?_, ?_, by (repeat first | exact Below.refl _ _ | assumption | refine Below.drew ?_ | refine Below.alloc ?_ (by first | exact Nat.le_refl _ | (simp; done) | omega | (simp; omega)) _ | refine Below.setCell ?_ (by first | exact Nat.le_refl _ | (simp; done) | omega | (simp; omega)) _)⟩
    · have h := World.ownsRow_made (base := w.heap.size) (e := 2) (size := 1) (w.alloc (.cells #[.slice none 0 0] 24)) #[] 0 (by simp) (by unfold maxLen; omega) rfl
      rw [show (w.alloc (.cells #[.slice none 0 0] 24)).heap.size = w.heap.size + 1 by simp] at h
      exact h.alloc _
    · exact ((Blk.new w _ _).alloc _).alloc _
    · simpa using Blk.new ((w.alloc (.cells #[.slice none 0 0] 24)).alloc (.cells #[] 2)) 24 #[.slice none 0 0])
  clear H0
  go_loopw [6] (fun c_ w' => ∃ (c : Int) (A : Option Addr) (n cp : Nat), c_ = .int .u8 c ∧ 97 ≤ c ∧ c ≤ 101 ∧ n ≤ 4 ∧ Hid ((ksT s.data.toList c).length = n) ∧ Hid (LtW w w' A n cp ((ksT s.data.toList c).map ruleC) (some ⟨w.heap.size + 1, 0, none⟩) 0 0 [])) (fun c_ _ => (101 - intOf c_).toNat)
  case atStart => exact ⟨97, none, 0, 0, rfl, by omega, by omega, by omega, Lib.hid (by rw [ksT_first]; rfl), by rw [ksT_first]; exact P0⟩
  case round =>
    obtain ⟨c, A, n, cp, rfl, hc0, hc1, hn4, hnl, P1⟩ := hrel
    by_cases hlt : c ≤ 100
    · obtain ⟨u, hu⟩ : ∃ u : UInt8, (u.toNat : Int) = c := ⟨UInt8.ofNat c.toNat, by simp; omega⟩
      subst hu
      have hlb : letB u = true := by simp [letB]; omega
      have Hst := Lib.hid (ksT_step s.data.toList u hlb)
      obtain ⟨z, hz⟩ : ∃ z, Lib.indexByte s.data.toList ((u.toNat : Int)).toNat.toUInt8 = z := ⟨_, rfl⟩
      have hzm := indexByte_mem s.data.toList u
      rw [show ((u.toNat : Int)).toNat.toUInt8 = u by simp] at hz
      rw [hz] at hzm
      have HZ := Lib.hid (show Lib.indexByte s.data.toList ((u.toNat : Int)).toNat.toUInt8 = z by rw [show ((u.toNat : Int)).toNat.toUInt8 = u by simp]; exact hz)
      have HZM := Lib.hid hzm
      clear hz hzm hlb
      by_cases hzz : 0 ≤ z
      · have Hst2 := Lib.hid (show ksT s.data.toList ((u.toNat : Int) + 1) = ksT s.data.toList u.toNat ++ [u] by rw [Hst.out, if_pos (HZM.out.1 hzz)])
        go_upto_if 17 with (go_at_call 56; refine (indexByte_any s _ z _ HZ.out).mono ?_; rintro e w1 ⟨rfl, hb1⟩)
        have P2 := Lib.hid (P1.out.next hb1)
        have d0 := P2.out.g.cell 0
        have l0 := P2.out.g.lt
        have P3 := Lib.hid (P2.out.next (Below.refl _ _).drew)
        have lc := fun W => letter_any u W
        obtain ⟨y, hy⟩ : ∃ y, ruleC u = y := ⟨_, rfl⟩
        rw [hy] at lc
        have LC := Lib.hid lc
        have HY := Lib.hid hy
        clear lc hy
        have zk : (n + 1) * 32 ≤ 140737488355328 := by omega
        have zkm : n + 1 ≤ maxLen := by unfold maxLen; omega
        go_wp2_with fail
        go_region_law
          (first
            | (refine step_push (by rfl) _ _ _ (by rfl) w.heap.size 44 3 32 elem_rule Fac.cells A n cp ((ksT s.data.toList u.toNat).map ruleC) (by rfl) P6.out.q _ y #[.string y.l, .int .i64 y.a, .int .i64 y.b] 44 (0, 0) (by rfl) (heap_alloc_new _ _) rfl rfl (one_fac _) (by omega) zk zkm P6.out.e.size ?_
               intro A8 c8 w8 own8 hg8 old8
               have P5 := Lib.hid (P6.out.push own8 hg8)
               have B5 := P6.out.g.grown hg8 (own_blk_ne P6.out.q P6.out.g (by decide))
               have d5 := B5.cell 0
               have f5 := B5.frozen
               have l5 := B5.lt)
            | (go_simp
               go_wp2_with (go_at_call 57; refine (LC.out _).mono ?_; rintro e w4 ⟨rfl, hb4⟩)
               have P4 := Lib.hid (P3.out.next hb4)
               have P6 := Lib.hid (P4.out.alloc (.cells #[.string y.l, .int .i64 y.a, .int .i64 y.b] 44))
               have d4 := P4.out.g.cell 0
               have l4 := P4.out.g.lt))
        all_goals
          have e5 := Lib.hid (show (ksT s.data.toList u.toNat).map ruleC ++ [y] = (ksT s.data.toList ((u.toNat : Int) + 1)).map ruleC by rw [Hst2.out, List.map_append, ← HY.out]; rfl)
          have hn4' : n + 1 ≤ 4 := by
            have h1 := ksT_le s.data.toList ((u.toNat : Int) + 1)
            rw [Hst2.out, List.length_append, hnl.out] at h1; exact h1
          have hnl' := Lib.hid (show (ksT s.data.toList ((u.toNat : Int) + 1)).length = n + 1 by rw [Hst2.out, List.length_append, hnl.out]; rfl)
          go_wp2_with fail
          go_roundw
          case rel => exact ⟨(u.toNat : Int) + 1, A8, n + 1, c8, by go_num, by omega, by omega, hn4', hnl', by rw [← e5.out]; exact P5⟩
          case measure => simp [intOf]; omega
      · have Hst2 := Lib.hid (show ksT s.data.toList ((u.toNat : Int) + 1) = ksT s.data.toList u.toNat by rw [Hst.out, if_neg (fun h => hzz (HZM.out.2 h))])
        go_wp2_with (go_at_call 56; refine (indexByte_any s _ z _ HZ.out).mono ?_; rintro e w1 ⟨rfl, hb1⟩)
        have P2 := Lib.hid (P1.out.next hb1)
        go_roundw
        case rel => exact ⟨(u.toNat : Int) + 1, A, n, cp, by go_num, by omega, by omega, hn4, by rw [Hst2.out]; exact hnl, by rw [Hst2.out]; exact P2⟩
        case measure => simp [intOf]; omega
    · obtain rfl : c = 101 := by omega
      have hK := ksT_last s.data.toList
      rw [hK] at hnl P1
      clear hK
      have hll := Lib.hid (show (lettersP s.data.toList).length = n by rw [← hnl.out]; simp [lettersP])
      go_wp2_with fail
      go_loopw [5, 27] (fun l_ i_ w' => ∃ (i : Nat) (B : Option Addr) (d : Nat) (ks : List Int), l_ = .slice B i d ∧ i_ = .int .i64 i ∧ i ≤ s.size ∧ Hid (ks.length = i) ∧ Hid (ks ++ (s.data.toList.drop i).map (atP s.data.toList) = numsP s.data.toList) ∧
        Hid (LtW w w' A n cp (lettersP s.data.toList) B i d ks)) (fun _ i_ _ => s.size - (intOf i_).toNat)
      case atStart => exact ⟨0, _, 0, [], rfl, rfl, by omega, Lib.hid rfl, Lib.hid (by simp [numsP]), P1⟩
      case round =>
        obtain ⟨i, B, d, ks, rfl, rfl, hi, hkl, HE, PR⟩ := hrel
        by_cases hlt2 : i < s.size
        · have hmem : s[i] ∈ s.data.toList := List.mem_of_getElem? (at_byte s i hlt2)
          have HX := Lib.hid (atP_ix hmem (HL.out i hlt2))
          have HE2 := Lib.hid (show (ks ++ [atP s.data.toList s[i]]) ++ (s.data.toList.drop (i + 1)).map (atP s.data.toList) = numsP s.data.toList by
            rw [← HE.out, drop_cons (at_byte s i hlt2), List.append_assoc]; rfl)
          have P3 := Lib.hid (PR.out.next (Below.refl _ _).drew)
          have d0 := PR.out.g.cell 0
          have l0 := PR.out.g.lt
          have i0 : (0 : Int) ≤ (i : Int) := by omega
          have i1 : (i : Int) < (s.size : Int) := by omega
          have LC := Lib.hid (fun W => letter_any s[i] W)
          have IX := Lib.hid (fun W (h : Rd W W.heap.size A n 3 Fac.cells (lettersP s.data.toList)) => indexR_any A n cp (lettersP s.data.toList) (ruleC s[i]) W (by omega) h)
          rw [HX.out] at IX
          have zk : (i + 1) * 8 ≤ 140737488355328 := by omega
          have zkm : i + 1 ≤ maxLen := by unfold maxLen; omega
          generalize atP s.data.toList s[i] = v at *
          go_wp2_with fail
          go_region_law
            (first
              | (refine step_push (by rfl) _ _ _ (by rfl) w.heap.size 2 1 8 elem_int intE B i d ks (by rfl) P6.out.k _ v #[.int .i64 v] 2 (0, 0) (by rfl) (heap_alloc_new _ _) rfl rfl (by simp [intE, Value.oneCell']) (by omega) zk zkm P6.out.e.size ?_
                 intro A8 c8 w8 own8 hg8 old8
                 have P7 := Lib.hid (P6.out.pushK own8 hg8))
              | (go_simp
                 go_wp2_with (go_at_call 58; refine (IX.out _ (Rd.of_own (fun x _ => fac_len x) hll.out P4.out.q)).mono ?_; rintro e w5 ⟨rfl, hb5⟩)
                 have P5 := Lib.hid (P4.out.next hb5)
                 have P6 := Lib.hid (P5.out.alloc (.cells #[.int .i64 v] 2))
                 have d6 := P5.out.g.cell 0
                 have l6 := P5.out.g.lt)
              | (go_simp
                 go_wp2_with (go_at_call 57; refine (LC.out _).mono ?_; rintro e w4 ⟨rfl, hb4⟩)
                 have P4 := Lib.hid (P3.out.next hb4)
                 have d4 := P4.out.g.cell 0
                 have l4 := P4.out.g.lt))
          all_goals
            go_wp2_with fail
            go_roundw
            case rel => exact ⟨i + 1, A8, c8, ks ++ [v], rfl, by go_num, by omega, Lib.hid (by rw [List.length_append, hkl.out]; rfl), HE2, P7⟩
            case measure => simp [intOf]; omega
        · have e := Lib.hid (show numsP s.data.toList = ks by rw [← HE.out, List.drop_of_length_le (by rw [byte_len]; omega)]; simp)
          have g1 := PR.out.g.cell 0
          have g2 := PR.out.g.lt
          have o1 := PR.out.o.cell 0
          have o2 := PR.out.o.frozen
          have o3 := PR.out.o.lt
          go_wp2_with fail
          have hg := gb_set wr w.heap.size 0 (.slice A n cp)
          have x9 := PR.out.o.set_ 0 (.slice A n cp)
          have x10 : (wr.setCell ⟨w.heap.size, 0, none⟩ (.slice A n cp)).cell? ⟨w.heap.size, 0, none⟩ = some (.slice A n cp) := by rw [x9.cell 0]; rfl
          refine bodyPost_ret (v := .tuple #[.agg #[.slice A n cp], .slice B i d]) (by simp [results, Try.results27, go_sem, x10]) rfl ⟨A, cp, B, d, by rw [hll.out, e.out, hkl.out]; rfl, ?_, ?_, PR.out.e.grown hg PR.out.e.size (fun q hq => by injection hq with hq; omega)⟩
          · rw [hll.out]; exact PR.out.q.kept hg (.inr fun e => own_blk_ne PR.out.q PR.out.o (by decide) e.symm)
          · rw [e.out, hkl.out]; exact PR.out.k.kept hg (.inr fun e => own_blk_ne PR.out.k PR.out.o (by decide) e.symm)
end Go.Proofs.Ytikhjoianbndhaa
