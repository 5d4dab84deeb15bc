/-
  FactorsOf in the reference.
-/
import Derived.Test.YtmfgmkahifcgpaaFoP
namespace Go.Proofs.Ytmfgmkahifcgpaa
open Go.RowKit

/-- what the box of the best factor holds -/
def bcF (s : ByteArray) (at_ bf bn : Nat) : Fac := if bn = 0 then ⟨s.extract at_ (at_ + 1), 0, 0⟩ else ⟨⟨#[]⟩, (bf : Int), (bn : Int)⟩
theorem bcF_b (s : ByteArray) (at_ bf bn : Nat) : (bcF s at_ bf bn).b = (bn : Int) := by
  unfold bcF; split
  · rename_i h; rw [h]; rfl
  · rfl
theorem bcF_end {s : ByteArray} {at_ bf bn : Nat} (hat : at_ ≤ s.size) (h : (bf, bn) = bstF s.data.toList at_ 0 0 0) : bcF s at_ bf bn = facF s at_ ∧ (if bn = 0 then 1 else bn) = stepF s at_ := by
  obtain ⟨e1, e2⟩ := bst_fon hat
  rw [← h] at e1 e2
  have e1' : bn = fonF s at_ 0 := e1
  subst e1'
  unfold bcF facF stepF
  by_cases h0 : fonF s at_ 0 = 0
  · rw [if_pos h0, if_pos h0, if_pos h0]; exact ⟨rfl, rfl⟩
  · rw [if_neg h0, if_neg h0, if_neg h0, ← e2 (by omega)]; exact ⟨rfl, rfl⟩
theorem bcF_new {s : ByteArray} {at_ f k : Nat} (h : 0 < k) : bcF s at_ f k = ⟨⟨#[]⟩, (f : Int), (k : Int)⟩ := by unfold bcF; rw [if_neg (by omega)]
theorem FoW.box {w W : World} {A : Option Addr} {n c : Nat} {out : List Fac} (h : FoW w W A n c out) {x : Nat} (hx : w.heap.size ≤ x) (hv : some x ≠ (Value.slice A n c).ownBlock) (i : Nat) (u : Value) : FoW w (W.setCell ⟨x, i, none⟩ u) A n c out := by
  refine ⟨h.o.kept (gb_set W x i u) ?_, h.e.setCell hx u⟩
  cases hq : (Value.slice A n c).ownBlock with
  | none => exact .inl rfl
  | some q => exact .inr fun e => hv (by rw [hq]; exact e.symm)
set_option maxHeartbeats 4000000 in
set_option maxRecDepth 100000 in
theorem specFac_any (s : ByteArray) (w : World) (hs : s.size ≤ 1048576) : Calls Try.prog 4 #[.string s] w (RetNewC w 29 3 Fac.cells (foF s) (foC s)) := by
  rcases ho : okW s with _ | _
  · have Ho := Lib.hid ho
    have hT := Lib.hid (show foF s = [] by unfold foF; rw [ho]; rfl)
    have hC := Lib.hid (show foC s = 1 by unfold foC; rw [ho]; rfl)
    rw [hT.out, hC.out]
    clear ho hT hC
    go_enter Try.func4, Try.ntmps4
    go_wp2_with fail
    refine (specOk_any s false _ (by unfold maxLen; omega) Ho.out).mono ?_
    rintro e w1 ⟨rfl, hb1⟩
    go_wp2_with fail
    go_ret2
    exact ⟨_, 0, rfl, World.ownsRow_made w1 #[] 0 hb1.size (by unfold maxLen; omega) rfl, hb1.alloc hb1.size _⟩
  · have Ho := Lib.hid ho
    have hs2 : s.size ≤ 2000 := by
      unfold okW at ho
      simp only [Bool.and_eq_true, decide_eq_true_eq] at ho
      exact ho.1
    have hT := show foF s = if 120 < (facsF s 0).length then [] else facsF s 0 by unfold foF; rw [ho]; rfl
    have hC := show foC s = if 120 < (facsF s 0).length then 3 else 0 by unfold foC; rw [ho]; rfl
    have HT := Lib.hid hT
    have HC := Lib.hid hC
    have hbl := byte_len s
    have HBL := Lib.hid hbl
    clear ho hT hC hbl
    go_enter Try.func4, Try.ntmps4
    go_wp2_with fail
    refine (specOk_any s true _ (by unfold maxLen; omega) Ho.out).mono ?_
    rintro e w1 ⟨rfl, hb1⟩
    go_wp2_with fail
    refine named fun w0 H0 => ?_
    have P0 := Lib.hid (show FoW w w0 (some ⟨w1.heap.size, 0, none⟩) 0 0 [] by
      rw [H0.out]
      refine ⟨?_, hb1.alloc hb1.size _⟩
      have h := World.ownsRow_made (base := w.heap.size) (e := 29) (size := 3) w1 #[] 0 hb1.size (by unfold maxLen; omega) rfl
      simpa using h)
    clear H0
    go_loopw [4, 5] (fun l_ a_ w' => ∃ (at_ n : Nat) (A : Option Addr) (c : Nat) (out : List Fac), l_ = .slice A n c ∧ a_ = .int .i64 at_ ∧ at_ ≤ s.size ∧ n ≤ 120 ∧ Hid (out.length = n) ∧ Hid (out ++ facsF s at_ = facsF s 0) ∧ Hid (FoW w w' A n c out)) (fun _ a_ _ => s.size - (intOf a_).toNat)
    case atStart => exact ⟨0, 0, _, 0, [], rfl, rfl, by omega, by omega, Lib.hid rfl, Lib.hid rfl, P0⟩
    case round =>
      clear P0
      obtain ⟨at_, n, A, c, out, rfl, rfl, hat, hn, hol, HE, P1⟩ := hrel
      by_cases hlt : at_ < s.size
      · have HE2 := Lib.hid (show (out ++ [facF s at_]) ++ facsF s (at_ + stepF s at_) = facsF s 0 by
          rw [← HE.out]; conv => rhs; rw [facsF]
          rw [if_pos hlt, List.append_assoc]; rfl)
        have hsp := stepF_pos s at_
        have hsl := stepF_le hlt
        have a0 : (0 : Int) ≤ (at_ : Int) := by omega
        have a1 : (at_ : Int) ≤ (s.size : Int) := by omega
        have a2 : (at_ : Int) < (s.size : Int) := by omega
        have a3 : (at_ : Int) + 1 ≤ (s.size : Int) := by omega
        have a4 : (at_ : Int) ≤ (at_ : Int) + 1 := by omega
        have a5 : IntKind.i64.wrap ((at_ : Int) + 1) = (at_ : Int) + 1 := IntWalk.i64_in _ (by omega)
        have P2 := Lib.hid (P1.out.alloc (.cells #[.string (s.extract at_ (at_ + 1)), .int .i64 0, .int .i64 0] 29))
        have BX := Lib.hid (Blk.new wr 29 #[.string (s.extract at_ (at_ + 1)), .int .i64 0, .int .i64 0])
        have hX0 : w.heap.size ≤ wr.heap.size := P1.out.e.size
        have HXr := Lib.hid (show some wr.heap.size ≠ (Value.slice A n c).ownBlock from fun e => by have := (P1.out.o.lt _ e.symm).2; omega)
        clear HE
        go_wp2_with fail
        obtain ⟨wo, rfl⟩ : ∃ wo : World, wo = wr := ⟨_, rfl⟩
        go_loopw [7, 8] (fun n_ f_ w' => ∃ f bf bn nn : Nat, n_ = .int .i64 nn ∧ f_ = .int .i64 f ∧ Hid (nn = if bn = 0 then 1 else bn) ∧ f ≤ at_ ∧ bn ≤ s.size ∧ bf ≤ at_ ∧ Hid (bstF s.data.toList at_ f bf bn = bstF s.data.toList at_ 0 0 0) ∧
          Hid (FoW w w' A n c out) ∧ Hid (Blk w' wo.heap.size 29 #[.string (bcF s at_ bf bn).l, .int .i64 (bcF s at_ bf bn).a, .int .i64 (bcF s at_ bf bn).b])) (fun _ f_ _ => at_ - (intOf f_).toNat)
        case atStart => exact ⟨0, 0, 0, 1, rfl, rfl, Lib.hid rfl, by omega, by omega, by omega, Lib.hid rfl, P2, BX⟩
        case round =>
          clear P2 BX P1
          obtain ⟨f, bf, bn, nn, rfl, rfl, Hnn, hf, hbn, hbf, HBs, P3, B3⟩ := hrel
          by_cases hfa : f < at_
          · have f0 : (0 : Int) ≤ (f : Int) := by omega
            have f1 : (f : Int) < (at_ : Int) := by omega
            go_wp2_with fail
            obtain ⟨wq, rfl⟩ : ∃ wq : World, wq = wr := ⟨_, rfl⟩
            go_loopw [9] (fun k_ w' => ∃ k : Nat, k_ = .int .i64 k ∧ at_ + k ≤ s.size ∧ f + k ≤ at_ ∧ Hid (extF s.data.toList at_ f k = extF s.data.toList at_ f 0) ∧ Hid (Below wq.heap.size wq w')) (fun k_ _ => s.size - (intOf k_).toNat)
            case atStart => exact ⟨0, rfl, by omega, by omega, Lib.hid rfl, Lib.hid (Below.refl _ _)⟩
            case round =>
              obtain ⟨k, rfl, hk1, hk2, hF, HB⟩ := hrel
              have k0 : (0 : Int) ≤ (at_ : Int) + (k : Int) := by omega
              have k0' : (0 : Int) ≤ (f : Int) + (k : Int) := by omega
              have u1 : IntKind.i64.wrap ((at_ : Int) + (k : Int)) = (at_ : Int) + (k : Int) := IntWalk.i64_in _ (by omega)
              have u2 : IntKind.i64.wrap ((f : Int) + (k : Int)) = (f : Int) + (k : Int) := IntWalk.i64_in _ (by omega)
              have u3 : IntKind.i64.wrap ((k : Int) + 1) = (k : Int) + 1 := IntWalk.i64_in _ (by omega)
              by_cases hgo : at_ + k < s.data.toList.length ∧ f + k < at_ ∧ s.data.toList[f + k]? = s.data.toList[at_ + k]?
              · obtain ⟨c1', c2, c4⟩ := hgo
                have c1 : at_ + k < s.size := by rw [← HBL.out]; exact c1'
                have d1 : (at_ : Int) + (k : Int) < (s.size : Int) := by omega
                have d2 : (f : Int) + (k : Int) < (at_ : Int) := by omega
                have d3 : (f : Int) + (k : Int) < (s.size : Int) := by omega
                have c3 : f + k < s.size := by omega
                have hF' := Lib.hid (show extF s.data.toList at_ f (k + 1) = extF s.data.toList at_ f 0 by
                  rw [← hF.out]; conv => rhs; rw [extF]
                  rw [if_pos ⟨c1', c2, c4⟩])
                rw [at_byte s (f + k) c3, at_byte s (at_ + k) c1] at c4
                obtain ⟨x1, hx1⟩ : ∃ x1, s[f + k] = x1 := ⟨_, rfl⟩
                obtain ⟨x2, hx2⟩ : ∃ x2, s[at_ + k] = x2 := ⟨_, rfl⟩
                rw [hx1, hx2] at c4
                injection c4 with c4
                subst c4
                clear hF c1'
                go_wp2_with fail
                refine wp_region_up wr.heap.size (by kernel_rfl) (by kernel_rfl) ?_
                repeat (go_big_quiet_step (fail))
                refine wpQuiet_nil ?_
                intro w2 hup_w2
                have hb2 := up_of hup_w2
                go_wp2_with fail
                go_roundw
                case rel => exact ⟨k + 1, by go_num, by omega, by omega, hF', Lib.hid (HB.out.trans (hb2.mono HB.out.size))⟩
                case measure => simp [intOf]; omega
              · have hext := Lib.hid (show extF s.data.toList at_ f 0 = k by rw [← hF.out, extF, if_neg hgo])
                have Hgo := Lib.hid hgo
                clear hgo hF
                by_cases c1 : at_ + k < s.size
                case' pos =>
                  have d1 : (at_ : Int) + (k : Int) < (s.size : Int) := by omega
                  rcases Nat.lt_or_ge (f + k) at_ with c2 | c2
                  case' inl =>
                    have d2 : (f : Int) + (k : Int) < (at_ : Int) := by omega
                    have d3 : (f : Int) + (k : Int) < (s.size : Int) := by omega
                    have c3 : f + k < s.size := by omega
                    obtain ⟨x1, hx1⟩ : ∃ x1, s[f + k] = x1 := ⟨_, rfl⟩
                    obtain ⟨x2, hx2⟩ : ∃ x2, s[at_ + k] = x2 := ⟨_, rfl⟩
                    have hne : x1 ≠ x2 := fun e => Hgo.out ⟨by rw [HBL.out]; exact c1, c2, by rw [at_byte s (f + k) c3, at_byte s (at_ + k) c1, hx1, hx2, e]⟩
                    have hne2 : ((x1.toNat : Int) == (x2.toNat : Int)) = false := by
                      rw [beq_eq_false_iff_ne]
                      intro e
                      exact hne (UInt8.toNat_inj.1 (by omega))
                    have hne3 : ¬ (x1.toNat : Int) = (x2.toNat : Int) := by rwa [beq_eq_false_iff_ne] at hne2
                    have hne4 : ¬ x1.toNat = x2.toNat := fun e => hne3 (by omega)
                    clear hne
                    go_wp2_with fail
                    refine wp_region_up wr.heap.size (by kernel_rfl) (by kernel_rfl) ?_
                    repeat (go_big_quiet_step (fail))
                    refine wpQuiet_nil ?_
                    intro w2 hup_w2
                    have hb2 := up_of hup_w2
                    clear hne2 hne3 hne4
                  case' inr =>
                    have d2 : decide ((f : Int) + (k : Int) < (at_ : Int)) = false := by simp; omega
                    have d4 : (at_ : Int) ≤ (f : Int) + (k : Int) := by omega
                    go_wp2_with fail
                    refine wp_region_up wr.heap.size (by kernel_rfl) (by kernel_rfl) ?_
                    repeat (go_big_quiet_step (fail))
                    refine wpQuiet_nil ?_
                    intro w2 hup_w2
                    have hb2 := up_of hup_w2
                case' neg =>
                  have d1 : decide ((at_ : Int) + (k : Int) < (s.size : Int)) = false := by simp; omega
                  have d4 : (s.size : Int) ≤ (at_ : Int) + (k : Int) := by omega
                  go_wp2_with fail
                  refine wp_region_up wr.heap.size (by kernel_rfl) (by kernel_rfl) ?_
                  repeat (go_big_quiet_step (fail))
                  refine wpQuiet_nil ?_
                  intro w2 hup_w2
                  have hb2 := up_of hup_w2
                all_goals
                  have hbo := HB.out.trans (hb2.mono HB.out.size)
                  have P4 := Lib.hid (P3.out.next hbo)
                  have B4 := Lib.hid (B3.out.next hbo)
                  have y012 := B4.out.three
                  have y0 := y012.1
                  have y1 := y012.2.1
                  have y2 := y012.2.2
                  rw [bcF_b] at y2
                  have yl := B4.out.lt
                  have yf := B4.out.frozen
                  clear y012
                  have w3 : IntKind.i64.wrap ((f : Int) + 1) = (f : Int) + 1 := IntWalk.i64_in _ (by omega)
                  by_cases hgt : bn < k
                  · have HB2 := Lib.hid (show bstF s.data.toList at_ (f + 1) f k = bstF s.data.toList at_ 0 0 0 by
                      rw [← HBs.out]; conv => rhs; rw [bstF]
                      rw [if_pos hfa, hext.out, if_pos hgt])
                    have B5 := Lib.hid (((B4.out.set_ 0 (.string .empty)).set_ 1 (.int .i64 (f : Int))).set_ 2 (.int .i64 (k : Int)))
                    have P5 := Lib.hid (((P4.out.box hX0 HXr.out 0 (.string .empty)).box hX0 HXr.out 1 (.int .i64 (f : Int))).box hX0 HXr.out 2 (.int .i64 (k : Int)))
                    have hgt' : (bn : Int) < (k : Int) := by omega
                    go_wp2_with fail
                    go_roundw
                    case rel => exact ⟨f + 1, f, k, k, rfl, by go_num, Lib.hid (by rw [if_neg (by omega)]), by omega, by omega, by omega, HB2, P5, Lib.hid (by rw [bcF_new (by omega)]; exact B5.out)⟩
                    case measure => simp [intOf]; omega
                  · have HB2 := Lib.hid (show bstF s.data.toList at_ (f + 1) bf bn = bstF s.data.toList at_ 0 0 0 by
                      rw [← HBs.out]; conv => rhs; rw [bstF]
                      rw [if_pos hfa, hext.out, if_neg hgt])
                    have hgt' : ¬ (bn : Int) < (k : Int) := by omega
                    go_wp2_with fail
                    go_roundw
                    case rel => exact ⟨f + 1, bf, bn, nn, rfl, by go_num, Hnn, by omega, by omega, by omega, HB2, P4, B4⟩
                    case measure => simp [intOf]; omega
          · obtain rfl : f = at_ := by omega
            have hb0 : (bf, bn) = bstF s.data.toList f 0 0 0 := by rw [← HBs.out, bstF, if_neg (by omega)]
            obtain ⟨q1, q2⟩ := bcF_end hat hb0
            rw [← Hnn.out] at q2
            rw [q1] at B3
            obtain ⟨y, hy⟩ : ∃ y, facF s f = y := ⟨_, rfl⟩
            rw [hy] at B3 HE2
            rw [← q2] at hsp hsl HE2
            have P5 := Lib.hid (P3.out.alloc (.cells #[.string y.l, .int .i64 y.a, .int .i64 y.b] 29))
            have y012 := B3.out.three
            have y0 := y012.1
            have y1 := y012.2.1
            have y2 := y012.2.2
            have yl := B3.out.lt
            have v1 : IntKind.i64.wrap ((f : Int) + (nn : Int)) = (f : Int) + (nn : Int) := IntWalk.i64_in _ (by omega)
            have hlen := congrArg List.length HE2.out
            simp only [List.length_append, List.length_singleton, hol.out] at hlen
            have HLen := Lib.hid hlen
            clear q1 q2 hb0 hy y012 HBs Hnn hlen
            by_cases hbig : 120 < n + 1
            all_goals
              go_wp2_with
                (at_builtin
                 refine wpList_push (w0 := w) rfl _ _ _ rfl w.heap.size 29 3 32 elem_factor Fac.cells A n c out rfl P5.out.o wr.heap.size y #[.string y.l, .int .i64 y.a, .int .i64 y.b] 29 (0, 0) rfl (heap_alloc_new _ _) rfl rfl (one_factor _) (by omega) (by omega) (by unfold maxLen; omega) rfl P5.out.e ?_
                 intro A9 c9 w9 own9 hg9 hat9 hb9
                 have P9 := Lib.hid (P5.out.push own9 hg9))
            · go_ret2
              have e1 := show foF s = [] by rw [HT.out, if_pos (by have := HLen.out; omega)]
              have e2 := show foC s = 3 by rw [HC.out, if_pos (by have := HLen.out; omega)]
              rw [e1, e2]
              exact ⟨_, 0, rfl, World.ownsRow_made w9 #[] 0 P9.out.e.size (by unfold maxLen; omega) rfl, P9.out.e.alloc P9.out.e.size _⟩
            · go_roundw
              case rel => exact ⟨f + nn, n + 1, A9, c9, out ++ [y], rfl, by go_num, by omega, by omega, Lib.hid (by rw [List.length_append, hol.out]; rfl), HE2, P9⟩
              case measure => simp [intOf]; omega
      · obtain rfl : at_ = s.size := by omega
        have he : out = facsF s 0 := by rw [← HE.out, facsF, if_neg (by omega)]; simp
        subst he
        have HL := Lib.hid hol.out
        have e1 := Lib.hid (show foF s = facsF s 0 by rw [HT.out, if_neg (by rw [hol.out]; omega)])
        have e2 := Lib.hid (show foC s = 0 by rw [HC.out, if_neg (by rw [hol.out]; omega)])
        go_wp2_with fail
        go_ret2
        rw [e1.out, e2.out]
        exact ⟨A, c, by rw [HL.out]; rfl, by rw [HL.out]; exact P1.out.o, P1.out.e⟩
end Go.Proofs.Ytmfgmkahifcgpaa
