/-
  FactorsOf in the program.
-/
import Derived.Test.YtmfgmkahifcgpaaFoM
import Derived.Test.YtmfgmkahifcgpaaFrame
import Derived.Test.YtmfgmkahifcgpaaShelf
import Derived.Deep.RegionLaw
import Derived.Deep.DeepCutAuto
namespace Go.Proofs.Ytmfgmkahifcgpaa
open Go.RowKit

theorem elem_factor : Elem Try.prog 22 29 3 32 := Elem.mk' (z := .agg #[.string .empty, .int .i64 0, .int .i64 0]) Try.underlying22 (by kernel_rfl) rfl
theorem one_factor (f : Fac) : ∀ u ∈ Fac.cells f, u.oneCell' = true := by simp [Fac.cells, Value.oneCell']
theorem len_factor (f : Fac) : f.cells.length = 3 := rfl
/-- what strings.Contains answers, wherever its variable's cell holds a number -/
theorem conts_any (a b : ByteArray) (m : Int) (W : World) (hs : a.size < 4294967281) (hm : W.cell? ⟨0, 0, none⟩ = some (.int .i64 m)) : Calls Try.prog 11 #[.string a, .string b] W (Ret (.bool (Lib.contains a.data.toList b.data.toList)) W) :=
  (Try.strings_Contains a b m W hs hm).mono fun e w' ⟨he, hw⟩ => ⟨he, by rw [hw]; exact Below.refl _ _⟩
theorem index_any (a b : ByteArray) (m : Int) (W : World) (hs : a.size < 4294967281) (hm : W.cell? ⟨0, 0, none⟩ = some (.int .i64 m)) : Calls Try.prog 12 #[.string a, .string b] W (Ret (.int .i64 (Lib.index a.data.toList b.data.toList)) W) :=
  (Try.strings_Index a b m W hs hm).mono fun e w' ⟨he, hw⟩ => ⟨he, by rw [hw]; exact Below.refl _ _⟩
structure FoW (w W : World) (A : Option Addr) (n c : Nat) (out : List Fac) : Prop where
  o : W.ownsRow w.heap.size 29 3 (.slice A n c) n (out.flatMap Fac.cells)
  e : Below w.heap.size w W
theorem FoW.next {w W W' : World} {A : Option Addr} {n c : Nat} {out : List Fac} (h : FoW w W A n c out) (hb : Below W.heap.size W W') : FoW w W' A n c out := ⟨own_next h.o hb, h.e.trans (hb.mono h.e.size)⟩
theorem FoW.alloc {w W : World} {A : Option Addr} {n c : Nat} {out : List Fac} (h : FoW w W A n c out) (o : Obj) : FoW w (W.alloc o) A n c out := h.next ((Below.refl _ _).alloc (Nat.le_refl _) _)
theorem FoW.push {w W W' : World} {A A8 : Option Addr} {n c k8 c8 : Nat} {out out' : List Fac} (h : FoW w W A n c out) (hq : W'.ownsRow w.heap.size 29 3 (.slice A8 k8 c8) k8 (out'.flatMap Fac.cells)) (hg : W.grownBy W' (Value.slice A n c).ownBlock) : FoW w W' A8 k8 c8 out' :=
  ⟨hq, h.e.grown hg h.e.size (own_ge h.o)⟩
theorem FoW.v {w W : World} {A : Option Addr} {n c : Nat} {out : List Fac} {m : Int} (h : FoW w W A n c out) (hm : w.cell? ⟨0, 0, none⟩ = some (.int .i64 m)) (h0 : 0 < w.heap.size) : W.cell? ⟨0, 0, none⟩ = some (.int .i64 m) := (h.e.cell (p := ⟨0, 0, none⟩) h0).trans hm
theorem cell_lt {w : World} {v : Value} (hm : w.cell? ⟨0, 0, none⟩ = some v) : 0 < w.heap.size := by
  rcases Nat.eq_zero_or_pos w.heap.size with h | h
  · exfalso
    unfold World.cell? at hm
    rw [Array.getElem?_eq_none (by omega)] at hm
    simp at hm
  · exact h
set_option maxHeartbeats 4000000 in
set_option maxRecDepth 100000 in
theorem implFac_any (s : ByteArray) (m : Int) (w : World) (hs : s.size ≤ 1048576) (hm : w.cell? ⟨0, 0, none⟩ = some (.int .i64 m)) : Calls Try.prog 5 #[.string s] w (RetNewC w 29 3 Fac.cells (foF s) (foC s)) := by
  have hm0 := cell_lt hm
  rcases ho : okW s with _ | _
  · have Ho := Lib.hid ho
    have hT := Lib.hid (show foF s = [] by unfold foF; rw [ho]; rfl)
    have hC := Lib.hid (show foC s = 1 by unfold foC; rw [ho]; rfl)
    rw [hT.out, hC.out]
    clear ho hT hC
    go_enter Try.func5, Try.ntmps5
    go_wp2_with fail
    refine (validWord_any s false _ (by unfold maxLen; omega) Ho.out).mono ?_
    rintro e w1 ⟨rfl, hb1⟩
    go_wp2_with fail
    go_ret2
    exact ⟨none, 0, rfl, World.ownsRow_nil _ _ _ _, hb1⟩
  · have Ho := Lib.hid ho
    have hs2 : s.size ≤ 2000 := by
      unfold okW at ho
      simp only [Bool.and_eq_true, decide_eq_true_eq] at ho
      exact ho.1
    have hfl := facsF_len s 0
    have hT := show foF s = if 120 < (facsF s 0).length then [] else facsF s 0 by unfold foF; rw [ho]; rfl
    have hC := show foC s = if 120 < (facsF s 0).length then 3 else 0 by unfold foC; rw [ho]; rfl
    have HT := Lib.hid hT
    have HC := Lib.hid hC
    clear ho hT hC
    go_enter Try.func5, Try.ntmps5
    go_wp2_with fail
    refine (validWord_any s true _ (by unfold maxLen; omega) Ho.out).mono ?_
    rintro e w1 ⟨rfl, hb1⟩
    go_wp2_with fail
    refine named fun w0 H0 => ?_
    have P0 := Lib.hid (show FoW w w0 (some ⟨w1.heap.size, 0, none⟩) 0 0 [] by
      rw [H0.out]
      refine ⟨?_, hb1.alloc hb1.size _⟩
      have h := World.ownsRow_made (base := w.heap.size) (e := 29) (size := 3) w1 #[] 0 hb1.size (by unfold maxLen; omega) rfl
      simpa using h)
    clear H0
    go_loopw [4, 5] (fun l_ a_ w' => ∃ (at_ n : Nat) (A : Option Addr) (c : Nat) (out : List Fac), l_ = .slice A n c ∧ a_ = .int .i64 at_ ∧ at_ ≤ s.size ∧ n ≤ at_ ∧ Hid (out.length = n) ∧ Hid (out ++ facsF s at_ = facsF s 0) ∧ Hid (FoW w w' A n c out)) (fun _ a_ _ => s.size - (intOf a_).toNat)
    case atStart => exact ⟨0, 0, _, 0, [], rfl, rfl, by omega, by omega, Lib.hid rfl, Lib.hid rfl, P0⟩
    case round =>
      clear P0
      obtain ⟨at_, n, A, c, out, rfl, rfl, hat, hn, hol, HE, P1⟩ := hrel
      by_cases hlt : at_ < s.size
      · have HE2 := Lib.hid (show (out ++ [facF s at_]) ++ facsF s (at_ + stepF s at_) = facsF s 0 by
          rw [← HE.out]; conv => rhs; rw [facsF]
          rw [if_pos hlt, List.append_assoc]; rfl)
        have hsp := stepF_pos s at_
        have hsl := stepF_le hlt
        have hix := fun h => facF_index (Nat.le_of_lt hlt) (h : fonF s at_ 0 ≠ 0)
        have HIx := Lib.hid hix
        have a0 : (0 : Int) ≤ (at_ : Int) := by omega
        have a1 : (at_ : Int) ≤ (s.size : Int) := by omega
        have a2 : (at_ : Int) < (s.size : Int) := by omega
        clear HE hix
        go_wp2_with fail
        obtain ⟨wo, rfl⟩ : ∃ wo : World, wo = wr := ⟨_, rfl⟩
        go_loopw [6] (fun n_ w' => ∃ k : Nat, n_ = .int .i64 k ∧ at_ + k ≤ s.size ∧ Hid (fonF s at_ k = fonF s at_ 0) ∧ Hid (Below wo.heap.size wo w')) (fun n_ _ => s.size - (intOf n_).toNat)
        case atStart => exact ⟨0, rfl, by omega, Lib.hid rfl, Lib.hid (Below.refl _ _)⟩
        case round =>
          obtain ⟨k, rfl, hk, hF, HB⟩ := hrel
          have hmr := (P1.out.next HB.out).v hm hm0
          have hr0 : 0 < wr.heap.size := Nat.lt_of_lt_of_le (Nat.lt_of_lt_of_le hm0 P1.out.e.size) HB.out.size
          have HM := Lib.hid hmr
          have HR0 := Lib.hid hr0
          have hup := upc wr.heap.size wr
          have k0 : (0 : Int) ≤ (at_ : Int) + (k : Int) := by omega
          have u1 : IntKind.i64.wrap ((at_ : Int) + (k : Int)) = (at_ : Int) + (k : Int) := IntWalk.i64_in _ (by omega)
          have u2 : IntKind.i64.wrap ((at_ : Int) + (k : Int) + 1) = (at_ : Int) + (k : Int) + 1 := IntWalk.i64_in _ (by omega)
          have u3 : IntKind.i64.wrap ((k : Int) + 1) = (k : Int) + 1 := IntWalk.i64_in _ (by omega)
          have CT := Lib.hid (fun (W : World) (h : W.cell? ⟨0, 0, none⟩ = some (.int .i64 m)) => conts_any (s.extract 0 at_) (s.extract at_ (at_ + k + 1)) m W (by rw [ByteArray.size_extract]; omega) h)
          clear hmr hr0
          by_cases hgo : at_ + k < s.size ∧ Lib.contains (befF s at_) (partF s at_ (k + 1)) = true
          · obtain ⟨hlt2, hct⟩ := hgo
            have hct2 : Lib.contains (s.extract 0 at_).data.toList (s.extract at_ (at_ + k + 1)).data.toList = true := hct
            rw [hct2] at CT
            have hF' := Lib.hid (show fonF s at_ (k + 1) = fonF s at_ 0 by
              rw [← hF.out]; conv => rhs; rw [fonF]
              rw [if_pos ⟨hlt2, hct⟩])
            have k1 : (at_ : Int) + (k : Int) < (s.size : Int) := by omega
            have k2 : (at_ : Int) + (k : Int) + 1 ≤ (s.size : Int) := by omega
            have k3 : (at_ : Int) ≤ (at_ : Int) + (k : Int) + 1 := by omega
            clear hct hct2 hF
            go_wp2_with fail
            refine wp_region_up wr.heap.size (by kernel_rfl) (by kernel_rfl) ?_
            repeat (go_big_quiet_step ((go_at_call 11; exact Calls.up (Nat.le_refl _) (CT.out _ (((Up.h _).cell (p := ⟨0, 0, none⟩) HR0.out).trans HM.out)))))
            refine wpQuiet_nil ?_
            intro w2 hup_w2
            have hb2 := up_of hup_w2
            go_wp2_with fail
            go_roundw
            case rel => exact ⟨k + 1, by go_num, by omega, hF', Lib.hid (HB.out.trans (hb2.mono HB.out.size))⟩
            case measure => simp [intOf]; omega
          · have hk2 : fonF s at_ 0 = k := by rw [← hF.out, fonF, if_neg hgo]
            have hct : at_ + k < s.size → Lib.contains (s.extract 0 at_).data.toList (s.extract at_ (at_ + k + 1)).data.toList = false := fun h => by
              cases hq : Lib.contains (s.extract 0 at_).data.toList (s.extract at_ (at_ + k + 1)).data.toList with
              | false => rfl
              | true => exact absurd ⟨h, hq⟩ hgo
            have HCt := Lib.hid hct
            have HK2 := Lib.hid hk2
            clear hgo hct hk2 hF
            by_cases hk0 : k = 0
            · subst hk0
              have k1 : (at_ : Int) + ((0 : Nat) : Int) < (s.size : Int) := by omega
              have k2 : (at_ : Int) + ((0 : Nat) : Int) + 1 ≤ (s.size : Int) := by omega
              have k3 : (at_ : Int) ≤ (at_ : Int) + ((0 : Nat) : Int) + 1 := by omega
              rw [HCt.out (by omega)] at CT
              have w1' : IntKind.i64.wrap (at_ : Int) = (at_ : Int) := IntWalk.i64_in _ (by omega)
              have w2' : IntKind.i64.wrap ((at_ : Int) + 1) = (at_ : Int) + 1 := IntWalk.i64_in _ (by omega)
              have w3' : (at_ : Int) + 1 ≤ (s.size : Int) := by omega
              have w4' : (at_ : Int) ≤ (at_ : Int) + 1 := by omega
              go_wp2_with fail
              refine wp_region_up wr.heap.size (by kernel_rfl) (by kernel_rfl) ?_
              repeat (go_big_quiet_step ((go_at_call 11; exact Calls.up (Nat.le_refl _) (CT.out _ (((Up.h _).cell (p := ⟨0, 0, none⟩) HR0.out).trans HM.out)))))
              refine wpQuiet_nil ?_
              intro w2 hup_w2
              have hb2 := up_of hup_w2
              have hbo := HB.out.trans (hb2.mono HB.out.size)
              have P2 := Lib.hid (P1.out.next hbo)
              have hz := HK2.out
              have hfa := Lib.hid (show facF s at_ = ⟨s.extract at_ (at_ + 1), 0, 0⟩ by unfold facF; rw [if_pos hz])
              have hst := Lib.hid (show stepF s at_ = 1 by unfold stepF; rw [if_pos hz])
              have P3 := Lib.hid (P2.out.alloc (.cells #[.string (s.extract at_ (at_ + 1)), .int .i64 0, .int .i64 0] 29))
              have v1 : IntKind.i64.wrap ((at_ : Int) + 1) = (at_ : Int) + 1 := IntWalk.i64_in _ (by omega)
              have v2 : (at_ : Int) + 1 ≤ (s.size : Int) := by omega
              have v3 : (at_ : Int) ≤ (at_ : Int) + 1 := by omega
              have HE3 := HE2
              rw [hfa.out, hst.out] at HE3
              clear hz hup k1 k2 k3 u1 u2 u3 k0
              go_wp2_with
                (at_builtin
                 refine wpList_push (w0 := w) rfl _ _ _ rfl w.heap.size 29 3 32 elem_factor Fac.cells A n c out rfl P3.out.o w2.heap.size ⟨s.extract at_ (at_ + 1), 0, 0⟩ #[.string (s.extract at_ (at_ + 1)), .int .i64 0, .int .i64 0] 29 (0, 0) rfl (heap_alloc_new _ _) rfl rfl (one_factor _) (by omega) (by omega) (by unfold maxLen; omega) rfl P3.out.e ?_
                 intro A9 c9 w9 own9 hg9 hat9 hb9
                 have P9 := Lib.hid (P3.out.push own9 hg9))
              go_roundw
              case rel => exact ⟨at_ + 1, n + 1, A9, c9, out ++ [⟨s.extract at_ (at_ + 1), 0, 0⟩], rfl, by go_num, by omega, by omega, Lib.hid (by rw [List.length_append, hol.out]; rfl), HE3, P9⟩
              case measure => simp [intOf]; omega
            · by_cases hlt2 : at_ + k < s.size
              case' pos =>
                have k1 : (at_ : Int) + (k : Int) < (s.size : Int) := by omega
                have k2 : (at_ : Int) + (k : Int) + 1 ≤ (s.size : Int) := by omega
                have k3 : (at_ : Int) ≤ (at_ : Int) + (k : Int) + 1 := by omega
                rw [HCt.out hlt2] at CT
                go_wp2_with fail
                refine wp_region_up wr.heap.size (by kernel_rfl) (by kernel_rfl) ?_
                repeat (go_big_quiet_step ((go_at_call 11; exact Calls.up (Nat.le_refl _) (CT.out _ (((Up.h _).cell (p := ⟨0, 0, none⟩) HR0.out).trans HM.out)))))
                refine wpQuiet_nil ?_
                intro w2 hup_w2
                have hb2 := up_of hup_w2
              case' neg =>
                have k1 : (at_ : Int) + (k : Int) = (s.size : Int) := by omega
                have k2 : decide ((at_ : Int) + (k : Int) < (s.size : Int)) = false := by simp; omega
                have k4 : (s.size : Int) ≤ (at_ : Int) + (k : Int) := by omega
                clear k1
                go_wp2_with fail
                refine wp_region_up wr.heap.size (by kernel_rfl) (by kernel_rfl) ?_
                repeat (go_big_quiet_step (fail))
                refine wpQuiet_nil ?_
                intro w2 hup_w2
                have hb2 := up_of hup_w2
              all_goals
                have hbo := HB.out.trans (hb2.mono HB.out.size)
                have P2 := Lib.hid (P1.out.next hbo)
                have hz := HK2.out
                have hnz : fonF s at_ 0 ≠ 0 := by omega
                have hix := HIx.out hnz
                rw [hz] at hix
                have hfa := Lib.hid (show facF s at_ = ⟨⟨#[]⟩, Lib.index (befF s at_) (partF s at_ k), (k : Int)⟩ by unfold facF; rw [if_neg hnz, hz])
                have hst := Lib.hid (show stepF s at_ = k by unfold stepF; rw [if_neg hnz, hz])
                have HE3 := HE2
                rw [hfa.out, hst.out] at HE3
                have IX := Lib.hid (fun (W : World) (h : W.cell? ⟨0, 0, none⟩ = some (.int .i64 m)) => (show Calls Try.prog 12 #[.string (s.extract 0 at_), .string (s.extract at_ (at_ + k))] W (Ret (.int .i64 (Lib.index (befF s at_) (partF s at_ k))) W) from
                  index_any (s.extract 0 at_) (s.extract at_ (at_ + k)) m W (by rw [ByteArray.size_extract]; omega) h))
                obtain ⟨ix, hixe⟩ : ∃ ix, Lib.index (befF s at_) (partF s at_ k) = ix := ⟨_, rfl⟩
                rw [hixe] at IX HE3 hix
                have v2 : (at_ : Int) + (k : Int) ≤ (s.size : Int) := by omega
                have v3 : (at_ : Int) ≤ (at_ : Int) + (k : Int) := by omega
                have v4 : ¬ (k : Int) = 0 := by omega
                have P3 := Lib.hid (P2.out.next (Below.refl _ _).drew)
                have HM3 := Lib.hid (P3.out.v hm hm0)
                obtain ⟨y, hy⟩ : ∃ y : Fac, (⟨⟨#[]⟩, ix, (k : Int)⟩ : Fac) = y := ⟨_, rfl⟩
                have EY := Lib.hid (show (#[.string ⟨#[]⟩, .int .i64 ix, .int .i64 (k : Int)] : Array Value) = #[.string y.l, .int .i64 y.a, .int .i64 y.b] by rw [← hy])
                rw [hy] at HE3
                have zk : (n + 1) * 32 ≤ 140737488355328 := by omega
                have zkm : n + 1 ≤ maxLen := by unfold maxLen; omega
                have HIx2 := Lib.hid hix
                clear hz hup hnz hix hixe hy HIx HE2 hfa CT
                go_wp2_with fail
                go_region_law
                  (first
                    | (refine step_push (by rfl) _ _ _ (by rfl) w.heap.size 29 3 32 elem_factor Fac.cells A n c out (by rfl) P6.out.o _ y #[.string ⟨#[]⟩, .int .i64 ix, .int .i64 (k : Int)] 29 (0, 0) (by rfl) (heap_alloc_new _ _) (by rw [EY.out]; rfl) rfl (one_factor _) (by omega) zk zkm P6.out.e.size ?_
                       intro A8 c8 w8 own8 hg8 old8
                       have P9 := Lib.hid (P6.out.push own8 hg8))
                    | (go_simp
                       go_wp2_with (go_at_call 12; refine (IX.out _ HM3.out).mono ?_; rintro e w4 ⟨rfl, hb4⟩)
                       have P4 := Lib.hid (P3.out.next hb4)
                       have P6 := Lib.hid (P4.out.alloc (.cells #[.string ⟨#[]⟩, .int .i64 ix, .int .i64 (k : Int)] 29))))
                all_goals
                  go_wp2_with fail
                  go_roundw
                  case rel => exact ⟨at_ + k, n + 1, A8, c8, out ++ [y], rfl, by go_num, by omega, by omega, Lib.hid (by rw [List.length_append, hol.out]; rfl), HE3, P9⟩
                  case measure => simp [intOf]; omega
      · obtain rfl : at_ = s.size := by omega
        have he : out = facsF s 0 := by rw [← HE.out, facsF, if_neg (by omega)]; simp
        subst he
        have hl := hol.out
        by_cases hbig : 120 < n
        · have e1 := Lib.hid (show foF s = [] by rw [HT.out, if_pos (by omega)])
          have e2 := Lib.hid (show foC s = 3 by rw [HC.out, if_pos (by omega)])
          clear hl
          go_wp2_with fail
          go_ret2
          rw [e1.out, e2.out]
          exact ⟨none, 0, rfl, World.ownsRow_nil _ _ _ _, P1.out.e⟩
        · have e1 := Lib.hid (show foF s = facsF s 0 by rw [HT.out, if_neg (by omega)])
          have e2 := Lib.hid (show foC s = 0 by rw [HC.out, if_neg (by omega)])
          have HL := Lib.hid hl
          clear hl
          go_wp2_with fail
          go_ret2
          rw [e1.out, e2.out]
          exact ⟨A, c, by rw [HL.out]; rfl, by rw [HL.out]; exact P1.out.o, P1.out.e⟩
end Go.Proofs.Ytmfgmkahifcgpaa
