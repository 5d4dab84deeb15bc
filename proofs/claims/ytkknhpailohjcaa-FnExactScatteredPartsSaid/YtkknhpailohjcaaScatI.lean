/-
  Scattered words, counted: the tables of the program.
-/
import Derived.Test.YtkknhpailohjcaaScatM
import Derived.Deep.RegionWith
namespace Go.Proofs.Ytkknhpailohjcaa
open Go.RowKit

theorem ret_rep {β : Type} {Rep : World → Value → β → Prop} {y : β} {w0 w : World} {v : Value} (h : Rep w v y) (hb : Below w0.heap.size w0 w) : RetRep Rep y w0 (.returned v) w := ⟨v, rfl, h, hb⟩
theorem made_nil (w : World) (base m : Nat) (hb : base ≤ w.heap.size) : TabJ (w.alloc (.cells #[] 26)) base (some ⟨w.heap.size, 0, none⟩) 0 0 m [] [] :=
  ⟨by simpa using World.ownsRow_made (base := base) (e := 26) (size := 1) w #[] 0 hb (by unfold maxLen; omega) rfl, rfl, fun i g hg => by simp at hg, fun i hi => absurd hi (by omega), fun i j g hi => by simp at hi⟩
theorem TabJ.row {wr w9 : World} {base k c c9 N : Nat} {A A9 : Option Addr} {gs : List Nat} {Y : Tb} (hT : TabJ wr base A k c N gs (tabL N Y)) (hk : k < N) (hb : base ≤ wr.heap.size) (hN : N ≤ maxLen) {cs : Array Value} (hs : cs.size = N) (hc : ∀ j, j < N → cs[j]? = some (.int .i64 (Y k j))) (o : Obj)
    (own : w9.ownsRow base 26 1 (.slice A9 (k + 1) c9) (k + 1) ((gs ++ [wr.heap.size]).flatMap (encH N))) (hg : ((wr.alloc (.cells cs 2)).alloc o).grownBy w9 (Value.slice A k c).ownBlock) : TabJ w9 base A9 (k + 1) c9 N (gs ++ [wr.heap.size]) (tabL N Y) := by
  refine TabJ.push hT (hT.next ((Below.refl _ _).alloc (Nat.le_refl _) _)) (Nat.le_refl _) ?_ (by rw [tabL_at _ hk, rowL_len]) o own hg
  rw [tabL_at _ hk]
  exact own_of_row (Blk.new wr 2 cs) hs hc hb hN
theorem cs_one {N k : Nat} (hk : k < N) (v : Int) : ((madeCells (Value.int .i64 0).cells (N * 1)).setIfInBounds k (.int .i64 v)).size = N ∧ ∀ j, j < N → ((madeCells (Value.int .i64 0).cells (N * 1)).setIfInBounds k (.int .i64 v))[j]? = some (.int .i64 (if j = k then v else 0)) := by
  refine ⟨by simp [size_madeCells, Value.cells], fun j hj => ?_⟩
  by_cases h : j = k
  · subst h
    rw [Array.getElem?_setIfInBounds_self_of_lt (by simpa [size_madeCells, Value.cells] using hk), if_pos rfl]
  · rw [Array.getElem?_setIfInBounds_ne (by omega), made_at hj, if_neg h]
theorem cs_two {N k : Nat} (hk : k + 1 < N) (v : Int) : (((madeCells (Value.int .i64 0).cells (N * 1)).setIfInBounds k (.int .i64 v)).setIfInBounds (k + 1) (.int .i64 v)).size = N ∧ ∀ j, j < N → (((madeCells (Value.int .i64 0).cells (N * 1)).setIfInBounds k (.int .i64 v)).setIfInBounds (k + 1) (.int .i64 v))[j]? = some (.int .i64 (if j = k ∨ j = k + 1 then v else 0)) := by
  obtain ⟨h1, h2⟩ := cs_one (N := N) (k := k) (by omega) v
  refine ⟨by simpa using h1, fun j hj => ?_⟩
  by_cases h : j = k + 1
  · subst h
    rw [Array.getElem?_setIfInBounds_self_of_lt (by omega), if_pos (.inr rfl)]
  · rw [Array.getElem?_setIfInBounds_ne (by omega), h2 j hj]
    by_cases h3 : j = k
    · rw [if_pos h3, if_pos (.inl h3)]
    · rw [if_neg h3, if_neg (by omega)]
theorem madeN (N : Nat) : madeCells #[Value.int .i64 0] N = madeCells (Value.int .i64 0).cells (N * 1) := by rw [Nat.mul_one]; rfl
theorem made_nil' (w : World) (base m : Nat) (xss : List (List Int)) (hb : base ≤ w.heap.size) : TabJ (w.alloc (.cells #[] 26)) base (some ⟨w.heap.size, 0, none⟩) 0 0 m [] xss :=
  ⟨by simpa using World.ownsRow_made (base := base) (e := 26) (size := 1) w #[] 0 hb (by unfold maxLen; omega) rfl, rfl, fun i g hg => by simp at hg, fun i hi => absurd hi (by omega), fun i j g hi => by simp at hi⟩
theorem elemSl : Elem Try.prog 38 26 1 24 := Elem.mk' (z := .slice none 0 0) Try.underlying38 (by kernel_rfl) rfl
theorem one_encH (m g : Nat) : ∀ u ∈ encH m g, u.oneCell' = true := by simp [encH, Value.oneCell']
set_option maxHeartbeats 2000000 in
set_option maxRecDepth 100000 in
theorem scat1_any (l m : Int) (nb mb pb : Nat) (p : ByteArray) (w : World) (hnb : nb < w.heap.size) (hmb : mb < w.heap.size) (hpb : pb < w.heap.size) (dn : w.cell? ⟨nb, 0, none⟩ = some (.int .i64 ((p.size + 1 : Nat) : Int))) (dm : w.cell? ⟨mb, 0, none⟩ = some (.int .i64 m)) (dp : w.cell? ⟨pb, 0, none⟩ = some (.string p))
    (hp : okW p = true) (hp8 : p.size ≤ 8) (hm : 1 ≤ m) (hm2 : m ≤ 1000000000) (hl : -1 ≤ l) (hl4 : l < 4) :
    Calls Try.prog 92 #[.int .i64 l, .pointer (some ⟨nb, 0, none⟩), .pointer (some ⟨mb, 0, none⟩), .pointer (some ⟨pb, 0, none⟩)] w (RetRep (TabN (p.size + 1) w.heap.size) (scU p m l) w) := by
  obtain ⟨i0, hi, hz0, hz1, hz2⟩ := info_parts info_i64
  have hmk := run_make_rowN (P := Try.prog) 26 2 i0 _ Try.underlying26 hi hz0 .i64 .i64 (p.size + 1) (p.size + 1) (Nat.le_refl _) (by rw [hz2]; omega) (by omega)
  rw [hz1] at hmk
  have HP := Lib.hid (okW_b hp).2; clear hp
  have hm0 : ¬ m = 0 := by omega
  have re := emod_inT (a := 1) hm
  obtain ⟨re0, re1⟩ := re
  have u1 : IntKind.i64.wrap (1 % m) = 1 % m := IntWalk.i64_in _ (by omega)
  have v1 : (1 : Int).tmod m = 1 % m := Int.tmod_eq_emod_of_nonneg (by omega)
  generalize hN : p.size + 1 = N at *
  have HN := Lib.hid hN; clear hN
  go_enter Try.func92, Try.ntmps92
  go_wp2_with fail
  go_loopw [6, 11] (fun o_ i_ w' => ∃ (k : Nat) (A' : Option Addr) (c' : Nat) (gs : List Nat), i_ = .int .i64 k ∧ o_ = .slice A' k c' ∧ k ≤ N ∧ Below w.heap.size w w' ∧
      Hid (TabJ w' w.heap.size A' k c' N gs (tabL N (scU p m l)))) (fun _ i_ _ => N - (intOf i_).toNat)
  case atStart => exact ⟨0, _, 0, [], rfl, rfl, by omega, by (repeat first | exact Below.refl _ _ | assumption | refine Below.drew ?_ | refine Below.alloc ?_ (by first | exact Nat.le_refl _ | (simp; done) | omega | (simp; omega)) _ | refine Below.setCell ?_ (by first | exact Nat.le_refl _ | (simp; done) | omega | (simp; omega)) _), Lib.hid (made_nil' w w.heap.size N _ (Nat.le_refl _))⟩
  case round =>
    obtain ⟨k, A', c', gs, rfl, rfl, hk, hb, hT⟩ := hrel
    have sw := hb.size
    have en := (hb.cell (p := ⟨nb, 0, none⟩) hnb).trans dn
    have em := (hb.cell (p := ⟨mb, 0, none⟩) hmb).trans dm
    have ep := (hb.cell (p := ⟨pb, 0, none⟩) hpb).trans dp
    have ln : nb < wr.heap.size := by omega
    have lm : mb < wr.heap.size := by omega
    have lp : pb < wr.heap.size := by omega
    by_cases hlt : k < N
    · have mk0 := made_at (n := N) (j := k) hlt
      rw [← madeN] at mk0
      have hN9 : N ≤ 9 := by have := HN.out; omega
      have HTr := Lib.hid (fun (cs : Array Value) (A9 : Option Addr) (c9 : Nat) (w9 : World) => TabJ.row (w9 := w9) (A9 := A9) (c9 := c9) (cs := cs) hT.out hlt sw (by unfold maxLen; omega))
      by_cases hk1 : k + 1 < N
      · have hkp : k < p.size := by have := HN.out; omega
        obtain ⟨k0, k1⟩ := letB_num (HP.out k hkp)
        have v2 : IntKind.u8.wrap (((p[k]'hkp).toNat : Int) - 97) = (((p[k]'hkp).toNat - 97 : Nat) : Int) := by show (((p[k]'hkp).toNat : Int) - 97) % 256 = _; omega
        have eU := Lib.hid (show ∀ b, scU p m l k b = if b = k then 1 % m else if b = k + 1 ∧ 0 ≤ l ∧ (((p[k]'hkp).toNat : Int) - 97 = l) then 1 % m else 0 from fun b => by
          unfold scU
          rw [show ((p.data.toList.getD k 0).toNat : Int) = ((p[k]'hkp).toNat : Int) by rw [List.getD_eq_getElem?_getD, at_byte p k hkp]; rfl]
          simp only [hkp, true_and])
        have hq := Lib.hid (show (((p[k]'hkp).toNat - 97 : Nat) : Int) = ((p[k]'hkp).toNat : Int) - 97 by omega)
        generalize hq2 : (p[k]'hkp).toNat - 97 = q at *
        have hq3 : (q : Int) ≤ 3 := by omega
        have hk1' : (k : Int) + 1 < (N : Int) := by omega
        have HQ := Lib.hid hq2; clear hq2 k0 k1
        have mk1 := made_at (n := N) (j := k + 1) hk1
        rw [← madeN] at mk1
        by_cases hh : 0 ≤ l ∧ (q : Int) = l
        · obtain ⟨hh1, hh2⟩ := hh
          have e1 : ((q : Int) == l) = true := by simpa using hh2
          have cs2 := Lib.hid (cs_two hk1 (1 % m))
          have eR := Lib.hid (show ∀ b, scU p m l k b = if b = k ∨ b = k + 1 then 1 % m else 0 from fun b => by
            rw [eU.out]
            by_cases h1 : b = k
            · rw [if_pos h1, if_pos (.inl h1)]
            · by_cases h2 : b = k + 1
              · rw [if_neg h1, if_pos ⟨h2, hh1, by rw [← hq.out]; exact hh2⟩, if_pos (.inr h2)]
              · rw [if_neg h1, if_neg (fun h => h2 h.1), if_neg (by omega)])
          clear hh2 eU
          go_wp2_with
            (at_builtin
             refine wpList_push (w0 := w) rfl _ _ _ rfl w.heap.size 26 1 24 elemSl (encH N) _ k c' gs rfl ((hT.out.o.alloc _).alloc _) (wr.heap.size + 1) wr.heap.size #[.slice (some ⟨wr.heap.size, 0, none⟩) N N] 26 (0, 0) rfl (by simpa using heap_alloc_new (wr.alloc _) _) rfl rfl (one_encH _ _) (by omega) (by omega) (by unfold maxLen; omega) rfl ((hb.alloc sw _).alloc (by simp; omega) _) ?_
             intro A9 c9 w9 own9 hg9 hat9 hb9
             have T9 := Lib.hid (HTr.out _ _ _ _ (by rw [madeN]; exact cs2.out.1) (by rw [madeN]; exact fun j hj => by rw [eR.out]; exact cs2.out.2 j hj) _ own9 hg9)
             clear own9 hat9 hg9)
          go_roundw
          case rel => exact ⟨k + 1, A9, c9, gs ++ [wr.heap.size], by go_num, rfl, by omega, hb9, T9⟩
          case measure => simp [intOf]; omega
        · have cs1 := Lib.hid (cs_one hlt (1 % m))
          have eR := Lib.hid (show ∀ b, scU p m l k b = if b = k then 1 % m else 0 from fun b => by
            rw [eU.out]
            by_cases h1 : b = k
            · rw [if_pos h1, if_pos h1]
            · rw [if_neg h1, if_neg (fun h => hh ⟨h.2.1, by rw [hq.out]; exact h.2.2⟩), if_neg h1])
          clear eU
          rcases (show ¬ 0 ≤ l ∨ (0 ≤ l ∧ ((q : Int) == l) = false) from by
            rcases (show ¬ 0 ≤ l ∨ 0 ≤ l by omega) with h | h
            · exact .inl h
            · exact .inr ⟨h, by simpa using fun e => hh ⟨h, e⟩⟩) with hl1 | ⟨hl1, e1⟩
          all_goals
            clear hh
            go_wp2_with
              (at_builtin
               refine wpList_push (w0 := w) rfl _ _ _ rfl w.heap.size 26 1 24 elemSl (encH N) _ k c' gs rfl ((hT.out.o.alloc _).alloc _) (wr.heap.size + 1) wr.heap.size #[.slice (some ⟨wr.heap.size, 0, none⟩) N N] 26 (0, 0) rfl (by simpa using heap_alloc_new (wr.alloc _) _) rfl rfl (one_encH _ _) (by omega) (by omega) (by unfold maxLen; omega) rfl ((hb.alloc sw _).alloc (by simp; omega) _) ?_
               intro A9 c9 w9 own9 hg9 hat9 hb9
               have T9 := Lib.hid (HTr.out _ _ _ _ (by rw [madeN]; exact cs1.out.1) (by rw [madeN]; exact fun j hj => by rw [eR.out]; exact cs1.out.2 j hj) _ own9 hg9)
               clear own9 hat9 hg9)
            go_roundw
            case rel => exact ⟨k + 1, A9, c9, gs ++ [wr.heap.size], by go_num, rfl, by omega, hb9, T9⟩
            case measure => simp [intOf]; omega
      · have cs1 := Lib.hid (cs_one hlt (1 % m))
        have eR := Lib.hid (show ∀ b, b < N → scU p m l k b = if b = k then 1 % m else 0 from fun b hb => by
          unfold scU
          by_cases h1 : b = k
          · rw [if_pos h1, if_pos h1]
          · rw [if_neg h1, if_neg (by omega), if_neg h1])
        have hk1' : ¬ ((k : Int) + 1 < (N : Int)) := by omega
        go_wp2_with
          (at_builtin
           refine wpList_push (w0 := w) rfl _ _ _ rfl w.heap.size 26 1 24 elemSl (encH N) _ k c' gs rfl ((hT.out.o.alloc _).alloc _) (wr.heap.size + 1) wr.heap.size #[.slice (some ⟨wr.heap.size, 0, none⟩) N N] 26 (0, 0) rfl (by simpa using heap_alloc_new (wr.alloc _) _) rfl rfl (one_encH _ _) (by omega) (by omega) (by unfold maxLen; omega) rfl ((hb.alloc sw _).alloc (by simp; omega) _) ?_
           intro A9 c9 w9 own9 hg9 hat9 hb9
           have T9 := Lib.hid (HTr.out _ _ _ _ (by rw [madeN]; exact cs1.out.1) (by rw [madeN]; exact fun j hj => by rw [eR.out j hj]; exact cs1.out.2 j hj) _ own9 hg9)
           clear own9 hat9 hg9)
        go_roundw
        case rel => exact ⟨k + 1, A9, c9, gs ++ [wr.heap.size], by go_num, rfl, by omega, hb9, T9⟩
        case measure => simp [intOf]; omega
    · obtain rfl : k = N := by omega
      go_wp2_with fail
      go_ret
      exact ret_rep ⟨A', c', gs, rfl, hT.out⟩ hb
end Go.Proofs.Ytkknhpailohjcaa
