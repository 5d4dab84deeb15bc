/-
  EmbeddedStart in the program and in the reference; embed in the reference.
-/
import Derived.Test.YtchlipklmdlklaaEmbI
namespace Go.Proofs.Ytchlipklmdlklaa
open Go.RowKit

theorem own_block {w w' : World} {base : Nat} {e : TypeId} {sz n : Nat} {v : Value} {xs : List Value} (h : w.ownsRow base e sz v n xs) (hb : ∀ k, v.ownBlock = some k → w'.heap[k]? = w.heap[k]?) : w'.ownsRow base e sz v n xs := by
  refine ⟨h.1, ?_⟩
  rcases h.2 with hn | ⟨g, cap, cur, rfl, hg, hh, r⟩
  · exact .inl hn
  · exact .inr ⟨g, cap, cur, rfl, hg, (hb g rfl).trans hh, r⟩
set_option maxHeartbeats 4000000 in
set_option maxRecDepth 100000 in
theorem l05Embed_any (gb : Nat) (A : Option Addr) (n c : Nat) (rs : List Fac) (ls : List Int) (p : ByteArray) (w : World) (hg : gb < w.heap.size) (hc : w.cell? ⟨gb, 0, none⟩ = some (.slice A n c)) (hn : n ≤ 1048576) (hr : Rd w w.heap.size A n 3 Fac.cells rs)
    (hok : ∀ f ∈ rs, f.l.size ≤ maxLen) (hk : gOk rs = some ls) (hp : okW p = true) :
    Calls Try.prog 32 #[.pointer (some ⟨gb, 0, none⟩), .string p] w (RetNew w 2 1 intE (embAll rs ls p)) := by
  have hl := Lib.hid hr.len
  have HR := Lib.hid hr; clear hr
  have HO := Lib.hid hok; clear hok
  have Hk := Lib.hid hk
  have HL := Lib.hid (gOk_lens hk).1
  have Hll := Lib.hid (gOk_lens hk).2.2
  have hll := Lib.hid ((gOk_lens hk).2.2.trans hl.out)
  have hn4 : n ≤ 400 := by have := (gOk_lens hk).2.1; have := hl.out; omega
  have hps := (okW_b hp).1
  have HP := Lib.hid (okW_b hp).2; clear hp hk
  have hbl := byte_len p
  have hlb := lastI_bound HL.out Hll.out
  go_enter Try.func32, Try.ntmps32
  go_wp2_with fail
  refine namedC fun w0 H0 => ?_
  have hb0 : Below w.heap.size w w0 := by rw [H0.out]; (repeat first | exact Below.refl _ _ | assumption | refine Below.drew ?_ | refine Below.alloc ?_ (by first | exact Nat.le_refl _ | (simp; done) | omega | (simp; omega)) _ | refine Below.setCell ?_ (by first | exact Nat.le_refl _ | (simp; done) | omega | (simp; omega)) _)
  have own0 := Lib.hid (show w0.ownsRow w.heap.size 2 1 (.slice (some ⟨w.heap.size, 0, none⟩) 0 0) 0 (([] : List Int).flatMap intE) by
    rw [H0.out]; simpa using World.ownsRow_made (base := w.heap.size) (e := 2) (size := 1) w #[] 0 (Nat.le_refl _) (by unfold maxLen; omega) rfl)
  have H0s := Lib.hid H0.out
  clear H0
  have cg0 := (hb0.cell (p := ⟨gb, 0, none⟩) hg).trans hc
  have lg0 : gb < w0.heap.size := by have := hb0.size; omega
  refine (l02Lengths_any gb A n c rs w0 lg0 cg0 (by omega) (HR.out.next hb0) HO.out).mono ?_
  rintro e1 w1 ⟨hb1, ⟨ls', A2, c2, hg2, rfl, hown2⟩ | ⟨hg2, _⟩⟩
  case inr => exact absurd (hg2.symm.trans Hk.out) (by simp)
  obtain rfl : ls' = ls := Option.some.inj (hg2.symm.trans Hk.out)
  rw [hll.out] at hown2 ⊢
  have OL1 := Lib.hid hown2
  have b1 := hb0.trans (hb1.mono hb0.size)
  have cg1 := (b1.cell (p := ⟨gb, 0, none⟩) hg).trans hc
  have lg1 : gb < w1.heap.size := by have := b1.size; omega
  clear cg0 hown2 hg2
  go_wp2_with fail
  refine (l05Counts_any gb A n c rs ls' w1 lg1 cg1 hn (HR.out.next b1) HL.out).mono ?_
  rintro e1 w2 ⟨A5, c5, gs, rfl, own5, rows5, hb2⟩
  have hcl := Lib.hid ((full_len Q4.nil cntF cntG (rs := rs)).trans hl.out)
  rw [hcl.out] at own5 ⊢
  have b2 := b1.trans (hb2.mono b1.size)
  have OL2 := Lib.hid (own_next OL1.out hb2)
  have OT2 := Lib.hid own5
  have RO2 := Lib.hid rows5
  have hz0 : w.heap.size < w0.heap.size := by rw [H0s.out]; simp
  have hz1 := hb1.size
  have hz2 := hb2.size
  have HX := Lib.hid (fun (wx : World) (hx : ∀ b, w.heap.size < b → b < w2.heap.size → wx.heap[b]? = w2.heap[b]?) => show Rd wx wx.heap.size A2 n 1 intE ls' ∧ Tab wx wx.heap.size A5 n (cnts rs) from by
    constructor
    · exact Rd.of_own (enc := intE) (fun _ _ => rfl) hll.out (own_block OL2.out (fun k hk => by have := OL2.out.lt k hk; exact hx k (by omega) (by omega)))
    · refine Tab.of hcl.out (own_block OT2.out (fun k hk => by have := OT2.out.lt k hk; exact hx k (by omega) (by omega))) ⟨RO2.out.1, fun i g hi => ?_⟩
      obtain ⟨h1, h2⟩ := RO2.out.2 i g hi
      have := h2.lt
      exact ⟨h1, (hx g (by omega) (by omega)).trans h2⟩)
  have own2 := Lib.hid (own_next (own_next own0.out hb1) hb2)
  have R2 := Lib.hid (HR.out.next b2)
  have cg2 := Lib.hid ((b2.cell (p := ⟨gb, 0, none⟩) hg).trans hc)
  have lg2 : gb < w2.heap.size := by have := b2.size; omega
  clear cg1 own5 rows5
  go_wp2_with fail
  go_loopw [5, 9, 10] (fun o_ n_ i_ w' => ∃ (i : Nat) (nx : Int) (o : List Int) (A' : Option Addr) (c' : Nat), i_ = .int .i64 i ∧ n_ = .int .i64 nx ∧ o_ = .slice A' o.length c' ∧ i ≤ p.size ∧ o.length ≤ i ∧ Below w.heap.size w w' ∧
      Hid (w'.ownsRow w.heap.size 2 1 (.slice A' o.length c') o.length (o.flatMap intE)) ∧ w2.heap.size ≤ w'.heap.size ∧ Hid (∀ b, w.heap.size < b → b < w2.heap.size → w'.heap[b]? = w2.heap[b]?) ∧ Hid (∀ k, (Value.slice A' o.length c').ownBlock = some k → k = w.heap.size ∨ w2.heap.size ≤ k) ∧ (0 ≤ nx ∧ nx ≤ lastI ls') ∧
      Hid (embAll rs ls' p = o ++ embGo rs ls' (p.data.toList.drop i) nx)) (fun _ _ i_ _ => p.size - (intOf i_).toNat)
  case atStart => exact ⟨0, 0, [], _, 0, rfl, rfl, rfl, by omega, by simp, b2, own2, Nat.le_refl _, Lib.hid (fun _ _ _ => rfl), Lib.hid (fun k hk => by left; simpa [Value.ownBlock] using hk.symm), by omega, Lib.hid rfl⟩
  case round =>
    obtain ⟨i, nx, o, A', c', rfl, rfl, rfl, hi, hoi, hb, hown, hsz, hmid, hob, ⟨n1, n2⟩, H⟩ := hrel
    obtain ⟨rr_, TT_⟩ := HX.out wr hmid.out
    have rr := Lib.hid rr_; have TT := Lib.hid TT_
    clear rr_ TT_
    by_cases hlt : i < p.size
    · have hlet := HP.out i hlt
      have Hcc := Lib.hid hlet
      obtain ⟨k0, k1⟩ := letB_num hlet
      have H' := Lib.hid (show embAll rs ls' p = o ++ (if (topQ rs).at_ ((p[i]'hlt).toNat - 97) ≤ rkT (rkV rs ((p[i]'hlt).toNat - 97)) ls' rs nx then [] else nextAt rs ls' ((p[i]'hlt).toNat - 97) nx :: embGo rs ls' (p.data.toList.drop (i + 1)) (nextAt rs ls' ((p[i]'hlt).toNat - 97) nx + 1)) by
        rw [H.out, drop_cons (at_byte p i hlt)]; rfl)
      have hl4 : (p[i]'hlt).toNat - 97 < 4 := by omega
      have eC := Lib.hid (show ((p[i]'hlt).toNat : Int) - 97 = (((p[i]'hlt).toNat - 97 : Nat) : Int) by omega)
      clear H hlet
      go_wp2_with fail
      refine (l04Letter_any _ Hcc.out _).mono ?_
      rintro e w3 ⟨rfl, hb3⟩
      rw [eC.out]
      generalize hgl : (p[i]'hlt).toNat - 97 = l at *
      have b3 := hb.trans (hb3.mono hb.size)
      have lg3 : gb < w3.heap.size := by have := b3.size; omega
      have cg3 := Lib.hid ((b3.cell (p := ⟨gb, 0, none⟩) hg).trans hc)
      have hbd := rkT_b HL.out l n1
      obtain ⟨q0, q1⟩ := hbd
      have hNA := Lib.hid (fun h => nextAt_b HL.out Hll.out hl4 n1 h)
      have enx := Lib.hid (show nextAt rs ls' l nx = selGo (cnts rs) ls' rs l rs.length (rs.length - 1) (rkT (rkV rs l) ls' rs nx) 0 from rfl)
      go_wp2_with fail
      refine (l05Rank_any gb A n c rs A2 c2 A5 c5 ls' l nx w3 lg3 cg3.out hn (HR.out.next b3) HL.out Hll.out (rr.out.next hb3) (TT.out.next hb3) hl4 n1 n2).mono ?_
      rintro e w4 ⟨rfl, hb4⟩
      have b34 := hb3.trans (hb4.mono hb3.size)
      go_wp2_with fail
      refine (l05Total_any A5 n c5 rs l w4 hn (TT.out.next b34) hl4).mono ?_
      rintro e w5 ⟨rfl, hb5⟩
      have b35 := b34.trans (hb5.mono b34.size)
      have b5 := hb.trans (b35.mono hb.size)
      have hown5 := Lib.hid (own_next hown.out b35)
      rw [enx.out] at H' hNA
      generalize rkT (rkV rs l) ls' rs nx = y at *
      by_cases hf : (topQ rs).at_ l ≤ y
      · rw [if_pos hf] at H'
        generalize (topQ rs).at_ l = tq at *
        go_wp2_with fail
        go_ret
        refine ⟨A', c', ret_slice (by rw [H'.out]; simp), ?_, b5⟩
        rw [show embAll rs ls' p = o by rw [H'.out]; simp]
        exact hown5.out
      · rw [if_neg hf] at H'
        have hN2 := hNA.out (by simpa using hf)
        obtain ⟨z0, z1⟩ := hN2
        have lg5 : gb < w5.heap.size := by have := b5.size; omega
        have cg5 := Lib.hid ((b5.cell (p := ⟨gb, 0, none⟩) hg).trans hc)
        have hn0 : 0 < n := by
          rcases Nat.eq_zero_or_pos n with h | h
          · exfalso; apply hf; rw [show topQ rs = Q4.nil by unfold topQ; rw [if_pos (by rw [hl.out]; exact h)]]
            have : Q4.nil.at_ l = 0 := by
              rcases (show l = 0 ∨ l = 1 ∨ l = 2 ∨ l = 3 by omega) with rfl | rfl | rfl | rfl <;> rfl
            omega
          · exact h
        have hsl := Lib.hid (l05Select_any gb A n c rs A2 c2 A5 c5 ls' l y w5 lg5 cg5.out hn hn0 (HR.out.next b5) HL.out (rr.out.next b35) (TT.out.next b35) hl4 q0 (by omega))
        generalize selGo (cnts rs) ls' rs l rs.length (rs.length - 1) y 0 = z at *
        generalize (topQ rs).at_ l = tq at *
        go_wp2_with fail
        refine hsl.out.mono ?_
        rintro e w7 ⟨rfl, hb7⟩
        have b37 := b35.trans (hb7.mono b35.size)
        have b7 := hb.trans (b37.mono hb.size)
        have hown7 := Lib.hid (own_next hown.out b37)
        have u1 : IntKind.i64.wrap (z + 1) = z + 1 := IntWalk.i64_in _ (by omega)
        have cb8 := b7.alloc b7.size (.cells #[.int .i64 z] 2)
        clear hf hNA
        go_wp2_with
          (at_builtin
           refine wpList_push (w0 := w) rfl _ _ _ rfl w.heap.size 2 1 8 elem_int intE _ o.length c' o rfl (hown7.out.alloc _) w7.heap.size z #[.int .i64 z] 2 (0, 0) rfl (heap_alloc_new _ _) rfl rfl (by simp [intE, Value.oneCell']) (by omega) (by omega) (by unfold maxLen; omega) rfl cb8 ?_
           intro A9 c9 w9 own9 hg9 hat9 hb9
           have O9 := Lib.hid own9
           have G9 := Lib.hid hg9
           have T9 := Lib.hid hat9
           clear own9 hat9 hg9)
        clear u1
        have hz7 := b37.size
        have hz9 := G9.out.size
        go_roundw
        case rel =>
          refine ⟨i + 1, z + 1, o ++ [z], A9, c9, by go_num, rfl, by simp, by omega, by simp; omega, hb9, Lib.hid ?_, by simp at hz9; omega, Lib.hid ?_, Lib.hid ?_, by omega, Lib.hid (by rw [H'.out]; simp)⟩
          · simpa using O9.out
          · intro b h1 h2
            refine (G9.out.block b (by simp; omega) ?_).trans ((Below.heap_alloc w7 _ b (by omega)).trans ((b37.block b (by omega)).trans (hmid.out b h1 h2)))
            intro he
            have := hob.out b he.symm
            omega
          · intro k hk
            have hk' : (Value.slice A9 (o.length + 1) c9).ownBlock = some k := by simpa using hk
            rcases T9.out with h | h
            · rw [h] at hk'; exact hob.out k hk'
            · rw [h] at hk'
              right
              have : (w7.alloc (.cells #[.int .i64 z] 2)).heap.size = k := by injection hk'
              simp at this
              omega
        case measure => simp [intOf]; omega
    · have H' := Lib.hid (show embAll rs ls' p = o by rw [H.out, List.drop_of_length_le (by rw [hbl]; omega)]; simp [embGo])
      go_wp2_with fail
      go_ret
      refine ⟨A', c', ret_slice (by rw [H'.out]), ?_, hb⟩
      rw [H'.out]
      exact hown.out
end Go.Proofs.Ytchlipklmdlklaa
