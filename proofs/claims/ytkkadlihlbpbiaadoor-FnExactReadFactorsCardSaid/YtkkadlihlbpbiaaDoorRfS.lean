
/-
  Factors that are read, in the reference.
-/
import Derived.Test.YtkkadlihlbpbiaaDoorRfM
import Derived.Test.YtkkadlihlbpbiaaDoorPhr
import Derived.Test.YtkkadlihlbpbiaaDoorFac
import Derived.Test.YtkkadlihlbpbiaaDoorStage
namespace Go.Proofs.YtkkadlihlbpbiaaDoor
open Go.RowKit

section
variable {α : Type} {P : Program} {w : World} {ops : Array Oper} {o : Oper} {a : Act} {K : Act → World → Prop} {Q : Exit → Act → World → Prop} {E : Prop}
/-- one element more, as a step of a region that draws its order; where the row lies then -/
theorem step_pushR (hgd : o.guard = none) (s x : Operand) (t : TypeId) (ho : o.op = .call { callee := .builtin .append, args := #[s, x], argTypes := #[t, t] })
    (base : Nat) (e : TypeId) (sz bytes : Nat) (EI : Elem P t e sz bytes) (enc : α → List Value) (A : Option Addr) (n c : Nat) (xs : List α) (hs : a.eval s = .slice A n c)
    (hown : w.ownsRow base e sz (.slice A n c) n (xs.flatMap enc)) (g : Nat) (y : α) (cs : Array Value) (t' : TypeId) (fr : Nat × Nat) (hx : a.eval x = .slice (some ⟨g, 0, none⟩) 1 1) (hg : w.heap[g]? = some (.cells cs t' fr)) (hcs : cs.toList = enc y)
    (hlen : (enc y).length = sz) (hone : ∀ u ∈ enc y, u.oneCell' = true) (hsz : 0 < sz) (hbytes : (n + 1) * bytes ≤ 140737488355328) (hm : n + 1 ≤ maxLen) (hsize : base ≤ w.heap.size)
    (h : ∀ A' c' w', w'.ownsRow base e sz (.slice A' (n + 1) c') (n + 1) ((xs ++ [y]).flatMap enc) → w.grownBy w' (Value.slice A n c).ownBlock →
      ((Value.slice A' (n + 1) c').ownBlock = (Value.slice A n c).ownBlock ∨ (Value.slice A' (n + 1) c').ownBlock = some w.heap.size) →
      K (a.put o.dst (.slice A' (n + 1) c')) w') : if Region.wanted o (yielded ops a.tmps) = true then Oper.wp P o a w K Q else E := by
  obtain ⟨ht, i, z, hi, hz, h1, h2, hzs⟩ := EI
  have hnews : ∀ j u, (enc y)[j]? = some u → w.cell? ((⟨g, 0, none⟩ : Addr).add j) = some u := by rw [← hcs]; exact World.news_of_block hg
  obtain ⟨v', w', hr, r2, r3, _, r5⟩ := run_append_own_at (P := P) w base t o.type e i z sz bytes ht hi hz h1 h2 hzs hsz _ n _ hown ⟨g, 0, none⟩ 1 1 (enc y) (by rw [hlen]; omega) hnews hone hm hbytes hsize
  obtain ⟨g', cap, rfl, _, _⟩ := r2.form (by omega)
  have hw : Region.wanted o (yielded ops a.tmps) = true := by simp [Region.wanted, hgd]
  rw [if_pos hw]
  unfold Oper.wp execOp
  simp only [ho, resolve, invoke, builtin, Sem.run_bind, Sem.run_pure, Result.andThen_ok, List.map_toArray, List.map_cons, List.map_nil, hs, hx, hr]
  exact h _ _ w' (by rw [List.flatMap_append]; simpa using r2) r3 r5
end
theorem elem_factorR : Elem Tryd.prog 22 32 3 32 := Elem.mk' (z := .agg #[.string .empty, .int .i64 0, .int .i64 0]) Tryd.underlying22 (by kernel_rfl) rfl
theorem len_factorR (f : Fac) : f.cells.length = 3 := rfl
theorem one_facR (f : Fac) : ∀ u ∈ Fac.cells f, u.oneCell' = true := by simp [Fac.cells, Value.oneCell']
theorem at_byteR (s : ByteArray) (k : Nat) (h : k < s.size) : s.data.toList[k]? = some (s[k]'h) := by
  rw [List.getElem?_eq_getElem (by simpa using h)]; simp; rfl
theorem len_byteR (s : ByteArray) : s.data.toList.length = s.size := by simp
theorem nuS_step {acc : Int} {l : List UInt8} {k : Nat} {c : UInt8} (h : l[k]? = some c) : nuS acc (l.drop k) = if c.toNat < 48 ∨ 57 < c.toNat then -1 else nuS (acc * 10 + ((c.toNat : Int) - 48)) (l.drop (k + 1)) := by
  rw [drop_cons h]; rfl
set_option maxHeartbeats 1000000 in
set_option maxRecDepth 100000 in
theorem number_any (s : ByteArray) (w : World) (hs : s.size ≤ 4000) : Calls Tryd.prog 10 #[.string s] w (Ret (.int .i64 (pS s.data.toList)) w) := by
  by_cases h1 : s.size < 1
  · have e := Lib.hid (show pS s.data.toList = -1 by unfold pS; rw [len_byteR, if_pos (by omega)])
    have i1 : (s.size : Int) < 1 := by omega
    go_enter Tryd.func10, Tryd.ntmps10
    go_wp2_with fail
    go_ret
    exact ⟨by rw [e.out]; rfl, Below.refl _ _⟩
  by_cases h2 : 16 < s.size
  · have e := Lib.hid (show pS s.data.toList = -1 by unfold pS; rw [len_byteR, if_pos (by omega)])
    have i1 : ¬ (s.size : Int) < 1 := by omega
    have i2 : (16 : Int) < (s.size : Int) := by omega
    go_enter Tryd.func10, Tryd.ntmps10
    go_wp2_with fail
    go_ret
    exact ⟨by rw [e.out]; rfl, Below.refl _ _⟩
  · have e := Lib.hid (show pS s.data.toList = nuS 0 s.data.toList by unfold pS; rw [len_byteR, if_neg (by omega)])
    have i1 : ¬ (s.size : Int) < 1 := by omega
    have i2 : ¬ (16 : Int) < (s.size : Int) := by omega
    go_enter Tryd.func10, Tryd.ntmps10
    go_wp2_with fail
    go_loopw [3, 4] (fun n_ i_ w' => ∃ (k n : Nat), i_ = .int .i64 k ∧ n_ = .int .i64 n ∧ k ≤ s.size ∧ Hid (n < 10 ^ k) ∧ Hid (nuS (n : Int) (s.data.toList.drop k) = nuS 0 s.data.toList) ∧ Hid (Below w.heap.size w w')) (fun _ i_ _ => s.size - (intOf i_).toNat)
    case atStart => exact ⟨0, 0, rfl, rfl, by omega, Lib.hid (by decide), Lib.hid rfl, Lib.hid (Below.refl _ _)⟩
    case round =>
      obtain ⟨k, n, rfl, rfl, hk, hn, HE, HB⟩ := hrel
      by_cases hlt : k < s.size
      · have hx := at_byteR s k hlt
        have HS := Lib.hid (nuS_step (acc := (n : Int)) hx)
        rw [HE.out] at HS
        have k0 : (0 : Int) ≤ (k : Int) := by omega
        have k1 : (k : Int) < (s.size : Int) := by omega
        have p16 : n * 10 + 9 < 10 ^ 16 := by
          have h1 := hn.out
          have h2 : 10 ^ (k + 1) ≤ 10 ^ 16 := Nat.pow_le_pow_right (by decide) (by omega)
          rw [Nat.pow_succ] at h2; omega
        clear hx HE
        generalize hxb : s[k]'hlt = x at *
        by_cases c1 : x.toNat < 48
        · have E := Lib.hid (show nuS 0 s.data.toList = -1 by rw [HS.out, if_pos (.inl c1)])
          have d1 : (x.toNat : Int) < 48 := by omega
          go_wp2_with fail
          go_ret
          exact ⟨by rw [e.out, E.out]; rfl, HB.out⟩
        by_cases c2 : 57 < x.toNat
        · have E := Lib.hid (show nuS 0 s.data.toList = -1 by rw [HS.out, if_pos (.inr c2)])
          have d1 : ¬ (x.toNat : Int) < 48 := by omega
          have d2 : (57 : Int) < (x.toNat : Int) := by omega
          go_wp2_with fail
          go_ret
          exact ⟨by rw [e.out, E.out]; rfl, HB.out⟩
        · obtain ⟨d, hd⟩ : ∃ d, x.toNat - 48 = d := ⟨_, rfl⟩
          have E := Lib.hid (show nuS ((n * 10 + d : Nat) : Int) (s.data.toList.drop (k + 1)) = nuS 0 s.data.toList by
            rw [HS.out, if_neg (by omega)]
            congr 1; omega)
          have d1 : ¬ (x.toNat : Int) < 48 := by omega
          have d2 : ¬ (57 : Int) < (x.toNat : Int) := by omega
          have u1 : IntKind.u8.wrap ((x.toNat : Int) - 48) = (d : Int) := by rw [IntKind.wrap_u8]; omega
          have u2 : IntKind.i64.wrap ((n : Int) * 10) = (n : Int) * 10 := IntWalk.i64_in _ (by omega)
          have u3 : IntKind.i64.wrap ((n : Int) * 10 + (d : Int)) = ((n * 10 + d : Nat) : Int) := by rw [IntWalk.i64_in _ (by omega)]; omega
          have hd9 : d ≤ 9 := by omega
          have N2 := Lib.hid (show n * 10 + d < 10 ^ (k + 1) by have := hn.out; rw [Nat.pow_succ]; omega)
          clear hd hn HS
          go_wp2_with fail
          go_roundw
          case rel => exact ⟨k + 1, n * 10 + d, by go_num, by rw [show ((n * 10 + d : Nat) : Int) = (n : Int) * 10 + (d : Int) by omega], by omega, N2, E, HB⟩
          case measure => simp [intOf]; omega
      · have E := Lib.hid (show nuS 0 s.data.toList = n by rw [← HE.out, List.drop_of_length_le (by rw [len_byteR]; omega)]; rfl)
        go_wp2_with fail
        go_ret
        exact ⟨by rw [e.out, E.out]; rfl, HB.out⟩
theorem spl_get {c : UInt8} {s : List UInt8} {f i : Nat} (hfi : f ≤ i) (hi : i < s.length) (hx : s[i]? = some c) (hno : c ∉ (s.drop f).take (i - f)) : spl c (s.drop f) = (s.drop f).take (i - f) :: spl c (s.drop (i + 1)) := by
  have e : s.drop f = (s.drop f).take (i - f) ++ c :: s.drop (i + 1) := by
    conv => lhs; rw [← List.take_append_drop (i - f) (s.drop f)]
    rw [List.drop_drop, show f + (i - f) = i by omega, drop_cons hx]
  conv => lhs; rw [e]
  exact spl_cut _ hno
theorem no_next {c x : UInt8} {s : List UInt8} {f i : Nat} (hfi : f ≤ i) (hx : s[i]? = some x) (hne : x ≠ c) (hno : c ∉ (s.drop f).take (i - f)) : c ∉ (s.drop f).take (i + 1 - f) := by
  have hi : i < s.length := by
    rcases Nat.lt_or_ge i s.length with h | h
    · exact h
    · rw [List.getElem?_eq_none h] at hx; cases hx
  have hx2 : (s.drop f)[i - f]? = some x := by rw [List.getElem?_drop, show f + (i - f) = i by omega]; exact hx
  rw [show i + 1 - f = (i - f) + 1 by omega, List.take_add_one, hx2]
  simp only [Option.toList_some, List.mem_append, List.mem_singleton, not_or]
  exact ⟨hno, fun e => hne e.symm⟩
/-- pieces of a text, as texts -/
def bas (ls : List (List UInt8)) : List ByteArray := ls.map fun l => ⟨l.toArray⟩
theorem ext_take (s : ByteArray) (f i : Nat) : s.extract f i = ⟨((s.data.toList.drop f).take (i - f)).toArray⟩ := by
  apply ByteArray.ext
  apply Array.ext'
  rw [ByteArray.data_extract, Array.toList_extract]
set_option maxHeartbeats 1000000 in
set_option maxRecDepth 100000 in
theorem split_any (s : ByteArray) (c : UInt8) (w : World) (hs : s.size ≤ 4000) : Calls Tryd.prog 9 #[.string s, .int .u8 (c.toNat : Int)] w (RetNew w 9 1 strE (bas (spl c s.data.toList))) := by
  go_enter Tryd.func9, Tryd.ntmps9
  go_wp2_with fail
  go_loopw [5, 6, 7] (fun o_ f_ i_ w' => ∃ (A : Option Addr) (n cp f i : Nat) (D : List ByteArray), o_ = .slice A n cp ∧ f_ = .int .i64 f ∧ i_ = .int .i64 i ∧ f ≤ i ∧ i ≤ s.size ∧ n ≤ i ∧ Hid (D.length = n) ∧ Hid (w'.ownsRow w.heap.size 9 1 (.slice A n cp) n (D.flatMap strE)) ∧
      Hid (D ++ bas (spl c (s.data.toList.drop f)) = bas (spl c s.data.toList)) ∧ Hid (c ∉ (s.data.toList.drop f).take (i - f)) ∧ Hid (Below w.heap.size w w')) (fun _ _ i_ _ => s.size - (intOf i_).toNat)
  case atStart =>
    exact ⟨some ⟨w.heap.size, 0, none⟩, 0, 0, 0, 0, [], rfl, rfl, rfl, by omega, by omega, by omega, Lib.hid rfl, Lib.hid (World.ownsRow_made w #[] 0 (Nat.le_refl _) (by unfold maxLen; omega) rfl), Lib.hid rfl, Lib.hid (by simp), Lib.hid (by (repeat first | exact Below.refl _ _ | assumption | refine Below.drew ?_ | refine Below.alloc ?_ (by first | exact Nat.le_refl _ | (simp; done) | omega | (simp; omega)) _ | refine Below.setCell ?_ (by first | exact Nat.le_refl _ | (simp; done) | omega | (simp; omega)) _))⟩
  case round =>
    obtain ⟨A, n, cp, f, i, D, rfl, rfl, rfl, hfi, hi, hni, hD, hown, HE, HN, HB⟩ := hrel
    have f0 : (0 : Int) ≤ (f : Int) := by omega
    have i0 : (0 : Int) ≤ (i : Int) := by omega
    by_cases hlt : i < s.size
    · have hx := at_byteR s i hlt
      have i1 : (i : Int) < (s.size : Int) := by omega
      generalize hxb : s[i]'hlt = x at *
      by_cases hc : x = c
      · subst hc
        have HS := Lib.hid (spl_get (c := x) (s := s.data.toList) hfi (by rw [len_byteR]; exact hlt) hx HN.out)
        have HE2 := Lib.hid (show (D ++ [s.extract f i]) ++ bas (spl x (s.data.toList.drop (i + 1))) = bas (spl x s.data.toList) by
          rw [← HE.out, HS.out, List.append_assoc, ext_take]; rfl)
        have f1 : (f : Int) ≤ (i : Int) := by omega
        have f2 : (i : Int) ≤ (s.size : Int) := by omega
        clear hx HS HE HN
        have Own0 := Lib.hid hown.out
        go_wp2_with
          (at_builtin
           refine wpList_push (w0 := w) rfl _ _ _ rfl w.heap.size 9 1 16 elem_str strE A n cp D rfl (Own0.out.alloc _) wr.heap.size (s.extract f i) #[.string (s.extract f i)] 9 (0, 0) rfl (heap_alloc_new _ _) rfl rfl (by simp [strE, Value.oneCell']) (by omega) (by omega) (by unfold maxLen; omega) rfl (HB.out.alloc HB.out.size _) ?_
           intro A' c' w2 own2 hg2 hat2 hb2
           have Own2 := Lib.hid own2
           have B2 := Lib.hid hb2
           clear own2 hg2 hat2 hb2)
        go_roundw
        case rel => exact ⟨A', n + 1, c', i + 1, i + 1, D ++ [s.extract f i], rfl, by go_num, by go_num, by omega, by omega, by omega, Lib.hid (by rw [List.length_append, hD.out]; rfl), Own2, HE2, Lib.hid (by simp), B2⟩
        case measure => simp [intOf]; omega
      · have HN2 := Lib.hid (no_next hfi hx hc HN.out)
        have hc2 : ¬ (x.toNat : Int) = (c.toNat : Int) := fun e => hc (UInt8.toNat_inj.1 (by omega))
        clear hx HN
        go_wp2_with fail
        go_roundw
        case rel => exact ⟨A, n, cp, f, i + 1, D, rfl, rfl, by go_num, by omega, by omega, by omega, hD, hown, HE, HN2, HB⟩
        case measure => simp [intOf]; omega
    · obtain rfl : i = s.size := by omega
      have HS := Lib.hid (show spl c (s.data.toList.drop f) = [s.data.toList.drop f] from spl_none (by
        have h := HN.out
        rw [List.take_of_length_le (by rw [List.length_drop, len_byteR]; exact Nat.le_refl _)] at h
        exact h))
      have HE2 := Lib.hid (show D ++ [s.extract f s.size] = bas (spl c s.data.toList) by
        rw [← HE.out, HS.out, ext_take, List.take_of_length_le (by rw [List.length_drop, len_byteR]; exact Nat.le_refl _)]; rfl)
      have f1 : (f : Int) ≤ (s.size : Int) := by omega
      have Own0 := Lib.hid hown.out
      clear HS HE HN
      go_wp2_with
        (at_builtin
         refine wpList_push (w0 := w) rfl _ _ _ rfl w.heap.size 9 1 16 elem_str strE A n cp D rfl (Own0.out.alloc _) wr.heap.size (s.extract f s.size) #[.string (s.extract f s.size)] 9 (0, 0) rfl (heap_alloc_new _ _) rfl rfl (by simp [strE, Value.oneCell']) (by omega) (by omega) (by unfold maxLen; omega) rfl (HB.out.alloc HB.out.size _) ?_
         intro A' c' w2 own2 hg2 hat2 hb2
         have Own2 := Lib.hid own2
         have B2 := Lib.hid hb2
         clear own2 hg2 hat2 hb2)
      go_ret
      have hl : (bas (spl c s.data.toList)).length = n + 1 := by rw [← HE2.out, List.length_append, hD.out]; rfl
      refine ⟨A', c', ret_slice hl.symm, ?_, B2.out⟩
      rw [hl, ← HE2.out]; exact Own2.out
theorem spl_small (c : UInt8) : ∀ (l : List UInt8), ∀ x ∈ spl c l, x.length ≤ l.length
  | [], x, h => by simp [spl] at h; subst h; simp
  | b :: r, x, h => by
    rw [spl] at h
    split at h
    · rcases List.mem_cons.1 h with rfl | h
      · simp
      · have := spl_small c r x h; simp only [List.length_cons]; omega
    · have ih := spl_small c r
      revert h
      rcases he : spl c r with _ | ⟨y, t⟩
      · intro h; simp at h; subst h; simp
      · intro h
        rw [he] at ih
        rcases List.mem_cons.1 h with rfl | h
        · have := ih y List.mem_cons_self; simp only [List.length_cons]; omega
        · have := ih x (List.mem_cons_of_mem _ h); simp only [List.length_cons]; omega
theorem spl_count (c : UInt8) : ∀ (l : List UInt8), (spl c l).length ≤ l.length + 1
  | [] => by simp [spl]
  | b :: r => by
    have ih := spl_count c r
    rw [spl]
    split
    · simp only [List.length_cons]; omega
    · split
      · simp
      · rename_i he; rw [he] at ih; simp only [List.length_cons] at ih ⊢; omega
theorem bas_get {ls : List (List UInt8)} {k : Nat} {x : List UInt8} (h : ls[k]? = some x) : (bas ls)[k]? = some ⟨x.toArray⟩ := by unfold bas; rw [List.getElem?_map, h]; rfl
theorem lineS_size {l : List UInt8} (h : l.length ≤ 4000) : (lineS l).l.size ≤ maxLen := by
  unfold lineS maxLen
  split
  · show (0 : Nat) ≤ _; omega
  · show l.toArray.size ≤ _
    rw [List.size_toArray]; omega
set_option maxHeartbeats 2000000 in
set_option maxRecDepth 100000 in
theorem specRead_any (s : ByteArray) (w : World) : Calls Tryd.prog 4 #[.string s] w (RetNewC w 32 3 Fac.cells (rdL readS s).1 (rdL readS s).2) := by
  by_cases h4 : 4000 < s.size
  · have i1 : (4000 : Int) < (s.size : Int) := by omega
    have e1 := Lib.hid (show rdL readS s = ([], 2) by unfold rdL; rw [if_pos h4])
    go_enter Tryd.func4, Tryd.ntmps4
    go_wp2_with fail
    go_ret2
    rw [e1.out]
    exact ⟨_, 0, rfl, World.ownsRow_made w #[] 0 (Nat.le_refl _) (by unfold maxLen; omega) rfl, (Below.refl _ _).alloc (Nat.le_refl _) _⟩
  have i1 : ¬ (4000 : Int) < (s.size : Int) := by omega
  have e1 := Lib.hid (show rdL readS s = if (facTotal (readS s.data.toList)).isSome = true ∧ textT (readS s.data.toList) ⟨#[]⟩ = s then (readS s.data.toList, 0) else ([], 5) by unfold rdL; rw [if_neg h4])
  have hcnt := spl_count 10 s.data.toList
  rw [len_byteR] at hcnt
  have hpos := List.length_pos_iff.2 (spl_ne 10 s.data.toList)
  have hsm := Lib.hid (fun x hx => by have h := spl_small 10 s.data.toList x hx; rw [len_byteR] at h; exact h)
  have hrd := Lib.hid (show readS s.data.toList = ((spl 10 s.data.toList).take ((spl 10 s.data.toList).length - 1)).map lineS by unfold readS; rw [List.dropLast_eq_take])
  have SPc := Lib.hid (split_any s 10 w (by omega))
  generalize readS s.data.toList = RD at *
  generalize spl 10 s.data.toList = LS at *
  have hbl : (bas LS).length = LS.length := by unfold bas; simp
  obtain ⟨m, hm⟩ : ∃ m, LS.length = m := ⟨_, rfl⟩
  go_enter Tryd.func4, Tryd.ntmps4
  go_wp2_with fail
  refine SPc.out.mono ?_
  rintro e w1 ⟨A1, c1, rfl, own1, hb1⟩
  rw [hbl, hm] at own1 ⊢
  have R1 := Lib.hid (Rd.of_own (enc := strE) (fun _ _ => rfl) (hbl.trans hm) own1)
  have b1 := Lib.hid hb1
  clear own1 hb1 SPc
  go_wp2_with fail
  have O1 := Lib.hid (World.ownsRow_made (base := w1.heap.size) (e := 32) (size := 3) w1 #[] 0 (Nat.le_refl _) (by unfold maxLen; omega) rfl)
  go_loopw [5, 6] (fun o_ i_ w' => ∃ (A : Option Addr) (c i : Nat), o_ = .slice A i c ∧ i_ = .int .i64 i ∧ i + 1 ≤ m ∧ Hid (w'.ownsRow w1.heap.size 32 3 (.slice A i c) i (((LS.take i).map lineS).flatMap Fac.cells)) ∧ Hid (Below w1.heap.size w1 w')) (fun _ i_ _ => m - (intOf i_).toNat)
  case atStart => exact ⟨some ⟨w1.heap.size, 0, none⟩, 0, 0, rfl, rfl, by omega, Lib.hid (by simpa using O1.out), Lib.hid (by (repeat first | exact Below.refl _ _ | assumption | refine Below.drew ?_ | refine Below.alloc ?_ (by first | exact Nat.le_refl _ | (simp; done) | omega | (simp; omega)) _ | refine Below.setCell ?_ (by first | exact Nat.le_refl _ | (simp; done) | omega | (simp; omega)) _))⟩
  case round =>
    obtain ⟨A, c, i, rfl, rfl, him, hown, HB⟩ := hrel
    clear O1
    by_cases hlt : i + 1 < m
    · obtain ⟨lb, lo, sx, rfl, hlB, hsx, l0⟩ := (show Rd wr wr.heap.size A1 m 1 (fun s => [.string s]) (bas LS) from R1.out.next HB.out).str (k := i) (by omega)
      obtain ⟨x, hx⟩ : ∃ x, LS[i]? = some x := ⟨_, List.getElem?_eq_getElem (by omega)⟩
      obtain rfl : sx = ⟨x.toArray⟩ := by have := (bas_get hx).symm.trans hsx; injection this with this; exact this.symm
      have hxs : x.length ≤ s.size := hsm.out x (List.mem_of_getElem? hx)
      have HX := Lib.hid hx
      have hsn := Lib.hid (show (LS.take (i + 1)).map lineS = (LS.take i).map lineS ++ [lineS x] by rw [List.take_add_one, hx]; simp)
      have i0 : (0 : Int) ≤ (i : Int) := by omega
      have i2 : (i : Int) + 1 < (m : Int) := by omega
      have i3 : (i : Int) < (m : Int) := by omega
      have u1 : IntKind.i64.wrap ((i : Int) + 1) = (i : Int) + 1 := IntWalk.i64_in _ (by omega)
      have hbx : (⟨x.toArray⟩ : ByteArray).size = x.length := by show x.toArray.size = _; rw [List.size_toArray]
      have SP := Lib.hid (split_any ⟨x.toArray⟩ 32 wr (by rw [hbx]; omega))
      have hlz := lineS_size (l := x) (by omega)
      clear hsx hx
      go_wp2_with fail
      refine SP.out.mono ?_
      rintro e w2 ⟨A2, c2, rfl, own2, hb2⟩
      have hbl2 : (bas (spl 32 x)).length = (spl 32 x).length := by unfold bas; simp
      have own2' : w2.ownsRow wr.heap.size 9 1 (.slice A2 (spl 32 x).length c2) (spl 32 x).length ((bas (spl 32 x)).flatMap strE) := by rw [← hbl2]; exact own2
      rw [show (bas (spl 32 (⟨x.toArray⟩ : ByteArray).data.toList)).length = (spl 32 x).length from hbl2]
      have B2 := Lib.hid (HB.out.trans (hb2.mono HB.out.size))
      have O2 := Lib.hid (own_next hown.out hb2)
      clear SP own2
      by_cases h2 : (spl 32 x).length = 2
      · obtain ⟨p, q, hpq⟩ : ∃ p q, spl 32 x = [p, q] := by
          match hh : spl 32 x, h2 with
          | [p, q], _ => exact ⟨p, q, rfl⟩
        have hline := Lib.hid (show lineS x = ⟨⟨#[]⟩, pS p, pS q⟩ by unfold lineS; rw [if_pos h2, hpq]; rfl)
        have hps : p.length ≤ x.length := spl_small 32 x p (by rw [hpq]; exact List.mem_cons_self)
        have hqs : q.length ≤ x.length := spl_small 32 x q (by rw [hpq]; exact List.mem_cons_of_mem _ List.mem_cons_self)
        rw [hpq] at own2' ⊢
        have r2 := (show Rd w2 w2.heap.size A2 2 1 (fun s => [.string s]) (bas [p, q]) from Rd.of_own (enc := strE) (fun _ _ => rfl) rfl own2')
        obtain ⟨gb, go_, y0, rfl, hgB, hy0, g0⟩ := r2.str (k := 0) (by omega)
        obtain ⟨gb', go', y1, hA, hgB', hy1, g1⟩ := r2.str (k := 1) (by omega)
        obtain ⟨rfl, rfl⟩ : gb = gb' ∧ go_ = go' := by injection hA with hA; injection hA with h1 h2; exact ⟨h1, h2⟩
        obtain rfl : y0 = ⟨p.toArray⟩ := by have : some (⟨p.toArray⟩ : ByteArray) = some y0 := hy0; injection this with this; exact this.symm
        obtain rfl : y1 = ⟨q.toArray⟩ := by have : some (⟨q.toArray⟩ : ByteArray) = some y1 := hy1; injection this with this; exact this.symm
        have NP := Lib.hid (fun W => number_any ⟨p.toArray⟩ W (by show p.toArray.size ≤ _; rw [List.size_toArray]; omega))
        have NQ := Lib.hid (fun W => number_any ⟨q.toArray⟩ W (by show q.toArray.size ≤ _; rw [List.size_toArray]; omega))
        have NPe : (⟨p.toArray⟩ : ByteArray).data.toList = p := rfl
        have NQe : (⟨q.toArray⟩ : ByteArray).data.toList = q := rfl
        rw [NPe] at NP
        rw [NQe] at NQ
        generalize (⟨p.toArray⟩ : ByteArray) = tp at *
        generalize (⟨q.toArray⟩ : ByteArray) = tq at *
        generalize pS p = np at *
        generalize pS q = nq at *
        clear r2 hA hy0 hy1 own2' hbl2 hpq h2 NPe NQe hgB'
        have hS := Lib.hid (fun (W : World) (h : Below w2.heap.size w2 W) => show W.cell? ⟨gb, go_, none⟩ = some (.string tp) ∧ W.cell? ⟨gb, go_ + 1, none⟩ = some (.string tq) from ⟨(h.cell (p := ⟨gb, go_, none⟩) hgB).trans g0, (h.cell (p := ⟨gb, go_ + 1, none⟩) hgB).trans g1⟩)
        clear g0 g1
        go_upto_region 10 with fail
        refine wp_region_N (fun W => W.cell? ⟨gb, go_, none⟩ = some (.string tp) ∧ W.cell? ⟨gb, go_ + 1, none⟩ = some (.string tq)) [11, 12] (by kernel_rfl) ?_
        have c0 : Below w2.heap.size w2 w2.drew := (Below.refl _ _).drew
        have hS0 := hS.out _ c0
        refine wpAnyN_take (i := 0) (v := ?_) rfl (by kernel_rfl) (fun _ _ _ h => h) (by rfl) (fun W hW => ?_) hS0 ?_
        rotate_left
        · obtain ⟨z0, z1⟩ := hW
          go_simp
          try with_reducible rfl
        try simp only [List.getElem_toArray, List.getElem_cons_zero, List.getElem_cons_succ, Act.put, List.setIfInBounds_toArray, List.set_cons_zero, List.set_cons_succ]
        refine wpAnyN_take (i := 1) (v := ?_) rfl (by kernel_rfl) (fun _ _ _ h => h) (by rfl) (fun W hW => ?_) hS0 ?_
        rotate_left
        · obtain ⟨z0, z1⟩ := hW
          go_simp
          try with_reducible rfl
        try simp only [List.getElem_toArray, List.getElem_cons_zero, List.getElem_cons_succ, Act.put, List.setIfInBounds_toArray, List.set_cons_zero, List.set_cons_succ]
        refine wpAnyN_take (i := 2) (v := ?_) rfl (by kernel_rfl) (fun _ _ _ h => h) (by rfl) (fun W hW => ?_) hS0 ?_
        rotate_left
        · obtain ⟨z0, z1⟩ := hW
          go_simp
          try with_reducible rfl
        try simp only [List.getElem_toArray, List.getElem_cons_zero, List.getElem_cons_succ, Act.put, List.setIfInBounds_toArray, List.set_cons_zero, List.set_cons_succ]
        refine wpAnyN_take (i := 3) (v := ?_) rfl (by kernel_rfl) (fun _ _ _ h => h) (by rfl) (fun W hW => ?_) hS0 ?_
        rotate_left
        · obtain ⟨z0, z1⟩ := hW
          go_simp
          try with_reducible rfl
        try simp only [List.getElem_toArray, List.getElem_cons_zero, List.getElem_cons_succ, Act.put, List.setIfInBounds_toArray, List.set_cons_zero, List.set_cons_succ]
        refine wpAnyN_take (i := 5) (v := ?_) rfl (by kernel_rfl) (fun _ _ _ h => h) (by rfl) (fun W hW => ?_) hS0 ?_
        rotate_left
        · obtain ⟨z0, z1⟩ := hW
          go_simp
          try with_reducible rfl
        try simp only [List.getElem_toArray, List.getElem_cons_zero, List.getElem_cons_succ, Act.put, List.setIfInBounds_toArray, List.set_cons_zero, List.set_cons_succ]
        refine wpAnyN_take (i := 6) (v := ?_) rfl (by kernel_rfl) (fun _ _ _ h => h) (by rfl) (fun W hW => ?_) hS0 ?_
        rotate_left
        · obtain ⟨z0, z1⟩ := hW
          go_simp
          try with_reducible rfl
        try simp only [List.getElem_toArray, List.getElem_cons_zero, List.getElem_cons_succ, Act.put, List.setIfInBounds_toArray, List.set_cons_zero, List.set_cons_succ]
        refine wpAnyN_take (i := 7) (v := ?_) rfl (by kernel_rfl) (fun _ _ _ h => h) (by rfl) (fun W hW => ?_) hS0 ?_
        rotate_left
        · obtain ⟨z0, z1⟩ := hW
          go_simp
          try with_reducible rfl
        try simp only [List.getElem_toArray, List.getElem_cons_zero, List.getElem_cons_succ, Act.put, List.setIfInBounds_toArray, List.set_cons_zero, List.set_cons_succ]
        refine wpAnyN_next (i := 4) rfl (by kernel_rfl) (fun Kc hK => ?_)
        go_simp
        go_wp2_with (go_at_call 10; refine (NP.out _).mono ?_; rintro e w4 ⟨rfl, hb4⟩)
        have c4 : Below w2.heap.size w2 w4 := c0.trans hb4
        refine hK.out _ _ (fun _ => hS.out _ c4) ?_
        clear hK Kc hS0 c0 hb4
        try simp only [List.getElem_toArray, List.getElem_cons_zero, List.getElem_cons_succ, Act.put, List.setIfInBounds_toArray, List.set_cons_zero, List.set_cons_succ]
        refine wpAnyN_next (i := 8) rfl (by kernel_rfl) (fun Kc hK => ?_)
        go_simp
        go_wp2_with (go_at_call 10; refine (NQ.out _).mono ?_; rintro e w5 ⟨rfl, hb5⟩)
        have c5 : Below w2.heap.size w2 w5 := c4.trans (hb5.mono c4.size)
        refine hK.out _ _ (fun _ => hS.out _ c5) ?_
        clear hK Kc c4 hb5
        try simp only [List.getElem_toArray, List.getElem_cons_zero, List.getElem_cons_succ, Act.put, List.setIfInBounds_toArray, List.set_cons_zero, List.set_cons_succ]
        refine wpAnyN_next (i := 9) rfl (by kernel_rfl) (fun Kc hK => ?_)
        go_simp
        refine hK.out _ _ (fun _ => hS.out _ c5) ?_
        clear hK Kc
        try simp only [List.getElem_toArray, List.getElem_cons_zero, List.getElem_cons_succ, Act.put, List.setIfInBounds_toArray, List.set_cons_zero, List.set_cons_succ]
        refine wpAnyN_next (i := 10) rfl (by kernel_rfl) (fun Kc hK => ?_)
        go_simp
        have c6 : Below w2.heap.size w2 (w5.alloc (.cells #[.string ⟨#[]⟩, .int .i64 np, .int .i64 nq] 32)) := c5.alloc c5.size _
        have O6 := Lib.hid ((own_next O2.out c5).alloc (.cells #[.string ⟨#[]⟩, .int .i64 np, .int .i64 nq] 32))
        have B6 := Lib.hid (B2.out.trans (c6.mono B2.out.size))
        refine hK.out _ _ (fun _ => hS.out _ c6) ?_
        clear hK Kc
        try simp only [List.getElem_toArray, List.getElem_cons_zero, List.getElem_cons_succ, Act.put, List.setIfInBounds_toArray, List.set_cons_zero, List.set_cons_succ]
        refine wpAnyN_next (i := 11) rfl (by kernel_rfl) (fun Kc hK => ?_)
        refine step_pushR (by rfl) _ _ _ (by rfl) w1.heap.size 32 3 32 elem_factorR Fac.cells A i c ((LS.take i).map lineS) (by rfl) O6.out _ (⟨⟨#[]⟩, np, nq⟩ : Fac) #[.string ⟨#[]⟩, .int .i64 np, .int .i64 nq] 32 (0, 0) (by rfl) (heap_alloc_new _ _) rfl rfl (one_facR _) (by omega) (by omega) (by unfold maxLen; omega) B6.out.size ?_
        intro A8 c8 w8 own8 hg8 hat8
        have O8 := Lib.hid own8
        have B8 := Lib.hid (B6.out.grown hg8 B6.out.size (own_ge O6.out))
        refine hK.out _ _ (fun h => absurd h (by decide)) ?_
        clear hK Kc own8 hg8 hat8 c5 c6 O6 B6
        try simp only [List.getElem_toArray, List.getElem_cons_zero, List.getElem_cons_succ, Act.put, List.setIfInBounds_toArray, List.set_cons_zero, List.set_cons_succ]
        refine wpAnyN_next (i := 12) rfl (by kernel_rfl) (fun Kc hK => ?_)
        go_simp
        refine hK.out _ _ (fun h => absurd h (by decide)) ?_
        clear hK Kc
        refine wpAnyN_done (by kernel_rfl) ?_ _
        go_wp2_with fail
        go_roundw
        case rel => exact ⟨A8, c8, i + 1, rfl, by go_num, by omega, Lib.hid (by rw [hsn.out, hline.out]; exact O8.out), B8⟩
        case measure => simp [intOf]; omega
      · have hline := Lib.hid (show lineS x = ⟨⟨x.toArray⟩, 0, 0⟩ by unfold lineS; rw [if_neg h2])
        have h2i : ¬ ((spl 32 x).length : Int) = 2 := by omega
        have l2 : w2.cell? ⟨lb, lo + i, none⟩ = some (.string ⟨x.toArray⟩) := (hb2.cell (p := ⟨lb, lo + i, none⟩) hlB).trans l0
        generalize (spl 32 x).length = K2 at *
        generalize (⟨x.toArray⟩ : ByteArray) = tx_ at *
        have O3 := Lib.hid (O2.out.alloc (.cells #[.string tx_, .int .i64 0, .int .i64 0] 32))
        have B3 := Lib.hid (B2.out.alloc B2.out.size (.cells #[.string tx_, .int .i64 0, .int .i64 0] 32))
        clear own2' hbl2 h2
        go_wp2_with
          (at_builtin
           refine wpList_push (w0 := w1) rfl _ _ _ rfl w1.heap.size 32 3 32 elem_factorR Fac.cells A i c ((LS.take i).map lineS) rfl O3.out w2.heap.size (⟨tx_, 0, 0⟩ : Fac) #[.string tx_, .int .i64 0, .int .i64 0] 32 (0, 0) rfl (heap_alloc_new _ _) rfl rfl (one_facR _) (by omega) (by omega) (by unfold maxLen; omega) rfl B3.out ?_
           intro A8 c8 w8 own8 hg8 hat8 hb8
           have O8 := Lib.hid own8
           have B8 := Lib.hid hb8
           clear own8 hg8 hat8 hb8)
        go_roundw
        case rel => exact ⟨A8, c8, i + 1, rfl, by go_num, by omega, Lib.hid (by rw [hsn.out, hline.out]; exact O8.out), B8⟩
        case measure => simp [intOf]; omega
    · obtain rfl : m = i + 1 := by omega
      have i2 : ¬ (i : Int) + 1 < ((i + 1 : Nat) : Int) := by omega
      have u1 : IntKind.i64.wrap ((i : Int) + 1) = (i : Int) + 1 := IntWalk.i64_in _ (by omega)
      have hRD : (LS.take i).map lineS = RD := by rw [hrd.out, hm]; rfl
      rw [hRD] at hown
      have hlRD : RD.length = i := by rw [← hRD, List.length_map, List.length_take]; omega
      have R9 := Lib.hid (Rd.of_own (fun x _ => len_factorR x) hlRD hown.out)
      have HSz := Lib.hid (show ∀ f ∈ RD, f.l.size ≤ maxLen from fun f hf => by
        rw [← hRD] at hf
        obtain ⟨x, hx, rfl⟩ := List.mem_map.1 hf
        exact lineS_size (by have := hsm.out x (List.mem_of_mem_take hx); omega))
      have B9 := Lib.hid (b1.out.trans (HB.out.mono b1.out.size))
      have OW := Lib.hid (hown.out.mono b1.out.size)
      clear hRD hrd hsm R1 HB b1 hown
      rcases hft : facTotal RD with _ | N
      · have HV := Lib.hid (specValid_any A i c RD wr (by unfold maxLen; omega) R9.out HSz.out none hft)
        have e2 := Lib.hid (show rdL readS s = ([], 5) by rw [e1.out, if_neg (by rw [hft]; simp)])
        clear hft e1
        go_wp2_with fail
        refine HV.out.mono ?_
        rintro e w3 ⟨rfl, hb3⟩
        have B3 := Lib.hid (B9.out.trans (hb3.mono B9.out.size))
        clear hb3
        go_wp2_with fail
        go_ret2
        rw [e2.out]
        exact ⟨_, 0, rfl, World.ownsRow_made w3 #[] 0 B3.out.size (by unfold maxLen; omega) rfl, B3.out.alloc B3.out.size _⟩
      · have HV := Lib.hid (specValid_any A i c RD wr (by unfold maxLen; omega) R9.out HSz.out (some N) hft)
        obtain ⟨h120, hok⟩ := facTotal_ok hft
        have HT := Lib.hid (fun (W : World) (h : Below wr.heap.size wr W) => l06Text_any A i c RD W (by omega) (R9.out.next h) hok)
        have e2 := Lib.hid (show rdL readS s = if textT RD ⟨#[]⟩ = s then (RD, 0) else ([], 5) by
          rw [e1.out]
          by_cases h : textT RD ⟨#[]⟩ = s
          · rw [if_pos h, if_pos ⟨by rw [hft]; rfl, h⟩]
          · rw [if_neg h, if_neg (fun q => h q.2)])
        generalize textT RD ⟨#[]⟩ = T at *
        clear hft e1 hok
        go_wp2_with fail
        refine HV.out.mono ?_
        rintro e w3 ⟨rfl, hb3⟩
        have B3 := Lib.hid (B9.out.trans (hb3.mono B9.out.size))
        have O3 := Lib.hid (own_next OW.out hb3)
        have HT3 := Lib.hid (HT.out w3 hb3)
        clear hb3
        go_wp2_with fail
        refine HT3.out.mono ?_
        rintro e w4 ⟨rfl, hb4⟩
        have B4 := Lib.hid (B3.out.trans (hb4.mono B3.out.size))
        have O4 := Lib.hid (own_next O3.out hb4)
        clear hb4
        by_cases hT : T = s
        · have e3 := Lib.hid (show rdL readS s = (RD, 0) by rw [e2.out, if_pos hT])
          clear e2
          subst hT
          go_wp2_with fail
          go_ret2
          rw [e3.out]
          exact ⟨A, c, ret_sliceC (k := 0) hlRD.symm, by show w4.ownsRow _ _ _ (.slice A RD.length c) RD.length _; rw [hlRD]; exact O4.out, B4.out⟩
        · have hTl : (T.toList == s.toList) = false := by rw [tl_beq]; simpa using hT
          have hTn : ¬ T.toList = s.toList := by rw [tl_inj]; exact hT
          have e3 := Lib.hid (show rdL readS s = ([], 5) by rw [e2.out, if_neg hT])
          clear hT
          go_wp2_with fail
          go_ret2
          rw [e3.out]
          exact ⟨_, 0, rfl, World.ownsRow_made w4 #[] 0 B4.out.size (by unfold maxLen; omega) rfl, B4.out.alloc B4.out.size _⟩
end Go.Proofs.YtkkadlihlbpbiaaDoor
