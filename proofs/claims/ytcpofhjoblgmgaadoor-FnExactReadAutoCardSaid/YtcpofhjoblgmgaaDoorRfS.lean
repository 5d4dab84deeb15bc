
/-
  Factors that are read, in the reference.
-/
import Derived.Test.YtcpofhjoblgmgaaDoorRfM
import Derived.Test.YtcpofhjoblgmgaaDoorPhr
import Derived.Test.YtcpofhjoblgmgaaDoorFac
import Derived.Test.YtcpofhjoblgmgaaDoorStage
namespace Go.Proofs.YtcpofhjoblgmgaaDoor
open Go.RowKit

section
variable {α : Type} {P : Program} {w : World} {ops : Array Oper} {o : Oper} {a : Act} {K : Act → World → Prop} {Q : Exit → Act → World → Prop} {E : Prop}
/-- one element more, as a step of a region that draws its order; where the row lies then -/
theorem step_pushR (hgd : o.guard = none) (s x : Operand) (t : TypeId) (ho : o.op = .call { callee := .builtin .append, args := #[s, x], argTypes := #[t, t] })
    (base : Nat) (e : TypeId) (sz bytes : Nat) (EI : Elem P t e sz bytes) (enc : α → List Value) (A : Option Addr) (n c : Nat) (xs : List α) (hs : a.eval s = .slice A n c)
    (hown : w.ownsRow base e sz (.slice A n c) n (xs.flatMap enc)) (g : Nat) (y : α) (cs : Array Value) (t' : TypeId) (fr : Nat × Nat) (hx : a.eval x = .slice (some ⟨g, 0, none⟩) 1 1) (hg : w.heap[g]? = some (.cells cs t' fr)) (hcs : cs.toList = enc y)
    (hlen : (enc y).length = sz) (hone : ∀ u ∈ enc y, u.oneCell' = true) (hsz : 0 < sz) (hbytes : (n + 1) * bytes ≤ 140737488355328) (hm : n + 1 ≤ maxLen) (hsize : base ≤ w.heap.size)
    (h : ∀ A' c' w', w'.ownsRow base e sz (.slice A' (n + 1) c') (n + 1) ((xs ++ [y]).flatMap enc) → w.grownBy w' (Value.slice A n c).ownBlock →
      ((Value.slice A' (n + 1) c').ownBlock = (Value.slice A n c).ownBlock ∨ (Value.slice A' (n + 1) c').ownBlock = some w.heap.size) →
      K (a.put o.dst (.slice A' (n + 1) c')) w') : if Region.wanted o (yielded ops a.tmps) = true then Oper.wp P o a w K Q else E := by
  obtain ⟨ht, i, z, hi, hz, h1, h2, hzs⟩ := EI
  have hnews : ∀ j u, (enc y)[j]? = some u → w.cell? ((⟨g, 0, none⟩ : Addr).add j) = some u := by rw [← hcs]; exact World.news_of_block hg
  obtain ⟨v', w', hr, r2, r3, _, r5⟩ := run_append_own_at (P := P) w base t o.type e i z sz bytes ht hi hz h1 h2 hzs hsz _ n _ hown ⟨g, 0, none⟩ 1 1 (enc y) (by rw [hlen]; omega) hnews hone hm hbytes hsize
  obtain ⟨g', cap, rfl, _, _⟩ := r2.form (by omega)
  have hw : Region.wanted o (yielded ops a.tmps) = true := by simp [Region.wanted, hgd]
  rw [if_pos hw]
  unfold Oper.wp execOp
  simp only [ho, resolve, invoke, builtin, Sem.run_bind, Sem.run_pure, Result.andThen_ok, List.map_toArray, List.map_cons, List.map_nil, hs, hx, hr]
  exact h _ _ w' (by rw [List.flatMap_append]; simpa using r2) r3 r5
end
theorem len_factorR (f : Fac) : f.cells.length = 3 := rfl
theorem one_facR (f : Fac) : ∀ u ∈ Fac.cells f, u.oneCell' = true := by simp [Fac.cells, Value.oneCell']
theorem at_byteR (s : ByteArray) (k : Nat) (h : k < s.size) : s.data.toList[k]? = some (s[k]'h) := by
  rw [List.getElem?_eq_getElem (by simpa using h)]; simp; rfl
theorem len_byteR (s : ByteArray) : s.data.toList.length = s.size := by simp
theorem nuS_step {acc : Int} {l : List UInt8} {k : Nat} {c : UInt8} (h : l[k]? = some c) : nuS acc (l.drop k) = if c.toNat < 48 ∨ 57 < c.toNat then -1 else nuS (acc * 10 + ((c.toNat : Int) - 48)) (l.drop (k + 1)) := by
  rw [drop_cons h]; rfl
theorem spl_get {c : UInt8} {s : List UInt8} {f i : Nat} (hfi : f ≤ i) (hi : i < s.length) (hx : s[i]? = some c) (hno : c ∉ (s.drop f).take (i - f)) : spl c (s.drop f) = (s.drop f).take (i - f) :: spl c (s.drop (i + 1)) := by
  have e : s.drop f = (s.drop f).take (i - f) ++ c :: s.drop (i + 1) := by
    conv => lhs; rw [← List.take_append_drop (i - f) (s.drop f)]
    rw [List.drop_drop, show f + (i - f) = i by omega, drop_cons hx]
  conv => lhs; rw [e]
  exact spl_cut _ hno
theorem no_next {c x : UInt8} {s : List UInt8} {f i : Nat} (hfi : f ≤ i) (hx : s[i]? = some x) (hne : x ≠ c) (hno : c ∉ (s.drop f).take (i - f)) : c ∉ (s.drop f).take (i + 1 - f) := by
  have hi : i < s.length := by
    rcases Nat.lt_or_ge i s.length with h | h
    · exact h
    · rw [List.getElem?_eq_none h] at hx; cases hx
  have hx2 : (s.drop f)[i - f]? = some x := by rw [List.getElem?_drop, show f + (i - f) = i by omega]; exact hx
  rw [show i + 1 - f = (i - f) + 1 by omega, List.take_add_one, hx2]
  simp only [Option.toList_some, List.mem_append, List.mem_singleton, not_or]
  exact ⟨hno, fun e => hne e.symm⟩
/-- pieces of a text, as texts -/
def bas (ls : List (List UInt8)) : List ByteArray := ls.map fun l => ⟨l.toArray⟩
theorem ext_take (s : ByteArray) (f i : Nat) : s.extract f i = ⟨((s.data.toList.drop f).take (i - f)).toArray⟩ := by
  apply ByteArray.ext
  apply Array.ext'
  rw [ByteArray.data_extract, Array.toList_extract]
set_option maxHeartbeats 1000000 in
set_option maxRecDepth 100000 in
theorem split_any (s : ByteArray) (c : UInt8) (w : World) (hs : s.size ≤ 4000) : Calls Tryd.prog 9 #[.string s, .int .u8 (c.toNat : Int)] w (RetNew w 9 1 strE (bas (spl c s.data.toList))) := by
  go_enter Tryd.func9, Tryd.ntmps9
  go_wp2_with fail
  go_loopw [5, 6, 7] (fun o_ f_ i_ w' => ∃ (A : Option Addr) (n cp f i : Nat) (D : List ByteArray), o_ = .slice A n cp ∧ f_ = .int .i64 f ∧ i_ = .int .i64 i ∧ f ≤ i ∧ i ≤ s.size ∧ n ≤ i ∧ Hid (D.length = n) ∧ Hid (w'.ownsRow w.heap.size 9 1 (.slice A n cp) n (D.flatMap strE)) ∧
      Hid (D ++ bas (spl c (s.data.toList.drop f)) = bas (spl c s.data.toList)) ∧ Hid (c ∉ (s.data.toList.drop f).take (i - f)) ∧ Hid (Below w.heap.size w w')) (fun _ _ i_ _ => s.size - (intOf i_).toNat)
  case atStart =>
    exact ⟨some ⟨w.heap.size, 0, none⟩, 0, 0, 0, 0, [], rfl, rfl, rfl, by omega, by omega, by omega, Lib.hid rfl, Lib.hid (World.ownsRow_made w #[] 0 (Nat.le_refl _) (by unfold maxLen; omega) rfl), Lib.hid rfl, Lib.hid (by simp), Lib.hid (by (repeat first | exact Below.refl _ _ | assumption | refine Below.drew ?_ | refine Below.alloc ?_ (by first | exact Nat.le_refl _ | (simp; done) | omega | (simp; omega)) _ | refine Below.setCell ?_ (by first | exact Nat.le_refl _ | (simp; done) | omega | (simp; omega)) _))⟩
  case round =>
    obtain ⟨A, n, cp, f, i, D, rfl, rfl, rfl, hfi, hi, hni, hD, hown, HE, HN, HB⟩ := hrel
    have f0 : (0 : Int) ≤ (f : Int) := by omega
    have i0 : (0 : Int) ≤ (i : Int) := by omega
    by_cases hlt : i < s.size
    · have hx := at_byteR s i hlt
      have i1 : (i : Int) < (s.size : Int) := by omega
      generalize hxb : s[i]'hlt = x at *
      by_cases hc : x = c
      · subst hc
        have HS := Lib.hid (spl_get (c := x) (s := s.data.toList) hfi (by rw [len_byteR]; exact hlt) hx HN.out)
        have HE2 := Lib.hid (show (D ++ [s.extract f i]) ++ bas (spl x (s.data.toList.drop (i + 1))) = bas (spl x s.data.toList) by
          rw [← HE.out, HS.out, List.append_assoc, ext_take]; rfl)
        have f1 : (f : Int) ≤ (i : Int) := by omega
        have f2 : (i : Int) ≤ (s.size : Int) := by omega
        clear hx HS HE HN
        have Own0 := Lib.hid hown.out
        go_wp2_with
          (at_builtin
           refine wpList_push (w0 := w) rfl _ _ _ rfl w.heap.size 9 1 16 elem_str strE A n cp D rfl (Own0.out.alloc _) wr.heap.size (s.extract f i) #[.string (s.extract f i)] 9 (0, 0) rfl (heap_alloc_new _ _) rfl rfl (by simp [strE, Value.oneCell']) (by omega) (by omega) (by unfold maxLen; omega) rfl (HB.out.alloc HB.out.size _) ?_
           intro A' c' w2 own2 hg2 hat2 hb2
           have Own2 := Lib.hid own2
           have B2 := Lib.hid hb2
           clear own2 hg2 hat2 hb2)
        go_roundw
        case rel => exact ⟨A', n + 1, c', i + 1, i + 1, D ++ [s.extract f i], rfl, by go_num, by go_num, by omega, by omega, by omega, Lib.hid (by rw [List.length_append, hD.out]; rfl), Own2, HE2, Lib.hid (by simp), B2⟩
        case measure => simp [intOf]; omega
      · have HN2 := Lib.hid (no_next hfi hx hc HN.out)
        have hc2 : ¬ (x.toNat : Int) = (c.toNat : Int) := fun e => hc (UInt8.toNat_inj.1 (by omega))
        clear hx HN
        go_wp2_with fail
        go_roundw
        case rel => exact ⟨A, n, cp, f, i + 1, D, rfl, rfl, by go_num, by omega, by omega, by omega, hD, hown, HE, HN2, HB⟩
        case measure => simp [intOf]; omega
    · obtain rfl : i = s.size := by omega
      have HS := Lib.hid (show spl c (s.data.toList.drop f) = [s.data.toList.drop f] from spl_none (by
        have h := HN.out
        rw [List.take_of_length_le (by rw [List.length_drop, len_byteR]; exact Nat.le_refl _)] at h
        exact h))
      have HE2 := Lib.hid (show D ++ [s.extract f s.size] = bas (spl c s.data.toList) by
        rw [← HE.out, HS.out, ext_take, List.take_of_length_le (by rw [List.length_drop, len_byteR]; exact Nat.le_refl _)]; rfl)
      have f1 : (f : Int) ≤ (s.size : Int) := by omega
      have Own0 := Lib.hid hown.out
      clear HS HE HN
      go_wp2_with
        (at_builtin
         refine wpList_push (w0 := w) rfl _ _ _ rfl w.heap.size 9 1 16 elem_str strE A n cp D rfl (Own0.out.alloc _) wr.heap.size (s.extract f s.size) #[.string (s.extract f s.size)] 9 (0, 0) rfl (heap_alloc_new _ _) rfl rfl (by simp [strE, Value.oneCell']) (by omega) (by omega) (by unfold maxLen; omega) rfl (HB.out.alloc HB.out.size _) ?_
         intro A' c' w2 own2 hg2 hat2 hb2
         have Own2 := Lib.hid own2
         have B2 := Lib.hid hb2
         clear own2 hg2 hat2 hb2)
      go_ret
      have hl : (bas (spl c s.data.toList)).length = n + 1 := by rw [← HE2.out, List.length_append, hD.out]; rfl
      refine ⟨A', c', ret_slice hl.symm, ?_, B2.out⟩
      rw [hl, ← HE2.out]; exact Own2.out
theorem spl_small (c : UInt8) : ∀ (l : List UInt8), ∀ x ∈ spl c l, x.length ≤ l.length
  | [], x, h => by simp [spl] at h; subst h; simp
  | b :: r, x, h => by
    rw [spl] at h
    split at h
    · rcases List.mem_cons.1 h with rfl | h
      · simp
      · have := spl_small c r x h; simp only [List.length_cons]; omega
    · have ih := spl_small c r
      revert h
      rcases he : spl c r with _ | ⟨y, t⟩
      · intro h; simp at h; subst h; simp
      · intro h
        rw [he] at ih
        rcases List.mem_cons.1 h with rfl | h
        · have := ih y List.mem_cons_self; simp only [List.length_cons]; omega
        · have := ih x (List.mem_cons_of_mem _ h); simp only [List.length_cons]; omega
theorem spl_count (c : UInt8) : ∀ (l : List UInt8), (spl c l).length ≤ l.length + 1
  | [] => by simp [spl]
  | b :: r => by
    have ih := spl_count c r
    rw [spl]
    split
    · simp only [List.length_cons]; omega
    · split
      · simp
      · rename_i he; rw [he] at ih; simp only [List.length_cons] at ih ⊢; omega
theorem bas_get {ls : List (List UInt8)} {k : Nat} {x : List UInt8} (h : ls[k]? = some x) : (bas ls)[k]? = some ⟨x.toArray⟩ := by unfold bas; rw [List.getElem?_map, h]; rfl
theorem lineS_size {l : List UInt8} (h : l.length ≤ 4000) : (lineS l).l.size ≤ maxLen := by
  unfold lineS maxLen
  split
  · show (0 : Nat) ≤ _; omega
  · show l.toArray.size ≤ _
    rw [List.size_toArray]; omega
end Go.Proofs.YtcpofhjoblgmgaaDoor
