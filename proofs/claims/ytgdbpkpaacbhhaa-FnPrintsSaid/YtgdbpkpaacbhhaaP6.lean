/-
  Texts of this claim, merged: PlainS MapS Join P6Word P6G Huge P6H PartW LtC WdT WdW PrintI PrintJ PrintK.
-/
import Derived.Test.YtgdbpkpaacbhhaaP5
import Derived.Deep.RegionHeld3
import Derived.Deep.RegionWith


/-
  The grammar of a plain word in the reference.
-/
namespace Go.Proofs.Ytgdbpkpaacbhhaa
open Go.RowKit

theorem fnd_one (u : UInt8) (s : ByteArray) : 0 < (fndL ⟨#[u]⟩ s).length ↔ u ∈ s.data.toList := by
  unfold fndL fndT
  rw [List.length_map, List.length_pos_iff_exists_mem]
  constructor
  · rintro ⟨i, hi⟩
    rw [List.mem_filter] at hi
    have h1 : i < s.size := by have := List.mem_range.1 hi.1; have : (⟨#[u]⟩ : ByteArray).size = 1 := rfl; omega
    have h2 : s.extract i (i + 1) = ⟨#[u]⟩ := of_decide_eq_true hi.2
    have h3 : (s.extract i (i + 1)).data.toList = [u] := by rw [h2]
    rw [ByteArray.data_extract, Array.toList_extract, List.extract_eq_take_drop, drop_cons (at_byte s i h1)] at h3
    simp only [Nat.add_sub_cancel_left, List.take_succ_cons, List.take_zero] at h3
    injection h3 with h4
    rw [← h4]; exact List.mem_of_getElem? (at_byte s i h1)
  · intro h
    obtain ⟨i, hi, he⟩ := List.mem_iff_getElem.1 h
    have hi' : i < s.size := by rw [byte_len] at hi; exact hi
    refine ⟨i, List.mem_filter.2 ⟨List.mem_range.2 ?_, decide_eq_true ?_⟩⟩
    · show i < s.size + 1 - 1; omega
    · show s.extract i (i + 1) = _
      apply ByteArray.ext
      rw [ByteArray.data_extract]
      apply Array.ext'
      rw [Array.toList_extract, List.extract_eq_take_drop, drop_cons (at_byte s i hi')]
      simp only [Nat.add_sub_cancel_left, List.take_succ_cons, List.take_zero]
      congr 1
theorem idx_ks (w : List UInt8) (u : UInt8) (h : letB u = true) (hm : u ∈ w) : (ksP w).idxOf u = (ksT w u.toNat).length := by
  have h : (97 : Int) ≤ u.toNat ∧ (u.toNat : Int) ≤ 100 := by simpa [letB] using h
  have h4 : u = 97 ∨ u = 98 ∨ u = 99 ∨ u = 100 := by
    simp only [← UInt8.toNat_inj]
    have : u.toNat = 97 ∨ u.toNat = 98 ∨ u.toNat = 99 ∨ u.toNat = 100 := by omega
    exact this
  unfold ksT ksP
  rcases h4 with rfl | rfl | rfl | rfl
  all_goals
    by_cases h1 : (97 : UInt8) ∈ w <;> by_cases h2 : (98 : UInt8) ∈ w <;> by_cases h3 : (99 : UInt8) ∈ w <;> by_cases h4 : (100 : UInt8) ∈ w <;> simp_all [List.idxOf_cons]

/-- 'l02Plain' under way -/
structure PsW (w W : World) (A : Option Addr) (n c : Nat) (rs : List Fac) (at_ : List Int) : Prop where
  q : W.ownsRow w.heap.size 82 3 (.slice A n c) n (rs.flatMap Fac.cells)
  o : Blk W w.heap.size 26 #[.slice none 0 0]
  g : Blk W (w.heap.size + 1) 26 #[.slice A n c]
  v : Blk W (w.heap.size + 2) 2 (intA at_)
  e : Below w.heap.size w W
section
variable {w W W' : World} {A : Option Addr} {n c : Nat} {rs : List Fac} {at_ : List Int}
theorem PsW.next (h : PsW w W A n c rs at_) (hb : Below W.heap.size W W') : PsW w W' A n c rs at_ :=
  ⟨own_next h.q hb, h.o.next hb, h.g.next hb, h.v.next hb, h.e.trans (hb.mono h.e.size)⟩
theorem PsW.alloc (h : PsW w W A n c rs at_) (o : Obj) : PsW w (W.alloc o) A n c rs at_ := h.next ((Below.refl _ _).alloc (Nat.le_refl _) _)
theorem PsW.push {A8 : Option Addr} {k8 c8 : Nat} {rs' : List Fac} (h : PsW w W A n c rs at_) (hq : W'.ownsRow w.heap.size 82 3 (.slice A8 k8 c8) k8 (rs'.flatMap Fac.cells)) (hg : W.grownBy W' (Value.slice A n c).ownBlock) :
    PsW w (W'.setCell ⟨w.heap.size + 1, 0, none⟩ (.slice A8 k8 c8)) A8 k8 c8 rs' at_ := by
  have ho' := h.o.grown hg (own_blk_ne h.q h.o (by decide))
  have hg' := h.g.grown hg (own_blk_ne h.q h.g (by decide))
  have hv' := h.v.grown hg (own_blk_ne h.q h.v (by decide))
  have he' := h.e.grown hg h.e.size (own_ge h.q)
  have hg2 := gb_set W' (w.heap.size + 1) 0 (.slice A8 k8 c8)
  exact ⟨own_kept' hq hg' (by decide) _, ho'.grown hg2 (by intro e; injection e with e; omega), hg'.set_ 0 _, hv'.grown hg2 (by intro e; injection e with e; omega), he'.setCell (by simp) _⟩
theorem PsW.tell (h : PsW w W A n c rs at_) (i : Nat) (z : Int) : PsW w (W.setCell ⟨w.heap.size + 2, i, none⟩ (.int .i64 z)) A n c rs (at_.set i z) := by
  have hg2 := gb_set W (w.heap.size + 2) i (.int .i64 z)
  have := h.v.set_ i (.int .i64 z)
  rw [intA_set] at this
  exact ⟨own_kept' h.q h.v (by decide) _, h.o.grown hg2 (by intro e; injection e with e; omega), h.g.grown hg2 (by intro e; injection e with e; omega), this, h.e.setCell (by simp) _⟩
end
end Go.Proofs.Ytgdbpkpaacbhhaa


/-
  The letters of a grammar replaced, in the reference.
-/
namespace Go.Proofs.Ytgdbpkpaacbhhaa
open Go.RowKit

section
variable {α : Type} {P : Program} {w : World} {ops : Array Oper} {o : Oper} {a : Act} {K : Act → World → Prop} {Q : Exit → Act → World → Prop} {E : Prop}
/-- one element more, as a step of a region that draws its order; where the row lies then -/
theorem step_pushH (hgd : o.guard = none) (s x : Operand) (t : TypeId) (ho : o.op = .call { callee := .builtin .append, args := #[s, x], argTypes := #[t, t] })
    (base : Nat) (e : TypeId) (sz bytes : Nat) (EI : Elem P t e sz bytes) (enc : α → List Value) (A : Option Addr) (n c : Nat) (xs : List α) (hs : a.eval s = .slice A n c)
    (hown : w.ownsRow base e sz (.slice A n c) n (xs.flatMap enc)) (g : Nat) (y : α) (cs : Array Value) (t' : TypeId) (fr : Nat × Nat) (hx : a.eval x = .slice (some ⟨g, 0, none⟩) 1 1) (hg : w.heap[g]? = some (.cells cs t' fr)) (hcs : cs.toList = enc y)
    (hlen : (enc y).length = sz) (hone : ∀ u ∈ enc y, u.oneCell' = true) (hsz : 0 < sz) (hbytes : (n + 1) * bytes ≤ 140737488355328) (hm : n + 1 ≤ maxLen) (hsize : base ≤ w.heap.size)
    (h : ∀ A' c' w', w'.ownsRow base e sz (.slice A' (n + 1) c') (n + 1) ((xs ++ [y]).flatMap enc) → w.grownBy w' (Value.slice A n c).ownBlock →
      ((Value.slice A' (n + 1) c').ownBlock = (Value.slice A n c).ownBlock ∨ (Value.slice A' (n + 1) c').ownBlock = some w.heap.size) →
      K (a.put o.dst (.slice A' (n + 1) c')) w') : if Region.wanted o (yielded ops a.tmps) = true then Oper.wp P o a w K Q else E := by
  obtain ⟨ht, i, z, hi, hz, h1, h2, hzs⟩ := EI
  have hnews : ∀ j u, (enc y)[j]? = some u → w.cell? ((⟨g, 0, none⟩ : Addr).add j) = some u := by rw [← hcs]; exact World.news_of_block hg
  obtain ⟨v', w', hr, r2, r3, _, r5⟩ := run_append_own_at (P := P) w base t o.type e i z sz bytes ht hi hz h1 h2 hzs hsz _ n _ hown ⟨g, 0, none⟩ 1 1 (enc y) (by rw [hlen]; omega) hnews hone hm hbytes hsize
  obtain ⟨g', cap, rfl, _, _⟩ := r2.form (by omega)
  have hw : Region.wanted o (yielded ops a.tmps) = true := by simp [Region.wanted, hgd]
  rw [if_pos hw]
  unfold Oper.wp execOp
  simp only [ho, resolve, invoke, builtin, Sem.run_bind, Sem.run_pure, Result.andThen_ok, List.map_toArray, List.map_cons, List.map_nil, hs, hx, hr]
  exact h _ _ w' (by rw [List.flatMap_append]; simpa using r2) r3 r5
end
/-- 'MapLetters' of the reference under way -/
structure MsW (w W : World) (G S : Nat) (ga gv : Value) (A : Option Addr) (n c : Nat) (out : List Fac) (st : List Int) : Prop where
  q : W.ownsRow w.heap.size 82 3 (.slice A n c) n (out.flatMap Fac.cells)
  i : Blk W w.heap.size 26 #[ga]
  o : Blk W (w.heap.size + 1) 26 #[.slice none 0 0]
  g : Blk W G 26 #[gv]
  s : Blk W S 2 (intA st)
  e : Below w.heap.size w W
  n0 : w.heap.size + 1 < G
  n1 : w.heap.size ≤ S
section
variable {w W W' : World} {G S : Nat} {ga gv : Value} {A : Option Addr} {n c : Nat} {out : List Fac} {st : List Int}
theorem MsW.next (h : MsW w W G S ga gv A n c out st) (hb : Below W.heap.size W W') : MsW w W' G S ga gv A n c out st :=
  ⟨own_next h.q hb, h.i.next hb, h.o.next hb, h.g.next hb, h.s.next hb, h.e.trans (hb.mono h.e.size), h.n0, h.n1⟩
theorem MsW.alloc (h : MsW w W G S ga gv A n c out st) (o : Obj) : MsW w (W.alloc o) G S ga gv A n c out st := h.next ((Below.refl _ _).alloc (Nat.le_refl _) _)
theorem MsW.drew (h : MsW w W G S ga gv A n c out st) : MsW w W.drew G S ga gv A n c out st := h.next (Below.refl _ _).drew
theorem MsW.app {A8 : Option Addr} {k8 c8 : Nat} {out' : List Fac} (h : MsW w W G S ga gv A n c out st) (hq : W'.ownsRow w.heap.size 82 3 (.slice A8 k8 c8) k8 (out'.flatMap Fac.cells)) (hg : W.grownBy W' (Value.slice A n c).ownBlock) :
    MsW w W' G S ga gv A8 k8 c8 out' st :=
  ⟨hq, h.i.grown hg (own_blk_ne h.q h.i (by decide)), h.o.grown hg (own_blk_ne h.q h.o (by decide)), h.g.grown hg (own_blk_ne h.q h.g (by decide)), h.s.grown hg (own_blk_ne h.q h.s (by decide)), h.e.grown hg h.e.size (own_ge h.q), h.n0, h.n1⟩
theorem MsW.put (h : MsW w W G S ga gv A n c out st) (u : Value) : MsW w (W.setCell ⟨G, 0, none⟩ u) G S ga u A n c out st := by
  have hg2 := gb_set W G 0 u
  have h0 := h.n0
  have hs : some S ≠ some G := fun e => by
    injection e with e
    have h1 := h.s; have h2 := h.g
    rw [e] at h1
    unfold Blk at h1 h2
    rw [h1] at h2
    injection h2 with h2; injection h2 with _ h2; exact absurd h2 (by decide)
  exact ⟨own_kept' h.q h.g (by decide) _, h.i.grown hg2 (by intro e; injection e with e; omega), h.o.grown hg2 (by intro e; injection e with e; omega), h.g.set_ 0 _, h.s.grown hg2 hs, h.e.setCell (by show w.heap.size ≤ G; omega) _, h.n0, h.n1⟩
/-- behind what writes a row of numbers made later -/
theorem MsW.far {v : Value} {k b : Nat} {xs : List Value} (h : MsW w W G S ga gv A n c out st) (ho : W.ownsRow b 2 1 v k xs) (hb : S < b) (hg : W.grownBy W' v.ownBlock) : MsW w W' G S ga gv A n c out st :=
  ⟨h.q.kept hg (own_ne h.q ho (by decide)), h.i.grown hg (own_blk_ne ho h.i (by decide)), h.o.grown hg (own_blk_ne ho h.o (by decide)), h.g.grown hg (own_blk_ne ho h.g (by decide)), h.s.grown hg (fun e => by have := own_ge ho S e.symm; omega), h.e.grown hg h.e.size (fun q hq => by have := own_ge ho q hq; have := h.n1; omega), h.n0, h.n1⟩
theorem MsW.tell (h : MsW w W G S ga gv A n c out st) (i : Nat) (z : Int) : MsW w (W.setCell ⟨S, i, none⟩ (.int .i64 z)) G S ga gv A n c out (st.set i z) := by
  have hg2 := gb_set W S i (.int .i64 z)
  have nt : ∀ {g : Nat} {cs : Array Value}, Blk W g 26 cs → some g ≠ some S := fun hB e => by
    injection e with e; subst e
    have := hB.symm.trans h.s
    injection this with this; injection this with _ this; exact absurd this (by decide)
  have := h.s.set_ i (.int .i64 z)
  rw [intA_set] at this
  exact ⟨own_kept' h.q h.s (by decide) _, h.i.grown hg2 (nt h.i), h.o.grown hg2 (nt h.o), h.g.grown hg2 (nt h.g), this, h.e.setCell h.n1 _, h.n0, h.n1⟩
end
theorem usedL_take {rs : List Fac} {k : Nat} {x : Fac} (h : rs[k]? = some x) (u : UInt8) : usedL (rs.take (k + 1)) u = (usedL (rs.take k) u || decide (x.l = ⟨#[u]⟩)) := by
  rw [take_succ_at h]; simp [usedL]
theorem raise_take {rs : List Fac} {k : Nat} {x : Fac} (h : rs[k]? = some x) (b : Int) : raiseL b (rs.take (k + 1)) = raiseL b (rs.take k) ++ [rsF b x] := by
  rw [take_succ_at h]; simp [raiseL]
end Go.Proofs.Ytgdbpkpaacbhhaa


/-
  The join of two grammars in the reference.
-/
namespace Go.Proofs.Ytgdbpkpaacbhhaa
open Go.RowKit

set_option maxHeartbeats 4000000 in
set_option maxRecDepth 100000 in
theorem l02Join_any (gb hb : Nat) (A : Option Addr) (n c : Nat) (gs : List Fac) (Ah : Option Addr) (m ch : Nat) (hs : List Fac) (w : World) (hgb : gb < w.heap.size) (hgc : w.cell? ⟨gb, 0, none⟩ = some (.slice A n c)) (hhb : hb < w.heap.size) (hhc : w.cell? ⟨hb, 0, none⟩ = some (.slice Ah m ch))
    (hn0 : 0 < n) (hn : n ≤ 400) (hm0 : 0 < m) (hm : m ≤ 400) (hr : Rd w w.heap.size A n 3 Fac.cells gs) (hr2 : Rd w w.heap.size Ah m 3 Fac.cells hs) (hwf : WF hs) :
    Calls Try.prog 40 #[.pointer (some ⟨gb, 0, none⟩), .pointer (some ⟨hb, 0, none⟩)] w (RetG w (joinL gs hs)) := by
  have HL := Lib.hid hr.len
  have HM := Lib.hid hr2.len
  have HR := Lib.hid hr; clear hr
  have H2 := Lib.hid hr2; clear hr2
  have HW := Lib.hid hwf; clear hwf
  have HJ := Lib.hid (show joinL gs hs = (gs ++ raiseL gs.length hs) ++ [⟨⟨#[]⟩, (gs.length : Int) - 1, (gs.length : Int) + hs.length - 1⟩] by unfold joinL; rw [if_neg (by rw [HL.out]; omega), if_neg (by rw [HM.out]; omega)])
  have HC := Lib.hid (fun (W : World) (h : Below w.heap.size w W) => show W.cell? ⟨gb, 0, none⟩ = some (.slice A n c) ∧ W.cell? ⟨hb, 0, none⟩ = some (.slice Ah m ch) ∧ gb < W.heap.size ∧ hb < W.heap.size from ⟨(h.cell (p := ⟨gb, 0, none⟩) hgb).trans hgc, (h.cell (p := ⟨hb, 0, none⟩) hhb).trans hhc, by have := h.size; omega, by have := h.size; omega⟩)
  have n1 : ((n : Int) == 0) = false := by simp; omega
  have m1 : ((m : Int) == 0) = false := by simp; omega
  rw [HL.out, HM.out] at HJ
  go_enter Try.func40, Try.ntmps40
  have b1 : Below w.heap.size w (w.alloc (.cells #[.slice none 0 0] 26)) := by (repeat first | exact Below.refl _ _ | assumption | refine Below.drew ?_ | refine Below.alloc ?_ (by first | exact Nat.le_refl _ | (simp; done) | omega | (simp; omega)) _ | refine Below.setCell ?_ (by first | exact Nat.le_refl _ | (simp; done) | omega | (simp; omega)) _)
  have B1 := Lib.hid (Blk.new w 26 #[.slice none 0 0])
  obtain ⟨q0, q1, q2, q3⟩ := HC.out _ b1
  clear hgc hhc
  go_wp2_with fail
  refine (l02Own_any gb A n c gs _ q2 q0 (by omega) hn0 (HR.out.next b1)).mono ?_
  rintro e w4 ⟨A4, c4, rfl, own4, hb4⟩
  rw [HL.out] at own4 ⊢
  have b4 := Lib.hid (b1.trans (hb4.mono b1.size))
  have O4 := Lib.hid (own4.mono b1.size)
  have B4 := Lib.hid (B1.out.next hb4)
  clear own4 hb4 q0 q1 q2 q3 b1
  have P5 := Lib.hid (show PwW w (w4.alloc (.cells #[.slice A4 n c4] 26)) w.heap.size w4.heap.size A4 n c4 gs from
    ⟨O4.out.alloc _, B4.out.alloc _, Blk.new _ _ _, b4.out.alloc b4.out.size _, Nat.le_refl _, B4.out.lt⟩)
  obtain ⟨q0, q1, q2, q3⟩ := HC.out _ P5.out.e
  have b4 := b4.out
  obtain ⟨p0, p1, p2, p3⟩ := HC.out _ b4
  go_wp2_with fail
  clear q0 q1 q2 q3 p0 p1 p2 p3 B1 B4 O4 b4
  generalize w4.heap.size = G at *
  go_loopw [7] (fun j_ w' => ∃ (j : Nat) (A1 : Option Addr) (n1 c1 : Nat) (cur : List Fac), j_ = .int .i64 j ∧ j ≤ m ∧ Hid (n1 = n + j) ∧ Hid (gs ++ raiseL n (hs.take j) = cur) ∧ Hid (cur.length = n1) ∧ Hid (PwW w w' w.heap.size G A1 n1 c1 cur)) (fun j_ _ => m - (intOf j_).toNat)
  case atStart => exact ⟨0, A4, n, c4, gs, rfl, by omega, Lib.hid rfl, Lib.hid (by simp [raiseL]), HL, P5⟩
  case round =>
    obtain ⟨j, A1, n1, c1, cur, rfl, hj, hn1, hcur, hcl, P⟩ := hrel
    clear P5
    have n1b : n1 ≤ 800 := by have := hn1.out; omega
    obtain ⟨q0, q1, q2, q3⟩ := HC.out _ P.out.e
    by_cases hlt : j < m
    · obtain ⟨bh, oh, y, hAh, hBr, hy, c0, c1', c2'⟩ := H2.out.fac hlt
      subst hAh
      have hyw := HW.out j y hy
      have Hrt := Lib.hid (raise_take hy (n : Int))
      have LC := Lib.hid (fun W => l02Raised_any y (n : Int) W (fun h0 => by
        rcases hyw with ⟨_, a0, a1, b0, b1⟩ | ⟨cc, _, hxl, _⟩
        · exact ⟨a0, by omega, b0, by omega⟩
        · rw [hxl] at h0; exact absurd h0 (show ¬ (1 : Nat) = 0 by omega)) (by omega) (by omega))
      have j0 : (0 : Int) ≤ (j : Int) := by omega
      have j1 : (j : Int) < (m : Int) := by omega
      obtain ⟨z, hz⟩ : ∃ z, rsF (n : Int) y = z := ⟨_, rfl⟩
      rw [hz] at LC Hrt
      have HS2 := Lib.hid (fun (W : World) (M : Blk W G 26 #[.slice A1 n1 c1]) (he : Below w.heap.size w W) =>
        show W.cell? ⟨G, 0, none⟩ = some (.slice A1 n1 c1) ∧ W.cell? ⟨hb, 0, none⟩ = some (.slice (some ⟨bh, oh, none⟩) m ch) ∧ W.cell? ⟨bh, oh + j * 3, none⟩ = some (.string y.l) ∧ W.cell? ⟨bh, oh + j * 3 + 1, none⟩ = some (.int .i64 y.a) ∧ W.cell? ⟨bh, oh + j * 3 + 2, none⟩ = some (.int .i64 y.b) from
        ⟨M.cell 0, (HC.out W he).2.1, (he.cell (p := ⟨bh, oh + j * 3, none⟩) hBr).trans c0, (he.cell (p := ⟨bh, oh + j * 3 + 1, none⟩) hBr).trans c1', (he.cell (p := ⟨bh, oh + j * 3 + 2, none⟩) hBr).trans c2'⟩)
      have hS0 := HS2.out wr.drew P.out.drew.x P.out.drew.e
      clear hy hyw hz c0 c1' c2'
      go_wp2_with fail
      clear q0 q1 q2 q3
      refine wp_region_N (fun W => W.cell? ⟨G, 0, none⟩ = some (.slice A1 n1 c1) ∧ W.cell? ⟨hb, 0, none⟩ = some (.slice (some ⟨bh, oh, none⟩) m ch) ∧ W.cell? ⟨bh, oh + j * 3, none⟩ = some (.string y.l) ∧ W.cell? ⟨bh, oh + j * 3 + 1, none⟩ = some (.int .i64 y.a) ∧ W.cell? ⟨bh, oh + j * 3 + 2, none⟩ = some (.int .i64 y.b)) [14] (by kernel_rfl) ?_
      refine wpAnyN_take (i := 0) (v := ?_) rfl (by kernel_rfl) (fun _ _ _ h => h) (by rfl) (fun W hW => ?_) hS0 ?_
      rotate_left
      · obtain ⟨z0, z1, z2, z3, z4⟩ := hW
        go_simp
        try with_reducible rfl
      try simp only [List.getElem_toArray, List.getElem_cons_zero, List.getElem_cons_succ, Act.put, List.setIfInBounds_toArray, List.set_cons_zero, List.set_cons_succ]
      refine wpAnyN_take (i := 1) (v := ?_) rfl (by kernel_rfl) (fun _ _ _ h => h) (by rfl) (fun W hW => ?_) hS0 ?_
      rotate_left
      · obtain ⟨z0, z1, z2, z3, z4⟩ := hW
        go_simp
        try with_reducible rfl
      try simp only [List.getElem_toArray, List.getElem_cons_zero, List.getElem_cons_succ, Act.put, List.setIfInBounds_toArray, List.set_cons_zero, List.set_cons_succ]
      refine wpAnyN_take (i := 2) (v := ?_) rfl (by kernel_rfl) (fun _ _ _ h => h) (by rfl) (fun W hW => ?_) hS0 ?_
      rotate_left
      · obtain ⟨z0, z1, z2, z3, z4⟩ := hW
        go_simp
        try with_reducible rfl
      try simp only [List.getElem_toArray, List.getElem_cons_zero, List.getElem_cons_succ, Act.put, List.setIfInBounds_toArray, List.set_cons_zero, List.set_cons_succ]
      refine wpAnyN_take (i := 3) (v := ?_) rfl (by kernel_rfl) (fun _ _ _ h => h) (by rfl) (fun W hW => ?_) hS0 ?_
      rotate_left
      · obtain ⟨z0, z1, z2, z3, z4⟩ := hW
        go_simp
        try with_reducible rfl
      try simp only [List.getElem_toArray, List.getElem_cons_zero, List.getElem_cons_succ, Act.put, List.setIfInBounds_toArray, List.set_cons_zero, List.set_cons_succ]
      refine wpAnyN_take (i := 4) (v := ?_) rfl (by kernel_rfl) (fun _ _ _ h => h) (by rfl) (fun W hW => ?_) hS0 ?_
      rotate_left
      · obtain ⟨z0, z1, z2, z3, z4⟩ := hW
        go_simp
        try with_reducible rfl
      try simp only [List.getElem_toArray, List.getElem_cons_zero, List.getElem_cons_succ, Act.put, List.setIfInBounds_toArray, List.set_cons_zero, List.set_cons_succ]
      refine wpAnyN_take (i := 5) (v := ?_) rfl (by kernel_rfl) (fun _ _ _ h => h) (by rfl) (fun W hW => ?_) hS0 ?_
      rotate_left
      · obtain ⟨z0, z1, z2, z3, z4⟩ := hW
        go_simp
        try with_reducible rfl
      try simp only [List.getElem_toArray, List.getElem_cons_zero, List.getElem_cons_succ, Act.put, List.setIfInBounds_toArray, List.set_cons_zero, List.set_cons_succ]
      refine wpAnyN_take (i := 6) (v := ?_) rfl (by kernel_rfl) (fun _ _ _ h => h) (by rfl) (fun W hW => ?_) hS0 ?_
      rotate_left
      · obtain ⟨z0, z1, z2, z3, z4⟩ := hW
        go_simp
        try with_reducible rfl
      try simp only [List.getElem_toArray, List.getElem_cons_zero, List.getElem_cons_succ, Act.put, List.setIfInBounds_toArray, List.set_cons_zero, List.set_cons_succ]
      refine wpAnyN_take (i := 7) (v := ?_) rfl (by kernel_rfl) (fun _ _ _ h => h) (by rfl) (fun W hW => ?_) hS0 ?_
      rotate_left
      · obtain ⟨z0, z1, z2, z3, z4⟩ := hW
        go_simp
        try with_reducible rfl
      try simp only [List.getElem_toArray, List.getElem_cons_zero, List.getElem_cons_succ, Act.put, List.setIfInBounds_toArray, List.set_cons_zero, List.set_cons_succ]
      refine wpAnyN_take (i := 8) (v := ?_) rfl (by kernel_rfl) (fun _ _ _ h => h) (by rfl) (fun W hW => ?_) hS0 ?_
      rotate_left
      · obtain ⟨z0, z1, z2, z3, z4⟩ := hW
        go_simp
        try with_reducible rfl
      try simp only [List.getElem_toArray, List.getElem_cons_zero, List.getElem_cons_succ, Act.put, List.setIfInBounds_toArray, List.set_cons_zero, List.set_cons_succ]
      refine wpAnyN_take (i := 9) (v := ?_) rfl (by kernel_rfl) (fun _ _ _ h => h) (by rfl) (fun W hW => ?_) hS0 ?_
      rotate_left
      · obtain ⟨z0, z1, z2, z3, z4⟩ := hW
        go_simp
        try with_reducible rfl
      try simp only [List.getElem_toArray, List.getElem_cons_zero, List.getElem_cons_succ, Act.put, List.setIfInBounds_toArray, List.set_cons_zero, List.set_cons_succ]
      refine wpAnyN_next (i := 10) rfl (by kernel_rfl) (fun K hK => ?_)
      go_simp
      go_wp2_with (go_at_call 82; refine (LC.out _).mono ?_; rintro e w10 ⟨rfl, hb10⟩)
      have bm : Below wr.heap.size wr w10 := (Below.refl _ _).drew.trans hb10
      have M10 := Lib.hid (P.out.next bm)
      have M11 := Lib.hid (M10.out.alloc (.cells #[.string z.l, .int .i64 z.a, .int .i64 z.b] 82))
      refine hK.out _ _ (fun _ => HS2.out _ M10.out.x M10.out.e) ?_
      clear hK K
      try simp only [List.getElem_toArray, List.getElem_cons_zero, List.getElem_cons_succ, Act.put, List.setIfInBounds_toArray, List.set_cons_zero, List.set_cons_succ]
      refine wpAnyN_next (i := 11) rfl (by kernel_rfl) (fun K hK => ?_)
      go_simp
      refine hK.out _ _ (fun _ => HS2.out _ M11.out.x M11.out.e) ?_
      clear hK K hS0
      try simp only [List.getElem_toArray, List.getElem_cons_zero, List.getElem_cons_succ, Act.put, List.setIfInBounds_toArray, List.set_cons_zero, List.set_cons_succ]
      refine wpAnyN_next (i := 12) rfl (by kernel_rfl) (fun K hK => ?_)
      refine step_pushH (by rfl) _ _ _ (by rfl) w.heap.size 82 3 32 elem_rule Fac.cells A1 n1 c1 cur (by rfl) M11.out.q _ z #[.string z.l, .int .i64 z.a, .int .i64 z.b] 82 (0, 0) (by rfl) (heap_alloc_new _ _) rfl rfl (one_fac _) (by omega) (by omega) (by unfold maxLen; omega) M11.out.e.size ?_
      intro A8 c8 w8 own8 hg8 hat8
      have M12 := Lib.hid (M11.out.app own8 hg8)
      have M13 := Lib.hid (M11.out.push own8 hg8)
      have d8 := M12.out.2.2.1.cell 0
      have f8 := M12.out.2.2.1.frozen
      have l8 := M12.out.2.2.1.lt
      have hS1 := HS2.out _ M12.out.2.2.1 M12.out.2.2.2
      refine hK.out _ _ (fun _ => hS1) ?_
      clear hK K own8 hg8 hat8
      try simp only [List.getElem_toArray, List.getElem_cons_zero, List.getElem_cons_succ, Act.put, List.setIfInBounds_toArray, List.set_cons_zero, List.set_cons_succ]
      refine wpAnyN_next (i := 13) rfl (by kernel_rfl) (fun K hK => ?_)
      go_simp
      refine hK.out _ _ (fun _ => hS1) ?_
      clear hK K hS1
      try simp only [List.getElem_toArray, List.getElem_cons_zero, List.getElem_cons_succ, Act.put, List.setIfInBounds_toArray, List.set_cons_zero, List.set_cons_succ]
      refine wpAnyN_next (i := 14) rfl (by kernel_rfl) (fun K hK => ?_)
      go_simp
      refine hK.out _ _ (fun h => absurd h (by decide)) ?_
      clear hK K
      refine wpAnyN_done (by kernel_rfl) ?_ _
      clear d8 f8 l8
      go_wp2_with fail
      go_roundw
      case rel => exact ⟨j + 1, A8, n1 + 1, c8, cur ++ [z], by go_num, by omega, Lib.hid (by have := hn1.out; omega), Lib.hid (by rw [Hrt.out, ← List.append_assoc, hcur.out]), Lib.hid (by rw [List.length_append, hcl.out]; rfl), M13⟩
      case measure => simp [intOf]; omega
    · have hjm : j = m := by omega
      have hcur' := hcur.out
      rw [hjm, show hs.take m = hs from List.take_of_length_le (by rw [HM.out]; omega)] at hcur'
      clear hcur hjm
      have hcur := Lib.hid hcur'
      clear hcur'
      have HS2 := Lib.hid (fun (W : World) (M : Blk W G 26 #[.slice A1 n1 c1]) (he : Below w.heap.size w W) =>
        show W.cell? ⟨G, 0, none⟩ = some (.slice A1 n1 c1) ∧ W.cell? ⟨hb, 0, none⟩ = some (.slice Ah m ch) from ⟨M.cell 0, (HC.out W he).2.1⟩)
      have hS0 := HS2.out wr.drew P.out.drew.x P.out.drew.e
      have u1 : IntKind.i64.wrap ((n : Int) - 1) = (n : Int) - 1 := by rw [IntWalk.i64_in _ (by omega)]
      have u2 : IntKind.i64.wrap ((n : Int) + m) = (n : Int) + m := by rw [IntWalk.i64_in _ (by omega)]
      have u3 : IntKind.i64.wrap ((n : Int) + m - 1) = (n : Int) + m - 1 := by rw [IntWalk.i64_in _ (by omega)]
      go_wp2_with fail
      clear q0 q1 q2 q3
      refine wp_region_N (fun W => W.cell? ⟨G, 0, none⟩ = some (.slice A1 n1 c1) ∧ W.cell? ⟨hb, 0, none⟩ = some (.slice Ah m ch)) [16] (by kernel_rfl) ?_
      refine wpAnyN_take (i := 0) (v := ?_) rfl (by kernel_rfl) (fun _ _ _ h => h) (by rfl) (fun W hW => ?_) hS0 ?_
      rotate_left
      · obtain ⟨z0, z1⟩ := hW
        go_simp
        try with_reducible rfl
      try simp only [List.getElem_toArray, List.getElem_cons_zero, List.getElem_cons_succ, Act.put, List.setIfInBounds_toArray, List.set_cons_zero, List.set_cons_succ]
      refine wpAnyN_take (i := 1) (v := ?_) rfl (by kernel_rfl) (fun _ _ _ h => h) (by rfl) (fun W hW => ?_) hS0 ?_
      rotate_left
      · obtain ⟨z0, z1⟩ := hW
        go_simp
        try with_reducible rfl
      try simp only [List.getElem_toArray, List.getElem_cons_zero, List.getElem_cons_succ, Act.put, List.setIfInBounds_toArray, List.set_cons_zero, List.set_cons_succ]
      refine wpAnyN_take (i := 2) (v := ?_) rfl (by kernel_rfl) (fun _ _ _ h => h) (by rfl) (fun W hW => ?_) hS0 ?_
      rotate_left
      · obtain ⟨z0, z1⟩ := hW
        go_simp
        try with_reducible rfl
      try simp only [List.getElem_toArray, List.getElem_cons_zero, List.getElem_cons_succ, Act.put, List.setIfInBounds_toArray, List.set_cons_zero, List.set_cons_succ]
      refine wpAnyN_take (i := 3) (v := ?_) rfl (by kernel_rfl) (fun _ _ _ h => h) (by rfl) (fun W hW => ?_) hS0 ?_
      rotate_left
      · obtain ⟨z0, z1⟩ := hW
        go_simp
        try with_reducible rfl
      try simp only [List.getElem_toArray, List.getElem_cons_zero, List.getElem_cons_succ, Act.put, List.setIfInBounds_toArray, List.set_cons_zero, List.set_cons_succ]
      refine wpAnyN_take (i := 4) (v := ?_) rfl (by kernel_rfl) (fun _ _ _ h => h) (by rfl) (fun W hW => ?_) hS0 ?_
      rotate_left
      · obtain ⟨z0, z1⟩ := hW
        go_simp
        try with_reducible rfl
      try simp only [List.getElem_toArray, List.getElem_cons_zero, List.getElem_cons_succ, Act.put, List.setIfInBounds_toArray, List.set_cons_zero, List.set_cons_succ]
      refine wpAnyN_take (i := 5) (v := ?_) rfl (by kernel_rfl) (fun _ _ _ h => h) (by rfl) (fun W hW => ?_) hS0 ?_
      rotate_left
      · obtain ⟨z0, z1⟩ := hW
        go_simp
        try with_reducible rfl
      try simp only [List.getElem_toArray, List.getElem_cons_zero, List.getElem_cons_succ, Act.put, List.setIfInBounds_toArray, List.set_cons_zero, List.set_cons_succ]
      refine wpAnyN_take (i := 6) (v := ?_) rfl (by kernel_rfl) (fun _ _ _ h => h) (by rfl) (fun W hW => ?_) hS0 ?_
      rotate_left
      · obtain ⟨z0, z1⟩ := hW
        go_simp
        try with_reducible rfl
      try simp only [List.getElem_toArray, List.getElem_cons_zero, List.getElem_cons_succ, Act.put, List.setIfInBounds_toArray, List.set_cons_zero, List.set_cons_succ]
      refine wpAnyN_take (i := 7) (v := ?_) rfl (by kernel_rfl) (fun _ _ _ h => h) (by rfl) (fun W hW => ?_) hS0 ?_
      rotate_left
      · obtain ⟨z0, z1⟩ := hW
        go_simp
        try with_reducible rfl
      try simp only [List.getElem_toArray, List.getElem_cons_zero, List.getElem_cons_succ, Act.put, List.setIfInBounds_toArray, List.set_cons_zero, List.set_cons_succ]
      refine wpAnyN_take (i := 8) (v := ?_) rfl (by kernel_rfl) (fun _ _ _ h => h) (by rfl) (fun W hW => ?_) hS0 ?_
      rotate_left
      · obtain ⟨z0, z1⟩ := hW
        go_simp
        try with_reducible rfl
      try simp only [List.getElem_toArray, List.getElem_cons_zero, List.getElem_cons_succ, Act.put, List.setIfInBounds_toArray, List.set_cons_zero, List.set_cons_succ]
      refine wpAnyN_take (i := 9) (v := ?_) rfl (by kernel_rfl) (fun _ _ _ h => h) (by rfl) (fun W hW => ?_) hS0 ?_
      rotate_left
      · obtain ⟨z0, z1⟩ := hW
        go_simp
        try with_reducible rfl
      try simp only [List.getElem_toArray, List.getElem_cons_zero, List.getElem_cons_succ, Act.put, List.setIfInBounds_toArray, List.set_cons_zero, List.set_cons_succ]
      refine wpAnyN_take (i := 10) (v := ?_) rfl (by kernel_rfl) (fun _ _ _ h => h) (by rfl) (fun W hW => ?_) hS0 ?_
      rotate_left
      · obtain ⟨z0, z1⟩ := hW
        go_simp
        try with_reducible rfl
      try simp only [List.getElem_toArray, List.getElem_cons_zero, List.getElem_cons_succ, Act.put, List.setIfInBounds_toArray, List.set_cons_zero, List.set_cons_succ]
      refine wpAnyN_take (i := 11) (v := ?_) rfl (by kernel_rfl) (fun _ _ _ h => h) (by rfl) (fun W hW => ?_) hS0 ?_
      rotate_left
      · obtain ⟨z0, z1⟩ := hW
        go_simp
        try with_reducible rfl
      try simp only [List.getElem_toArray, List.getElem_cons_zero, List.getElem_cons_succ, Act.put, List.setIfInBounds_toArray, List.set_cons_zero, List.set_cons_succ]
      refine wpAnyN_take (i := 12) (v := ?_) rfl (by kernel_rfl) (fun _ _ _ h => h) (by rfl) (fun W hW => ?_) hS0 ?_
      rotate_left
      · obtain ⟨z0, z1⟩ := hW
        go_simp
        try with_reducible rfl
      try simp only [List.getElem_toArray, List.getElem_cons_zero, List.getElem_cons_succ, Act.put, List.setIfInBounds_toArray, List.set_cons_zero, List.set_cons_succ]
      refine wpAnyN_next (i := 13) rfl (by kernel_rfl) (fun K hK => ?_)
      go_simp
      have M11 := Lib.hid (P.out.drew.alloc (.cells #[.string ⟨#[]⟩, .int .i64 ((n : Int) - 1), .int .i64 ((n : Int) + m - 1)] 82))
      refine hK.out _ _ (fun _ => HS2.out _ M11.out.x M11.out.e) ?_
      clear hK K hS0
      try simp only [List.getElem_toArray, List.getElem_cons_zero, List.getElem_cons_succ, Act.put, List.setIfInBounds_toArray, List.set_cons_zero, List.set_cons_succ]
      refine wpAnyN_next (i := 14) rfl (by kernel_rfl) (fun K hK => ?_)
      refine step_pushH (by rfl) _ _ _ (by rfl) w.heap.size 82 3 32 elem_rule Fac.cells A1 n1 c1 cur (by rfl) M11.out.q _ ⟨⟨#[]⟩, (n : Int) - 1, (n : Int) + m - 1⟩ #[.string ⟨#[]⟩, .int .i64 ((n : Int) - 1), .int .i64 ((n : Int) + m - 1)] 82 (0, 0) (by rfl) (heap_alloc_new _ _) rfl rfl (one_fac _) (by omega) (by omega) (by unfold maxLen; omega) M11.out.e.size ?_
      intro A8 c8 w8 own8 hg8 hat8
      have M12 := Lib.hid (M11.out.app own8 hg8)
      have M13 := Lib.hid (M11.out.push own8 hg8)
      have d8 := M12.out.2.2.1.cell 0
      have f8 := M12.out.2.2.1.frozen
      have l8 := M12.out.2.2.1.lt
      have hS1 := HS2.out _ M12.out.2.2.1 M12.out.2.2.2
      refine hK.out _ _ (fun _ => hS1) ?_
      clear hK K own8 hg8 hat8
      try simp only [List.getElem_toArray, List.getElem_cons_zero, List.getElem_cons_succ, Act.put, List.setIfInBounds_toArray, List.set_cons_zero, List.set_cons_succ]
      refine wpAnyN_next (i := 15) rfl (by kernel_rfl) (fun K hK => ?_)
      go_simp
      refine hK.out _ _ (fun _ => hS1) ?_
      clear hK K hS1
      try simp only [List.getElem_toArray, List.getElem_cons_zero, List.getElem_cons_succ, Act.put, List.setIfInBounds_toArray, List.set_cons_zero, List.set_cons_succ]
      refine wpAnyN_next (i := 16) rfl (by kernel_rfl) (fun K hK => ?_)
      go_simp
      refine hK.out _ _ (fun h => absurd h (by decide)) ?_
      clear hK K
      refine wpAnyN_done (by kernel_rfl) ?_ _
      clear d8 f8 l8
      generalize hw13 : w8.setCell ⟨G, 0, none⟩ (.slice A8 (n1 + 1) c8) = w13 at *
      have r7 := M13.out.r.cell 0
      have f7 := M13.out.r.frozen
      have l7 := M13.out.r.lt
      have g7 := M13.out.x.cell 0
      have B8 := M13.out.r.set_ 0 (.slice A8 (n1 + 1) c8)
      have x8 : (w13.setCell ⟨w.heap.size, 0, none⟩ (.slice A8 (n1 + 1) c8)).cell? ⟨w.heap.size, 0, none⟩ = some (.slice A8 (n1 + 1) c8) := by rw [B8.cell 0]; rfl
      have b8 := M13.out.e.setCell (p := ⟨w.heap.size, 0, none⟩) (Nat.le_refl _) (.slice A8 (n1 + 1) c8)
      have O8 := Lib.hid (own_kept' (i := 0) M13.out.q M13.out.r (by decide) (.slice A8 (n1 + 1) c8))
      clear B8 hw13
      go_wp2_with fail
      refine bodyPost_ret (v := .agg #[.slice A8 (n1 + 1) c8]) (by simp [results, Try.results40, go_sem, x8]) rfl (show RetG w (joinL gs hs) _ _ from ⟨A8, c8, ?_, ?_, b8⟩)
      · rw [HJ.out, hcur.out, List.length_append, hcl.out]; rfl
      · rw [HJ.out, hcur.out, List.length_append, hcl.out]; exact O8.out
theorem join_sz {gs hs : List Fac} (hg : WF gs) (hh : WF hs) : ∀ f ∈ joinL gs hs, f.l.size ≤ maxLen := wf_sz (join_wf hg hh)
theorem join_len {gs hs : List Fac} (h0 : gs.length ≤ 400) (h1 : hs.length ≤ 400) : (joinL gs hs).length ≤ 801 := by
  unfold joinL
  split
  · omega
  · split
    · omega
    · simp only [List.length_append, raiseL_len, List.length_singleton]; omega
theorem join_pos {gs hs : List Fac} (h0 : 0 < gs.length) : 0 < (joinL gs hs).length := by
  unfold joinL
  split
  · omega
  · split
    · omega
    · simp only [List.length_append, List.length_singleton]; omega
set_option maxHeartbeats 4000000 in
set_option maxRecDepth 100000 in
theorem joinG_any (A : Option Addr) (n c : Nat) (gs : List Fac) (Ah : Option Addr) (m ch : Nat) (hs : List Fac) (w : World)
    (hn0 : 0 < n) (hm0 : 0 < m) (hr : Rd w w.heap.size A n 3 Fac.cells gs) (hr2 : Rd w w.heap.size Ah m 3 Fac.cells hs) (hg : WF gs) (hh : WF hs) (h1 : (gOk gs).isSome = true) (h2 : (gOk hs).isSome = true) :
    Calls Try.prog 12 #[.agg #[.slice A n c], .agg #[.slice Ah m ch]] w (RetGC w (limF (joinL gs hs)) (limC (joinL gs hs))) := by
  have hl1 := hr.len
  have hl2 := hr2.len
  have hn : n ≤ 400 := by obtain ⟨ls, hls⟩ := Option.isSome_iff_exists.1 h1; have := (gOk_lens hls).2.1; omega
  have hm : m ≤ 400 := by obtain ⟨ls, hls⟩ := Option.isSome_iff_exists.1 h2; have := (gOk_lens hls).2.1; omega
  have HR := Lib.hid hr; have H2 := Lib.hid hr2
  have HWg := Lib.hid hg; have HWh := Lib.hid hh
  have HS := Lib.hid (join_sz hg hh)
  have Hjl := Lib.hid (join_len (gs := gs) (hs := hs) (by omega) (by omega))
  have HO1 := Lib.hid h1; have HO2 := Lib.hid h2
  have Z1 := Lib.hid (wf_sz hg); have Z2 := Lib.hid (wf_sz hh)
  clear hr hr2 hl1 hl2 hg hh h1 h2
  go_enter Try.func12, Try.ntmps12
  go_wp2_with fail
  refine namedC fun w1 H1 => ?_
  have hb1 : Below w.heap.size w w1 := by rw [H1.out]; (repeat first | exact Below.refl _ _ | assumption | refine Below.drew ?_ | refine Below.alloc ?_ (by first | exact Nat.le_refl _ | (simp; done) | omega | (simp; omega)) _ | refine Below.setCell ?_ (by first | exact Nat.le_refl _ | (simp; done) | omega | (simp; omega)) _)
  have BG := Lib.hid (show Blk w1 w.heap.size 26 #[.slice A n c] by rw [H1.out]; exact ((Blk.new _ _ _).alloc _).alloc _)
  have BH := Lib.hid (show Blk w1 (w.heap.size + 1) 26 #[.slice Ah m ch] by rw [H1.out]; simpa using (Blk.new (w.alloc (.cells #[.slice A n c] 26)) 26 #[.slice Ah m ch]).alloc (.cells #[.slice none 0 0] 26))
  have BR := Lib.hid (show Blk w1 (w.heap.size + 2) 26 #[.slice none 0 0] by rw [H1.out]; simpa using Blk.new ((w.alloc (.cells #[.slice A n c] 26)).alloc (.cells #[.slice Ah m ch] 26)) 26 #[.slice none 0 0])
  clear H1
  refine (l02Ok_any w.heap.size A n c gs w1 BG.out.lt (BG.out.cell 0) (by omega) (HR.out.next hb1) Z1.out true HO1.out).mono ?_
  rintro e w2 ⟨rfl, hb2⟩
  have b2 := Lib.hid (hb1.trans (hb2.mono hb1.size))
  have BG2 := Lib.hid (BG.out.next hb2)
  have BH2 := Lib.hid (BH.out.next hb2)
  have BR2 := Lib.hid (BR.out.next hb2)
  clear BG BH BR hb1 hb2
  go_wp2_with fail
  refine (l02Ok_any (w.heap.size + 1) Ah m ch hs w2 BH2.out.lt (BH2.out.cell 0) (by omega) (H2.out.next b2.out) Z2.out true HO2.out).mono ?_
  rintro e w3 ⟨rfl, hb3⟩
  have b3 := Lib.hid (b2.out.trans (hb3.mono b2.out.size))
  have BG3 := Lib.hid (BG2.out.next hb3)
  have BH3 := Lib.hid (BH2.out.next hb3)
  have BR3 := Lib.hid (BR2.out.next hb3)
  clear BG2 BH2 BR2 hb3 b2
  go_wp2_with fail
  refine (l02Join_any w.heap.size (w.heap.size + 1) A n c gs Ah m ch hs w3 BG3.out.lt (BG3.out.cell 0) BH3.out.lt (BH3.out.cell 0) hn0 hn hm0 hm (HR.out.next b3.out) (H2.out.next b3.out) HWh.out).mono ?_
  generalize joinL gs hs = J at *
  rintro e w4 ⟨A4, c4, rfl, own4, hb4⟩
  have b4 := Lib.hid (b3.out.trans (hb4.mono b3.out.size))
  have O4 := Lib.hid (own4.mono b3.out.size)
  have BR4 := Lib.hid (BR3.out.next hb4)
  clear own4 hb4 b3 BG3 BH3 BR3
  rcases hok : (gOk J).isSome with _ | _
  · have Hok := Lib.hid hok
    have HF := Lib.hid (show limF J = [] by unfold limF; rw [hok]; rfl)
    have HC := Lib.hid (show limC J = 3 by unfold limC; rw [hok]; rfl)
    clear hok
    go_wp2_with fail
    refine (l02Told_no A4 J.length c4 J w4 (by have := Hjl.out; omega) (Rd.of_own (fun x _ => fac_len x) rfl O4.out) HS.out Hok.out).mono ?_
    rintro e w7 ⟨rfl, hb7⟩
    have B7 := BR4.out.next hb7
    have b7 := b4.out.trans (hb7.mono b4.out.size)
    have r7 := B7.cell 0
    have f7 := B7.frozen
    have l7 := B7.lt
    have x8 : (w7.setCell ⟨w.heap.size + 2, 0, none⟩ (.slice none 0 0)).cell? ⟨w.heap.size + 2, 0, none⟩ = some (.slice none 0 0) := by rw [(B7.set_ 0 (.slice none 0 0)).cell 0]; rfl
    have b8 := b7.setCell (p := ⟨w.heap.size + 2, 0, none⟩) (by simp) (.slice none 0 0)
    clear B7
    go_wp2_with fail
    exact bodyPost_ret (v := .tuple #[.agg #[.slice none 0 0], .int .i64 3]) (by simp [results, Try.results12, go_sem, x8]) rfl ⟨none, 0, by rw [HF.out, HC.out]; rfl, by rw [HF.out]; exact World.ownsRow_nil _ _ _ _, b8⟩
  · have Hok := Lib.hid hok
    have HF := Lib.hid (show limF J = J by unfold limF; rw [hok]; rfl)
    have HC := Lib.hid (show limC J = 0 by unfold limC; rw [hok]; rfl)
    clear hok
    go_wp2_with fail
    refine (l02Told_yes A4 J.length c4 J w4 (by have := Hjl.out; omega) (Rd.of_own (fun x _ => fac_len x) rfl O4.out) HS.out Hok.out).mono ?_
    rintro e w7 ⟨rfl, hb7⟩
    have B7 := Lib.hid (BR4.out.next hb7)
    have b7 := b4.out.trans (hb7.mono b4.out.size)
    have O7 := Lib.hid (own_next O4.out hb7)
    have r7 := B7.out.cell 0
    have f7 := B7.out.frozen
    have l7 := B7.out.lt
    have x8 : (w7.setCell ⟨w.heap.size + 2, 0, none⟩ (.slice A4 J.length c4)).cell? ⟨w.heap.size + 2, 0, none⟩ = some (.slice A4 J.length c4) := by rw [(B7.out.set_ 0 (.slice A4 J.length c4)).cell 0]; rfl
    have b8 := b7.setCell (p := ⟨w.heap.size + 2, 0, none⟩) (by simp) (.slice A4 J.length c4)
    have O8 := Lib.hid (own_kept' (i := 0) O7.out B7.out (by decide) (.slice A4 J.length c4))
    go_wp2_with fail
    exact bodyPost_ret (v := .tuple #[.agg #[.slice A4 J.length c4], .int .i64 0]) (by simp [results, Try.results12, go_sem, x8]) rfl ⟨A4, c4, by rw [HF.out, HC.out], by rw [HF.out]; exact O8.out, b8⟩
end Go.Proofs.Ytgdbpkpaacbhhaa


/-
  The words that a law draws.
-/
namespace Go.Proofs.Ytgdbpkpaacbhhaa
open Go.RowKit

/-- a list of bytes, as the walk reads it -/
theorem Rd.bytes {w : World} {B n : Nat} {A : Option Addr} {zs : List Int} (h : Rd w B A n 1 (fun z => [.int .u8 z]) zs) (ok : ∀ z ∈ zs, 0 ≤ z ∧ z < 256) : Rd w B A n 1 byteE (zs.map fun z => UInt8.ofNat z.toNat) := by
  refine ⟨by rw [List.length_map]; exact h.len, fun hn => ?_⟩
  obtain ⟨b, o, hA, hb, hc⟩ := h.2 hn
  refine ⟨b, o, hA, hb, fun k x hx j v hv => ?_⟩
  rw [List.getElem?_map] at hx
  obtain ⟨z, hz, rfl⟩ := Option.map_eq_some_iff.1 hx
  obtain ⟨h0, h1⟩ := ok z (List.mem_of_getElem? hz)
  obtain ⟨m, rfl⟩ := Int.eq_ofNat_of_zero_le h0
  have e : (UInt8.ofNat m).toNat = m := by rw [UInt8.toNat_ofNat']; omega
  have := hc k _ hz j v (by
    rcases j with _ | j
    · simpa [byteE, e] using hv
    · simp [byteE] at hv)
  exact this

theorem f6big_any (A : Option Addr) (n c : Nat) (w : World) (hn : n ≤ maxLen) (b : Bool) (hb : decide (4096 < n) = b) :
    Calls Try.prog 6 #[.slice A n c] w (Ret (.bool b) w) := by
  unfold maxLen at hn
  have e := Lib.hid (show decide ((4096 : Int) < (n : Int)) = b by rw [← hb, decide_eq_decide]; omega)
  clear hb
  go_enter Try.func6, Try.ntmps6
  go_wp2
  go_ret
  exact ⟨ret_bool e.out, Below.refl _ _⟩
def SrcNew (w : World) (e : Ending) (w' : World) : Prop := ∃ g, e = .returned (.pointer (some ⟨g, 0, none⟩)) ∧ w.heap.size ≤ g ∧ Src w' g 0 ∧ Below w.heap.size w w'
theorem l00From_any (A : Option Addr) (n c : Nat) (bs : List UInt8) (w : World) (hn : n ≤ 4096) (hr : Rd w w.heap.size A n 1 byteE bs) :
    Calls Try.prog 32 #[.slice A n c] w (SrcNew w) := by
  go_enter Try.func32, Try.ntmps32
  go_wp2_with fail
  go_ret
  exact ⟨w.heap.size, rfl, Nat.le_refl _, ⟨A, n, c, 0, bs, 0, Nat.le_refl _, hn, ⟨by omega, by omega⟩, Blk.new _ _ _, hr.below (by (repeat first | exact Below.refl _ _ | assumption | refine Below.drew ?_ | refine Below.alloc ?_ (by first | exact Nat.le_refl _ | (simp; done) | omega | (simp; omega)) _ | refine Below.setCell ?_ (by first | exact Nat.le_refl _ | (simp; done) | omega | (simp; omega)) _))⟩, by (repeat first | exact Below.refl _ _ | assumption | refine Below.drew ?_ | refine Below.alloc ?_ (by first | exact Nat.le_refl _ | (simp; done) | omega | (simp; omega)) _ | refine Below.setCell ?_ (by first | exact Nat.le_refl _ | (simp; done) | omega | (simp; omega)) _)⟩
/-- what a drawn word leaves -/
def WordPost (w : World) (most : Int) (e : Ending) (w' : World) : Prop := ∃ s : ByteArray, e = .returned (.string s) ∧ (s.size : Int) ≤ most ∧ s.data.toList.all letB = true ∧ Below w.heap.size w w'
end Go.Proofs.Ytgdbpkpaacbhhaa


/-
  The grammars that a law draws.
-/
namespace Go.Proofs.Ytgdbpkpaacbhhaa
open Go.RowKit

/-- a grammar that is drawn, in memory of its own -/
def GrNew (w : World) (most : Int) (e : Ending) (w' : World) : Prop :=
  ∃ A c rs, e = .returned (.agg #[.slice A rs.length c]) ∧ DgOk rs most ∧ w'.ownsRow w.heap.size 82 3 (.slice A rs.length c) rs.length (rs.flatMap Fac.cells) ∧ Below w.heap.size w w'
theorem DgOk.gok {rs : List Fac} {most : Int} (h : DgOk rs most) : (gOk rs).isSome = true := small_ok h.wf (by have := h.few; omega)
set_option maxHeartbeats 1000000 in
theorem p6Grammar_any (A : Option Addr) (n c : Nat) (bs : List UInt8) (w : World) (hn : n ≤ 4096) (hr : Rd w w.heap.size A n 1 byteE bs) :
    Calls Try.prog 7 #[.slice A n c] w (GrNew w 8) := by
  have HR := Lib.hid hr; clear hr
  go_enter Try.func7, Try.ntmps7
  go_wp2_with fail
  refine namedC fun w0 H0 => ?_
  have hb0 : Below w.heap.size w w0 := by rw [H0.out]; (repeat first | exact Below.refl _ _ | assumption | refine Below.drew ?_ | refine Below.alloc ?_ (by first | exact Nat.le_refl _ | (simp; done) | omega | (simp; omega)) _ | refine Below.setCell ?_ (by first | exact Nat.le_refl _ | (simp; done) | omega | (simp; omega)) _)
  have B0 := Lib.hid (show Blk w0 w.heap.size 26 #[.slice none 0 0] by rw [H0.out]; exact Blk.new _ _ _)
  clear H0
  refine (l00From_any A n c bs w0 hn (HR.out.next hb0)).mono ?_
  rintro e w1 ⟨g, rfl, hg, s1, hb1⟩
  have b1 := hb0.trans (hb1.mono hb0.size)
  have B1 := Lib.hid (B0.out.next hb1)
  have hlt := B0.out.lt
  go_wp2_with fail
  refine (l02Drawn_any g 0 8 w1 s1 (by omega) (by omega) (by omega)).mono ?_
  rintro e w2 ⟨A2, c2, rs, rfl, ok, own2, s2, g2⟩
  have B2 := Lib.hid (B1.out.grown g2 (by intro e; injection e with e; omega))
  have b2 := Lib.hid (b1.grown g2 b1.size (fun k e => by injection e; omega))
  have O2 := Lib.hid (own_kept' (i := 0) (own2.mono b1.size) B2.out (by decide) (.slice A2 rs.length c2))
  have Ok := Lib.hid ok
  have r0 := B2.out.cell 0
  have rf := B2.out.frozen
  have rl := B2.out.lt
  have x5 := (B2.out.set_ 0 (.slice A2 rs.length c2)).cell 0
  have b3 := Lib.hid (b2.out.setCell (p := ⟨w.heap.size, 0, none⟩) (Nat.le_refl _) (.slice A2 rs.length c2))
  clear own2 s2 g2 ok
  go_wp2_with fail
  refine bodyPost_ret (v := .agg #[.slice A2 rs.length c2]) (by simp [results, Try.results7, go_sem]; rw [x5]; rfl) rfl ?_
  exact ⟨A2, c2, rs, rfl, Ok.out, O2.out, b3.out⟩
end Go.Proofs.Ytgdbpkpaacbhhaa


/-
  The draw of a grammar of a long word: it is valid, and its word is not too long.
-/
namespace Go.Proofs.Ytgdbpkpaacbhhaa
open Go.RowKit

/-- a slice value holds a grammar that is right -/
def GrAt (w : World) (B : Nat) (V : Value) : Prop := ∃ A c rs, V = .slice A rs.length c ∧ GrIn w B A c rs
theorem GrIn.next {w w' : World} {B : Nat} {A : Option Addr} {c : Nat} {rs : List Fac} (h : GrIn w B A c rs) (hb : Below w.heap.size w w') : GrIn w' B A c rs := ⟨h.wf, h.pos, h.ok, own_next h.own hb⟩
theorem GrIn.mono {w : World} {B B' : Nat} {A : Option Addr} {c : Nat} {rs : List Fac} (h : GrIn w B A c rs) (hB : B' ≤ B) : GrIn w B' A c rs := ⟨h.wf, h.pos, h.ok, h.own.mono hB⟩
theorem GrAt.mono {w : World} {B B' : Nat} {V : Value} (h : GrAt w B V) (hB : B' ≤ B) : GrAt w B' V := by obtain ⟨A, c, rs, e, h⟩ := h; exact ⟨A, c, rs, e, h.mono hB⟩
theorem GrAt.next {w w' : World} {B : Nat} {V : Value} (h : GrAt w B V) (hb : Below w.heap.size w w') : GrAt w' B V := by obtain ⟨A, c, rs, e, h⟩ := h; exact ⟨A, c, rs, e, h.next hb⟩
theorem GrAt.alloc {w : World} {B : Nat} {V : Value} (h : GrAt w B V) (o : Obj) : GrAt (w.alloc o) B V := h.next ((Below.refl _ _).alloc (Nat.le_refl _) _)
theorem GrAt.keep {w : World} {B g : Nat} {V : Value} {cs : Array Value} (h : GrAt w B V) (hB : Blk w g 26 cs) (u : Value) : GrAt (w.setCell ⟨g, 0, none⟩ u) B V := by
  obtain ⟨A, c, rs, e, h⟩ := h
  exact ⟨A, c, rs, e, h.wf, h.pos, h.ok, own_kept' (i := 0) h.own hB (by decide) u⟩
theorem GrAt.draw {w w' : World} {B g : Nat} {V : Value} (h : GrAt w B V) (hg : w.grownBy w' (some g)) (hlt : g < B) : GrAt w' B V := by
  obtain ⟨A, c, rs, e, h⟩ := h
  exact ⟨A, c, rs, e, h.wf, h.pos, h.ok, own_kept h.own hg hlt⟩
theorem GrCode.cut {w w' : World} {e : Ending} (h : GrCode w e w') : ∃ (A2 : Option Addr) (n2 c2 : Nat) (k : Int), e = .returned (.tuple #[.agg #[.slice A2 n2 c2], .int .i64 k]) ∧ Below w.heap.size w w' ∧ (k = 0 → GrAt w' w.heap.size (.slice A2 n2 c2)) := by
  rcases h with ⟨A, c, rs, rfl, h, hb⟩ | ⟨rfl, hb⟩
  · exact ⟨_, _, _, 0, rfl, hb, fun _ => ⟨A, c, rs, rfl, h⟩⟩
  · exact ⟨_, _, _, 3, rfl, hb, fun h => absurd h (by decide)⟩
/-- the draw of a long word under way -/
structure HuW (w W : World) (g K X : Nat) (A : Option Addr) (n c : Nat) (rs : List Fac) : Prop where
  q : W.ownsRow w.heap.size 82 3 (.slice A n c) n (rs.flatMap Fac.cells)
  r : Blk W w.heap.size 26 #[.slice none 0 0]
  x : Blk W X 26 #[.slice A n c]
  s : Src W g K
  e : w.grownBy W (some g)
  hg : g < w.heap.size
  hx : w.heap.size < X
section
variable {w W W' : World} {g K X : Nat} {A : Option Addr} {n c : Nat} {rs : List Fac}
theorem HuW.next (h : HuW w W g K X A n c rs) (hb : Below W.heap.size W W') : HuW w W' g K X A n c rs := ⟨own_next h.q hb, h.r.next hb, h.x.next hb, h.s.next hb, gb_next h.e hb, h.hg, h.hx⟩
theorem HuW.alloc (h : HuW w W g K X A n c rs) (o : Obj) : HuW w (W.alloc o) g K X A n c rs := h.next ((Below.refl _ _).alloc (Nat.le_refl _) _)
theorem HuW.drew (h : HuW w W g K X A n c rs) : HuW w W.drew g K X A n c rs := h.next (Below.refl _ _).drew
theorem HuW.pick {K' : Nat} (h : HuW w W g K X A n c rs) (hs : Src W' g K') (hg : W.grownBy W' (some g)) : HuW w W' g K' X A n c rs :=
  ⟨own_kept h.q hg h.hg, h.r.grown hg (by intro e; injection e with e; have := h.hg; omega), h.x.grown hg (by intro e; injection e with e; have := h.hg; have := h.hx; omega), hs, gb_trans h.e hg, h.hg, h.hx⟩
theorem HuW.far {b : Nat} {cs : Array Value} (h : HuW w W g K X A n c rs) (V : Value) (hB : Blk W b 26 cs) (hb : X < b) : HuW w (W.setCell ⟨b, 0, none⟩ V) g K X A n c rs := by
  have hg := gb_set W b 0 V
  have h1 := h.hg; have h2 := h.hx
  exact ⟨own_kept' (i := 0) h.q hB (by decide) V, h.r.grown hg (by intro e; injection e with e; omega), h.x.grown hg (by intro e; injection e with e; omega), h.s.grown hg (fun k e => by injection e with e; omega), gb_weak h.e hg (by omega), h1, h2⟩
end
theorem mul_pick {a b : Int} (a0 : 0 ≤ a) (a1 : a < 1000000) (b0 : 0 ≤ b) (b1 : b < 100000) : 0 ≤ a * b ∧ a * b ≤ 100000000000 :=
  ⟨Int.mul_nonneg a0 b0, Int.le_trans (Int.mul_le_mul (show a ≤ 1000000 by omega) (show b ≤ 100000 by omega) b0 (by decide)) (by decide)⟩
/-- what the draw of a long word leaves -/
def HuDraw (w : World) (g K : Nat) (e : Ending) (w' : World) : Prop :=
  ∃ A c rs, e = .returned (.agg #[.slice A rs.length c]) ∧ GrIn w' w.heap.size A c rs ∧ Src w' g K ∧ w.grownBy w' (some g)
theorem join_cut {w w' : World} {J : List Fac} {e : Ending} (h : RetGC w (limF J) (limC J) e w') (hw : WF J) (hp : 0 < J.length) :
    ∃ (A2 : Option Addr) (n2 c2 : Nat) (k : Int), e = .returned (.tuple #[.agg #[.slice A2 n2 c2], .int .i64 k]) ∧ Below w.heap.size w w' ∧ (k = 0 → GrAt w' w.heap.size (.slice A2 n2 c2)) := by
  obtain ⟨A, c, rfl, own, hb⟩ := h
  refine ⟨A, _, c, _, rfl, hb, fun hk => ?_⟩
  unfold limC at hk
  split at hk
  · rename_i h1
    have e : limF J = J := by unfold limF; rw [if_pos h1]
    rw [e] at own ⊢
    exact ⟨A, c, J, rfl, hw, hp, h1, own⟩
  · cases hk
theorem HuW.tell {w W : World} {g K K' X : Nat} {A A2 : Option Addr} {n c n2 c2 : Nat} {rs : List Fac} (h : HuW w W g K X A n c rs) (hG : GrAt W w.heap.size (.slice A2 n2 c2)) (hK : K ≤ K') :
    HuDraw w g K' (.returned (.agg #[.slice A2 n2 c2])) (W.setCell ⟨w.heap.size, 0, none⟩ (.slice A2 n2 c2)) := by
  have hg := gb_set W w.heap.size 0 (.slice A2 n2 c2)
  have h1 := h.hg
  obtain ⟨A', c', rs', hv, hi⟩ := hG
  injection hv with h1 h2 h3
  subst h1; subst h2; subst h3
  exact ⟨A2, c2, rs', rfl, ⟨hi.wf, hi.pos, hi.ok, own_kept' (i := 0) hi.own h.r (by decide) _⟩, (h.s.grown hg (fun k e => by injection e with e; omega)).mono hK, gb_weak h.e hg (Nat.le_refl _)⟩
theorem HuW.x8 {w W : World} {g K X : Nat} {A : Option Addr} {n c : Nat} {rs : List Fac} (h : HuW w W g K X A n c rs) (v : Value) : (W.setCell ⟨w.heap.size, 0, none⟩ v).cell? ⟨w.heap.size, 0, none⟩ = some v := by rw [(h.r.set_ 0 v).cell 0]; rfl
set_option maxHeartbeats 4000000 in
set_option maxRecDepth 100000 in
theorem l02Huge_any (g K : Nat) (w : World) (h : Src w g K) (hK : K ≤ 1000000) :
    Calls Try.prog 33 #[.pointer (some ⟨g, 0, none⟩)] w (HuDraw w g (K + 3000)) := by
  have HG := h.lt
  have H := Lib.hid h; clear h
  go_enter Try.func33, Try.ntmps33
  go_wp2_with fail
  refine namedC fun w1 H1 => ?_
  have hb1 : Below w.heap.size w w1 := by rw [H1.out]; (repeat first | exact Below.refl _ _ | assumption | refine Below.drew ?_ | refine Below.alloc ?_ (by first | exact Nat.le_refl _ | (simp; done) | omega | (simp; omega)) _ | refine Below.setCell ?_ (by first | exact Nat.le_refl _ | (simp; done) | omega | (simp; omega)) _)
  have BR := Lib.hid (show Blk w1 w.heap.size 26 #[.slice none 0 0] by rw [H1.out]; exact Blk.new _ _ _)
  clear H1
  refine (l02Drawn_any g K 1000 w1 (H.out.next hb1) (by omega) (by omega) (by omega)).mono ?_
  rintro e w2 ⟨A, c, rs, rfl, ok, own2, s2, g2⟩
  have HOk := Lib.hid ok
  obtain ⟨n, hn⟩ : ∃ n, rs.length = n := ⟨_, rfl⟩
  have hn0 : 0 < n := by have := ok.pos; omega
  have hn1 : n ≤ 400 := by have := ok.few; omega
  have HLn := Lib.hid hn
  rw [hn] at own2 ⊢
  have O2 := Lib.hid (own2.mono hb1.size)
  have BR2 := Lib.hid (BR.out.grown g2 (by intro e; injection e with e; omega))
  have E2 := Lib.hid (gb_trans (gb_below (r := some g) hb1) g2)
  have S2 := Lib.hid s2
  have hX : w.heap.size < w2.heap.size := BR2.out.lt
  clear ok own2 s2 g2 hn BR hb1 H
  go_upto_region 2 with fail
  refine named fun w3 H3 => ?_
  have P := Lib.hid (show HuW w w3 g (K + 1000) w2.heap.size A n c rs by
    rw [H3.out]
    exact ⟨O2.out.alloc _, BR2.out.alloc _, Blk.new _ _ _, S2.out.next ((Below.refl _ _).alloc (Nat.le_refl _) _), gb_next E2.out ((Below.refl _ _).alloc (Nat.le_refl _) _), HG, hX⟩)
  clear H3 O2 BR2 E2 S2
  generalize hK1 : K + 1000 = K1 at *
  go_cut [4, 5] from 6 (fun p_ k_ wx => ∃ (a4 : Nat) (A2 : Option Addr) (n2 c2 : Nat) (k : Int), p_ = .pointer (some ⟨a4, 0, none⟩) ∧ k_ = .int .i64 k ∧ Hid (HuW w wx g (K1 + 2 + 2) w2.heap.size A n c rs) ∧ Hid (Blk wx a4 26 #[.slice A2 n2 c2]) ∧ Hid (k = 0 → GrAt wx w.heap.size (.slice A2 n2 c2)) ∧ Hid (w2.heap.size < a4))
  case first =>
    refine wp_region_N (fun W => W.cell? ⟨w2.heap.size, 0, none⟩ = some (.slice A n c)) [] (by kernel_rfl) ?_
    have P_0 := Lib.hid P.out.drew
    have hS0 := P_0.out.x.cell 0
    refine wpAnyN_take (i := 0) (v := ?_) rfl (by kernel_rfl) (fun _ _ _ h => h) (by rfl) (fun W hW => ?_) hS0 ?_
    rotate_left
    · have z0 := hW
      go_simp
      try with_reducible rfl
    try simp only [List.getElem_toArray, List.getElem_cons_zero, List.getElem_cons_succ, Act.put, List.setIfInBounds_toArray, List.set_cons_zero, List.set_cons_succ]
    refine wpAnyN_take (i := 1) (v := ?_) rfl (by kernel_rfl) (fun _ _ _ h => h) (by rfl) (fun W hW => ?_) hS0 ?_
    rotate_left
    · have z0 := hW
      go_simp
      try with_reducible rfl
    try simp only [List.getElem_toArray, List.getElem_cons_zero, List.getElem_cons_succ, Act.put, List.setIfInBounds_toArray, List.set_cons_zero, List.set_cons_succ]
    refine wpAnyN_take (i := 3) (v := ?_) rfl (by kernel_rfl) (fun _ _ _ h => h) (by rfl) (fun W hW => ?_) hS0 ?_
    rotate_left
    · have z0 := hW
      go_simp
      try with_reducible rfl
    try simp only [List.getElem_toArray, List.getElem_cons_zero, List.getElem_cons_succ, Act.put, List.setIfInBounds_toArray, List.set_cons_zero, List.set_cons_succ]
    clear hS0
    clear P
    generalize w3.drew = wd at *
    refine wpAnyN_2 (i := 2) (j := 11) rfl rfl (by kernel_rfl) ?_ ?_
    · intro Kc hK
      go_simp
      go_wp2_with (go_at_call 36; refine (pick_any g K1 1000000 1000000 _ P_0.out.s (by omega) (by omega) (by omega)).mono ?_; rintro e x1 ⟨v1, rfl, v10, v11, s2, g2⟩)
      have P_1 := Lib.hid (P_0.out.pick s2 g2)
      refine hK.out _ _ (fun _ => P_1.out.x.cell 0) ?_
      clear hK Kc s2 g2 P_0
      try simp only [List.getElem_toArray, List.getElem_cons_zero, List.getElem_cons_succ, Act.put, List.setIfInBounds_toArray, List.set_cons_zero, List.set_cons_succ]
      refine wpAnyN_2 (i := 4) (j := 11) rfl rfl (by kernel_rfl) ?_ ?_
      · intro Kc hK
        go_simp
        go_wp2_with (go_at_call 36; refine (pick_any g (K1 + 2) 100000 100000 _ P_1.out.s (by omega) (by omega) (by omega)).mono ?_; rintro e x2 ⟨v2, rfl, v20, v21, s2, g2⟩)
        have P_2 := Lib.hid (P_1.out.pick s2 g2)
        refine hK.out _ _ (fun _ => P_2.out.x.cell 0) ?_
        clear hK Kc s2 g2 P_1
        try simp only [List.getElem_toArray, List.getElem_cons_zero, List.getElem_cons_succ, Act.put, List.setIfInBounds_toArray, List.set_cons_zero, List.set_cons_succ]
        have hm := mul_pick v10 v11 v20 v21
        have um1 : IntKind.i64.wrap (v1 * v2) = v1 * v2 := by rw [IntWalk.i64_in _ (by omega)]
        have um2 : IntKind.i64.wrap (1 + v1 * v2) = 1 + v1 * v2 := by rw [IntWalk.i64_in _ (by omega)]
        have hS0 := P_2.out.x.cell 0
        refine wpAnyN_take (i := 5) (v := ?_) rfl (by kernel_rfl) (fun _ _ _ h => h) (by rfl) (fun W hW => ?_) hS0 ?_
        rotate_left
        · have z0 := hW
          go_simp
          try with_reducible rfl
        try simp only [List.getElem_toArray, List.getElem_cons_zero, List.getElem_cons_succ, Act.put, List.setIfInBounds_toArray, List.set_cons_zero, List.set_cons_succ]
        refine wpAnyN_take (i := 6) (v := ?_) rfl (by kernel_rfl) (fun _ _ _ h => h) (by rfl) (fun W hW => ?_) hS0 ?_
        rotate_left
        · have z0 := hW
          go_simp
          try with_reducible rfl
        try simp only [List.getElem_toArray, List.getElem_cons_zero, List.getElem_cons_succ, Act.put, List.setIfInBounds_toArray, List.set_cons_zero, List.set_cons_succ]
        clear hS0
        clear um1 um2
        generalize v1 * v2 = t at *
        refine wpAnyN_2 (i := 7) (j := 11) rfl rfl (by kernel_rfl) ?_ ?_
        · intro Kc hK
          go_simp
          go_wp2_with (go_at_call 79; refine (powerG_any A n c rs (1 + t) _ hn0 hn1 (Rd.of_own (fun x _ => fac_len x) HLn.out P_2.out.q) HOk.out.wf HOk.out.gok (by omega) (by omega)).mono ?_; rintro e x3 hpost; obtain ⟨A2, n2, c2, k, rfl, hbl, HPk⟩ := hpost.cut)
          have P_3 := Lib.hid (P_2.out.next hbl)
          have HP := Lib.hid (fun h => (HPk h).mono P_2.out.e.size)
          refine hK.out _ _ (fun _ => P_3.out.x.cell 0) ?_
          clear hK Kc hpost hbl HPk P_2
          try simp only [List.getElem_toArray, List.getElem_cons_zero, List.getElem_cons_succ, Act.put, List.setIfInBounds_toArray, List.set_cons_zero, List.set_cons_succ]
          have hS0 := P_3.out.x.cell 0
          refine wpAnyN_take (i := 8) (v := ?_) rfl (by kernel_rfl) (fun _ _ _ h => h) (by rfl) (fun W hW => ?_) hS0 ?_
          rotate_left
          · have z0 := hW
            go_simp
            try with_reducible rfl
          try simp only [List.getElem_toArray, List.getElem_cons_zero, List.getElem_cons_succ, Act.put, List.setIfInBounds_toArray, List.set_cons_zero, List.set_cons_succ]
          refine wpAnyN_take (i := 9) (v := ?_) rfl (by kernel_rfl) (fun _ _ _ h => h) (by rfl) (fun W hW => ?_) hS0 ?_
          rotate_left
          · have z0 := hW
            go_simp
            try with_reducible rfl
          try simp only [List.getElem_toArray, List.getElem_cons_zero, List.getElem_cons_succ, Act.put, List.setIfInBounds_toArray, List.set_cons_zero, List.set_cons_succ]
          refine wpAnyN_take (i := 10) (v := ?_) rfl (by kernel_rfl) (fun _ _ _ h => h) (by rfl) (fun W hW => ?_) hS0 ?_
          rotate_left
          · have z0 := hW
            go_simp
            try with_reducible rfl
          try simp only [List.getElem_toArray, List.getElem_cons_zero, List.getElem_cons_succ, Act.put, List.setIfInBounds_toArray, List.set_cons_zero, List.set_cons_succ]
          clear hS0
          refine wpAnyN_next (i := 11) rfl (by kernel_rfl) (fun Kc hK => ?_)
          go_simp
          have P_4 := Lib.hid (P_3.out.alloc (.cells #[.slice none 0 0] 26))
          have B_4 := Lib.hid (Blk.new x3 26 #[.slice none 0 0])
          have ha4 : w2.heap.size < x3.heap.size := P_3.out.x.lt
          have HP := Lib.hid (fun h => (HP.out h).alloc (.cells #[.slice none 0 0] 26))
          refine hK.out _ _ (fun _ => P_4.out.x.cell 0) ?_
          clear hK Kc
          try simp only [List.getElem_toArray, List.getElem_cons_zero, List.getElem_cons_succ, Act.put, List.setIfInBounds_toArray, List.set_cons_zero, List.set_cons_succ]
          generalize x3.heap.size = a4 at *
          generalize x3.alloc (.cells #[.slice none 0 0] 26) = x4 at *
          clear P_3
          have BZ0 := B_4
          refine wpAnyN_next (i := 12) rfl (by kernel_rfl) (fun Kc hK => ?_)
          have b9c := B_4.out.cell 0
          have b9f := B_4.out.frozen
          have b9l := B_4.out.lt
          go_simp
          have PZ := Lib.hid (P_4.out.far (.slice A2 n2 c2) B_4.out ha4)
          have BZ := Lib.hid (B_4.out.set_ 0 (.slice A2 n2 c2))
          have OZ := Lib.hid (fun h => (HP.out h).keep BZ0.out (.slice A2 n2 c2))
          refine hK.out _ _ (fun _ => PZ.out.x.cell 0) ?_
          clear hK Kc b9c b9f b9l
          try simp only [List.getElem_toArray, List.getElem_cons_zero, List.getElem_cons_succ, Act.put, List.setIfInBounds_toArray, List.set_cons_zero, List.set_cons_succ]
          refine wpAnyN_next (i := 13) rfl (by kernel_rfl) (fun Kc hK => ?_)
          go_simp
          refine hK.out _ _ (fun _ => PZ.out.x.cell 0) ?_
          clear hK Kc
          refine wpAnyN_done (by kernel_rfl) ?_ _
          go_wp2_with fail
          go_meet
          exact ⟨a4, A2, n2, c2, k, rfl, rfl, PZ, BZ, OZ, Lib.hid (by omega)⟩
        · intro Kc hK
          go_simp
          have P_5 := Lib.hid (P_2.out.alloc (.cells #[.slice none 0 0] 26))
          have B_5 := Lib.hid (Blk.new x2 26 #[.slice none 0 0])
          have ha4 : w2.heap.size < x2.heap.size := P_2.out.x.lt
          refine hK.out _ _ (fun _ => P_5.out.x.cell 0) ?_
          clear hK Kc
          try simp only [List.getElem_toArray, List.getElem_cons_zero, List.getElem_cons_succ, Act.put, List.setIfInBounds_toArray, List.set_cons_zero, List.set_cons_succ]
          generalize x2.heap.size = a4 at *
          generalize x2.alloc (.cells #[.slice none 0 0] 26) = x5 at *
          clear P_2
          refine wpAnyN_next (i := 7) rfl (by kernel_rfl) (fun Kc hK => ?_)
          go_simp
          go_wp2_with (go_at_call 79; refine (powerG_any A n c rs (1 + t) _ hn0 hn1 (Rd.of_own (fun x _ => fac_len x) HLn.out P_5.out.q) HOk.out.wf HOk.out.gok (by omega) (by omega)).mono ?_; rintro e x6 hpost; obtain ⟨A2, n2, c2, k, rfl, hbl, HPk⟩ := hpost.cut)
          have P_6 := Lib.hid (P_5.out.next hbl)
          have HP := Lib.hid (fun h => (HPk h).mono P_5.out.e.size)
          have B_6 := Lib.hid (B_5.out.next hbl)
          refine hK.out _ _ (fun _ => P_6.out.x.cell 0) ?_
          clear hK Kc hpost hbl HPk P_5
          try simp only [List.getElem_toArray, List.getElem_cons_zero, List.getElem_cons_succ, Act.put, List.setIfInBounds_toArray, List.set_cons_zero, List.set_cons_succ]
          clear B_5
          have hS0 := P_6.out.x.cell 0
          refine wpAnyN_take (i := 8) (v := ?_) rfl (by kernel_rfl) (fun _ _ _ h => h) (by rfl) (fun W hW => ?_) hS0 ?_
          rotate_left
          · have z0 := hW
            go_simp
            try with_reducible rfl
          try simp only [List.getElem_toArray, List.getElem_cons_zero, List.getElem_cons_succ, Act.put, List.setIfInBounds_toArray, List.set_cons_zero, List.set_cons_succ]
          refine wpAnyN_take (i := 9) (v := ?_) rfl (by kernel_rfl) (fun _ _ _ h => h) (by rfl) (fun W hW => ?_) hS0 ?_
          rotate_left
          · have z0 := hW
            go_simp
            try with_reducible rfl
          try simp only [List.getElem_toArray, List.getElem_cons_zero, List.getElem_cons_succ, Act.put, List.setIfInBounds_toArray, List.set_cons_zero, List.set_cons_succ]
          refine wpAnyN_take (i := 10) (v := ?_) rfl (by kernel_rfl) (fun _ _ _ h => h) (by rfl) (fun W hW => ?_) hS0 ?_
          rotate_left
          · have z0 := hW
            go_simp
            try with_reducible rfl
          try simp only [List.getElem_toArray, List.getElem_cons_zero, List.getElem_cons_succ, Act.put, List.setIfInBounds_toArray, List.set_cons_zero, List.set_cons_succ]
          clear hS0
          have BZ0 := B_6
          refine wpAnyN_next (i := 12) rfl (by kernel_rfl) (fun Kc hK => ?_)
          have b9c := B_6.out.cell 0
          have b9f := B_6.out.frozen
          have b9l := B_6.out.lt
          go_simp
          have PZ := Lib.hid (P_6.out.far (.slice A2 n2 c2) B_6.out ha4)
          have BZ := Lib.hid (B_6.out.set_ 0 (.slice A2 n2 c2))
          have OZ := Lib.hid (fun h => (HP.out h).keep BZ0.out (.slice A2 n2 c2))
          refine hK.out _ _ (fun _ => PZ.out.x.cell 0) ?_
          clear hK Kc b9c b9f b9l
          try simp only [List.getElem_toArray, List.getElem_cons_zero, List.getElem_cons_succ, Act.put, List.setIfInBounds_toArray, List.set_cons_zero, List.set_cons_succ]
          refine wpAnyN_next (i := 13) rfl (by kernel_rfl) (fun Kc hK => ?_)
          go_simp
          refine hK.out _ _ (fun _ => PZ.out.x.cell 0) ?_
          clear hK Kc
          refine wpAnyN_done (by kernel_rfl) ?_ _
          go_wp2_with fail
          go_meet
          exact ⟨a4, A2, n2, c2, k, rfl, rfl, PZ, BZ, OZ, Lib.hid (by omega)⟩
      · intro Kc hK
        go_simp
        have P_7 := Lib.hid (P_1.out.alloc (.cells #[.slice none 0 0] 26))
        have B_7 := Lib.hid (Blk.new x1 26 #[.slice none 0 0])
        have ha4 : w2.heap.size < x1.heap.size := P_1.out.x.lt
        refine hK.out _ _ (fun _ => P_7.out.x.cell 0) ?_
        clear hK Kc
        try simp only [List.getElem_toArray, List.getElem_cons_zero, List.getElem_cons_succ, Act.put, List.setIfInBounds_toArray, List.set_cons_zero, List.set_cons_succ]
        generalize x1.heap.size = a4 at *
        generalize x1.alloc (.cells #[.slice none 0 0] 26) = x7 at *
        clear P_1
        refine wpAnyN_next (i := 4) rfl (by kernel_rfl) (fun Kc hK => ?_)
        go_simp
        go_wp2_with (go_at_call 36; refine (pick_any g (K1 + 2) 100000 100000 _ P_7.out.s (by omega) (by omega) (by omega)).mono ?_; rintro e x8 ⟨v2, rfl, v20, v21, s2, g2⟩)
        have P_8 := Lib.hid (P_7.out.pick s2 g2)
        have B_8 := Lib.hid (B_7.out.grown g2 (by intro e; injection e with e; have := HG; omega))
        refine hK.out _ _ (fun _ => P_8.out.x.cell 0) ?_
        clear hK Kc s2 g2 P_7
        try simp only [List.getElem_toArray, List.getElem_cons_zero, List.getElem_cons_succ, Act.put, List.setIfInBounds_toArray, List.set_cons_zero, List.set_cons_succ]
        clear B_7
        have hm := mul_pick v10 v11 v20 v21
        have um1 : IntKind.i64.wrap (v1 * v2) = v1 * v2 := by rw [IntWalk.i64_in _ (by omega)]
        have um2 : IntKind.i64.wrap (1 + v1 * v2) = 1 + v1 * v2 := by rw [IntWalk.i64_in _ (by omega)]
        have hS0 := P_8.out.x.cell 0
        refine wpAnyN_take (i := 5) (v := ?_) rfl (by kernel_rfl) (fun _ _ _ h => h) (by rfl) (fun W hW => ?_) hS0 ?_
        rotate_left
        · have z0 := hW
          go_simp
          try with_reducible rfl
        try simp only [List.getElem_toArray, List.getElem_cons_zero, List.getElem_cons_succ, Act.put, List.setIfInBounds_toArray, List.set_cons_zero, List.set_cons_succ]
        refine wpAnyN_take (i := 6) (v := ?_) rfl (by kernel_rfl) (fun _ _ _ h => h) (by rfl) (fun W hW => ?_) hS0 ?_
        rotate_left
        · have z0 := hW
          go_simp
          try with_reducible rfl
        try simp only [List.getElem_toArray, List.getElem_cons_zero, List.getElem_cons_succ, Act.put, List.setIfInBounds_toArray, List.set_cons_zero, List.set_cons_succ]
        clear hS0
        clear um1 um2
        generalize v1 * v2 = t at *
        refine wpAnyN_next (i := 7) rfl (by kernel_rfl) (fun Kc hK => ?_)
        go_simp
        go_wp2_with (go_at_call 79; refine (powerG_any A n c rs (1 + t) _ hn0 hn1 (Rd.of_own (fun x _ => fac_len x) HLn.out P_8.out.q) HOk.out.wf HOk.out.gok (by omega) (by omega)).mono ?_; rintro e x9 hpost; obtain ⟨A2, n2, c2, k, rfl, hbl, HPk⟩ := hpost.cut)
        have P_9 := Lib.hid (P_8.out.next hbl)
        have HP := Lib.hid (fun h => (HPk h).mono P_8.out.e.size)
        have B_9 := Lib.hid (B_8.out.next hbl)
        refine hK.out _ _ (fun _ => P_9.out.x.cell 0) ?_
        clear hK Kc hpost hbl HPk P_8
        try simp only [List.getElem_toArray, List.getElem_cons_zero, List.getElem_cons_succ, Act.put, List.setIfInBounds_toArray, List.set_cons_zero, List.set_cons_succ]
        clear B_8
        have hS0 := P_9.out.x.cell 0
        refine wpAnyN_take (i := 8) (v := ?_) rfl (by kernel_rfl) (fun _ _ _ h => h) (by rfl) (fun W hW => ?_) hS0 ?_
        rotate_left
        · have z0 := hW
          go_simp
          try with_reducible rfl
        try simp only [List.getElem_toArray, List.getElem_cons_zero, List.getElem_cons_succ, Act.put, List.setIfInBounds_toArray, List.set_cons_zero, List.set_cons_succ]
        refine wpAnyN_take (i := 9) (v := ?_) rfl (by kernel_rfl) (fun _ _ _ h => h) (by rfl) (fun W hW => ?_) hS0 ?_
        rotate_left
        · have z0 := hW
          go_simp
          try with_reducible rfl
        try simp only [List.getElem_toArray, List.getElem_cons_zero, List.getElem_cons_succ, Act.put, List.setIfInBounds_toArray, List.set_cons_zero, List.set_cons_succ]
        refine wpAnyN_take (i := 10) (v := ?_) rfl (by kernel_rfl) (fun _ _ _ h => h) (by rfl) (fun W hW => ?_) hS0 ?_
        rotate_left
        · have z0 := hW
          go_simp
          try with_reducible rfl
        try simp only [List.getElem_toArray, List.getElem_cons_zero, List.getElem_cons_succ, Act.put, List.setIfInBounds_toArray, List.set_cons_zero, List.set_cons_succ]
        clear hS0
        have BZ0 := B_9
        refine wpAnyN_next (i := 12) rfl (by kernel_rfl) (fun Kc hK => ?_)
        have b9c := B_9.out.cell 0
        have b9f := B_9.out.frozen
        have b9l := B_9.out.lt
        go_simp
        have PZ := Lib.hid (P_9.out.far (.slice A2 n2 c2) B_9.out ha4)
        have BZ := Lib.hid (B_9.out.set_ 0 (.slice A2 n2 c2))
        have OZ := Lib.hid (fun h => (HP.out h).keep BZ0.out (.slice A2 n2 c2))
        refine hK.out _ _ (fun _ => PZ.out.x.cell 0) ?_
        clear hK Kc b9c b9f b9l
        try simp only [List.getElem_toArray, List.getElem_cons_zero, List.getElem_cons_succ, Act.put, List.setIfInBounds_toArray, List.set_cons_zero, List.set_cons_succ]
        refine wpAnyN_next (i := 13) rfl (by kernel_rfl) (fun Kc hK => ?_)
        go_simp
        refine hK.out _ _ (fun _ => PZ.out.x.cell 0) ?_
        clear hK Kc
        refine wpAnyN_done (by kernel_rfl) ?_ _
        go_wp2_with fail
        go_meet
        exact ⟨a4, A2, n2, c2, k, rfl, rfl, PZ, BZ, OZ, Lib.hid (by omega)⟩
    · intro Kc hK
      go_simp
      have P_10 := Lib.hid (P_0.out.alloc (.cells #[.slice none 0 0] 26))
      have B_10 := Lib.hid (Blk.new wd 26 #[.slice none 0 0])
      have ha4 : w2.heap.size < wd.heap.size := P_0.out.x.lt
      refine hK.out _ _ (fun _ => P_10.out.x.cell 0) ?_
      clear hK Kc
      try simp only [List.getElem_toArray, List.getElem_cons_zero, List.getElem_cons_succ, Act.put, List.setIfInBounds_toArray, List.set_cons_zero, List.set_cons_succ]
      generalize wd.heap.size = a4 at *
      generalize wd.alloc (.cells #[.slice none 0 0] 26) = x10 at *
      clear P_0
      refine wpAnyN_next (i := 2) rfl (by kernel_rfl) (fun Kc hK => ?_)
      go_simp
      go_wp2_with (go_at_call 36; refine (pick_any g K1 1000000 1000000 _ P_10.out.s (by omega) (by omega) (by omega)).mono ?_; rintro e x11 ⟨v1, rfl, v10, v11, s2, g2⟩)
      have P_11 := Lib.hid (P_10.out.pick s2 g2)
      have B_11 := Lib.hid (B_10.out.grown g2 (by intro e; injection e with e; have := HG; omega))
      refine hK.out _ _ (fun _ => P_11.out.x.cell 0) ?_
      clear hK Kc s2 g2 P_10
      try simp only [List.getElem_toArray, List.getElem_cons_zero, List.getElem_cons_succ, Act.put, List.setIfInBounds_toArray, List.set_cons_zero, List.set_cons_succ]
      clear B_10
      refine wpAnyN_next (i := 4) rfl (by kernel_rfl) (fun Kc hK => ?_)
      go_simp
      go_wp2_with (go_at_call 36; refine (pick_any g (K1 + 2) 100000 100000 _ P_11.out.s (by omega) (by omega) (by omega)).mono ?_; rintro e x12 ⟨v2, rfl, v20, v21, s2, g2⟩)
      have P_12 := Lib.hid (P_11.out.pick s2 g2)
      have B_12 := Lib.hid (B_11.out.grown g2 (by intro e; injection e with e; have := HG; omega))
      refine hK.out _ _ (fun _ => P_12.out.x.cell 0) ?_
      clear hK Kc s2 g2 P_11
      try simp only [List.getElem_toArray, List.getElem_cons_zero, List.getElem_cons_succ, Act.put, List.setIfInBounds_toArray, List.set_cons_zero, List.set_cons_succ]
      clear B_11
      have hm := mul_pick v10 v11 v20 v21
      have um1 : IntKind.i64.wrap (v1 * v2) = v1 * v2 := by rw [IntWalk.i64_in _ (by omega)]
      have um2 : IntKind.i64.wrap (1 + v1 * v2) = 1 + v1 * v2 := by rw [IntWalk.i64_in _ (by omega)]
      have hS0 := P_12.out.x.cell 0
      refine wpAnyN_take (i := 5) (v := ?_) rfl (by kernel_rfl) (fun _ _ _ h => h) (by rfl) (fun W hW => ?_) hS0 ?_
      rotate_left
      · have z0 := hW
        go_simp
        try with_reducible rfl
      try simp only [List.getElem_toArray, List.getElem_cons_zero, List.getElem_cons_succ, Act.put, List.setIfInBounds_toArray, List.set_cons_zero, List.set_cons_succ]
      refine wpAnyN_take (i := 6) (v := ?_) rfl (by kernel_rfl) (fun _ _ _ h => h) (by rfl) (fun W hW => ?_) hS0 ?_
      rotate_left
      · have z0 := hW
        go_simp
        try with_reducible rfl
      try simp only [List.getElem_toArray, List.getElem_cons_zero, List.getElem_cons_succ, Act.put, List.setIfInBounds_toArray, List.set_cons_zero, List.set_cons_succ]
      clear hS0
      clear um1 um2
      generalize v1 * v2 = t at *
      refine wpAnyN_next (i := 7) rfl (by kernel_rfl) (fun Kc hK => ?_)
      go_simp
      go_wp2_with (go_at_call 79; refine (powerG_any A n c rs (1 + t) _ hn0 hn1 (Rd.of_own (fun x _ => fac_len x) HLn.out P_12.out.q) HOk.out.wf HOk.out.gok (by omega) (by omega)).mono ?_; rintro e x13 hpost; obtain ⟨A2, n2, c2, k, rfl, hbl, HPk⟩ := hpost.cut)
      have P_13 := Lib.hid (P_12.out.next hbl)
      have HP := Lib.hid (fun h => (HPk h).mono P_12.out.e.size)
      have B_13 := Lib.hid (B_12.out.next hbl)
      refine hK.out _ _ (fun _ => P_13.out.x.cell 0) ?_
      clear hK Kc hpost hbl HPk P_12
      try simp only [List.getElem_toArray, List.getElem_cons_zero, List.getElem_cons_succ, Act.put, List.setIfInBounds_toArray, List.set_cons_zero, List.set_cons_succ]
      clear B_12
      have hS0 := P_13.out.x.cell 0
      refine wpAnyN_take (i := 8) (v := ?_) rfl (by kernel_rfl) (fun _ _ _ h => h) (by rfl) (fun W hW => ?_) hS0 ?_
      rotate_left
      · have z0 := hW
        go_simp
        try with_reducible rfl
      try simp only [List.getElem_toArray, List.getElem_cons_zero, List.getElem_cons_succ, Act.put, List.setIfInBounds_toArray, List.set_cons_zero, List.set_cons_succ]
      refine wpAnyN_take (i := 9) (v := ?_) rfl (by kernel_rfl) (fun _ _ _ h => h) (by rfl) (fun W hW => ?_) hS0 ?_
      rotate_left
      · have z0 := hW
        go_simp
        try with_reducible rfl
      try simp only [List.getElem_toArray, List.getElem_cons_zero, List.getElem_cons_succ, Act.put, List.setIfInBounds_toArray, List.set_cons_zero, List.set_cons_succ]
      refine wpAnyN_take (i := 10) (v := ?_) rfl (by kernel_rfl) (fun _ _ _ h => h) (by rfl) (fun W hW => ?_) hS0 ?_
      rotate_left
      · have z0 := hW
        go_simp
        try with_reducible rfl
      try simp only [List.getElem_toArray, List.getElem_cons_zero, List.getElem_cons_succ, Act.put, List.setIfInBounds_toArray, List.set_cons_zero, List.set_cons_succ]
      clear hS0
      have BZ0 := B_13
      refine wpAnyN_next (i := 12) rfl (by kernel_rfl) (fun Kc hK => ?_)
      have b9c := B_13.out.cell 0
      have b9f := B_13.out.frozen
      have b9l := B_13.out.lt
      go_simp
      have PZ := Lib.hid (P_13.out.far (.slice A2 n2 c2) B_13.out ha4)
      have BZ := Lib.hid (B_13.out.set_ 0 (.slice A2 n2 c2))
      have OZ := Lib.hid (fun h => (HP.out h).keep BZ0.out (.slice A2 n2 c2))
      refine hK.out _ _ (fun _ => PZ.out.x.cell 0) ?_
      clear hK Kc b9c b9f b9l
      try simp only [List.getElem_toArray, List.getElem_cons_zero, List.getElem_cons_succ, Act.put, List.setIfInBounds_toArray, List.set_cons_zero, List.set_cons_succ]
      refine wpAnyN_next (i := 13) rfl (by kernel_rfl) (fun Kc hK => ?_)
      go_simp
      refine hK.out _ _ (fun _ => PZ.out.x.cell 0) ?_
      clear hK Kc
      refine wpAnyN_done (by kernel_rfl) ?_ _
      go_wp2_with fail
      go_meet
      exact ⟨a4, A2, n2, c2, k, rfl, rfl, PZ, BZ, OZ, Lib.hid (by omega)⟩
  case rest =>
    obtain ⟨a4, A2, n2, c2, k, rfl, rfl, P2, B2, O2, hX4⟩ := hcut
    clear P
    have x0 := P2.out.x.cell 0
    have xl := P2.out.x.lt
    have y0 := B2.out.cell 0
    have yl := B2.out.lt
    have r0 := P2.out.r.cell 0
    have rf := P2.out.r.frozen
    have rl := P2.out.r.lt
    by_cases hk0 : k = 0
    · subst hk0
      have G2 := O2.out rfl
      go_wp2_with fail
      refine (one_any g (K1 + 2 + 2) 2 wc P2.out.s (by omega) (by omega)).mono ?_
      rintro e w3 ⟨b, rfl, s3, g3⟩
      have P3 := Lib.hid (P2.out.pick s3 g3)
      have B3 := Lib.hid (B2.out.grown g3 (by intro e; injection e with e; have := hX4.out; omega))
      have G3 := Lib.hid (G2.draw g3 HG)
      clear P2 B2 G2 O2 s3 g3 x0 xl y0 yl r0 rf rl
      have x0 := P3.out.x.cell 0
      have xl := P3.out.x.lt
      have y0 := B3.out.cell 0
      have yl := B3.out.lt
      have r0 := P3.out.r.cell 0
      have rf := P3.out.r.frozen
      have rl := P3.out.r.lt
      cases b
      · go_wp2_with fail
        have x8 := HuW.x8 P3.out (.slice A2 n2 c2)
        exact bodyPost_ret (v := .agg #[.slice A2 n2 c2]) (by simp [results, Try.results33, go_sem, x8]) rfl (HuW.tell P3.out G3.out (by omega))
      · obtain ⟨A2', c2', rs2, hv, Gi⟩ := G3.out
        injection hv with ha hb hc
        subst ha; subst hb; subst hc
        go_upto_region 6 with fail
        go_cut [4, 5] from 6 (fun p_ k_ wx => ∃ (A2 : Option Addr) (n2 c2 : Nat) (k : Int), p_ = .pointer (some ⟨a4, 0, none⟩) ∧ k_ = .int .i64 k ∧ Hid (HuW w wx g (K1 + 2 + 2 + 2 + 1000) w2.heap.size A n c rs) ∧ Hid (Blk wx a4 26 #[.slice A2 n2 c2]) ∧ Hid (k = 0 → GrAt wx w.heap.size (.slice A2 n2 c2)))
        case first =>
          refine wp_region_N (fun W => W.cell? ⟨a4, 0, none⟩ = some (.slice A2 rs2.length c2)) [6, 7, 8] (by kernel_rfl) ?_
          have P_0 := Lib.hid P3.out.drew
          have B_0 := Lib.hid B3.out.drew
          have Gi_0 := Lib.hid (Gi.next (Below.refl _ _).drew)
          have hS0 := B_0.out.cell 0
          refine wpAnyN_take (i := 0) (v := ?_) rfl (by kernel_rfl) (fun _ _ _ h => h) (by rfl) (fun W hW => ?_) hS0 ?_
          rotate_left
          · have z0 := hW
            go_simp
            try with_reducible rfl
          try simp only [List.getElem_toArray, List.getElem_cons_zero, List.getElem_cons_succ, Act.put, List.setIfInBounds_toArray, List.set_cons_zero, List.set_cons_succ]
          refine wpAnyN_take (i := 1) (v := ?_) rfl (by kernel_rfl) (fun _ _ _ h => h) (by rfl) (fun W hW => ?_) hS0 ?_
          rotate_left
          · have z0 := hW
            go_simp
            try with_reducible rfl
          try simp only [List.getElem_toArray, List.getElem_cons_zero, List.getElem_cons_succ, Act.put, List.setIfInBounds_toArray, List.set_cons_zero, List.set_cons_succ]
          clear hS0 P3 B3 Gi x0 xl y0 yl r0 rf rl
          generalize w3.drew = wd at *
          refine wpAnyN_next (i := 2) rfl (by kernel_rfl) (fun Kc hK => ?_)
          go_simp
          go_wp2_with (go_at_call 31; refine (l02Drawn_any g (K1 + 2 + 2 + 2) 100 wd P_0.out.s (by omega) (by omega) (by omega)).mono ?_; rintro e x1 ⟨A3, c3, rs3, rfl, ok3, own3, s3, g3⟩)
          have P_1 := Lib.hid (P_0.out.pick s3 g3)
          have B_1 := Lib.hid (B_0.out.grown g3 (by intro e; injection e with e; have := hX4.out; omega))
          have Gi_1 := Lib.hid (show GrIn x1 w.heap.size A2 c2 rs2 from ⟨Gi_0.out.wf, Gi_0.out.pos, Gi_0.out.ok, own_kept Gi_0.out.own g3 HG⟩)
          have O3 := Lib.hid own3
          have Ok3 := Lib.hid ok3
          refine hK.out _ _ (fun _ => B_1.out.cell 0) ?_
          clear hK Kc s3 g3 own3 ok3 P_0 B_0 Gi_0
          try simp only [List.getElem_toArray, List.getElem_cons_zero, List.getElem_cons_succ, Act.put, List.setIfInBounds_toArray, List.set_cons_zero, List.set_cons_succ]
          have hp3 := Ok3.out.pos
          have hp2 := Gi_1.out.pos
          refine wpAnyN_next (i := 3) rfl (by kernel_rfl) (fun Kc hK => ?_)
          go_simp
          go_wp2_with (go_at_call 12; refine (joinG_any A2 rs2.length c2 rs2 A3 rs3.length c3 rs3 x1 hp2 hp3 (Rd.of_own (fun x _ => fac_len x) rfl Gi_1.out.own) (Rd.of_own (fun x _ => fac_len x) rfl O3.out) Gi_1.out.wf Ok3.out.wf Gi_1.out.ok Ok3.out.gok).mono ?_; rintro e x2 hpost; obtain ⟨A9, n9, c9, k9, rfl, hbl, HPk⟩ := join_cut hpost (join_wf Gi_1.out.wf Ok3.out.wf) (join_pos hp2))
          have P_2 := Lib.hid (P_1.out.next hbl)
          have B_2 := Lib.hid (B_1.out.next hbl)
          have H9 := Lib.hid (fun h => (HPk h).mono P_1.out.e.size)
          refine hK.out _ _ (fun _ => B_2.out.cell 0) ?_
          clear hK Kc hpost hbl HPk P_1 B_1
          try simp only [List.getElem_toArray, List.getElem_cons_zero, List.getElem_cons_succ, Act.put, List.setIfInBounds_toArray, List.set_cons_zero, List.set_cons_succ]
          have hS0 := B_2.out.cell 0
          refine wpAnyN_take (i := 4) (v := ?_) rfl (by kernel_rfl) (fun _ _ _ h => h) (by rfl) (fun W hW => ?_) hS0 ?_
          rotate_left
          · have z0 := hW
            go_simp
            try with_reducible rfl
          try simp only [List.getElem_toArray, List.getElem_cons_zero, List.getElem_cons_succ, Act.put, List.setIfInBounds_toArray, List.set_cons_zero, List.set_cons_succ]
          refine wpAnyN_2 (i := 5) (j := 6) rfl rfl (by kernel_rfl) ?_ ?_
          · intro Kc hK
            go_simp
            refine hK.out _ _ (fun _ => hS0) ?_
            clear hK Kc
            try simp only [List.getElem_toArray, List.getElem_cons_zero, List.getElem_cons_succ, Act.put, List.setIfInBounds_toArray, List.set_cons_zero, List.set_cons_succ]
            refine wpAnyN_2 (i := 6) (j := 7) rfl rfl (by kernel_rfl) ?_ ?_
            · intro Kc hK
              go_simp
              refine hK.out _ _ (fun h => absurd h (by decide)) ?_
              clear hK Kc
              try simp only [List.getElem_toArray, List.getElem_cons_zero, List.getElem_cons_succ, Act.put, List.setIfInBounds_toArray, List.set_cons_zero, List.set_cons_succ]
              refine wpAnyN_next (i := 7) rfl (by kernel_rfl) (fun Kc hK => ?_)
              have b9c := B_2.out.cell 0
              have b9f := B_2.out.frozen
              have b9l := B_2.out.lt
              go_simp
              have PZ := Lib.hid (P_2.out.far (.slice A9 n9 c9) B_2.out hX4.out)
              have BZ := Lib.hid (B_2.out.set_ 0 (.slice A9 n9 c9))
              have HZ := Lib.hid (fun h => (H9.out h).keep B_2.out (.slice A9 n9 c9))
              refine hK.out _ _ (fun h => absurd h (by decide)) ?_
              clear hK Kc b9c b9f b9l hS0
              try simp only [List.getElem_toArray, List.getElem_cons_zero, List.getElem_cons_succ, Act.put, List.setIfInBounds_toArray, List.set_cons_zero, List.set_cons_succ]
              refine wpAnyN_next (i := 8) rfl (by kernel_rfl) (fun Kc hK => ?_)
              go_simp
              refine hK.out _ _ (fun h => absurd h (by decide)) ?_
              clear hK Kc
              refine wpAnyN_done (by kernel_rfl) ?_ _
              go_wp2_with fail
              go_meet
              exact ⟨A9, n9, c9, k9, rfl, rfl, PZ, BZ, HZ⟩
            · intro Kc hK
              have b9c := B_2.out.cell 0
              have b9f := B_2.out.frozen
              have b9l := B_2.out.lt
              go_simp
              have PZ := Lib.hid (P_2.out.far (.slice A9 n9 c9) B_2.out hX4.out)
              have BZ := Lib.hid (B_2.out.set_ 0 (.slice A9 n9 c9))
              have HZ := Lib.hid (fun h => (H9.out h).keep B_2.out (.slice A9 n9 c9))
              refine hK.out _ _ (fun h => absurd h (by decide)) ?_
              clear hK Kc b9c b9f b9l hS0
              try simp only [List.getElem_toArray, List.getElem_cons_zero, List.getElem_cons_succ, Act.put, List.setIfInBounds_toArray, List.set_cons_zero, List.set_cons_succ]
              refine wpAnyN_next (i := 6) rfl (by kernel_rfl) (fun Kc hK => ?_)
              go_simp
              refine hK.out _ _ (fun h => absurd h (by decide)) ?_
              clear hK Kc
              try simp only [List.getElem_toArray, List.getElem_cons_zero, List.getElem_cons_succ, Act.put, List.setIfInBounds_toArray, List.set_cons_zero, List.set_cons_succ]
              refine wpAnyN_next (i := 8) rfl (by kernel_rfl) (fun Kc hK => ?_)
              go_simp
              refine hK.out _ _ (fun h => absurd h (by decide)) ?_
              clear hK Kc
              refine wpAnyN_done (by kernel_rfl) ?_ _
              go_wp2_with fail
              go_meet
              exact ⟨A9, n9, c9, k9, rfl, rfl, PZ, BZ, HZ⟩
          · intro Kc hK
            go_simp
            refine hK.out _ _ (fun h => absurd h (by decide)) ?_
            clear hK Kc
            try simp only [List.getElem_toArray, List.getElem_cons_zero, List.getElem_cons_succ, Act.put, List.setIfInBounds_toArray, List.set_cons_zero, List.set_cons_succ]
            refine wpAnyN_next (i := 5) rfl (by kernel_rfl) (fun Kc hK => ?_)
            go_simp
            refine hK.out _ _ (fun _ => hS0) ?_
            clear hK Kc
            try simp only [List.getElem_toArray, List.getElem_cons_zero, List.getElem_cons_succ, Act.put, List.setIfInBounds_toArray, List.set_cons_zero, List.set_cons_succ]
            refine wpAnyN_next (i := 7) rfl (by kernel_rfl) (fun Kc hK => ?_)
            have b9c := B_2.out.cell 0
            have b9f := B_2.out.frozen
            have b9l := B_2.out.lt
            go_simp
            have PZ := Lib.hid (P_2.out.far (.slice A9 n9 c9) B_2.out hX4.out)
            have BZ := Lib.hid (B_2.out.set_ 0 (.slice A9 n9 c9))
            have HZ := Lib.hid (fun h => (H9.out h).keep B_2.out (.slice A9 n9 c9))
            refine hK.out _ _ (fun h => absurd h (by decide)) ?_
            clear hK Kc b9c b9f b9l hS0
            try simp only [List.getElem_toArray, List.getElem_cons_zero, List.getElem_cons_succ, Act.put, List.setIfInBounds_toArray, List.set_cons_zero, List.set_cons_succ]
            refine wpAnyN_next (i := 8) rfl (by kernel_rfl) (fun Kc hK => ?_)
            go_simp
            refine hK.out _ _ (fun h => absurd h (by decide)) ?_
            clear hK Kc
            refine wpAnyN_done (by kernel_rfl) ?_ _
            go_wp2_with fail
            go_meet
            exact ⟨A9, n9, c9, k9, rfl, rfl, PZ, BZ, HZ⟩
        case rest =>
          obtain ⟨A9, n9, c9, k, rfl, rfl, P4, B4, G4⟩ := hcut
          clear P3 B3 G3 Gi x0 xl y0 yl r0 rf rl
          have x0 := P4.out.x.cell 0
          have xl := P4.out.x.lt
          have y0 := B4.out.cell 0
          have yl := B4.out.lt
          have r0 := P4.out.r.cell 0
          have rf := P4.out.r.frozen
          have rl := P4.out.r.lt
          by_cases hk0 : k = 0
          · subst hk0
            have G5 := G4.out rfl
            go_wp2_with fail
            have x8 := HuW.x8 P4.out (.slice A9 n9 c9)
            exact bodyPost_ret (v := .agg #[.slice A9 n9 c9]) (by simp [results, Try.results33, go_sem, x8]) rfl (HuW.tell P4.out G5 (by omega))
          · have hk1 : (k == 0) = false := by simpa using hk0
            go_wp2_with fail
            have x8 := HuW.x8 P4.out (.slice A n c)
            exact bodyPost_ret (v := .agg #[.slice A n c]) (by simp [results, Try.results33, go_sem, x8]) rfl (HuW.tell P4.out ⟨A, c, rs, by rw [HLn.out], HOk.out.wf, by rw [HLn.out]; exact hn0, HOk.out.gok, by rw [HLn.out]; exact P4.out.q⟩ (by omega))
    · have hk1 : (k == 0) = false := by simpa using hk0
      go_wp2_with fail
      have x8 := HuW.x8 P2.out (.slice A n c)
      exact bodyPost_ret (v := .agg #[.slice A n c]) (by simp [results, Try.results33, go_sem, x8]) rfl (HuW.tell P2.out ⟨A, c, rs, by rw [HLn.out], HOk.out.wf, by rw [HLn.out]; exact hn0, HOk.out.gok, by rw [HLn.out]; exact P2.out.q⟩ (by omega))
end Go.Proofs.Ytgdbpkpaacbhhaa


/-
  What laws draw: a long word's grammar, a number, a letter.
-/
namespace Go.Proofs.Ytgdbpkpaacbhhaa
open Go.RowKit

/-- a grammar that is drawn, whose word has at most a quarter of the most letters -/
def HgNew (w : World) (e : Ending) (w' : World) : Prop :=
  ∃ A c rs, e = .returned (.agg #[.slice A rs.length c]) ∧ GrIn w' w.heap.size A c rs ∧ (wdN rs).length ≤ 250000000000000 ∧ Below w.heap.size w w'
theorem big_lens {rs : List Fac} (h : (gOk rs).isSome = true) : ∃ ls, gLens rs [] = some ls ∧ rs.length ≤ 400 ∧ ls.length = rs.length := by
  obtain ⟨ls, hls⟩ := Option.isSome_iff_exists.1 h
  exact ⟨ls, (gOk_lens hls).1, (gOk_lens hls).2.1, (gOk_lens hls).2.2⟩
set_option maxHeartbeats 2000000 in
set_option maxRecDepth 100000 in
theorem p6Huge_any (A : Option Addr) (n c : Nat) (bs : List UInt8) (w : World) (hn : n ≤ 4096) (hr : Rd w w.heap.size A n 1 byteE bs) :
    Calls Try.prog 8 #[.slice A n c] w (HgNew w) := by
  have HR := Lib.hid hr; clear hr
  go_enter Try.func8, Try.ntmps8
  go_wp2_with fail
  refine namedC fun w0 H0 => ?_
  have hb0 : Below w.heap.size w w0 := by rw [H0.out]; (repeat first | exact Below.refl _ _ | assumption | refine Below.drew ?_ | refine Below.alloc ?_ (by first | exact Nat.le_refl _ | (simp; done) | omega | (simp; omega)) _ | refine Below.setCell ?_ (by first | exact Nat.le_refl _ | (simp; done) | omega | (simp; omega)) _)
  have B0 := Lib.hid (show Blk w0 w.heap.size 26 #[.slice none 0 0] by rw [H0.out]; exact Blk.new _ _ _)
  clear H0
  refine (l00From_any A n c bs w0 hn (HR.out.next hb0)).mono ?_
  rintro e w1 ⟨g, rfl, hg, s1, hb1⟩
  have b1 := Lib.hid (hb0.trans (hb1.mono hb0.size))
  have B1 := Lib.hid (B0.out.next hb1)
  have hg2 : w.heap.size < g := by have := B0.out.lt; omega
  have S1 := Lib.hid s1
  clear s1 hb1 hb0 B0
  go_wp2_with fail
  go_loopw [4] (fun i_ w' => ∃ i : Nat, i_ = .int .i64 i ∧ i ≤ 3 ∧ Hid (Src w' g (3000 * i)) ∧ Hid (Below w.heap.size w w') ∧ Hid (Blk w' w.heap.size 26 #[.slice none 0 0])) (fun i_ _ => 3 - (intOf i_).toNat)
  case atStart => exact ⟨0, rfl, by omega, S1, b1, B1⟩
  case round =>
    obtain ⟨i, rfl, hi, S2, b2, B2⟩ := hrel
    clear S1 b1 B1
    by_cases hlt : i < 3
    · have i1 : (i : Int) < 3 := by omega
      go_wp2_with fail
      refine (l02Huge_any g (3000 * i) wr S2.out (by omega)).mono ?_
      rintro e w3 ⟨A3, c3, rs, rfl, gi, s3, g3⟩
      have S3 := Lib.hid (s3.next ((Below.refl _ _).alloc (Nat.le_refl _) (.cells #[.slice A3 rs.length c3] 26)))
      have b3 := Lib.hid ((b2.out.grown g3 b2.out.size (fun k e => by injection e; omega)).alloc (Nat.le_trans b2.out.size g3.size) (.cells #[.slice A3 rs.length c3] 26))
      have B3 := Lib.hid ((B2.out.grown g3 (by intro e; injection e with e; omega)).alloc (.cells #[.slice A3 rs.length c3] 26))
      have G3 := Lib.hid ((gi.mono b2.out.size).next ((Below.refl _ _).alloc (Nat.le_refl _) (.cells #[.slice A3 rs.length c3] 26)))
      have X3 := Lib.hid (Blk.new w3 26 #[.slice A3 rs.length c3])
      have hxx : w.heap.size < w3.heap.size := by have := g3.size; have := B2.out.lt; omega
      clear S2 b2 B2 s3 g3 gi
      generalize hw4 : w3.alloc (.cells #[.slice A3 rs.length c3] 26) = w4 at *
      obtain ⟨ls, hls, hlen, hll⟩ := big_lens G3.out.ok
      have HLS := Lib.hid hls
      have hlast := last_word hls
      have Z3 := Lib.hid (wf_sz G3.out.wf)
      have R3 := Lib.hid (Rd.of_own (fun x _ => fac_len x) rfl G3.out.own)
      have OK3 := Lib.hid G3.out.ok
      obtain ⟨v, hv⟩ : ∃ v, lastI ls = v := ⟨_, rfl⟩
      have Hv := Lib.hid hv
      clear hls
      go_wp2_with fail
      refine (l02Ok_any w3.heap.size A3 rs.length c3 rs w4 X3.out.lt (X3.out.cell 0) (by omega) R3.out Z3.out true OK3.out).mono ?_
      rintro e w5 ⟨rfl, hb5⟩
      have S5 := Lib.hid (S3.out.next hb5)
      have b5 := Lib.hid (b3.out.trans (hb5.mono b3.out.size))
      have B5 := Lib.hid (B3.out.next hb5)
      have G5 := Lib.hid (G3.out.next hb5)
      have X5 := Lib.hid (X3.out.next hb5)
      have R5 := Lib.hid (Rd.of_own (fun x _ => fac_len x) rfl G5.out.own)
      clear S3 b3 B3 G3 X3 hb5 hw4 R3
      go_wp2_with fail
      refine (l02Length_any w3.heap.size A3 rs.length c3 rs w5 X5.out.lt (X5.out.cell 0) (by omega) R5.out Z3.out ls HLS.out).mono ?_
      rintro e w6 ⟨rfl, hb6⟩
      have S6 := Lib.hid (S5.out.next hb6)
      have b6 := Lib.hid (b5.out.trans (hb6.mono b5.out.size))
      have B6 := Lib.hid (B5.out.next hb6)
      have G6 := Lib.hid (G5.out.next hb6)
      have X6 := Lib.hid (X5.out.next hb6)
      clear S5 b5 B5 G5 X5 hb6 R5
      rw [Hv.out]
      by_cases hle : v ≤ 250000000000000
      · have hle1 := decide_eq_true hle
        have x0 := X6.out.cell 0
        have xl := X6.out.lt
        have r0 := B6.out.cell 0
        have rf := B6.out.frozen
        have rl := B6.out.lt
        have x8 : (w6.setCell ⟨w.heap.size, 0, none⟩ (.slice A3 rs.length c3)).cell? ⟨w.heap.size, 0, none⟩ = some (.slice A3 rs.length c3) := by rw [(B6.out.set_ 0 (.slice A3 rs.length c3)).cell 0]; rfl
        have b8 := Lib.hid (b6.out.setCell (p := ⟨w.heap.size, 0, none⟩) (Nat.le_refl _) (.slice A3 rs.length c3))
        have O8 := Lib.hid (own_kept' (i := 0) G6.out.own B6.out (by decide) (.slice A3 rs.length c3))
        go_wp2_with fail
        refine bodyPost_ret (v := .agg #[.slice A3 rs.length c3]) (by simp [results, Try.results8, go_sem, x8]) rfl ?_
        exact ⟨A3, c3, rs, rfl, ⟨G6.out.wf, G6.out.pos, G6.out.ok, O8.out⟩, by omega, b8.out⟩
      · have hle1 := decide_eq_false hle
        go_wp2_with fail
        go_roundw
        case rel => exact ⟨i + 1, by go_num, by omega, Lib.hid (S6.out.mono (by omega)), b6, B6⟩
        case measure => simp [intOf]; omega
    · have i1 : ¬ ((i : Int) < 3) := by omega
      go_wp2_with fail
      refine (l02Drawn_any g (3000 * i) 8 wr S2.out (by omega) (by omega) (by omega)).mono ?_
      rintro e w3 ⟨A3, c3, rs, rfl, ok, own3, s3, g3⟩
      have B3 := Lib.hid (B2.out.grown g3 (by intro e; injection e with e; omega))
      have b3 := Lib.hid (b2.out.grown g3 b2.out.size (fun k e => by injection e; omega))
      have O3 := Lib.hid (own_kept' (i := 0) (own3.mono b2.out.size) B3.out (by decide) (.slice A3 rs.length c3))
      have Ok := Lib.hid ok
      have r0 := B3.out.cell 0
      have rf := B3.out.frozen
      have rl := B3.out.lt
      have x8 : (w3.setCell ⟨w.heap.size, 0, none⟩ (.slice A3 rs.length c3)).cell? ⟨w.heap.size, 0, none⟩ = some (.slice A3 rs.length c3) := by rw [(B3.out.set_ 0 (.slice A3 rs.length c3)).cell 0]; rfl
      have b8 := Lib.hid (b3.out.setCell (p := ⟨w.heap.size, 0, none⟩) (Nat.le_refl _) (.slice A3 rs.length c3))
      clear own3 s3 g3 ok
      go_wp2_with fail
      refine bodyPost_ret (v := .agg #[.slice A3 rs.length c3]) (by simp [results, Try.results8, go_sem, x8]) rfl ?_
      exact ⟨A3, c3, rs, rfl, ⟨Ok.out.wf, Ok.out.pos, Ok.out.gok, O3.out⟩, by have := Ok.out.len; omega, b8.out⟩
theorem p6Pick_any (A : Option Addr) (n c : Nat) (bs : List UInt8) (m k : Int) (w : World) (hn : n ≤ 4096) (hr : Rd w w.heap.size A n 1 byteE bs) (hm : m ≤ k) (hk : 1 ≤ k) :
    Calls Try.prog 9 #[.slice A n c, .int .i64 m] w (fun e w' => ∃ v : Int, e = .returned (.int .i64 v) ∧ 0 ≤ v ∧ v < k ∧ Below w.heap.size w w') := by
  go_enter Try.func9, Try.ntmps9
  go_wp2_with fail
  refine (l00From_any A n c bs w hn hr).mono ?_
  rintro e w1 ⟨g, rfl, hg, s1, hb1⟩
  go_wp2_with fail
  refine (pick_any g 0 m k w1 s1 (by omega) hm hk).mono ?_
  rintro e w2 ⟨v, rfl, v0, v1, s2, g2⟩
  go_wp2_with fail
  go_ret
  exact ⟨v, rfl, v0, v1, hb1.grown g2 hb1.size (fun k e => by injection e with e; omega)⟩
/-- the text of one letter -/
def lt1 (l : Nat) : ByteArray := ⟨#[UInt8.ofNat (97 + l)]⟩
set_option maxHeartbeats 1000000 in
theorem text_any (g K X : Nat) (ts : List ByteArray) (n : Nat) (w : World) (h : Src w g K) (hK : K ≤ 10000000) (hX : Blk w X 9 (ts.map Value.string).toArray) (hl : ts.length = n) (h0 : 0 < n) (h1 : n ≤ 200) (hg : g < X) :
    Calls Try.prog 59 #[.pointer (some ⟨g, 0, none⟩), .slice (some ⟨X, 0, none⟩) n n] w (fun e w' => ∃ s : ByteArray, s ∈ ts ∧ e = .returned (.string s) ∧ Src w' g (K + 2) ∧ w.grownBy w' (some g)) := by
  have HX := Lib.hid hX; clear hX
  have HL := Lib.hid hl; clear hl
  go_enter Try.func59, Try.ntmps59
  go_wp2_with fail
  refine (pick_any g K n n w h (by omega) (by omega) (by omega)).mono ?_
  rintro e w1 ⟨v, rfl, v0, v1, s1, g1⟩
  obtain ⟨k, rfl⟩ := Int.eq_ofNat_of_zero_le v0
  have hk : k < ts.length := by rw [HL.out]; omega
  have c0 := (HX.out.grown g1 (by intro e; injection e with e; omega)).cell k
  rw [show (ts.map Value.string).toArray[k]? = some (.string ts[k]) by simp [List.getElem?_eq_getElem hk]] at c0
  have k0 : (0 : Int) ≤ (k : Int) := by omega
  have k1 : (k : Int) < (n : Int) := v1
  go_wp2_with fail
  go_ret
  exact ⟨ts[k], List.getElem_mem hk, rfl, s1, g1⟩
end Go.Proofs.Ytgdbpkpaacbhhaa


/-
  The grammar of a part, in the reference.
-/
namespace Go.Proofs.Ytgdbpkpaacbhhaa
open Go.RowKit

set_option maxHeartbeats 1000000 in
theorem l02Part_any (gb : Nat) (A : Option Addr) (n c : Nat) (rs : List Fac) (i j : Int) (w : World) (hg : gb < w.heap.size) (hc : w.cell? ⟨gb, 0, none⟩ = some (.slice A n c)) (hn : n ≤ 100000000) (hr : Rd w w.heap.size A n 3 Fac.cells rs) (hok : (gOk rs).isSome = true)
    (hi : 0 ≤ i) (hij : i ≤ j) (hj : j ≤ (wdN rs).length) : Calls Try.prog 42 #[.pointer (some ⟨gb, 0, none⟩), .int .i64 i, .int .i64 j] w (Ret (.int .i64 0) w) := by
  obtain ⟨ls, hls, _, _⟩ := big_lens hok
  have hlast := last_word hls
  have HZ := Lib.hid (wf_sz (wf_of hls))
  have HL := Lib.hid (fun W (hb : Below w.heap.size w W) => l02Length_any gb A n c rs W (by have := hb.size; omega) ((hb.cell (p := ⟨gb, 0, none⟩) hg).trans hc) hn (hr.next hb) HZ.out ls hls)
  have HK := Lib.hid (l02Ok_any gb A n c rs w hg hc hn hr HZ.out true hok)
  rw [hlast] at HL
  generalize ((wdN rs).length : Int) = L at *
  have i1 : decide (i < 0) = false := decide_eq_false (by omega)
  have i2 : decide (j < i) = false := decide_eq_false (by omega)
  have i3 : decide (L < j) = false := decide_eq_false (by omega)
  clear hls hlast hok hr hg hc
  go_enter Try.func42, Try.ntmps42
  go_wp2_with fail
  refine HK.out.mono ?_
  rintro e w1 ⟨rfl, hb1⟩
  go_wp2_with fail
  refine (HL.out w1 hb1).mono ?_
  rintro e w2 ⟨rfl, hb2⟩
  go_wp2_with fail
  go_ret
  exact ⟨rfl, hb1.trans (hb2.mono hb1.size)⟩
set_option maxHeartbeats 1000000 in
theorem l02Cut0_any (p : Value) (i : Int) (w : World) : Calls Try.prog 43 #[p, .int .i64 i, .int .i64 i] w (RetG w []) := by
  go_enter Try.func43, Try.ntmps43
  go_wp2_with fail
  exact bodyPost_ret (v := .agg #[.slice none 0 0]) (by simp [results, Try.results43, go_sem]) rfl ⟨none, 0, rfl, World.ownsRow_nil _ _ _ _, by (repeat first | exact Below.refl _ _ | assumption | refine Below.drew ?_ | refine Below.alloc ?_ (by first | exact Nat.le_refl _ | (simp; done) | omega | (simp; omega)) _ | refine Below.setCell ?_ (by first | exact Nat.le_refl _ | (simp; done) | omega | (simp; omega)) _)⟩
set_option maxHeartbeats 2000000 in
set_option maxRecDepth 100000 in
theorem partG_any (A : Option Addr) (n c : Nat) (rs : List Fac) (i j : Int) (w : World) (hr : Rd w w.heap.size A n 3 Fac.cells rs) (hcap : n ≤ c) (hok : (gOk rs).isSome = true)
    (hi : 0 ≤ i) (hij : i ≤ j) (hj : j ≤ (wdN rs).length) : Calls Try.prog 14 #[.agg #[.slice A n c], .int .i64 i, .int .i64 j] w (RetGC w (limF (ptL rs i j)) (limC (ptL rs i j))) := by
  obtain ⟨ls0, hls0⟩ := Option.isSome_iff_exists.1 hok
  obtain ⟨ls, hls, h400, hll⟩ := big_lens hok
  have hlast := last_word hls
  have hn : n ≤ 400 := by have := hr.len; omega
  have HZ := Lib.hid (wf_sz (wf_of hls))
  have HR := Lib.hid hr; clear hr
  obtain ⟨ptw, _, pl⟩ := pt_word hok hi hij hj
  have PW := Lib.hid (wf_sz ptw)
  -- the cut
  obtain ⟨C, hC, hCw, hCl, hpt⟩ : ∃ C, (∀ (W : World), Below w.heap.size w W → Blk W w.heap.size 26 #[.slice A n c] → Calls Try.prog 43 #[.pointer (some ⟨w.heap.size, 0, none⟩), .int .i64 i, .int .i64 j] W (RetG W C)) ∧ WF C ∧ C.length ≤ 1200 ∧ ptL rs i j = trimL C := by
    by_cases h : i < j
    · have hjl : j ≤ lastI ls := by omega
      have hb : lastI ls ≤ 1000000000000000 := by
        unfold lastI
        by_cases h0 : rs.length = 0
        · rw [List.eq_nil_of_length_eq_zero (hll.trans h0)]; show (0 : Int) ≤ _; omega
        · exact (lens_bound hls (i := ls.length - 1) (by omega)).2
      obtain ⟨w1, w2, _⟩ := cut_word hls hll hi h hjl (by omega)
      obtain ⟨hp, k1, k2, _⟩ := covT_ok hls hll hi h hjl
      have hcl := cut_len (rs := rs) (covT ls rs i j) k1
      refine ⟨cutL rs (covT ls rs i j), fun W hb hB => ?_, w1, by omega, by unfold ptL; rw [if_pos h, hls]; rfl⟩
      have e : gOk rs = some ls := by rw [hls0]; congr 1; have := (gOk_lens hls0).1; rw [hls] at this; exact (Option.some.inj this).symm
      exact l02Cut_any w.heap.size A n c rs i j ls W hB.lt (hB.cell 0) (HR.out.next hb) HZ.out hcap e hi h hjl
    · obtain rfl : i = j := by omega
      refine ⟨[], fun W hb hB => l02Cut0_any _ i W, fun k r hr => by simp at hr, by simp, by unfold ptL; rw [if_neg h]; rfl⟩
  rw [hpt] at PW ⊢
  have HC := Lib.hid hC
  have HCW := Lib.hid hCw
  have PT := Lib.hid (fun W (h : Below w.heap.size w W) (hB : Blk W w.heap.size 26 #[.slice A n c]) => l02Part_any w.heap.size A n c rs i j W hB.lt (hB.cell 0) (by omega) (HR.out.next h) hok hi hij hj)
  have hTl : (trimL C).length ≤ 1200 := by rw [← hpt]; exact pl
  clear hC hCw hpt pl ptw hls0 hls hlast hok
  go_enter Try.func14, Try.ntmps14
  go_wp2_with fail
  refine namedC fun w1 H1 => ?_
  have c1 := Lib.hid (show Below w.heap.size w w1 by rw [H1.out]; (repeat first | exact Below.refl _ _ | assumption | refine Below.drew ?_ | refine Below.alloc ?_ (by first | exact Nat.le_refl _ | (simp; done) | omega | (simp; omega)) _ | refine Below.setCell ?_ (by first | exact Nat.le_refl _ | (simp; done) | omega | (simp; omega)) _))
  have BG := Lib.hid (show Blk w1 w.heap.size 26 #[.slice A n c] by rw [H1.out]; exact (Blk.new _ _ _).alloc _)
  have BR := Lib.hid (show Blk w1 (w.heap.size + 1) 26 #[.slice none 0 0] by rw [H1.out]; simpa using Blk.new (w.alloc (.cells #[.slice A n c] 26)) 26 #[.slice none 0 0])
  clear H1
  refine (PT.out w1 c1.out BG.out).mono ?_
  rintro e w2 ⟨rfl, hb2⟩
  have c2 := Lib.hid (c1.out.trans (hb2.mono c1.out.size))
  have BG2 := Lib.hid (BG.out.next hb2)
  have BR2 := Lib.hid (BR.out.next hb2)
  clear c1 BG BR hb2
  go_wp2_with fail
  refine (HC.out w2 c2.out BG2.out).mono ?_
  rintro e w3 ⟨A3, c3, rfl, own3, hb3⟩
  have c3' := Lib.hid (c2.out.trans (hb3.mono c2.out.size))
  have BR3 := Lib.hid (BR2.out.next hb3)
  have O3 := Lib.hid own3
  clear c2 BG2 BR2 own3 hb3
  go_wp2_with fail
  refine namedC fun w4 H4 => ?_
  have c4 := Lib.hid (show Below w.heap.size w w4 by rw [H4.out]; exact c3'.out.alloc c3'.out.size _)
  have BR4 := Lib.hid (show Blk w4 (w.heap.size + 1) 26 #[.slice none 0 0] by rw [H4.out]; exact BR3.out.alloc _)
  have BX4 := Lib.hid (show Blk w4 w3.heap.size 26 #[.slice A3 C.length c3] by rw [H4.out]; exact Blk.new _ _ _)
  have O4 := Lib.hid (show w4.ownsRow w2.heap.size 82 3 (.slice A3 C.length c3) C.length (C.flatMap Fac.cells) by rw [H4.out]; exact O3.out.alloc _)
  clear H4 c3' BR3 O3
  refine (l02Trim_any w3.heap.size A3 C.length c3 C w4 BX4.out.lt (BX4.out.cell 0) (by omega) (Rd.of_own (fun x _ => fac_len x) rfl O4.out) HCW.out).mono ?_
  rintro e w5 ⟨A5, c5, rfl, own5, hb5⟩
  have c5' := Lib.hid (c4.out.trans (hb5.mono c4.out.size))
  have BR5 := Lib.hid (BR4.out.next hb5)
  have O5 := Lib.hid (own5.mono c4.out.size)
  clear c4 BR4 BX4 O4 own5 hb5
  generalize trimL C = J at *
  rcases hok : (gOk J).isSome with _ | _
  · have Hok := Lib.hid hok
    have HF := Lib.hid (show limF J = [] by unfold limF; rw [hok]; rfl)
    have HCc := Lib.hid (show limC J = 3 by unfold limC; rw [hok]; rfl)
    clear hok
    go_wp2_with fail
    refine (l02Told_no A5 J.length c5 J w5 (by omega) (Rd.of_own (fun x _ => fac_len x) rfl O5.out) PW.out Hok.out).mono ?_
    rintro e w7 ⟨rfl, hb7⟩
    have B7 := BR5.out.next hb7
    have b7 := c5'.out.trans (hb7.mono c5'.out.size)
    have r7 := B7.cell 0
    have f7 := B7.frozen
    have l7 := B7.lt
    have x8 : (w7.setCell ⟨w.heap.size + 1, 0, none⟩ (.slice none 0 0)).cell? ⟨w.heap.size + 1, 0, none⟩ = some (.slice none 0 0) := by rw [(B7.set_ 0 (.slice none 0 0)).cell 0]; rfl
    have b8 := b7.setCell (p := ⟨w.heap.size + 1, 0, none⟩) (by simp) (.slice none 0 0)
    clear B7
    go_wp2_with fail
    exact bodyPost_ret (v := .tuple #[.agg #[.slice none 0 0], .int .i64 3]) (by simp [results, Try.results14, go_sem, x8]) rfl ⟨none, 0, by rw [HF.out, HCc.out]; rfl, by rw [HF.out]; exact World.ownsRow_nil _ _ _ _, b8⟩
  · have Hok := Lib.hid hok
    have HF := Lib.hid (show limF J = J by unfold limF; rw [hok]; rfl)
    have HCc := Lib.hid (show limC J = 0 by unfold limC; rw [hok]; rfl)
    clear hok
    go_wp2_with fail
    refine (l02Told_yes A5 J.length c5 J w5 (by omega) (Rd.of_own (fun x _ => fac_len x) rfl O5.out) PW.out Hok.out).mono ?_
    rintro e w7 ⟨rfl, hb7⟩
    have B7 := Lib.hid (BR5.out.next hb7)
    have b7 := c5'.out.trans (hb7.mono c5'.out.size)
    have O7 := Lib.hid (own_next O5.out hb7)
    have r7 := B7.out.cell 0
    have f7 := B7.out.frozen
    have l7 := B7.out.lt
    have x8 : (w7.setCell ⟨w.heap.size + 1, 0, none⟩ (.slice A5 J.length c5)).cell? ⟨w.heap.size + 1, 0, none⟩ = some (.slice A5 J.length c5) := by rw [(B7.out.set_ 0 (.slice A5 J.length c5)).cell 0]; rfl
    have b8 := b7.setCell (p := ⟨w.heap.size + 1, 0, none⟩) (by simp) (.slice A5 J.length c5)
    have O8 := Lib.hid (own_kept' (i := 0) O7.out B7.out (by decide) (.slice A5 J.length c5))
    go_wp2_with fail
    exact bodyPost_ret (v := .tuple #[.agg #[.slice A5 J.length c5], .int .i64 0]) (by simp [results, Try.results14, go_sem, x8]) rfl ⟨A5, c5, by rw [HF.out, HCc.out], by rw [HF.out]; exact O8.out, b8⟩
set_option maxHeartbeats 1000000 in
set_option maxRecDepth 100000 in
theorem p6Weights_any (D : Option Addr) (m d : Nat) (bs : List UInt8) (w : World) (hm : m ≤ 4096) (hd : Rd w w.heap.size D m 1 byteE bs) :
    Calls Try.prog 24 #[.slice D m d] w (fun e w' => ∃ (A : Option Addr) (c : Nat) (zs : List Int), e = .returned (.slice A 4 c) ∧ zs.length = 4 ∧ (∀ z ∈ zs, (-3 : Int) ≤ z ∧ z ≤ 3) ∧ w'.ownsRow w.heap.size 2 1 (.slice A 4 c) 4 (zs.flatMap intE) ∧ Below w.heap.size w w') := by
  go_enter Try.func24, Try.ntmps24
  go_wp2_with fail
  refine (l00From_any D m d bs w hm hd).mono ?_
  rintro e w1 ⟨g, rfl, hg, s1, hb1⟩
  have hg1 := s1.lt
  have O1 := Lib.hid (World.ownsRow_made (base := w1.heap.size) (e := 2) (size := 1) w1 #[] 0 (Nat.le_refl _) (by unfold maxLen; omega) rfl)
  have S1 := Lib.hid (s1.next ((Below.refl _ _).alloc (Nat.le_refl _) (.cells #[] 2)))
  have b1 := Lib.hid (hb1.alloc hb1.size (.cells #[] 2))
  have hz1 := hb1.size
  clear s1
  go_wp2_with fail
  go_loopw [4, 5] (fun o_ k_ w' => ∃ (k : Nat) (A : Option Addr) (c : Nat) (zs : List Int), k_ = .int .i64 k ∧ o_ = .slice A k c ∧ k ≤ 4 ∧ Hid (zs.length = k) ∧ Hid (∀ z ∈ zs, (-3 : Int) ≤ z ∧ z ≤ 3) ∧
      Hid (w'.ownsRow w1.heap.size 2 1 (.slice A k c) k (zs.flatMap intE)) ∧ Hid (Src w' g (2 * k)) ∧ Hid (Below w.heap.size w w') ∧ Hid (w1.heap.size ≤ w'.heap.size)) (fun _ k_ _ => 4 - (intOf k_).toNat)
  case atStart => exact ⟨0, _, 0, [], rfl, rfl, by omega, Lib.hid rfl, Lib.hid (by simp), Lib.hid (by simpa using O1.out), S1, b1, Lib.hid (by simp)⟩
  case round =>
    obtain ⟨k, A, c, zs, rfl, rfl, hk, hzl, hz3, O, S, b, hsz⟩ := hrel
    clear O1 S1 b1
    by_cases hlt : k < 4
    · have k1 : (k : Int) < 4 := by omega
      go_wp2_with fail
      refine (pick_any g (2 * k) 7 7 wr S.out (by omega) (by omega) (by omega)).mono ?_
      rintro e w3 ⟨v, rfl, v0, v1, s3, g3⟩
      have O3 := Lib.hid (own_kept O.out g3 (by omega))
      have S3 := Lib.hid (s3.next ((Below.refl _ _).alloc (Nat.le_refl _) (.cells #[.int .i64 (v - 3)] 2)))
      have b3 := Lib.hid (b.out.grown g3 b.out.size (fun k e => by injection e with e; omega))
      have hs3 := g3.size
      have hsz' := hsz.out
      have uv : IntKind.i64.wrap (v - 3) = v - 3 := IntWalk.i64_in _ (by omega)
      clear s3 g3
      go_wp2_with
        (at_builtin
         refine wpList_pushG rfl _ _ _ rfl w1.heap.size 2 1 8 elem_int intE A k c zs rfl (O3.out.alloc _) w3.heap.size (v - 3) #[.int .i64 (v - 3)] 2 (0, 0) rfl (heap_alloc_new _ _) rfl rfl (by simp [intE, Value.oneCell']) (by omega) (by omega) (by unfold maxLen; omega) (by simp; omega) ?_
         intro A9 c9 w9 own9 hg9 hat9
         have O9 := Lib.hid own9
         have S9 := Lib.hid (S3.out.grown hg9 (fun q hq => by have := own_ge O3.out q hq; omega))
         have b9 := Lib.hid ((b3.out.alloc b3.out.size (.cells #[.int .i64 (v - 3)] 2)).grown hg9 (by have := b3.out.size; simp; omega) (fun q hq => by have := own_ge O3.out q hq; omega))
         have h9 := hg9.size
         clear own9 hg9 hat9)
      go_roundw
      case rel => exact ⟨k + 1, A9, c9, zs ++ [v - 3], by go_num, rfl, by omega, Lib.hid (by rw [List.length_append, hzl.out]; rfl), Lib.hid (fun z hz => by
        rcases List.mem_append.1 hz with hz | hz
        · exact hz3.out z hz
        · rw [List.mem_singleton.1 hz]; omega), O9, Lib.hid (S9.out.mono (by omega)), b9, Lib.hid (by simp at h9; omega)⟩
      case measure => simp [intOf]; omega
    · obtain rfl : k = 4 := by omega
      go_wp2_with fail
      go_ret
      exact ⟨A, c, zs, rfl, hzl.out, hz3.out, O.out.mono hz1, b.out⟩
end Go.Proofs.Ytgdbpkpaacbhhaa


/-
  How often letters occur, and the length of a word: on both sides.
-/
namespace Go.Proofs.Ytgdbpkpaacbhhaa
open Go.RowKit

def ct4 (u : List Nat) : List Int := (List.range 4).map fun l => cn l u
theorem ct4_len (u : List Nat) : (ct4 u).length = 4 := rfl
theorem ct4_at (u : List Nat) {l : Nat} (h : l < 4) : (ct4 u).getD l 0 = cn l u := by
  unfold ct4
  rw [List.getD_eq_getElem?_getD, List.getElem?_map, List.getElem?_range h]; rfl
theorem lcL_len (rs : List Fac) (i : Nat) : (lcL rs i).length = 4 := rfl
theorem lcL_at (rs : List Fac) (i : Nat) {l : Nat} (h : l < 4) : (lcL rs i).getD l 0 = sumTo (fun j => (usesOf rs).getD j 0 * lcD rs l j) i := by
  unfold lcL
  rw [List.getD_eq_getElem?_getD, List.getElem?_map, List.getElem?_range h]; rfl
theorem lcL_pair {rs : List Fac} {i : Nat} {x : Fac} (hx : rs[i]? = some x) (h0 : x.l.size = 0) : lcL rs (i + 1) = lcL rs i := by
  unfold lcL
  refine List.map_congr_left fun l _ => ?_
  show sumTo _ i + (usesOf rs).getD i 0 * lcD rs l i = _
  unfold lcD
  rw [fac_getD hx, if_pos h0]; simp
theorem lcL_let {rs : List Fac} {i l : Nat} {x : Fac} (hx : rs[i]? = some x) (h0 : x.l.size ≠ 0) (hl : letN x.l = l) (h4 : l < 4) : lcL rs (i + 1) = (lcL rs i).set l ((lcL rs i).getD l 0 + (usesOf rs).getD i 0) := by
  apply List.ext_getElem?
  intro j
  have e : ∀ j, sumTo (fun k => (usesOf rs).getD k 0 * lcD rs j k) (i + 1) = sumTo (fun k => (usesOf rs).getD k 0 * lcD rs j k) i + if j = l then (usesOf rs).getD i 0 else 0 := fun j => by
    show sumTo _ i + (usesOf rs).getD i 0 * lcD rs j i = _
    unfold lcD
    rw [fac_getD hx, if_neg h0, hl]
    by_cases h : j = l
    · rw [if_pos h.symm, if_pos h]; simp
    · rw [if_neg (fun e => h e.symm), if_neg h]; simp
  rw [List.getElem?_set, lcL_at rs i h4]
  by_cases hj : l = j
  · subst hj
    rw [if_pos rfl, if_pos (by rw [lcL_len]; exact h4)]
    unfold lcL
    rw [List.getElem?_map, List.getElem?_range h4]
    simp only [Option.map_some]
    rw [e, if_pos rfl]
  · rw [if_neg hj]
    unfold lcL
    rw [List.getElem?_map, List.getElem?_map]
    by_cases h4j : j < 4
    · rw [List.getElem?_range h4j]
      simp only [Option.map_some]
      rw [e, if_neg (fun q => hj q.symm)]; simp
    · rw [List.getElem?_eq_none (by simp; omega)]; rfl
theorem lc_b {rs : List Fac} {ls : List Int} (hls : gLens rs [] = some ls) (hll : ls.length = rs.length) (h0 : 0 < rs.length) {l : Nat} (h4 : l < 4) : ∀ i, i ≤ rs.length → 0 ≤ (lcL rs i).getD l 0 ∧ (lcL rs i).getD l 0 ≤ 1000000000000000 := by
  intro i hi
  have U := uses_inv hls hll h0
  have nn : ∀ j, 0 ≤ (usesOf rs).getD j 0 * lcD rs l j := fun j => Int.mul_nonneg (U.nn j) (by unfold lcD; split <;> (try split) <;> omega)
  have mono : ∀ d i, sumTo (fun j => (usesOf rs).getD j 0 * lcD rs l j) i ≤ sumTo (fun j => (usesOf rs).getD j 0 * lcD rs l j) (i + d) := by
    intro d
    induction d with
    | zero => intro i; exact Int.le_refl _
    | succ d ih =>
      intro i
      have h1 := ih i
      have h2 : sumTo (fun j => (usesOf rs).getD j 0 * lcD rs l j) (i + (d + 1)) = sumTo (fun j => (usesOf rs).getD j 0 * lcD rs l j) (i + d) + (usesOf rs).getD (i + d) 0 * lcD rs l (i + d) := rfl
      have := nn (i + d)
      omega
  have a0 := mono i 0
  have a1 := mono (rs.length - i) i
  rw [show i + (rs.length - i) = rs.length by omega] at a1
  rw [Nat.zero_add] at a0
  have e0 : sumTo (fun j => (usesOf rs).getD j 0 * lcD rs l j) 0 = 0 := rfl
  have e1 := lcL_at rs rs.length h4
  rw [lcL_all (wf_of hls)] at e1
  have e2 : ((List.range 4).map fun l => cn l (wdN rs)).getD l 0 = cn l (wdN rs) := ct4_at (wdN rs) h4
  rw [e2] at e1
  have := cn_le l (wdN rs)
  have := lens_last_le hls h0 hll
  have := last_word hls
  rw [lcL_at rs i h4]
  omega
/-- four numbers and the code 0 -/
def Ret4 (w : World) (xs : List Int) (e : Ending) (w' : World) : Prop := ∃ b, e = .returned (.tuple #[.slice (some ⟨b, 0, none⟩) 4 4, .int .i64 0]) ∧ w.heap.size ≤ b ∧ Blk w' b 2 (intA xs) ∧ Below w.heap.size w w'
/-- letters being counted -/
structure LcW (w W : World) (A : Option Addr) (n c b5 : Nat) (A2 : Option Addr) (c2 : Nat) (us xs : List Int) : Prop where
  g : Blk W w.heap.size 26 #[.slice A n c]
  u : W.ownsRow w.heap.size 2 1 (.slice A2 n c2) n (us.flatMap intE)
  x : Blk W b5 2 (intA xs)
  e : Below w.heap.size w W
  hu : ∀ k, (Value.slice A2 n c2).ownBlock = some k → k < b5
  h5 : w.heap.size < b5
theorem LcW.next {w W W' : World} {A A2 : Option Addr} {n c b5 c2 : Nat} {us xs : List Int} (h : LcW w W A n c b5 A2 c2 us xs) (hb : Below W.heap.size W W') : LcW w W' A n c b5 A2 c2 us xs := ⟨h.g.next hb, own_next h.u hb, h.x.next hb, h.e.trans (hb.mono h.e.size), h.hu, h.h5⟩
theorem LcW.put {w W : World} {A A2 : Option Addr} {n c b5 c2 : Nat} {us xs : List Int} (h : LcW w W A n c b5 A2 c2 us xs) (l : Nat) (v : Int) : LcW w (W.setCell ⟨b5, l, none⟩ (.int .i64 v)) A n c b5 A2 c2 us (xs.set l v) := by
  have hg := gb_set W b5 l (.int .i64 v)
  have h5 := h.h5
  have hx := h.x.set_ l (.int .i64 v)
  rw [intA_set] at hx
  refine ⟨h.g.grown hg (by intro e; injection e with e; omega), h.u.kept hg ?_, hx, h.e.setCell (by show w.heap.size ≤ b5; omega) _, h.hu, h5⟩
  cases hv : (Value.slice A2 n c2).ownBlock with
  | none => exact .inl rfl
  | some q => exact .inr fun e => by have := h.hu q hv; injection e with e; omega
theorem lengthOf_any (A : Option Addr) (n c : Nat) (rs : List Fac) (w : World) (hr : Rd w w.heap.size A n 3 Fac.cells rs) (hg : (gOk rs).isSome = true) :
    Calls Try.prog 41 #[.agg #[.slice A n c]] w (Ret (.tuple #[.int .i64 ((wdN rs).length : Int), .int .i64 0]) w) := by
  obtain ⟨ls, hls, hlen, hll⟩ := big_lens hg
  have hl := hr.len
  have hn : n ≤ 400 := by omega
  have HR := Lib.hid hr
  have HG := Lib.hid hg
  have HLS := Lib.hid hls
  have HO := Lib.hid (wf_sz (wf_of hls))
  have hlast := last_word hls
  generalize hv : lastI ls = v at *
  have HV := Lib.hid hv
  rw [← hlast]
  clear hr hg hls hlen hll hl hlast hv
  go_enter Try.func41, Try.ntmps41
  go_wp2_with fail
  refine namedC fun w1 H1 => ?_
  have hb1 : Below w.heap.size w w1 := by rw [H1.out]; (repeat first | exact Below.refl _ _ | assumption | refine Below.drew ?_ | refine Below.alloc ?_ (by first | exact Nat.le_refl _ | (simp; done) | omega | (simp; omega)) _ | refine Below.setCell ?_ (by first | exact Nat.le_refl _ | (simp; done) | omega | (simp; omega)) _)
  have BG := Lib.hid (show Blk w1 w.heap.size 26 #[.slice A n c] by rw [H1.out]; exact Blk.new _ _ _)
  clear H1
  refine (l02Ok_any w.heap.size A n c rs w1 BG.out.lt (BG.out.cell 0) (by omega) (HR.out.next hb1) HO.out true HG.out).mono ?_
  rintro e w3 ⟨rfl, hb3⟩
  have b3 := Lib.hid (hb1.trans (hb3.mono hb1.size))
  have BG3 := Lib.hid (BG.out.next hb3)
  clear BG hb1 hb3
  go_wp2_with fail
  refine (l02Length_any w.heap.size A n c rs w3 BG3.out.lt (BG3.out.cell 0) (by omega) (HR.out.next b3.out) HO.out ls HLS.out).mono ?_
  rintro e w4 ⟨rfl, hb4⟩
  rw [HV.out]
  go_wp2_with fail
  go_ret2
  exact ⟨rfl, b3.out.trans (hb4.mono b3.out.size)⟩
theorem f6length_any (A : Option Addr) (n c : Nat) (rs : List Fac) (w : World) (hr : Rd w w.heap.size A n 3 Fac.cells rs) (hg : (gOk rs).isSome = true) :
    Calls Try.prog 13 #[.agg #[.slice A n c]] w (Ret (.int .i64 ((wdN rs).length : Int)) w) := by
  have HR := Lib.hid hr; clear hr
  have HG := Lib.hid hg; clear hg
  generalize hv : ((wdN rs).length : Int) = v at *
  have HV := Lib.hid hv; clear hv
  go_enter Try.func13, Try.ntmps13
  go_wp2_with fail
  refine (lengthOf_any A n c rs _ (HR.out.next ((Below.refl _ _).alloc (Nat.le_refl _) _)) HG.out).mono ?_
  rintro e w1 ⟨rfl, hb1⟩
  rw [HV.out]
  go_wp2_with fail
  go_ret
  exact ⟨rfl, ((Below.refl _ _).alloc (Nat.le_refl _) _).trans (hb1.mono (by simp))⟩
end Go.Proofs.Ytgdbpkpaacbhhaa


/-
  The letters of a grammar's word, in the reference.
-/
namespace Go.Proofs.Ytgdbpkpaacbhhaa
open Go.RowKit

def lt8 (u : List Nat) (i : Nat) : Value := .int .u8 ((97 + u.getD i 0 : Nat) : Int)
theorem wds_get_pair {rs : List Fac} (hwf : WF rs) {k : Nat} {r : Fac} (h : rs[k]? = some r) (h0 : r.l.size = 0) : (wds rs).getD k [] = (wds rs).getD r.a.toNat [] ++ (wds rs).getD r.b.toNat [] := full_pair [] wdF wdG hwf h h0
theorem wds_get_let {rs : List Fac} {k : Nat} {r : Fac} (h : rs[k]? = some r) {c : UInt8} (hl : r.l = ⟨#[c]⟩) : (wds rs).getD k [] = [c.toNat - 97] := by
  have := full_let [] wdF wdG h (by rw [hl]; show (1 : Nat) ≠ 0; omega)
  rw [hl] at this
  exact this
set_option maxHeartbeats 2000000 in
set_option maxRecDepth 100000 in
theorem l02Letter_any (gb : Nat) (A : Option Addr) (n c : Nat) (rs : List Fac) (B : Option Addr) (m d : Nat) (ls : List Int) (i : Nat) (w : World) (hg : gb < w.heap.size) (hc : w.cell? ⟨gb, 0, none⟩ = some (.slice A n c)) (hn4 : n ≤ 400)
    (hr : Rd w w.heap.size A n 3 Fac.cells rs) (hl : Rd w w.heap.size B m 1 intE ls) (hls : gLens rs [] = some ls) (hi : i < (wdN rs).length) (hi4 : i ≤ 1000000000000000) :
    Calls Try.prog 57 #[.pointer (some ⟨gb, 0, none⟩), .slice B m d, .int .i64 i] w (Ret (lt8 (wdN rs) i) w) := by
  have hwf := Lib.hid (wf_of hls)
  have HN := Lib.hid hr.len
  have hne : rs ≠ [] := by intro e; rw [e] at hi; simp [wdN] at hi
  have hn0 : 0 < n := by rw [← HN.out]; exact List.length_pos_iff.2 hne
  have hml := gLens_len rs [] ls hls
  simp only [List.length_nil, Nat.zero_add] at hml
  have HM := Lib.hid (show m = n by rw [← hl.len, hml, HN.out])
  have HI := Lib.hid hi
  have HS := Lib.hid (show ((wds rs).getD (n - 1) [])[i]? = (wdN rs)[i]? by unfold wdN; rw [if_neg hne, HN.out])
  have HL := Lib.hid hl
  have HR := Lib.hid hr
  have HLs := Lib.hid hls
  obtain ⟨q, hq⟩ : ∃ q, n - 1 = q := ⟨_, rfl⟩
  have hqn : q < n := by omega
  have um : IntKind.i64.wrap ((n : Int) - 1) = (q : Int) := by rw [IntWalk.i64_in _ (by omega)]; omega
  rw [hq] at HS
  clear hr hl hls hi hml hq
  go_enter Try.func57, Try.ntmps57
  go_wp2_with fail
  clear um
  go_loop [2, 7] (fun i_ at_ => ∃ (a j : Nat), at_ = .int .i64 a ∧ i_ = .int .i64 j ∧ a < n ∧ j ≤ i ∧ Hid (((wds rs).getD a [])[j]? = (wdN rs)[i]?)) (fun _ at_ => (intOf at_).toNat)
  case atStart => exact ⟨q, i, rfl, rfl, hqn, Nat.le_refl _, HS⟩
  case round =>
    obtain ⟨a, j, rfl, rfl, ha, hj, H⟩ := hrel
    clear HS
    obtain ⟨b, o, x, rfl, hB, gx, c0, c1, c2⟩ := HR.out.fac ha
    have Gx := Lib.hid gx
    have i0 : (0 : Int) ≤ (a : Int) := by omega
    have i1 : (a : Int) < (n : Int) := by omega
    have hjl : j < ((wds rs).getD a []).length := by
      have h1 := H.out
      rw [List.getElem?_eq_getElem HI.out] at h1
      exact (List.getElem?_eq_some_iff.1 h1).1
    have HJ := Lib.hid hjl
    clear gx hjl
    rcases hwf.out a x Gx.out with ⟨h0, ha0, ha1, hb0, hb1⟩ | ⟨cc, hcc, hxl, hxa, hxb⟩
    · have e0 := size0 h0
      obtain ⟨l, hle⟩ : ∃ l : Nat, x.a = l := ⟨x.a.toNat, by omega⟩
      obtain ⟨r, hre⟩ : ∃ r : Nat, x.b = r := ⟨x.b.toNat, by omega⟩
      have hw := wds_get_pair hwf.out Gx.out h0
      rw [hle, hre, Int.toNat_natCast, Int.toNat_natCast] at hw
      have HW := Lib.hid hw
      rw [hle] at c1 ha1
      rw [hre] at c2 hb1
      obtain ⟨b', o', y, rfl, hB', gy, d0⟩ := (show Rd w w.heap.size B m 1 (fun s => [.int .i64 s]) ls from HL.out).int (show l < m by rw [HM.out]; omega)
      have hy : y = (((wds rs).getD l []).length : Int) := by
        have := lens_word HLs.out (k := l) (by have := HN.out; omega)
        rw [List.getD_eq_getElem?_getD, gy] at this
        exact this
      have Hy := Lib.hid hy
      obtain ⟨L, hL⟩ : ∃ L, ((wds rs).getD l []).length = L := ⟨_, rfl⟩
      rw [hL] at hy
      have HLl := Lib.hid hL
      subst hy
      have l0 : (0 : Int) ≤ (l : Int) := by omega
      have l1 : (l : Int) < (m : Int) := by have := HM.out; omega
      clear hw hle hre ha0 hb0 gy hL h0
      by_cases hjL : j < L
      · have c3 : (j : Int) < (L : Int) := by omega
        go_wp2_with fail
        go_round
        case rel => exact ⟨l, j, rfl, rfl, by omega, hj, Lib.hid (by rw [← H.out, HW.out, List.getElem?_append_left (by rw [HLl.out]; exact hjL)])⟩
        case measure => simp [intOf]; omega
      · have c3 : ¬ (j : Int) < (L : Int) := by omega
        have um : IntKind.i64.wrap ((j : Int) - (L : Int)) = ((j - L : Nat) : Int) := by rw [IntWalk.i64_in _ (by omega)]; omega
        go_wp2_with fail
        go_round
        case rel => exact ⟨r, j - L, rfl, by go_num, by omega, by omega, Lib.hid (by rw [← H.out, HW.out, List.getElem?_append_right (by rw [HLl.out]; omega), HLl.out])⟩
        case measure => simp [intOf]; omega
    · have hw := wds_get_let Gx.out hxl
      have hj0 : j = 0 := by
        have := HJ.out
        rw [hw] at this
        simp at this; exact this
      have hlet := letB_num hcc
      have hv : (97 + (wdN rs).getD i 0 : Nat) = cc.toNat := by
        have h1 := H.out
        rw [hw, hj0] at h1
        rw [List.getD_eq_getElem?_getD, ← h1]
        simp; omega
      have HV := Lib.hid (show lt8 (wdN rs) i = .int .u8 (cc.toNat : Int) by unfold lt8; rw [hv])
      obtain ⟨xl, xa, xb⟩ := x
      simp only at hxl hxa hxb c0 c1 c2
      subst hxl hxa hxb
      have e1 := size1 (s := ⟨#[cc]⟩) (show (1 : Nat) ≠ 0 by omega)
      have e2 := size1' (s := ⟨#[cc]⟩) (show (1 : Nat) ≠ 0 by omega)
      clear hw hv hcc hlet
      go_wp2_with fail
      go_ret
      rw [HV.out]
      exact ⟨rfl, Below.refl _ _⟩
end Go.Proofs.Ytgdbpkpaacbhhaa


/-
  A grammar unpacked, in the reference.
-/
namespace Go.Proofs.Ytgdbpkpaacbhhaa
open Go.RowKit

/-- letters as bytes -/
theorem byteE_let (u : List Nat) (i : Nat) (h : ∀ x ∈ u, x < 4) : [lt8 u i] = byteE (UInt8.ofNat (97 + u.getD i 0)) := by
  have hb : u.getD i 0 < 4 := by
    rw [List.getD_eq_getElem?_getD]
    cases e : u[i]? with
    | none => simp
    | some x => exact h x (List.mem_of_getElem? e)
  have e : (UInt8.ofNat (97 + u.getD i 0)).toNat = 97 + u.getD i 0 := by rw [UInt8.toNat_ofNat']; omega
  unfold lt8 byteE
  rw [e]
theorem txB_snoc (u : List Nat) {i : Nat} (hi : i < u.length) : txB (u.take i) ++ [UInt8.ofNat (97 + u.getD i 0)] = txB (u.take (i + 1)) := by
  rw [List.take_succ_eq_append_getElem hi]
  unfold txB
  rw [List.map_append, List.getD_eq_getElem?_getD, List.getElem?_eq_getElem hi]; rfl
theorem txB_len (u : List Nat) : (txB u).length = u.length := by simp [txB]
/-- a text's letter -/
theorem tx_at (u : List Nat) (hu : ∀ x ∈ u, x < 4) (i : Nat) (hi : i < (tx u).size) : (tx u)[i].toNat = 97 + u.getD i 0 ∧ u.getD i 0 < 4 := by
  have hl : i < u.length := by rw [← tx_size]; exact hi
  have hb : u.getD i 0 < 4 := by
    rw [List.getD_eq_getElem?_getD, List.getElem?_eq_getElem hl]
    exact hu _ (List.getElem_mem hl)
  refine ⟨?_, hb⟩
  have h1 := at_byte (tx u) i hi
  rw [tx_toList, txB, List.getElem?_map, List.getElem?_eq_getElem hl] at h1
  injection h1 with h1
  rw [← h1, List.getD_eq_getElem?_getD, List.getElem?_eq_getElem hl, UInt8.toNat_ofNat']
  rw [List.getD_eq_getElem?_getD, List.getElem?_eq_getElem hl] at hb
  simp only [Option.getD_some] at hb ⊢
  omega
set_option maxHeartbeats 2000000 in
set_option maxRecDepth 100000 in
/-- the whole word -/
theorem l02Unpack_any (gb : Nat) (A : Option Addr) (n c : Nat) (rs : List Fac) (ls : List Int) (w : World) (hg : gb < w.heap.size) (hc : w.cell? ⟨gb, 0, none⟩ = some (.slice A n c)) (hr : Rd w w.heap.size A n 3 Fac.cells rs)
    (hok : ∀ f ∈ rs, f.l.size ≤ maxLen) (hls : gOk rs = some ls) (hlen : (wdN rs).length ≤ 1048576) :
    Calls Try.prog 37 #[.pointer (some ⟨gb, 0, none⟩), .int .i64 0, .int .i64 ((wdN rs).length : Nat)] w (Ret (.string (tx (wdN rs))) w) := by
  have HN := Lib.hid hr.len
  have hn4 : n ≤ 400 := by have := (gOk_lens hls).2.1; have := HN.out; omega
  have HL := Lib.hid (l02Lengths_any gb A n c rs w hg hc (by omega) hr hok)
  have HLT := Lib.hid (fun (B : Option Addr) (d : Nat) (i : Nat) (w' : World) (hb : Below w.heap.size w w') (h : Rd w' w'.heap.size B ls.length 1 intE ls) (hi : i < (wdN rs).length) =>
    l02Letter_any gb A n c rs B ls.length d ls i w' (by have := hb.size; omega) ((hb.cell (p := ⟨gb, 0, none⟩) hg).trans hc) hn4 (hr.next hb) h (gOk_lens hls).1 hi (by omega))
  have HW := Lib.hid (wdN_let (wf_of (gOk_lens hls).1))
  have HLs := Lib.hid hls
  clear hr hok hls hg hc
  generalize wdN rs = u at *
  obtain ⟨L, hL⟩ : ∃ L, u.length = L := ⟨_, rfl⟩
  have HU := Lib.hid hL
  rw [hL] at hlen ⊢
  clear hL
  go_enter Try.func37, Try.ntmps37
  go_wp2_with fail
  refine HL.out.mono ?_
  rintro e w1 ⟨hb1, ⟨ls', A', c', hgl, rfl, own1⟩ | ⟨hgl, _⟩⟩
  · obtain rfl : ls = ls' := by have := HLs.out.symm.trans hgl; injection this
    have O1 := Lib.hid (own1.alloc (.cells #[] 5))
    have W1 := Lib.hid (World.ownsRow_made (base := w.heap.size) (e := 5) (size := 1) w1 #[] 0 (by have := hb1.size; omega) (by unfold maxLen; omega) rfl)
    have B1 := Lib.hid (show Below w.heap.size w (w1.alloc (.cells #[] 5)) from hb1.alloc hb1.size _)
    clear hgl own1 hb1
    go_wp2_with fail
    go_loopw [9, 10] (fun o_ k_ w' => ∃ (k : Nat) (A2 : Option Addr) (c2 : Nat), k_ = .int .i64 k ∧ o_ = .slice A2 k c2 ∧ k ≤ L ∧ Hid (w'.ownsRow w.heap.size 5 1 (.slice A2 k c2) k ((txB (u.take k)).flatMap byteE)) ∧
        Hid (w'.ownsRow w.heap.size 2 1 (.slice A' ls.length c') ls.length (ls.flatMap intE)) ∧ Hid (Below w.heap.size w w')) (fun _ k_ _ => L - (intOf k_).toNat)
    case atStart => exact ⟨0, _, 0, rfl, rfl, by omega, Lib.hid (by simpa [txB] using W1.out), O1, B1⟩
    case round =>
      obtain ⟨k, A2, c2, rfl, rfl, hk, hown, hlr, hbb⟩ := hrel
      clear W1 O1 B1
      by_cases hlt : k < L
      · have hku : k < u.length := by rw [HU.out]; exact hlt
        have hlet := Lib.hid (show [.int .u8 (((97 + u.getD k 0 : Nat)) : Int)] = byteE (UInt8.ofNat (97 + u.getD k 0)) from byteE_let u k HW.out)
        have hsn := Lib.hid (txB_snoc u hku)
        have hkl := Lib.hid (show (txB (u.take k)).length = k by rw [txB_len, List.length_take]; omega)
        have RL := Lib.hid (Rd.of_own (enc := intE) (fun _ _ => rfl) rfl hlr.out)
        have C := Lib.hid (show Calls _ _ _ _ (Ret (.int .u8 (((97 + u.getD k 0 : Nat)) : Int)) wr) from HLT.out A' c' k wr hbb.out RL.out hku)
        generalize hz : 97 + u.getD k 0 = z at *
        clear hz
        generalize UInt8.ofNat z = b8 at *
        have i1 : (k : Int) < (L : Int) := by omega
        clear hku
        go_wp2_with fail
        refine C.out.mono ?_
        rintro e w3 ⟨rfl, hb3⟩
        have O3 := Lib.hid ((own_next hown.out hb3).alloc (.cells #[.int .u8 (z : Int)] 5))
        have L3 := Lib.hid ((own_next hlr.out hb3).alloc (.cells #[.int .u8 (z : Int)] 5))
        have B3 := Lib.hid (hbb.out.trans (hb3.mono hbb.out.size))
        have B3' := Lib.hid (show Below w.heap.size w (w3.alloc (.cells #[.int .u8 (z : Int)] 5)) from B3.out.alloc B3.out.size _)
        clear hb3
        go_wp2_with
          (at_builtin
           refine wpList_push (w0 := w) rfl _ _ _ rfl w.heap.size 5 1 1 elem_byte byteE A2 k c2 (txB (u.take k)) rfl O3.out w3.heap.size b8 #[.int .u8 (z : Int)] 5 (0, 0) rfl (heap_alloc_new _ _) hlet.out rfl (by simp [byteE, Value.oneCell']) (by omega) (by omega) (by unfold maxLen; omega) rfl B3'.out ?_
           intro A9 c9 w9 own9 hg9 hat9 hb9
           have O9 := Lib.hid own9
           have L9 := Lib.hid (L3.out.kept hg9 (own_ne L3.out O3.out (by decide)))
           have B9 := Lib.hid hb9
           clear own9 hg9 hat9 hb9)
        go_roundw
        case rel => exact ⟨k + 1, A9, c9, by go_num, rfl, by omega, Lib.hid (by rw [← hsn.out]; exact O9.out), L9, B9⟩
        case measure => simp [intOf]; omega
      · obtain rfl : k = L := by omega
        have ht : u.take k = u := List.take_of_length_le (by rw [HU.out]; omega)
        have ho := hown.out
        rw [ht] at ho
        have hcv := conv_own ho (by rw [txB_len, HU.out])
        have HT := Lib.hid (show tx u = ⟨(txB u).toArray⟩ from rfl)
        clear ho ht
        go_wp2_with fail
        go_ret
        rw [HT.out]
        exact ⟨rfl, hbb.out⟩
  · rw [HLs.out] at hgl; cases hgl
section
variable (A : Option Addr) (n c : Nat) (rs : List Fac) (ls : List Int) (w : World) (hr : Rd w w.heap.size A n 3 Fac.cells rs) (hok : ∀ f ∈ rs, f.l.size ≤ maxLen) (hls : gOk rs = some ls)
include hr hok hls
set_option maxHeartbeats 1000000 in
/-- a short word -/
theorem unpackWord_any (hlen : (wdN rs).length ≤ 2000) : Calls Try.prog 10 #[.agg #[.slice A n c]] w (Ret (.tuple #[.string (tx (wdN rs)), .int .i64 0]) w) := by
  have HN := Lib.hid hr.len
  have hn4 : n ≤ 400 := by have := (gOk_lens hls).2.1; have := HN.out; omega
  have hb0 : Below w.heap.size w (w.alloc (.cells #[.slice A n c] 26)) := by (repeat first | exact Below.refl _ _ | assumption | refine Below.drew ?_ | refine Below.alloc ?_ (by first | exact Nat.le_refl _ | (simp; done) | omega | (simp; omega)) _ | refine Below.setCell ?_ (by first | exact Nat.le_refl _ | (simp; done) | omega | (simp; omega)) _)
  have B0 := Lib.hid (Blk.new w 26 #[.slice A n c])
  have hlw := Lib.hid (last_word (gOk_lens hls).1)
  have OK := Lib.hid (fun W (hb : Below w.heap.size w W) (hB : Blk W w.heap.size 26 #[.slice A n c]) => l02Ok_any w.heap.size A n c rs W hB.lt (hB.cell 0) (by omega) (hr.next hb) hok true (by rw [hls]; rfl))
  have LE := Lib.hid (fun W (hb : Below w.heap.size w W) (hB : Blk W w.heap.size 26 #[.slice A n c]) => l02Length_any w.heap.size A n c rs W hB.lt (hB.cell 0) (by omega) (hr.next hb) hok ls (gOk_lens hls).1)
  have UN := Lib.hid (fun W (hb : Below w.heap.size w W) (hB : Blk W w.heap.size 26 #[.slice A n c]) => l02Unpack_any w.heap.size A n c rs ls W hB.lt (hB.cell 0) (hr.next hb) hok hls (by omega))
  rw [hlw.out] at LE
  clear hr hok hls hlw
  generalize wdN rs = u at *
  generalize u.length = L at *
  go_enter Try.func10, Try.ntmps10
  go_wp2_with fail
  refine (OK.out _ hb0 B0.out).mono ?_
  rintro e w1 ⟨rfl, hb1⟩
  have b1 := Lib.hid (hb0.trans (hb1.mono (by simp)))
  have B1 := Lib.hid (B0.out.next hb1)
  go_wp2_with fail
  refine (LE.out _ b1.out B1.out).mono ?_
  rintro e w2 ⟨rfl, hb2⟩
  have b2 := Lib.hid (b1.out.trans (hb2.mono b1.out.size))
  have B2 := Lib.hid (B1.out.next hb2)
  have hL : ¬ (2000 : Int) < (L : Int) := by omega
  clear hb1 hb2 hb0
  go_wp2_with fail
  refine (UN.out _ b2.out B2.out).mono ?_
  rintro e w3 ⟨rfl, hb3⟩
  have b3 := Lib.hid (b2.out.trans (hb3.mono b2.out.size))
  clear hb3
  go_wp2_with fail
  go_ret2
  exact ⟨rfl, b3.out⟩
end
end Go.Proofs.Ytgdbpkpaacbhhaa


/-
  Prints in the program.
-/
namespace Go.Proofs.Ytgdbpkpaacbhhaa
open Go.RowKit

theorem mul_b9' {x y : Int} (x0 : 0 ≤ x) (x1 : x ≤ 1000000000) (y0 : 0 ≤ y) (y1 : y ≤ 1000000000) : 0 ≤ x * y ∧ x * y ≤ 1000000000000000000 := by
  refine ⟨Int.mul_nonneg x0 y0, ?_⟩
  have := Int.mul_le_mul x1 y1 y0 (by omega : (0 : Int) ≤ 1000000000)
  omega
abbrev Mk.v (x : Mk) : Value := .agg #[.int .i64 x.p, .int .i64 x.w]
/-- a mark within bounds -/
def MkB (m : Int) (x : Mk) : Prop := (0 ≤ x.p ∧ x.p < m) ∧ 0 ≤ x.w ∧ x.w < m
set_option maxHeartbeats 2000000 in
theorem behind_any (x y : Mk) (m : Int) (mb : Nat) (w : World) (hmb : Blk w mb 2 #[.int .i64 m]) (hm : 1 ≤ m) (hm2 : m ≤ 1000000000) (hx : MkB m x) (hy : MkB m y) :
    Calls Try.prog 49 #[x.v, y.v, .pointer (some ⟨mb, 0, none⟩)] w (Ret (mkG m x y default).v w) := by
  obtain ⟨xp, xw⟩ := x
  obtain ⟨yp, yw⟩ := y
  obtain ⟨⟨x0, x1⟩, x2, x3⟩ := hx
  obtain ⟨⟨y0, y1⟩, y2, y3⟩ := hy
  simp only at x0 x1 x2 x3 y0 y1 y2 y3
  have dm := hmb.cell 0
  have lm := hmb.lt
  have p1 := mul_b9' x2 (by omega) y0 (by omega)
  have p2 := mul_b9' x2 (by omega) y2 (by omega)
  obtain ⟨p10, p11⟩ := p1
  obtain ⟨p20, p21⟩ := p2
  have r1 := emod_in (a := xp + xw * yp) hm
  have r2 := emod_in (a := xw * yw) hm
  obtain ⟨r10, r11⟩ := r1
  obtain ⟨r20, r21⟩ := r2
  have u1 : IntKind.i64.wrap (xw * yp) = xw * yp := IntWalk.i64_in _ (by omega)
  have u2 : IntKind.i64.wrap (xw * yw) = xw * yw := IntWalk.i64_in _ (by clear u1; omega)
  have u3 : IntKind.i64.wrap (xp + xw * yp) = xp + xw * yp := IntWalk.i64_in _ (by clear u1 u2; omega)
  have u4 : IntKind.i64.wrap ((xp + xw * yp) % m) = (xp + xw * yp) % m := IntWalk.i64_in _ (by clear u1 u2 u3; omega)
  have u5 : IntKind.i64.wrap (xw * yw % m) = xw * yw % m := IntWalk.i64_in _ (by clear u1 u2 u3 u4; omega)
  have v1 : (xp + xw * yp).tmod m = (xp + xw * yp) % m := Int.tmod_eq_emod_of_nonneg (by omega)
  have v2 : (xw * yw).tmod m = xw * yw % m := Int.tmod_eq_emod_of_nonneg (by omega)
  have hm0 : ¬ m = 0 := by omega
  have HM := Lib.hid hmb; clear hmb
  go_enter Try.func49, Try.ntmps49
  go_wp2_with fail
  refine named fun w1 H1 => ?_
  have b1 : Below w.heap.size w w1 := by rw [H1.out]; (repeat first | exact Below.refl _ _ | assumption | refine Below.drew ?_ | refine Below.alloc ?_ (by first | exact Nat.le_refl _ | (simp; done) | omega | (simp; omega)) _ | refine Below.setCell ?_ (by first | exact Nat.le_refl _ | (simp; done) | omega | (simp; omega)) _)
  have X1 : Blk w1 w.heap.size 76 #[.int .i64 xp, .int .i64 xw] := by rw [H1.out]; simpa using ((Blk.new w _ _).alloc _).alloc _
  have Y1 : Blk w1 (w.heap.size + 1) 76 #[.int .i64 yp, .int .i64 yw] := by rw [H1.out]; simpa using (Blk.new (w.alloc _) _ _).alloc _
  have R1 : Blk w1 (w.heap.size + 1 + 1) 76 #[.int .i64 0, .int .i64 0] := by rw [H1.out]; simpa using Blk.new ((w.alloc _).alloc _) _ _
  have dm1 := (HM.out.next b1).cell 0
  have lm1 := (HM.out.next b1).lt
  have cx0 := X1.cell 0
  have cx1 := X1.cell 1
  have cy0 := Y1.cell 0
  have cy1 := Y1.cell 1
  have cr0 := R1.cell 0
  have cr1 := R1.cell 1
  have fr := R1.frozen
  have lx := X1.lt
  have ly := Y1.lt
  have lr := R1.lt
  have B1 := Lib.hid b1
  have RR := Lib.hid R1
  clear X1 Y1 R1 H1 b1 dm lm
  clear u1 u2 u3 u4 u5 v1 v2
  go_region
  generalize hW : World.drew _ = w3
  have H3 := Lib.hid hW.symm; clear hW
  have R3 : Blk w3 (w.heap.size + 1 + 1) 76 #[.int .i64 ((xp + xw * yp) % m), .int .i64 (xw * yw % m)] := by rw [H3.out]; refine Blk.drew ?_; simpa using (RR.out.set_ 0 _).set_ 1 _
  have c0 := R3.cell 0
  have c1 := R3.cell 1
  have l3 := R3.lt
  clear R3 cr0 cr1 fr
  go_wp2_with fail
  refine bodyPost_ret (v := (mkG m ⟨xp, xw⟩ ⟨yp, yw⟩ default).v) (by simp [results, Try.results49, go_sem, mkG, c0, c1]) rfl ⟨rfl, ?_⟩
  rw [H3.out]
  exact ((B1.out.setCell (by simp; omega) _).setCell (by simp; omega) _).drew
set_option maxHeartbeats 1000000 in
theorem prLet_any (l : Nat) (b m : Int) (mb bb : Nat) (w : World) (hl : l < 4) (hmb : Blk w mb 2 #[.int .i64 m]) (hbb : Blk w bb 2 #[.int .i64 b]) (hm : 1 ≤ m) (hm2 : m ≤ 1000000000) :
    Calls Try.prog 51 #[.int .i64 (l : Int), .pointer (some ⟨mb, 0, none⟩), .pointer (some ⟨bb, 0, none⟩)] w (Ret (mkF b m l).v w) := by
  have dm := hmb.cell 0
  have lm := hmb.lt
  have db := hbb.cell 0
  have lb := hbb.lt
  have r1 := emod_in (a := (l : Int) + 1) hm
  obtain ⟨r10, r11⟩ := r1
  have u4 : IntKind.i64.wrap (((l : Int) + 1) % m) = ((l : Int) + 1) % m := IntWalk.i64_in _ (by omega)
  have v1 : ((l : Int) + 1).tmod m = ((l : Int) + 1) % m := Int.tmod_eq_emod_of_nonneg (by omega)
  have hm0 : ¬ m = 0 := by omega
  have HM := Lib.hid hmb; clear hmb
  have HB := Lib.hid hbb; clear hbb
  go_enter Try.func51, Try.ntmps51
  go_wp2_with fail
  refine named fun w1 H1 => ?_
  have b1 : Below w.heap.size w w1 := by rw [H1.out]; (repeat first | exact Below.refl _ _ | assumption | refine Below.drew ?_ | refine Below.alloc ?_ (by first | exact Nat.le_refl _ | (simp; done) | omega | (simp; omega)) _ | refine Below.setCell ?_ (by first | exact Nat.le_refl _ | (simp; done) | omega | (simp; omega)) _)
  have R1 : Blk w1 w.heap.size 76 #[.int .i64 0, .int .i64 0] := by rw [H1.out]; exact Blk.new w _ _
  have dm1 := (HM.out.next b1).cell 0
  have lm1 := (HM.out.next b1).lt
  have db1 := (HB.out.next b1).cell 0
  have lb1 := (HB.out.next b1).lt
  have cr0 := R1.cell 0
  have cr1 := R1.cell 1
  have fr := R1.frozen
  have lr := R1.lt
  have B1 := Lib.hid b1
  have RR := Lib.hid R1
  clear R1 H1 b1 dm lm db lb
  go_region
  generalize hW : World.drew _ = w3
  have H3 := Lib.hid hW.symm; clear hW
  have R3 : Blk w3 w.heap.size 76 #[.int .i64 (((l : Int) + 1) % m), .int .i64 b] := by rw [H3.out]; refine Blk.drew ?_; simpa using (RR.out.set_ 0 _).set_ 1 _
  have c0 := R3.cell 0
  have c1 := R3.cell 1
  have l3 := R3.lt
  clear R3 cr0 cr1 fr u4 v1
  go_wp2_with fail
  refine bodyPost_ret (v := (mkF b m l).v) (by simp [results, Try.results51, go_sem, mkF, c0, c1]) rfl ⟨rfl, ?_⟩
  rw [H3.out]
  exact ((B1.out.setCell (by simp; try omega) _).setCell (by simp; try omega) _).drew
set_option maxHeartbeats 1000000 in
theorem prPair_any (x y : Mk) (r : Fac) (m : Int) (mb fb : Nat) (w : World) (hmb : Blk w mb 2 #[.int .i64 m]) (hfb : Blk w fb 77 #[.func (.func 49) #[] #[.pointer (some ⟨mb, 0, none⟩)]]) (hm : 1 ≤ m) (hm2 : m ≤ 1000000000) (hx : MkB m x) (hy : MkB m y) :
    Calls Try.prog 52 #[x.v, y.v, r.val, .pointer (some ⟨fb, 0, none⟩)] w (Ret (mkG m x y r).v w) := by
  have df := hfb.cell 0
  have lf := hfb.lt
  have df' : w.cell? ⟨fb, 0, none⟩ = some (.func (.func 49) #[] #[.pointer (some ⟨mb, 0, none⟩)]) := df
  have et := enterOk Try.func49 (by kernel_rfl) (by kernel_rfl)
  unfold EnterOk at et
  have HM := Lib.hid hmb; clear hmb
  have HF := Lib.hid hfb; clear hfb
  have HC := Lib.hid (fun (w' : World) (h : Below w.heap.size w w') => behind_any x y m mb w' (HM.out.next h) hm hm2 hx hy)
  obtain ⟨xp, xw⟩ := x
  obtain ⟨yp, yw⟩ := y
  unfold Fac.val
  have df4 : ∀ o1 o2 o3 o4 : Obj, ((((w.alloc o1).alloc o2).alloc o3).alloc o4).cell? ⟨fb, 0, none⟩ = some (.func (.func 49) #[] #[.pointer (some ⟨mb, 0, none⟩)]) := fun o1 o2 o3 o4 => ((((Below.refl w.heap.size w).alloc (Nat.le_refl _) o1).alloc (by simp) o2).alloc (by simp; omega) o3).alloc (by simp; omega) o4 |>.cell (p := ⟨fb, 0, none⟩) lf |>.trans df'
  clear df
  go_enter Try.func52, Try.ntmps52
  go_wp2_with fail
  refine namedC fun w1 H1 => ?_
  have b1 : Below w.heap.size w w1 := by rw [H1.out]; (repeat first | exact Below.refl _ _ | assumption | refine Below.drew ?_ | refine Below.alloc ?_ (by first | exact Nat.le_refl _ | (simp; done) | omega | (simp; omega)) _ | refine Below.setCell ?_ (by first | exact Nat.le_refl _ | (simp; done) | omega | (simp; omega)) _)
  have RR := Lib.hid (show Blk w1 (w.heap.size + 1 + 1 + 1) 76 #[.int .i64 0, .int .i64 0] by rw [H1.out]; simpa using Blk.new (((w.alloc _).alloc _).alloc _) _ _)
  clear H1 df4
  refine (HC.out w1 b1).mono ?_
  rintro e w2 ⟨rfl, hb2⟩
  have ez := Lib.hid (show mkG m ⟨xp, xw⟩ ⟨yp, yw⟩ r = mkG m ⟨xp, xw⟩ ⟨yp, yw⟩ default from rfl)
  generalize mkG m ⟨xp, xw⟩ ⟨yp, yw⟩ default = z at *
  obtain ⟨zp, zw⟩ := z
  have R2 := RR.out.next hb2
  have c0 := R2.cell 0
  have c1 := R2.cell 1
  have fr := R2.frozen
  have l2 := R2.lt
  have b2 := b1.trans (hb2.mono b1.size)
  clear R2
  go_wp2_with fail
  refine bodyPost_ret (v := (Mk.mk zp zw).v) (by simp [results, Try.results52, go_sem, c0, c1]) rfl ⟨by rw [ez.out], ?_⟩
  exact (b2.setCell (by simp; omega) _).setCell (by simp; omega) _
end Go.Proofs.Ytgdbpkpaacbhhaa


/-
  Prints in the program: the whole.
-/
namespace Go.Proofs.Ytgdbpkpaacbhhaa
open Go.RowKit

theorem Rd.mk {w : World} {B n : Nat} {A : Option Addr} {xs : List Mk} {k : Nat} (h : Rd w B A n 2 encMk xs) (hk : k < n) :
    ∃ b o, A = some ⟨b, o, none⟩ ∧ b < B ∧ w.cell? ⟨b, o + k * 2, none⟩ = some (.int .i64 (xs.getD k Mk.nil).p) ∧ w.cell? ⟨b, o + k * 2 + 1, none⟩ = some (.int .i64 (xs.getD k Mk.nil).w) := by
  obtain ⟨b, o, hA, hb, x, hx, hc⟩ := h.at_ hk
  refine ⟨b, o, hA, hb, ?_⟩
  rw [show xs.getD k Mk.nil = x by rw [List.getD_eq_getElem?_getD, hx]; rfl]
  exact ⟨hc 0 _ rfl, hc 1 _ rfl⟩
theorem gb_refl (w : World) (r : Option Nat) : w.grownBy w r := gb_below (Below.refl w.heap.size w)
theorem gb_two {w w1 : World} {ob : Nat} {R : Prop} (h : w.grownBy w1 (some ob) ∧ R) (x y : Value) : w.grownBy ((w1.setCell ⟨ob, 0, none⟩ x).setCell ⟨ob, 1, none⟩ y) (some ob) := gb_setCell (gb_setCell h.1 0 x) 1 y
theorem gb_drew {w w1 : World} {ob : Nat} (h : w.grownBy w1 (some ob)) : w.grownBy w1.drew (some ob) := gb_trans h (gb_below (Below.refl _ _).drew)
set_option maxHeartbeats 2000000 in
set_option maxRecDepth 100000 in
theorem printStep_any (k : Nat) (s : Mk) (m : Int) (mb fb ob lb B : Nat) (A3 : Option Addr) (n3 c3 : Nat) (xs : List Mk) (w : World) (hmb : Blk w mb 2 #[.int .i64 m]) (hfb : Blk w fb 77 #[.func (.func 49) #[] #[.pointer (some ⟨mb, 0, none⟩)]])
    (hob : Blk w ob 76 #[.int .i64 s.p, .int .i64 s.w]) (hlb : Blk w lb 78 #[.slice A3 n3 c3]) (hC : Rd w B A3 n3 2 encMk xs) (hB : B ≤ ob) (hk : k < n3) (hm : 1 ≤ m) (hm2 : m ≤ 1000000000) (hs : MkB m s) (hx : MkB m (xs.getD k Mk.nil)) :
    Calls Try.prog 54 #[.int .i64 (k : Int), .pointer (some ⟨fb, 0, none⟩), .pointer (some ⟨ob, 0, none⟩), .pointer (some ⟨lb, 0, none⟩)] w (fun e w' => e = .returned (.tuple #[]) ∧ w.grownBy w' (some ob) ∧
      Blk w' ob 76 #[.int .i64 (mkG m s (xs.getD k Mk.nil) default).p, .int .i64 (mkG m s (xs.getD k Mk.nil) default).w]) := by
  have n1 : mb ≠ ob := by rintro rfl; have := hmb.symm.trans hob; simp at this
  have n2 : fb ≠ ob := by rintro rfl; have := hfb.symm.trans hob; simp at this
  have n3' : lb ≠ ob := by rintro rfl; have := hlb.symm.trans hob; simp at this
  have hoB := hob.lt
  obtain ⟨p3, o3, rfl, hB3, e3, e4⟩ := (hC.mk (k := k) (by omega))
  have d0 := hob.cell 0
  have d0' := hob.cell 1
  have f0 := hob.frozen
  have df := hfb.cell 0
  have dl := hlb.cell 0
  have lf := hfb.lt
  have ll := hlb.lt
  have df' : w.cell? ⟨fb, 0, none⟩ = some (.func (.func 49) #[] #[.pointer (some ⟨mb, 0, none⟩)]) := df
  have dl' : w.cell? ⟨lb, 0, none⟩ = some (.slice (some ⟨p3, o3, none⟩) n3 c3) := dl
  have ne : ∀ g, g ≠ ob → some g ≠ some ob := fun g h e => h (by injection e)
  have KS := Lib.hid (fun (w' : World) (h : w.grownBy w' (some ob)) => show w.grownBy w' (some ob) ∧ w'.cell? ⟨fb, 0, none⟩ = some (.func (.func 49) #[] #[.pointer (some ⟨mb, 0, none⟩)]) ∧ w'.cell? ⟨lb, 0, none⟩ = some (.slice (some ⟨p3, o3, none⟩) n3 c3)
      ∧ w'.cell? ⟨p3, o3 + k * 2, none⟩ = some (.int .i64 (xs.getD k Mk.nil).p) ∧ w'.cell? ⟨p3, o3 + k * 2 + 1, none⟩ = some (.int .i64 (xs.getD k Mk.nil).w) from
    ⟨h, h.cell df' (ne _ n2), h.cell dl' (ne _ n3'), h.cell e3 (ne _ (by show p3 ≠ ob; omega)), h.cell e4 (ne _ (by show p3 ≠ ob; omega))⟩)
  have HC := Lib.hid (fun (w' : World) {R : Prop} (h : w.grownBy w' (some ob) ∧ R) => behind_any s (xs.getD k Mk.nil) m mb w' (hmb.grown h.1 (ne _ n1)) hm hm2 hs hx)
  have HO := Lib.hid (fun (w' : World) (h : w.grownBy w' (some ob) ∧ True) => h.1.size)
  have et := enterOk Try.func49 (by kernel_rfl) (by kernel_rfl)
  unfold EnterOk at et
  generalize xs.getD k Mk.nil = x at *
  obtain ⟨xp, xw⟩ := x
  obtain ⟨sp, sw⟩ := s
  generalize hz : mkG m ⟨sp, sw⟩ ⟨xp, xw⟩ default = z at *
  obtain ⟨zp, zw⟩ := z
  have HOb := Lib.hid hob
  have i2 : (0 : Int) ≤ (k : Int) := by omega
  have i3 : (k : Int) < n3 := by omega
  simp only at KS HC d0 d0'
  clear hob hlb hfb hmb hC df dl hs hx hz
  go_enter Try.func54, Try.ntmps54
  go_wp2_with fail
  go_region_with
    (first
      | (go_at_call 49
         refine (HC.out w.drew ⟨gb_drew (gb_refl _ _), trivial⟩).mono ?_
         rintro e wm ⟨rfl, hbm⟩
         have bk : w.grownBy wm (some ob) ∧ True := ⟨gb_trans (gb_drew (gb_refl _ _)) (gb_below hbm), trivial⟩
         have OB := (HOb.out.drew).next hbm
         have f1 := OB.frozen
         have c1 := OB.cell 0
         have c2 := OB.cell 1
         have l1 := OB.lt)
      | fail)
  all_goals
    have R3 := Lib.hid ((OB.set_ 0 (.int .i64 zp)).set_ 1 (.int .i64 zw))
    generalize hW : (wm.setCell ⟨ob, 0, none⟩ (.int .i64 zp)).setCell ⟨ob, 1, none⟩ (.int .i64 zw) = w8
    have H8 := Lib.hid hW.symm
    rw [hW] at R3
    clear hW
    go_wp2_with fail
    go_end0
    refine ⟨rfl, ?_, by simpa using R3.out⟩
    rw [H8.out]
    exact gb_two bk _ _
end Go.Proofs.Ytgdbpkpaacbhhaa


/-
  PrintOfPart and PrintOf in the program.
-/
namespace Go.Proofs.Ytgdbpkpaacbhhaa
open Go.RowKit

set_option maxHeartbeats 4000000 in
set_option maxRecDepth 100000 in
theorem implPrintP_any (A : Option Addr) (n c : Nat) (rs : List Fac) (i j b m : Int) (w : World) (hn : n ≤ 1048576) (hr : Rd w w.heap.size A n 3 Fac.cells rs)
    (hok : ∀ f ∈ rs, f.l.size ≤ maxLen) (_hi : -9223372036854775808 ≤ i ∧ i ≤ 9223372036854775807) (_hj : -9223372036854775808 ≤ j ∧ j ≤ 9223372036854775807) (_hb : -9223372036854775808 ≤ b ∧ b ≤ 9223372036854775807) (_hm : -9223372036854775808 ≤ m ∧ m ≤ 9223372036854775807) :
    Calls Try.prog 15 #[.agg #[.slice A n c], .int .i64 i, .int .i64 j, .int .i64 b, .int .i64 m] w (Ret (printpV rs i j b m) w) := by
  have hl := Lib.hid hr.len
  have HR := Lib.hid hr; clear hr
  have HO := Lib.hid hok; clear hok
  go_enter Try.func15, Try.ntmps15
  go_wp2_with fail
  refine namedC fun w0 H0 => ?_
  have b0 : Below w.heap.size w w0 := by rw [H0.out]; (repeat first | exact Below.refl _ _ | assumption | refine Below.drew ?_ | refine Below.alloc ?_ (by first | exact Nat.le_refl _ | (simp; done) | omega | (simp; omega)) _ | refine Below.setCell ?_ (by first | exact Nat.le_refl _ | (simp; done) | omega | (simp; omega)) _)
  have BG := Lib.hid (show Blk w0 w.heap.size 26 #[.slice A n c] by rw [H0.out]; simpa using ((Blk.new w _ _).alloc _).alloc _)
  have BB := Lib.hid (show Blk w0 (w.heap.size + 1) 2 #[.int .i64 b] by rw [H0.out]; simpa using (Blk.new (w.alloc _) _ _).alloc _)
  have BM := Lib.hid (show Blk w0 (w.heap.size + 1 + 1) 2 #[.int .i64 m] by rw [H0.out]; simpa using Blk.new ((w.alloc _).alloc _) _ _)
  clear H0
  refine (lengths_any A n c rs w0 (by have := hl.out; omega) (HR.out.next b0) HO.out).mono ?_
  rintro e w1 ⟨hb1, ⟨ls, A2, c2, hg2, rfl, hown2⟩ | ⟨hg2, A', n', c', rfl⟩⟩
  case inr =>
    have e := Lib.hid (printpV0 (i := i) (j := j) (b := b) (m := m) hg2)
    clear hg2
    go_wp2_with fail
    go_ret2
    exact ⟨by rw [e.out]; rfl, b0.trans (hb1.mono b0.size)⟩
  have b1 := b0.trans (hb1.mono b0.size)
  have Hg := Lib.hid hg2
  have HL := Lib.hid (gOk_lens hg2).1
  have hll := Lib.hid ((gOk_lens hg2).2.2.trans hl.out)
  have hlb := lastI_bP (gOk_lens hg2).1 (gOk_lens hg2).2.2
  have r1 := Lib.hid (Rd.of_own (enc := intE) (fun _ _ => rfl) rfl hown2)
  rw [hll.out] at r1 ⊢
  have BG1 := Lib.hid (BG.out.next hb1)
  have BB1 := Lib.hid (BB.out.next hb1)
  have BM1 := Lib.hid (BM.out.next hb1)
  clear hg2 hown2
  have dm1 := BM1.out.cell 0
  have lm1 := BM1.out.lt
  go_wp2_with fail
  rcases h1 : inB m 1 1000000000 with _ | _
  · have H1 := Lib.hid h1; clear h1
    have e := Lib.hid (printpV1 (i := i) (j := j) (b := b) Hg.out H1.out)
    refine (isMod_any m _ _ H1.out).mono ?_
    rintro e1 w2 ⟨rfl, hb2⟩
    go_wp2_with fail
    go_ret2
    exact ⟨by rw [e.out]; rfl, b1.trans (hb2.mono b1.size)⟩
  have H1 := Lib.hid h1
  have hm' : 1 ≤ m ∧ m ≤ 1000000000 := by simpa [inB] using h1
  obtain ⟨m0, m1⟩ := hm'
  clear h1
  refine (isMod_any m _ _ H1.out).mono ?_
  rintro e1 w2 ⟨rfl, hb2⟩
  have b2 := b1.trans (hb2.mono b1.size)
  have dm2 := (BM1.out.next hb2).cell 0
  have lm2 := (BM1.out.next hb2).lt
  have db2 := (BB1.out.next hb2).cell 0
  have lb2 := (BB1.out.next hb2).lt
  clear dm1 lm1
  have um : IntKind.i64.wrap (m - 1) = m - 1 := IntWalk.i64_in _ (by omega)
  go_wp2_with fail
  rcases h2 : inB b 0 (m - 1) with _ | _
  · have H2 := Lib.hid h2; clear h2
    have e := Lib.hid (printpV2 (i := i) (j := j) Hg.out H1.out H2.out)
    refine (within_any b 0 (m - 1) _ _ H2.out).mono ?_
    rintro e1 w3 ⟨rfl, hb3⟩
    go_wp2_with fail
    go_ret2
    exact ⟨by rw [e.out]; rfl, b2.trans (hb3.mono b2.size)⟩
  have H2 := Lib.hid h2
  have hb' : 0 ≤ b ∧ b ≤ m - 1 := by simpa [inB] using h2
  obtain ⟨q0, q1⟩ := hb'
  clear h2
  refine (within_any b 0 (m - 1) _ _ H2.out).mono ?_
  rintro e1 w3 ⟨rfl, hb3⟩
  have b3 := b2.trans (hb3.mono b2.size)
  clear dm2 lm2 db2 lb2 um
  go_wp2_with fail
  rcases h3 : inB i 0 j with _ | _
  · have H3 := Lib.hid h3; clear h3
    have e := Lib.hid (printpV3 Hg.out H1.out H2.out H3.out)
    refine (within_any i 0 j _ _ H3.out).mono ?_
    rintro e1 w4 ⟨rfl, hb4⟩
    go_wp2_with fail
    go_ret2
    exact ⟨by rw [e.out]; rfl, b3.trans (hb4.mono b3.size)⟩
  have H3 := Lib.hid h3
  have hi' : 0 ≤ i ∧ i ≤ j := by simpa [inB] using h3
  obtain ⟨i0, i1⟩ := hi'
  clear h3
  refine (within_any i 0 j _ _ H3.out).mono ?_
  rintro e1 w4 ⟨rfl, hb4⟩
  have b4 := b3.trans (hb4.mono b3.size)
  have hb24 := hb2.trans ((hb3.trans (hb4.mono hb3.size)).mono hb2.size)
  go_wp2_with fail
  refine (last_any A2 n c2 ls w4 (by omega) (r1.out.next hb24)).mono ?_
  rintro e w5 ⟨rfl, hb5⟩
  have b5 := b4.trans (hb5.mono b4.size)
  have hb25 := hb24.trans (hb5.mono hb24.size)
  by_cases h4 : lastI ls < j
  · have e := Lib.hid (printpV4 Hg.out H1.out H2.out H3.out h4)
    go_wp2_with fail
    go_ret2
    exact ⟨by rw [e.out]; rfl, b5⟩
  have e := Lib.hid (printpV5 Hg.out H1.out H2.out H3.out h4)
  have BG5 := Lib.hid (BG1.out.next hb25)
  have BB5 := Lib.hid (BB1.out.next hb25)
  have BM5 := Lib.hid (BM1.out.next hb25)
  have cg5 := BG5.out.cell 0
  have lg5 := BG5.out.lt
  have lm5 := BM5.out.lt
  have lb5 := BB5.out.lt
  go_wp2_with fail
  refine namedC fun w6 H6 => ?_
  have b56 : Below w5.heap.size w5 w6 := by rw [H6.out]; (repeat first | exact Below.refl _ _ | assumption | refine Below.drew ?_ | refine Below.alloc ?_ (by first | exact Nat.le_refl _ | (simp; done) | omega | (simp; omega)) _ | refine Below.setCell ?_ (by first | exact Nat.le_refl _ | (simp; done) | omega | (simp; omega)) _)
  have b6 := b5.trans (b56.mono b5.size)
  have BF6 := Lib.hid (show Blk w6 w5.heap.size 77 #[.func (.func 49) #[] #[.pointer (some ⟨w.heap.size + 1 + 1, 0, none⟩)]] by rw [H6.out]; exact Blk.new w5 _ _)
  have BG6 := Lib.hid (BG5.out.next b56)
  have BB6 := Lib.hid (BB5.out.next b56)
  have BM6 := Lib.hid (BM5.out.next b56)
  clear H6 cg5 lg5
  refine (foldK_any 51 52 (enterOk Try.func51 (by kernel_rfl) (by kernel_rfl)) (enterOk Try.func52 (by kernel_rfl) (by kernel_rfl)) #[.pointer (some ⟨w.heap.size + 1 + 1, 0, none⟩), .pointer (some ⟨w.heap.size + 1, 0, none⟩)] #[.pointer (some ⟨w5.heap.size, 0, none⟩)]
    (mkF b m) (mkG m) Mk.nil A n c rs w6 hn (HR.out.next b6) (wf_of HL.out) ?_ ?_).mono ?_
  · intro k r hr h0 w' hb'
    rcases wf_of HL.out k r hr with ⟨h0', _⟩ | ⟨cc, hcc, hxl, _⟩
    · exact absurd h0' h0
    · exact prLet_any (letN r.l) b m (w.heap.size + 1 + 1) (w.heap.size + 1) w' (letN_lt (by rw [hxl]; exact hcc)) (BM6.out.next hb') (BB6.out.next hb') m0 m1
  · intro k r hr h0 w' hb'
    have hk : k < rs.length := (List.getElem?_eq_some_iff.1 hr).1
    rcases wf_of HL.out k r hr with ⟨_, ha0, ha1, hb0, hb1⟩ | ⟨cc, _, hxl, _⟩
    · rw [outs_full Mk.nil (mkF b m) (mkG m) (k := k) (i := r.a.toNat) (by omega) (by omega), outs_full Mk.nil (mkF b m) (mkG m) (k := k) (i := r.b.toNat) (by omega) (by omega)]
      have q1' := mk_in HL.out m0 q0 (by omega) (k := r.a.toNat) (by omega)
      have q2' := mk_in HL.out m0 q0 (by omega) (k := r.b.toNat) (by omega)
      have h := prPair_any ((mkAll b m rs).getD r.a.toNat Mk.nil) ((mkAll b m rs).getD r.b.toNat Mk.nil) r m (w.heap.size + 1 + 1) w5.heap.size w' (BM6.out.next hb') (BF6.out.next hb') m0 m1 q1' q2'
      exact h
    · rw [hxl] at h0; exact absurd h0 (show ¬ (1 : Nat) = 0 by omega)
  rintro e1 w7 ⟨A7, c7, rfl, own7, hb7⟩
  have b7 := b6.trans (hb7.mono b6.size)
  have r7 := Lib.hid (Rd.of_own (fun y _ => lenMk y) rfl own7)
  generalize hN : (foldAll Mk.nil (mkF b m) (mkG m) Mk.nil rs).length = N at *
  have HN := Lib.hid hN; clear hN own7
  have BG7 := Lib.hid (BG6.out.next hb7)
  have BM7 := Lib.hid (BM6.out.next hb7)
  have BF7 := Lib.hid (BF6.out.next hb7)
  have cg7 := BG7.out.cell 0
  have lg7 := BG7.out.lt
  have dm7 := BM7.out.cell 0
  have lm7 := BM7.out.lt
  have lf7 := BF7.out.lt
  have re := emod_in (a := 1) m0
  obtain ⟨re0, re1⟩ := re
  have u1 : IntKind.i64.wrap (1 % m) = 1 % m := IntWalk.i64_in _ (by omega)
  have v1 : (1 : Int).tmod m = 1 % m := Int.tmod_eq_emod_of_nonneg (by omega)
  have hm0 : ¬ m = 0 := by omega
  go_wp2_with fail
  refine namedC fun w8 H8 => ?_
  have b78 : Below w7.heap.size w7 w8 := by rw [H8.out]; (repeat first | exact Below.refl _ _ | assumption | refine Below.drew ?_ | refine Below.alloc ?_ (by first | exact Nat.le_refl _ | (simp; done) | omega | (simp; omega)) _ | refine Below.setCell ?_ (by first | exact Nat.le_refl _ | (simp; done) | omega | (simp; omega)) _)
  have BL8 := Lib.hid (show Blk w8 w7.heap.size 78 #[.slice A7 N c7] by rw [H8.out]; exact (Blk.new w7 _ _).alloc _)
  have BO8 := Lib.hid (show Blk w8 (w7.heap.size + 1) 76 #[.int .i64 0, .int .i64 (1 % m)] by rw [H8.out]; simpa using Blk.new (w7.alloc _) _ _)
  have hb57 : Below w5.heap.size w5 w7 := b56.trans (hb7.mono b56.size)
  clear H8 u1 v1
  have hp := pieces_any (fun (s : Mk) (w' : World) => Blk w' (w7.heap.size + 1) 76 #[.int .i64 s.p, .int .i64 s.w] ∧ MkB m s ∧ Blk w' w7.heap.size 78 #[.slice A7 N c7] ∧ Rd w' w7.heap.size A7 N 2 encMk (foldAll Mk.nil (mkF b m) (mkG m) Mk.nil rs) ∧
      Blk w' (w.heap.size + 1 + 1) 2 #[.int .i64 m] ∧ Blk w' w5.heap.size 77 #[.func (.func 49) #[] #[.pointer (some ⟨w.heap.size + 1 + 1, 0, none⟩)]])
    (fun s k => mkG m s ((mkAll b m rs).getD k Mk.nil) default) (fun s wa wb h hb => ⟨h.1.next hb, h.2.1, h.2.2.1.next hb, h.2.2.2.1.next' (by have := h.2.2.1.lt; omega) hb, h.2.2.2.2.1.next hb, h.2.2.2.2.2.next hb⟩)
    w7.heap.size (w7.heap.size + 1) w8.heap.size (by omega) BO8.out.lt A n c rs A2 c2 ls i j 54 (enterOk Try.func54 (by kernel_rfl) (by kernel_rfl)) #[.pointer (some ⟨w5.heap.size, 0, none⟩), .pointer (some ⟨w7.heap.size + 1, 0, none⟩), .pointer (some ⟨w7.heap.size, 0, none⟩)] hn HL.out
    (fun s k wa hk h => by
      have hfa := foldAll_pos Mk.nil (mkF b m) (mkG m) Mk.nil (rs := rs) (by have := hl.out; omega)
      have hNn : N = n := by rw [← HN.out, hfa, full_len]; exact hl.out
      have hr3 := h.2.2.2.1
      rw [hfa] at hr3
      have hx := mk_in HL.out m0 q0 (by omega) (k := k) (by have := hl.out; omega)
      have hc := printStep_any k s m (w.heap.size + 1 + 1) w5.heap.size (w7.heap.size + 1) w7.heap.size w7.heap.size A7 N c7 (mkAll b m rs) wa h.2.2.2.2.1 h.2.2.2.2.2 h.1 h.2.2.1 hr3 (by omega) (by omega) m0 m1 h.2.1 hx
      refine hc.mono ?_
      rintro e w' ⟨rfl, hg, hB⟩
      have ne : ∀ g, g ≠ w7.heap.size + 1 → some g ≠ some (w7.heap.size + 1) := fun g h e => h (by injection e)
      have z1 := b5.size
      have z2 := (b56.trans (hb7.mono b56.size)).size
      refine ⟨rfl, hg, hB, ⟨emod_in m0, emod_in m0⟩, h.2.2.1.grown hg (ne _ (by omega)), h.2.2.2.1.grown (by have := h.2.2.1.lt; omega) hg (fun k hk => by injection hk with hk; omega), h.2.2.2.2.1.grown hg (ne _ (by omega)), h.2.2.2.2.2.grown hg (ne _ (by omega))⟩)
    ⟨0, 1 % m⟩ w8 rfl ((HR.out.next b7).below b78) (((r1.out.next hb25).next hb57).below b78) ⟨BO8.out, ⟨⟨Int.le_refl 0, (by show (0 : Int) < m; omega)⟩, re0, re1⟩, BL8.out, r7.out.below b78, (BM7.out.next b78), (BF7.out.next b78)⟩
  refine hp.mono ?_
  rintro e2 w9 ⟨rfl, hg9, hB1, _⟩
  rw [show List.foldl (fun s k => mkG m s ((mkAll b m rs).getD k Mk.nil) default) ⟨0, 1 % m⟩ (pcsT ls rs i j) = partMk b m rs (pcsT ls rs i j) from rfl] at hB1
  generalize partMk b m rs (pcsT ls rs i j) = y at *
  have d0 := hB1.cell 0
  have z0 := hB1.lt
  have G9 := Lib.hid hg9
  have hz7 := b7.size
  clear hg9 hB1 hp cg7 lg7 dm7 lm7
  go_wp2_with fail
  go_ret2
  exact ⟨by rw [e.out]; rfl, (b7.trans (b78.mono b7.size)).grown G9.out (Nat.le_trans b7.size b78.size) (fun k hk => by injection hk with hk; omega)⟩
def lenOfV (rs : List Fac) : Int × Int := match gOk rs with | none => (0, 1) | some ls => (lastI ls, 0)
set_option maxHeartbeats 1000000 in
theorem lenOf_any (A : Option Addr) (n c : Nat) (rs : List Fac) (w : World) (hn : n ≤ 1048576) (hr : Rd w w.heap.size A n 3 Fac.cells rs) (hok : ∀ f ∈ rs, f.l.size ≤ maxLen) :
    Calls Try.prog 38 #[.agg #[.slice A n c]] w (Ret (tup2 (lenOfV rs).1 (lenOfV rs).2) w) := by
  have hb0 : Below w.heap.size w (w.alloc (.cells #[.slice A n c] 26)) := by (repeat first | exact Below.refl _ _ | assumption | refine Below.drew ?_ | refine Below.alloc ?_ (by first | exact Nat.le_refl _ | (simp; done) | omega | (simp; omega)) _ | refine Below.setCell ?_ (by first | exact Nat.le_refl _ | (simp; done) | omega | (simp; omega)) _)
  have hl := Lib.hid hr.len
  have HR := Lib.hid hr; clear hr
  have HO := Lib.hid hok; clear hok
  go_enter Try.func38, Try.ntmps38
  go_wp2_with fail
  refine (lengths_any A n c rs _ (by have := hl.out; omega) (HR.out.next hb0) HO.out).mono ?_
  rintro e w1 ⟨hb1, ⟨ls, A2, c2, hg2, rfl, hown2⟩ | ⟨hg2, A', n', c', rfl⟩⟩
  case inr =>
    have e := Lib.hid (show lenOfV rs = (0, 1) by unfold lenOfV; rw [hg2])
    clear hg2
    go_wp2_with fail
    go_ret2
    exact ⟨by rw [e.out]; rfl, hb0.trans (hb1.mono hb0.size)⟩
  have b1 := hb0.trans (hb1.mono hb0.size)
  have e := Lib.hid (show lenOfV rs = (lastI ls, 0) by unfold lenOfV; rw [hg2])
  have r1 := Lib.hid (Rd.of_own (enc := intE) (fun _ _ => rfl) rfl hown2)
  have hll := Lib.hid ((gOk_lens hg2).2.2.trans hl.out)
  rw [hll.out] at r1 ⊢
  clear hg2 hown2
  go_wp2_with fail
  refine (last_any A2 n c2 ls w1 (by omega) r1.out).mono ?_
  rintro e1 w2 ⟨rfl, hb2⟩
  go_wp2_with fail
  go_ret2
  exact ⟨by rw [e.out]; rfl, b1.trans (hb2.mono b1.size)⟩
set_option maxHeartbeats 1000000 in
theorem implPrint_any (A : Option Addr) (n c : Nat) (rs : List Fac) (b m : Int) (w : World) (hn : n ≤ 1048576) (hr : Rd w w.heap.size A n 3 Fac.cells rs)
    (hok : ∀ f ∈ rs, f.l.size ≤ maxLen) (_hb : -9223372036854775808 ≤ b ∧ b ≤ 9223372036854775807) (_hm : -9223372036854775808 ≤ m ∧ m ≤ 9223372036854775807) :
    Calls Try.prog 11 #[.agg #[.slice A n c], .int .i64 b, .int .i64 m] w (Ret (printV rs b m) w) := by
  have hb0 : Below w.heap.size w (w.alloc (.cells #[.slice A n c] 26)) := by (repeat first | exact Below.refl _ _ | assumption | refine Below.drew ?_ | refine Below.alloc ?_ (by first | exact Nat.le_refl _ | (simp; done) | omega | (simp; omega)) _ | refine Below.setCell ?_ (by first | exact Nat.le_refl _ | (simp; done) | omega | (simp; omega)) _)
  have hB0 := Lib.hid (Blk.new w 26 #[.slice A n c])
  have hl := Lib.hid hr.len
  have HR := Lib.hid hr; clear hr
  have HO := Lib.hid hok; clear hok
  go_enter Try.func11, Try.ntmps11
  go_wp2_with fail
  refine (lenOf_any A n c rs _ hn (HR.out.next hb0) HO.out).mono ?_
  rintro e1 w1 ⟨rfl, hb1⟩
  have b1 := hb0.trans (hb1.mono hb0.size)
  have B1 := Lib.hid (hB0.out.next hb1)
  have cg1 := B1.out.cell 0
  have lg1 := B1.out.lt
  rcases hg : gOk rs with _ | ls
  · have e := Lib.hid (show printV rs b m = tup2 0 1 by unfold printV; rw [hg])
    have e1 := show lenOfV rs = (0, 1) by unfold lenOfV; rw [hg]
    rw [e1]
    clear hg e1
    unfold tup2
    go_wp2_with fail
    go_ret2
    exact ⟨by rw [e.out]; rfl, b1⟩
  have e := Lib.hid (show printV rs b m = printpV rs 0 (lastI ls) b m by unfold printV; rw [hg])
  have e1 := show lenOfV rs = (lastI ls, 0) by unfold lenOfV; rw [hg]
  have lb := lastI_bP (gOk_lens hg).1 (gOk_lens hg).2.2
  rw [e1]
  clear hg e1
  generalize lastI ls = z at *
  unfold tup2
  obtain ⟨x, k, hf⟩ := printpV_form rs 0 z b m
  have Hf := Lib.hid hf; clear hf
  have HP := Lib.hid (fun w' hr' => implPrintP_any A n c rs 0 z b m w' hn hr' HO.out (by omega) (by omega) _hb _hm)
  go_wp2_with fail
  refine (HP.out _ (HR.out.next b1)).mono ?_
  rintro e1 w2 ⟨rfl, hb2⟩
  rw [Hf.out]
  go_wp2_with fail
  go_ret2
  exact ⟨by rw [e.out, Hf.out]; rfl, b1.trans (hb2.mono b1.size)⟩
end Go.Proofs.Ytgdbpkpaacbhhaa
