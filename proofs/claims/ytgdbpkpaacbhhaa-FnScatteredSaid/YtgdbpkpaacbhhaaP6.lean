/-
  Texts of this claim, merged: MapS Join P6Word P6G Huge P6H FoldR LrM WdL WdR RunS Lett2 ScW ScatI.
-/
import Derived.Test.YtgdbpkpaacbhhaaP5
import Derived.Deep.RegionWith


/-
  The letters of a grammar replaced, in the reference.
-/
namespace Go.Proofs.Ytgdbpkpaacbhhaa
open Go.RowKit

section
variable {α : Type} {P : Program} {w : World} {ops : Array Oper} {o : Oper} {a : Act} {K : Act → World → Prop} {Q : Exit → Act → World → Prop} {E : Prop}
/-- one element more, as a step of a region that draws its order; where the row lies then -/
theorem step_pushH (hgd : o.guard = none) (s x : Operand) (t : TypeId) (ho : o.op = .call { callee := .builtin .append, args := #[s, x], argTypes := #[t, t] })
    (base : Nat) (e : TypeId) (sz bytes : Nat) (EI : Elem P t e sz bytes) (enc : α → List Value) (A : Option Addr) (n c : Nat) (xs : List α) (hs : a.eval s = .slice A n c)
    (hown : w.ownsRow base e sz (.slice A n c) n (xs.flatMap enc)) (g : Nat) (y : α) (cs : Array Value) (t' : TypeId) (fr : Nat × Nat) (hx : a.eval x = .slice (some ⟨g, 0, none⟩) 1 1) (hg : w.heap[g]? = some (.cells cs t' fr)) (hcs : cs.toList = enc y)
    (hlen : (enc y).length = sz) (hone : ∀ u ∈ enc y, u.oneCell' = true) (hsz : 0 < sz) (hbytes : (n + 1) * bytes ≤ 140737488355328) (hm : n + 1 ≤ maxLen) (hsize : base ≤ w.heap.size)
    (h : ∀ A' c' w', w'.ownsRow base e sz (.slice A' (n + 1) c') (n + 1) ((xs ++ [y]).flatMap enc) → w.grownBy w' (Value.slice A n c).ownBlock →
      ((Value.slice A' (n + 1) c').ownBlock = (Value.slice A n c).ownBlock ∨ (Value.slice A' (n + 1) c').ownBlock = some w.heap.size) →
      K (a.put o.dst (.slice A' (n + 1) c')) w') : if Region.wanted o (yielded ops a.tmps) = true then Oper.wp P o a w K Q else E := by
  obtain ⟨ht, i, z, hi, hz, h1, h2, hzs⟩ := EI
  have hnews : ∀ j u, (enc y)[j]? = some u → w.cell? ((⟨g, 0, none⟩ : Addr).add j) = some u := by rw [← hcs]; exact World.news_of_block hg
  obtain ⟨v', w', hr, r2, r3, _, r5⟩ := run_append_own_at (P := P) w base t o.type e i z sz bytes ht hi hz h1 h2 hzs hsz _ n _ hown ⟨g, 0, none⟩ 1 1 (enc y) (by rw [hlen]; omega) hnews hone hm hbytes hsize
  obtain ⟨g', cap, rfl, _, _⟩ := r2.form (by omega)
  have hw : Region.wanted o (yielded ops a.tmps) = true := by simp [Region.wanted, hgd]
  rw [if_pos hw]
  unfold Oper.wp execOp
  simp only [ho, resolve, invoke, builtin, Sem.run_bind, Sem.run_pure, Result.andThen_ok, List.map_toArray, List.map_cons, List.map_nil, hs, hx, hr]
  exact h _ _ w' (by rw [List.flatMap_append]; simpa using r2) r3 r5
end
/-- 'MapLetters' of the reference under way -/
structure MsW (w W : World) (G S : Nat) (ga gv : Value) (A : Option Addr) (n c : Nat) (out : List Fac) (st : List Int) : Prop where
  q : W.ownsRow w.heap.size 82 3 (.slice A n c) n (out.flatMap Fac.cells)
  i : Blk W w.heap.size 26 #[ga]
  o : Blk W (w.heap.size + 1) 26 #[.slice none 0 0]
  g : Blk W G 26 #[gv]
  s : Blk W S 2 (intA st)
  e : Below w.heap.size w W
  n0 : w.heap.size + 1 < G
  n1 : w.heap.size ≤ S
section
variable {w W W' : World} {G S : Nat} {ga gv : Value} {A : Option Addr} {n c : Nat} {out : List Fac} {st : List Int}
theorem MsW.next (h : MsW w W G S ga gv A n c out st) (hb : Below W.heap.size W W') : MsW w W' G S ga gv A n c out st :=
  ⟨own_next h.q hb, h.i.next hb, h.o.next hb, h.g.next hb, h.s.next hb, h.e.trans (hb.mono h.e.size), h.n0, h.n1⟩
theorem MsW.alloc (h : MsW w W G S ga gv A n c out st) (o : Obj) : MsW w (W.alloc o) G S ga gv A n c out st := h.next ((Below.refl _ _).alloc (Nat.le_refl _) _)
theorem MsW.drew (h : MsW w W G S ga gv A n c out st) : MsW w W.drew G S ga gv A n c out st := h.next (Below.refl _ _).drew
theorem MsW.app {A8 : Option Addr} {k8 c8 : Nat} {out' : List Fac} (h : MsW w W G S ga gv A n c out st) (hq : W'.ownsRow w.heap.size 82 3 (.slice A8 k8 c8) k8 (out'.flatMap Fac.cells)) (hg : W.grownBy W' (Value.slice A n c).ownBlock) :
    MsW w W' G S ga gv A8 k8 c8 out' st :=
  ⟨hq, h.i.grown hg (own_blk_ne h.q h.i (by decide)), h.o.grown hg (own_blk_ne h.q h.o (by decide)), h.g.grown hg (own_blk_ne h.q h.g (by decide)), h.s.grown hg (own_blk_ne h.q h.s (by decide)), h.e.grown hg h.e.size (own_ge h.q), h.n0, h.n1⟩
theorem MsW.put (h : MsW w W G S ga gv A n c out st) (u : Value) : MsW w (W.setCell ⟨G, 0, none⟩ u) G S ga u A n c out st := by
  have hg2 := gb_set W G 0 u
  have h0 := h.n0
  have hs : some S ≠ some G := fun e => by
    injection e with e
    have h1 := h.s; have h2 := h.g
    rw [e] at h1
    unfold Blk at h1 h2
    rw [h1] at h2
    injection h2 with h2; injection h2 with _ h2; exact absurd h2 (by decide)
  exact ⟨own_kept' h.q h.g (by decide) _, h.i.grown hg2 (by intro e; injection e with e; omega), h.o.grown hg2 (by intro e; injection e with e; omega), h.g.set_ 0 _, h.s.grown hg2 hs, h.e.setCell (by show w.heap.size ≤ G; omega) _, h.n0, h.n1⟩
/-- behind what writes a row of numbers made later -/
theorem MsW.far {v : Value} {k b : Nat} {xs : List Value} (h : MsW w W G S ga gv A n c out st) (ho : W.ownsRow b 2 1 v k xs) (hb : S < b) (hg : W.grownBy W' v.ownBlock) : MsW w W' G S ga gv A n c out st :=
  ⟨h.q.kept hg (own_ne h.q ho (by decide)), h.i.grown hg (own_blk_ne ho h.i (by decide)), h.o.grown hg (own_blk_ne ho h.o (by decide)), h.g.grown hg (own_blk_ne ho h.g (by decide)), h.s.grown hg (fun e => by have := own_ge ho S e.symm; omega), h.e.grown hg h.e.size (fun q hq => by have := own_ge ho q hq; have := h.n1; omega), h.n0, h.n1⟩
theorem MsW.tell (h : MsW w W G S ga gv A n c out st) (i : Nat) (z : Int) : MsW w (W.setCell ⟨S, i, none⟩ (.int .i64 z)) G S ga gv A n c out (st.set i z) := by
  have hg2 := gb_set W S i (.int .i64 z)
  have nt : ∀ {g : Nat} {cs : Array Value}, Blk W g 26 cs → some g ≠ some S := fun hB e => by
    injection e with e; subst e
    have := hB.symm.trans h.s
    injection this with this; injection this with _ this; exact absurd this (by decide)
  have := h.s.set_ i (.int .i64 z)
  rw [intA_set] at this
  exact ⟨own_kept' h.q h.s (by decide) _, h.i.grown hg2 (nt h.i), h.o.grown hg2 (nt h.o), h.g.grown hg2 (nt h.g), this, h.e.setCell h.n1 _, h.n0, h.n1⟩
end
theorem usedL_take {rs : List Fac} {k : Nat} {x : Fac} (h : rs[k]? = some x) (u : UInt8) : usedL (rs.take (k + 1)) u = (usedL (rs.take k) u || decide (x.l = ⟨#[u]⟩)) := by
  rw [take_succ_at h]; simp [usedL]
theorem raise_take {rs : List Fac} {k : Nat} {x : Fac} (h : rs[k]? = some x) (b : Int) : raiseL b (rs.take (k + 1)) = raiseL b (rs.take k) ++ [rsF b x] := by
  rw [take_succ_at h]; simp [raiseL]
end Go.Proofs.Ytgdbpkpaacbhhaa


/-
  The join of two grammars in the reference.
-/
namespace Go.Proofs.Ytgdbpkpaacbhhaa
open Go.RowKit

set_option maxHeartbeats 4000000 in
set_option maxRecDepth 100000 in
theorem l02Join_any (gb hb : Nat) (A : Option Addr) (n c : Nat) (gs : List Fac) (Ah : Option Addr) (m ch : Nat) (hs : List Fac) (w : World) (hgb : gb < w.heap.size) (hgc : w.cell? ⟨gb, 0, none⟩ = some (.slice A n c)) (hhb : hb < w.heap.size) (hhc : w.cell? ⟨hb, 0, none⟩ = some (.slice Ah m ch))
    (hn0 : 0 < n) (hn : n ≤ 400) (hm0 : 0 < m) (hm : m ≤ 400) (hr : Rd w w.heap.size A n 3 Fac.cells gs) (hr2 : Rd w w.heap.size Ah m 3 Fac.cells hs) (hwf : WF hs) :
    Calls Try.prog 40 #[.pointer (some ⟨gb, 0, none⟩), .pointer (some ⟨hb, 0, none⟩)] w (RetG w (joinL gs hs)) := by
  have HL := Lib.hid hr.len
  have HM := Lib.hid hr2.len
  have HR := Lib.hid hr; clear hr
  have H2 := Lib.hid hr2; clear hr2
  have HW := Lib.hid hwf; clear hwf
  have HJ := Lib.hid (show joinL gs hs = (gs ++ raiseL gs.length hs) ++ [⟨⟨#[]⟩, (gs.length : Int) - 1, (gs.length : Int) + hs.length - 1⟩] by unfold joinL; rw [if_neg (by rw [HL.out]; omega), if_neg (by rw [HM.out]; omega)])
  have HC := Lib.hid (fun (W : World) (h : Below w.heap.size w W) => show W.cell? ⟨gb, 0, none⟩ = some (.slice A n c) ∧ W.cell? ⟨hb, 0, none⟩ = some (.slice Ah m ch) ∧ gb < W.heap.size ∧ hb < W.heap.size from ⟨(h.cell (p := ⟨gb, 0, none⟩) hgb).trans hgc, (h.cell (p := ⟨hb, 0, none⟩) hhb).trans hhc, by have := h.size; omega, by have := h.size; omega⟩)
  have n1 : ((n : Int) == 0) = false := by simp; omega
  have m1 : ((m : Int) == 0) = false := by simp; omega
  rw [HL.out, HM.out] at HJ
  go_enter Try.func40, Try.ntmps40
  have b1 : Below w.heap.size w (w.alloc (.cells #[.slice none 0 0] 26)) := by (repeat first | exact Below.refl _ _ | assumption | refine Below.drew ?_ | refine Below.alloc ?_ (by first | exact Nat.le_refl _ | (simp; done) | omega | (simp; omega)) _ | refine Below.setCell ?_ (by first | exact Nat.le_refl _ | (simp; done) | omega | (simp; omega)) _)
  have B1 := Lib.hid (Blk.new w 26 #[.slice none 0 0])
  obtain ⟨q0, q1, q2, q3⟩ := HC.out _ b1
  clear hgc hhc
  go_wp2_with fail
  refine (l02Own_any gb A n c gs _ q2 q0 (by omega) hn0 (HR.out.next b1)).mono ?_
  rintro e w4 ⟨A4, c4, rfl, own4, hb4⟩
  rw [HL.out] at own4 ⊢
  have b4 := Lib.hid (b1.trans (hb4.mono b1.size))
  have O4 := Lib.hid (own4.mono b1.size)
  have B4 := Lib.hid (B1.out.next hb4)
  clear own4 hb4 q0 q1 q2 q3 b1
  have P5 := Lib.hid (show PwW w (w4.alloc (.cells #[.slice A4 n c4] 26)) w.heap.size w4.heap.size A4 n c4 gs from
    ⟨O4.out.alloc _, B4.out.alloc _, Blk.new _ _ _, b4.out.alloc b4.out.size _, Nat.le_refl _, B4.out.lt⟩)
  obtain ⟨q0, q1, q2, q3⟩ := HC.out _ P5.out.e
  have b4 := b4.out
  obtain ⟨p0, p1, p2, p3⟩ := HC.out _ b4
  go_wp2_with fail
  clear q0 q1 q2 q3 p0 p1 p2 p3 B1 B4 O4 b4
  generalize w4.heap.size = G at *
  go_loopw [7] (fun j_ w' => ∃ (j : Nat) (A1 : Option Addr) (n1 c1 : Nat) (cur : List Fac), j_ = .int .i64 j ∧ j ≤ m ∧ Hid (n1 = n + j) ∧ Hid (gs ++ raiseL n (hs.take j) = cur) ∧ Hid (cur.length = n1) ∧ Hid (PwW w w' w.heap.size G A1 n1 c1 cur)) (fun j_ _ => m - (intOf j_).toNat)
  case atStart => exact ⟨0, A4, n, c4, gs, rfl, by omega, Lib.hid rfl, Lib.hid (by simp [raiseL]), HL, P5⟩
  case round =>
    obtain ⟨j, A1, n1, c1, cur, rfl, hj, hn1, hcur, hcl, P⟩ := hrel
    clear P5
    have n1b : n1 ≤ 800 := by have := hn1.out; omega
    obtain ⟨q0, q1, q2, q3⟩ := HC.out _ P.out.e
    by_cases hlt : j < m
    · obtain ⟨bh, oh, y, hAh, hBr, hy, c0, c1', c2'⟩ := H2.out.fac hlt
      subst hAh
      have hyw := HW.out j y hy
      have Hrt := Lib.hid (raise_take hy (n : Int))
      have LC := Lib.hid (fun W => l02Raised_any y (n : Int) W (fun h0 => by
        rcases hyw with ⟨_, a0, a1, b0, b1⟩ | ⟨cc, _, hxl, _⟩
        · exact ⟨a0, by omega, b0, by omega⟩
        · rw [hxl] at h0; exact absurd h0 (show ¬ (1 : Nat) = 0 by omega)) (by omega) (by omega))
      have j0 : (0 : Int) ≤ (j : Int) := by omega
      have j1 : (j : Int) < (m : Int) := by omega
      obtain ⟨z, hz⟩ : ∃ z, rsF (n : Int) y = z := ⟨_, rfl⟩
      rw [hz] at LC Hrt
      have HS2 := Lib.hid (fun (W : World) (M : Blk W G 26 #[.slice A1 n1 c1]) (he : Below w.heap.size w W) =>
        show W.cell? ⟨G, 0, none⟩ = some (.slice A1 n1 c1) ∧ W.cell? ⟨hb, 0, none⟩ = some (.slice (some ⟨bh, oh, none⟩) m ch) ∧ W.cell? ⟨bh, oh + j * 3, none⟩ = some (.string y.l) ∧ W.cell? ⟨bh, oh + j * 3 + 1, none⟩ = some (.int .i64 y.a) ∧ W.cell? ⟨bh, oh + j * 3 + 2, none⟩ = some (.int .i64 y.b) from
        ⟨M.cell 0, (HC.out W he).2.1, (he.cell (p := ⟨bh, oh + j * 3, none⟩) hBr).trans c0, (he.cell (p := ⟨bh, oh + j * 3 + 1, none⟩) hBr).trans c1', (he.cell (p := ⟨bh, oh + j * 3 + 2, none⟩) hBr).trans c2'⟩)
      have hS0 := HS2.out wr.drew P.out.drew.x P.out.drew.e
      clear hy hyw hz c0 c1' c2'
      go_wp2_with fail
      clear q0 q1 q2 q3
      refine wp_region_N (fun W => W.cell? ⟨G, 0, none⟩ = some (.slice A1 n1 c1) ∧ W.cell? ⟨hb, 0, none⟩ = some (.slice (some ⟨bh, oh, none⟩) m ch) ∧ W.cell? ⟨bh, oh + j * 3, none⟩ = some (.string y.l) ∧ W.cell? ⟨bh, oh + j * 3 + 1, none⟩ = some (.int .i64 y.a) ∧ W.cell? ⟨bh, oh + j * 3 + 2, none⟩ = some (.int .i64 y.b)) [14] (by kernel_rfl) ?_
      refine wpAnyN_take (i := 0) (v := ?_) rfl (by kernel_rfl) (fun _ _ _ h => h) (by rfl) (fun W hW => ?_) hS0 ?_
      rotate_left
      · obtain ⟨z0, z1, z2, z3, z4⟩ := hW
        go_simp
        try with_reducible rfl
      try simp only [List.getElem_toArray, List.getElem_cons_zero, List.getElem_cons_succ, Act.put, List.setIfInBounds_toArray, List.set_cons_zero, List.set_cons_succ]
      refine wpAnyN_take (i := 1) (v := ?_) rfl (by kernel_rfl) (fun _ _ _ h => h) (by rfl) (fun W hW => ?_) hS0 ?_
      rotate_left
      · obtain ⟨z0, z1, z2, z3, z4⟩ := hW
        go_simp
        try with_reducible rfl
      try simp only [List.getElem_toArray, List.getElem_cons_zero, List.getElem_cons_succ, Act.put, List.setIfInBounds_toArray, List.set_cons_zero, List.set_cons_succ]
      refine wpAnyN_take (i := 2) (v := ?_) rfl (by kernel_rfl) (fun _ _ _ h => h) (by rfl) (fun W hW => ?_) hS0 ?_
      rotate_left
      · obtain ⟨z0, z1, z2, z3, z4⟩ := hW
        go_simp
        try with_reducible rfl
      try simp only [List.getElem_toArray, List.getElem_cons_zero, List.getElem_cons_succ, Act.put, List.setIfInBounds_toArray, List.set_cons_zero, List.set_cons_succ]
      refine wpAnyN_take (i := 3) (v := ?_) rfl (by kernel_rfl) (fun _ _ _ h => h) (by rfl) (fun W hW => ?_) hS0 ?_
      rotate_left
      · obtain ⟨z0, z1, z2, z3, z4⟩ := hW
        go_simp
        try with_reducible rfl
      try simp only [List.getElem_toArray, List.getElem_cons_zero, List.getElem_cons_succ, Act.put, List.setIfInBounds_toArray, List.set_cons_zero, List.set_cons_succ]
      refine wpAnyN_take (i := 4) (v := ?_) rfl (by kernel_rfl) (fun _ _ _ h => h) (by rfl) (fun W hW => ?_) hS0 ?_
      rotate_left
      · obtain ⟨z0, z1, z2, z3, z4⟩ := hW
        go_simp
        try with_reducible rfl
      try simp only [List.getElem_toArray, List.getElem_cons_zero, List.getElem_cons_succ, Act.put, List.setIfInBounds_toArray, List.set_cons_zero, List.set_cons_succ]
      refine wpAnyN_take (i := 5) (v := ?_) rfl (by kernel_rfl) (fun _ _ _ h => h) (by rfl) (fun W hW => ?_) hS0 ?_
      rotate_left
      · obtain ⟨z0, z1, z2, z3, z4⟩ := hW
        go_simp
        try with_reducible rfl
      try simp only [List.getElem_toArray, List.getElem_cons_zero, List.getElem_cons_succ, Act.put, List.setIfInBounds_toArray, List.set_cons_zero, List.set_cons_succ]
      refine wpAnyN_take (i := 6) (v := ?_) rfl (by kernel_rfl) (fun _ _ _ h => h) (by rfl) (fun W hW => ?_) hS0 ?_
      rotate_left
      · obtain ⟨z0, z1, z2, z3, z4⟩ := hW
        go_simp
        try with_reducible rfl
      try simp only [List.getElem_toArray, List.getElem_cons_zero, List.getElem_cons_succ, Act.put, List.setIfInBounds_toArray, List.set_cons_zero, List.set_cons_succ]
      refine wpAnyN_take (i := 7) (v := ?_) rfl (by kernel_rfl) (fun _ _ _ h => h) (by rfl) (fun W hW => ?_) hS0 ?_
      rotate_left
      · obtain ⟨z0, z1, z2, z3, z4⟩ := hW
        go_simp
        try with_reducible rfl
      try simp only [List.getElem_toArray, List.getElem_cons_zero, List.getElem_cons_succ, Act.put, List.setIfInBounds_toArray, List.set_cons_zero, List.set_cons_succ]
      refine wpAnyN_take (i := 8) (v := ?_) rfl (by kernel_rfl) (fun _ _ _ h => h) (by rfl) (fun W hW => ?_) hS0 ?_
      rotate_left
      · obtain ⟨z0, z1, z2, z3, z4⟩ := hW
        go_simp
        try with_reducible rfl
      try simp only [List.getElem_toArray, List.getElem_cons_zero, List.getElem_cons_succ, Act.put, List.setIfInBounds_toArray, List.set_cons_zero, List.set_cons_succ]
      refine wpAnyN_take (i := 9) (v := ?_) rfl (by kernel_rfl) (fun _ _ _ h => h) (by rfl) (fun W hW => ?_) hS0 ?_
      rotate_left
      · obtain ⟨z0, z1, z2, z3, z4⟩ := hW
        go_simp
        try with_reducible rfl
      try simp only [List.getElem_toArray, List.getElem_cons_zero, List.getElem_cons_succ, Act.put, List.setIfInBounds_toArray, List.set_cons_zero, List.set_cons_succ]
      refine wpAnyN_next (i := 10) rfl (by kernel_rfl) (fun K hK => ?_)
      go_simp
      go_wp2_with (go_at_call 82; refine (LC.out _).mono ?_; rintro e w10 ⟨rfl, hb10⟩)
      have bm : Below wr.heap.size wr w10 := (Below.refl _ _).drew.trans hb10
      have M10 := Lib.hid (P.out.next bm)
      have M11 := Lib.hid (M10.out.alloc (.cells #[.string z.l, .int .i64 z.a, .int .i64 z.b] 82))
      refine hK.out _ _ (fun _ => HS2.out _ M10.out.x M10.out.e) ?_
      clear hK K
      try simp only [List.getElem_toArray, List.getElem_cons_zero, List.getElem_cons_succ, Act.put, List.setIfInBounds_toArray, List.set_cons_zero, List.set_cons_succ]
      refine wpAnyN_next (i := 11) rfl (by kernel_rfl) (fun K hK => ?_)
      go_simp
      refine hK.out _ _ (fun _ => HS2.out _ M11.out.x M11.out.e) ?_
      clear hK K hS0
      try simp only [List.getElem_toArray, List.getElem_cons_zero, List.getElem_cons_succ, Act.put, List.setIfInBounds_toArray, List.set_cons_zero, List.set_cons_succ]
      refine wpAnyN_next (i := 12) rfl (by kernel_rfl) (fun K hK => ?_)
      refine step_pushH (by rfl) _ _ _ (by rfl) w.heap.size 82 3 32 elem_rule Fac.cells A1 n1 c1 cur (by rfl) M11.out.q _ z #[.string z.l, .int .i64 z.a, .int .i64 z.b] 82 (0, 0) (by rfl) (heap_alloc_new _ _) rfl rfl (one_fac _) (by omega) (by omega) (by unfold maxLen; omega) M11.out.e.size ?_
      intro A8 c8 w8 own8 hg8 hat8
      have M12 := Lib.hid (M11.out.app own8 hg8)
      have M13 := Lib.hid (M11.out.push own8 hg8)
      have d8 := M12.out.2.2.1.cell 0
      have f8 := M12.out.2.2.1.frozen
      have l8 := M12.out.2.2.1.lt
      have hS1 := HS2.out _ M12.out.2.2.1 M12.out.2.2.2
      refine hK.out _ _ (fun _ => hS1) ?_
      clear hK K own8 hg8 hat8
      try simp only [List.getElem_toArray, List.getElem_cons_zero, List.getElem_cons_succ, Act.put, List.setIfInBounds_toArray, List.set_cons_zero, List.set_cons_succ]
      refine wpAnyN_next (i := 13) rfl (by kernel_rfl) (fun K hK => ?_)
      go_simp
      refine hK.out _ _ (fun _ => hS1) ?_
      clear hK K hS1
      try simp only [List.getElem_toArray, List.getElem_cons_zero, List.getElem_cons_succ, Act.put, List.setIfInBounds_toArray, List.set_cons_zero, List.set_cons_succ]
      refine wpAnyN_next (i := 14) rfl (by kernel_rfl) (fun K hK => ?_)
      go_simp
      refine hK.out _ _ (fun h => absurd h (by decide)) ?_
      clear hK K
      refine wpAnyN_done (by kernel_rfl) ?_ _
      clear d8 f8 l8
      go_wp2_with fail
      go_roundw
      case rel => exact ⟨j + 1, A8, n1 + 1, c8, cur ++ [z], by go_num, by omega, Lib.hid (by have := hn1.out; omega), Lib.hid (by rw [Hrt.out, ← List.append_assoc, hcur.out]), Lib.hid (by rw [List.length_append, hcl.out]; rfl), M13⟩
      case measure => simp [intOf]; omega
    · have hjm : j = m := by omega
      have hcur' := hcur.out
      rw [hjm, show hs.take m = hs from List.take_of_length_le (by rw [HM.out]; omega)] at hcur'
      clear hcur hjm
      have hcur := Lib.hid hcur'
      clear hcur'
      have HS2 := Lib.hid (fun (W : World) (M : Blk W G 26 #[.slice A1 n1 c1]) (he : Below w.heap.size w W) =>
        show W.cell? ⟨G, 0, none⟩ = some (.slice A1 n1 c1) ∧ W.cell? ⟨hb, 0, none⟩ = some (.slice Ah m ch) from ⟨M.cell 0, (HC.out W he).2.1⟩)
      have hS0 := HS2.out wr.drew P.out.drew.x P.out.drew.e
      have u1 : IntKind.i64.wrap ((n : Int) - 1) = (n : Int) - 1 := by rw [IntWalk.i64_in _ (by omega)]
      have u2 : IntKind.i64.wrap ((n : Int) + m) = (n : Int) + m := by rw [IntWalk.i64_in _ (by omega)]
      have u3 : IntKind.i64.wrap ((n : Int) + m - 1) = (n : Int) + m - 1 := by rw [IntWalk.i64_in _ (by omega)]
      go_wp2_with fail
      clear q0 q1 q2 q3
      refine wp_region_N (fun W => W.cell? ⟨G, 0, none⟩ = some (.slice A1 n1 c1) ∧ W.cell? ⟨hb, 0, none⟩ = some (.slice Ah m ch)) [16] (by kernel_rfl) ?_
      refine wpAnyN_take (i := 0) (v := ?_) rfl (by kernel_rfl) (fun _ _ _ h => h) (by rfl) (fun W hW => ?_) hS0 ?_
      rotate_left
      · obtain ⟨z0, z1⟩ := hW
        go_simp
        try with_reducible rfl
      try simp only [List.getElem_toArray, List.getElem_cons_zero, List.getElem_cons_succ, Act.put, List.setIfInBounds_toArray, List.set_cons_zero, List.set_cons_succ]
      refine wpAnyN_take (i := 1) (v := ?_) rfl (by kernel_rfl) (fun _ _ _ h => h) (by rfl) (fun W hW => ?_) hS0 ?_
      rotate_left
      · obtain ⟨z0, z1⟩ := hW
        go_simp
        try with_reducible rfl
      try simp only [List.getElem_toArray, List.getElem_cons_zero, List.getElem_cons_succ, Act.put, List.setIfInBounds_toArray, List.set_cons_zero, List.set_cons_succ]
      refine wpAnyN_take (i := 2) (v := ?_) rfl (by kernel_rfl) (fun _ _ _ h => h) (by rfl) (fun W hW => ?_) hS0 ?_
      rotate_left
      · obtain ⟨z0, z1⟩ := hW
        go_simp
        try with_reducible rfl
      try simp only [List.getElem_toArray, List.getElem_cons_zero, List.getElem_cons_succ, Act.put, List.setIfInBounds_toArray, List.set_cons_zero, List.set_cons_succ]
      refine wpAnyN_take (i := 3) (v := ?_) rfl (by kernel_rfl) (fun _ _ _ h => h) (by rfl) (fun W hW => ?_) hS0 ?_
      rotate_left
      · obtain ⟨z0, z1⟩ := hW
        go_simp
        try with_reducible rfl
      try simp only [List.getElem_toArray, List.getElem_cons_zero, List.getElem_cons_succ, Act.put, List.setIfInBounds_toArray, List.set_cons_zero, List.set_cons_succ]
      refine wpAnyN_take (i := 4) (v := ?_) rfl (by kernel_rfl) (fun _ _ _ h => h) (by rfl) (fun W hW => ?_) hS0 ?_
      rotate_left
      · obtain ⟨z0, z1⟩ := hW
        go_simp
        try with_reducible rfl
      try simp only [List.getElem_toArray, List.getElem_cons_zero, List.getElem_cons_succ, Act.put, List.setIfInBounds_toArray, List.set_cons_zero, List.set_cons_succ]
      refine wpAnyN_take (i := 5) (v := ?_) rfl (by kernel_rfl) (fun _ _ _ h => h) (by rfl) (fun W hW => ?_) hS0 ?_
      rotate_left
      · obtain ⟨z0, z1⟩ := hW
        go_simp
        try with_reducible rfl
      try simp only [List.getElem_toArray, List.getElem_cons_zero, List.getElem_cons_succ, Act.put, List.setIfInBounds_toArray, List.set_cons_zero, List.set_cons_succ]
      refine wpAnyN_take (i := 6) (v := ?_) rfl (by kernel_rfl) (fun _ _ _ h => h) (by rfl) (fun W hW => ?_) hS0 ?_
      rotate_left
      · obtain ⟨z0, z1⟩ := hW
        go_simp
        try with_reducible rfl
      try simp only [List.getElem_toArray, List.getElem_cons_zero, List.getElem_cons_succ, Act.put, List.setIfInBounds_toArray, List.set_cons_zero, List.set_cons_succ]
      refine wpAnyN_take (i := 7) (v := ?_) rfl (by kernel_rfl) (fun _ _ _ h => h) (by rfl) (fun W hW => ?_) hS0 ?_
      rotate_left
      · obtain ⟨z0, z1⟩ := hW
        go_simp
        try with_reducible rfl
      try simp only [List.getElem_toArray, List.getElem_cons_zero, List.getElem_cons_succ, Act.put, List.setIfInBounds_toArray, List.set_cons_zero, List.set_cons_succ]
      refine wpAnyN_take (i := 8) (v := ?_) rfl (by kernel_rfl) (fun _ _ _ h => h) (by rfl) (fun W hW => ?_) hS0 ?_
      rotate_left
      · obtain ⟨z0, z1⟩ := hW
        go_simp
        try with_reducible rfl
      try simp only [List.getElem_toArray, List.getElem_cons_zero, List.getElem_cons_succ, Act.put, List.setIfInBounds_toArray, List.set_cons_zero, List.set_cons_succ]
      refine wpAnyN_take (i := 9) (v := ?_) rfl (by kernel_rfl) (fun _ _ _ h => h) (by rfl) (fun W hW => ?_) hS0 ?_
      rotate_left
      · obtain ⟨z0, z1⟩ := hW
        go_simp
        try with_reducible rfl
      try simp only [List.getElem_toArray, List.getElem_cons_zero, List.getElem_cons_succ, Act.put, List.setIfInBounds_toArray, List.set_cons_zero, List.set_cons_succ]
      refine wpAnyN_take (i := 10) (v := ?_) rfl (by kernel_rfl) (fun _ _ _ h => h) (by rfl) (fun W hW => ?_) hS0 ?_
      rotate_left
      · obtain ⟨z0, z1⟩ := hW
        go_simp
        try with_reducible rfl
      try simp only [List.getElem_toArray, List.getElem_cons_zero, List.getElem_cons_succ, Act.put, List.setIfInBounds_toArray, List.set_cons_zero, List.set_cons_succ]
      refine wpAnyN_take (i := 11) (v := ?_) rfl (by kernel_rfl) (fun _ _ _ h => h) (by rfl) (fun W hW => ?_) hS0 ?_
      rotate_left
      · obtain ⟨z0, z1⟩ := hW
        go_simp
        try with_reducible rfl
      try simp only [List.getElem_toArray, List.getElem_cons_zero, List.getElem_cons_succ, Act.put, List.setIfInBounds_toArray, List.set_cons_zero, List.set_cons_succ]
      refine wpAnyN_take (i := 12) (v := ?_) rfl (by kernel_rfl) (fun _ _ _ h => h) (by rfl) (fun W hW => ?_) hS0 ?_
      rotate_left
      · obtain ⟨z0, z1⟩ := hW
        go_simp
        try with_reducible rfl
      try simp only [List.getElem_toArray, List.getElem_cons_zero, List.getElem_cons_succ, Act.put, List.setIfInBounds_toArray, List.set_cons_zero, List.set_cons_succ]
      refine wpAnyN_next (i := 13) rfl (by kernel_rfl) (fun K hK => ?_)
      go_simp
      have M11 := Lib.hid (P.out.drew.alloc (.cells #[.string ⟨#[]⟩, .int .i64 ((n : Int) - 1), .int .i64 ((n : Int) + m - 1)] 82))
      refine hK.out _ _ (fun _ => HS2.out _ M11.out.x M11.out.e) ?_
      clear hK K hS0
      try simp only [List.getElem_toArray, List.getElem_cons_zero, List.getElem_cons_succ, Act.put, List.setIfInBounds_toArray, List.set_cons_zero, List.set_cons_succ]
      refine wpAnyN_next (i := 14) rfl (by kernel_rfl) (fun K hK => ?_)
      refine step_pushH (by rfl) _ _ _ (by rfl) w.heap.size 82 3 32 elem_rule Fac.cells A1 n1 c1 cur (by rfl) M11.out.q _ ⟨⟨#[]⟩, (n : Int) - 1, (n : Int) + m - 1⟩ #[.string ⟨#[]⟩, .int .i64 ((n : Int) - 1), .int .i64 ((n : Int) + m - 1)] 82 (0, 0) (by rfl) (heap_alloc_new _ _) rfl rfl (one_fac _) (by omega) (by omega) (by unfold maxLen; omega) M11.out.e.size ?_
      intro A8 c8 w8 own8 hg8 hat8
      have M12 := Lib.hid (M11.out.app own8 hg8)
      have M13 := Lib.hid (M11.out.push own8 hg8)
      have d8 := M12.out.2.2.1.cell 0
      have f8 := M12.out.2.2.1.frozen
      have l8 := M12.out.2.2.1.lt
      have hS1 := HS2.out _ M12.out.2.2.1 M12.out.2.2.2
      refine hK.out _ _ (fun _ => hS1) ?_
      clear hK K own8 hg8 hat8
      try simp only [List.getElem_toArray, List.getElem_cons_zero, List.getElem_cons_succ, Act.put, List.setIfInBounds_toArray, List.set_cons_zero, List.set_cons_succ]
      refine wpAnyN_next (i := 15) rfl (by kernel_rfl) (fun K hK => ?_)
      go_simp
      refine hK.out _ _ (fun _ => hS1) ?_
      clear hK K hS1
      try simp only [List.getElem_toArray, List.getElem_cons_zero, List.getElem_cons_succ, Act.put, List.setIfInBounds_toArray, List.set_cons_zero, List.set_cons_succ]
      refine wpAnyN_next (i := 16) rfl (by kernel_rfl) (fun K hK => ?_)
      go_simp
      refine hK.out _ _ (fun h => absurd h (by decide)) ?_
      clear hK K
      refine wpAnyN_done (by kernel_rfl) ?_ _
      clear d8 f8 l8
      generalize hw13 : w8.setCell ⟨G, 0, none⟩ (.slice A8 (n1 + 1) c8) = w13 at *
      have r7 := M13.out.r.cell 0
      have f7 := M13.out.r.frozen
      have l7 := M13.out.r.lt
      have g7 := M13.out.x.cell 0
      have B8 := M13.out.r.set_ 0 (.slice A8 (n1 + 1) c8)
      have x8 : (w13.setCell ⟨w.heap.size, 0, none⟩ (.slice A8 (n1 + 1) c8)).cell? ⟨w.heap.size, 0, none⟩ = some (.slice A8 (n1 + 1) c8) := by rw [B8.cell 0]; rfl
      have b8 := M13.out.e.setCell (p := ⟨w.heap.size, 0, none⟩) (Nat.le_refl _) (.slice A8 (n1 + 1) c8)
      have O8 := Lib.hid (own_kept' (i := 0) M13.out.q M13.out.r (by decide) (.slice A8 (n1 + 1) c8))
      clear B8 hw13
      go_wp2_with fail
      refine bodyPost_ret (v := .agg #[.slice A8 (n1 + 1) c8]) (by simp [results, Try.results40, go_sem, x8]) rfl (show RetG w (joinL gs hs) _ _ from ⟨A8, c8, ?_, ?_, b8⟩)
      · rw [HJ.out, hcur.out, List.length_append, hcl.out]; rfl
      · rw [HJ.out, hcur.out, List.length_append, hcl.out]; exact O8.out
theorem join_sz {gs hs : List Fac} (hg : WF gs) (hh : WF hs) : ∀ f ∈ joinL gs hs, f.l.size ≤ maxLen := wf_sz (join_wf hg hh)
theorem join_len {gs hs : List Fac} (h0 : gs.length ≤ 400) (h1 : hs.length ≤ 400) : (joinL gs hs).length ≤ 801 := by
  unfold joinL
  split
  · omega
  · split
    · omega
    · simp only [List.length_append, raiseL_len, List.length_singleton]; omega
theorem join_pos {gs hs : List Fac} (h0 : 0 < gs.length) : 0 < (joinL gs hs).length := by
  unfold joinL
  split
  · omega
  · split
    · omega
    · simp only [List.length_append, List.length_singleton]; omega
set_option maxHeartbeats 4000000 in
set_option maxRecDepth 100000 in
theorem joinG_any (A : Option Addr) (n c : Nat) (gs : List Fac) (Ah : Option Addr) (m ch : Nat) (hs : List Fac) (w : World)
    (hn0 : 0 < n) (hm0 : 0 < m) (hr : Rd w w.heap.size A n 3 Fac.cells gs) (hr2 : Rd w w.heap.size Ah m 3 Fac.cells hs) (hg : WF gs) (hh : WF hs) (h1 : (gOk gs).isSome = true) (h2 : (gOk hs).isSome = true) :
    Calls Try.prog 12 #[.agg #[.slice A n c], .agg #[.slice Ah m ch]] w (RetGC w (limF (joinL gs hs)) (limC (joinL gs hs))) := by
  have hl1 := hr.len
  have hl2 := hr2.len
  have hn : n ≤ 400 := by obtain ⟨ls, hls⟩ := Option.isSome_iff_exists.1 h1; have := (gOk_lens hls).2.1; omega
  have hm : m ≤ 400 := by obtain ⟨ls, hls⟩ := Option.isSome_iff_exists.1 h2; have := (gOk_lens hls).2.1; omega
  have HR := Lib.hid hr; have H2 := Lib.hid hr2
  have HWg := Lib.hid hg; have HWh := Lib.hid hh
  have HS := Lib.hid (join_sz hg hh)
  have Hjl := Lib.hid (join_len (gs := gs) (hs := hs) (by omega) (by omega))
  have HO1 := Lib.hid h1; have HO2 := Lib.hid h2
  have Z1 := Lib.hid (wf_sz hg); have Z2 := Lib.hid (wf_sz hh)
  clear hr hr2 hl1 hl2 hg hh h1 h2
  go_enter Try.func12, Try.ntmps12
  go_wp2_with fail
  refine namedC fun w1 H1 => ?_
  have hb1 : Below w.heap.size w w1 := by rw [H1.out]; (repeat first | exact Below.refl _ _ | assumption | refine Below.drew ?_ | refine Below.alloc ?_ (by first | exact Nat.le_refl _ | (simp; done) | omega | (simp; omega)) _ | refine Below.setCell ?_ (by first | exact Nat.le_refl _ | (simp; done) | omega | (simp; omega)) _)
  have BG := Lib.hid (show Blk w1 w.heap.size 26 #[.slice A n c] by rw [H1.out]; exact ((Blk.new _ _ _).alloc _).alloc _)
  have BH := Lib.hid (show Blk w1 (w.heap.size + 1) 26 #[.slice Ah m ch] by rw [H1.out]; simpa using (Blk.new (w.alloc (.cells #[.slice A n c] 26)) 26 #[.slice Ah m ch]).alloc (.cells #[.slice none 0 0] 26))
  have BR := Lib.hid (show Blk w1 (w.heap.size + 2) 26 #[.slice none 0 0] by rw [H1.out]; simpa using Blk.new ((w.alloc (.cells #[.slice A n c] 26)).alloc (.cells #[.slice Ah m ch] 26)) 26 #[.slice none 0 0])
  clear H1
  refine (l02Ok_any w.heap.size A n c gs w1 BG.out.lt (BG.out.cell 0) (by omega) (HR.out.next hb1) Z1.out true HO1.out).mono ?_
  rintro e w2 ⟨rfl, hb2⟩
  have b2 := Lib.hid (hb1.trans (hb2.mono hb1.size))
  have BG2 := Lib.hid (BG.out.next hb2)
  have BH2 := Lib.hid (BH.out.next hb2)
  have BR2 := Lib.hid (BR.out.next hb2)
  clear BG BH BR hb1 hb2
  go_wp2_with fail
  refine (l02Ok_any (w.heap.size + 1) Ah m ch hs w2 BH2.out.lt (BH2.out.cell 0) (by omega) (H2.out.next b2.out) Z2.out true HO2.out).mono ?_
  rintro e w3 ⟨rfl, hb3⟩
  have b3 := Lib.hid (b2.out.trans (hb3.mono b2.out.size))
  have BG3 := Lib.hid (BG2.out.next hb3)
  have BH3 := Lib.hid (BH2.out.next hb3)
  have BR3 := Lib.hid (BR2.out.next hb3)
  clear BG2 BH2 BR2 hb3 b2
  go_wp2_with fail
  refine (l02Join_any w.heap.size (w.heap.size + 1) A n c gs Ah m ch hs w3 BG3.out.lt (BG3.out.cell 0) BH3.out.lt (BH3.out.cell 0) hn0 hn hm0 hm (HR.out.next b3.out) (H2.out.next b3.out) HWh.out).mono ?_
  generalize joinL gs hs = J at *
  rintro e w4 ⟨A4, c4, rfl, own4, hb4⟩
  have b4 := Lib.hid (b3.out.trans (hb4.mono b3.out.size))
  have O4 := Lib.hid (own4.mono b3.out.size)
  have BR4 := Lib.hid (BR3.out.next hb4)
  clear own4 hb4 b3 BG3 BH3 BR3
  rcases hok : (gOk J).isSome with _ | _
  · have Hok := Lib.hid hok
    have HF := Lib.hid (show limF J = [] by unfold limF; rw [hok]; rfl)
    have HC := Lib.hid (show limC J = 3 by unfold limC; rw [hok]; rfl)
    clear hok
    go_wp2_with fail
    refine (l02Told_no A4 J.length c4 J w4 (by have := Hjl.out; omega) (Rd.of_own (fun x _ => fac_len x) rfl O4.out) HS.out Hok.out).mono ?_
    rintro e w7 ⟨rfl, hb7⟩
    have B7 := BR4.out.next hb7
    have b7 := b4.out.trans (hb7.mono b4.out.size)
    have r7 := B7.cell 0
    have f7 := B7.frozen
    have l7 := B7.lt
    have x8 : (w7.setCell ⟨w.heap.size + 2, 0, none⟩ (.slice none 0 0)).cell? ⟨w.heap.size + 2, 0, none⟩ = some (.slice none 0 0) := by rw [(B7.set_ 0 (.slice none 0 0)).cell 0]; rfl
    have b8 := b7.setCell (p := ⟨w.heap.size + 2, 0, none⟩) (by simp) (.slice none 0 0)
    clear B7
    go_wp2_with fail
    exact bodyPost_ret (v := .tuple #[.agg #[.slice none 0 0], .int .i64 3]) (by simp [results, Try.results12, go_sem, x8]) rfl ⟨none, 0, by rw [HF.out, HC.out]; rfl, by rw [HF.out]; exact World.ownsRow_nil _ _ _ _, b8⟩
  · have Hok := Lib.hid hok
    have HF := Lib.hid (show limF J = J by unfold limF; rw [hok]; rfl)
    have HC := Lib.hid (show limC J = 0 by unfold limC; rw [hok]; rfl)
    clear hok
    go_wp2_with fail
    refine (l02Told_yes A4 J.length c4 J w4 (by have := Hjl.out; omega) (Rd.of_own (fun x _ => fac_len x) rfl O4.out) HS.out Hok.out).mono ?_
    rintro e w7 ⟨rfl, hb7⟩
    have B7 := Lib.hid (BR4.out.next hb7)
    have b7 := b4.out.trans (hb7.mono b4.out.size)
    have O7 := Lib.hid (own_next O4.out hb7)
    have r7 := B7.out.cell 0
    have f7 := B7.out.frozen
    have l7 := B7.out.lt
    have x8 : (w7.setCell ⟨w.heap.size + 2, 0, none⟩ (.slice A4 J.length c4)).cell? ⟨w.heap.size + 2, 0, none⟩ = some (.slice A4 J.length c4) := by rw [(B7.out.set_ 0 (.slice A4 J.length c4)).cell 0]; rfl
    have b8 := b7.setCell (p := ⟨w.heap.size + 2, 0, none⟩) (by simp) (.slice A4 J.length c4)
    have O8 := Lib.hid (own_kept' (i := 0) O7.out B7.out (by decide) (.slice A4 J.length c4))
    go_wp2_with fail
    exact bodyPost_ret (v := .tuple #[.agg #[.slice A4 J.length c4], .int .i64 0]) (by simp [results, Try.results12, go_sem, x8]) rfl ⟨A4, c4, by rw [HF.out, HC.out], by rw [HF.out]; exact O8.out, b8⟩
end Go.Proofs.Ytgdbpkpaacbhhaa


/-
  The words that a law draws.
-/
namespace Go.Proofs.Ytgdbpkpaacbhhaa
open Go.RowKit

/-- a list of bytes, as the walk reads it -/
theorem Rd.bytes {w : World} {B n : Nat} {A : Option Addr} {zs : List Int} (h : Rd w B A n 1 (fun z => [.int .u8 z]) zs) (ok : ∀ z ∈ zs, 0 ≤ z ∧ z < 256) : Rd w B A n 1 byteE (zs.map fun z => UInt8.ofNat z.toNat) := by
  refine ⟨by rw [List.length_map]; exact h.len, fun hn => ?_⟩
  obtain ⟨b, o, hA, hb, hc⟩ := h.2 hn
  refine ⟨b, o, hA, hb, fun k x hx j v hv => ?_⟩
  rw [List.getElem?_map] at hx
  obtain ⟨z, hz, rfl⟩ := Option.map_eq_some_iff.1 hx
  obtain ⟨h0, h1⟩ := ok z (List.mem_of_getElem? hz)
  obtain ⟨m, rfl⟩ := Int.eq_ofNat_of_zero_le h0
  have e : (UInt8.ofNat m).toNat = m := by rw [UInt8.toNat_ofNat']; omega
  have := hc k _ hz j v (by
    rcases j with _ | j
    · simpa [byteE, e] using hv
    · simp [byteE] at hv)
  exact this

theorem f6big_any (A : Option Addr) (n c : Nat) (w : World) (hn : n ≤ maxLen) (b : Bool) (hb : decide (4096 < n) = b) :
    Calls Try.prog 6 #[.slice A n c] w (Ret (.bool b) w) := by
  unfold maxLen at hn
  have e := Lib.hid (show decide ((4096 : Int) < (n : Int)) = b by rw [← hb, decide_eq_decide]; omega)
  clear hb
  go_enter Try.func6, Try.ntmps6
  go_wp2
  go_ret
  exact ⟨ret_bool e.out, Below.refl _ _⟩
def SrcNew (w : World) (e : Ending) (w' : World) : Prop := ∃ g, e = .returned (.pointer (some ⟨g, 0, none⟩)) ∧ w.heap.size ≤ g ∧ Src w' g 0 ∧ Below w.heap.size w w'
theorem l00From_any (A : Option Addr) (n c : Nat) (bs : List UInt8) (w : World) (hn : n ≤ 4096) (hr : Rd w w.heap.size A n 1 byteE bs) :
    Calls Try.prog 32 #[.slice A n c] w (SrcNew w) := by
  go_enter Try.func32, Try.ntmps32
  go_wp2_with fail
  go_ret
  exact ⟨w.heap.size, rfl, Nat.le_refl _, ⟨A, n, c, 0, bs, 0, Nat.le_refl _, hn, ⟨by omega, by omega⟩, Blk.new _ _ _, hr.below (by (repeat first | exact Below.refl _ _ | assumption | refine Below.drew ?_ | refine Below.alloc ?_ (by first | exact Nat.le_refl _ | (simp; done) | omega | (simp; omega)) _ | refine Below.setCell ?_ (by first | exact Nat.le_refl _ | (simp; done) | omega | (simp; omega)) _))⟩, by (repeat first | exact Below.refl _ _ | assumption | refine Below.drew ?_ | refine Below.alloc ?_ (by first | exact Nat.le_refl _ | (simp; done) | omega | (simp; omega)) _ | refine Below.setCell ?_ (by first | exact Nat.le_refl _ | (simp; done) | omega | (simp; omega)) _)⟩
/-- what a drawn word leaves -/
def WordPost (w : World) (most : Int) (e : Ending) (w' : World) : Prop := ∃ s : ByteArray, e = .returned (.string s) ∧ (s.size : Int) ≤ most ∧ s.data.toList.all letB = true ∧ Below w.heap.size w w'
end Go.Proofs.Ytgdbpkpaacbhhaa


/-
  The grammars that a law draws.
-/
namespace Go.Proofs.Ytgdbpkpaacbhhaa
open Go.RowKit

/-- a grammar that is drawn, in memory of its own -/
def GrNew (w : World) (most : Int) (e : Ending) (w' : World) : Prop :=
  ∃ A c rs, e = .returned (.agg #[.slice A rs.length c]) ∧ DgOk rs most ∧ w'.ownsRow w.heap.size 82 3 (.slice A rs.length c) rs.length (rs.flatMap Fac.cells) ∧ Below w.heap.size w w'
theorem DgOk.gok {rs : List Fac} {most : Int} (h : DgOk rs most) : (gOk rs).isSome = true := small_ok h.wf (by have := h.few; omega)
set_option maxHeartbeats 1000000 in
theorem p6Grammar_any (A : Option Addr) (n c : Nat) (bs : List UInt8) (w : World) (hn : n ≤ 4096) (hr : Rd w w.heap.size A n 1 byteE bs) :
    Calls Try.prog 7 #[.slice A n c] w (GrNew w 8) := by
  have HR := Lib.hid hr; clear hr
  go_enter Try.func7, Try.ntmps7
  go_wp2_with fail
  refine namedC fun w0 H0 => ?_
  have hb0 : Below w.heap.size w w0 := by rw [H0.out]; (repeat first | exact Below.refl _ _ | assumption | refine Below.drew ?_ | refine Below.alloc ?_ (by first | exact Nat.le_refl _ | (simp; done) | omega | (simp; omega)) _ | refine Below.setCell ?_ (by first | exact Nat.le_refl _ | (simp; done) | omega | (simp; omega)) _)
  have B0 := Lib.hid (show Blk w0 w.heap.size 26 #[.slice none 0 0] by rw [H0.out]; exact Blk.new _ _ _)
  clear H0
  refine (l00From_any A n c bs w0 hn (HR.out.next hb0)).mono ?_
  rintro e w1 ⟨g, rfl, hg, s1, hb1⟩
  have b1 := hb0.trans (hb1.mono hb0.size)
  have B1 := Lib.hid (B0.out.next hb1)
  have hlt := B0.out.lt
  go_wp2_with fail
  refine (l02Drawn_any g 0 8 w1 s1 (by omega) (by omega) (by omega)).mono ?_
  rintro e w2 ⟨A2, c2, rs, rfl, ok, own2, s2, g2⟩
  have B2 := Lib.hid (B1.out.grown g2 (by intro e; injection e with e; omega))
  have b2 := Lib.hid (b1.grown g2 b1.size (fun k e => by injection e; omega))
  have O2 := Lib.hid (own_kept' (i := 0) (own2.mono b1.size) B2.out (by decide) (.slice A2 rs.length c2))
  have Ok := Lib.hid ok
  have r0 := B2.out.cell 0
  have rf := B2.out.frozen
  have rl := B2.out.lt
  have x5 := (B2.out.set_ 0 (.slice A2 rs.length c2)).cell 0
  have b3 := Lib.hid (b2.out.setCell (p := ⟨w.heap.size, 0, none⟩) (Nat.le_refl _) (.slice A2 rs.length c2))
  clear own2 s2 g2 ok
  go_wp2_with fail
  refine bodyPost_ret (v := .agg #[.slice A2 rs.length c2]) (by simp [results, Try.results7, go_sem]; rw [x5]; rfl) rfl ?_
  exact ⟨A2, c2, rs, rfl, Ok.out, O2.out, b3.out⟩
end Go.Proofs.Ytgdbpkpaacbhhaa


/-
  The draw of a grammar of a long word: it is valid, and its word is not too long.
-/
namespace Go.Proofs.Ytgdbpkpaacbhhaa
open Go.RowKit

/-- a slice value holds a grammar that is right -/
def GrAt (w : World) (B : Nat) (V : Value) : Prop := ∃ A c rs, V = .slice A rs.length c ∧ GrIn w B A c rs
theorem GrIn.next {w w' : World} {B : Nat} {A : Option Addr} {c : Nat} {rs : List Fac} (h : GrIn w B A c rs) (hb : Below w.heap.size w w') : GrIn w' B A c rs := ⟨h.wf, h.pos, h.ok, own_next h.own hb⟩
theorem GrIn.mono {w : World} {B B' : Nat} {A : Option Addr} {c : Nat} {rs : List Fac} (h : GrIn w B A c rs) (hB : B' ≤ B) : GrIn w B' A c rs := ⟨h.wf, h.pos, h.ok, h.own.mono hB⟩
theorem GrAt.mono {w : World} {B B' : Nat} {V : Value} (h : GrAt w B V) (hB : B' ≤ B) : GrAt w B' V := by obtain ⟨A, c, rs, e, h⟩ := h; exact ⟨A, c, rs, e, h.mono hB⟩
theorem GrAt.next {w w' : World} {B : Nat} {V : Value} (h : GrAt w B V) (hb : Below w.heap.size w w') : GrAt w' B V := by obtain ⟨A, c, rs, e, h⟩ := h; exact ⟨A, c, rs, e, h.next hb⟩
theorem GrAt.alloc {w : World} {B : Nat} {V : Value} (h : GrAt w B V) (o : Obj) : GrAt (w.alloc o) B V := h.next ((Below.refl _ _).alloc (Nat.le_refl _) _)
theorem GrAt.keep {w : World} {B g : Nat} {V : Value} {cs : Array Value} (h : GrAt w B V) (hB : Blk w g 26 cs) (u : Value) : GrAt (w.setCell ⟨g, 0, none⟩ u) B V := by
  obtain ⟨A, c, rs, e, h⟩ := h
  exact ⟨A, c, rs, e, h.wf, h.pos, h.ok, own_kept' (i := 0) h.own hB (by decide) u⟩
theorem GrAt.draw {w w' : World} {B g : Nat} {V : Value} (h : GrAt w B V) (hg : w.grownBy w' (some g)) (hlt : g < B) : GrAt w' B V := by
  obtain ⟨A, c, rs, e, h⟩ := h
  exact ⟨A, c, rs, e, h.wf, h.pos, h.ok, own_kept h.own hg hlt⟩
theorem GrCode.cut {w w' : World} {e : Ending} (h : GrCode w e w') : ∃ (A2 : Option Addr) (n2 c2 : Nat) (k : Int), e = .returned (.tuple #[.agg #[.slice A2 n2 c2], .int .i64 k]) ∧ Below w.heap.size w w' ∧ (k = 0 → GrAt w' w.heap.size (.slice A2 n2 c2)) := by
  rcases h with ⟨A, c, rs, rfl, h, hb⟩ | ⟨rfl, hb⟩
  · exact ⟨_, _, _, 0, rfl, hb, fun _ => ⟨A, c, rs, rfl, h⟩⟩
  · exact ⟨_, _, _, 3, rfl, hb, fun h => absurd h (by decide)⟩
/-- the draw of a long word under way -/
structure HuW (w W : World) (g K X : Nat) (A : Option Addr) (n c : Nat) (rs : List Fac) : Prop where
  q : W.ownsRow w.heap.size 82 3 (.slice A n c) n (rs.flatMap Fac.cells)
  r : Blk W w.heap.size 26 #[.slice none 0 0]
  x : Blk W X 26 #[.slice A n c]
  s : Src W g K
  e : w.grownBy W (some g)
  hg : g < w.heap.size
  hx : w.heap.size < X
section
variable {w W W' : World} {g K X : Nat} {A : Option Addr} {n c : Nat} {rs : List Fac}
theorem HuW.next (h : HuW w W g K X A n c rs) (hb : Below W.heap.size W W') : HuW w W' g K X A n c rs := ⟨own_next h.q hb, h.r.next hb, h.x.next hb, h.s.next hb, gb_next h.e hb, h.hg, h.hx⟩
theorem HuW.alloc (h : HuW w W g K X A n c rs) (o : Obj) : HuW w (W.alloc o) g K X A n c rs := h.next ((Below.refl _ _).alloc (Nat.le_refl _) _)
theorem HuW.drew (h : HuW w W g K X A n c rs) : HuW w W.drew g K X A n c rs := h.next (Below.refl _ _).drew
theorem HuW.pick {K' : Nat} (h : HuW w W g K X A n c rs) (hs : Src W' g K') (hg : W.grownBy W' (some g)) : HuW w W' g K' X A n c rs :=
  ⟨own_kept h.q hg h.hg, h.r.grown hg (by intro e; injection e with e; have := h.hg; omega), h.x.grown hg (by intro e; injection e with e; have := h.hg; have := h.hx; omega), hs, gb_trans h.e hg, h.hg, h.hx⟩
theorem HuW.far {b : Nat} {cs : Array Value} (h : HuW w W g K X A n c rs) (V : Value) (hB : Blk W b 26 cs) (hb : X < b) : HuW w (W.setCell ⟨b, 0, none⟩ V) g K X A n c rs := by
  have hg := gb_set W b 0 V
  have h1 := h.hg; have h2 := h.hx
  exact ⟨own_kept' (i := 0) h.q hB (by decide) V, h.r.grown hg (by intro e; injection e with e; omega), h.x.grown hg (by intro e; injection e with e; omega), h.s.grown hg (fun k e => by injection e with e; omega), gb_weak h.e hg (by omega), h1, h2⟩
end
theorem mul_pick {a b : Int} (a0 : 0 ≤ a) (a1 : a < 1000000) (b0 : 0 ≤ b) (b1 : b < 100000) : 0 ≤ a * b ∧ a * b ≤ 100000000000 :=
  ⟨Int.mul_nonneg a0 b0, Int.le_trans (Int.mul_le_mul (show a ≤ 1000000 by omega) (show b ≤ 100000 by omega) b0 (by decide)) (by decide)⟩
/-- what the draw of a long word leaves -/
def HuDraw (w : World) (g K : Nat) (e : Ending) (w' : World) : Prop :=
  ∃ A c rs, e = .returned (.agg #[.slice A rs.length c]) ∧ GrIn w' w.heap.size A c rs ∧ Src w' g K ∧ w.grownBy w' (some g)
theorem join_cut {w w' : World} {J : List Fac} {e : Ending} (h : RetGC w (limF J) (limC J) e w') (hw : WF J) (hp : 0 < J.length) :
    ∃ (A2 : Option Addr) (n2 c2 : Nat) (k : Int), e = .returned (.tuple #[.agg #[.slice A2 n2 c2], .int .i64 k]) ∧ Below w.heap.size w w' ∧ (k = 0 → GrAt w' w.heap.size (.slice A2 n2 c2)) := by
  obtain ⟨A, c, rfl, own, hb⟩ := h
  refine ⟨A, _, c, _, rfl, hb, fun hk => ?_⟩
  unfold limC at hk
  split at hk
  · rename_i h1
    have e : limF J = J := by unfold limF; rw [if_pos h1]
    rw [e] at own ⊢
    exact ⟨A, c, J, rfl, hw, hp, h1, own⟩
  · cases hk
theorem HuW.tell {w W : World} {g K K' X : Nat} {A A2 : Option Addr} {n c n2 c2 : Nat} {rs : List Fac} (h : HuW w W g K X A n c rs) (hG : GrAt W w.heap.size (.slice A2 n2 c2)) (hK : K ≤ K') :
    HuDraw w g K' (.returned (.agg #[.slice A2 n2 c2])) (W.setCell ⟨w.heap.size, 0, none⟩ (.slice A2 n2 c2)) := by
  have hg := gb_set W w.heap.size 0 (.slice A2 n2 c2)
  have h1 := h.hg
  obtain ⟨A', c', rs', hv, hi⟩ := hG
  injection hv with h1 h2 h3
  subst h1; subst h2; subst h3
  exact ⟨A2, c2, rs', rfl, ⟨hi.wf, hi.pos, hi.ok, own_kept' (i := 0) hi.own h.r (by decide) _⟩, (h.s.grown hg (fun k e => by injection e with e; omega)).mono hK, gb_weak h.e hg (Nat.le_refl _)⟩
theorem HuW.x8 {w W : World} {g K X : Nat} {A : Option Addr} {n c : Nat} {rs : List Fac} (h : HuW w W g K X A n c rs) (v : Value) : (W.setCell ⟨w.heap.size, 0, none⟩ v).cell? ⟨w.heap.size, 0, none⟩ = some v := by rw [(h.r.set_ 0 v).cell 0]; rfl
set_option maxHeartbeats 4000000 in
set_option maxRecDepth 100000 in
theorem l02Huge_any (g K : Nat) (w : World) (h : Src w g K) (hK : K ≤ 1000000) :
    Calls Try.prog 33 #[.pointer (some ⟨g, 0, none⟩)] w (HuDraw w g (K + 3000)) := by
  have HG := h.lt
  have H := Lib.hid h; clear h
  go_enter Try.func33, Try.ntmps33
  go_wp2_with fail
  refine namedC fun w1 H1 => ?_
  have hb1 : Below w.heap.size w w1 := by rw [H1.out]; (repeat first | exact Below.refl _ _ | assumption | refine Below.drew ?_ | refine Below.alloc ?_ (by first | exact Nat.le_refl _ | (simp; done) | omega | (simp; omega)) _ | refine Below.setCell ?_ (by first | exact Nat.le_refl _ | (simp; done) | omega | (simp; omega)) _)
  have BR := Lib.hid (show Blk w1 w.heap.size 26 #[.slice none 0 0] by rw [H1.out]; exact Blk.new _ _ _)
  clear H1
  refine (l02Drawn_any g K 1000 w1 (H.out.next hb1) (by omega) (by omega) (by omega)).mono ?_
  rintro e w2 ⟨A, c, rs, rfl, ok, own2, s2, g2⟩
  have HOk := Lib.hid ok
  obtain ⟨n, hn⟩ : ∃ n, rs.length = n := ⟨_, rfl⟩
  have hn0 : 0 < n := by have := ok.pos; omega
  have hn1 : n ≤ 400 := by have := ok.few; omega
  have HLn := Lib.hid hn
  rw [hn] at own2 ⊢
  have O2 := Lib.hid (own2.mono hb1.size)
  have BR2 := Lib.hid (BR.out.grown g2 (by intro e; injection e with e; omega))
  have E2 := Lib.hid (gb_trans (gb_below (r := some g) hb1) g2)
  have S2 := Lib.hid s2
  have hX : w.heap.size < w2.heap.size := BR2.out.lt
  clear ok own2 s2 g2 hn BR hb1 H
  go_upto_region 2 with fail
  refine named fun w3 H3 => ?_
  have P := Lib.hid (show HuW w w3 g (K + 1000) w2.heap.size A n c rs by
    rw [H3.out]
    exact ⟨O2.out.alloc _, BR2.out.alloc _, Blk.new _ _ _, S2.out.next ((Below.refl _ _).alloc (Nat.le_refl _) _), gb_next E2.out ((Below.refl _ _).alloc (Nat.le_refl _) _), HG, hX⟩)
  clear H3 O2 BR2 E2 S2
  generalize hK1 : K + 1000 = K1 at *
  go_cut [4, 5] from 6 (fun p_ k_ wx => ∃ (a4 : Nat) (A2 : Option Addr) (n2 c2 : Nat) (k : Int), p_ = .pointer (some ⟨a4, 0, none⟩) ∧ k_ = .int .i64 k ∧ Hid (HuW w wx g (K1 + 2 + 2) w2.heap.size A n c rs) ∧ Hid (Blk wx a4 26 #[.slice A2 n2 c2]) ∧ Hid (k = 0 → GrAt wx w.heap.size (.slice A2 n2 c2)) ∧ Hid (w2.heap.size < a4))
  case first =>
    refine wp_region_N (fun W => W.cell? ⟨w2.heap.size, 0, none⟩ = some (.slice A n c)) [] (by kernel_rfl) ?_
    have P_0 := Lib.hid P.out.drew
    have hS0 := P_0.out.x.cell 0
    refine wpAnyN_take (i := 0) (v := ?_) rfl (by kernel_rfl) (fun _ _ _ h => h) (by rfl) (fun W hW => ?_) hS0 ?_
    rotate_left
    · have z0 := hW
      go_simp
      try with_reducible rfl
    try simp only [List.getElem_toArray, List.getElem_cons_zero, List.getElem_cons_succ, Act.put, List.setIfInBounds_toArray, List.set_cons_zero, List.set_cons_succ]
    refine wpAnyN_take (i := 1) (v := ?_) rfl (by kernel_rfl) (fun _ _ _ h => h) (by rfl) (fun W hW => ?_) hS0 ?_
    rotate_left
    · have z0 := hW
      go_simp
      try with_reducible rfl
    try simp only [List.getElem_toArray, List.getElem_cons_zero, List.getElem_cons_succ, Act.put, List.setIfInBounds_toArray, List.set_cons_zero, List.set_cons_succ]
    refine wpAnyN_take (i := 3) (v := ?_) rfl (by kernel_rfl) (fun _ _ _ h => h) (by rfl) (fun W hW => ?_) hS0 ?_
    rotate_left
    · have z0 := hW
      go_simp
      try with_reducible rfl
    try simp only [List.getElem_toArray, List.getElem_cons_zero, List.getElem_cons_succ, Act.put, List.setIfInBounds_toArray, List.set_cons_zero, List.set_cons_succ]
    clear hS0
    clear P
    generalize w3.drew = wd at *
    refine wpAnyN_2 (i := 2) (j := 11) rfl rfl (by kernel_rfl) ?_ ?_
    · intro Kc hK
      go_simp
      go_wp2_with (go_at_call 36; refine (pick_any g K1 1000000 1000000 _ P_0.out.s (by omega) (by omega) (by omega)).mono ?_; rintro e x1 ⟨v1, rfl, v10, v11, s2, g2⟩)
      have P_1 := Lib.hid (P_0.out.pick s2 g2)
      refine hK.out _ _ (fun _ => P_1.out.x.cell 0) ?_
      clear hK Kc s2 g2 P_0
      try simp only [List.getElem_toArray, List.getElem_cons_zero, List.getElem_cons_succ, Act.put, List.setIfInBounds_toArray, List.set_cons_zero, List.set_cons_succ]
      refine wpAnyN_2 (i := 4) (j := 11) rfl rfl (by kernel_rfl) ?_ ?_
      · intro Kc hK
        go_simp
        go_wp2_with (go_at_call 36; refine (pick_any g (K1 + 2) 100000 100000 _ P_1.out.s (by omega) (by omega) (by omega)).mono ?_; rintro e x2 ⟨v2, rfl, v20, v21, s2, g2⟩)
        have P_2 := Lib.hid (P_1.out.pick s2 g2)
        refine hK.out _ _ (fun _ => P_2.out.x.cell 0) ?_
        clear hK Kc s2 g2 P_1
        try simp only [List.getElem_toArray, List.getElem_cons_zero, List.getElem_cons_succ, Act.put, List.setIfInBounds_toArray, List.set_cons_zero, List.set_cons_succ]
        have hm := mul_pick v10 v11 v20 v21
        have um1 : IntKind.i64.wrap (v1 * v2) = v1 * v2 := by rw [IntWalk.i64_in _ (by omega)]
        have um2 : IntKind.i64.wrap (1 + v1 * v2) = 1 + v1 * v2 := by rw [IntWalk.i64_in _ (by omega)]
        have hS0 := P_2.out.x.cell 0
        refine wpAnyN_take (i := 5) (v := ?_) rfl (by kernel_rfl) (fun _ _ _ h => h) (by rfl) (fun W hW => ?_) hS0 ?_
        rotate_left
        · have z0 := hW
          go_simp
          try with_reducible rfl
        try simp only [List.getElem_toArray, List.getElem_cons_zero, List.getElem_cons_succ, Act.put, List.setIfInBounds_toArray, List.set_cons_zero, List.set_cons_succ]
        refine wpAnyN_take (i := 6) (v := ?_) rfl (by kernel_rfl) (fun _ _ _ h => h) (by rfl) (fun W hW => ?_) hS0 ?_
        rotate_left
        · have z0 := hW
          go_simp
          try with_reducible rfl
        try simp only [List.getElem_toArray, List.getElem_cons_zero, List.getElem_cons_succ, Act.put, List.setIfInBounds_toArray, List.set_cons_zero, List.set_cons_succ]
        clear hS0
        clear um1 um2
        generalize v1 * v2 = t at *
        refine wpAnyN_2 (i := 7) (j := 11) rfl rfl (by kernel_rfl) ?_ ?_
        · intro Kc hK
          go_simp
          go_wp2_with (go_at_call 79; refine (powerG_any A n c rs (1 + t) _ hn0 hn1 (Rd.of_own (fun x _ => fac_len x) HLn.out P_2.out.q) HOk.out.wf HOk.out.gok (by omega) (by omega)).mono ?_; rintro e x3 hpost; obtain ⟨A2, n2, c2, k, rfl, hbl, HPk⟩ := hpost.cut)
          have P_3 := Lib.hid (P_2.out.next hbl)
          have HP := Lib.hid (fun h => (HPk h).mono P_2.out.e.size)
          refine hK.out _ _ (fun _ => P_3.out.x.cell 0) ?_
          clear hK Kc hpost hbl HPk P_2
          try simp only [List.getElem_toArray, List.getElem_cons_zero, List.getElem_cons_succ, Act.put, List.setIfInBounds_toArray, List.set_cons_zero, List.set_cons_succ]
          have hS0 := P_3.out.x.cell 0
          refine wpAnyN_take (i := 8) (v := ?_) rfl (by kernel_rfl) (fun _ _ _ h => h) (by rfl) (fun W hW => ?_) hS0 ?_
          rotate_left
          · have z0 := hW
            go_simp
            try with_reducible rfl
          try simp only [List.getElem_toArray, List.getElem_cons_zero, List.getElem_cons_succ, Act.put, List.setIfInBounds_toArray, List.set_cons_zero, List.set_cons_succ]
          refine wpAnyN_take (i := 9) (v := ?_) rfl (by kernel_rfl) (fun _ _ _ h => h) (by rfl) (fun W hW => ?_) hS0 ?_
          rotate_left
          · have z0 := hW
            go_simp
            try with_reducible rfl
          try simp only [List.getElem_toArray, List.getElem_cons_zero, List.getElem_cons_succ, Act.put, List.setIfInBounds_toArray, List.set_cons_zero, List.set_cons_succ]
          refine wpAnyN_take (i := 10) (v := ?_) rfl (by kernel_rfl) (fun _ _ _ h => h) (by rfl) (fun W hW => ?_) hS0 ?_
          rotate_left
          · have z0 := hW
            go_simp
            try with_reducible rfl
          try simp only [List.getElem_toArray, List.getElem_cons_zero, List.getElem_cons_succ, Act.put, List.setIfInBounds_toArray, List.set_cons_zero, List.set_cons_succ]
          clear hS0
          refine wpAnyN_next (i := 11) rfl (by kernel_rfl) (fun Kc hK => ?_)
          go_simp
          have P_4 := Lib.hid (P_3.out.alloc (.cells #[.slice none 0 0] 26))
          have B_4 := Lib.hid (Blk.new x3 26 #[.slice none 0 0])
          have ha4 : w2.heap.size < x3.heap.size := P_3.out.x.lt
          have HP := Lib.hid (fun h => (HP.out h).alloc (.cells #[.slice none 0 0] 26))
          refine hK.out _ _ (fun _ => P_4.out.x.cell 0) ?_
          clear hK Kc
          try simp only [List.getElem_toArray, List.getElem_cons_zero, List.getElem_cons_succ, Act.put, List.setIfInBounds_toArray, List.set_cons_zero, List.set_cons_succ]
          generalize x3.heap.size = a4 at *
          generalize x3.alloc (.cells #[.slice none 0 0] 26) = x4 at *
          clear P_3
          have BZ0 := B_4
          refine wpAnyN_next (i := 12) rfl (by kernel_rfl) (fun Kc hK => ?_)
          have b9c := B_4.out.cell 0
          have b9f := B_4.out.frozen
          have b9l := B_4.out.lt
          go_simp
          have PZ := Lib.hid (P_4.out.far (.slice A2 n2 c2) B_4.out ha4)
          have BZ := Lib.hid (B_4.out.set_ 0 (.slice A2 n2 c2))
          have OZ := Lib.hid (fun h => (HP.out h).keep BZ0.out (.slice A2 n2 c2))
          refine hK.out _ _ (fun _ => PZ.out.x.cell 0) ?_
          clear hK Kc b9c b9f b9l
          try simp only [List.getElem_toArray, List.getElem_cons_zero, List.getElem_cons_succ, Act.put, List.setIfInBounds_toArray, List.set_cons_zero, List.set_cons_succ]
          refine wpAnyN_next (i := 13) rfl (by kernel_rfl) (fun Kc hK => ?_)
          go_simp
          refine hK.out _ _ (fun _ => PZ.out.x.cell 0) ?_
          clear hK Kc
          refine wpAnyN_done (by kernel_rfl) ?_ _
          go_wp2_with fail
          go_meet
          exact ⟨a4, A2, n2, c2, k, rfl, rfl, PZ, BZ, OZ, Lib.hid (by omega)⟩
        · intro Kc hK
          go_simp
          have P_5 := Lib.hid (P_2.out.alloc (.cells #[.slice none 0 0] 26))
          have B_5 := Lib.hid (Blk.new x2 26 #[.slice none 0 0])
          have ha4 : w2.heap.size < x2.heap.size := P_2.out.x.lt
          refine hK.out _ _ (fun _ => P_5.out.x.cell 0) ?_
          clear hK Kc
          try simp only [List.getElem_toArray, List.getElem_cons_zero, List.getElem_cons_succ, Act.put, List.setIfInBounds_toArray, List.set_cons_zero, List.set_cons_succ]
          generalize x2.heap.size = a4 at *
          generalize x2.alloc (.cells #[.slice none 0 0] 26) = x5 at *
          clear P_2
          refine wpAnyN_next (i := 7) rfl (by kernel_rfl) (fun Kc hK => ?_)
          go_simp
          go_wp2_with (go_at_call 79; refine (powerG_any A n c rs (1 + t) _ hn0 hn1 (Rd.of_own (fun x _ => fac_len x) HLn.out P_5.out.q) HOk.out.wf HOk.out.gok (by omega) (by omega)).mono ?_; rintro e x6 hpost; obtain ⟨A2, n2, c2, k, rfl, hbl, HPk⟩ := hpost.cut)
          have P_6 := Lib.hid (P_5.out.next hbl)
          have HP := Lib.hid (fun h => (HPk h).mono P_5.out.e.size)
          have B_6 := Lib.hid (B_5.out.next hbl)
          refine hK.out _ _ (fun _ => P_6.out.x.cell 0) ?_
          clear hK Kc hpost hbl HPk P_5
          try simp only [List.getElem_toArray, List.getElem_cons_zero, List.getElem_cons_succ, Act.put, List.setIfInBounds_toArray, List.set_cons_zero, List.set_cons_succ]
          clear B_5
          have hS0 := P_6.out.x.cell 0
          refine wpAnyN_take (i := 8) (v := ?_) rfl (by kernel_rfl) (fun _ _ _ h => h) (by rfl) (fun W hW => ?_) hS0 ?_
          rotate_left
          · have z0 := hW
            go_simp
            try with_reducible rfl
          try simp only [List.getElem_toArray, List.getElem_cons_zero, List.getElem_cons_succ, Act.put, List.setIfInBounds_toArray, List.set_cons_zero, List.set_cons_succ]
          refine wpAnyN_take (i := 9) (v := ?_) rfl (by kernel_rfl) (fun _ _ _ h => h) (by rfl) (fun W hW => ?_) hS0 ?_
          rotate_left
          · have z0 := hW
            go_simp
            try with_reducible rfl
          try simp only [List.getElem_toArray, List.getElem_cons_zero, List.getElem_cons_succ, Act.put, List.setIfInBounds_toArray, List.set_cons_zero, List.set_cons_succ]
          refine wpAnyN_take (i := 10) (v := ?_) rfl (by kernel_rfl) (fun _ _ _ h => h) (by rfl) (fun W hW => ?_) hS0 ?_
          rotate_left
          · have z0 := hW
            go_simp
            try with_reducible rfl
          try simp only [List.getElem_toArray, List.getElem_cons_zero, List.getElem_cons_succ, Act.put, List.setIfInBounds_toArray, List.set_cons_zero, List.set_cons_succ]
          clear hS0
          have BZ0 := B_6
          refine wpAnyN_next (i := 12) rfl (by kernel_rfl) (fun Kc hK => ?_)
          have b9c := B_6.out.cell 0
          have b9f := B_6.out.frozen
          have b9l := B_6.out.lt
          go_simp
          have PZ := Lib.hid (P_6.out.far (.slice A2 n2 c2) B_6.out ha4)
          have BZ := Lib.hid (B_6.out.set_ 0 (.slice A2 n2 c2))
          have OZ := Lib.hid (fun h => (HP.out h).keep BZ0.out (.slice A2 n2 c2))
          refine hK.out _ _ (fun _ => PZ.out.x.cell 0) ?_
          clear hK Kc b9c b9f b9l
          try simp only [List.getElem_toArray, List.getElem_cons_zero, List.getElem_cons_succ, Act.put, List.setIfInBounds_toArray, List.set_cons_zero, List.set_cons_succ]
          refine wpAnyN_next (i := 13) rfl (by kernel_rfl) (fun Kc hK => ?_)
          go_simp
          refine hK.out _ _ (fun _ => PZ.out.x.cell 0) ?_
          clear hK Kc
          refine wpAnyN_done (by kernel_rfl) ?_ _
          go_wp2_with fail
          go_meet
          exact ⟨a4, A2, n2, c2, k, rfl, rfl, PZ, BZ, OZ, Lib.hid (by omega)⟩
      · intro Kc hK
        go_simp
        have P_7 := Lib.hid (P_1.out.alloc (.cells #[.slice none 0 0] 26))
        have B_7 := Lib.hid (Blk.new x1 26 #[.slice none 0 0])
        have ha4 : w2.heap.size < x1.heap.size := P_1.out.x.lt
        refine hK.out _ _ (fun _ => P_7.out.x.cell 0) ?_
        clear hK Kc
        try simp only [List.getElem_toArray, List.getElem_cons_zero, List.getElem_cons_succ, Act.put, List.setIfInBounds_toArray, List.set_cons_zero, List.set_cons_succ]
        generalize x1.heap.size = a4 at *
        generalize x1.alloc (.cells #[.slice none 0 0] 26) = x7 at *
        clear P_1
        refine wpAnyN_next (i := 4) rfl (by kernel_rfl) (fun Kc hK => ?_)
        go_simp
        go_wp2_with (go_at_call 36; refine (pick_any g (K1 + 2) 100000 100000 _ P_7.out.s (by omega) (by omega) (by omega)).mono ?_; rintro e x8 ⟨v2, rfl, v20, v21, s2, g2⟩)
        have P_8 := Lib.hid (P_7.out.pick s2 g2)
        have B_8 := Lib.hid (B_7.out.grown g2 (by intro e; injection e with e; have := HG; omega))
        refine hK.out _ _ (fun _ => P_8.out.x.cell 0) ?_
        clear hK Kc s2 g2 P_7
        try simp only [List.getElem_toArray, List.getElem_cons_zero, List.getElem_cons_succ, Act.put, List.setIfInBounds_toArray, List.set_cons_zero, List.set_cons_succ]
        clear B_7
        have hm := mul_pick v10 v11 v20 v21
        have um1 : IntKind.i64.wrap (v1 * v2) = v1 * v2 := by rw [IntWalk.i64_in _ (by omega)]
        have um2 : IntKind.i64.wrap (1 + v1 * v2) = 1 + v1 * v2 := by rw [IntWalk.i64_in _ (by omega)]
        have hS0 := P_8.out.x.cell 0
        refine wpAnyN_take (i := 5) (v := ?_) rfl (by kernel_rfl) (fun _ _ _ h => h) (by rfl) (fun W hW => ?_) hS0 ?_
        rotate_left
        · have z0 := hW
          go_simp
          try with_reducible rfl
        try simp only [List.getElem_toArray, List.getElem_cons_zero, List.getElem_cons_succ, Act.put, List.setIfInBounds_toArray, List.set_cons_zero, List.set_cons_succ]
        refine wpAnyN_take (i := 6) (v := ?_) rfl (by kernel_rfl) (fun _ _ _ h => h) (by rfl) (fun W hW => ?_) hS0 ?_
        rotate_left
        · have z0 := hW
          go_simp
          try with_reducible rfl
        try simp only [List.getElem_toArray, List.getElem_cons_zero, List.getElem_cons_succ, Act.put, List.setIfInBounds_toArray, List.set_cons_zero, List.set_cons_succ]
        clear hS0
        clear um1 um2
        generalize v1 * v2 = t at *
        refine wpAnyN_next (i := 7) rfl (by kernel_rfl) (fun Kc hK => ?_)
        go_simp
        go_wp2_with (go_at_call 79; refine (powerG_any A n c rs (1 + t) _ hn0 hn1 (Rd.of_own (fun x _ => fac_len x) HLn.out P_8.out.q) HOk.out.wf HOk.out.gok (by omega) (by omega)).mono ?_; rintro e x9 hpost; obtain ⟨A2, n2, c2, k, rfl, hbl, HPk⟩ := hpost.cut)
        have P_9 := Lib.hid (P_8.out.next hbl)
        have HP := Lib.hid (fun h => (HPk h).mono P_8.out.e.size)
        have B_9 := Lib.hid (B_8.out.next hbl)
        refine hK.out _ _ (fun _ => P_9.out.x.cell 0) ?_
        clear hK Kc hpost hbl HPk P_8
        try simp only [List.getElem_toArray, List.getElem_cons_zero, List.getElem_cons_succ, Act.put, List.setIfInBounds_toArray, List.set_cons_zero, List.set_cons_succ]
        clear B_8
        have hS0 := P_9.out.x.cell 0
        refine wpAnyN_take (i := 8) (v := ?_) rfl (by kernel_rfl) (fun _ _ _ h => h) (by rfl) (fun W hW => ?_) hS0 ?_
        rotate_left
        · have z0 := hW
          go_simp
          try with_reducible rfl
        try simp only [List.getElem_toArray, List.getElem_cons_zero, List.getElem_cons_succ, Act.put, List.setIfInBounds_toArray, List.set_cons_zero, List.set_cons_succ]
        refine wpAnyN_take (i := 9) (v := ?_) rfl (by kernel_rfl) (fun _ _ _ h => h) (by rfl) (fun W hW => ?_) hS0 ?_
        rotate_left
        · have z0 := hW
          go_simp
          try with_reducible rfl
        try simp only [List.getElem_toArray, List.getElem_cons_zero, List.getElem_cons_succ, Act.put, List.setIfInBounds_toArray, List.set_cons_zero, List.set_cons_succ]
        refine wpAnyN_take (i := 10) (v := ?_) rfl (by kernel_rfl) (fun _ _ _ h => h) (by rfl) (fun W hW => ?_) hS0 ?_
        rotate_left
        · have z0 := hW
          go_simp
          try with_reducible rfl
        try simp only [List.getElem_toArray, List.getElem_cons_zero, List.getElem_cons_succ, Act.put, List.setIfInBounds_toArray, List.set_cons_zero, List.set_cons_succ]
        clear hS0
        have BZ0 := B_9
        refine wpAnyN_next (i := 12) rfl (by kernel_rfl) (fun Kc hK => ?_)
        have b9c := B_9.out.cell 0
        have b9f := B_9.out.frozen
        have b9l := B_9.out.lt
        go_simp
        have PZ := Lib.hid (P_9.out.far (.slice A2 n2 c2) B_9.out ha4)
        have BZ := Lib.hid (B_9.out.set_ 0 (.slice A2 n2 c2))
        have OZ := Lib.hid (fun h => (HP.out h).keep BZ0.out (.slice A2 n2 c2))
        refine hK.out _ _ (fun _ => PZ.out.x.cell 0) ?_
        clear hK Kc b9c b9f b9l
        try simp only [List.getElem_toArray, List.getElem_cons_zero, List.getElem_cons_succ, Act.put, List.setIfInBounds_toArray, List.set_cons_zero, List.set_cons_succ]
        refine wpAnyN_next (i := 13) rfl (by kernel_rfl) (fun Kc hK => ?_)
        go_simp
        refine hK.out _ _ (fun _ => PZ.out.x.cell 0) ?_
        clear hK Kc
        refine wpAnyN_done (by kernel_rfl) ?_ _
        go_wp2_with fail
        go_meet
        exact ⟨a4, A2, n2, c2, k, rfl, rfl, PZ, BZ, OZ, Lib.hid (by omega)⟩
    · intro Kc hK
      go_simp
      have P_10 := Lib.hid (P_0.out.alloc (.cells #[.slice none 0 0] 26))
      have B_10 := Lib.hid (Blk.new wd 26 #[.slice none 0 0])
      have ha4 : w2.heap.size < wd.heap.size := P_0.out.x.lt
      refine hK.out _ _ (fun _ => P_10.out.x.cell 0) ?_
      clear hK Kc
      try simp only [List.getElem_toArray, List.getElem_cons_zero, List.getElem_cons_succ, Act.put, List.setIfInBounds_toArray, List.set_cons_zero, List.set_cons_succ]
      generalize wd.heap.size = a4 at *
      generalize wd.alloc (.cells #[.slice none 0 0] 26) = x10 at *
      clear P_0
      refine wpAnyN_next (i := 2) rfl (by kernel_rfl) (fun Kc hK => ?_)
      go_simp
      go_wp2_with (go_at_call 36; refine (pick_any g K1 1000000 1000000 _ P_10.out.s (by omega) (by omega) (by omega)).mono ?_; rintro e x11 ⟨v1, rfl, v10, v11, s2, g2⟩)
      have P_11 := Lib.hid (P_10.out.pick s2 g2)
      have B_11 := Lib.hid (B_10.out.grown g2 (by intro e; injection e with e; have := HG; omega))
      refine hK.out _ _ (fun _ => P_11.out.x.cell 0) ?_
      clear hK Kc s2 g2 P_10
      try simp only [List.getElem_toArray, List.getElem_cons_zero, List.getElem_cons_succ, Act.put, List.setIfInBounds_toArray, List.set_cons_zero, List.set_cons_succ]
      clear B_10
      refine wpAnyN_next (i := 4) rfl (by kernel_rfl) (fun Kc hK => ?_)
      go_simp
      go_wp2_with (go_at_call 36; refine (pick_any g (K1 + 2) 100000 100000 _ P_11.out.s (by omega) (by omega) (by omega)).mono ?_; rintro e x12 ⟨v2, rfl, v20, v21, s2, g2⟩)
      have P_12 := Lib.hid (P_11.out.pick s2 g2)
      have B_12 := Lib.hid (B_11.out.grown g2 (by intro e; injection e with e; have := HG; omega))
      refine hK.out _ _ (fun _ => P_12.out.x.cell 0) ?_
      clear hK Kc s2 g2 P_11
      try simp only [List.getElem_toArray, List.getElem_cons_zero, List.getElem_cons_succ, Act.put, List.setIfInBounds_toArray, List.set_cons_zero, List.set_cons_succ]
      clear B_11
      have hm := mul_pick v10 v11 v20 v21
      have um1 : IntKind.i64.wrap (v1 * v2) = v1 * v2 := by rw [IntWalk.i64_in _ (by omega)]
      have um2 : IntKind.i64.wrap (1 + v1 * v2) = 1 + v1 * v2 := by rw [IntWalk.i64_in _ (by omega)]
      have hS0 := P_12.out.x.cell 0
      refine wpAnyN_take (i := 5) (v := ?_) rfl (by kernel_rfl) (fun _ _ _ h => h) (by rfl) (fun W hW => ?_) hS0 ?_
      rotate_left
      · have z0 := hW
        go_simp
        try with_reducible rfl
      try simp only [List.getElem_toArray, List.getElem_cons_zero, List.getElem_cons_succ, Act.put, List.setIfInBounds_toArray, List.set_cons_zero, List.set_cons_succ]
      refine wpAnyN_take (i := 6) (v := ?_) rfl (by kernel_rfl) (fun _ _ _ h => h) (by rfl) (fun W hW => ?_) hS0 ?_
      rotate_left
      · have z0 := hW
        go_simp
        try with_reducible rfl
      try simp only [List.getElem_toArray, List.getElem_cons_zero, List.getElem_cons_succ, Act.put, List.setIfInBounds_toArray, List.set_cons_zero, List.set_cons_succ]
      clear hS0
      clear um1 um2
      generalize v1 * v2 = t at *
      refine wpAnyN_next (i := 7) rfl (by kernel_rfl) (fun Kc hK => ?_)
      go_simp
      go_wp2_with (go_at_call 79; refine (powerG_any A n c rs (1 + t) _ hn0 hn1 (Rd.of_own (fun x _ => fac_len x) HLn.out P_12.out.q) HOk.out.wf HOk.out.gok (by omega) (by omega)).mono ?_; rintro e x13 hpost; obtain ⟨A2, n2, c2, k, rfl, hbl, HPk⟩ := hpost.cut)
      have P_13 := Lib.hid (P_12.out.next hbl)
      have HP := Lib.hid (fun h => (HPk h).mono P_12.out.e.size)
      have B_13 := Lib.hid (B_12.out.next hbl)
      refine hK.out _ _ (fun _ => P_13.out.x.cell 0) ?_
      clear hK Kc hpost hbl HPk P_12
      try simp only [List.getElem_toArray, List.getElem_cons_zero, List.getElem_cons_succ, Act.put, List.setIfInBounds_toArray, List.set_cons_zero, List.set_cons_succ]
      clear B_12
      have hS0 := P_13.out.x.cell 0
      refine wpAnyN_take (i := 8) (v := ?_) rfl (by kernel_rfl) (fun _ _ _ h => h) (by rfl) (fun W hW => ?_) hS0 ?_
      rotate_left
      · have z0 := hW
        go_simp
        try with_reducible rfl
      try simp only [List.getElem_toArray, List.getElem_cons_zero, List.getElem_cons_succ, Act.put, List.setIfInBounds_toArray, List.set_cons_zero, List.set_cons_succ]
      refine wpAnyN_take (i := 9) (v := ?_) rfl (by kernel_rfl) (fun _ _ _ h => h) (by rfl) (fun W hW => ?_) hS0 ?_
      rotate_left
      · have z0 := hW
        go_simp
        try with_reducible rfl
      try simp only [List.getElem_toArray, List.getElem_cons_zero, List.getElem_cons_succ, Act.put, List.setIfInBounds_toArray, List.set_cons_zero, List.set_cons_succ]
      refine wpAnyN_take (i := 10) (v := ?_) rfl (by kernel_rfl) (fun _ _ _ h => h) (by rfl) (fun W hW => ?_) hS0 ?_
      rotate_left
      · have z0 := hW
        go_simp
        try with_reducible rfl
      try simp only [List.getElem_toArray, List.getElem_cons_zero, List.getElem_cons_succ, Act.put, List.setIfInBounds_toArray, List.set_cons_zero, List.set_cons_succ]
      clear hS0
      have BZ0 := B_13
      refine wpAnyN_next (i := 12) rfl (by kernel_rfl) (fun Kc hK => ?_)
      have b9c := B_13.out.cell 0
      have b9f := B_13.out.frozen
      have b9l := B_13.out.lt
      go_simp
      have PZ := Lib.hid (P_13.out.far (.slice A2 n2 c2) B_13.out ha4)
      have BZ := Lib.hid (B_13.out.set_ 0 (.slice A2 n2 c2))
      have OZ := Lib.hid (fun h => (HP.out h).keep BZ0.out (.slice A2 n2 c2))
      refine hK.out _ _ (fun _ => PZ.out.x.cell 0) ?_
      clear hK Kc b9c b9f b9l
      try simp only [List.getElem_toArray, List.getElem_cons_zero, List.getElem_cons_succ, Act.put, List.setIfInBounds_toArray, List.set_cons_zero, List.set_cons_succ]
      refine wpAnyN_next (i := 13) rfl (by kernel_rfl) (fun Kc hK => ?_)
      go_simp
      refine hK.out _ _ (fun _ => PZ.out.x.cell 0) ?_
      clear hK Kc
      refine wpAnyN_done (by kernel_rfl) ?_ _
      go_wp2_with fail
      go_meet
      exact ⟨a4, A2, n2, c2, k, rfl, rfl, PZ, BZ, OZ, Lib.hid (by omega)⟩
  case rest =>
    obtain ⟨a4, A2, n2, c2, k, rfl, rfl, P2, B2, O2, hX4⟩ := hcut
    clear P
    have x0 := P2.out.x.cell 0
    have xl := P2.out.x.lt
    have y0 := B2.out.cell 0
    have yl := B2.out.lt
    have r0 := P2.out.r.cell 0
    have rf := P2.out.r.frozen
    have rl := P2.out.r.lt
    by_cases hk0 : k = 0
    · subst hk0
      have G2 := O2.out rfl
      go_wp2_with fail
      refine (one_any g (K1 + 2 + 2) 2 wc P2.out.s (by omega) (by omega)).mono ?_
      rintro e w3 ⟨b, rfl, s3, g3⟩
      have P3 := Lib.hid (P2.out.pick s3 g3)
      have B3 := Lib.hid (B2.out.grown g3 (by intro e; injection e with e; have := hX4.out; omega))
      have G3 := Lib.hid (G2.draw g3 HG)
      clear P2 B2 G2 O2 s3 g3 x0 xl y0 yl r0 rf rl
      have x0 := P3.out.x.cell 0
      have xl := P3.out.x.lt
      have y0 := B3.out.cell 0
      have yl := B3.out.lt
      have r0 := P3.out.r.cell 0
      have rf := P3.out.r.frozen
      have rl := P3.out.r.lt
      cases b
      · go_wp2_with fail
        have x8 := HuW.x8 P3.out (.slice A2 n2 c2)
        exact bodyPost_ret (v := .agg #[.slice A2 n2 c2]) (by simp [results, Try.results33, go_sem, x8]) rfl (HuW.tell P3.out G3.out (by omega))
      · obtain ⟨A2', c2', rs2, hv, Gi⟩ := G3.out
        injection hv with ha hb hc
        subst ha; subst hb; subst hc
        go_upto_region 6 with fail
        go_cut [4, 5] from 6 (fun p_ k_ wx => ∃ (A2 : Option Addr) (n2 c2 : Nat) (k : Int), p_ = .pointer (some ⟨a4, 0, none⟩) ∧ k_ = .int .i64 k ∧ Hid (HuW w wx g (K1 + 2 + 2 + 2 + 1000) w2.heap.size A n c rs) ∧ Hid (Blk wx a4 26 #[.slice A2 n2 c2]) ∧ Hid (k = 0 → GrAt wx w.heap.size (.slice A2 n2 c2)))
        case first =>
          refine wp_region_N (fun W => W.cell? ⟨a4, 0, none⟩ = some (.slice A2 rs2.length c2)) [6, 7, 8] (by kernel_rfl) ?_
          have P_0 := Lib.hid P3.out.drew
          have B_0 := Lib.hid B3.out.drew
          have Gi_0 := Lib.hid (Gi.next (Below.refl _ _).drew)
          have hS0 := B_0.out.cell 0
          refine wpAnyN_take (i := 0) (v := ?_) rfl (by kernel_rfl) (fun _ _ _ h => h) (by rfl) (fun W hW => ?_) hS0 ?_
          rotate_left
          · have z0 := hW
            go_simp
            try with_reducible rfl
          try simp only [List.getElem_toArray, List.getElem_cons_zero, List.getElem_cons_succ, Act.put, List.setIfInBounds_toArray, List.set_cons_zero, List.set_cons_succ]
          refine wpAnyN_take (i := 1) (v := ?_) rfl (by kernel_rfl) (fun _ _ _ h => h) (by rfl) (fun W hW => ?_) hS0 ?_
          rotate_left
          · have z0 := hW
            go_simp
            try with_reducible rfl
          try simp only [List.getElem_toArray, List.getElem_cons_zero, List.getElem_cons_succ, Act.put, List.setIfInBounds_toArray, List.set_cons_zero, List.set_cons_succ]
          clear hS0 P3 B3 Gi x0 xl y0 yl r0 rf rl
          generalize w3.drew = wd at *
          refine wpAnyN_next (i := 2) rfl (by kernel_rfl) (fun Kc hK => ?_)
          go_simp
          go_wp2_with (go_at_call 31; refine (l02Drawn_any g (K1 + 2 + 2 + 2) 100 wd P_0.out.s (by omega) (by omega) (by omega)).mono ?_; rintro e x1 ⟨A3, c3, rs3, rfl, ok3, own3, s3, g3⟩)
          have P_1 := Lib.hid (P_0.out.pick s3 g3)
          have B_1 := Lib.hid (B_0.out.grown g3 (by intro e; injection e with e; have := hX4.out; omega))
          have Gi_1 := Lib.hid (show GrIn x1 w.heap.size A2 c2 rs2 from ⟨Gi_0.out.wf, Gi_0.out.pos, Gi_0.out.ok, own_kept Gi_0.out.own g3 HG⟩)
          have O3 := Lib.hid own3
          have Ok3 := Lib.hid ok3
          refine hK.out _ _ (fun _ => B_1.out.cell 0) ?_
          clear hK Kc s3 g3 own3 ok3 P_0 B_0 Gi_0
          try simp only [List.getElem_toArray, List.getElem_cons_zero, List.getElem_cons_succ, Act.put, List.setIfInBounds_toArray, List.set_cons_zero, List.set_cons_succ]
          have hp3 := Ok3.out.pos
          have hp2 := Gi_1.out.pos
          refine wpAnyN_next (i := 3) rfl (by kernel_rfl) (fun Kc hK => ?_)
          go_simp
          go_wp2_with (go_at_call 12; refine (joinG_any A2 rs2.length c2 rs2 A3 rs3.length c3 rs3 x1 hp2 hp3 (Rd.of_own (fun x _ => fac_len x) rfl Gi_1.out.own) (Rd.of_own (fun x _ => fac_len x) rfl O3.out) Gi_1.out.wf Ok3.out.wf Gi_1.out.ok Ok3.out.gok).mono ?_; rintro e x2 hpost; obtain ⟨A9, n9, c9, k9, rfl, hbl, HPk⟩ := join_cut hpost (join_wf Gi_1.out.wf Ok3.out.wf) (join_pos hp2))
          have P_2 := Lib.hid (P_1.out.next hbl)
          have B_2 := Lib.hid (B_1.out.next hbl)
          have H9 := Lib.hid (fun h => (HPk h).mono P_1.out.e.size)
          refine hK.out _ _ (fun _ => B_2.out.cell 0) ?_
          clear hK Kc hpost hbl HPk P_1 B_1
          try simp only [List.getElem_toArray, List.getElem_cons_zero, List.getElem_cons_succ, Act.put, List.setIfInBounds_toArray, List.set_cons_zero, List.set_cons_succ]
          have hS0 := B_2.out.cell 0
          refine wpAnyN_take (i := 4) (v := ?_) rfl (by kernel_rfl) (fun _ _ _ h => h) (by rfl) (fun W hW => ?_) hS0 ?_
          rotate_left
          · have z0 := hW
            go_simp
            try with_reducible rfl
          try simp only [List.getElem_toArray, List.getElem_cons_zero, List.getElem_cons_succ, Act.put, List.setIfInBounds_toArray, List.set_cons_zero, List.set_cons_succ]
          refine wpAnyN_2 (i := 5) (j := 6) rfl rfl (by kernel_rfl) ?_ ?_
          · intro Kc hK
            go_simp
            refine hK.out _ _ (fun _ => hS0) ?_
            clear hK Kc
            try simp only [List.getElem_toArray, List.getElem_cons_zero, List.getElem_cons_succ, Act.put, List.setIfInBounds_toArray, List.set_cons_zero, List.set_cons_succ]
            refine wpAnyN_2 (i := 6) (j := 7) rfl rfl (by kernel_rfl) ?_ ?_
            · intro Kc hK
              go_simp
              refine hK.out _ _ (fun h => absurd h (by decide)) ?_
              clear hK Kc
              try simp only [List.getElem_toArray, List.getElem_cons_zero, List.getElem_cons_succ, Act.put, List.setIfInBounds_toArray, List.set_cons_zero, List.set_cons_succ]
              refine wpAnyN_next (i := 7) rfl (by kernel_rfl) (fun Kc hK => ?_)
              have b9c := B_2.out.cell 0
              have b9f := B_2.out.frozen
              have b9l := B_2.out.lt
              go_simp
              have PZ := Lib.hid (P_2.out.far (.slice A9 n9 c9) B_2.out hX4.out)
              have BZ := Lib.hid (B_2.out.set_ 0 (.slice A9 n9 c9))
              have HZ := Lib.hid (fun h => (H9.out h).keep B_2.out (.slice A9 n9 c9))
              refine hK.out _ _ (fun h => absurd h (by decide)) ?_
              clear hK Kc b9c b9f b9l hS0
              try simp only [List.getElem_toArray, List.getElem_cons_zero, List.getElem_cons_succ, Act.put, List.setIfInBounds_toArray, List.set_cons_zero, List.set_cons_succ]
              refine wpAnyN_next (i := 8) rfl (by kernel_rfl) (fun Kc hK => ?_)
              go_simp
              refine hK.out _ _ (fun h => absurd h (by decide)) ?_
              clear hK Kc
              refine wpAnyN_done (by kernel_rfl) ?_ _
              go_wp2_with fail
              go_meet
              exact ⟨A9, n9, c9, k9, rfl, rfl, PZ, BZ, HZ⟩
            · intro Kc hK
              have b9c := B_2.out.cell 0
              have b9f := B_2.out.frozen
              have b9l := B_2.out.lt
              go_simp
              have PZ := Lib.hid (P_2.out.far (.slice A9 n9 c9) B_2.out hX4.out)
              have BZ := Lib.hid (B_2.out.set_ 0 (.slice A9 n9 c9))
              have HZ := Lib.hid (fun h => (H9.out h).keep B_2.out (.slice A9 n9 c9))
              refine hK.out _ _ (fun h => absurd h (by decide)) ?_
              clear hK Kc b9c b9f b9l hS0
              try simp only [List.getElem_toArray, List.getElem_cons_zero, List.getElem_cons_succ, Act.put, List.setIfInBounds_toArray, List.set_cons_zero, List.set_cons_succ]
              refine wpAnyN_next (i := 6) rfl (by kernel_rfl) (fun Kc hK => ?_)
              go_simp
              refine hK.out _ _ (fun h => absurd h (by decide)) ?_
              clear hK Kc
              try simp only [List.getElem_toArray, List.getElem_cons_zero, List.getElem_cons_succ, Act.put, List.setIfInBounds_toArray, List.set_cons_zero, List.set_cons_succ]
              refine wpAnyN_next (i := 8) rfl (by kernel_rfl) (fun Kc hK => ?_)
              go_simp
              refine hK.out _ _ (fun h => absurd h (by decide)) ?_
              clear hK Kc
              refine wpAnyN_done (by kernel_rfl) ?_ _
              go_wp2_with fail
              go_meet
              exact ⟨A9, n9, c9, k9, rfl, rfl, PZ, BZ, HZ⟩
          · intro Kc hK
            go_simp
            refine hK.out _ _ (fun h => absurd h (by decide)) ?_
            clear hK Kc
            try simp only [List.getElem_toArray, List.getElem_cons_zero, List.getElem_cons_succ, Act.put, List.setIfInBounds_toArray, List.set_cons_zero, List.set_cons_succ]
            refine wpAnyN_next (i := 5) rfl (by kernel_rfl) (fun Kc hK => ?_)
            go_simp
            refine hK.out _ _ (fun _ => hS0) ?_
            clear hK Kc
            try simp only [List.getElem_toArray, List.getElem_cons_zero, List.getElem_cons_succ, Act.put, List.setIfInBounds_toArray, List.set_cons_zero, List.set_cons_succ]
            refine wpAnyN_next (i := 7) rfl (by kernel_rfl) (fun Kc hK => ?_)
            have b9c := B_2.out.cell 0
            have b9f := B_2.out.frozen
            have b9l := B_2.out.lt
            go_simp
            have PZ := Lib.hid (P_2.out.far (.slice A9 n9 c9) B_2.out hX4.out)
            have BZ := Lib.hid (B_2.out.set_ 0 (.slice A9 n9 c9))
            have HZ := Lib.hid (fun h => (H9.out h).keep B_2.out (.slice A9 n9 c9))
            refine hK.out _ _ (fun h => absurd h (by decide)) ?_
            clear hK Kc b9c b9f b9l hS0
            try simp only [List.getElem_toArray, List.getElem_cons_zero, List.getElem_cons_succ, Act.put, List.setIfInBounds_toArray, List.set_cons_zero, List.set_cons_succ]
            refine wpAnyN_next (i := 8) rfl (by kernel_rfl) (fun Kc hK => ?_)
            go_simp
            refine hK.out _ _ (fun h => absurd h (by decide)) ?_
            clear hK Kc
            refine wpAnyN_done (by kernel_rfl) ?_ _
            go_wp2_with fail
            go_meet
            exact ⟨A9, n9, c9, k9, rfl, rfl, PZ, BZ, HZ⟩
        case rest =>
          obtain ⟨A9, n9, c9, k, rfl, rfl, P4, B4, G4⟩ := hcut
          clear P3 B3 G3 Gi x0 xl y0 yl r0 rf rl
          have x0 := P4.out.x.cell 0
          have xl := P4.out.x.lt
          have y0 := B4.out.cell 0
          have yl := B4.out.lt
          have r0 := P4.out.r.cell 0
          have rf := P4.out.r.frozen
          have rl := P4.out.r.lt
          by_cases hk0 : k = 0
          · subst hk0
            have G5 := G4.out rfl
            go_wp2_with fail
            have x8 := HuW.x8 P4.out (.slice A9 n9 c9)
            exact bodyPost_ret (v := .agg #[.slice A9 n9 c9]) (by simp [results, Try.results33, go_sem, x8]) rfl (HuW.tell P4.out G5 (by omega))
          · have hk1 : (k == 0) = false := by simpa using hk0
            go_wp2_with fail
            have x8 := HuW.x8 P4.out (.slice A n c)
            exact bodyPost_ret (v := .agg #[.slice A n c]) (by simp [results, Try.results33, go_sem, x8]) rfl (HuW.tell P4.out ⟨A, c, rs, by rw [HLn.out], HOk.out.wf, by rw [HLn.out]; exact hn0, HOk.out.gok, by rw [HLn.out]; exact P4.out.q⟩ (by omega))
    · have hk1 : (k == 0) = false := by simpa using hk0
      go_wp2_with fail
      have x8 := HuW.x8 P2.out (.slice A n c)
      exact bodyPost_ret (v := .agg #[.slice A n c]) (by simp [results, Try.results33, go_sem, x8]) rfl (HuW.tell P2.out ⟨A, c, rs, by rw [HLn.out], HOk.out.wf, by rw [HLn.out]; exact hn0, HOk.out.gok, by rw [HLn.out]; exact P2.out.q⟩ (by omega))
end Go.Proofs.Ytgdbpkpaacbhhaa


/-
  What laws draw: a long word's grammar, a number, a letter.
-/
namespace Go.Proofs.Ytgdbpkpaacbhhaa
open Go.RowKit

/-- a grammar that is drawn, whose word has at most a quarter of the most letters -/
def HgNew (w : World) (e : Ending) (w' : World) : Prop :=
  ∃ A c rs, e = .returned (.agg #[.slice A rs.length c]) ∧ GrIn w' w.heap.size A c rs ∧ (wdN rs).length ≤ 250000000000000 ∧ Below w.heap.size w w'
theorem big_lens {rs : List Fac} (h : (gOk rs).isSome = true) : ∃ ls, gLens rs [] = some ls ∧ rs.length ≤ 400 ∧ ls.length = rs.length := by
  obtain ⟨ls, hls⟩ := Option.isSome_iff_exists.1 h
  exact ⟨ls, (gOk_lens hls).1, (gOk_lens hls).2.1, (gOk_lens hls).2.2⟩
set_option maxHeartbeats 2000000 in
set_option maxRecDepth 100000 in
theorem p6Huge_any (A : Option Addr) (n c : Nat) (bs : List UInt8) (w : World) (hn : n ≤ 4096) (hr : Rd w w.heap.size A n 1 byteE bs) :
    Calls Try.prog 8 #[.slice A n c] w (HgNew w) := by
  have HR := Lib.hid hr; clear hr
  go_enter Try.func8, Try.ntmps8
  go_wp2_with fail
  refine namedC fun w0 H0 => ?_
  have hb0 : Below w.heap.size w w0 := by rw [H0.out]; (repeat first | exact Below.refl _ _ | assumption | refine Below.drew ?_ | refine Below.alloc ?_ (by first | exact Nat.le_refl _ | (simp; done) | omega | (simp; omega)) _ | refine Below.setCell ?_ (by first | exact Nat.le_refl _ | (simp; done) | omega | (simp; omega)) _)
  have B0 := Lib.hid (show Blk w0 w.heap.size 26 #[.slice none 0 0] by rw [H0.out]; exact Blk.new _ _ _)
  clear H0
  refine (l00From_any A n c bs w0 hn (HR.out.next hb0)).mono ?_
  rintro e w1 ⟨g, rfl, hg, s1, hb1⟩
  have b1 := Lib.hid (hb0.trans (hb1.mono hb0.size))
  have B1 := Lib.hid (B0.out.next hb1)
  have hg2 : w.heap.size < g := by have := B0.out.lt; omega
  have S1 := Lib.hid s1
  clear s1 hb1 hb0 B0
  go_wp2_with fail
  go_loopw [4] (fun i_ w' => ∃ i : Nat, i_ = .int .i64 i ∧ i ≤ 3 ∧ Hid (Src w' g (3000 * i)) ∧ Hid (Below w.heap.size w w') ∧ Hid (Blk w' w.heap.size 26 #[.slice none 0 0])) (fun i_ _ => 3 - (intOf i_).toNat)
  case atStart => exact ⟨0, rfl, by omega, S1, b1, B1⟩
  case round =>
    obtain ⟨i, rfl, hi, S2, b2, B2⟩ := hrel
    clear S1 b1 B1
    by_cases hlt : i < 3
    · have i1 : (i : Int) < 3 := by omega
      go_wp2_with fail
      refine (l02Huge_any g (3000 * i) wr S2.out (by omega)).mono ?_
      rintro e w3 ⟨A3, c3, rs, rfl, gi, s3, g3⟩
      have S3 := Lib.hid (s3.next ((Below.refl _ _).alloc (Nat.le_refl _) (.cells #[.slice A3 rs.length c3] 26)))
      have b3 := Lib.hid ((b2.out.grown g3 b2.out.size (fun k e => by injection e; omega)).alloc (Nat.le_trans b2.out.size g3.size) (.cells #[.slice A3 rs.length c3] 26))
      have B3 := Lib.hid ((B2.out.grown g3 (by intro e; injection e with e; omega)).alloc (.cells #[.slice A3 rs.length c3] 26))
      have G3 := Lib.hid ((gi.mono b2.out.size).next ((Below.refl _ _).alloc (Nat.le_refl _) (.cells #[.slice A3 rs.length c3] 26)))
      have X3 := Lib.hid (Blk.new w3 26 #[.slice A3 rs.length c3])
      have hxx : w.heap.size < w3.heap.size := by have := g3.size; have := B2.out.lt; omega
      clear S2 b2 B2 s3 g3 gi
      generalize hw4 : w3.alloc (.cells #[.slice A3 rs.length c3] 26) = w4 at *
      obtain ⟨ls, hls, hlen, hll⟩ := big_lens G3.out.ok
      have HLS := Lib.hid hls
      have hlast := last_word hls
      have Z3 := Lib.hid (wf_sz G3.out.wf)
      have R3 := Lib.hid (Rd.of_own (fun x _ => fac_len x) rfl G3.out.own)
      have OK3 := Lib.hid G3.out.ok
      obtain ⟨v, hv⟩ : ∃ v, lastI ls = v := ⟨_, rfl⟩
      have Hv := Lib.hid hv
      clear hls
      go_wp2_with fail
      refine (l02Ok_any w3.heap.size A3 rs.length c3 rs w4 X3.out.lt (X3.out.cell 0) (by omega) R3.out Z3.out true OK3.out).mono ?_
      rintro e w5 ⟨rfl, hb5⟩
      have S5 := Lib.hid (S3.out.next hb5)
      have b5 := Lib.hid (b3.out.trans (hb5.mono b3.out.size))
      have B5 := Lib.hid (B3.out.next hb5)
      have G5 := Lib.hid (G3.out.next hb5)
      have X5 := Lib.hid (X3.out.next hb5)
      have R5 := Lib.hid (Rd.of_own (fun x _ => fac_len x) rfl G5.out.own)
      clear S3 b3 B3 G3 X3 hb5 hw4 R3
      go_wp2_with fail
      refine (l02Length_any w3.heap.size A3 rs.length c3 rs w5 X5.out.lt (X5.out.cell 0) (by omega) R5.out Z3.out ls HLS.out).mono ?_
      rintro e w6 ⟨rfl, hb6⟩
      have S6 := Lib.hid (S5.out.next hb6)
      have b6 := Lib.hid (b5.out.trans (hb6.mono b5.out.size))
      have B6 := Lib.hid (B5.out.next hb6)
      have G6 := Lib.hid (G5.out.next hb6)
      have X6 := Lib.hid (X5.out.next hb6)
      clear S5 b5 B5 G5 X5 hb6 R5
      rw [Hv.out]
      by_cases hle : v ≤ 250000000000000
      · have hle1 := decide_eq_true hle
        have x0 := X6.out.cell 0
        have xl := X6.out.lt
        have r0 := B6.out.cell 0
        have rf := B6.out.frozen
        have rl := B6.out.lt
        have x8 : (w6.setCell ⟨w.heap.size, 0, none⟩ (.slice A3 rs.length c3)).cell? ⟨w.heap.size, 0, none⟩ = some (.slice A3 rs.length c3) := by rw [(B6.out.set_ 0 (.slice A3 rs.length c3)).cell 0]; rfl
        have b8 := Lib.hid (b6.out.setCell (p := ⟨w.heap.size, 0, none⟩) (Nat.le_refl _) (.slice A3 rs.length c3))
        have O8 := Lib.hid (own_kept' (i := 0) G6.out.own B6.out (by decide) (.slice A3 rs.length c3))
        go_wp2_with fail
        refine bodyPost_ret (v := .agg #[.slice A3 rs.length c3]) (by simp [results, Try.results8, go_sem, x8]) rfl ?_
        exact ⟨A3, c3, rs, rfl, ⟨G6.out.wf, G6.out.pos, G6.out.ok, O8.out⟩, by omega, b8.out⟩
      · have hle1 := decide_eq_false hle
        go_wp2_with fail
        go_roundw
        case rel => exact ⟨i + 1, by go_num, by omega, Lib.hid (S6.out.mono (by omega)), b6, B6⟩
        case measure => simp [intOf]; omega
    · have i1 : ¬ ((i : Int) < 3) := by omega
      go_wp2_with fail
      refine (l02Drawn_any g (3000 * i) 8 wr S2.out (by omega) (by omega) (by omega)).mono ?_
      rintro e w3 ⟨A3, c3, rs, rfl, ok, own3, s3, g3⟩
      have B3 := Lib.hid (B2.out.grown g3 (by intro e; injection e with e; omega))
      have b3 := Lib.hid (b2.out.grown g3 b2.out.size (fun k e => by injection e; omega))
      have O3 := Lib.hid (own_kept' (i := 0) (own3.mono b2.out.size) B3.out (by decide) (.slice A3 rs.length c3))
      have Ok := Lib.hid ok
      have r0 := B3.out.cell 0
      have rf := B3.out.frozen
      have rl := B3.out.lt
      have x8 : (w3.setCell ⟨w.heap.size, 0, none⟩ (.slice A3 rs.length c3)).cell? ⟨w.heap.size, 0, none⟩ = some (.slice A3 rs.length c3) := by rw [(B3.out.set_ 0 (.slice A3 rs.length c3)).cell 0]; rfl
      have b8 := Lib.hid (b3.out.setCell (p := ⟨w.heap.size, 0, none⟩) (Nat.le_refl _) (.slice A3 rs.length c3))
      clear own3 s3 g3 ok
      go_wp2_with fail
      refine bodyPost_ret (v := .agg #[.slice A3 rs.length c3]) (by simp [results, Try.results8, go_sem, x8]) rfl ?_
      exact ⟨A3, c3, rs, rfl, ⟨Ok.out.wf, Ok.out.pos, Ok.out.gok, O3.out⟩, by have := Ok.out.len; omega, b8.out⟩
theorem p6Pick_any (A : Option Addr) (n c : Nat) (bs : List UInt8) (m k : Int) (w : World) (hn : n ≤ 4096) (hr : Rd w w.heap.size A n 1 byteE bs) (hm : m ≤ k) (hk : 1 ≤ k) :
    Calls Try.prog 9 #[.slice A n c, .int .i64 m] w (fun e w' => ∃ v : Int, e = .returned (.int .i64 v) ∧ 0 ≤ v ∧ v < k ∧ Below w.heap.size w w') := by
  go_enter Try.func9, Try.ntmps9
  go_wp2_with fail
  refine (l00From_any A n c bs w hn hr).mono ?_
  rintro e w1 ⟨g, rfl, hg, s1, hb1⟩
  go_wp2_with fail
  refine (pick_any g 0 m k w1 s1 (by omega) hm hk).mono ?_
  rintro e w2 ⟨v, rfl, v0, v1, s2, g2⟩
  go_wp2_with fail
  go_ret
  exact ⟨v, rfl, v0, v1, hb1.grown g2 hb1.size (fun k e => by injection e with e; omega)⟩
/-- the text of one letter -/
def lt1 (l : Nat) : ByteArray := ⟨#[UInt8.ofNat (97 + l)]⟩
set_option maxHeartbeats 1000000 in
theorem text_any (g K X : Nat) (ts : List ByteArray) (n : Nat) (w : World) (h : Src w g K) (hK : K ≤ 10000000) (hX : Blk w X 9 (ts.map Value.string).toArray) (hl : ts.length = n) (h0 : 0 < n) (h1 : n ≤ 200) (hg : g < X) :
    Calls Try.prog 59 #[.pointer (some ⟨g, 0, none⟩), .slice (some ⟨X, 0, none⟩) n n] w (fun e w' => ∃ s : ByteArray, s ∈ ts ∧ e = .returned (.string s) ∧ Src w' g (K + 2) ∧ w.grownBy w' (some g)) := by
  have HX := Lib.hid hX; clear hX
  have HL := Lib.hid hl; clear hl
  go_enter Try.func59, Try.ntmps59
  go_wp2_with fail
  refine (pick_any g K n n w h (by omega) (by omega) (by omega)).mono ?_
  rintro e w1 ⟨v, rfl, v0, v1, s1, g1⟩
  obtain ⟨k, rfl⟩ := Int.eq_ofNat_of_zero_le v0
  have hk : k < ts.length := by rw [HL.out]; omega
  have c0 := (HX.out.grown g1 (by intro e; injection e with e; omega)).cell k
  rw [show (ts.map Value.string).toArray[k]? = some (.string ts[k]) by simp [List.getElem?_eq_getElem hk]] at c0
  have k0 : (0 : Int) ≤ (k : Int) := by omega
  have k1 : (k : Int) < (n : Int) := v1
  go_wp2_with fail
  go_ret
  exact ⟨ts[k], List.getElem_mem hk, rfl, s1, g1⟩
end Go.Proofs.Ytgdbpkpaacbhhaa


/-
  impl.folded at [4]impl.reach: what it makes of a grammar, by the contracts of the two functions that it is handed.
-/
namespace Go.Proofs.Ytgdbpkpaacbhhaa
open Go.RowKit

structure R4 where
  f0 : Int
  l0 : Int
  m0 : Int
  n0 : Int
  f1 : Int
  l1 : Int
  m1 : Int
  n1 : Int
  f2 : Int
  l2 : Int
  m2 : Int
  n2 : Int
  f3 : Int
  l3 : Int
  m3 : Int
  n3 : Int
  deriving Inhabited, DecidableEq
def R4.nil : R4 := ⟨0, 0, 0, 0, 0, 0, 0, 0, 0, 0, 0, 0, 0, 0, 0, 0⟩
def encR4 (y : R4) : List Value := [.int .i64 y.f0, .int .i64 y.l0, .int .i64 y.m0, .int .i64 y.n0, .int .i64 y.f1, .int .i64 y.l1, .int .i64 y.m1, .int .i64 y.n1, .int .i64 y.f2, .int .i64 y.l2, .int .i64 y.m2, .int .i64 y.n2, .int .i64 y.f3, .int .i64 y.l3, .int .i64 y.m3, .int .i64 y.n3]
theorem lenR4 (y : R4) : (encR4 y).length = 16 := rfl

end Go.Proofs.Ytgdbpkpaacbhhaa


/-
  The longest runs of the letters: the plain part.
-/
namespace Go.Proofs.Ytgdbpkpaacbhhaa

/-- the runs of one letter -/
structure Rc where
  f : Int
  l : Int
  m : Int
  n : Int
  deriving Inhabited, DecidableEq
def R4.at_ (y : R4) : Nat → Rc
  | 0 => ⟨y.f0, y.l0, y.m0, y.n0⟩
  | 1 => ⟨y.f1, y.l1, y.m1, y.n1⟩
  | 2 => ⟨y.f2, y.l2, y.m2, y.n2⟩
  | _ => ⟨y.f3, y.l3, y.m3, y.n3⟩
def R4.mk4 (a b c d : Rc) : R4 := ⟨a.f, a.l, a.m, a.n, b.f, b.l, b.m, b.n, c.f, c.l, c.m, c.n, d.f, d.l, d.m, d.n⟩
theorem R4.mk4_at (t : Nat → Rc) {k : Nat} (h : k < 4) : (R4.mk4 (t 0) (t 1) (t 2) (t 3)).at_ k = t k := by
  match k, h with
  | 0, _ => rfl
  | 1, _ => rfl
  | 2, _ => rfl
  | 3, _ => rfl
def lrU (l k : Nat) : Rc := if k = l then ⟨1, 1, 1, 1⟩ else ⟨0, 0, 0, 1⟩
def lrF (l : Nat) : R4 := .mk4 (lrU l 0) (lrU l 1) (lrU l 2) (lrU l 3)
def lrJ (x y : Rc) : Rc := ⟨if x.f = x.n then x.f + y.f else x.f, if y.l = y.n then y.l + x.l else y.l, max (max x.m y.m) (x.l + y.f), x.n + y.n⟩
def lrG (x y : R4) (_ : Fac) : R4 := .mk4 (lrJ (x.at_ 0) (y.at_ 0)) (lrJ (x.at_ 1) (y.at_ 1)) (lrJ (x.at_ 2) (y.at_ 2)) (lrJ (x.at_ 3) (y.at_ 3))
theorem lrF_at (l : Nat) {k : Nat} (h : k < 4) : (lrF l).at_ k = lrU l k := R4.mk4_at (lrU l) h
theorem lrG_at (x y : R4) (r : Fac) {k : Nat} (h : k < 4) : (lrG x y r).at_ k = lrJ (x.at_ k) (y.at_ k) := R4.mk4_at (fun k => lrJ (x.at_ k) (y.at_ k)) h
abbrev lrAll (rs : List Fac) : List R4 := full R4.nil lrF lrG rs
/-- within bounds: no run is longer than the word -/
def RcB (n : Int) (x : Rc) : Prop := 0 ≤ x.f ∧ x.f ≤ n ∧ 0 ≤ x.l ∧ x.l ≤ n ∧ 0 ≤ x.m ∧ x.m ≤ n ∧ x.n = n
theorem lrJ_b {a b : Int} {x y : Rc} (ha : 1 ≤ a) (hb : 1 ≤ b) (hx : RcB a x) (hy : RcB b y) : RcB (a + b) (lrJ x y) := by
  obtain ⟨x0, x1, x2, x3, x4, x5, x6⟩ := hx
  obtain ⟨y0, y1, y2, y3, y4, y5, y6⟩ := hy
  unfold lrJ RcB
  simp only
  refine ⟨?_, ?_, ?_, ?_, ?_, ?_, ?_⟩
  · split <;> omega
  · split <;> omega
  · split <;> omega
  · split <;> omega
  · omega
  · omega
  · omega
theorem lr_bound {rs : List Fac} {ls : List Int} (hls : gLens rs [] = some ls) {k : Nat} (hk : k < rs.length) : ∀ l, l < 4 → RcB (ls.getD k 0) (((lrAll rs).getD k R4.nil).at_ l) := by
  refine full_ind R4.nil lrF lrG (wf_of hls) (fun k x => ∀ l, l < 4 → RcB (ls.getD k 0) (x.at_ l)) (fun k r hr h => ?_) (fun k r a b hr h0' h1 h2 h3 h4 ha hb => ?_) k hk
  · intro l hl
    have hn : r.l.size ≠ 0 := by
      obtain ⟨c, _, e⟩ := letT_one h
      rw [e]; show (1 : Nat) ≠ 0; omega
    rw [lens_let hls hr hn, lrF_at _ hl]
    unfold lrU RcB
    split <;> simp
  · intro l hl
    have hk' : k < rs.length := (List.getElem?_eq_some_iff.1 hr).1
    have ba := lens_bound hls (i := r.a.toNat) (by omega)
    have bb := lens_bound hls (i := r.b.toNat) (by omega)
    rw [lens_pair hls hr h0', lrG_at _ _ _ hl]
    exact lrJ_b ba.1 bb.1 (ha l hl) (hb l hl)
/-- the runs of one letter, as the reference has them -/
structure Sr where
  f : Int
  b : Int
  m : Int
  deriving Inhabited, DecidableEq
def Sr.nil : Sr := ⟨0, 0, 0⟩
def srF (l : Nat) (c : Nat) : Sr := if c = l then ⟨1, 1, 1⟩ else ⟨0, 0, 0⟩
def srG (ls : List Int) (x y : Sr) (r : Fac) : Sr := ⟨if x.f = ls.getD r.a.toNat 0 then x.f + y.f else x.f, if y.b = ls.getD r.b.toNat 0 then y.b + x.b else y.b, max (max x.m y.m) (x.b + y.f)⟩
abbrev srAll (ls : List Int) (l : Nat) (rs : List Fac) : List Sr := full Sr.nil (srF l) (srG ls) rs
theorem lr_sr {rs : List Fac} {ls : List Int} (hls : gLens rs [] = some ls) {l : Nat} (hl : l < 4) :
    ∀ k, k < rs.length → ((lrAll rs).getD k R4.nil).at_ l = ⟨((srAll ls l rs).getD k Sr.nil).f, ((srAll ls l rs).getD k Sr.nil).b, ((srAll ls l rs).getD k Sr.nil).m, ls.getD k 0⟩ := by
  intro k
  induction k using Nat.strongRecOn with
  | ind k ih =>
    intro hk
    have gx : rs[k]? = some (rs[k]'(by omega)) := List.getElem?_eq_getElem _
    have hwf := wf_of hls
    rcases hwf k _ gx with ⟨h0', ha0, ha1, hb0, hb1⟩ | ⟨c, hc, hxl, _⟩
    · have e1 := ih (rs[k]'(by omega)).a.toNat (by omega) (by omega)
      have e2 := ih (rs[k]'(by omega)).b.toNat (by omega) (by omega)
      rw [full_pair R4.nil _ _ hwf gx h0', full_pair Sr.nil _ _ hwf gx h0', lens_pair hls gx h0', lrG_at _ _ _ hl, e1, e2]
      rfl
    · have h0' : (rs[k]'(by omega)).l.size ≠ 0 := by rw [hxl]; show (1 : Nat) ≠ 0; omega
      rw [full_let R4.nil _ _ gx h0', full_let Sr.nil _ _ gx h0', lens_let hls gx h0', lrF_at _ hl]
      unfold lrU srF
      by_cases h : l = letN (rs[k]'(by omega)).l
      · rw [if_pos h, if_pos h.symm]
      · rw [if_neg h, if_neg (fun e => h e.symm)]
/-- what is told -/
def lrTop (rs : List Fac) : List Int := if rs.length = 0 then [0, 0, 0, 0] else (List.range 4).map fun l => (((lrAll rs).getD (rs.length - 1) R4.nil).at_ l).m
end Go.Proofs.Ytgdbpkpaacbhhaa


/-
  The longest runs of a word's letters, and its runs.
-/
namespace Go.Proofs.Ytgdbpkpaacbhhaa

def rc0 : Rc := ⟨0, 0, 0, 0⟩
/-- the longest run of letter l, letter by letter -/
def lrW (l : Nat) (u : List Nat) : Rc := u.foldl (fun x k => lrJ x (lrU k l)) rc0
structure RcOk (x : Rc) : Prop where
  f0 : 0 ≤ x.f
  fn : x.f ≤ x.n
  l0 : 0 ≤ x.l
  ln : x.l ≤ x.n
  m0 : 0 ≤ x.m
  fm : x.f ≤ x.m
  lm : x.l ≤ x.m
  all : x.f = x.n ↔ x.l = x.n
theorem lrU_ok (k l : Nat) : RcOk (lrU k l) ∧ (lrU k l).n = 1 := by
  unfold lrU
  split
  · exact ⟨⟨by decide, by decide, by decide, by decide, by decide, by decide, by decide, by simp⟩, rfl⟩
  · exact ⟨⟨by decide, by decide, by decide, by decide, by decide, by decide, by decide, by simp⟩, rfl⟩
theorem lrJ_ok {x y : Rc} (hx : RcOk x) (hy : RcOk y) : RcOk (lrJ x y) := by
  obtain ⟨a1, a2, a3, a4, a5, a6, a7, a8⟩ := hx
  obtain ⟨b1, b2, b3, b4, b5, b6, b7, b8⟩ := hy
  unfold lrJ
  refine ⟨?_, ?_, ?_, ?_, ?_, ?_, ?_, ?_⟩
  all_goals simp only
  · split <;> omega
  · split <;> omega
  · split <;> omega
  · split <;> omega
  · omega
  · split <;> omega
  · split <;> omega
  · split <;> split <;> omega
theorem lrJ_assoc {x y z : Rc} (hx : RcOk x) (hy : RcOk y) (hz : RcOk z) : lrJ (lrJ x y) z = lrJ x (lrJ y z) := by
  obtain ⟨a1, a2, a3, a4, a5, a6, a7, a8⟩ := hx
  obtain ⟨b1, b2, b3, b4, b5, b6, b7, b8⟩ := hy
  obtain ⟨c1, c2, c3, c4, c5, c6, c7, c8⟩ := hz
  obtain ⟨xf, xl, xm, xn⟩ := x
  obtain ⟨yf, yl, ym, yn⟩ := y
  obtain ⟨zf, zl, zm, zn⟩ := z
  simp only at a1 a2 a3 a4 a5 a6 a7 a8 b1 b2 b3 b4 b5 b6 b7 b8 c1 c2 c3 c4 c5 c6 c7 c8
  simp only [lrJ, Rc.mk.injEq]
  refine ⟨?_, ?_, ?_, ?_⟩
  · (repeat' split) <;> omega
  · (repeat' split) <;> omega
  · (repeat' split) <;> omega
  · omega
theorem lrW_snoc (l : Nat) (u : List Nat) (k : Nat) : lrW l (u ++ [k]) = lrJ (lrW l u) (lrU k l) := by unfold lrW; rw [List.foldl_append]; rfl
theorem snoc_ind {P : List Nat → Prop} (h0 : P []) (h1 : ∀ u k, P u → P (u ++ [k])) (u : List Nat) : P u := by
  have : ∀ n (u : List Nat), u.length = n → P u := fun n => by
    induction n with
    | zero => intro u hu; rw [List.length_eq_zero_iff.1 hu]; exact h0
    | succ n ih =>
      intro u hu
      have hne : u ≠ [] := by intro e; rw [e] at hu; simp at hu
      rw [← List.dropLast_concat_getLast hne]
      exact h1 _ _ (ih _ (by simp; omega))
  exact this _ u rfl
theorem lrW_ok (l : Nat) (u : List Nat) : RcOk (lrW l u) ∧ (lrW l u).n = u.length := by
  refine snoc_ind (P := fun u => RcOk (lrW l u) ∧ (lrW l u).n = u.length) ?_ ?_ u
  · have e : lrW l [] = rc0 := rfl
    rw [e]
    exact ⟨⟨by decide, by decide, by decide, by decide, by decide, by decide, by decide, by simp [rc0]⟩, rfl⟩
  · intro u k ⟨h1, h2⟩
    rw [lrW_snoc]
    obtain ⟨h3, h4⟩ := lrU_ok k l
    refine ⟨lrJ_ok h1 h3, ?_⟩
    show (lrW l u).n + (lrU k l).n = _
    rw [h2, h4]; simp
theorem lrJ_nil {x : Rc} (hx : RcOk x) : lrJ x rc0 = x := by
  obtain ⟨a1, a2, a3, a4, a5, a6, a7, a8⟩ := hx
  obtain ⟨xf, xl, xm, xn⟩ := x
  simp only at a1 a2 a3 a4 a5 a6 a7 a8
  simp only [lrJ, rc0, Rc.mk.injEq, if_true]
  refine ⟨?_, ?_, ?_, ?_⟩
  · split <;> omega
  · omega
  · omega
  · omega
theorem lrW_app (l : Nat) (u : List Nat) : ∀ v : List Nat, lrW l (u ++ v) = lrJ (lrW l u) (lrW l v) := by
  intro v
  refine snoc_ind (P := fun v => lrW l (u ++ v) = lrJ (lrW l u) (lrW l v)) ?_ ?_ v
  · rw [List.append_nil]
    exact (lrJ_nil (lrW_ok l u).1).symm
  · intro v k ih
    rw [← List.append_assoc, lrW_snoc, ih, lrW_snoc, lrJ_assoc (lrW_ok l u).1 (lrW_ok l v).1 (lrU_ok k l).1]
theorem rc_nil_j (k l : Nat) : lrJ rc0 (lrU k l) = lrU k l := by
  unfold lrU
  split <;> simp [lrJ, rc0] <;> rfl
theorem lr_word {rs : List Fac} (hwf : WF rs) {l : Nat} (hl : l < 4) {k : Nat} (hk : k < rs.length) : ((lrAll rs).getD k R4.nil).at_ l = lrW l ((wds rs).getD k []) := by
  have := full_hom (d := R4.nil) (F := lrF) (G := lrG) hwf (fun u => R4.mk4 (lrW 0 u) (lrW 1 u) (lrW 2 u) (lrW 3 u)) (fun k _ => by
      unfold lrF
      have : ∀ l, lrW l [k] = lrU k l := fun l => rc_nil_j k l
      rw [this, this, this, this]) (fun u v r _ _ _ _ => by
      unfold lrG
      rw [R4.mk4_at (fun l => lrW l u) (by omega), R4.mk4_at (fun l => lrW l u) (by omega), R4.mk4_at (fun l => lrW l u) (by omega), R4.mk4_at (fun l => lrW l u) (by omega),
        R4.mk4_at (fun l => lrW l v) (by omega), R4.mk4_at (fun l => lrW l v) (by omega), R4.mk4_at (fun l => lrW l v) (by omega), R4.mk4_at (fun l => lrW l v) (by omega)]
      simp only [lrW_app]) k hk
  rw [show (lrAll rs).getD k R4.nil = _ from this]
  exact R4.mk4_at (fun l => lrW l ((wds rs).getD k [])) hl
theorem lrTop_word {rs : List Fac} (hwf : WF rs) : lrTop rs = (List.range 4).map fun l => (lrW l (wdN rs)).m := by
  unfold lrTop wdN
  split
  · rename_i h
    rw [if_pos (List.eq_nil_of_length_eq_zero h)]; rfl
  · rename_i h
    rw [if_neg (by intro e; rw [e] at h; simp at h)]
    apply List.map_congr_left
    intro l hl
    rw [lr_word hwf (by simpa using hl) (by omega)]
/-- the runs of a word: letter and count -/
def runsW : List Nat → List (Nat × Nat)
  | [] => []
  | x :: r => match runsW r with
    | [] => [(x, 1)]
    | (y, n) :: t => if x = y then (y, n + 1) :: t else (x, 1) :: (y, n) :: t
end Go.Proofs.Ytgdbpkpaacbhhaa


/-
  The runs of a word: how many there are, and how long they are.
-/
namespace Go.Proofs.Ytgdbpkpaacbhhaa

def rStep (acc : List (Nat × Int)) (k : Nat) : List (Nat × Int) :=
  match acc.getLast? with
  | some r => if r.1 = k then acc.dropLast ++ [(k, r.2 + 1)] else acc ++ [(k, 1)]
  | none => [(k, 1)]
def runsL (u : List Nat) : List (Nat × Int) := u.foldl rStep []
theorem runsL_snoc (u : List Nat) (k : Nat) : runsL (u ++ [k]) = rStep (runsL u) k := by unfold runsL; rw [List.foldl_append]; rfl
theorem rStep_last (t : List (Nat × Int)) (l : Nat) (c : Int) (k : Nat) : rStep (t ++ [(l, c)]) k = if l = k then t ++ [(k, c + 1)] else (t ++ [(l, c)]) ++ [(k, 1)] := by
  unfold rStep
  rw [List.getLast?_concat, List.dropLast_concat]
/-- the last run -/
theorem runsL_last (u : List Nat) (k : Nat) : ∃ (t : List (Nat × Int)) (c : Int), runsL (u ++ [k]) = t ++ [(k, c)] ∧ 1 ≤ c ∧ c ≤ (u ++ [k]).length := by
  refine snoc_ind (P := fun u => ∀ k, ∃ (t : List (Nat × Int)) (c : Int), runsL (u ++ [k]) = t ++ [(k, c)] ∧ 1 ≤ c ∧ c ≤ (u ++ [k]).length) ?_ ?_ u k
  · intro k
    exact ⟨[], 1, rfl, by omega, by simp⟩
  · intro u j ih k
    obtain ⟨t, c, h1, h2, h3⟩ := ih j
    rw [runsL_snoc, h1, rStep_last]
    by_cases h : j = k
    · rw [if_pos h]
      exact ⟨t, c + 1, rfl, by omega, by simp only [List.length_append, List.length_singleton] at *; omega⟩
    · rw [if_neg h]
      exact ⟨t ++ [(j, c)], 1, rfl, by omega, by simp; omega⟩
def mx (l : Nat) (rs : List (Nat × Int)) : Int := rs.foldl (fun a r => if r.1 = l then max a r.2 else a) 0
theorem mx_snoc (l : Nat) (t : List (Nat × Int)) (r : Nat × Int) : mx l (t ++ [r]) = if r.1 = l then max (mx l t) r.2 else mx l t := by unfold mx; rw [List.foldl_append]; rfl
theorem lr_runs (l : Nat) (u : List Nat) : (lrW l u).m = mx l (runsL u) ∧ ∀ t k c, runsL u = t ++ [(k, c)] → (lrW l u).l = if k = l then c else 0 := by
  refine snoc_ind (P := fun u => (lrW l u).m = mx l (runsL u) ∧ ∀ t k c, runsL u = t ++ [(k, c)] → (lrW l u).l = if k = l then c else 0) ?_ ?_ u
  · exact ⟨rfl, fun t k c h => by simp [runsL] at h⟩
  · intro u x ⟨hm, hl⟩
    have hok := (lrW_ok l u).1
    rw [lrW_snoc, runsL_snoc]
    have hu : u = [] ∨ ∃ v y, u = v ++ [y] := by
      rcases List.eq_nil_or_concat u with h | ⟨v, y, h⟩
      · exact .inl h
      · exact .inr ⟨v, y, by rw [h, List.concat_eq_append]⟩
    rcases hu with rfl | ⟨v, y, rfl⟩
    · have e : runsL [] = [] := rfl
      rw [e]
      have e2 : rStep [] x = [(x, 1)] := rfl
      rw [e2]
      have e3 : lrW l [] = rc0 := rfl
      rw [e3, rc_nil_j]
      unfold lrU
      refine ⟨?_, fun t k c h => ?_⟩
      · by_cases q : l = x
        · rw [if_pos q]; unfold mx; simp [q]; rfl
        · rw [if_neg q]; unfold mx; simp; intro e; exact absurd e.symm q
      · have h2 : t = [] ∧ (x, (1 : Int)) = (k, c) := by
          have : t ++ [(k, c)] = [] ++ [(x, (1 : Int))] := by rw [← h]; rfl
          have := List.append_inj' this rfl
          exact ⟨this.1, by injection this.2 with h5; exact h5.symm⟩
        injection h2.2 with h3 h4
        subst h3 h4
        by_cases q : l = x
        · rw [if_pos q, if_pos q.symm]
        · rw [if_neg q, if_neg (fun e => q e.symm)]
    · obtain ⟨t, c, h1, h2, _⟩ := runsL_last v y
      have hl1 := hl t y c h1
      rw [h1, mx_snoc] at hm
      simp only at hm
      rw [h1, rStep_last]
      generalize lrW l (v ++ [y]) = z at *
      have z1 := hok.l0
      have z2 := hok.lm
      have z3 := hok.m0
      have z4 : 0 ≤ z.f := hok.f0
      have lst : ∀ (a : List (Nat × Int)) (r : Nat × Int) t' k c', a ++ [r] = t' ++ [(k, c')] → r = (k, c') := fun a r t' k c' h => by
        have := (List.append_inj' h rfl).2
        injection this
      have eJ : ∀ q : Rc, (lrJ z q).m = max (max z.m q.m) (z.l + q.f) ∧ (lrJ z q).l = if q.l = q.n then q.l + z.l else q.l := fun q => ⟨rfl, rfl⟩
      rw [(eJ _).1, (eJ _).2]
      by_cases hxl : l = x
      · have eU : lrU x l = ⟨1, 1, 1, 1⟩ := by unfold lrU; rw [if_pos hxl]
        rw [eU]
        simp only [if_true]
        by_cases hyx : y = x
        · rw [if_pos hyx, mx_snoc]
          rw [if_pos (hyx.trans hxl.symm)] at hl1 hm
          simp only
          rw [if_pos hxl.symm]
          refine ⟨by omega, fun t' k c' h => ?_⟩
          have := lst _ _ _ _ _ h
          injection this with e1 e2
          rw [← e1, if_pos hxl.symm, ← e2]; omega
        · rw [if_neg hyx, mx_snoc, mx_snoc]
          have hyl : ¬ y = l := fun e => hyx (e.trans hxl)
          rw [if_neg hyl] at hl1 hm
          simp only
          rw [if_pos hxl.symm, if_neg hyl]
          refine ⟨by omega, fun t' k c' h => ?_⟩
          have := lst _ _ _ _ _ h
          injection this with e1 e2
          rw [← e1, if_pos hxl.symm, ← e2]; omega
      · have eU : lrU x l = ⟨0, 0, 0, 1⟩ := by unfold lrU; rw [if_neg hxl]
        have hxl' : ¬ x = l := fun e => hxl e.symm
        rw [eU]
        simp only [show ¬ (0 : Int) = 1 by omega, if_false]
        by_cases hyx : y = x
        · rw [if_pos hyx, mx_snoc]
          have hyl : ¬ y = l := fun e => hxl' (hyx.symm.trans e)
          rw [if_neg hyl] at hl1 hm
          simp only
          rw [if_neg hxl']
          refine ⟨by omega, fun t' k c' h => ?_⟩
          have := lst _ _ _ _ _ h
          injection this with e1 e2
          rw [← e1, if_neg hxl']
        · rw [if_neg hyx, mx_snoc, mx_snoc]
          simp only
          rw [if_neg hxl']
          refine ⟨by rw [← hm]; omega, fun t' k c' h => ?_⟩
          have := lst _ _ _ _ _ h
          injection this with e1 e2
          rw [← e1, if_neg hxl']
/-- pairs of unlike letters -/
def offW (u : List Nat) : Int := sumTo (fun k => sumTo (fun l => if k = l then 0 else adj k l u) 4) 4
theorem offW_snoc (u : List Nat) (y x : Nat) (hy : y < 4) (hx : x < 4) : offW ((u ++ [y]) ++ [x]) = offW (u ++ [y]) + if y = x then 0 else 1 := by
  have e : ∀ k l, adj k l ((u ++ [y]) ++ [x]) = adj k l (u ++ [y]) + if y = k ∧ x = l then 1 else 0 := fun k l => by
    rw [adj_app k l (u ++ [y]) [x] (by simp), List.getLast?_concat]
    simp [adj]
  unfold offW
  simp only [e, sumTo]
  rcases (show y = 0 ∨ y = 1 ∨ y = 2 ∨ y = 3 by omega) with rfl | rfl | rfl | rfl <;> rcases (show x = 0 ∨ x = 1 ∨ x = 2 ∨ x = 3 by omega) with rfl | rfl | rfl | rfl <;> simp <;> omega
theorem runs_len (u : List Nat) (k : Nat) (h : ∀ x ∈ u ++ [k], x < 4) : ((runsL (u ++ [k])).length : Int) = 1 + offW (u ++ [k]) := by
  refine snoc_ind (P := fun u => ∀ k, (∀ x ∈ u ++ [k], x < 4) → ((runsL (u ++ [k])).length : Int) = 1 + offW (u ++ [k])) ?_ ?_ u k h
  · intro k _
    have e1 : runsL ([] ++ [k]) = [(k, 1)] := rfl
    have e2 : offW ([] ++ [k]) = 0 := by unfold offW; simp [sumTo, adj]
    rw [e1, e2]; rfl
  · intro u y ih k h
    have hy := h y (by simp)
    have hk := h k (by simp)
    obtain ⟨t, c, h1, _, _⟩ := runsL_last u y
    have hi := ih y (fun x hx => h x (by simp at hx ⊢; rcases hx with hx | hx; exact .inl hx; exact .inr (.inl hx)))
    rw [runsL_snoc, h1, rStep_last, offW_snoc u y k hy hk]
    rw [h1] at hi
    by_cases q : y = k
    · rw [if_pos q, if_pos q]
      simp only [List.length_append, List.length_singleton] at hi ⊢; omega
    · rw [if_neg q, if_neg q]
      simp only [List.length_append, List.length_singleton] at hi ⊢; omega
theorem runsN_word {rs : List Fac} (hwf : WF rs) : runsN rs = ((runsL (wdN rs)).length : Int) := by
  unfold runsN
  split
  · rename_i h
    have : rs = [] := List.eq_nil_of_length_eq_zero h
    subst this
    rfl
  · rename_i h
    have hne : wdN rs ≠ [] := by
      unfold wdN
      rw [if_neg (by intro e; rw [e] at h; simp at h)]
      exact wds_pos hwf (by omega)
    have hl := wdN_let hwf
    have e : sumTo (rowOff (pcAll rs)) 4 = offW (wdN rs) := by
      unfold offW
      apply sumTo_congr
      intro k hk
      unfold rowOff
      apply sumTo_congr
      intro l hl4
      unfold offA
      split
      · rfl
      · exact pc_word hwf hk hl4
    rw [e]
    generalize wdN rs = u at *
    rcases List.eq_nil_or_concat u with q | ⟨v, y, q⟩
    · exact absurd q hne
    · rw [List.concat_eq_append] at q
      rw [q] at hl ⊢
      rw [runs_len v y hl]
end Go.Proofs.Ytgdbpkpaacbhhaa


/-
  The runs of a word, in the reference.
-/
namespace Go.Proofs.Ytgdbpkpaacbhhaa
open Go.RowKit

def encR (r : Nat × Int) : List Value := [.string (tx [r.1]), .int .i64 r.2]
theorem lenR (r : Nat × Int) : (encR r).length = 2 := rfl
theorem tx_sub (u : List Nat) {i : Nat} (hi : i < u.length) : (tx u).extract i (i + 1) = tx [u.getD i 0] := by
  apply ByteArray.ext
  apply Array.ext'
  rw [ByteArray.data_extract, Array.toList_extract]
  show ((txB u).drop i).take (i + 1 - i) = txB [u.getD i 0]
  unfold txB
  rw [← List.map_drop, List.drop_eq_getElem_cons hi, Nat.add_sub_cancel_left, List.getD_eq_getElem?_getD, List.getElem?_eq_getElem hi]
  rfl
theorem encR_set (t : List (Nat × Int)) (y : Nat) (c d : Int) : ((t ++ [(y, c)]).flatMap encR).set (t.length * 2 + 1) (.int .i64 d) = (t ++ [(y, d)]).flatMap encR := by
  have hl : (t.flatMap encR).length = t.length * 2 := flat_len t (fun r _ => lenR r)
  rw [List.flatMap_append, List.flatMap_append, List.set_append_right _ _ (by rw [hl]; omega), hl]
  simp [encR]
end Go.Proofs.Ytgdbpkpaacbhhaa


/-
  Lists of numbers beside each other; the runs of a word with a code.
-/
namespace Go.Proofs.Ytgdbpkpaacbhhaa
open Go.RowKit

set_option maxHeartbeats 1000000 in
/-- two equal lists are told to be equal -/
theorem f6ints_any (A D : Option Addr) (n c d : Nat) (xs : List Int) (w : World) (hn : n ≤ 1048576) (hx : Rd w w.heap.size A n 1 intE xs) (hy : Rd w w.heap.size D n 1 intE xs) :
    Calls Try.prog 65 #[.slice A n c, .slice D n d] w (Ret (.bool true) w) := by
  have HX := Lib.hid hx; clear hx
  have HY := Lib.hid hy; clear hy
  go_enter Try.func65, Try.ntmps65
  go_wp2
  go_loopw [5] (fun i w' => ∃ k : Nat, i = .int .i64 k ∧ k ≤ n ∧ Below w.heap.size w w') (fun i _ => n - (intOf i).toNat)
  case atStart => exact ⟨0, rfl, by omega, Below.refl _ _⟩
  case round =>
    obtain ⟨k, rfl, hk, hb⟩ := hrel
    by_cases hlt : k < n
    · obtain ⟨b, o, x, rfl, hB, gx, c0⟩ := (show Rd wr wr.heap.size A n 1 (fun s => [.int .i64 s]) xs from HX.out.next hb).int hlt
      obtain ⟨b', o', y, rfl, hB', gy, d0⟩ := (show Rd wr wr.heap.size D n 1 (fun s => [.int .i64 s]) xs from HY.out.next hb).int hlt
      obtain rfl : x = y := by rw [gx] at gy; exact Option.some.inj gy
      clear gx gy
      have hup := upc wr.heap.size wr
      have i0 : (0 : Int) ≤ k := by omega
      have i1 : (k : Int) < n := by omega
      go_wp2_with fail
      refine wp_region_up wr.heap.size (by kernel_rfl) (by kernel_rfl) ?_
      repeat (go_big_quiet_step ((fail)))
      refine wpQuiet_nil ?_
      intro w4 hup_w4
      have hb4 := up_of hup_w4
      go_wp2_with fail
      go_roundw
      case rel => exact ⟨k + 1, by go_num, by omega, hb.trans (hb4.mono hb.size)⟩
      case measure => simp [intOf]; omega
    · go_wp2_with fail
      go_ret
      exact ⟨rfl, hb⟩
end Go.Proofs.Ytgdbpkpaacbhhaa


/-
  Turned words, counts of scattered words letter by letter, tables compared, a scattered word that is drawn.
-/
namespace Go.Proofs.Ytgdbpkpaacbhhaa
open Go.RowKit

theorem txB_snocB (u : List Nat) (x : Nat) : txB (u ++ [x]) = txB u ++ [UInt8.ofNat (97 + x)] := by simp [txB]
set_option maxHeartbeats 1000000 in
theorem f6rows_any (b1 b2 : Nat) (A D : Option Addr) (n c d m : Nat) (gs hs : List Nat) (xss : List (List Int)) (w : World) (hn : n ≤ 1000) (hm : m ≤ 1000) (hx : TabJ w b1 A n c m gs xss) (hy : TabJ w b2 D n d m hs xss) :
    Calls Try.prog 20 #[.slice A n c, .slice D n d] w (Ret (.bool true) w) := by
  have HX := Lib.hid hx; clear hx
  have HY := Lib.hid hy; clear hy
  go_enter Try.func20, Try.ntmps20
  go_wp2_with fail
  go_loopw [5] (fun i_ w' => ∃ k : Nat, i_ = .int .i64 k ∧ k ≤ n ∧ Below w.heap.size w w') (fun i_ _ => n - (intOf i_).toNat)
  case atStart => exact ⟨0, rfl, by omega, Below.refl _ _⟩
  case round =>
    obtain ⟨k, rfl, hk, hb⟩ := hrel
    by_cases hlt : k < n
    · have X := HX.out.next hb
      have Y := HY.out.next hb
      have hmk := X.m k hlt
      obtain ⟨p, g, rfl, hp, _, s1, r1⟩ := X.at_ hlt
      obtain ⟨q, h, rfl, hq, _, s2, r2⟩ := Y.at_ hlt
      have R1 := Lib.hid (Rd.of_own (enc := intE) (fun _ _ => rfl) hmk r1)
      have R2 := Lib.hid (Rd.of_own (enc := intE) (fun _ _ => rfl) hmk r2)
      clear X Y r1 r2 hmk
      have hup := upc wr.heap.size wr
      have i0 : (0 : Int) ≤ (k : Int) := by omega
      have i1 : (k : Int) < (n : Int) := by omega
      have hx := Lib.hid (fun (x : Up wr.heap.size wr) => show Calls Try.prog 65 #[.slice (some ⟨g, 0, none⟩) m m, .slice (some ⟨h, 0, none⟩) m m] x.w' (Ret (.bool true) x.w') from
        f6ints_any (some ⟨g, 0, none⟩) (some ⟨h, 0, none⟩) m m m (xss.getD k []) x.w' (by omega) (R1.out.next x.h) (R2.out.next x.h))
      go_wp2_with fail
      refine wp_region_up wr.heap.size (by kernel_rfl) (by kernel_rfl) ?_
      repeat (go_big_quiet_step ((go_at_call 65; exact Calls.up (Nat.le_refl _) (hx.out _))))
      refine wpQuiet_nil ?_
      intro w2 hup_w2
      have hb2 := up_of hup_w2
      go_wp2
      go_roundw
      case rel => exact ⟨k + 1, by go_num, by omega, hb.trans (hb2.mono hb.size)⟩
      case measure => simp [intOf]; omega
    · go_wp2
      go_ret
      exact ⟨rfl, hb⟩
set_option maxHeartbeats 1000000 in
set_option maxRecDepth 100000 in
theorem l01Turn_any (P : List Nat) (w : World) (hP : ∀ x ∈ P, x < 4) (hl : P.length ≤ 2000) : Calls Try.prog 68 #[.string (tx P)] w (Ret (.string (tx P.reverse)) w) := by
  have HS := Lib.hid (tx_at P hP)
  have hsz := tx_size P
  have HT := Lib.hid (show tx P.reverse = ⟨(txB P.reverse).toArray⟩ from rfl)
  have HL := Lib.hid hP
  generalize tx P = x at *
  have HX := Lib.hid hsz; clear hsz hP
  have hx2 : x.size ≤ 2000 := by have := HX.out; omega
  have W1 := Lib.hid (World.ownsRow_made (base := w.heap.size) (e := 5) (size := 1) w #[] 0 (Nat.le_refl _) (by unfold maxLen; omega) rfl)
  have ux : IntKind.i64.wrap ((x.size : Int) - 1) = (x.size : Int) - 1 := IntWalk.i64_in _ (by omega)
  go_enter Try.func68, Try.ntmps68
  go_wp2_with fail
  clear ux
  go_loopw [3, 4] (fun o_ k_ w' => ∃ (j : Nat) (A : Option Addr) (c : Nat), k_ = .int .i64 ((x.size : Int) - 1 - j) ∧ o_ = .slice A j c ∧ j ≤ x.size ∧ Hid (w'.ownsRow w.heap.size 5 1 (.slice A j c) j ((txB ((P.drop (x.size - j)).reverse)).flatMap byteE)) ∧ Hid (Below w.heap.size w w')) (fun _ k_ _ => (intOf k_ + 1).toNat)
  case atStart => exact ⟨0, some ⟨w.heap.size, 0, none⟩, 0, by simp, rfl, by omega, Lib.hid (by rw [Nat.sub_zero, List.drop_of_length_le (by rw [HX.out]; omega)]; simpa [txB] using W1.out), Lib.hid (by (repeat first | exact Below.refl _ _ | assumption | refine Below.drew ?_ | refine Below.alloc ?_ (by first | exact Nat.le_refl _ | (simp; done) | omega | (simp; omega)) _ | refine Below.setCell ?_ (by first | exact Nat.le_refl _ | (simp; done) | omega | (simp; omega)) _))⟩
  case round =>
    obtain ⟨j, A, c, rfl, rfl, hj, hown, hbb⟩ := hrel
    have Hlen := Lib.hid (show (txB ((P.drop (x.size - j)).reverse)).length = j by rw [show (txB ((P.drop (x.size - j)).reverse)).length = ((P.drop (x.size - j)).reverse).length by simp [txB], List.length_reverse, List.length_drop]; have := HX.out; omega)
    by_cases hlt : j < x.size
    · obtain ⟨q, hq⟩ : ∃ q : Nat, (x.size : Int) - 1 - j = q := ⟨x.size - 1 - j, by omega⟩
      have hqx : q < x.size := by omega
      obtain ⟨hb1, hv4⟩ := HS.out q hqx
      have hdr := Lib.hid (show (P.drop (x.size - (j + 1))).reverse = (P.drop (x.size - j)).reverse ++ [P.getD q 0] by
        have hqp : q < P.length := by rw [← HX.out]; exact hqx
        rw [show x.size - (j + 1) = q by omega, List.drop_eq_getElem_cons hqp, List.reverse_cons, show q + 1 = x.size - j by omega, List.getD_eq_getElem?_getD, List.getElem?_eq_getElem hqp]; rfl)
      generalize P.getD q 0 = z at *
      have q0 : (0 : Int) ≤ (q : Int) := by omega
      have q1 : (q : Int) < (x.size : Int) := by omega
      have uq : IntKind.i64.wrap ((q : Int) - 1) = (q : Int) - 1 := IntWalk.i64_in _ (by omega)
      have hlet := Lib.hid (show #[Value.int .u8 (97 + (z : Int))].toList = byteE (UInt8.ofNat (97 + z)) by simp [byteE, UInt8.toNat_ofNat']; omega)
      have O3 := Lib.hid (hown.out.alloc (.cells #[.int .u8 (97 + (z : Int))] 5))
      have B3 := Lib.hid (show Below w.heap.size w (wr.alloc (.cells #[.int .u8 (97 + (z : Int))] 5)) from hbb.out.alloc hbb.out.size _)
      rw [hq]
      have hq2 := Lib.hid hq
      clear hq
      go_wp2_with
        (at_builtin
         refine wpList_pushG rfl _ _ _ rfl w.heap.size 5 1 1 elem_byte byteE A j c (txB ((P.drop (x.size - j)).reverse)) rfl O3.out wr.heap.size (UInt8.ofNat (97 + z)) #[.int .u8 (97 + (z : Int))] 5 (0, 0) rfl (heap_alloc_new _ _) hlet.out rfl (by simp [byteE, Value.oneCell']) (by omega) (by omega) (by unfold maxLen; omega) B3.out.size ?_
         intro A9 c9 w9 own9 hg9 hat9
         have O9 := Lib.hid own9
         have B9 := Lib.hid (B3.out.grown hg9 B3.out.size (own_ge O3.out))
         clear own9 hg9 hat9)
      go_roundw
      case rel => exact ⟨j + 1, A9, c9, by congr 1; have := hq2.out; omega, rfl, by omega, Lib.hid (by rw [hdr.out, txB_snocB]; exact O9.out), B9⟩
      case measure => simp [intOf] <;> omega
    · obtain rfl : j = x.size := by omega
      have ho := hown.out
      have hl2 := Hlen.out
      rw [Nat.sub_self, List.drop_zero] at ho hl2
      have hcv := conv_own ho hl2
      have hk : ¬ (0 : Int) ≤ (x.size : Int) - 1 - x.size := by omega
      clear ho hl2
      go_wp2_with fail
      go_ret
      rw [HT.out]
      exact ⟨rfl, hbb.out⟩
set_option maxHeartbeats 1000000 in
theorem turnWord_any (P : List Nat) (w : World) (hP : ∀ x ∈ P, x < 4) (hl : P.length ≤ 2000) : Calls Try.prog 23 #[.string (tx P)] w (Ret (.tuple #[.string (tx P.reverse), .int .i64 0]) w) := by
  have hok := Lib.hid (show okW (tx P) = true by rw [okW_all (by rw [tx_size]; exact hl)]; exact tx_let hP)
  have LT := Lib.hid (fun W => l01Turn_any P W hP hl)
  have hsz := tx_size P
  generalize tx P = x at *
  generalize tx P.reverse = y at *
  go_enter Try.func23, Try.ntmps23
  go_wp2_with fail
  refine (specOk_any x true _ (by rw [hsz]; unfold maxLen; omega) hok.out).mono ?_
  rintro e w1 ⟨rfl, hb1⟩
  go_wp2_with fail
  refine (LT.out w1).mono ?_
  rintro e w2 ⟨rfl, hb2⟩
  go_wp2_with fail
  go_ret2
  exact ⟨rfl, hb1.trans (hb2.mono hb1.size)⟩
/-- the row of ways, where those behind the k-th have the letter x more -/
def dpL (Q : List Nat) (m : Int) (u : List Nat) (x k : Nat) : List Int := (List.range (Q.length + 1)).map fun j => ((sq (Q.take j) (if k < j then u ++ [x] else u) : Nat) : Int) % m
theorem dpL_len (Q : List Nat) (m : Int) (u : List Nat) (x k : Nat) : (dpL Q m u x k).length = Q.length + 1 := by simp [dpL]
theorem dpL_at {Q : List Nat} (m : Int) (u : List Nat) (x k : Nat) {j : Nat} (h : j ≤ Q.length) : (dpL Q m u x k).getD j 0 = ((sq (Q.take j) (if k < j then u ++ [x] else u) : Nat) : Int) % m := by
  unfold dpL
  rw [List.getD_eq_getElem?_getD, List.getElem?_map, List.getElem?_range (by omega)]; rfl
theorem dpL_ext {Q : List Nat} {m : Int} {u u' : List Nat} {x x' k k' : Nat} (h : ∀ j, j ≤ Q.length → sq (Q.take j) (if k < j then u ++ [x] else u) = sq (Q.take j) (if k' < j then u' ++ [x'] else u')) : dpL Q m u x k = dpL Q m u' x' k' := by
  unfold dpL
  refine List.map_congr_left fun j hj => ?_
  rw [h j (by have := List.mem_range.1 hj; omega)]
theorem dpL_full (Q : List Nat) (m : Int) (u : List Nat) (x x' : Nat) : dpL Q m u x Q.length = dpL Q m u x' Q.length :=
  dpL_ext fun j hj => by rw [if_neg (by omega), if_neg (by omega)]
theorem dpL_end (Q : List Nat) (m : Int) (u : List Nat) (x x' : Nat) : dpL Q m u x 0 = dpL Q m (u ++ [x]) x' Q.length :=
  dpL_ext fun j hj => by
    rw [if_neg (show ¬ Q.length < j by omega)]
    by_cases h : 0 < j
    · rw [if_pos h]
    · obtain rfl : j = 0 := by omega
      rw [if_neg h, List.take_zero, sq_nil, sq_nil]
theorem dpL_start (Q : List Nat) (m : Int) (x : Nat) : dpL Q m [] x Q.length = (List.replicate (Q.length + 1) 0).set 0 (1 % m) := by
  apply List.ext_getElem?
  intro j
  unfold dpL
  rw [List.getElem?_map, List.getElem?_set]
  by_cases hj : j < Q.length + 1
  · rw [List.getElem?_range hj]
    simp only [Option.map_some]
    rw [if_neg (show ¬ Q.length < j by omega)]
    by_cases h0 : 0 = j
    · subst h0
      rw [if_pos rfl, if_pos (by simp)]; rfl
    · rw [if_neg h0, List.getElem?_replicate, if_pos hj]
      have : sq (Q.take j) [] = 0 := by
        cases hq : Q.take j with
        | nil =>
          have := congrArg List.length hq
          rw [List.length_take, List.length_nil] at this
          omega
        | cons a r => rfl
      rw [this]; simp
  · rw [List.getElem?_eq_none (by simp; omega)]
    by_cases h0 : 0 = j
    · omega
    · rw [if_neg h0, List.getElem?_eq_none (by simp; omega)]; rfl
theorem dpL_same {Q : List Nat} (m : Int) (u : List Nat) {x k : Nat} (hk : k < Q.length) (h : Q.getD k 0 ≠ x) : dpL Q m u x k = dpL Q m u x (k + 1) :=
  dpL_ext fun j hj => by
    by_cases h1 : j = k + 1
    · subst h1
      rw [if_pos (by omega), if_neg (by omega), List.take_succ_eq_append_getElem hk, sq_snoc, if_neg (by rw [List.getD_eq_getElem?_getD, List.getElem?_eq_getElem hk] at h; exact h), Nat.add_zero]
    · by_cases h2 : k < j
      · rw [if_pos h2, if_pos (by omega)]
      · rw [if_neg h2, if_neg (by omega)]
theorem dpL_more {Q : List Nat} (m : Int) (u : List Nat) {x k : Nat} (hk : k < Q.length) (h : Q.getD k 0 = x) : dpL Q m u x k = (dpL Q m u x (k + 1)).set (k + 1) (((dpL Q m u x (k + 1)).getD (k + 1) 0 + (dpL Q m u x (k + 1)).getD k 0) % m) := by
  have e1 := dpL_at m u x (k + 1) (show k + 1 ≤ Q.length by omega)
  have e0 := dpL_at m u x (k + 1) (show k ≤ Q.length by omega)
  rw [if_neg (by omega)] at e1 e0
  have hQ : Q[k] = x := by rw [List.getD_eq_getElem?_getD, List.getElem?_eq_getElem hk] at h; exact h
  have es : sq (Q.take (k + 1)) (u ++ [x]) = sq (Q.take (k + 1)) u + sq (Q.take k) u := by
    rw [List.take_succ_eq_append_getElem hk, sq_snoc, if_pos hQ]
  apply List.ext_getElem?
  intro j
  rw [List.getElem?_set]
  by_cases h1 : k + 1 = j
  · subst h1
    rw [if_pos rfl, if_pos (by rw [dpL_len]; omega), e1, e0]
    unfold dpL
    rw [List.getElem?_map, List.getElem?_range (by omega)]
    simp only [Option.map_some]
    rw [if_pos (by omega), es, Int.natCast_add, Int.add_emod]
  · rw [if_neg h1]
    unfold dpL
    rw [List.getElem?_map, List.getElem?_map]
    by_cases hj : j < Q.length + 1
    · rw [List.getElem?_range hj]
      simp only [Option.map_some]
      congr 3
      by_cases h2 : k < j
      · rw [if_pos h2, if_pos (by omega)]
      · rw [if_neg h2, if_neg (by omega)]
    · rw [List.getElem?_eq_none (by simp; omega)]; rfl
set_option maxHeartbeats 4000000 in
set_option maxRecDepth 100000 in
theorem f6scattered_any (Q U : List Nat) (m : Int) (w : World) (hQ : ∀ x ∈ Q, x < 4) (hU : ∀ x ∈ U, x < 4) (hq8 : Q.length ≤ 100) (hu8 : U.length ≤ 100) (hm : 1 ≤ m) (hm2 : m ≤ 1000000000) :
    Calls Try.prog 21 #[.string (tx Q), .string (tx U), .int .i64 m] w (Ret (.int .i64 (((sq Q U : Nat) : Int) % m)) w) := by
  have HQ := Lib.hid (tx_at Q hQ)
  have HUt := Lib.hid (tx_at U hU)
  have hq1 := tx_size Q
  have hu1 := tx_size U
  have hfin := Lib.hid (show (dpL Q m U 0 Q.length).getD Q.length 0 = ((sq Q U : Nat) : Int) % m by rw [dpL_at m U 0 _ (Nat.le_refl _), if_neg (by omega), List.take_length])
  generalize ((sq Q U : Nat) : Int) % m = fin at *
  generalize tx Q = p at *
  generalize tx U = x at *
  have HP := Lib.hid hq1
  have HXl := Lib.hid hu1
  have hp8 : p.size ≤ 100 := by omega
  have hx8 : x.size ≤ 100 := by omega
  have hst := Lib.hid (dpL_start Q m 0)
  rw [← hq1] at hst
  have mkN := fun W => show (Instr.makeSlice 46 (.int .i64 ((p.size : Int) + 1)) (.int .i64 ((p.size : Int) + 1))).run Try.prog W = .ok (.slice (some ⟨W.heap.size, 0, none⟩) (p.size + 1) (p.size + 1)) (W.alloc (.cells (intA (List.replicate (p.size + 1) 0)) 2)) from makeN (p.size + 1) W (by omega)
  have up : IntKind.i64.wrap ((p.size : Int) + 1) = ((p.size + 1 : Nat) : Int) := by rw [IntWalk.i64_in _ (by omega)]; omega
  clear hq1 hu1
  have n1 : (0 : Int) < ((p.size + 1 : Nat) : Int) := by omega
  have hB0 := Lib.hid (Blk.new w 2 (intA (List.replicate (p.size + 1) 0)))
  have z0 : (w.alloc (.cells (intA (List.replicate (p.size + 1) 0)) 2)).cell? ⟨w.heap.size, 0, none⟩ = some (.int .i64 0) := by
    rw [hB0.out.cell 0, intA_at _ (by simp)]; simp
  have f0 := hB0.out.frozen
  have l0 := hB0.out.lt
  have m0 : ¬ (m = 0) := by omega
  go_enter Try.func21, Try.ntmps21
  go_wp2_with fail
  have B1 := Lib.hid (show Blk (w.alloc (.cells ((intA (List.replicate (p.size + 1) 0)).setIfInBounds 0 (.int .i64 (1 % m))) 2)) w.heap.size 2 (intA (dpL Q m (U.take 0) 0 Q.length)) by
    rw [List.take_zero, ← HP.out, hst.out, intA_set]; exact Blk.new _ _ _)
  have b1 := Lib.hid (show Below w.heap.size w (w.alloc (.cells ((intA (List.replicate (p.size + 1) 0)).setIfInBounds 0 (.int .i64 (1 % m))) 2)) from (Below.refl _ _).alloc (Nat.le_refl _) _)
  clear hB0 z0 f0 l0 mkN hst up
  go_loopw [8] (fun i_ w' => ∃ i : Nat, i_ = .int .i64 i ∧ i ≤ x.size ∧ Hid (Blk w' w.heap.size 2 (intA (dpL Q m (U.take i) 0 Q.length))) ∧ Hid (Below w.heap.size w w')) (fun i_ _ => x.size - (intOf i_).toNat)
  case atStart => exact ⟨0, rfl, by omega, B1, b1⟩
  case round =>
    obtain ⟨i, rfl, hi, B, bb⟩ := hrel
    clear B1 b1
    by_cases hlt : i < x.size
    · have i0 : (0 : Int) ≤ (i : Int) := by omega
      have i1 : (i : Int) < (x.size : Int) := by omega
      have hiU : i < U.length := by rw [← HXl.out]; exact hlt
      obtain ⟨hxi, hc4⟩ := HUt.out i hlt
      have htk := Lib.hid (show U.take (i + 1) = U.take i ++ [U.getD i 0] by rw [List.take_succ_eq_append_getElem hiU, List.getD_eq_getElem?_getD, List.getElem?_eq_getElem hiU]; rfl)
      generalize U.getD i 0 = ci at *
      go_wp2_with fail
      go_loopw [9] (fun k_ w' => ∃ k : Nat, k_ = .int .i64 k ∧ k ≤ p.size ∧ Hid (Blk w' w.heap.size 2 (intA (dpL Q m (U.take i) ci k))) ∧ Hid (Below w.heap.size w w')) (fun k_ _ => (intOf k_).toNat)
      case atStart => exact ⟨p.size, rfl, by omega, Lib.hid (by rw [HP.out, dpL_full Q m _ ci 0]; exact B.out), bb⟩
      case round =>
        obtain ⟨k, rfl, hk, B2, bb2⟩ := hrel
        clear B bb
        by_cases hk0 : 0 < k
        · obtain ⟨k1, rfl⟩ : ∃ k1, k = k1 + 1 := ⟨k - 1, by omega⟩
          have hkp : k1 < p.size := by omega
          have hkQ : k1 < Q.length := by rw [← HP.out]; exact hkp
          obtain ⟨hpk, hp4⟩ := HQ.out k1 hkp
          have uk : IntKind.i64.wrap (((k1 + 1 : Nat) : Int) - 1) = (k1 : Int) := by rw [IntWalk.i64_in _ (by omega)]; omega
          have ka : (0 : Int) < ((k1 + 1 : Nat) : Int) := by omega
          have kb : (0 : Int) ≤ (k1 : Int) := by omega
          have kc : (k1 : Int) < (p.size : Int) := by omega
          have dsame := Lib.hid (fun h => dpL_same (Q := Q) m (U.take i) (x := ci) hkQ h)
          have dmore := Lib.hid (fun h => dpL_more (Q := Q) m (U.take i) (x := ci) hkQ h)
          have v1b := dpL_at m (U.take i) ci (k1 + 1) (show k1 + 1 ≤ Q.length by omega)
          have v0b := dpL_at m (U.take i) ci (k1 + 1) (show k1 ≤ Q.length by omega)
          have v1c := Int.emod_nonneg ((sq (Q.take (k1 + 1)) (if k1 + 1 < k1 + 1 then U.take i ++ [ci] else U.take i) : Nat) : Int) m0
          have v1d := Int.emod_lt_of_pos ((sq (Q.take (k1 + 1)) (if k1 + 1 < k1 + 1 then U.take i ++ [ci] else U.take i) : Nat) : Int) (show 0 < m by omega)
          have v0c := Int.emod_nonneg ((sq (Q.take k1) (if k1 + 1 < k1 then U.take i ++ [ci] else U.take i) : Nat) : Int) m0
          have v0d := Int.emod_lt_of_pos ((sq (Q.take k1) (if k1 + 1 < k1 then U.take i ++ [ci] else U.take i) : Nat) : Int) (show 0 < m by omega)
          rw [← v1b] at v1c v1d
          rw [← v0b] at v0c v0d
          have hql : k1 + 1 < (dpL Q m (U.take i) ci (k1 + 1)).length := by rw [dpL_len]; omega
          generalize Q.getD k1 0 = qk at *
          clear v1b v0b
          have BD := Lib.hid (fun (W : World) (h : Below wr.heap.size wr W) => B2.out.next h)
          have d1 : wr.drew.drew.cell? ⟨w.heap.size, k1 + 1, none⟩ = some (.int .i64 ((dpL Q m (U.take i) ci (k1 + 1)).getD (k1 + 1) 0)) := by
            rw [(BD.out _ ((Below.refl _ _).drew.drew)).cell (k1 + 1), intA_at _ hql]
          have d0 : wr.drew.drew.cell? ⟨w.heap.size, k1, none⟩ = some (.int .i64 ((dpL Q m (U.take i) ci (k1 + 1)).getD k1 0)) := by
            rw [(BD.out _ ((Below.refl _ _).drew.drew)).cell k1, intA_at _ (by omega)]
          have fz := (BD.out _ ((Below.refl _ _).drew.drew)).frozen
          have lz := (BD.out _ ((Below.refl _ _).drew.drew)).lt
          generalize hv1 : (dpL Q m (U.take i) ci (k1 + 1)).getD (k1 + 1) 0 = v1 at *
          generalize hv0 : (dpL Q m (U.take i) ci (k1 + 1)).getD k1 0 = v0 at *
          have uv : IntKind.i64.wrap (v1 + v0) = v1 + v0 := IntWalk.i64_in _ (by omega)
          have kd : (0 : Int) ≤ ((k1 + 1 : Nat) : Int) := by omega
          have ke : ((k1 + 1 : Nat) : Int) < ((p.size + 1 : Nat) : Int) := by omega
          have kf : (k1 : Int) < ((p.size + 1 : Nat) : Int) := by omega
          have kg : (0 : Int) ≤ (k1 : Int) + 1 := by omega
          have kh : (k1 : Int) + 1 < (p.size : Int) + 1 := by omega
          have ki : (k1 : Int) < (p.size : Int) + 1 := by omega
          have kj : (k1 : Int) + 1 - 1 = (k1 : Int) := by omega
          have kl : ((k1 : Int) + 1).toNat = k1 + 1 := by omega
          have uk3 : IntKind.i64.wrap (k1 : Int) = (k1 : Int) := IntWalk.i64_in _ (by omega)
          by_cases hqc : qk = ci
          · have E := Lib.hid (dmore.out hqc)
            have hz : (97 : Int) + (qk : Int) = 97 + (ci : Int) := by omega
            clear dsame dmore
            go_wp2_with fail
            go_region
            go_wp2_with fail
            refine wp_region_N (fun W => W.cell? ⟨w.heap.size, k1 + 1, none⟩ = some (.int .i64 v1) ∧ W.cell? ⟨w.heap.size, k1, none⟩ = some (.int .i64 v0)) [15] (by kernel_rfl) ?_
            have hS0 : wr.drew.drew.cell? ⟨w.heap.size, k1 + 1, none⟩ = some (.int .i64 v1) ∧ wr.drew.drew.cell? ⟨w.heap.size, k1, none⟩ = some (.int .i64 v0) := ⟨d1, d0⟩
            refine wpAnyN_take (i := 0) (v := ?_) rfl (by kernel_rfl) (fun _ _ _ h => h) (by rfl) (fun W hW => ?_) hS0 ?_
            rotate_left
            · obtain ⟨z0, z1⟩ := hW
              go_simp
              try with_reducible rfl
            try simp only [List.getElem_toArray, List.getElem_cons_zero, List.getElem_cons_succ, Act.put, List.setIfInBounds_toArray, List.set_cons_zero, List.set_cons_succ]
            refine wpAnyN_take (i := 1) (v := ?_) rfl (by kernel_rfl) (fun _ _ _ h => h) (by rfl) (fun W hW => ?_) hS0 ?_
            rotate_left
            · obtain ⟨z0, z1⟩ := hW
              go_simp
              try with_reducible rfl
            try simp only [List.getElem_toArray, List.getElem_cons_zero, List.getElem_cons_succ, Act.put, List.setIfInBounds_toArray, List.set_cons_zero, List.set_cons_succ]
            refine wpAnyN_take (i := 2) (v := ?_) rfl (by kernel_rfl) (fun _ _ _ h => h) (by rfl) (fun W hW => ?_) hS0 ?_
            rotate_left
            · obtain ⟨z0, z1⟩ := hW
              go_simp
              try with_reducible rfl
            try simp only [List.getElem_toArray, List.getElem_cons_zero, List.getElem_cons_succ, Act.put, List.setIfInBounds_toArray, List.set_cons_zero, List.set_cons_succ]
            refine wpAnyN_take (i := 3) (v := ?_) rfl (by kernel_rfl) (fun _ _ _ h => h) (by rfl) (fun W hW => ?_) hS0 ?_
            rotate_left
            · obtain ⟨z0, z1⟩ := hW
              go_simp
              try with_reducible rfl
            try simp only [List.getElem_toArray, List.getElem_cons_zero, List.getElem_cons_succ, Act.put, List.setIfInBounds_toArray, List.set_cons_zero, List.set_cons_succ]
            refine wpAnyN_take (i := 4) (v := ?_) rfl (by kernel_rfl) (fun _ _ _ h => h) (by rfl) (fun W hW => ?_) hS0 ?_
            rotate_left
            · obtain ⟨z0, z1⟩ := hW
              go_simp
              try with_reducible rfl
            try simp only [List.getElem_toArray, List.getElem_cons_zero, List.getElem_cons_succ, Act.put, List.setIfInBounds_toArray, List.set_cons_zero, List.set_cons_succ]
            refine wpAnyN_take (i := 5) (v := ?_) rfl (by kernel_rfl) (fun _ _ _ h => h) (by rfl) (fun W hW => ?_) hS0 ?_
            rotate_left
            · obtain ⟨z0, z1⟩ := hW
              go_simp
              try with_reducible rfl
            try simp only [List.getElem_toArray, List.getElem_cons_zero, List.getElem_cons_succ, Act.put, List.setIfInBounds_toArray, List.set_cons_zero, List.set_cons_succ]
            refine wpAnyN_take (i := 6) (v := ?_) rfl (by kernel_rfl) (fun _ _ _ h => h) (by rfl) (fun W hW => ?_) hS0 ?_
            rotate_left
            · obtain ⟨z0, z1⟩ := hW
              go_simp
              try with_reducible rfl
            try simp only [List.getElem_toArray, List.getElem_cons_zero, List.getElem_cons_succ, Act.put, List.setIfInBounds_toArray, List.set_cons_zero, List.set_cons_succ]
            refine wpAnyN_take (i := 7) (v := ?_) rfl (by kernel_rfl) (fun _ _ _ h => h) (by rfl) (fun W hW => ?_) hS0 ?_
            rotate_left
            · obtain ⟨z0, z1⟩ := hW
              go_simp
              try with_reducible rfl
            try simp only [List.getElem_toArray, List.getElem_cons_zero, List.getElem_cons_succ, Act.put, List.setIfInBounds_toArray, List.set_cons_zero, List.set_cons_succ]
            refine wpAnyN_take (i := 8) (v := ?_) rfl (by kernel_rfl) (fun _ _ _ h => h) (by rfl) (fun W hW => ?_) hS0 ?_
            rotate_left
            · obtain ⟨z0, z1⟩ := hW
              go_simp
              try with_reducible rfl
            try simp only [List.getElem_toArray, List.getElem_cons_zero, List.getElem_cons_succ, Act.put, List.setIfInBounds_toArray, List.set_cons_zero, List.set_cons_succ]
            refine wpAnyN_take (i := 9) (v := ?_) rfl (by kernel_rfl) (fun _ _ _ h => h) (by rfl) (fun W hW => ?_) hS0 ?_
            rotate_left
            · obtain ⟨z0, z1⟩ := hW
              go_simp
              try with_reducible rfl
            try simp only [List.getElem_toArray, List.getElem_cons_zero, List.getElem_cons_succ, Act.put, List.setIfInBounds_toArray, List.set_cons_zero, List.set_cons_succ]
            refine wpAnyN_take (i := 10) (v := ?_) rfl (by kernel_rfl) (fun _ _ _ h => h) (by rfl) (fun W hW => ?_) hS0 ?_
            rotate_left
            · obtain ⟨z0, z1⟩ := hW
              go_simp
              try with_reducible rfl
            try simp only [List.getElem_toArray, List.getElem_cons_zero, List.getElem_cons_succ, Act.put, List.setIfInBounds_toArray, List.set_cons_zero, List.set_cons_succ]
            refine wpAnyN_take (i := 11) (v := ?_) rfl (by kernel_rfl) (fun _ _ _ h => h) (by rfl) (fun W hW => ?_) hS0 ?_
            rotate_left
            · obtain ⟨z0, z1⟩ := hW
              go_simp
              try with_reducible rfl
            try simp only [List.getElem_toArray, List.getElem_cons_zero, List.getElem_cons_succ, Act.put, List.setIfInBounds_toArray, List.set_cons_zero, List.set_cons_succ]
            refine wpAnyN_take (i := 12) (v := ?_) rfl (by kernel_rfl) (fun _ _ _ h => h) (by rfl) (fun W hW => ?_) hS0 ?_
            rotate_left
            · obtain ⟨z0, z1⟩ := hW
              go_simp
              try with_reducible rfl
            try simp only [List.getElem_toArray, List.getElem_cons_zero, List.getElem_cons_succ, Act.put, List.setIfInBounds_toArray, List.set_cons_zero, List.set_cons_succ]
            refine wpAnyN_take (i := 13) (v := ?_) rfl (by kernel_rfl) (fun _ _ _ h => h) (by rfl) (fun W hW => ?_) hS0 ?_
            rotate_left
            · obtain ⟨z0, z1⟩ := hW
              go_simp
              try with_reducible rfl
            try simp only [List.getElem_toArray, List.getElem_cons_zero, List.getElem_cons_succ, Act.put, List.setIfInBounds_toArray, List.set_cons_zero, List.set_cons_succ]
            refine wpAnyN_take (i := 14) (v := ?_) rfl (by kernel_rfl) (fun _ _ _ h => h) (by rfl) (fun W hW => ?_) hS0 ?_
            rotate_left
            · obtain ⟨z0, z1⟩ := hW
              go_simp
              try with_reducible rfl
            try simp only [List.getElem_toArray, List.getElem_cons_zero, List.getElem_cons_succ, Act.put, List.setIfInBounds_toArray, List.set_cons_zero, List.set_cons_succ]
            refine wpAnyN_next (i := 15) rfl (by kernel_rfl) (fun K hK => ?_)
            go_simp
            refine hK.out _ _ (fun h => absurd h (by decide)) ?_
            clear hK K hS0
            refine wpAnyN_done (by kernel_rfl) ?_ _
            have Q1 := Lib.hid ((BD.out _ (Below.refl _ _).drew.drew).set_ (k1 + 1) (.int .i64 ((v1 + v0) % m)))
            rw [intA_set, ← E.out] at Q1
            go_wp2_with fail
            go_roundw
            case rel => exact ⟨k1, by go_num, by omega, Q1, Lib.hid ((bb2.out.trans ((Below.refl _ _).drew.drew.mono bb2.out.size)).setCell (Nat.le_refl _) _)⟩
            case measure => simp [intOf] <;> omega
          · have E := Lib.hid (dsame.out hqc)
            have hz : ¬ ((97 : Int) + (qk : Int) = 97 + (ci : Int)) := by omega
            clear dsame dmore d1 d0 fz lz
            go_wp2_with fail
            go_region
            all_goals
              go_wp2_with fail
              go_roundw
              case rel => exact ⟨k1, by go_num, by omega, Lib.hid (by rw [E.out]; exact BD.out _ (Below.refl _ _).drew), Lib.hid (bb2.out.trans ((Below.refl _ _).drew.mono bb2.out.size))⟩
              case measure => simp [intOf] <;> omega
        · obtain rfl : k = 0 := by omega
          go_wp2_with fail
          go_roundw
          case rel => exact ⟨i + 1, by go_num, by omega, Lib.hid (by rw [htk.out, ← dpL_end Q m (U.take i) ci 0]; exact B2.out), bb2⟩
          case measure => simp [intOf]; omega
    · obtain rfl : i = x.size := by omega
      have hB := B.out
      rw [show U.take x.size = U from List.take_of_length_le (by rw [HXl.out]; omega)] at hB
      have cl := hB.cell p.size
      rw [intA_at _ (by rw [dpL_len, HP.out]; omega), HP.out, hfin.out] at cl
      rw [← HP.out] at cl
      have kp : (p.size : Int) < ((p.size + 1 : Nat) : Int) := by omega
      have kp0 : (0 : Int) ≤ (p.size : Int) := by omega
      clear hB
      go_wp2_with fail
      go_ret
      exact ⟨rfl, bb.out⟩
set_option maxHeartbeats 4000000 in
set_option maxRecDepth 100000 in
theorem p6Scattered_any (D : Option Addr) (m d : Nat) (bs : List UInt8) (A : Option Addr) (n c : Nat) (rs : List Fac) (w : World) (hm : m ≤ 4096) (hd : Rd w w.heap.size D m 1 byteE bs) (hr : Rd w w.heap.size A n 3 Fac.cells rs) (hg : (gOk rs).isSome = true) (hlen : (wdN rs).length ≤ 1000) :
    Calls Try.prog 16 #[.slice D m d, .agg #[.slice A n c]] w (fun e w' => ∃ P : List Nat, e = .returned (.string (tx P)) ∧ P.length ≤ 5 ∧ (∀ x ∈ P, x < 4) ∧ Below w.heap.size w w') := by
  obtain ⟨ls, hls⟩ := Option.isSome_iff_exists.1 hg
  have hls' := (gOk_lens hls).1
  have hn : n ≤ 400 := by have := (gOk_lens hls).2.1; have := hr.len; omega
  have HR := Lib.hid hr; clear hr
  have HD := Lib.hid hd; clear hd
  have HZ := Lib.hid (wf_sz (wf_of hls'))
  have hlast := last_word hls'
  have LN := Lib.hid (fun W (h : Below w.heap.size w W) (hB : Blk W w.heap.size 26 #[.slice A n c]) => l02Length_any w.heap.size A n c rs W hB.lt (hB.cell 0) (by omega) (HR.out.next h) HZ.out ls hls')
  have LS := Lib.hid (fun W (h : Below w.heap.size w W) (hB : Blk W w.heap.size 26 #[.slice A n c]) => l02Lengths_any w.heap.size A n c rs W hB.lt (hB.cell 0) (by omega) (HR.out.next h) HZ.out)
  have LL := Lib.hid (fun W (h : Below w.heap.size w W) (hB : Blk W w.heap.size 26 #[.slice A n c]) (B : Option Addr) (dd i : Nat) (hl : Rd W W.heap.size B ls.length 1 intE ls) (hi : i < (wdN rs).length) =>
    show Calls Try.prog 57 #[.pointer (some ⟨w.heap.size, 0, none⟩), .slice B ls.length dd, .int .i64 (i : Int)] W (Ret (.int .u8 (((97 + (wdN rs).getD i 0 : Nat)) : Int)) W) from
      l02Letter_any w.heap.size A n c rs B ls.length dd ls i W hB.lt (hB.cell 0) hn (HR.out.next h) hl hls' hi (by omega))
  have HU := Lib.hid (wdN_let (wf_of hls'))
  have HGL := Lib.hid hls
  rw [hlast] at LN
  clear hls hls' hlast hg HZ
  generalize wdN rs = u at *
  obtain ⟨L, hL⟩ : ∃ L, u.length = L := ⟨_, rfl⟩
  rw [hL] at LN LL hlen
  have hLu := Lib.hid hL
  clear hL
  go_enter Try.func16, Try.ntmps16
  go_wp2_with fail
  refine namedC fun w1 H1 => ?_
  have c1 := Lib.hid (show Below w.heap.size w w1 by rw [H1.out]; (repeat first | exact Below.refl _ _ | assumption | refine Below.drew ?_ | refine Below.alloc ?_ (by first | exact Nat.le_refl _ | (simp; done) | omega | (simp; omega)) _ | refine Below.setCell ?_ (by first | exact Nat.le_refl _ | (simp; done) | omega | (simp; omega)) _))
  have B1 := Lib.hid (show Blk w1 w.heap.size 26 #[.slice A n c] by rw [H1.out]; exact Blk.new _ _ _)
  clear H1
  refine (l00From_any D m d bs w1 hm (HD.out.next c1.out)).mono ?_
  rintro e w2 ⟨g, rfl, hg, s2, hb2⟩
  have hg0 : w.heap.size < g := by have := B1.out.lt; omega
  have c2 := Lib.hid (c1.out.trans (hb2.mono c1.out.size))
  have B2 := Lib.hid (B1.out.next hb2)
  have S2 := Lib.hid s2
  clear c1 B1 hb2 hg s2
  go_wp2_with fail
  refine (LN.out w2 c2.out B2.out).mono ?_
  rintro e w3 ⟨rfl, hb⟩
  have c3 := Lib.hid (c2.out.trans (hb.mono c2.out.size))
  have B3 := Lib.hid (B2.out.next hb)
  have S3 := Lib.hid (S2.out.next hb)
  clear c2 B2 S2 hb
  go_wp2_with fail
  refine (l00Min_any (L : Int) 5 w3).mono ?_
  rintro e w4 ⟨rfl, hb⟩
  have c4 := Lib.hid (c3.out.trans (hb.mono c3.out.size))
  have B4 := Lib.hid (B3.out.next hb)
  have S4 := Lib.hid (S3.out.next hb)
  clear c3 B3 S3 hb
  go_wp2_with fail
  refine (pick_any g 0 (min (L : Int) 5) 5 w4 S4.out (by omega) (by omega) (by omega)).mono ?_
  rintro e w5 ⟨at0, rfl, a0, a1, s5, g5⟩
  have c5 := Lib.hid (c4.out.grown g5 c4.out.size (fun k e => by injection e; omega))
  have B5 := Lib.hid (B4.out.grown g5 (by intro e; injection e with e; omega))
  have S5 := Lib.hid s5
  clear c4 B4 S4 s5 g5
  go_wp2_with fail
  refine (LS.out w5 c5.out B5.out).mono ?_
  rintro e w6 ⟨hb6, ⟨ls', A6, c6', hgl, rfl, own6⟩ | ⟨hgl, _⟩⟩
  · obtain rfl : ls = ls' := by have := HGL.out.symm.trans hgl; injection this
    have c6 := Lib.hid (c5.out.trans (hb6.mono c5.out.size))
    have B6 := Lib.hid (B5.out.next hb6)
    have S6 := Lib.hid (S5.out.next hb6)
    have O6 := Lib.hid own6
    have hg5 := S5.out.lt
    clear c5 B5 S5 hb6 own6 hgl LS HGL
    go_wp2_with fail
    refine (pick_any g (0 + 2) 5 5 w6 S6.out (by omega) (by omega) (by omega)).mono ?_
    rintro e w7 ⟨k0, rfl, k00, k01, s7, g7⟩
    have c7 := Lib.hid (c6.out.grown g7 c6.out.size (fun k e => by injection e; omega))
    have B7 := Lib.hid (B6.out.grown g7 (by intro e; injection e with e; omega))
    have O7 := Lib.hid (own_kept O6.out g7 hg5)
    have S7 := Lib.hid s7
    clear c6 B6 S6 s7 g7 O6
    go_wp2_with fail
    go_loopw [6, 7, 10] (fun x_ t_ k_ w' => ∃ (P : List Nat) (t k : Nat), x_ = .string (tx P) ∧ t_ = .int .i64 t ∧ k_ = .int .i64 k ∧ P.length + k ≤ 4 ∧ t + 4 * k ≤ 40 + 4 * L ∧ Hid (∀ z ∈ P, z < 4) ∧ Hid (Src w' g (100 - 4 * k)) ∧ Hid (Below w.heap.size w w') ∧ Hid (Blk w' w.heap.size 26 #[.slice A n c]) ∧ Hid (w'.ownsRow w5.heap.size 2 1 (.slice A6 ls.length c6') ls.length (ls.flatMap intE))) (fun _ _ k_ _ => (intOf k_).toNat)
    case atStart => exact ⟨[], at0.toNat, k0.toNat, rfl, by congr 1; omega, by congr 1; omega, by simp; omega, by omega, Lib.hid (by simp), Lib.hid (S7.out.mono (by omega)), c7, B7, O7⟩
    case round =>
      obtain ⟨P, t, k, rfl, rfl, rfl, hPk, htk, HP4, S, cc, BB, OO⟩ := hrel
      clear S7 c7 B7 O7
      by_cases hk : 0 < k
      · have k1 : (0 : Int) < (k : Int) := by omega
        go_wp2_with fail
        refine (LN.out wr cc.out BB.out).mono ?_
        rintro e w8 ⟨rfl, hb⟩
        have c8 := Lib.hid (cc.out.trans (hb.mono cc.out.size))
        have B8 := Lib.hid (BB.out.next hb)
        have S8 := Lib.hid (S.out.next hb)
        have O8 := Lib.hid (own_next OO.out hb)
        clear cc BB S OO hb
        by_cases ht : t < L
        · have t1 : (t : Int) < (L : Int) := by omega
          have hut : t < u.length := by rw [hLu.out]; exact ht
          have hz4 : u.getD t 0 < 4 := by rw [List.getD_eq_getElem?_getD, List.getElem?_eq_getElem hut]; exact HU.out _ (List.getElem_mem hut)
          have LC := Lib.hid (LL.out w8 c8.out B8.out A6 c6' t (Rd.of_own (fun _ _ => rfl) rfl O8.out) ht)
          generalize u.getD t 0 = z at *
          have hcat := Lib.hid (show tx P ++ ⟨#[UInt8.ofNat (97 + z)]⟩ = tx (P ++ [z]) from (tx_app P [z]).symm)
          have hxs := tx_size P
          have hx4 : (tx P).size ≤ 4 := by omega
          obtain ⟨zz, hzz⟩ : ∃ zz, 97 + z = zz := ⟨_, rfl⟩
          obtain ⟨u8, hu8⟩ : ∃ u8, UInt8.ofNat zz = u8 := ⟨_, rfl⟩
          have hu8' : (u8.toNat : Int) = (zz : Int) := by rw [← hu8, UInt8.toNat_ofNat']; omega
          rw [hzz] at LC hcat
          rw [hu8] at hcat
          have Hu := Lib.hid hu8'
          have Hz := Lib.hid hzz
          clear hzz hu8 hu8'
          generalize tx P = y at *
          go_wp2_with fail
          refine LC.out.mono ?_
          rintro e w9 ⟨rfl, hb⟩
          have c9 := Lib.hid ((c8.out.trans (hb.mono c8.out.size)).alloc (by have := c8.out.size; have := hb.size; omega) (.cells #[.int .u8 (zz : Int)] 5))
          have B9 := Lib.hid ((B8.out.next hb).alloc (.cells #[.int .u8 (zz : Int)] 5))
          have S9 := Lib.hid ((S8.out.next hb).next ((Below.refl _ _).alloc (Nat.le_refl _) (.cells #[.int .u8 (zz : Int)] 5)))
          have O9 := Lib.hid ((own_next O8.out hb).alloc (.cells #[.int .u8 (zz : Int)] 5))
          have hcv := conv_letter (w9.alloc (.cells #[.int .u8 (zz : Int)] 5)) w9.heap.size 1 u8 (by rw [Hu.out]; simp)
          clear c8 B8 S8 O8 hb LC
          go_wp2_with fail
          refine (pick_any g _ 3 3 _ S9.out (by omega) (by omega) (by omega)).mono ?_
          rintro e w10 ⟨v, rfl, v0, v1, s10, g10⟩
          have c10 := Lib.hid (c9.out.grown g10 c9.out.size (fun k e => by injection e; omega))
          have B10 := Lib.hid (B9.out.grown g10 (by intro e; injection e with e; omega))
          have O10 := Lib.hid (own_kept O9.out g10 hg5)
          have um1 : IntKind.i64.wrap (1 + v) = 1 + v := IntWalk.i64_in _ (by omega)
          have um2 : IntKind.i64.wrap ((t : Int) + (1 + v)) = (t : Int) + (1 + v) := IntWalk.i64_in _ (by omega)
          have um3 : IntKind.i64.wrap ((k : Int) - 1) = (k : Int) - 1 := IntWalk.i64_in _ (by omega)
          clear c9 B9 S9 O9 g10
          go_wp2_with fail
          go_roundw
          case rel => exact ⟨P ++ [z], ((t : Int) + (1 + v)).toNat, k - 1, by rw [hcat.out], by congr 1; omega, by congr 1; omega, by rw [List.length_append, List.length_singleton]; omega, by omega, Lib.hid (fun q hq => by
            rcases List.mem_append.1 hq with hq | hq
            · exact HP4.out q hq
            · rw [List.mem_singleton.1 hq]; exact hz4), Lib.hid (s10.mono (by omega)), c10, B10, O10⟩
          case measure => simp [intOf]; omega
        · have t1 : ¬ (t : Int) < (L : Int) := by omega
          go_wp2_with fail
          refine (one_any g 200 4 w8 (S8.out.mono (by omega)) (by omega) (by omega)).mono ?_
          rintro e w20 ⟨b, rfl, s20, g20⟩
          have c20 := Lib.hid (c8.out.grown g20 c8.out.size (fun k e => by injection e; omega))
          have hxs := tx_size P
          cases b
          · generalize hyx : tx P = y at *
            go_wp2_with fail
            go_ret
            exact ⟨P, by rw [hyx]; rfl, by omega, HP4.out, c20.out⟩
          · have hg20 := s20.lt
            have S20 := Lib.hid (s20.next ((Below.refl _ _).alloc (Nat.le_refl _) (.cells #[.string ⟨#[97]⟩, .string ⟨#[98]⟩, .string ⟨#[99]⟩] 9)))
            have hcat := Lib.hid (fun (z : Nat) => (tx_app P [z]).symm)
            have hcs : (tx P).size ≤ 4 := by omega
            have hcs2 : P.length ≤ 4 := by omega
            generalize hyx : tx P = y at *
            clear s20 g20
            go_wp2_with fail
            refine (text_any g 202 w20.heap.size [⟨#[97]⟩, ⟨#[98]⟩, ⟨#[99]⟩] 3 _ S20.out (by omega) (Blk.new _ _ _) rfl (by omega) (by omega) hg20).mono ?_
            rintro e w21 ⟨sx, hsx, rfl, s21, g21⟩
            have hsz : sx.size = 1 ∧ ∃ z : Nat, z < 4 ∧ sx = tx [z] := by
              simp only [List.mem_cons, List.not_mem_nil, or_false] at hsx
              rcases hsx with rfl | rfl | rfl
              · exact ⟨rfl, 0, by omega, rfl⟩
              · exact ⟨rfl, 1, by omega, rfl⟩
              · exact ⟨rfl, 2, by omega, rfl⟩
            obtain ⟨hs1, z, hz4, hsz0⟩ := hsz
            have Hsz := Lib.hid hsz0
            clear hsz0 hsx
            have c21 := Lib.hid ((c20.out.alloc c20.out.size (.cells #[.string ⟨#[97]⟩, .string ⟨#[98]⟩, .string ⟨#[99]⟩] 9)).grown g21 (by have := c20.out.size; simp; omega) (fun k e => by injection e; omega))
            go_wp2_with fail
            go_ret
            exact ⟨P ++ [z], by rw [tx_app, hyx, ← Hsz.out]; rfl, by rw [List.length_append, List.length_singleton]; omega, fun q hq => by
              rcases List.mem_append.1 hq with hq | hq
              · exact HP4.out q hq
              · rw [List.mem_singleton.1 hq]; exact hz4, c21.out⟩
      · have k1 : ¬ (0 : Int) < (k : Int) := by omega
        go_wp2_with fail
        refine (one_any g 200 4 wr (S.out.mono (by omega)) (by omega) (by omega)).mono ?_
        rintro e w20 ⟨b, rfl, s20, g20⟩
        have c20 := Lib.hid (cc.out.grown g20 cc.out.size (fun k e => by injection e; omega))
        have hxs := tx_size P
        cases b
        · generalize hyx : tx P = y at *
          go_wp2_with fail
          go_ret
          exact ⟨P, by rw [hyx]; rfl, by omega, HP4.out, c20.out⟩
        · have hg20 := s20.lt
          have S20 := Lib.hid (s20.next ((Below.refl _ _).alloc (Nat.le_refl _) (.cells #[.string ⟨#[97]⟩, .string ⟨#[98]⟩, .string ⟨#[99]⟩] 9)))
          have hcat := Lib.hid (fun (z : Nat) => (tx_app P [z]).symm)
          have hcs : (tx P).size ≤ 4 := by omega
          have hcs2 : P.length ≤ 4 := by omega
          generalize hyx : tx P = y at *
          clear s20 g20
          go_wp2_with fail
          refine (text_any g 202 w20.heap.size [⟨#[97]⟩, ⟨#[98]⟩, ⟨#[99]⟩] 3 _ S20.out (by omega) (Blk.new _ _ _) rfl (by omega) (by omega) hg20).mono ?_
          rintro e w21 ⟨sx, hsx, rfl, s21, g21⟩
          have hsz : sx.size = 1 ∧ ∃ z : Nat, z < 4 ∧ sx = tx [z] := by
            simp only [List.mem_cons, List.not_mem_nil, or_false] at hsx
            rcases hsx with rfl | rfl | rfl
            · exact ⟨rfl, 0, by omega, rfl⟩
            · exact ⟨rfl, 1, by omega, rfl⟩
            · exact ⟨rfl, 2, by omega, rfl⟩
          obtain ⟨hs1, z, hz4, hsz0⟩ := hsz
          have Hsz := Lib.hid hsz0
          clear hsz0 hsx
          have c21 := Lib.hid ((c20.out.alloc c20.out.size (.cells #[.string ⟨#[97]⟩, .string ⟨#[98]⟩, .string ⟨#[99]⟩] 9)).grown g21 (by have := c20.out.size; simp; omega) (fun k e => by injection e; omega))
          go_wp2_with fail
          go_ret
          exact ⟨P ++ [z], by rw [tx_app, hyx, ← Hsz.out]; rfl, by rw [List.length_append, List.length_singleton]; omega, fun q hq => by
            rcases List.mem_append.1 hq with hq | hq
            · exact HP4.out q hq
            · rw [List.mem_singleton.1 hq]; exact hz4, c21.out⟩
  · rw [HGL.out] at hgl; cases hgl
end Go.Proofs.Ytgdbpkpaacbhhaa


/-
  Scattered words, counted: the tables of the program.
-/
namespace Go.Proofs.Ytgdbpkpaacbhhaa
open Go.RowKit

theorem ret_rep {β : Type} {Rep : World → Value → β → Prop} {y : β} {w0 w : World} {v : Value} (h : Rep w v y) (hb : Below w0.heap.size w0 w) : RetRep Rep y w0 (.returned v) w := ⟨v, rfl, h, hb⟩
theorem made_nil (w : World) (base m : Nat) (hb : base ≤ w.heap.size) : TabJ (w.alloc (.cells #[] 46)) base (some ⟨w.heap.size, 0, none⟩) 0 0 m [] [] :=
  ⟨by simpa using World.ownsRow_made (base := base) (e := 46) (size := 1) w #[] 0 hb (by unfold maxLen; omega) rfl, rfl, fun i g hg => by simp at hg, fun i hi => absurd hi (by omega), fun i j g hi => by simp at hi⟩
theorem TabJ.row {wr w9 : World} {base k c c9 N : Nat} {A A9 : Option Addr} {gs : List Nat} {Y : Tb} (hT : TabJ wr base A k c N gs (tabL N Y)) (hk : k < N) (hb : base ≤ wr.heap.size) (hN : N ≤ maxLen) {cs : Array Value} (hs : cs.size = N) (hc : ∀ j, j < N → cs[j]? = some (.int .i64 (Y k j))) (o : Obj)
    (own : w9.ownsRow base 46 1 (.slice A9 (k + 1) c9) (k + 1) ((gs ++ [wr.heap.size]).flatMap (encH N))) (hg : ((wr.alloc (.cells cs 2)).alloc o).grownBy w9 (Value.slice A k c).ownBlock) : TabJ w9 base A9 (k + 1) c9 N (gs ++ [wr.heap.size]) (tabL N Y) := by
  refine TabJ.push hT (hT.next ((Below.refl _ _).alloc (Nat.le_refl _) _)) (Nat.le_refl _) ?_ (by rw [tabL_at _ hk, rowL_len]) o own hg
  rw [tabL_at _ hk]
  exact own_of_row (Blk.new wr 2 cs) hs hc hb hN
theorem cs_one {N k : Nat} (hk : k < N) (v : Int) : ((madeCells (Value.int .i64 0).cells (N * 1)).setIfInBounds k (.int .i64 v)).size = N ∧ ∀ j, j < N → ((madeCells (Value.int .i64 0).cells (N * 1)).setIfInBounds k (.int .i64 v))[j]? = some (.int .i64 (if j = k then v else 0)) := by
  refine ⟨by simp [size_madeCells, Value.cells], fun j hj => ?_⟩
  by_cases h : j = k
  · subst h
    rw [Array.getElem?_setIfInBounds_self_of_lt (by simpa [size_madeCells, Value.cells] using hk), if_pos rfl]
  · rw [Array.getElem?_setIfInBounds_ne (by omega), made_at hj, if_neg h]
theorem cs_two {N k : Nat} (hk : k + 1 < N) (v : Int) : (((madeCells (Value.int .i64 0).cells (N * 1)).setIfInBounds k (.int .i64 v)).setIfInBounds (k + 1) (.int .i64 v)).size = N ∧ ∀ j, j < N → (((madeCells (Value.int .i64 0).cells (N * 1)).setIfInBounds k (.int .i64 v)).setIfInBounds (k + 1) (.int .i64 v))[j]? = some (.int .i64 (if j = k ∨ j = k + 1 then v else 0)) := by
  obtain ⟨h1, h2⟩ := cs_one (N := N) (k := k) (by omega) v
  refine ⟨by simpa using h1, fun j hj => ?_⟩
  by_cases h : j = k + 1
  · subst h
    rw [Array.getElem?_setIfInBounds_self_of_lt (by omega), if_pos (.inr rfl)]
  · rw [Array.getElem?_setIfInBounds_ne (by omega), h2 j hj]
    by_cases h3 : j = k
    · rw [if_pos h3, if_pos (.inl h3)]
    · rw [if_neg h3, if_neg (by omega)]
theorem madeN (N : Nat) : madeCells #[Value.int .i64 0] N = madeCells (Value.int .i64 0).cells (N * 1) := by rw [Nat.mul_one]; rfl
theorem made_nil' (w : World) (base m : Nat) (xss : List (List Int)) (hb : base ≤ w.heap.size) : TabJ (w.alloc (.cells #[] 46)) base (some ⟨w.heap.size, 0, none⟩) 0 0 m [] xss :=
  ⟨by simpa using World.ownsRow_made (base := base) (e := 46) (size := 1) w #[] 0 hb (by unfold maxLen; omega) rfl, rfl, fun i g hg => by simp at hg, fun i hi => absurd hi (by omega), fun i j g hi => by simp at hi⟩
theorem elemSl : Elem Try.prog 41 46 1 24 := Elem.mk' (z := .slice none 0 0) Try.underlying41 (by kernel_rfl) rfl
theorem one_encH (m g : Nat) : ∀ u ∈ encH m g, u.oneCell' = true := by simp [encH, Value.oneCell']
set_option maxHeartbeats 2000000 in
set_option maxRecDepth 100000 in
theorem scat1_any (l m : Int) (nb mb pb : Nat) (p : ByteArray) (w : World) (hnb : nb < w.heap.size) (hmb : mb < w.heap.size) (hpb : pb < w.heap.size) (dn : w.cell? ⟨nb, 0, none⟩ = some (.int .i64 ((p.size + 1 : Nat) : Int))) (dm : w.cell? ⟨mb, 0, none⟩ = some (.int .i64 m)) (dp : w.cell? ⟨pb, 0, none⟩ = some (.string p))
    (hp : okW p = true) (hp8 : p.size ≤ 8) (hm : 1 ≤ m) (hm2 : m ≤ 1000000000) (hl : -1 ≤ l) (hl4 : l < 4) :
    Calls Try.prog 86 #[.int .i64 l, .pointer (some ⟨nb, 0, none⟩), .pointer (some ⟨mb, 0, none⟩), .pointer (some ⟨pb, 0, none⟩)] w (RetRep (TabN (p.size + 1) w.heap.size) (scU p m l) w) := by
  obtain ⟨i0, hi, hz0, hz1, hz2⟩ := info_parts info_i64
  have hmk := run_make_rowN (P := Try.prog) 46 2 i0 _ Try.underlying46 hi hz0 .i64 .i64 (p.size + 1) (p.size + 1) (Nat.le_refl _) (by rw [hz2]; omega) (by omega)
  rw [hz1] at hmk
  have HP := Lib.hid (okW_b hp).2; clear hp
  have hm0 : ¬ m = 0 := by omega
  have re := emod_inT (a := 1) hm
  obtain ⟨re0, re1⟩ := re
  have u1 : IntKind.i64.wrap (1 % m) = 1 % m := IntWalk.i64_in _ (by omega)
  have v1 : (1 : Int).tmod m = 1 % m := Int.tmod_eq_emod_of_nonneg (by omega)
  generalize hN : p.size + 1 = N at *
  have HN := Lib.hid hN; clear hN
  go_enter Try.func86, Try.ntmps86
  go_wp2_with fail
  go_loopw [6, 11] (fun o_ i_ w' => ∃ (k : Nat) (A' : Option Addr) (c' : Nat) (gs : List Nat), i_ = .int .i64 k ∧ o_ = .slice A' k c' ∧ k ≤ N ∧ Below w.heap.size w w' ∧
      Hid (TabJ w' w.heap.size A' k c' N gs (tabL N (scU p m l)))) (fun _ i_ _ => N - (intOf i_).toNat)
  case atStart => exact ⟨0, _, 0, [], rfl, rfl, by omega, by (repeat first | exact Below.refl _ _ | assumption | refine Below.drew ?_ | refine Below.alloc ?_ (by first | exact Nat.le_refl _ | (simp; done) | omega | (simp; omega)) _ | refine Below.setCell ?_ (by first | exact Nat.le_refl _ | (simp; done) | omega | (simp; omega)) _), Lib.hid (made_nil' w w.heap.size N _ (Nat.le_refl _))⟩
  case round =>
    obtain ⟨k, A', c', gs, rfl, rfl, hk, hb, hT⟩ := hrel
    have sw := hb.size
    have en := (hb.cell (p := ⟨nb, 0, none⟩) hnb).trans dn
    have em := (hb.cell (p := ⟨mb, 0, none⟩) hmb).trans dm
    have ep := (hb.cell (p := ⟨pb, 0, none⟩) hpb).trans dp
    have ln : nb < wr.heap.size := by omega
    have lm : mb < wr.heap.size := by omega
    have lp : pb < wr.heap.size := by omega
    by_cases hlt : k < N
    · have mk0 := made_at (n := N) (j := k) hlt
      rw [← madeN] at mk0
      have hN9 : N ≤ 9 := by have := HN.out; omega
      have HTr := Lib.hid (fun (cs : Array Value) (A9 : Option Addr) (c9 : Nat) (w9 : World) => TabJ.row (w9 := w9) (A9 := A9) (c9 := c9) (cs := cs) hT.out hlt sw (by unfold maxLen; omega))
      by_cases hk1 : k + 1 < N
      · have hkp : k < p.size := by have := HN.out; omega
        obtain ⟨k0, k1⟩ := letB_num (HP.out k hkp)
        have v2 : IntKind.u8.wrap (((p[k]'hkp).toNat : Int) - 97) = (((p[k]'hkp).toNat - 97 : Nat) : Int) := by show (((p[k]'hkp).toNat : Int) - 97) % 256 = _; omega
        have eU := Lib.hid (show ∀ b, scU p m l k b = if b = k then 1 % m else if b = k + 1 ∧ 0 ≤ l ∧ (((p[k]'hkp).toNat : Int) - 97 = l) then 1 % m else 0 from fun b => by
          unfold scU
          rw [show ((p.data.toList.getD k 0).toNat : Int) = ((p[k]'hkp).toNat : Int) by rw [List.getD_eq_getElem?_getD, at_byte p k hkp]; rfl]
          simp only [hkp, true_and])
        have hq := Lib.hid (show (((p[k]'hkp).toNat - 97 : Nat) : Int) = ((p[k]'hkp).toNat : Int) - 97 by omega)
        generalize hq2 : (p[k]'hkp).toNat - 97 = q at *
        have hq3 : (q : Int) ≤ 3 := by omega
        have hk1' : (k : Int) + 1 < (N : Int) := by omega
        have HQ := Lib.hid hq2; clear hq2 k0 k1
        have mk1 := made_at (n := N) (j := k + 1) hk1
        rw [← madeN] at mk1
        by_cases hh : 0 ≤ l ∧ (q : Int) = l
        · obtain ⟨hh1, hh2⟩ := hh
          have e1 : ((q : Int) == l) = true := by simpa using hh2
          have cs2 := Lib.hid (cs_two hk1 (1 % m))
          have eR := Lib.hid (show ∀ b, scU p m l k b = if b = k ∨ b = k + 1 then 1 % m else 0 from fun b => by
            rw [eU.out]
            by_cases h1 : b = k
            · rw [if_pos h1, if_pos (.inl h1)]
            · by_cases h2 : b = k + 1
              · rw [if_neg h1, if_pos ⟨h2, hh1, by rw [← hq.out]; exact hh2⟩, if_pos (.inr h2)]
              · rw [if_neg h1, if_neg (fun h => h2 h.1), if_neg (by omega)])
          clear hh2 eU
          go_wp2_with
            (at_builtin
             refine wpList_push (w0 := w) rfl _ _ _ rfl w.heap.size 46 1 24 elemSl (encH N) _ k c' gs rfl ((hT.out.o.alloc _).alloc _) (wr.heap.size + 1) wr.heap.size #[.slice (some ⟨wr.heap.size, 0, none⟩) N N] 46 (0, 0) rfl (by simpa using heap_alloc_new (wr.alloc _) _) rfl rfl (one_encH _ _) (by omega) (by omega) (by unfold maxLen; omega) rfl ((hb.alloc sw _).alloc (by simp; omega) _) ?_
             intro A9 c9 w9 own9 hg9 hat9 hb9
             have T9 := Lib.hid (HTr.out _ _ _ _ (by rw [madeN]; exact cs2.out.1) (by rw [madeN]; exact fun j hj => by rw [eR.out]; exact cs2.out.2 j hj) _ own9 hg9)
             clear own9 hat9 hg9)
          go_roundw
          case rel => exact ⟨k + 1, A9, c9, gs ++ [wr.heap.size], by go_num, rfl, by omega, hb9, T9⟩
          case measure => simp [intOf]; omega
        · have cs1 := Lib.hid (cs_one hlt (1 % m))
          have eR := Lib.hid (show ∀ b, scU p m l k b = if b = k then 1 % m else 0 from fun b => by
            rw [eU.out]
            by_cases h1 : b = k
            · rw [if_pos h1, if_pos h1]
            · rw [if_neg h1, if_neg (fun h => hh ⟨h.2.1, by rw [hq.out]; exact h.2.2⟩), if_neg h1])
          clear eU
          rcases (show ¬ 0 ≤ l ∨ (0 ≤ l ∧ ((q : Int) == l) = false) from by
            rcases (show ¬ 0 ≤ l ∨ 0 ≤ l by omega) with h | h
            · exact .inl h
            · exact .inr ⟨h, by simpa using fun e => hh ⟨h, e⟩⟩) with hl1 | ⟨hl1, e1⟩
          all_goals
            clear hh
            go_wp2_with
              (at_builtin
               refine wpList_push (w0 := w) rfl _ _ _ rfl w.heap.size 46 1 24 elemSl (encH N) _ k c' gs rfl ((hT.out.o.alloc _).alloc _) (wr.heap.size + 1) wr.heap.size #[.slice (some ⟨wr.heap.size, 0, none⟩) N N] 46 (0, 0) rfl (by simpa using heap_alloc_new (wr.alloc _) _) rfl rfl (one_encH _ _) (by omega) (by omega) (by unfold maxLen; omega) rfl ((hb.alloc sw _).alloc (by simp; omega) _) ?_
               intro A9 c9 w9 own9 hg9 hat9 hb9
               have T9 := Lib.hid (HTr.out _ _ _ _ (by rw [madeN]; exact cs1.out.1) (by rw [madeN]; exact fun j hj => by rw [eR.out]; exact cs1.out.2 j hj) _ own9 hg9)
               clear own9 hat9 hg9)
            go_roundw
            case rel => exact ⟨k + 1, A9, c9, gs ++ [wr.heap.size], by go_num, rfl, by omega, hb9, T9⟩
            case measure => simp [intOf]; omega
      · have cs1 := Lib.hid (cs_one hlt (1 % m))
        have eR := Lib.hid (show ∀ b, b < N → scU p m l k b = if b = k then 1 % m else 0 from fun b hb => by
          unfold scU
          by_cases h1 : b = k
          · rw [if_pos h1, if_pos h1]
          · rw [if_neg h1, if_neg (by omega), if_neg h1])
        have hk1' : ¬ ((k : Int) + 1 < (N : Int)) := by omega
        go_wp2_with
          (at_builtin
           refine wpList_push (w0 := w) rfl _ _ _ rfl w.heap.size 46 1 24 elemSl (encH N) _ k c' gs rfl ((hT.out.o.alloc _).alloc _) (wr.heap.size + 1) wr.heap.size #[.slice (some ⟨wr.heap.size, 0, none⟩) N N] 46 (0, 0) rfl (by simpa using heap_alloc_new (wr.alloc _) _) rfl rfl (one_encH _ _) (by omega) (by omega) (by unfold maxLen; omega) rfl ((hb.alloc sw _).alloc (by simp; omega) _) ?_
           intro A9 c9 w9 own9 hg9 hat9 hb9
           have T9 := Lib.hid (HTr.out _ _ _ _ (by rw [madeN]; exact cs1.out.1) (by rw [madeN]; exact fun j hj => by rw [eR.out j hj]; exact cs1.out.2 j hj) _ own9 hg9)
           clear own9 hat9 hg9)
        go_roundw
        case rel => exact ⟨k + 1, A9, c9, gs ++ [wr.heap.size], by go_num, rfl, by omega, hb9, T9⟩
        case measure => simp [intOf]; omega
    · obtain rfl : k = N := by omega
      go_wp2_with fail
      go_ret
      exact ret_rep ⟨A', c', gs, rfl, hT.out⟩ hb
end Go.Proofs.Ytgdbpkpaacbhhaa
