/-
  Texts of this claim, merged: MapS Join P6Word P6G Huge P6H BldC BldW CwI CwS DrA TabZ DrB DrC.
-/
import Derived.Test.YtmdmgndhapdmgaaGreatP6
import Derived.Lib.Builder
import Derived.Lib.AppendStr
import Derived.Lib.UnsafeStr
import Derived.Laws.Externs
import Derived.Test.YtmdmgndhapdmgaaGreatShelf


/-
  The letters of a grammar replaced, in the reference.
-/
namespace Go.Proofs.YtmdmgndhapdmgaaGreat
open Go.RowKit

section
variable {α : Type} {P : Program} {w : World} {ops : Array Oper} {o : Oper} {a : Act} {K : Act → World → Prop} {Q : Exit → Act → World → Prop} {E : Prop}
/-- one element more, as a step of a region that draws its order; where the row lies then -/
theorem step_pushH (hgd : o.guard = none) (s x : Operand) (t : TypeId) (ho : o.op = .call { callee := .builtin .append, args := #[s, x], argTypes := #[t, t] })
    (base : Nat) (e : TypeId) (sz bytes : Nat) (EI : Elem P t e sz bytes) (enc : α → List Value) (A : Option Addr) (n c : Nat) (xs : List α) (hs : a.eval s = .slice A n c)
    (hown : w.ownsRow base e sz (.slice A n c) n (xs.flatMap enc)) (g : Nat) (y : α) (cs : Array Value) (t' : TypeId) (fr : Nat × Nat) (hx : a.eval x = .slice (some ⟨g, 0, none⟩) 1 1) (hg : w.heap[g]? = some (.cells cs t' fr)) (hcs : cs.toList = enc y)
    (hlen : (enc y).length = sz) (hone : ∀ u ∈ enc y, u.oneCell' = true) (hsz : 0 < sz) (hbytes : (n + 1) * bytes ≤ 140737488355328) (hm : n + 1 ≤ maxLen) (hsize : base ≤ w.heap.size)
    (h : ∀ A' c' w', w'.ownsRow base e sz (.slice A' (n + 1) c') (n + 1) ((xs ++ [y]).flatMap enc) → w.grownBy w' (Value.slice A n c).ownBlock →
      ((Value.slice A' (n + 1) c').ownBlock = (Value.slice A n c).ownBlock ∨ (Value.slice A' (n + 1) c').ownBlock = some w.heap.size) →
      K (a.put o.dst (.slice A' (n + 1) c')) w') : if Region.wanted o (yielded ops a.tmps) = true then Oper.wp P o a w K Q else E := by
  obtain ⟨ht, i, z, hi, hz, h1, h2, hzs⟩ := EI
  have hnews : ∀ j u, (enc y)[j]? = some u → w.cell? ((⟨g, 0, none⟩ : Addr).add j) = some u := by rw [← hcs]; exact World.news_of_block hg
  obtain ⟨v', w', hr, r2, r3, _, r5⟩ := run_append_own_at (P := P) w base t o.type e i z sz bytes ht hi hz h1 h2 hzs hsz _ n _ hown ⟨g, 0, none⟩ 1 1 (enc y) (by rw [hlen]; omega) hnews hone hm hbytes hsize
  obtain ⟨g', cap, rfl, _, _⟩ := r2.form (by omega)
  have hw : Region.wanted o (yielded ops a.tmps) = true := by simp [Region.wanted, hgd]
  rw [if_pos hw]
  unfold Oper.wp execOp
  simp only [ho, resolve, invoke, builtin, Sem.run_bind, Sem.run_pure, Result.andThen_ok, List.map_toArray, List.map_cons, List.map_nil, hs, hx, hr]
  exact h _ _ w' (by rw [List.flatMap_append]; simpa using r2) r3 r5
end
/-- 'MapLetters' of the reference under way -/
structure MsW (w W : World) (G S : Nat) (ga gv : Value) (A : Option Addr) (n c : Nat) (out : List Fac) (st : List Int) : Prop where
  q : W.ownsRow w.heap.size 72 3 (.slice A n c) n (out.flatMap Fac.cells)
  i : Blk W w.heap.size 31 #[ga]
  o : Blk W (w.heap.size + 1) 31 #[.slice none 0 0]
  g : Blk W G 31 #[gv]
  s : Blk W S 2 (intA st)
  e : Below w.heap.size w W
  n0 : w.heap.size + 1 < G
  n1 : w.heap.size ≤ S
section
variable {w W W' : World} {G S : Nat} {ga gv : Value} {A : Option Addr} {n c : Nat} {out : List Fac} {st : List Int}
theorem MsW.next (h : MsW w W G S ga gv A n c out st) (hb : Below W.heap.size W W') : MsW w W' G S ga gv A n c out st :=
  ⟨own_next h.q hb, h.i.next hb, h.o.next hb, h.g.next hb, h.s.next hb, h.e.trans (hb.mono h.e.size), h.n0, h.n1⟩
theorem MsW.alloc (h : MsW w W G S ga gv A n c out st) (o : Obj) : MsW w (W.alloc o) G S ga gv A n c out st := h.next ((Below.refl _ _).alloc (Nat.le_refl _) _)
theorem MsW.drew (h : MsW w W G S ga gv A n c out st) : MsW w W.drew G S ga gv A n c out st := h.next (Below.refl _ _).drew
theorem MsW.app {A8 : Option Addr} {k8 c8 : Nat} {out' : List Fac} (h : MsW w W G S ga gv A n c out st) (hq : W'.ownsRow w.heap.size 72 3 (.slice A8 k8 c8) k8 (out'.flatMap Fac.cells)) (hg : W.grownBy W' (Value.slice A n c).ownBlock) :
    MsW w W' G S ga gv A8 k8 c8 out' st :=
  ⟨hq, h.i.grown hg (own_blk_ne h.q h.i (by decide)), h.o.grown hg (own_blk_ne h.q h.o (by decide)), h.g.grown hg (own_blk_ne h.q h.g (by decide)), h.s.grown hg (own_blk_ne h.q h.s (by decide)), h.e.grown hg h.e.size (own_ge h.q), h.n0, h.n1⟩
theorem MsW.put (h : MsW w W G S ga gv A n c out st) (u : Value) : MsW w (W.setCell ⟨G, 0, none⟩ u) G S ga u A n c out st := by
  have hg2 := gb_set W G 0 u
  have h0 := h.n0
  have hs : some S ≠ some G := fun e => by
    injection e with e
    have h1 := h.s; have h2 := h.g
    rw [e] at h1
    unfold Blk at h1 h2
    rw [h1] at h2
    injection h2 with h2; injection h2 with _ h2; exact absurd h2 (by decide)
  exact ⟨own_kept' h.q h.g (by decide) _, h.i.grown hg2 (by intro e; injection e with e; omega), h.o.grown hg2 (by intro e; injection e with e; omega), h.g.set_ 0 _, h.s.grown hg2 hs, h.e.setCell (by show w.heap.size ≤ G; omega) _, h.n0, h.n1⟩
/-- behind what writes a row of numbers made later -/
theorem MsW.far {v : Value} {k b : Nat} {xs : List Value} (h : MsW w W G S ga gv A n c out st) (ho : W.ownsRow b 2 1 v k xs) (hb : S < b) (hg : W.grownBy W' v.ownBlock) : MsW w W' G S ga gv A n c out st :=
  ⟨h.q.kept hg (own_ne h.q ho (by decide)), h.i.grown hg (own_blk_ne ho h.i (by decide)), h.o.grown hg (own_blk_ne ho h.o (by decide)), h.g.grown hg (own_blk_ne ho h.g (by decide)), h.s.grown hg (fun e => by have := own_ge ho S e.symm; omega), h.e.grown hg h.e.size (fun q hq => by have := own_ge ho q hq; have := h.n1; omega), h.n0, h.n1⟩
theorem MsW.tell (h : MsW w W G S ga gv A n c out st) (i : Nat) (z : Int) : MsW w (W.setCell ⟨S, i, none⟩ (.int .i64 z)) G S ga gv A n c out (st.set i z) := by
  have hg2 := gb_set W S i (.int .i64 z)
  have nt : ∀ {g : Nat} {cs : Array Value}, Blk W g 31 cs → some g ≠ some S := fun hB e => by
    injection e with e; subst e
    have := hB.symm.trans h.s
    injection this with this; injection this with _ this; exact absurd this (by decide)
  have := h.s.set_ i (.int .i64 z)
  rw [intA_set] at this
  exact ⟨own_kept' h.q h.s (by decide) _, h.i.grown hg2 (nt h.i), h.o.grown hg2 (nt h.o), h.g.grown hg2 (nt h.g), this, h.e.setCell h.n1 _, h.n0, h.n1⟩
end
theorem raise_take {rs : List Fac} {k : Nat} {x : Fac} (h : rs[k]? = some x) (b : Int) : raiseL b (rs.take (k + 1)) = raiseL b (rs.take k) ++ [rsF b x] := by
  rw [take_succ_at h]; simp [raiseL]
end Go.Proofs.YtmdmgndhapdmgaaGreat


/-
  The join of two grammars in the reference.
-/
namespace Go.Proofs.YtmdmgndhapdmgaaGreat
open Go.RowKit

set_option maxHeartbeats 4000000 in
set_option maxRecDepth 100000 in
theorem l02Join_any (gb hb : Nat) (A : Option Addr) (n c : Nat) (gs : List Fac) (Ah : Option Addr) (m ch : Nat) (hs : List Fac) (w : World) (hgb : gb < w.heap.size) (hgc : w.cell? ⟨gb, 0, none⟩ = some (.slice A n c)) (hhb : hb < w.heap.size) (hhc : w.cell? ⟨hb, 0, none⟩ = some (.slice Ah m ch))
    (hn0 : 0 < n) (hn : n ≤ 400) (hm0 : 0 < m) (hm : m ≤ 400) (hr : Rd w w.heap.size A n 3 Fac.cells gs) (hr2 : Rd w w.heap.size Ah m 3 Fac.cells hs) (hwf : WF hs) :
    Calls Tryz.prog 100 #[.pointer (some ⟨gb, 0, none⟩), .pointer (some ⟨hb, 0, none⟩)] w (RetG w (joinL gs hs)) := by
  have HL := Lib.hid hr.len
  have HM := Lib.hid hr2.len
  have HR := Lib.hid hr; clear hr
  have H2 := Lib.hid hr2; clear hr2
  have HW := Lib.hid hwf; clear hwf
  have HJ := Lib.hid (show joinL gs hs = (gs ++ raiseL gs.length hs) ++ [⟨⟨#[]⟩, (gs.length : Int) - 1, (gs.length : Int) + hs.length - 1⟩] by unfold joinL; rw [if_neg (by rw [HL.out]; omega), if_neg (by rw [HM.out]; omega)])
  have HC := Lib.hid (fun (W : World) (h : Below w.heap.size w W) => show W.cell? ⟨gb, 0, none⟩ = some (.slice A n c) ∧ W.cell? ⟨hb, 0, none⟩ = some (.slice Ah m ch) ∧ gb < W.heap.size ∧ hb < W.heap.size from ⟨(h.cell (p := ⟨gb, 0, none⟩) hgb).trans hgc, (h.cell (p := ⟨hb, 0, none⟩) hhb).trans hhc, by have := h.size; omega, by have := h.size; omega⟩)
  have n1 : ((n : Int) == 0) = false := by simp; omega
  have m1 : ((m : Int) == 0) = false := by simp; omega
  rw [HL.out, HM.out] at HJ
  go_enter Tryz.func100, Tryz.ntmps100
  have b1 : Below w.heap.size w (w.alloc (.cells #[.slice none 0 0] 31)) := by (repeat first | exact Below.refl _ _ | assumption | refine Below.drew ?_ | refine Below.alloc ?_ (by first | exact Nat.le_refl _ | (simp; done) | omega | (simp; omega)) _ | refine Below.setCell ?_ (by first | exact Nat.le_refl _ | (simp; done) | omega | (simp; omega)) _)
  have B1 := Lib.hid (Blk.new w 31 #[.slice none 0 0])
  obtain ⟨q0, q1, q2, q3⟩ := HC.out _ b1
  clear hgc hhc
  go_wp2_with fail
  refine (l02Own_any gb A n c gs _ q2 q0 (by omega) hn0 (HR.out.next b1)).mono ?_
  rintro e w4 ⟨A4, c4, rfl, own4, hb4⟩
  rw [HL.out] at own4 ⊢
  have b4 := Lib.hid (b1.trans (hb4.mono b1.size))
  have O4 := Lib.hid (own4.mono b1.size)
  have B4 := Lib.hid (B1.out.next hb4)
  clear own4 hb4 q0 q1 q2 q3 b1
  have P5 := Lib.hid (show PwW w (w4.alloc (.cells #[.slice A4 n c4] 31)) w.heap.size w4.heap.size A4 n c4 gs from
    ⟨O4.out.alloc _, B4.out.alloc _, Blk.new _ _ _, b4.out.alloc b4.out.size _, Nat.le_refl _, B4.out.lt⟩)
  obtain ⟨q0, q1, q2, q3⟩ := HC.out _ P5.out.e
  have b4 := b4.out
  obtain ⟨p0, p1, p2, p3⟩ := HC.out _ b4
  go_wp2_with fail
  clear q0 q1 q2 q3 p0 p1 p2 p3 B1 B4 O4 b4
  generalize w4.heap.size = G at *
  go_loopw [7] (fun j_ w' => ∃ (j : Nat) (A1 : Option Addr) (n1 c1 : Nat) (cur : List Fac), j_ = .int .i64 j ∧ j ≤ m ∧ Hid (n1 = n + j) ∧ Hid (gs ++ raiseL n (hs.take j) = cur) ∧ Hid (cur.length = n1) ∧ Hid (PwW w w' w.heap.size G A1 n1 c1 cur)) (fun j_ _ => m - (intOf j_).toNat)
  case atStart => exact ⟨0, A4, n, c4, gs, rfl, by omega, Lib.hid rfl, Lib.hid (by simp [raiseL]), HL, P5⟩
  case round =>
    obtain ⟨j, A1, n1, c1, cur, rfl, hj, hn1, hcur, hcl, P⟩ := hrel
    clear P5
    have n1b : n1 ≤ 800 := by have := hn1.out; omega
    obtain ⟨q0, q1, q2, q3⟩ := HC.out _ P.out.e
    by_cases hlt : j < m
    · obtain ⟨bh, oh, y, hAh, hBr, hy, c0, c1', c2'⟩ := H2.out.fac hlt
      subst hAh
      have hyw := HW.out j y hy
      have Hrt := Lib.hid (raise_take hy (n : Int))
      have LC := Lib.hid (fun W => l02Raised_any y (n : Int) W (fun h0 => by
        rcases hyw with ⟨_, a0, a1, b0, b1⟩ | ⟨cc, _, hxl, _⟩
        · exact ⟨a0, by omega, b0, by omega⟩
        · rw [hxl] at h0; exact absurd h0 (show ¬ (1 : Nat) = 0 by omega)) (by omega) (by omega))
      have j0 : (0 : Int) ≤ (j : Int) := by omega
      have j1 : (j : Int) < (m : Int) := by omega
      obtain ⟨z, hz⟩ : ∃ z, rsF (n : Int) y = z := ⟨_, rfl⟩
      rw [hz] at LC Hrt
      have HS2 := Lib.hid (fun (W : World) (M : Blk W G 31 #[.slice A1 n1 c1]) (he : Below w.heap.size w W) =>
        show W.cell? ⟨G, 0, none⟩ = some (.slice A1 n1 c1) ∧ W.cell? ⟨hb, 0, none⟩ = some (.slice (some ⟨bh, oh, none⟩) m ch) ∧ W.cell? ⟨bh, oh + j * 3, none⟩ = some (.string y.l) ∧ W.cell? ⟨bh, oh + j * 3 + 1, none⟩ = some (.int .i64 y.a) ∧ W.cell? ⟨bh, oh + j * 3 + 2, none⟩ = some (.int .i64 y.b) from
        ⟨M.cell 0, (HC.out W he).2.1, (he.cell (p := ⟨bh, oh + j * 3, none⟩) hBr).trans c0, (he.cell (p := ⟨bh, oh + j * 3 + 1, none⟩) hBr).trans c1', (he.cell (p := ⟨bh, oh + j * 3 + 2, none⟩) hBr).trans c2'⟩)
      have hS0 := HS2.out wr.drew P.out.drew.x P.out.drew.e
      clear hy hyw hz c0 c1' c2'
      go_wp2_with fail
      clear q0 q1 q2 q3
      refine wp_region_N (fun W => W.cell? ⟨G, 0, none⟩ = some (.slice A1 n1 c1) ∧ W.cell? ⟨hb, 0, none⟩ = some (.slice (some ⟨bh, oh, none⟩) m ch) ∧ W.cell? ⟨bh, oh + j * 3, none⟩ = some (.string y.l) ∧ W.cell? ⟨bh, oh + j * 3 + 1, none⟩ = some (.int .i64 y.a) ∧ W.cell? ⟨bh, oh + j * 3 + 2, none⟩ = some (.int .i64 y.b)) [14] (by kernel_rfl) ?_
      refine wpAnyN_take (i := 0) (v := ?_) rfl (by kernel_rfl) (fun _ _ _ h => h) (by rfl) (fun W hW => ?_) hS0 ?_
      rotate_left
      · obtain ⟨z0, z1, z2, z3, z4⟩ := hW
        go_simp
        try with_reducible rfl
      try simp only [List.getElem_toArray, List.getElem_cons_zero, List.getElem_cons_succ, Act.put, List.setIfInBounds_toArray, List.set_cons_zero, List.set_cons_succ]
      refine wpAnyN_take (i := 1) (v := ?_) rfl (by kernel_rfl) (fun _ _ _ h => h) (by rfl) (fun W hW => ?_) hS0 ?_
      rotate_left
      · obtain ⟨z0, z1, z2, z3, z4⟩ := hW
        go_simp
        try with_reducible rfl
      try simp only [List.getElem_toArray, List.getElem_cons_zero, List.getElem_cons_succ, Act.put, List.setIfInBounds_toArray, List.set_cons_zero, List.set_cons_succ]
      refine wpAnyN_take (i := 2) (v := ?_) rfl (by kernel_rfl) (fun _ _ _ h => h) (by rfl) (fun W hW => ?_) hS0 ?_
      rotate_left
      · obtain ⟨z0, z1, z2, z3, z4⟩ := hW
        go_simp
        try with_reducible rfl
      try simp only [List.getElem_toArray, List.getElem_cons_zero, List.getElem_cons_succ, Act.put, List.setIfInBounds_toArray, List.set_cons_zero, List.set_cons_succ]
      refine wpAnyN_take (i := 3) (v := ?_) rfl (by kernel_rfl) (fun _ _ _ h => h) (by rfl) (fun W hW => ?_) hS0 ?_
      rotate_left
      · obtain ⟨z0, z1, z2, z3, z4⟩ := hW
        go_simp
        try with_reducible rfl
      try simp only [List.getElem_toArray, List.getElem_cons_zero, List.getElem_cons_succ, Act.put, List.setIfInBounds_toArray, List.set_cons_zero, List.set_cons_succ]
      refine wpAnyN_take (i := 4) (v := ?_) rfl (by kernel_rfl) (fun _ _ _ h => h) (by rfl) (fun W hW => ?_) hS0 ?_
      rotate_left
      · obtain ⟨z0, z1, z2, z3, z4⟩ := hW
        go_simp
        try with_reducible rfl
      try simp only [List.getElem_toArray, List.getElem_cons_zero, List.getElem_cons_succ, Act.put, List.setIfInBounds_toArray, List.set_cons_zero, List.set_cons_succ]
      refine wpAnyN_take (i := 5) (v := ?_) rfl (by kernel_rfl) (fun _ _ _ h => h) (by rfl) (fun W hW => ?_) hS0 ?_
      rotate_left
      · obtain ⟨z0, z1, z2, z3, z4⟩ := hW
        go_simp
        try with_reducible rfl
      try simp only [List.getElem_toArray, List.getElem_cons_zero, List.getElem_cons_succ, Act.put, List.setIfInBounds_toArray, List.set_cons_zero, List.set_cons_succ]
      refine wpAnyN_take (i := 6) (v := ?_) rfl (by kernel_rfl) (fun _ _ _ h => h) (by rfl) (fun W hW => ?_) hS0 ?_
      rotate_left
      · obtain ⟨z0, z1, z2, z3, z4⟩ := hW
        go_simp
        try with_reducible rfl
      try simp only [List.getElem_toArray, List.getElem_cons_zero, List.getElem_cons_succ, Act.put, List.setIfInBounds_toArray, List.set_cons_zero, List.set_cons_succ]
      refine wpAnyN_take (i := 7) (v := ?_) rfl (by kernel_rfl) (fun _ _ _ h => h) (by rfl) (fun W hW => ?_) hS0 ?_
      rotate_left
      · obtain ⟨z0, z1, z2, z3, z4⟩ := hW
        go_simp
        try with_reducible rfl
      try simp only [List.getElem_toArray, List.getElem_cons_zero, List.getElem_cons_succ, Act.put, List.setIfInBounds_toArray, List.set_cons_zero, List.set_cons_succ]
      refine wpAnyN_take (i := 8) (v := ?_) rfl (by kernel_rfl) (fun _ _ _ h => h) (by rfl) (fun W hW => ?_) hS0 ?_
      rotate_left
      · obtain ⟨z0, z1, z2, z3, z4⟩ := hW
        go_simp
        try with_reducible rfl
      try simp only [List.getElem_toArray, List.getElem_cons_zero, List.getElem_cons_succ, Act.put, List.setIfInBounds_toArray, List.set_cons_zero, List.set_cons_succ]
      refine wpAnyN_take (i := 9) (v := ?_) rfl (by kernel_rfl) (fun _ _ _ h => h) (by rfl) (fun W hW => ?_) hS0 ?_
      rotate_left
      · obtain ⟨z0, z1, z2, z3, z4⟩ := hW
        go_simp
        try with_reducible rfl
      try simp only [List.getElem_toArray, List.getElem_cons_zero, List.getElem_cons_succ, Act.put, List.setIfInBounds_toArray, List.set_cons_zero, List.set_cons_succ]
      refine wpAnyN_next (i := 10) rfl (by kernel_rfl) (fun K hK => ?_)
      go_simp
      go_wp2_with (go_at_call 75; refine (LC.out _).mono ?_; rintro e w10 ⟨rfl, hb10⟩)
      have bm : Below wr.heap.size wr w10 := (Below.refl _ _).drew.trans hb10
      have M10 := Lib.hid (P.out.next bm)
      have M11 := Lib.hid (M10.out.alloc (.cells #[.string z.l, .int .i64 z.a, .int .i64 z.b] 72))
      refine hK.out _ _ (fun _ => HS2.out _ M10.out.x M10.out.e) ?_
      clear hK K
      try simp only [List.getElem_toArray, List.getElem_cons_zero, List.getElem_cons_succ, Act.put, List.setIfInBounds_toArray, List.set_cons_zero, List.set_cons_succ]
      refine wpAnyN_next (i := 11) rfl (by kernel_rfl) (fun K hK => ?_)
      go_simp
      refine hK.out _ _ (fun _ => HS2.out _ M11.out.x M11.out.e) ?_
      clear hK K hS0
      try simp only [List.getElem_toArray, List.getElem_cons_zero, List.getElem_cons_succ, Act.put, List.setIfInBounds_toArray, List.set_cons_zero, List.set_cons_succ]
      refine wpAnyN_next (i := 12) rfl (by kernel_rfl) (fun K hK => ?_)
      refine step_pushH (by rfl) _ _ _ (by rfl) w.heap.size 72 3 32 elem_rule Fac.cells A1 n1 c1 cur (by rfl) M11.out.q _ z #[.string z.l, .int .i64 z.a, .int .i64 z.b] 72 (0, 0) (by rfl) (heap_alloc_new _ _) rfl rfl (one_fac _) (by omega) (by omega) (by unfold maxLen; omega) M11.out.e.size ?_
      intro A8 c8 w8 own8 hg8 hat8
      have M12 := Lib.hid (M11.out.app own8 hg8)
      have M13 := Lib.hid (M11.out.push own8 hg8)
      have d8 := M12.out.2.2.1.cell 0
      have f8 := M12.out.2.2.1.frozen
      have l8 := M12.out.2.2.1.lt
      have hS1 := HS2.out _ M12.out.2.2.1 M12.out.2.2.2
      refine hK.out _ _ (fun _ => hS1) ?_
      clear hK K own8 hg8 hat8
      try simp only [List.getElem_toArray, List.getElem_cons_zero, List.getElem_cons_succ, Act.put, List.setIfInBounds_toArray, List.set_cons_zero, List.set_cons_succ]
      refine wpAnyN_next (i := 13) rfl (by kernel_rfl) (fun K hK => ?_)
      go_simp
      refine hK.out _ _ (fun _ => hS1) ?_
      clear hK K hS1
      try simp only [List.getElem_toArray, List.getElem_cons_zero, List.getElem_cons_succ, Act.put, List.setIfInBounds_toArray, List.set_cons_zero, List.set_cons_succ]
      refine wpAnyN_next (i := 14) rfl (by kernel_rfl) (fun K hK => ?_)
      go_simp
      refine hK.out _ _ (fun h => absurd h (by decide)) ?_
      clear hK K
      refine wpAnyN_done (by kernel_rfl) ?_ _
      clear d8 f8 l8
      go_wp2_with fail
      go_roundw
      case rel => exact ⟨j + 1, A8, n1 + 1, c8, cur ++ [z], by go_num, by omega, Lib.hid (by have := hn1.out; omega), Lib.hid (by rw [Hrt.out, ← List.append_assoc, hcur.out]), Lib.hid (by rw [List.length_append, hcl.out]; rfl), M13⟩
      case measure => simp [intOf]; omega
    · have hjm : j = m := by omega
      have hcur' := hcur.out
      rw [hjm, show hs.take m = hs from List.take_of_length_le (by rw [HM.out]; omega)] at hcur'
      clear hcur hjm
      have hcur := Lib.hid hcur'
      clear hcur'
      have HS2 := Lib.hid (fun (W : World) (M : Blk W G 31 #[.slice A1 n1 c1]) (he : Below w.heap.size w W) =>
        show W.cell? ⟨G, 0, none⟩ = some (.slice A1 n1 c1) ∧ W.cell? ⟨hb, 0, none⟩ = some (.slice Ah m ch) from ⟨M.cell 0, (HC.out W he).2.1⟩)
      have hS0 := HS2.out wr.drew P.out.drew.x P.out.drew.e
      have u1 : IntKind.i64.wrap ((n : Int) - 1) = (n : Int) - 1 := by rw [IntWalk.i64_in _ (by omega)]
      have u2 : IntKind.i64.wrap ((n : Int) + m) = (n : Int) + m := by rw [IntWalk.i64_in _ (by omega)]
      have u3 : IntKind.i64.wrap ((n : Int) + m - 1) = (n : Int) + m - 1 := by rw [IntWalk.i64_in _ (by omega)]
      go_wp2_with fail
      clear q0 q1 q2 q3
      refine wp_region_N (fun W => W.cell? ⟨G, 0, none⟩ = some (.slice A1 n1 c1) ∧ W.cell? ⟨hb, 0, none⟩ = some (.slice Ah m ch)) [16] (by kernel_rfl) ?_
      refine wpAnyN_take (i := 0) (v := ?_) rfl (by kernel_rfl) (fun _ _ _ h => h) (by rfl) (fun W hW => ?_) hS0 ?_
      rotate_left
      · obtain ⟨z0, z1⟩ := hW
        go_simp
        try with_reducible rfl
      try simp only [List.getElem_toArray, List.getElem_cons_zero, List.getElem_cons_succ, Act.put, List.setIfInBounds_toArray, List.set_cons_zero, List.set_cons_succ]
      refine wpAnyN_take (i := 1) (v := ?_) rfl (by kernel_rfl) (fun _ _ _ h => h) (by rfl) (fun W hW => ?_) hS0 ?_
      rotate_left
      · obtain ⟨z0, z1⟩ := hW
        go_simp
        try with_reducible rfl
      try simp only [List.getElem_toArray, List.getElem_cons_zero, List.getElem_cons_succ, Act.put, List.setIfInBounds_toArray, List.set_cons_zero, List.set_cons_succ]
      refine wpAnyN_take (i := 2) (v := ?_) rfl (by kernel_rfl) (fun _ _ _ h => h) (by rfl) (fun W hW => ?_) hS0 ?_
      rotate_left
      · obtain ⟨z0, z1⟩ := hW
        go_simp
        try with_reducible rfl
      try simp only [List.getElem_toArray, List.getElem_cons_zero, List.getElem_cons_succ, Act.put, List.setIfInBounds_toArray, List.set_cons_zero, List.set_cons_succ]
      refine wpAnyN_take (i := 3) (v := ?_) rfl (by kernel_rfl) (fun _ _ _ h => h) (by rfl) (fun W hW => ?_) hS0 ?_
      rotate_left
      · obtain ⟨z0, z1⟩ := hW
        go_simp
        try with_reducible rfl
      try simp only [List.getElem_toArray, List.getElem_cons_zero, List.getElem_cons_succ, Act.put, List.setIfInBounds_toArray, List.set_cons_zero, List.set_cons_succ]
      refine wpAnyN_take (i := 4) (v := ?_) rfl (by kernel_rfl) (fun _ _ _ h => h) (by rfl) (fun W hW => ?_) hS0 ?_
      rotate_left
      · obtain ⟨z0, z1⟩ := hW
        go_simp
        try with_reducible rfl
      try simp only [List.getElem_toArray, List.getElem_cons_zero, List.getElem_cons_succ, Act.put, List.setIfInBounds_toArray, List.set_cons_zero, List.set_cons_succ]
      refine wpAnyN_take (i := 5) (v := ?_) rfl (by kernel_rfl) (fun _ _ _ h => h) (by rfl) (fun W hW => ?_) hS0 ?_
      rotate_left
      · obtain ⟨z0, z1⟩ := hW
        go_simp
        try with_reducible rfl
      try simp only [List.getElem_toArray, List.getElem_cons_zero, List.getElem_cons_succ, Act.put, List.setIfInBounds_toArray, List.set_cons_zero, List.set_cons_succ]
      refine wpAnyN_take (i := 6) (v := ?_) rfl (by kernel_rfl) (fun _ _ _ h => h) (by rfl) (fun W hW => ?_) hS0 ?_
      rotate_left
      · obtain ⟨z0, z1⟩ := hW
        go_simp
        try with_reducible rfl
      try simp only [List.getElem_toArray, List.getElem_cons_zero, List.getElem_cons_succ, Act.put, List.setIfInBounds_toArray, List.set_cons_zero, List.set_cons_succ]
      refine wpAnyN_take (i := 7) (v := ?_) rfl (by kernel_rfl) (fun _ _ _ h => h) (by rfl) (fun W hW => ?_) hS0 ?_
      rotate_left
      · obtain ⟨z0, z1⟩ := hW
        go_simp
        try with_reducible rfl
      try simp only [List.getElem_toArray, List.getElem_cons_zero, List.getElem_cons_succ, Act.put, List.setIfInBounds_toArray, List.set_cons_zero, List.set_cons_succ]
      refine wpAnyN_take (i := 8) (v := ?_) rfl (by kernel_rfl) (fun _ _ _ h => h) (by rfl) (fun W hW => ?_) hS0 ?_
      rotate_left
      · obtain ⟨z0, z1⟩ := hW
        go_simp
        try with_reducible rfl
      try simp only [List.getElem_toArray, List.getElem_cons_zero, List.getElem_cons_succ, Act.put, List.setIfInBounds_toArray, List.set_cons_zero, List.set_cons_succ]
      refine wpAnyN_take (i := 9) (v := ?_) rfl (by kernel_rfl) (fun _ _ _ h => h) (by rfl) (fun W hW => ?_) hS0 ?_
      rotate_left
      · obtain ⟨z0, z1⟩ := hW
        go_simp
        try with_reducible rfl
      try simp only [List.getElem_toArray, List.getElem_cons_zero, List.getElem_cons_succ, Act.put, List.setIfInBounds_toArray, List.set_cons_zero, List.set_cons_succ]
      refine wpAnyN_take (i := 10) (v := ?_) rfl (by kernel_rfl) (fun _ _ _ h => h) (by rfl) (fun W hW => ?_) hS0 ?_
      rotate_left
      · obtain ⟨z0, z1⟩ := hW
        go_simp
        try with_reducible rfl
      try simp only [List.getElem_toArray, List.getElem_cons_zero, List.getElem_cons_succ, Act.put, List.setIfInBounds_toArray, List.set_cons_zero, List.set_cons_succ]
      refine wpAnyN_take (i := 11) (v := ?_) rfl (by kernel_rfl) (fun _ _ _ h => h) (by rfl) (fun W hW => ?_) hS0 ?_
      rotate_left
      · obtain ⟨z0, z1⟩ := hW
        go_simp
        try with_reducible rfl
      try simp only [List.getElem_toArray, List.getElem_cons_zero, List.getElem_cons_succ, Act.put, List.setIfInBounds_toArray, List.set_cons_zero, List.set_cons_succ]
      refine wpAnyN_take (i := 12) (v := ?_) rfl (by kernel_rfl) (fun _ _ _ h => h) (by rfl) (fun W hW => ?_) hS0 ?_
      rotate_left
      · obtain ⟨z0, z1⟩ := hW
        go_simp
        try with_reducible rfl
      try simp only [List.getElem_toArray, List.getElem_cons_zero, List.getElem_cons_succ, Act.put, List.setIfInBounds_toArray, List.set_cons_zero, List.set_cons_succ]
      refine wpAnyN_next (i := 13) rfl (by kernel_rfl) (fun K hK => ?_)
      go_simp
      have M11 := Lib.hid (P.out.drew.alloc (.cells #[.string ⟨#[]⟩, .int .i64 ((n : Int) - 1), .int .i64 ((n : Int) + m - 1)] 72))
      refine hK.out _ _ (fun _ => HS2.out _ M11.out.x M11.out.e) ?_
      clear hK K hS0
      try simp only [List.getElem_toArray, List.getElem_cons_zero, List.getElem_cons_succ, Act.put, List.setIfInBounds_toArray, List.set_cons_zero, List.set_cons_succ]
      refine wpAnyN_next (i := 14) rfl (by kernel_rfl) (fun K hK => ?_)
      refine step_pushH (by rfl) _ _ _ (by rfl) w.heap.size 72 3 32 elem_rule Fac.cells A1 n1 c1 cur (by rfl) M11.out.q _ ⟨⟨#[]⟩, (n : Int) - 1, (n : Int) + m - 1⟩ #[.string ⟨#[]⟩, .int .i64 ((n : Int) - 1), .int .i64 ((n : Int) + m - 1)] 72 (0, 0) (by rfl) (heap_alloc_new _ _) rfl rfl (one_fac _) (by omega) (by omega) (by unfold maxLen; omega) M11.out.e.size ?_
      intro A8 c8 w8 own8 hg8 hat8
      have M12 := Lib.hid (M11.out.app own8 hg8)
      have M13 := Lib.hid (M11.out.push own8 hg8)
      have d8 := M12.out.2.2.1.cell 0
      have f8 := M12.out.2.2.1.frozen
      have l8 := M12.out.2.2.1.lt
      have hS1 := HS2.out _ M12.out.2.2.1 M12.out.2.2.2
      refine hK.out _ _ (fun _ => hS1) ?_
      clear hK K own8 hg8 hat8
      try simp only [List.getElem_toArray, List.getElem_cons_zero, List.getElem_cons_succ, Act.put, List.setIfInBounds_toArray, List.set_cons_zero, List.set_cons_succ]
      refine wpAnyN_next (i := 15) rfl (by kernel_rfl) (fun K hK => ?_)
      go_simp
      refine hK.out _ _ (fun _ => hS1) ?_
      clear hK K hS1
      try simp only [List.getElem_toArray, List.getElem_cons_zero, List.getElem_cons_succ, Act.put, List.setIfInBounds_toArray, List.set_cons_zero, List.set_cons_succ]
      refine wpAnyN_next (i := 16) rfl (by kernel_rfl) (fun K hK => ?_)
      go_simp
      refine hK.out _ _ (fun h => absurd h (by decide)) ?_
      clear hK K
      refine wpAnyN_done (by kernel_rfl) ?_ _
      clear d8 f8 l8
      generalize hw13 : w8.setCell ⟨G, 0, none⟩ (.slice A8 (n1 + 1) c8) = w13 at *
      have r7 := M13.out.r.cell 0
      have f7 := M13.out.r.frozen
      have l7 := M13.out.r.lt
      have g7 := M13.out.x.cell 0
      have B8 := M13.out.r.set_ 0 (.slice A8 (n1 + 1) c8)
      have x8 : (w13.setCell ⟨w.heap.size, 0, none⟩ (.slice A8 (n1 + 1) c8)).cell? ⟨w.heap.size, 0, none⟩ = some (.slice A8 (n1 + 1) c8) := by rw [B8.cell 0]; rfl
      have b8 := M13.out.e.setCell (p := ⟨w.heap.size, 0, none⟩) (Nat.le_refl _) (.slice A8 (n1 + 1) c8)
      have O8 := Lib.hid (own_kept' (i := 0) M13.out.q M13.out.r (by decide) (.slice A8 (n1 + 1) c8))
      clear B8 hw13
      go_wp2_with fail
      refine bodyPost_ret (v := .agg #[.slice A8 (n1 + 1) c8]) (by simp [results, Tryz.results100, go_sem, x8]) rfl (show RetG w (joinL gs hs) _ _ from ⟨A8, c8, ?_, ?_, b8⟩)
      · rw [HJ.out, hcur.out, List.length_append, hcl.out]; rfl
      · rw [HJ.out, hcur.out, List.length_append, hcl.out]; exact O8.out
theorem join_sz {gs hs : List Fac} (hg : WF gs) (hh : WF hs) : ∀ f ∈ joinL gs hs, f.l.size ≤ maxLen := wf_sz (join_wf hg hh)
theorem join_len {gs hs : List Fac} (h0 : gs.length ≤ 400) (h1 : hs.length ≤ 400) : (joinL gs hs).length ≤ 801 := by
  unfold joinL
  split
  · omega
  · split
    · omega
    · simp only [List.length_append, raiseL_len, List.length_singleton]; omega
theorem join_pos {gs hs : List Fac} (h0 : 0 < gs.length) : 0 < (joinL gs hs).length := by
  unfold joinL
  split
  · omega
  · split
    · omega
    · simp only [List.length_append, List.length_singleton]; omega
set_option maxHeartbeats 4000000 in
set_option maxRecDepth 100000 in
theorem joinG_any (A : Option Addr) (n c : Nat) (gs : List Fac) (Ah : Option Addr) (m ch : Nat) (hs : List Fac) (w : World)
    (hn0 : 0 < n) (hm0 : 0 < m) (hr : Rd w w.heap.size A n 3 Fac.cells gs) (hr2 : Rd w w.heap.size Ah m 3 Fac.cells hs) (hg : WF gs) (hh : WF hs) (h1 : (gOk gs).isSome = true) (h2 : (gOk hs).isSome = true) :
    Calls Tryz.prog 85 #[.agg #[.slice A n c], .agg #[.slice Ah m ch]] w (RetGC w (limF (joinL gs hs)) (limC (joinL gs hs))) := by
  have hl1 := hr.len
  have hl2 := hr2.len
  have hn : n ≤ 400 := by obtain ⟨ls, hls⟩ := Option.isSome_iff_exists.1 h1; have := (gOk_lens hls).2.1; omega
  have hm : m ≤ 400 := by obtain ⟨ls, hls⟩ := Option.isSome_iff_exists.1 h2; have := (gOk_lens hls).2.1; omega
  have HR := Lib.hid hr; have H2 := Lib.hid hr2
  have HWg := Lib.hid hg; have HWh := Lib.hid hh
  have HS := Lib.hid (join_sz hg hh)
  have Hjl := Lib.hid (join_len (gs := gs) (hs := hs) (by omega) (by omega))
  have HO1 := Lib.hid h1; have HO2 := Lib.hid h2
  have Z1 := Lib.hid (wf_sz hg); have Z2 := Lib.hid (wf_sz hh)
  clear hr hr2 hl1 hl2 hg hh h1 h2
  go_enter Tryz.func85, Tryz.ntmps85
  go_wp2_with fail
  refine namedC fun w1 H1 => ?_
  have hb1 : Below w.heap.size w w1 := by rw [H1.out]; (repeat first | exact Below.refl _ _ | assumption | refine Below.drew ?_ | refine Below.alloc ?_ (by first | exact Nat.le_refl _ | (simp; done) | omega | (simp; omega)) _ | refine Below.setCell ?_ (by first | exact Nat.le_refl _ | (simp; done) | omega | (simp; omega)) _)
  have BG := Lib.hid (show Blk w1 w.heap.size 31 #[.slice A n c] by rw [H1.out]; exact ((Blk.new _ _ _).alloc _).alloc _)
  have BH := Lib.hid (show Blk w1 (w.heap.size + 1) 31 #[.slice Ah m ch] by rw [H1.out]; simpa using (Blk.new (w.alloc (.cells #[.slice A n c] 31)) 31 #[.slice Ah m ch]).alloc (.cells #[.slice none 0 0] 31))
  have BR := Lib.hid (show Blk w1 (w.heap.size + 2) 31 #[.slice none 0 0] by rw [H1.out]; simpa using Blk.new ((w.alloc (.cells #[.slice A n c] 31)).alloc (.cells #[.slice Ah m ch] 31)) 31 #[.slice none 0 0])
  clear H1
  refine (l02Ok_any w.heap.size A n c gs w1 BG.out.lt (BG.out.cell 0) (by omega) (HR.out.next hb1) Z1.out true HO1.out).mono ?_
  rintro e w2 ⟨rfl, hb2⟩
  have b2 := Lib.hid (hb1.trans (hb2.mono hb1.size))
  have BG2 := Lib.hid (BG.out.next hb2)
  have BH2 := Lib.hid (BH.out.next hb2)
  have BR2 := Lib.hid (BR.out.next hb2)
  clear BG BH BR hb1 hb2
  go_wp2_with fail
  refine (l02Ok_any (w.heap.size + 1) Ah m ch hs w2 BH2.out.lt (BH2.out.cell 0) (by omega) (H2.out.next b2.out) Z2.out true HO2.out).mono ?_
  rintro e w3 ⟨rfl, hb3⟩
  have b3 := Lib.hid (b2.out.trans (hb3.mono b2.out.size))
  have BG3 := Lib.hid (BG2.out.next hb3)
  have BH3 := Lib.hid (BH2.out.next hb3)
  have BR3 := Lib.hid (BR2.out.next hb3)
  clear BG2 BH2 BR2 hb3 b2
  go_wp2_with fail
  refine (l02Join_any w.heap.size (w.heap.size + 1) A n c gs Ah m ch hs w3 BG3.out.lt (BG3.out.cell 0) BH3.out.lt (BH3.out.cell 0) hn0 hn hm0 hm (HR.out.next b3.out) (H2.out.next b3.out) HWh.out).mono ?_
  generalize joinL gs hs = J at *
  rintro e w4 ⟨A4, c4, rfl, own4, hb4⟩
  have b4 := Lib.hid (b3.out.trans (hb4.mono b3.out.size))
  have O4 := Lib.hid (own4.mono b3.out.size)
  have BR4 := Lib.hid (BR3.out.next hb4)
  clear own4 hb4 b3 BG3 BH3 BR3
  rcases hok : (gOk J).isSome with _ | _
  · have Hok := Lib.hid hok
    have HF := Lib.hid (show limF J = [] by unfold limF; rw [hok]; rfl)
    have HC := Lib.hid (show limC J = 3 by unfold limC; rw [hok]; rfl)
    clear hok
    go_wp2_with fail
    refine (l02Told_no A4 J.length c4 J w4 (by have := Hjl.out; omega) (Rd.of_own (fun x _ => fac_len x) rfl O4.out) HS.out Hok.out).mono ?_
    rintro e w7 ⟨rfl, hb7⟩
    have B7 := BR4.out.next hb7
    have b7 := b4.out.trans (hb7.mono b4.out.size)
    have r7 := B7.cell 0
    have f7 := B7.frozen
    have l7 := B7.lt
    have x8 : (w7.setCell ⟨w.heap.size + 2, 0, none⟩ (.slice none 0 0)).cell? ⟨w.heap.size + 2, 0, none⟩ = some (.slice none 0 0) := by rw [(B7.set_ 0 (.slice none 0 0)).cell 0]; rfl
    have b8 := b7.setCell (p := ⟨w.heap.size + 2, 0, none⟩) (by simp) (.slice none 0 0)
    clear B7
    go_wp2_with fail
    exact bodyPost_ret (v := .tuple #[.agg #[.slice none 0 0], .int .i64 3]) (by simp [results, Tryz.results85, go_sem, x8]) rfl ⟨none, 0, by rw [HF.out, HC.out]; rfl, by rw [HF.out]; exact World.ownsRow_nil _ _ _ _, b8⟩
  · have Hok := Lib.hid hok
    have HF := Lib.hid (show limF J = J by unfold limF; rw [hok]; rfl)
    have HC := Lib.hid (show limC J = 0 by unfold limC; rw [hok]; rfl)
    clear hok
    go_wp2_with fail
    refine (l02Told_yes A4 J.length c4 J w4 (by have := Hjl.out; omega) (Rd.of_own (fun x _ => fac_len x) rfl O4.out) HS.out Hok.out).mono ?_
    rintro e w7 ⟨rfl, hb7⟩
    have B7 := Lib.hid (BR4.out.next hb7)
    have b7 := b4.out.trans (hb7.mono b4.out.size)
    have O7 := Lib.hid (own_next O4.out hb7)
    have r7 := B7.out.cell 0
    have f7 := B7.out.frozen
    have l7 := B7.out.lt
    have x8 : (w7.setCell ⟨w.heap.size + 2, 0, none⟩ (.slice A4 J.length c4)).cell? ⟨w.heap.size + 2, 0, none⟩ = some (.slice A4 J.length c4) := by rw [(B7.out.set_ 0 (.slice A4 J.length c4)).cell 0]; rfl
    have b8 := b7.setCell (p := ⟨w.heap.size + 2, 0, none⟩) (by simp) (.slice A4 J.length c4)
    have O8 := Lib.hid (own_kept' (i := 0) O7.out B7.out (by decide) (.slice A4 J.length c4))
    go_wp2_with fail
    exact bodyPost_ret (v := .tuple #[.agg #[.slice A4 J.length c4], .int .i64 0]) (by simp [results, Tryz.results85, go_sem, x8]) rfl ⟨A4, c4, by rw [HF.out, HC.out], by rw [HF.out]; exact O8.out, b8⟩
end Go.Proofs.YtmdmgndhapdmgaaGreat


/-
  The words that a law draws.
-/
namespace Go.Proofs.YtmdmgndhapdmgaaGreat
open Go.RowKit

/-- a list of bytes, as the walk reads it -/
theorem Rd.bytes {w : World} {B n : Nat} {A : Option Addr} {zs : List Int} (h : Rd w B A n 1 (fun z => [.int .u8 z]) zs) (ok : ∀ z ∈ zs, 0 ≤ z ∧ z < 256) : Rd w B A n 1 byteE (zs.map fun z => UInt8.ofNat z.toNat) := by
  refine ⟨by rw [List.length_map]; exact h.len, fun hn => ?_⟩
  obtain ⟨b, o, hA, hb, hc⟩ := h.2 hn
  refine ⟨b, o, hA, hb, fun k x hx j v hv => ?_⟩
  rw [List.getElem?_map] at hx
  obtain ⟨z, hz, rfl⟩ := Option.map_eq_some_iff.1 hx
  obtain ⟨h0, h1⟩ := ok z (List.mem_of_getElem? hz)
  obtain ⟨m, rfl⟩ := Int.eq_ofNat_of_zero_le h0
  have e : (UInt8.ofNat m).toNat = m := by rw [UInt8.toNat_ofNat']; omega
  have := hc k _ hz j v (by
    rcases j with _ | j
    · simpa [byteE, e] using hv
    · simp [byteE] at hv)
  exact this

theorem f6big_any (A : Option Addr) (n c : Nat) (w : World) (hn : n ≤ maxLen) (b : Bool) (hb : decide (4096 < n) = b) :
    Calls Tryz.prog 4 #[.slice A n c] w (Ret (.bool b) w) := by
  unfold maxLen at hn
  have e := Lib.hid (show decide ((4096 : Int) < (n : Int)) = b by rw [← hb, decide_eq_decide]; omega)
  clear hb
  go_enter Tryz.func4, Tryz.ntmps4
  go_wp2
  go_ret
  exact ⟨ret_bool e.out, Below.refl _ _⟩
def SrcNew (w : World) (e : Ending) (w' : World) : Prop := ∃ g, e = .returned (.pointer (some ⟨g, 0, none⟩)) ∧ w.heap.size ≤ g ∧ Src w' g 0 ∧ Below w.heap.size w w'
theorem l00From_any (A : Option Addr) (n c : Nat) (bs : List UInt8) (w : World) (hn : n ≤ 4096) (hr : Rd w w.heap.size A n 1 byteE bs) :
    Calls Tryz.prog 19 #[.slice A n c] w (SrcNew w) := by
  go_enter Tryz.func19, Tryz.ntmps19
  go_wp2_with fail
  go_ret
  exact ⟨w.heap.size, rfl, Nat.le_refl _, ⟨A, n, c, 0, bs, 0, Nat.le_refl _, hn, ⟨by omega, by omega⟩, Blk.new _ _ _, hr.below (by (repeat first | exact Below.refl _ _ | assumption | refine Below.drew ?_ | refine Below.alloc ?_ (by first | exact Nat.le_refl _ | (simp; done) | omega | (simp; omega)) _ | refine Below.setCell ?_ (by first | exact Nat.le_refl _ | (simp; done) | omega | (simp; omega)) _))⟩, by (repeat first | exact Below.refl _ _ | assumption | refine Below.drew ?_ | refine Below.alloc ?_ (by first | exact Nat.le_refl _ | (simp; done) | omega | (simp; omega)) _ | refine Below.setCell ?_ (by first | exact Nat.le_refl _ | (simp; done) | omega | (simp; omega)) _)⟩
end Go.Proofs.YtmdmgndhapdmgaaGreat


/-
  The grammars that a law draws.
-/
namespace Go.Proofs.YtmdmgndhapdmgaaGreat
open Go.RowKit

/-- a grammar that is drawn, in memory of its own -/
def GrNew (w : World) (most : Int) (e : Ending) (w' : World) : Prop :=
  ∃ A c rs, e = .returned (.agg #[.slice A rs.length c]) ∧ DgOk rs most ∧ w'.ownsRow w.heap.size 72 3 (.slice A rs.length c) rs.length (rs.flatMap Fac.cells) ∧ Below w.heap.size w w'
theorem DgOk.gok {rs : List Fac} {most : Int} (h : DgOk rs most) : (gOk rs).isSome = true := small_ok h.wf (by have := h.few; omega)
set_option maxHeartbeats 1000000 in
theorem p6Grammar_any (A : Option Addr) (n c : Nat) (bs : List UInt8) (w : World) (hn : n ≤ 4096) (hr : Rd w w.heap.size A n 1 byteE bs) :
    Calls Tryz.prog 6 #[.slice A n c] w (GrNew w 8) := by
  have HR := Lib.hid hr; clear hr
  go_enter Tryz.func6, Tryz.ntmps6
  go_wp2_with fail
  refine namedC fun w0 H0 => ?_
  have hb0 : Below w.heap.size w w0 := by rw [H0.out]; (repeat first | exact Below.refl _ _ | assumption | refine Below.drew ?_ | refine Below.alloc ?_ (by first | exact Nat.le_refl _ | (simp; done) | omega | (simp; omega)) _ | refine Below.setCell ?_ (by first | exact Nat.le_refl _ | (simp; done) | omega | (simp; omega)) _)
  have B0 := Lib.hid (show Blk w0 w.heap.size 31 #[.slice none 0 0] by rw [H0.out]; exact Blk.new _ _ _)
  clear H0
  refine (l00From_any A n c bs w0 hn (HR.out.next hb0)).mono ?_
  rintro e w1 ⟨g, rfl, hg, s1, hb1⟩
  have b1 := hb0.trans (hb1.mono hb0.size)
  have B1 := Lib.hid (B0.out.next hb1)
  have hlt := B0.out.lt
  go_wp2_with fail
  refine (l02Drawn_any g 0 8 w1 s1 (by omega) (by omega) (by omega)).mono ?_
  rintro e w2 ⟨A2, c2, rs, rfl, ok, own2, s2, g2⟩
  have B2 := Lib.hid (B1.out.grown g2 (by intro e; injection e with e; omega))
  have b2 := Lib.hid (b1.grown g2 b1.size (fun k e => by injection e; omega))
  have O2 := Lib.hid (own_kept' (i := 0) (own2.mono b1.size) B2.out (by decide) (.slice A2 rs.length c2))
  have Ok := Lib.hid ok
  have r0 := B2.out.cell 0
  have rf := B2.out.frozen
  have rl := B2.out.lt
  have x5 := (B2.out.set_ 0 (.slice A2 rs.length c2)).cell 0
  have b3 := Lib.hid (b2.out.setCell (p := ⟨w.heap.size, 0, none⟩) (Nat.le_refl _) (.slice A2 rs.length c2))
  clear own2 s2 g2 ok
  go_wp2_with fail
  refine bodyPost_ret (v := .agg #[.slice A2 rs.length c2]) (by simp [results, Tryz.results6, go_sem]; rw [x5]; rfl) rfl ?_
  exact ⟨A2, c2, rs, rfl, Ok.out, O2.out, b3.out⟩
end Go.Proofs.YtmdmgndhapdmgaaGreat


/-
  The draw of a grammar of a long word: it is valid, and its word is not too long.
-/
namespace Go.Proofs.YtmdmgndhapdmgaaGreat
open Go.RowKit

/-- a slice value holds a grammar that is right -/
def GrAt (w : World) (B : Nat) (V : Value) : Prop := ∃ A c rs, V = .slice A rs.length c ∧ GrIn w B A c rs
theorem GrIn.next {w w' : World} {B : Nat} {A : Option Addr} {c : Nat} {rs : List Fac} (h : GrIn w B A c rs) (hb : Below w.heap.size w w') : GrIn w' B A c rs := ⟨h.wf, h.pos, h.ok, own_next h.own hb⟩
theorem GrIn.mono {w : World} {B B' : Nat} {A : Option Addr} {c : Nat} {rs : List Fac} (h : GrIn w B A c rs) (hB : B' ≤ B) : GrIn w B' A c rs := ⟨h.wf, h.pos, h.ok, h.own.mono hB⟩
theorem GrAt.mono {w : World} {B B' : Nat} {V : Value} (h : GrAt w B V) (hB : B' ≤ B) : GrAt w B' V := by obtain ⟨A, c, rs, e, h⟩ := h; exact ⟨A, c, rs, e, h.mono hB⟩
theorem GrAt.next {w w' : World} {B : Nat} {V : Value} (h : GrAt w B V) (hb : Below w.heap.size w w') : GrAt w' B V := by obtain ⟨A, c, rs, e, h⟩ := h; exact ⟨A, c, rs, e, h.next hb⟩
theorem GrAt.alloc {w : World} {B : Nat} {V : Value} (h : GrAt w B V) (o : Obj) : GrAt (w.alloc o) B V := h.next ((Below.refl _ _).alloc (Nat.le_refl _) _)
theorem GrAt.keep {w : World} {B g : Nat} {V : Value} {cs : Array Value} (h : GrAt w B V) (hB : Blk w g 31 cs) (u : Value) : GrAt (w.setCell ⟨g, 0, none⟩ u) B V := by
  obtain ⟨A, c, rs, e, h⟩ := h
  exact ⟨A, c, rs, e, h.wf, h.pos, h.ok, own_kept' (i := 0) h.own hB (by decide) u⟩
theorem GrAt.draw {w w' : World} {B g : Nat} {V : Value} (h : GrAt w B V) (hg : w.grownBy w' (some g)) (hlt : g < B) : GrAt w' B V := by
  obtain ⟨A, c, rs, e, h⟩ := h
  exact ⟨A, c, rs, e, h.wf, h.pos, h.ok, own_kept h.own hg hlt⟩
theorem GrCode.cut {w w' : World} {e : Ending} (h : GrCode w e w') : ∃ (A2 : Option Addr) (n2 c2 : Nat) (k : Int), e = .returned (.tuple #[.agg #[.slice A2 n2 c2], .int .i64 k]) ∧ Below w.heap.size w w' ∧ (k = 0 → GrAt w' w.heap.size (.slice A2 n2 c2)) := by
  rcases h with ⟨A, c, rs, rfl, h, hb⟩ | ⟨rfl, hb⟩
  · exact ⟨_, _, _, 0, rfl, hb, fun _ => ⟨A, c, rs, rfl, h⟩⟩
  · exact ⟨_, _, _, 3, rfl, hb, fun h => absurd h (by decide)⟩
/-- the draw of a long word under way -/
structure HuW (w W : World) (g K X : Nat) (A : Option Addr) (n c : Nat) (rs : List Fac) : Prop where
  q : W.ownsRow w.heap.size 72 3 (.slice A n c) n (rs.flatMap Fac.cells)
  r : Blk W w.heap.size 31 #[.slice none 0 0]
  x : Blk W X 31 #[.slice A n c]
  s : Src W g K
  e : w.grownBy W (some g)
  hg : g < w.heap.size
  hx : w.heap.size < X
section
variable {w W W' : World} {g K X : Nat} {A : Option Addr} {n c : Nat} {rs : List Fac}
theorem HuW.next (h : HuW w W g K X A n c rs) (hb : Below W.heap.size W W') : HuW w W' g K X A n c rs := ⟨own_next h.q hb, h.r.next hb, h.x.next hb, h.s.next hb, gb_next h.e hb, h.hg, h.hx⟩
theorem HuW.alloc (h : HuW w W g K X A n c rs) (o : Obj) : HuW w (W.alloc o) g K X A n c rs := h.next ((Below.refl _ _).alloc (Nat.le_refl _) _)
theorem HuW.drew (h : HuW w W g K X A n c rs) : HuW w W.drew g K X A n c rs := h.next (Below.refl _ _).drew
theorem HuW.pick {K' : Nat} (h : HuW w W g K X A n c rs) (hs : Src W' g K') (hg : W.grownBy W' (some g)) : HuW w W' g K' X A n c rs :=
  ⟨own_kept h.q hg h.hg, h.r.grown hg (by intro e; injection e with e; have := h.hg; omega), h.x.grown hg (by intro e; injection e with e; have := h.hg; have := h.hx; omega), hs, gb_trans h.e hg, h.hg, h.hx⟩
theorem HuW.far {b : Nat} {cs : Array Value} (h : HuW w W g K X A n c rs) (V : Value) (hB : Blk W b 31 cs) (hb : X < b) : HuW w (W.setCell ⟨b, 0, none⟩ V) g K X A n c rs := by
  have hg := gb_set W b 0 V
  have h1 := h.hg; have h2 := h.hx
  exact ⟨own_kept' (i := 0) h.q hB (by decide) V, h.r.grown hg (by intro e; injection e with e; omega), h.x.grown hg (by intro e; injection e with e; omega), h.s.grown hg (fun k e => by injection e with e; omega), gb_weak h.e hg (by omega), h1, h2⟩
end
theorem mul_pick {a b : Int} (a0 : 0 ≤ a) (a1 : a < 1000000) (b0 : 0 ≤ b) (b1 : b < 100000) : 0 ≤ a * b ∧ a * b ≤ 100000000000 :=
  ⟨Int.mul_nonneg a0 b0, Int.le_trans (Int.mul_le_mul (show a ≤ 1000000 by omega) (show b ≤ 100000 by omega) b0 (by decide)) (by decide)⟩
/-- what the draw of a long word leaves -/
def HuDraw (w : World) (g K : Nat) (e : Ending) (w' : World) : Prop :=
  ∃ A c rs, e = .returned (.agg #[.slice A rs.length c]) ∧ GrIn w' w.heap.size A c rs ∧ Src w' g K ∧ w.grownBy w' (some g)
theorem join_cut {w w' : World} {J : List Fac} {e : Ending} (h : RetGC w (limF J) (limC J) e w') (hw : WF J) (hp : 0 < J.length) :
    ∃ (A2 : Option Addr) (n2 c2 : Nat) (k : Int), e = .returned (.tuple #[.agg #[.slice A2 n2 c2], .int .i64 k]) ∧ Below w.heap.size w w' ∧ (k = 0 → GrAt w' w.heap.size (.slice A2 n2 c2)) := by
  obtain ⟨A, c, rfl, own, hb⟩ := h
  refine ⟨A, _, c, _, rfl, hb, fun hk => ?_⟩
  unfold limC at hk
  split at hk
  · rename_i h1
    have e : limF J = J := by unfold limF; rw [if_pos h1]
    rw [e] at own ⊢
    exact ⟨A, c, J, rfl, hw, hp, h1, own⟩
  · cases hk
theorem HuW.tell {w W : World} {g K K' X : Nat} {A A2 : Option Addr} {n c n2 c2 : Nat} {rs : List Fac} (h : HuW w W g K X A n c rs) (hG : GrAt W w.heap.size (.slice A2 n2 c2)) (hK : K ≤ K') :
    HuDraw w g K' (.returned (.agg #[.slice A2 n2 c2])) (W.setCell ⟨w.heap.size, 0, none⟩ (.slice A2 n2 c2)) := by
  have hg := gb_set W w.heap.size 0 (.slice A2 n2 c2)
  have h1 := h.hg
  obtain ⟨A', c', rs', hv, hi⟩ := hG
  injection hv with h1 h2 h3
  subst h1; subst h2; subst h3
  exact ⟨A2, c2, rs', rfl, ⟨hi.wf, hi.pos, hi.ok, own_kept' (i := 0) hi.own h.r (by decide) _⟩, (h.s.grown hg (fun k e => by injection e with e; omega)).mono hK, gb_weak h.e hg (Nat.le_refl _)⟩
theorem HuW.x8 {w W : World} {g K X : Nat} {A : Option Addr} {n c : Nat} {rs : List Fac} (h : HuW w W g K X A n c rs) (v : Value) : (W.setCell ⟨w.heap.size, 0, none⟩ v).cell? ⟨w.heap.size, 0, none⟩ = some v := by rw [(h.r.set_ 0 v).cell 0]; rfl
set_option maxHeartbeats 4000000 in
set_option maxRecDepth 100000 in
theorem l02Huge_any (g K : Nat) (w : World) (h : Src w g K) (hK : K ≤ 1000000) :
    Calls Tryz.prog 52 #[.pointer (some ⟨g, 0, none⟩)] w (HuDraw w g (K + 3000)) := by
  have HG := h.lt
  have H := Lib.hid h; clear h
  go_enter Tryz.func52, Tryz.ntmps52
  go_wp2_with fail
  refine namedC fun w1 H1 => ?_
  have hb1 : Below w.heap.size w w1 := by rw [H1.out]; (repeat first | exact Below.refl _ _ | assumption | refine Below.drew ?_ | refine Below.alloc ?_ (by first | exact Nat.le_refl _ | (simp; done) | omega | (simp; omega)) _ | refine Below.setCell ?_ (by first | exact Nat.le_refl _ | (simp; done) | omega | (simp; omega)) _)
  have BR := Lib.hid (show Blk w1 w.heap.size 31 #[.slice none 0 0] by rw [H1.out]; exact Blk.new _ _ _)
  clear H1
  refine (l02Drawn_any g K 1000 w1 (H.out.next hb1) (by omega) (by omega) (by omega)).mono ?_
  rintro e w2 ⟨A, c, rs, rfl, ok, own2, s2, g2⟩
  have HOk := Lib.hid ok
  obtain ⟨n, hn⟩ : ∃ n, rs.length = n := ⟨_, rfl⟩
  have hn0 : 0 < n := by have := ok.pos; omega
  have hn1 : n ≤ 400 := by have := ok.few; omega
  have HLn := Lib.hid hn
  rw [hn] at own2 ⊢
  have O2 := Lib.hid (own2.mono hb1.size)
  have BR2 := Lib.hid (BR.out.grown g2 (by intro e; injection e with e; omega))
  have E2 := Lib.hid (gb_trans (gb_below (r := some g) hb1) g2)
  have S2 := Lib.hid s2
  have hX : w.heap.size < w2.heap.size := BR2.out.lt
  clear ok own2 s2 g2 hn BR hb1 H
  go_upto_region 2 with fail
  refine named fun w3 H3 => ?_
  have P := Lib.hid (show HuW w w3 g (K + 1000) w2.heap.size A n c rs by
    rw [H3.out]
    exact ⟨O2.out.alloc _, BR2.out.alloc _, Blk.new _ _ _, S2.out.next ((Below.refl _ _).alloc (Nat.le_refl _) _), gb_next E2.out ((Below.refl _ _).alloc (Nat.le_refl _) _), HG, hX⟩)
  clear H3 O2 BR2 E2 S2
  generalize hK1 : K + 1000 = K1 at *
  go_cut [4, 5] from 6 (fun p_ k_ wx => ∃ (a4 : Nat) (A2 : Option Addr) (n2 c2 : Nat) (k : Int), p_ = .pointer (some ⟨a4, 0, none⟩) ∧ k_ = .int .i64 k ∧ Hid (HuW w wx g (K1 + 2 + 2) w2.heap.size A n c rs) ∧ Hid (Blk wx a4 31 #[.slice A2 n2 c2]) ∧ Hid (k = 0 → GrAt wx w.heap.size (.slice A2 n2 c2)) ∧ Hid (w2.heap.size < a4))
  case first =>
    refine wp_region_N (fun W => W.cell? ⟨w2.heap.size, 0, none⟩ = some (.slice A n c)) [] (by kernel_rfl) ?_
    have P_0 := Lib.hid P.out.drew
    have hS0 := P_0.out.x.cell 0
    refine wpAnyN_take (i := 0) (v := ?_) rfl (by kernel_rfl) (fun _ _ _ h => h) (by rfl) (fun W hW => ?_) hS0 ?_
    rotate_left
    · have z0 := hW
      go_simp
      try with_reducible rfl
    try simp only [List.getElem_toArray, List.getElem_cons_zero, List.getElem_cons_succ, Act.put, List.setIfInBounds_toArray, List.set_cons_zero, List.set_cons_succ]
    refine wpAnyN_take (i := 1) (v := ?_) rfl (by kernel_rfl) (fun _ _ _ h => h) (by rfl) (fun W hW => ?_) hS0 ?_
    rotate_left
    · have z0 := hW
      go_simp
      try with_reducible rfl
    try simp only [List.getElem_toArray, List.getElem_cons_zero, List.getElem_cons_succ, Act.put, List.setIfInBounds_toArray, List.set_cons_zero, List.set_cons_succ]
    refine wpAnyN_take (i := 3) (v := ?_) rfl (by kernel_rfl) (fun _ _ _ h => h) (by rfl) (fun W hW => ?_) hS0 ?_
    rotate_left
    · have z0 := hW
      go_simp
      try with_reducible rfl
    try simp only [List.getElem_toArray, List.getElem_cons_zero, List.getElem_cons_succ, Act.put, List.setIfInBounds_toArray, List.set_cons_zero, List.set_cons_succ]
    clear hS0
    clear P
    generalize w3.drew = wd at *
    refine wpAnyN_2 (i := 2) (j := 11) rfl rfl (by kernel_rfl) ?_ ?_
    · intro Kc hK
      go_simp
      go_wp2_with (go_at_call 58; refine (pick_any g K1 1000000 1000000 _ P_0.out.s (by omega) (by omega) (by omega)).mono ?_; rintro e x1 ⟨v1, rfl, v10, v11, s2, g2⟩)
      have P_1 := Lib.hid (P_0.out.pick s2 g2)
      refine hK.out _ _ (fun _ => P_1.out.x.cell 0) ?_
      clear hK Kc s2 g2 P_0
      try simp only [List.getElem_toArray, List.getElem_cons_zero, List.getElem_cons_succ, Act.put, List.setIfInBounds_toArray, List.set_cons_zero, List.set_cons_succ]
      refine wpAnyN_2 (i := 4) (j := 11) rfl rfl (by kernel_rfl) ?_ ?_
      · intro Kc hK
        go_simp
        go_wp2_with (go_at_call 58; refine (pick_any g (K1 + 2) 100000 100000 _ P_1.out.s (by omega) (by omega) (by omega)).mono ?_; rintro e x2 ⟨v2, rfl, v20, v21, s2, g2⟩)
        have P_2 := Lib.hid (P_1.out.pick s2 g2)
        refine hK.out _ _ (fun _ => P_2.out.x.cell 0) ?_
        clear hK Kc s2 g2 P_1
        try simp only [List.getElem_toArray, List.getElem_cons_zero, List.getElem_cons_succ, Act.put, List.setIfInBounds_toArray, List.set_cons_zero, List.set_cons_succ]
        have hm := mul_pick v10 v11 v20 v21
        have um1 : IntKind.i64.wrap (v1 * v2) = v1 * v2 := by rw [IntWalk.i64_in _ (by omega)]
        have um2 : IntKind.i64.wrap (1 + v1 * v2) = 1 + v1 * v2 := by rw [IntWalk.i64_in _ (by omega)]
        have hS0 := P_2.out.x.cell 0
        refine wpAnyN_take (i := 5) (v := ?_) rfl (by kernel_rfl) (fun _ _ _ h => h) (by rfl) (fun W hW => ?_) hS0 ?_
        rotate_left
        · have z0 := hW
          go_simp
          try with_reducible rfl
        try simp only [List.getElem_toArray, List.getElem_cons_zero, List.getElem_cons_succ, Act.put, List.setIfInBounds_toArray, List.set_cons_zero, List.set_cons_succ]
        refine wpAnyN_take (i := 6) (v := ?_) rfl (by kernel_rfl) (fun _ _ _ h => h) (by rfl) (fun W hW => ?_) hS0 ?_
        rotate_left
        · have z0 := hW
          go_simp
          try with_reducible rfl
        try simp only [List.getElem_toArray, List.getElem_cons_zero, List.getElem_cons_succ, Act.put, List.setIfInBounds_toArray, List.set_cons_zero, List.set_cons_succ]
        clear hS0
        clear um1 um2
        generalize v1 * v2 = t at *
        refine wpAnyN_2 (i := 7) (j := 11) rfl rfl (by kernel_rfl) ?_ ?_
        · intro Kc hK
          go_simp
          go_wp2_with (go_at_call 84; refine (powerG_any A n c rs (1 + t) _ hn0 hn1 (Rd.of_own (fun x _ => fac_len x) HLn.out P_2.out.q) HOk.out.wf HOk.out.gok (by omega) (by omega)).mono ?_; rintro e x3 hpost; obtain ⟨A2, n2, c2, k, rfl, hbl, HPk⟩ := hpost.cut)
          have P_3 := Lib.hid (P_2.out.next hbl)
          have HP := Lib.hid (fun h => (HPk h).mono P_2.out.e.size)
          refine hK.out _ _ (fun _ => P_3.out.x.cell 0) ?_
          clear hK Kc hpost hbl HPk P_2
          try simp only [List.getElem_toArray, List.getElem_cons_zero, List.getElem_cons_succ, Act.put, List.setIfInBounds_toArray, List.set_cons_zero, List.set_cons_succ]
          have hS0 := P_3.out.x.cell 0
          refine wpAnyN_take (i := 8) (v := ?_) rfl (by kernel_rfl) (fun _ _ _ h => h) (by rfl) (fun W hW => ?_) hS0 ?_
          rotate_left
          · have z0 := hW
            go_simp
            try with_reducible rfl
          try simp only [List.getElem_toArray, List.getElem_cons_zero, List.getElem_cons_succ, Act.put, List.setIfInBounds_toArray, List.set_cons_zero, List.set_cons_succ]
          refine wpAnyN_take (i := 9) (v := ?_) rfl (by kernel_rfl) (fun _ _ _ h => h) (by rfl) (fun W hW => ?_) hS0 ?_
          rotate_left
          · have z0 := hW
            go_simp
            try with_reducible rfl
          try simp only [List.getElem_toArray, List.getElem_cons_zero, List.getElem_cons_succ, Act.put, List.setIfInBounds_toArray, List.set_cons_zero, List.set_cons_succ]
          refine wpAnyN_take (i := 10) (v := ?_) rfl (by kernel_rfl) (fun _ _ _ h => h) (by rfl) (fun W hW => ?_) hS0 ?_
          rotate_left
          · have z0 := hW
            go_simp
            try with_reducible rfl
          try simp only [List.getElem_toArray, List.getElem_cons_zero, List.getElem_cons_succ, Act.put, List.setIfInBounds_toArray, List.set_cons_zero, List.set_cons_succ]
          clear hS0
          refine wpAnyN_next (i := 11) rfl (by kernel_rfl) (fun Kc hK => ?_)
          go_simp
          have P_4 := Lib.hid (P_3.out.alloc (.cells #[.slice none 0 0] 31))
          have B_4 := Lib.hid (Blk.new x3 31 #[.slice none 0 0])
          have ha4 : w2.heap.size < x3.heap.size := P_3.out.x.lt
          have HP := Lib.hid (fun h => (HP.out h).alloc (.cells #[.slice none 0 0] 31))
          refine hK.out _ _ (fun _ => P_4.out.x.cell 0) ?_
          clear hK Kc
          try simp only [List.getElem_toArray, List.getElem_cons_zero, List.getElem_cons_succ, Act.put, List.setIfInBounds_toArray, List.set_cons_zero, List.set_cons_succ]
          generalize x3.heap.size = a4 at *
          generalize x3.alloc (.cells #[.slice none 0 0] 31) = x4 at *
          clear P_3
          have BZ0 := B_4
          refine wpAnyN_next (i := 12) rfl (by kernel_rfl) (fun Kc hK => ?_)
          have b9c := B_4.out.cell 0
          have b9f := B_4.out.frozen
          have b9l := B_4.out.lt
          go_simp
          have PZ := Lib.hid (P_4.out.far (.slice A2 n2 c2) B_4.out ha4)
          have BZ := Lib.hid (B_4.out.set_ 0 (.slice A2 n2 c2))
          have OZ := Lib.hid (fun h => (HP.out h).keep BZ0.out (.slice A2 n2 c2))
          refine hK.out _ _ (fun _ => PZ.out.x.cell 0) ?_
          clear hK Kc b9c b9f b9l
          try simp only [List.getElem_toArray, List.getElem_cons_zero, List.getElem_cons_succ, Act.put, List.setIfInBounds_toArray, List.set_cons_zero, List.set_cons_succ]
          refine wpAnyN_next (i := 13) rfl (by kernel_rfl) (fun Kc hK => ?_)
          go_simp
          refine hK.out _ _ (fun _ => PZ.out.x.cell 0) ?_
          clear hK Kc
          refine wpAnyN_done (by kernel_rfl) ?_ _
          go_wp2_with fail
          go_meet
          exact ⟨a4, A2, n2, c2, k, rfl, rfl, PZ, BZ, OZ, Lib.hid (by omega)⟩
        · intro Kc hK
          go_simp
          have P_5 := Lib.hid (P_2.out.alloc (.cells #[.slice none 0 0] 31))
          have B_5 := Lib.hid (Blk.new x2 31 #[.slice none 0 0])
          have ha4 : w2.heap.size < x2.heap.size := P_2.out.x.lt
          refine hK.out _ _ (fun _ => P_5.out.x.cell 0) ?_
          clear hK Kc
          try simp only [List.getElem_toArray, List.getElem_cons_zero, List.getElem_cons_succ, Act.put, List.setIfInBounds_toArray, List.set_cons_zero, List.set_cons_succ]
          generalize x2.heap.size = a4 at *
          generalize x2.alloc (.cells #[.slice none 0 0] 31) = x5 at *
          clear P_2
          refine wpAnyN_next (i := 7) rfl (by kernel_rfl) (fun Kc hK => ?_)
          go_simp
          go_wp2_with (go_at_call 84; refine (powerG_any A n c rs (1 + t) _ hn0 hn1 (Rd.of_own (fun x _ => fac_len x) HLn.out P_5.out.q) HOk.out.wf HOk.out.gok (by omega) (by omega)).mono ?_; rintro e x6 hpost; obtain ⟨A2, n2, c2, k, rfl, hbl, HPk⟩ := hpost.cut)
          have P_6 := Lib.hid (P_5.out.next hbl)
          have HP := Lib.hid (fun h => (HPk h).mono P_5.out.e.size)
          have B_6 := Lib.hid (B_5.out.next hbl)
          refine hK.out _ _ (fun _ => P_6.out.x.cell 0) ?_
          clear hK Kc hpost hbl HPk P_5
          try simp only [List.getElem_toArray, List.getElem_cons_zero, List.getElem_cons_succ, Act.put, List.setIfInBounds_toArray, List.set_cons_zero, List.set_cons_succ]
          clear B_5
          have hS0 := P_6.out.x.cell 0
          refine wpAnyN_take (i := 8) (v := ?_) rfl (by kernel_rfl) (fun _ _ _ h => h) (by rfl) (fun W hW => ?_) hS0 ?_
          rotate_left
          · have z0 := hW
            go_simp
            try with_reducible rfl
          try simp only [List.getElem_toArray, List.getElem_cons_zero, List.getElem_cons_succ, Act.put, List.setIfInBounds_toArray, List.set_cons_zero, List.set_cons_succ]
          refine wpAnyN_take (i := 9) (v := ?_) rfl (by kernel_rfl) (fun _ _ _ h => h) (by rfl) (fun W hW => ?_) hS0 ?_
          rotate_left
          · have z0 := hW
            go_simp
            try with_reducible rfl
          try simp only [List.getElem_toArray, List.getElem_cons_zero, List.getElem_cons_succ, Act.put, List.setIfInBounds_toArray, List.set_cons_zero, List.set_cons_succ]
          refine wpAnyN_take (i := 10) (v := ?_) rfl (by kernel_rfl) (fun _ _ _ h => h) (by rfl) (fun W hW => ?_) hS0 ?_
          rotate_left
          · have z0 := hW
            go_simp
            try with_reducible rfl
          try simp only [List.getElem_toArray, List.getElem_cons_zero, List.getElem_cons_succ, Act.put, List.setIfInBounds_toArray, List.set_cons_zero, List.set_cons_succ]
          clear hS0
          have BZ0 := B_6
          refine wpAnyN_next (i := 12) rfl (by kernel_rfl) (fun Kc hK => ?_)
          have b9c := B_6.out.cell 0
          have b9f := B_6.out.frozen
          have b9l := B_6.out.lt
          go_simp
          have PZ := Lib.hid (P_6.out.far (.slice A2 n2 c2) B_6.out ha4)
          have BZ := Lib.hid (B_6.out.set_ 0 (.slice A2 n2 c2))
          have OZ := Lib.hid (fun h => (HP.out h).keep BZ0.out (.slice A2 n2 c2))
          refine hK.out _ _ (fun _ => PZ.out.x.cell 0) ?_
          clear hK Kc b9c b9f b9l
          try simp only [List.getElem_toArray, List.getElem_cons_zero, List.getElem_cons_succ, Act.put, List.setIfInBounds_toArray, List.set_cons_zero, List.set_cons_succ]
          refine wpAnyN_next (i := 13) rfl (by kernel_rfl) (fun Kc hK => ?_)
          go_simp
          refine hK.out _ _ (fun _ => PZ.out.x.cell 0) ?_
          clear hK Kc
          refine wpAnyN_done (by kernel_rfl) ?_ _
          go_wp2_with fail
          go_meet
          exact ⟨a4, A2, n2, c2, k, rfl, rfl, PZ, BZ, OZ, Lib.hid (by omega)⟩
      · intro Kc hK
        go_simp
        have P_7 := Lib.hid (P_1.out.alloc (.cells #[.slice none 0 0] 31))
        have B_7 := Lib.hid (Blk.new x1 31 #[.slice none 0 0])
        have ha4 : w2.heap.size < x1.heap.size := P_1.out.x.lt
        refine hK.out _ _ (fun _ => P_7.out.x.cell 0) ?_
        clear hK Kc
        try simp only [List.getElem_toArray, List.getElem_cons_zero, List.getElem_cons_succ, Act.put, List.setIfInBounds_toArray, List.set_cons_zero, List.set_cons_succ]
        generalize x1.heap.size = a4 at *
        generalize x1.alloc (.cells #[.slice none 0 0] 31) = x7 at *
        clear P_1
        refine wpAnyN_next (i := 4) rfl (by kernel_rfl) (fun Kc hK => ?_)
        go_simp
        go_wp2_with (go_at_call 58; refine (pick_any g (K1 + 2) 100000 100000 _ P_7.out.s (by omega) (by omega) (by omega)).mono ?_; rintro e x8 ⟨v2, rfl, v20, v21, s2, g2⟩)
        have P_8 := Lib.hid (P_7.out.pick s2 g2)
        have B_8 := Lib.hid (B_7.out.grown g2 (by intro e; injection e with e; have := HG; omega))
        refine hK.out _ _ (fun _ => P_8.out.x.cell 0) ?_
        clear hK Kc s2 g2 P_7
        try simp only [List.getElem_toArray, List.getElem_cons_zero, List.getElem_cons_succ, Act.put, List.setIfInBounds_toArray, List.set_cons_zero, List.set_cons_succ]
        clear B_7
        have hm := mul_pick v10 v11 v20 v21
        have um1 : IntKind.i64.wrap (v1 * v2) = v1 * v2 := by rw [IntWalk.i64_in _ (by omega)]
        have um2 : IntKind.i64.wrap (1 + v1 * v2) = 1 + v1 * v2 := by rw [IntWalk.i64_in _ (by omega)]
        have hS0 := P_8.out.x.cell 0
        refine wpAnyN_take (i := 5) (v := ?_) rfl (by kernel_rfl) (fun _ _ _ h => h) (by rfl) (fun W hW => ?_) hS0 ?_
        rotate_left
        · have z0 := hW
          go_simp
          try with_reducible rfl
        try simp only [List.getElem_toArray, List.getElem_cons_zero, List.getElem_cons_succ, Act.put, List.setIfInBounds_toArray, List.set_cons_zero, List.set_cons_succ]
        refine wpAnyN_take (i := 6) (v := ?_) rfl (by kernel_rfl) (fun _ _ _ h => h) (by rfl) (fun W hW => ?_) hS0 ?_
        rotate_left
        · have z0 := hW
          go_simp
          try with_reducible rfl
        try simp only [List.getElem_toArray, List.getElem_cons_zero, List.getElem_cons_succ, Act.put, List.setIfInBounds_toArray, List.set_cons_zero, List.set_cons_succ]
        clear hS0
        clear um1 um2
        generalize v1 * v2 = t at *
        refine wpAnyN_next (i := 7) rfl (by kernel_rfl) (fun Kc hK => ?_)
        go_simp
        go_wp2_with (go_at_call 84; refine (powerG_any A n c rs (1 + t) _ hn0 hn1 (Rd.of_own (fun x _ => fac_len x) HLn.out P_8.out.q) HOk.out.wf HOk.out.gok (by omega) (by omega)).mono ?_; rintro e x9 hpost; obtain ⟨A2, n2, c2, k, rfl, hbl, HPk⟩ := hpost.cut)
        have P_9 := Lib.hid (P_8.out.next hbl)
        have HP := Lib.hid (fun h => (HPk h).mono P_8.out.e.size)
        have B_9 := Lib.hid (B_8.out.next hbl)
        refine hK.out _ _ (fun _ => P_9.out.x.cell 0) ?_
        clear hK Kc hpost hbl HPk P_8
        try simp only [List.getElem_toArray, List.getElem_cons_zero, List.getElem_cons_succ, Act.put, List.setIfInBounds_toArray, List.set_cons_zero, List.set_cons_succ]
        clear B_8
        have hS0 := P_9.out.x.cell 0
        refine wpAnyN_take (i := 8) (v := ?_) rfl (by kernel_rfl) (fun _ _ _ h => h) (by rfl) (fun W hW => ?_) hS0 ?_
        rotate_left
        · have z0 := hW
          go_simp
          try with_reducible rfl
        try simp only [List.getElem_toArray, List.getElem_cons_zero, List.getElem_cons_succ, Act.put, List.setIfInBounds_toArray, List.set_cons_zero, List.set_cons_succ]
        refine wpAnyN_take (i := 9) (v := ?_) rfl (by kernel_rfl) (fun _ _ _ h => h) (by rfl) (fun W hW => ?_) hS0 ?_
        rotate_left
        · have z0 := hW
          go_simp
          try with_reducible rfl
        try simp only [List.getElem_toArray, List.getElem_cons_zero, List.getElem_cons_succ, Act.put, List.setIfInBounds_toArray, List.set_cons_zero, List.set_cons_succ]
        refine wpAnyN_take (i := 10) (v := ?_) rfl (by kernel_rfl) (fun _ _ _ h => h) (by rfl) (fun W hW => ?_) hS0 ?_
        rotate_left
        · have z0 := hW
          go_simp
          try with_reducible rfl
        try simp only [List.getElem_toArray, List.getElem_cons_zero, List.getElem_cons_succ, Act.put, List.setIfInBounds_toArray, List.set_cons_zero, List.set_cons_succ]
        clear hS0
        have BZ0 := B_9
        refine wpAnyN_next (i := 12) rfl (by kernel_rfl) (fun Kc hK => ?_)
        have b9c := B_9.out.cell 0
        have b9f := B_9.out.frozen
        have b9l := B_9.out.lt
        go_simp
        have PZ := Lib.hid (P_9.out.far (.slice A2 n2 c2) B_9.out ha4)
        have BZ := Lib.hid (B_9.out.set_ 0 (.slice A2 n2 c2))
        have OZ := Lib.hid (fun h => (HP.out h).keep BZ0.out (.slice A2 n2 c2))
        refine hK.out _ _ (fun _ => PZ.out.x.cell 0) ?_
        clear hK Kc b9c b9f b9l
        try simp only [List.getElem_toArray, List.getElem_cons_zero, List.getElem_cons_succ, Act.put, List.setIfInBounds_toArray, List.set_cons_zero, List.set_cons_succ]
        refine wpAnyN_next (i := 13) rfl (by kernel_rfl) (fun Kc hK => ?_)
        go_simp
        refine hK.out _ _ (fun _ => PZ.out.x.cell 0) ?_
        clear hK Kc
        refine wpAnyN_done (by kernel_rfl) ?_ _
        go_wp2_with fail
        go_meet
        exact ⟨a4, A2, n2, c2, k, rfl, rfl, PZ, BZ, OZ, Lib.hid (by omega)⟩
    · intro Kc hK
      go_simp
      have P_10 := Lib.hid (P_0.out.alloc (.cells #[.slice none 0 0] 31))
      have B_10 := Lib.hid (Blk.new wd 31 #[.slice none 0 0])
      have ha4 : w2.heap.size < wd.heap.size := P_0.out.x.lt
      refine hK.out _ _ (fun _ => P_10.out.x.cell 0) ?_
      clear hK Kc
      try simp only [List.getElem_toArray, List.getElem_cons_zero, List.getElem_cons_succ, Act.put, List.setIfInBounds_toArray, List.set_cons_zero, List.set_cons_succ]
      generalize wd.heap.size = a4 at *
      generalize wd.alloc (.cells #[.slice none 0 0] 31) = x10 at *
      clear P_0
      refine wpAnyN_next (i := 2) rfl (by kernel_rfl) (fun Kc hK => ?_)
      go_simp
      go_wp2_with (go_at_call 58; refine (pick_any g K1 1000000 1000000 _ P_10.out.s (by omega) (by omega) (by omega)).mono ?_; rintro e x11 ⟨v1, rfl, v10, v11, s2, g2⟩)
      have P_11 := Lib.hid (P_10.out.pick s2 g2)
      have B_11 := Lib.hid (B_10.out.grown g2 (by intro e; injection e with e; have := HG; omega))
      refine hK.out _ _ (fun _ => P_11.out.x.cell 0) ?_
      clear hK Kc s2 g2 P_10
      try simp only [List.getElem_toArray, List.getElem_cons_zero, List.getElem_cons_succ, Act.put, List.setIfInBounds_toArray, List.set_cons_zero, List.set_cons_succ]
      clear B_10
      refine wpAnyN_next (i := 4) rfl (by kernel_rfl) (fun Kc hK => ?_)
      go_simp
      go_wp2_with (go_at_call 58; refine (pick_any g (K1 + 2) 100000 100000 _ P_11.out.s (by omega) (by omega) (by omega)).mono ?_; rintro e x12 ⟨v2, rfl, v20, v21, s2, g2⟩)
      have P_12 := Lib.hid (P_11.out.pick s2 g2)
      have B_12 := Lib.hid (B_11.out.grown g2 (by intro e; injection e with e; have := HG; omega))
      refine hK.out _ _ (fun _ => P_12.out.x.cell 0) ?_
      clear hK Kc s2 g2 P_11
      try simp only [List.getElem_toArray, List.getElem_cons_zero, List.getElem_cons_succ, Act.put, List.setIfInBounds_toArray, List.set_cons_zero, List.set_cons_succ]
      clear B_11
      have hm := mul_pick v10 v11 v20 v21
      have um1 : IntKind.i64.wrap (v1 * v2) = v1 * v2 := by rw [IntWalk.i64_in _ (by omega)]
      have um2 : IntKind.i64.wrap (1 + v1 * v2) = 1 + v1 * v2 := by rw [IntWalk.i64_in _ (by omega)]
      have hS0 := P_12.out.x.cell 0
      refine wpAnyN_take (i := 5) (v := ?_) rfl (by kernel_rfl) (fun _ _ _ h => h) (by rfl) (fun W hW => ?_) hS0 ?_
      rotate_left
      · have z0 := hW
        go_simp
        try with_reducible rfl
      try simp only [List.getElem_toArray, List.getElem_cons_zero, List.getElem_cons_succ, Act.put, List.setIfInBounds_toArray, List.set_cons_zero, List.set_cons_succ]
      refine wpAnyN_take (i := 6) (v := ?_) rfl (by kernel_rfl) (fun _ _ _ h => h) (by rfl) (fun W hW => ?_) hS0 ?_
      rotate_left
      · have z0 := hW
        go_simp
        try with_reducible rfl
      try simp only [List.getElem_toArray, List.getElem_cons_zero, List.getElem_cons_succ, Act.put, List.setIfInBounds_toArray, List.set_cons_zero, List.set_cons_succ]
      clear hS0
      clear um1 um2
      generalize v1 * v2 = t at *
      refine wpAnyN_next (i := 7) rfl (by kernel_rfl) (fun Kc hK => ?_)
      go_simp
      go_wp2_with (go_at_call 84; refine (powerG_any A n c rs (1 + t) _ hn0 hn1 (Rd.of_own (fun x _ => fac_len x) HLn.out P_12.out.q) HOk.out.wf HOk.out.gok (by omega) (by omega)).mono ?_; rintro e x13 hpost; obtain ⟨A2, n2, c2, k, rfl, hbl, HPk⟩ := hpost.cut)
      have P_13 := Lib.hid (P_12.out.next hbl)
      have HP := Lib.hid (fun h => (HPk h).mono P_12.out.e.size)
      have B_13 := Lib.hid (B_12.out.next hbl)
      refine hK.out _ _ (fun _ => P_13.out.x.cell 0) ?_
      clear hK Kc hpost hbl HPk P_12
      try simp only [List.getElem_toArray, List.getElem_cons_zero, List.getElem_cons_succ, Act.put, List.setIfInBounds_toArray, List.set_cons_zero, List.set_cons_succ]
      clear B_12
      have hS0 := P_13.out.x.cell 0
      refine wpAnyN_take (i := 8) (v := ?_) rfl (by kernel_rfl) (fun _ _ _ h => h) (by rfl) (fun W hW => ?_) hS0 ?_
      rotate_left
      · have z0 := hW
        go_simp
        try with_reducible rfl
      try simp only [List.getElem_toArray, List.getElem_cons_zero, List.getElem_cons_succ, Act.put, List.setIfInBounds_toArray, List.set_cons_zero, List.set_cons_succ]
      refine wpAnyN_take (i := 9) (v := ?_) rfl (by kernel_rfl) (fun _ _ _ h => h) (by rfl) (fun W hW => ?_) hS0 ?_
      rotate_left
      · have z0 := hW
        go_simp
        try with_reducible rfl
      try simp only [List.getElem_toArray, List.getElem_cons_zero, List.getElem_cons_succ, Act.put, List.setIfInBounds_toArray, List.set_cons_zero, List.set_cons_succ]
      refine wpAnyN_take (i := 10) (v := ?_) rfl (by kernel_rfl) (fun _ _ _ h => h) (by rfl) (fun W hW => ?_) hS0 ?_
      rotate_left
      · have z0 := hW
        go_simp
        try with_reducible rfl
      try simp only [List.getElem_toArray, List.getElem_cons_zero, List.getElem_cons_succ, Act.put, List.setIfInBounds_toArray, List.set_cons_zero, List.set_cons_succ]
      clear hS0
      have BZ0 := B_13
      refine wpAnyN_next (i := 12) rfl (by kernel_rfl) (fun Kc hK => ?_)
      have b9c := B_13.out.cell 0
      have b9f := B_13.out.frozen
      have b9l := B_13.out.lt
      go_simp
      have PZ := Lib.hid (P_13.out.far (.slice A2 n2 c2) B_13.out ha4)
      have BZ := Lib.hid (B_13.out.set_ 0 (.slice A2 n2 c2))
      have OZ := Lib.hid (fun h => (HP.out h).keep BZ0.out (.slice A2 n2 c2))
      refine hK.out _ _ (fun _ => PZ.out.x.cell 0) ?_
      clear hK Kc b9c b9f b9l
      try simp only [List.getElem_toArray, List.getElem_cons_zero, List.getElem_cons_succ, Act.put, List.setIfInBounds_toArray, List.set_cons_zero, List.set_cons_succ]
      refine wpAnyN_next (i := 13) rfl (by kernel_rfl) (fun Kc hK => ?_)
      go_simp
      refine hK.out _ _ (fun _ => PZ.out.x.cell 0) ?_
      clear hK Kc
      refine wpAnyN_done (by kernel_rfl) ?_ _
      go_wp2_with fail
      go_meet
      exact ⟨a4, A2, n2, c2, k, rfl, rfl, PZ, BZ, OZ, Lib.hid (by omega)⟩
  case rest =>
    obtain ⟨a4, A2, n2, c2, k, rfl, rfl, P2, B2, O2, hX4⟩ := hcut
    clear P
    have x0 := P2.out.x.cell 0
    have xl := P2.out.x.lt
    have y0 := B2.out.cell 0
    have yl := B2.out.lt
    have r0 := P2.out.r.cell 0
    have rf := P2.out.r.frozen
    have rl := P2.out.r.lt
    by_cases hk0 : k = 0
    · subst hk0
      have G2 := O2.out rfl
      go_wp2_with fail
      refine (one_any g (K1 + 2 + 2) 2 wc P2.out.s (by omega) (by omega)).mono ?_
      rintro e w3 ⟨b, rfl, s3, g3⟩
      have P3 := Lib.hid (P2.out.pick s3 g3)
      have B3 := Lib.hid (B2.out.grown g3 (by intro e; injection e with e; have := hX4.out; omega))
      have G3 := Lib.hid (G2.draw g3 HG)
      clear P2 B2 G2 O2 s3 g3 x0 xl y0 yl r0 rf rl
      have x0 := P3.out.x.cell 0
      have xl := P3.out.x.lt
      have y0 := B3.out.cell 0
      have yl := B3.out.lt
      have r0 := P3.out.r.cell 0
      have rf := P3.out.r.frozen
      have rl := P3.out.r.lt
      cases b
      · go_wp2_with fail
        have x8 := HuW.x8 P3.out (.slice A2 n2 c2)
        exact bodyPost_ret (v := .agg #[.slice A2 n2 c2]) (by simp [results, Tryz.results52, go_sem, x8]) rfl (HuW.tell P3.out G3.out (by omega))
      · obtain ⟨A2', c2', rs2, hv, Gi⟩ := G3.out
        injection hv with ha hb hc
        subst ha; subst hb; subst hc
        go_upto_region 6 with fail
        go_cut [4, 5] from 6 (fun p_ k_ wx => ∃ (A2 : Option Addr) (n2 c2 : Nat) (k : Int), p_ = .pointer (some ⟨a4, 0, none⟩) ∧ k_ = .int .i64 k ∧ Hid (HuW w wx g (K1 + 2 + 2 + 2 + 1000) w2.heap.size A n c rs) ∧ Hid (Blk wx a4 31 #[.slice A2 n2 c2]) ∧ Hid (k = 0 → GrAt wx w.heap.size (.slice A2 n2 c2)))
        case first =>
          refine wp_region_N (fun W => W.cell? ⟨a4, 0, none⟩ = some (.slice A2 rs2.length c2)) [6, 7, 8] (by kernel_rfl) ?_
          have P_0 := Lib.hid P3.out.drew
          have B_0 := Lib.hid B3.out.drew
          have Gi_0 := Lib.hid (Gi.next (Below.refl _ _).drew)
          have hS0 := B_0.out.cell 0
          refine wpAnyN_take (i := 0) (v := ?_) rfl (by kernel_rfl) (fun _ _ _ h => h) (by rfl) (fun W hW => ?_) hS0 ?_
          rotate_left
          · have z0 := hW
            go_simp
            try with_reducible rfl
          try simp only [List.getElem_toArray, List.getElem_cons_zero, List.getElem_cons_succ, Act.put, List.setIfInBounds_toArray, List.set_cons_zero, List.set_cons_succ]
          refine wpAnyN_take (i := 1) (v := ?_) rfl (by kernel_rfl) (fun _ _ _ h => h) (by rfl) (fun W hW => ?_) hS0 ?_
          rotate_left
          · have z0 := hW
            go_simp
            try with_reducible rfl
          try simp only [List.getElem_toArray, List.getElem_cons_zero, List.getElem_cons_succ, Act.put, List.setIfInBounds_toArray, List.set_cons_zero, List.set_cons_succ]
          clear hS0 P3 B3 Gi x0 xl y0 yl r0 rf rl
          generalize w3.drew = wd at *
          refine wpAnyN_next (i := 2) rfl (by kernel_rfl) (fun Kc hK => ?_)
          go_simp
          go_wp2_with (go_at_call 20; refine (l02Drawn_any g (K1 + 2 + 2 + 2) 100 wd P_0.out.s (by omega) (by omega) (by omega)).mono ?_; rintro e x1 ⟨A3, c3, rs3, rfl, ok3, own3, s3, g3⟩)
          have P_1 := Lib.hid (P_0.out.pick s3 g3)
          have B_1 := Lib.hid (B_0.out.grown g3 (by intro e; injection e with e; have := hX4.out; omega))
          have Gi_1 := Lib.hid (show GrIn x1 w.heap.size A2 c2 rs2 from ⟨Gi_0.out.wf, Gi_0.out.pos, Gi_0.out.ok, own_kept Gi_0.out.own g3 HG⟩)
          have O3 := Lib.hid own3
          have Ok3 := Lib.hid ok3
          refine hK.out _ _ (fun _ => B_1.out.cell 0) ?_
          clear hK Kc s3 g3 own3 ok3 P_0 B_0 Gi_0
          try simp only [List.getElem_toArray, List.getElem_cons_zero, List.getElem_cons_succ, Act.put, List.setIfInBounds_toArray, List.set_cons_zero, List.set_cons_succ]
          have hp3 := Ok3.out.pos
          have hp2 := Gi_1.out.pos
          refine wpAnyN_next (i := 3) rfl (by kernel_rfl) (fun Kc hK => ?_)
          go_simp
          go_wp2_with (go_at_call 85; refine (joinG_any A2 rs2.length c2 rs2 A3 rs3.length c3 rs3 x1 hp2 hp3 (Rd.of_own (fun x _ => fac_len x) rfl Gi_1.out.own) (Rd.of_own (fun x _ => fac_len x) rfl O3.out) Gi_1.out.wf Ok3.out.wf Gi_1.out.ok Ok3.out.gok).mono ?_; rintro e x2 hpost; obtain ⟨A9, n9, c9, k9, rfl, hbl, HPk⟩ := join_cut hpost (join_wf Gi_1.out.wf Ok3.out.wf) (join_pos hp2))
          have P_2 := Lib.hid (P_1.out.next hbl)
          have B_2 := Lib.hid (B_1.out.next hbl)
          have H9 := Lib.hid (fun h => (HPk h).mono P_1.out.e.size)
          refine hK.out _ _ (fun _ => B_2.out.cell 0) ?_
          clear hK Kc hpost hbl HPk P_1 B_1
          try simp only [List.getElem_toArray, List.getElem_cons_zero, List.getElem_cons_succ, Act.put, List.setIfInBounds_toArray, List.set_cons_zero, List.set_cons_succ]
          have hS0 := B_2.out.cell 0
          refine wpAnyN_take (i := 4) (v := ?_) rfl (by kernel_rfl) (fun _ _ _ h => h) (by rfl) (fun W hW => ?_) hS0 ?_
          rotate_left
          · have z0 := hW
            go_simp
            try with_reducible rfl
          try simp only [List.getElem_toArray, List.getElem_cons_zero, List.getElem_cons_succ, Act.put, List.setIfInBounds_toArray, List.set_cons_zero, List.set_cons_succ]
          refine wpAnyN_2 (i := 5) (j := 6) rfl rfl (by kernel_rfl) ?_ ?_
          · intro Kc hK
            go_simp
            refine hK.out _ _ (fun _ => hS0) ?_
            clear hK Kc
            try simp only [List.getElem_toArray, List.getElem_cons_zero, List.getElem_cons_succ, Act.put, List.setIfInBounds_toArray, List.set_cons_zero, List.set_cons_succ]
            refine wpAnyN_2 (i := 6) (j := 7) rfl rfl (by kernel_rfl) ?_ ?_
            · intro Kc hK
              go_simp
              refine hK.out _ _ (fun h => absurd h (by decide)) ?_
              clear hK Kc
              try simp only [List.getElem_toArray, List.getElem_cons_zero, List.getElem_cons_succ, Act.put, List.setIfInBounds_toArray, List.set_cons_zero, List.set_cons_succ]
              refine wpAnyN_next (i := 7) rfl (by kernel_rfl) (fun Kc hK => ?_)
              have b9c := B_2.out.cell 0
              have b9f := B_2.out.frozen
              have b9l := B_2.out.lt
              go_simp
              have PZ := Lib.hid (P_2.out.far (.slice A9 n9 c9) B_2.out hX4.out)
              have BZ := Lib.hid (B_2.out.set_ 0 (.slice A9 n9 c9))
              have HZ := Lib.hid (fun h => (H9.out h).keep B_2.out (.slice A9 n9 c9))
              refine hK.out _ _ (fun h => absurd h (by decide)) ?_
              clear hK Kc b9c b9f b9l hS0
              try simp only [List.getElem_toArray, List.getElem_cons_zero, List.getElem_cons_succ, Act.put, List.setIfInBounds_toArray, List.set_cons_zero, List.set_cons_succ]
              refine wpAnyN_next (i := 8) rfl (by kernel_rfl) (fun Kc hK => ?_)
              go_simp
              refine hK.out _ _ (fun h => absurd h (by decide)) ?_
              clear hK Kc
              refine wpAnyN_done (by kernel_rfl) ?_ _
              go_wp2_with fail
              go_meet
              exact ⟨A9, n9, c9, k9, rfl, rfl, PZ, BZ, HZ⟩
            · intro Kc hK
              have b9c := B_2.out.cell 0
              have b9f := B_2.out.frozen
              have b9l := B_2.out.lt
              go_simp
              have PZ := Lib.hid (P_2.out.far (.slice A9 n9 c9) B_2.out hX4.out)
              have BZ := Lib.hid (B_2.out.set_ 0 (.slice A9 n9 c9))
              have HZ := Lib.hid (fun h => (H9.out h).keep B_2.out (.slice A9 n9 c9))
              refine hK.out _ _ (fun h => absurd h (by decide)) ?_
              clear hK Kc b9c b9f b9l hS0
              try simp only [List.getElem_toArray, List.getElem_cons_zero, List.getElem_cons_succ, Act.put, List.setIfInBounds_toArray, List.set_cons_zero, List.set_cons_succ]
              refine wpAnyN_next (i := 6) rfl (by kernel_rfl) (fun Kc hK => ?_)
              go_simp
              refine hK.out _ _ (fun h => absurd h (by decide)) ?_
              clear hK Kc
              try simp only [List.getElem_toArray, List.getElem_cons_zero, List.getElem_cons_succ, Act.put, List.setIfInBounds_toArray, List.set_cons_zero, List.set_cons_succ]
              refine wpAnyN_next (i := 8) rfl (by kernel_rfl) (fun Kc hK => ?_)
              go_simp
              refine hK.out _ _ (fun h => absurd h (by decide)) ?_
              clear hK Kc
              refine wpAnyN_done (by kernel_rfl) ?_ _
              go_wp2_with fail
              go_meet
              exact ⟨A9, n9, c9, k9, rfl, rfl, PZ, BZ, HZ⟩
          · intro Kc hK
            go_simp
            refine hK.out _ _ (fun h => absurd h (by decide)) ?_
            clear hK Kc
            try simp only [List.getElem_toArray, List.getElem_cons_zero, List.getElem_cons_succ, Act.put, List.setIfInBounds_toArray, List.set_cons_zero, List.set_cons_succ]
            refine wpAnyN_next (i := 5) rfl (by kernel_rfl) (fun Kc hK => ?_)
            go_simp
            refine hK.out _ _ (fun _ => hS0) ?_
            clear hK Kc
            try simp only [List.getElem_toArray, List.getElem_cons_zero, List.getElem_cons_succ, Act.put, List.setIfInBounds_toArray, List.set_cons_zero, List.set_cons_succ]
            refine wpAnyN_next (i := 7) rfl (by kernel_rfl) (fun Kc hK => ?_)
            have b9c := B_2.out.cell 0
            have b9f := B_2.out.frozen
            have b9l := B_2.out.lt
            go_simp
            have PZ := Lib.hid (P_2.out.far (.slice A9 n9 c9) B_2.out hX4.out)
            have BZ := Lib.hid (B_2.out.set_ 0 (.slice A9 n9 c9))
            have HZ := Lib.hid (fun h => (H9.out h).keep B_2.out (.slice A9 n9 c9))
            refine hK.out _ _ (fun h => absurd h (by decide)) ?_
            clear hK Kc b9c b9f b9l hS0
            try simp only [List.getElem_toArray, List.getElem_cons_zero, List.getElem_cons_succ, Act.put, List.setIfInBounds_toArray, List.set_cons_zero, List.set_cons_succ]
            refine wpAnyN_next (i := 8) rfl (by kernel_rfl) (fun Kc hK => ?_)
            go_simp
            refine hK.out _ _ (fun h => absurd h (by decide)) ?_
            clear hK Kc
            refine wpAnyN_done (by kernel_rfl) ?_ _
            go_wp2_with fail
            go_meet
            exact ⟨A9, n9, c9, k9, rfl, rfl, PZ, BZ, HZ⟩
        case rest =>
          obtain ⟨A9, n9, c9, k, rfl, rfl, P4, B4, G4⟩ := hcut
          clear P3 B3 G3 Gi x0 xl y0 yl r0 rf rl
          have x0 := P4.out.x.cell 0
          have xl := P4.out.x.lt
          have y0 := B4.out.cell 0
          have yl := B4.out.lt
          have r0 := P4.out.r.cell 0
          have rf := P4.out.r.frozen
          have rl := P4.out.r.lt
          by_cases hk0 : k = 0
          · subst hk0
            have G5 := G4.out rfl
            go_wp2_with fail
            have x8 := HuW.x8 P4.out (.slice A9 n9 c9)
            exact bodyPost_ret (v := .agg #[.slice A9 n9 c9]) (by simp [results, Tryz.results52, go_sem, x8]) rfl (HuW.tell P4.out G5 (by omega))
          · have hk1 : (k == 0) = false := by simpa using hk0
            go_wp2_with fail
            have x8 := HuW.x8 P4.out (.slice A n c)
            exact bodyPost_ret (v := .agg #[.slice A n c]) (by simp [results, Tryz.results52, go_sem, x8]) rfl (HuW.tell P4.out ⟨A, c, rs, by rw [HLn.out], HOk.out.wf, by rw [HLn.out]; exact hn0, HOk.out.gok, by rw [HLn.out]; exact P4.out.q⟩ (by omega))
    · have hk1 : (k == 0) = false := by simpa using hk0
      go_wp2_with fail
      have x8 := HuW.x8 P2.out (.slice A n c)
      exact bodyPost_ret (v := .agg #[.slice A n c]) (by simp [results, Tryz.results52, go_sem, x8]) rfl (HuW.tell P2.out ⟨A, c, rs, by rw [HLn.out], HOk.out.wf, by rw [HLn.out]; exact hn0, HOk.out.gok, by rw [HLn.out]; exact P2.out.q⟩ (by omega))
end Go.Proofs.YtmdmgndhapdmgaaGreat


/-
  What laws draw: a long word's grammar, a number, a letter.
-/
namespace Go.Proofs.YtmdmgndhapdmgaaGreat
open Go.RowKit

/-- a grammar that is drawn, whose word has at most a quarter of the most letters -/
def HgNew (w : World) (e : Ending) (w' : World) : Prop :=
  ∃ A c rs, e = .returned (.agg #[.slice A rs.length c]) ∧ GrIn w' w.heap.size A c rs ∧ (wdN rs).length ≤ 250000000000000 ∧ Below w.heap.size w w'
theorem big_lens {rs : List Fac} (h : (gOk rs).isSome = true) : ∃ ls, gLens rs [] = some ls ∧ rs.length ≤ 400 ∧ ls.length = rs.length := by
  obtain ⟨ls, hls⟩ := Option.isSome_iff_exists.1 h
  exact ⟨ls, (gOk_lens hls).1, (gOk_lens hls).2.1, (gOk_lens hls).2.2⟩
set_option maxHeartbeats 2000000 in
set_option maxRecDepth 100000 in
theorem p6Huge_any (A : Option Addr) (n c : Nat) (bs : List UInt8) (w : World) (hn : n ≤ 4096) (hr : Rd w w.heap.size A n 1 byteE bs) :
    Calls Tryz.prog 16 #[.slice A n c] w (HgNew w) := by
  have HR := Lib.hid hr; clear hr
  go_enter Tryz.func16, Tryz.ntmps16
  go_wp2_with fail
  refine namedC fun w0 H0 => ?_
  have hb0 : Below w.heap.size w w0 := by rw [H0.out]; (repeat first | exact Below.refl _ _ | assumption | refine Below.drew ?_ | refine Below.alloc ?_ (by first | exact Nat.le_refl _ | (simp; done) | omega | (simp; omega)) _ | refine Below.setCell ?_ (by first | exact Nat.le_refl _ | (simp; done) | omega | (simp; omega)) _)
  have B0 := Lib.hid (show Blk w0 w.heap.size 31 #[.slice none 0 0] by rw [H0.out]; exact Blk.new _ _ _)
  clear H0
  refine (l00From_any A n c bs w0 hn (HR.out.next hb0)).mono ?_
  rintro e w1 ⟨g, rfl, hg, s1, hb1⟩
  have b1 := Lib.hid (hb0.trans (hb1.mono hb0.size))
  have B1 := Lib.hid (B0.out.next hb1)
  have hg2 : w.heap.size < g := by have := B0.out.lt; omega
  have S1 := Lib.hid s1
  clear s1 hb1 hb0 B0
  go_wp2_with fail
  go_loopw [4] (fun i_ w' => ∃ i : Nat, i_ = .int .i64 i ∧ i ≤ 3 ∧ Hid (Src w' g (3000 * i)) ∧ Hid (Below w.heap.size w w') ∧ Hid (Blk w' w.heap.size 31 #[.slice none 0 0])) (fun i_ _ => 3 - (intOf i_).toNat)
  case atStart => exact ⟨0, rfl, by omega, S1, b1, B1⟩
  case round =>
    obtain ⟨i, rfl, hi, S2, b2, B2⟩ := hrel
    clear S1 b1 B1
    by_cases hlt : i < 3
    · have i1 : (i : Int) < 3 := by omega
      go_wp2_with fail
      refine (l02Huge_any g (3000 * i) wr S2.out (by omega)).mono ?_
      rintro e w3 ⟨A3, c3, rs, rfl, gi, s3, g3⟩
      have S3 := Lib.hid (s3.next ((Below.refl _ _).alloc (Nat.le_refl _) (.cells #[.slice A3 rs.length c3] 31)))
      have b3 := Lib.hid ((b2.out.grown g3 b2.out.size (fun k e => by injection e; omega)).alloc (Nat.le_trans b2.out.size g3.size) (.cells #[.slice A3 rs.length c3] 31))
      have B3 := Lib.hid ((B2.out.grown g3 (by intro e; injection e with e; omega)).alloc (.cells #[.slice A3 rs.length c3] 31))
      have G3 := Lib.hid ((gi.mono b2.out.size).next ((Below.refl _ _).alloc (Nat.le_refl _) (.cells #[.slice A3 rs.length c3] 31)))
      have X3 := Lib.hid (Blk.new w3 31 #[.slice A3 rs.length c3])
      have hxx : w.heap.size < w3.heap.size := by have := g3.size; have := B2.out.lt; omega
      clear S2 b2 B2 s3 g3 gi
      generalize hw4 : w3.alloc (.cells #[.slice A3 rs.length c3] 31) = w4 at *
      obtain ⟨ls, hls, hlen, hll⟩ := big_lens G3.out.ok
      have HLS := Lib.hid hls
      have hlast := last_word hls
      have Z3 := Lib.hid (wf_sz G3.out.wf)
      have R3 := Lib.hid (Rd.of_own (fun x _ => fac_len x) rfl G3.out.own)
      have OK3 := Lib.hid G3.out.ok
      obtain ⟨v, hv⟩ : ∃ v, lastI ls = v := ⟨_, rfl⟩
      have Hv := Lib.hid hv
      clear hls
      go_wp2_with fail
      refine (l02Ok_any w3.heap.size A3 rs.length c3 rs w4 X3.out.lt (X3.out.cell 0) (by omega) R3.out Z3.out true OK3.out).mono ?_
      rintro e w5 ⟨rfl, hb5⟩
      have S5 := Lib.hid (S3.out.next hb5)
      have b5 := Lib.hid (b3.out.trans (hb5.mono b3.out.size))
      have B5 := Lib.hid (B3.out.next hb5)
      have G5 := Lib.hid (G3.out.next hb5)
      have X5 := Lib.hid (X3.out.next hb5)
      have R5 := Lib.hid (Rd.of_own (fun x _ => fac_len x) rfl G5.out.own)
      clear S3 b3 B3 G3 X3 hb5 hw4 R3
      go_wp2_with fail
      refine (l02Length_any w3.heap.size A3 rs.length c3 rs w5 X5.out.lt (X5.out.cell 0) (by omega) R5.out Z3.out ls HLS.out).mono ?_
      rintro e w6 ⟨rfl, hb6⟩
      have S6 := Lib.hid (S5.out.next hb6)
      have b6 := Lib.hid (b5.out.trans (hb6.mono b5.out.size))
      have B6 := Lib.hid (B5.out.next hb6)
      have G6 := Lib.hid (G5.out.next hb6)
      have X6 := Lib.hid (X5.out.next hb6)
      clear S5 b5 B5 G5 X5 hb6 R5
      rw [Hv.out]
      by_cases hle : v ≤ 250000000000000
      · have hle1 := decide_eq_true hle
        have x0 := X6.out.cell 0
        have xl := X6.out.lt
        have r0 := B6.out.cell 0
        have rf := B6.out.frozen
        have rl := B6.out.lt
        have x8 : (w6.setCell ⟨w.heap.size, 0, none⟩ (.slice A3 rs.length c3)).cell? ⟨w.heap.size, 0, none⟩ = some (.slice A3 rs.length c3) := by rw [(B6.out.set_ 0 (.slice A3 rs.length c3)).cell 0]; rfl
        have b8 := Lib.hid (b6.out.setCell (p := ⟨w.heap.size, 0, none⟩) (Nat.le_refl _) (.slice A3 rs.length c3))
        have O8 := Lib.hid (own_kept' (i := 0) G6.out.own B6.out (by decide) (.slice A3 rs.length c3))
        go_wp2_with fail
        refine bodyPost_ret (v := .agg #[.slice A3 rs.length c3]) (by simp [results, Tryz.results16, go_sem, x8]) rfl ?_
        exact ⟨A3, c3, rs, rfl, ⟨G6.out.wf, G6.out.pos, G6.out.ok, O8.out⟩, by omega, b8.out⟩
      · have hle1 := decide_eq_false hle
        go_wp2_with fail
        go_roundw
        case rel => exact ⟨i + 1, by go_num, by omega, Lib.hid (S6.out.mono (by omega)), b6, B6⟩
        case measure => simp [intOf]; omega
    · have i1 : ¬ ((i : Int) < 3) := by omega
      go_wp2_with fail
      refine (l02Drawn_any g (3000 * i) 8 wr S2.out (by omega) (by omega) (by omega)).mono ?_
      rintro e w3 ⟨A3, c3, rs, rfl, ok, own3, s3, g3⟩
      have B3 := Lib.hid (B2.out.grown g3 (by intro e; injection e with e; omega))
      have b3 := Lib.hid (b2.out.grown g3 b2.out.size (fun k e => by injection e; omega))
      have O3 := Lib.hid (own_kept' (i := 0) (own3.mono b2.out.size) B3.out (by decide) (.slice A3 rs.length c3))
      have Ok := Lib.hid ok
      have r0 := B3.out.cell 0
      have rf := B3.out.frozen
      have rl := B3.out.lt
      have x8 : (w3.setCell ⟨w.heap.size, 0, none⟩ (.slice A3 rs.length c3)).cell? ⟨w.heap.size, 0, none⟩ = some (.slice A3 rs.length c3) := by rw [(B3.out.set_ 0 (.slice A3 rs.length c3)).cell 0]; rfl
      have b8 := Lib.hid (b3.out.setCell (p := ⟨w.heap.size, 0, none⟩) (Nat.le_refl _) (.slice A3 rs.length c3))
      clear own3 s3 g3 ok
      go_wp2_with fail
      refine bodyPost_ret (v := .agg #[.slice A3 rs.length c3]) (by simp [results, Tryz.results16, go_sem, x8]) rfl ?_
      exact ⟨A3, c3, rs, rfl, ⟨Ok.out.wf, Ok.out.pos, Ok.out.gok, O3.out⟩, by have := Ok.out.len; omega, b8.out⟩
end Go.Proofs.YtmdmgndhapdmgaaGreat


/-
  strings.Builder: a fresh one into which one text is written.
-/
namespace Go.Proofs.YtmdmgndhapdmgaaGreat
open Go.RowKit

theorem info_u8c : (Tryz.prog.info? 5).map (fun i => (i.zero, i.size, i.bytes)) = some (some (.int .u8 0), 1, 1) := by kernel_rfl

theorem bld_size : (Tryz.prog.info? 55).map (·.size) = some 2 := by kernel_rfl
theorem bld_lies : liesAt Tryz.prog Tryz.prog.depth 55 (2 / Tryz.prog.cellsOf 55) 0 55 1 = true := by kernel_rfl
set_option maxHeartbeats 1000000 in
set_option maxRecDepth 100000 in
theorem bCopy_any (b : Nat) (v : Value) (w : World) (hB : Blk w b 55 #[.pointer none, v]) :
    Calls Tryz.prog 63 #[.pointer (some ⟨b, 0, none⟩)] w fun e w' => e = .returned (.tuple #[]) ∧ w' = w.setCell ⟨b, 0, none⟩ (.pointer (some ⟨b, 0, none⟩)) := by
  obtain ⟨j, hj, hjs⟩ := Option.map_eq_some_iff.1 bld_size
  have h0 : w.cell? ⟨b, 0, none⟩ = some (.pointer none) := hB.cell 0
  have hsh : w.shape? b = some (55, 2) := by unfold Blk at hB; simp [World.shape?, hB]
  have hfz := hB.frozen 0
  have hl := hB.lt
  go_enter Tryz.func63, Tryz.ntmps63
  go_wp2
  rw [Lib.run_to_unsafe w ⟨b, 0, none⟩ Tryz.underlying53 Tryz.underlying136 hj (by rw [hjs]; decide) hsh (Nat.zero_lt_succ 1)]
  simp only [Result.andThen]
  rw [Oper.upon_value]
  go_wp2
  rw [run_callFunc_extern Tryz.func88 (by kernel_rfl) (by kernel_rfl) (by kernel_rfl) (e := Extern.AbiNoEscape.same) (by kernel_rfl)]
  rw [Lib.run_noEscape]
  simp only [Result.andThen]
  rw [Oper.upon_value]
  go_wp2
  rw [Lib.run_from_unsafe w ⟨b, 0, none⟩ Tryz.underlying136 Tryz.underlying53 hj hsh bld_lies]
  simp only [Result.andThen]
  rw [Oper.upon_value]
  go_wp2
  go_end0
  exact ⟨rfl, rfl⟩
theorem bld_next {T e : TypeId} {B b : Nat} {p : Value} {bs : List Value} {w w' : World} (h : Lib.BuilderAt T e B b p bs w) (hb : Below w.heap.size w w') : Lib.BuilderAt T e B b p bs w' := by
  have hl := h.lt
  obtain ⟨hB, v, hbk, hown, hne⟩ := h
  exact ⟨hB, v, (hb.block b hl).trans hbk, own_next hown hb, hne⟩
end Go.Proofs.YtmdmgndhapdmgaaGreat


/-
  strings.Builder: texts written one behind the other.
-/
namespace Go.Proofs.YtmdmgndhapdmgaaGreat
open Go.RowKit

set_option maxHeartbeats 1000000 in
set_option maxRecDepth 100000 in
theorem bCopy2_any (b : Nat) (v : Value) (w : World) (hB : Blk w b 55 #[.pointer (some ⟨b, 0, none⟩), v]) :
    Calls Tryz.prog 63 #[.pointer (some ⟨b, 0, none⟩)] w fun e w' => e = .returned (.tuple #[]) ∧ w' = w := by
  obtain ⟨j, hj, hjs⟩ := Option.map_eq_some_iff.1 bld_size
  have h0 : w.cell? ⟨b, 0, none⟩ = some (.pointer (some ⟨b, 0, none⟩)) := hB.cell 0
  have hl := hB.lt
  go_enter Tryz.func63, Tryz.ntmps63
  go_wp2
  rw [Lib.run_neq_ptr_same w _ Tryz.underlying53 hj]
  simp only [Result.andThen]
  rw [Oper.upon_value]
  go_wp2
  go_end0
  exact ⟨rfl, rfl⟩
theorem bCopy3_any (B b : Nat) (bs : List Value) (w : World) (h : Lib.IsBuilder 55 5 B b bs w) :
    Calls Tryz.prog 63 #[.pointer (some ⟨b, 0, none⟩)] w fun e w' => e = .returned (.tuple #[]) ∧ Below B w w' ∧ Lib.BuilderAt 55 5 B b (.pointer (some ⟨b, 0, none⟩)) bs w' := by
  rcases h with h | h
  · obtain ⟨hB, v, hbk, _⟩ := id h
    refine (bCopy_any b v w hbk).mono ?_
    rintro e w' ⟨he, rfl⟩
    exact ⟨he, (Below.refl _ _).setCell (by show B ≤ b; exact hB) _, h.used _⟩
  · obtain ⟨hB, v, hbk, _⟩ := id h
    refine (bCopy2_any b v w hbk).mono ?_
    rintro e w' ⟨he, rfl⟩
    exact ⟨he, Below.refl _ _, h⟩
theorem isb_next {T e : TypeId} {B b : Nat} {bs : List Value} {w w' : World} (h : Lib.IsBuilder T e B b bs w) (hb : Below w.heap.size w w') : Lib.IsBuilder T e B b bs w' := by
  rcases h with h | h
  · exact .inl (bld_next h hb)
  · exact .inr (bld_next h hb)
set_option maxHeartbeats 2000000 in
set_option maxRecDepth 100000 in
theorem bW_any (B b : Nat) (bs : List Value) (s : ByteArray) (w : World) (h : Lib.IsBuilder 55 5 B b bs w) (hs : bs.length + s.size ≤ 1048576) :
    Calls Tryz.prog 25 #[.pointer (some ⟨b, 0, none⟩), .string s] w fun e w' => e = .returned (.tuple #[.int .i64 s.size, .nilIface]) ∧ Below B w w' ∧ Lib.IsBuilder 55 5 B b (bs ++ Lib.strCells s) w' := by
  obtain ⟨i0, hi, hz0, hz1, hz2⟩ := info_parts info_u8c
  have HC := Lib.hid (bCopy3_any B b bs w h)
  clear h
  go_enter Tryz.func25, Tryz.ntmps25
  go_wp2_with fail
  refine HC.out.mono ?_
  rintro e w1 ⟨rfl, hb1, h1⟩
  clear HC
  have BB := Lib.hid hb1
  obtain ⟨hB, v, hbk, hown, hne⟩ := h1
  have B1 := Lib.hid (show Blk w1 b 55 #[.pointer (some ⟨b, 0, none⟩), v] from hbk)
  have hBl := Lib.hid (show B ≤ w1.heap.size by have := B1.out.lt; omega)
  have e0 : w1.cell? ⟨b, 0, none⟩ = some (.pointer (some ⟨b, 0, none⟩)) := B1.out.cell 0
  have e1 : w1.cell? ⟨b, 1, none⟩ = some v := B1.out.cell 1
  have hlt := B1.out.lt
  have OW := Lib.hid hown
  have NE := Lib.hid hne
  have hv1 : v.oneCell' = true := by
    rcases hown.2 with ⟨hv, h0⟩ | ⟨g, cap, cur, hv, _⟩
    · rw [hv]; rfl
    · rw [hv]; rfl
  clear hbk hown hne hb1
  go_wp2_with
    (at_builtin
     refine Go.Lib.wpList_append_own_string _ rfl _ _ 22 9 rfl B 5 i0 Tryz.underlying22 Tryz.underlying9 hi hz0 hz1 hz2 v bs.length bs rfl OW.out s rfl (by unfold maxLen; omega) (by omega) hBl.out ?_
     intro v9 w9 own9 hg9 hat9
     have O9 := Lib.hid own9
     have G9 := Lib.hid hg9
     have b9 := Lib.hid (B1.out.grown hg9 (by intro e; exact NE.out e.symm))
     have hv : ∃ A c, v9 = .slice A (bs.length + s.size) c := by
       rcases own9.2 with ⟨hv, h0⟩ | ⟨g, cap, cur, hv, _⟩
       · exact ⟨none, 0, by rw [hv, h0]⟩
       · exact ⟨_, _, hv⟩
     obtain ⟨A9, c9, rfl⟩ := hv
     have d0 : w9.cell? ⟨b, 0, none⟩ = some (.pointer (some ⟨b, 0, none⟩)) := b9.out.cell 0
     have d1 : w9.cell? ⟨b, 1, none⟩ = some v := b9.out.cell 1
     have f1 : w9.frozen? ⟨b, 1, none⟩ = false := b9.out.frozen 1
     have l9 := b9.out.lt
     clear own9 hg9 hat9)
  go_ret2
  refine ⟨rfl, (BB.out.trans ((Below.refl _ _).grown G9.out hBl.out (own_ge OW.out))).setCell (by show B ≤ b; exact hB) _, .inr ?_⟩
  exact Lib.BuilderAt.put (T := 55) (e := 5) hB b9.out (bs' := bs ++ Lib.strCells s) (by simpa [Lib.strCells_length] using O9.out) (by decide)
end Go.Proofs.YtmdmgndhapdmgaaGreat


/-
  The code of a text, in the program.
-/
namespace Go.Proofs.YtmdmgndhapdmgaaGreat
open Go.RowKit

theorem strC_bytes (t : ByteArray) : Lib.strCells t = Lib.byteCells t.data.toList := rfl
theorem byteC_app (a b : List UInt8) : Lib.byteCells (a ++ b) = Lib.byteCells a ++ Lib.byteCells b := by unfold Lib.byteCells; rw [List.map_append]
theorem byteC_len (a : List UInt8) : (Lib.byteCells a).length = a.length := by unfold Lib.byteCells; rw [List.length_map]
set_option maxHeartbeats 2000000 in
set_option maxRecDepth 100000 in
theorem codeWI_any (S q : Int) (N O : Option Addr) (m cn mo_ co : Nat) (nh oh : List RowH) (nx : List (List Int)) (ot : List (List ByteArray)) (s : ByteArray) (w : World) (hm : m ≤ 1048576) (hmo : mo_ ≤ 1048576)
    (hx : RdT w w.heap.size N m intE nh nx) (ho : RdT w w.heap.size O mo_ strEM oh ot) (hxz : ∀ r ∈ nx, r.length ≤ 1048576) (hoz : ∀ r ∈ ot, r.length ≤ 1048576 ∧ ∀ t ∈ r, t.size ≤ maxLen) (hs : s.size ≤ maxLen) :
    Calls Tryz.prog 8 #[.agg #[.int .i64 S, .int .i64 q, .slice N m cn, .slice O mo_ co], .string s] w (Ret (.tuple #[.string (cwR S q nx ot s).1, .int .i64 (cwR S q nx ot s).2]) w) := by
  have HN := Lib.hid hx; have HO := Lib.hid ho
  have B0 := Lib.hid (Blk.new w 27 #[.int .i64 S, .int .i64 q, .slice N m cn, .slice O mo_ co])
  have b0 := Lib.hid (show Below w.heap.size w (w.alloc (.cells #[.int .i64 S, .int .i64 q, .slice N m cn, .slice O mo_ co] 27)) from by (repeat first | exact Below.refl _ _ | assumption | refine Below.drew ?_ | refine Below.alloc ?_ (by first | exact Nat.le_refl _ | (simp; done) | omega | (simp; omega)) _ | refine Below.setCell ?_ (by first | exact Nat.le_refl _ | (simp; done) | omega | (simp; omega)) _))
  have VC := Lib.hid (fun W (h : Below w.heap.size w W) => validCoder_any S q N O m cn mo_ co nh oh nx ot W hm hmo (HN.out.next h) (HO.out.next h) hxz hoz)
  have VW := Lib.hid (fun b (hb : okW s = b) W => validWord_any s b W hs hb)
  clear hx ho hxz hoz
  have start : ∀ w3, Hid (w3 = w.alloc (.cells #[.int .i64 S, .int .i64 q, .slice N m cn, .slice O mo_ co] 27)) → Below w.heap.size w w3 ∧ Blk w3 w.heap.size 27 #[.int .i64 S, .int .i64 q, .slice N m cn, .slice O mo_ co] := fun w3 H3 => by
    rw [H3.out]; exact ⟨b0.out, B0.out⟩
  have Start := Lib.hid start; clear start B0 b0
  rcases hc : cdB S q nx ot with _ | _
  · have eR : cwR S q nx ot s = (⟨#[]⟩, 1) := by unfold cwR; rw [if_neg (by rw [hc]; simp)]
    have Hc := Lib.hid hc
    rw [eR]
    clear hc eR
    go_enter Tryz.func8, Tryz.ntmps8
    go_upto_region 1 with fail
    refine named fun w3 H3 => ?_
    obtain ⟨b3, B3⟩ := Start.out w3 H3
    obtain ⟨k0, k1, k2, k3⟩ := B3.four
    have kl := B3.lt
    clear H3
    go_wp2_with (go_at_call 14; refine (VC.out _ b3 false Hc.out).mono ?_; rintro e w4 ⟨rfl, hb4⟩)
    exact bodyPost_ret (v := .tuple #[.string ⟨#[]⟩, .int .i64 1]) (by simp [results, Tryz.results8, go_sem]) rfl ⟨rfl, b3.trans (hb4.mono b3.size)⟩
  rcases hw : okW s with _ | _
  · have eR : cwR S q nx ot s = (⟨#[]⟩, 1) := by unfold cwR; rw [if_neg (by rw [hw]; simp)]
    have Hc := Lib.hid hc
    have Hw := Lib.hid hw
    rw [eR]
    clear hc hw eR
    go_enter Tryz.func8, Tryz.ntmps8
    go_upto_region 1 with fail
    refine named fun w3 H3 => ?_
    obtain ⟨b3, B3⟩ := Start.out w3 H3
    obtain ⟨k0, k1, k2, k3⟩ := B3.four
    have kl := B3.lt
    clear H3
    go_wp2_with (first | (go_at_call 14; refine (VC.out _ b3 true Hc.out).mono ?_; rintro e w4 ⟨rfl, hb4⟩) | (go_at_call 24; refine (VW.out false Hw.out _).mono ?_; rintro e w5 ⟨rfl, hb5⟩))
    exact bodyPost_ret (v := .tuple #[.string ⟨#[]⟩, .int .i64 1]) (by simp [results, Tryz.results8, go_sem]) rfl ⟨rfl, (b3.trans (hb4.mono b3.size)).trans (hb5.mono (b3.trans (hb4.mono b3.size)).size)⟩
  have Hc := Lib.hid hc
  have Hw := Lib.hid hw
  obtain ⟨knx, kot, kS1, kS2, kq1, kq2⟩ := cd_ok hc
  obtain ⟨SN, rfl⟩ := Int.eq_ofNat_of_zero_le (show 0 ≤ S by omega)
  obtain ⟨qN, rfl⟩ := Int.eq_ofNat_of_zero_le kq1
  rw [Int.toNat_natCast] at knx kot
  have kl1 : m = SN := by rw [← knx.len]; exact HN.out.len.symm
  have kl2 : SN = mo_ := by rw [← kot.len]; exact HO.out.len
  subst kl1
  subst kl2
  have hq : qN < m := by omega
  have Knx := Lib.hid knx
  have Kot := Lib.hid kot
  obtain ⟨R, hR⟩ : ∃ R, coB nx ot qN s.data.toList = R := ⟨_, rfl⟩
  have eR : cwR (m : Int) (qN : Int) nx ot s = if 2000 < R.length then (⟨#[]⟩, 3) else (⟨R.toArray⟩, 0) := by
    unfold cwR; rw [if_pos ⟨hc, hw⟩, Int.toNat_natCast, hR]
  have ER := Lib.hid eR
  have HR := Lib.hid (show ([] : List UInt8) ++ coB nx ot qN (s.data.toList.drop 0) = R by rw [List.nil_append, List.drop_zero]; exact hR)
  have hsz := okW_size hw
  have HL := Lib.hid (fun (i : Nat) (hi : i < s.size) => okW_at hw hi)
  clear hc hw knx kot kS1 kS2 kq1 kq2 hR eR
  go_enter Tryz.func8, Tryz.ntmps8
  go_upto_region 1 with fail
  refine named fun w3 H3 => ?_
  obtain ⟨b3, B3⟩ := Start.out w3 H3
  obtain ⟨k0, k1, k2, k3⟩ := B3.four
  have kl := B3.lt
  clear H3
  go_upto_region 3 with (first | (go_at_call 14; refine (VC.out _ b3 true Hc.out).mono ?_; rintro e w4 ⟨rfl, hb4⟩) | (go_at_call 24; refine (VW.out true Hw.out _).mono ?_; rintro e w5 ⟨rfl, hb5⟩))
  have b4 := b3.trans (hb4.mono b3.size)
  have b5 := Lib.hid (b4.trans (hb5.mono b4.size))
  have B5 := Lib.hid ((B3.next hb4).next hb5)
  clear k0 k1 k2 k3 kl b3 b4 hb4 hb5 B3 VC VW Start
  obtain ⟨k0, k1, k2, k3⟩ := B5.out.four
  have kl := B5.out.lt
  go_cut [6, 7] (fun b_ s_ wx => b_ = .pointer (some ⟨w5.heap.size, 0, none⟩) ∧ s_ = .int .i64 (qN : Int) ∧ Hid (Below w5.heap.size w5 wx) ∧ Hid (Lib.IsBuilder 55 5 w5.heap.size w5.heap.size (Lib.byteCells []) wx))
  case first =>
    go_region_law (fail)
    all_goals
      go_wp2_with fail
      go_meet
      exact ⟨rfl, rfl, Lib.hid (by (repeat first | exact Below.refl _ _ | assumption | refine Below.drew ?_ | refine Below.alloc ?_ (by first | exact Nat.le_refl _ | (simp; done) | omega | (simp; omega)) _ | refine Below.setCell ?_ (by first | exact Nat.le_refl _ | (simp; done) | omega | (simp; omega)) _)), Lib.hid (isb_next (Lib.fresh_isBuilder _ _ _) (by first | exact Below.refl _ _ | exact (Below.refl _ _).drew))⟩
  case rest =>
    obtain ⟨rfl, rfl, b6, I6⟩ := hcut
    clear k0 k1 k2 k3 kl
    have HF := Lib.hid (fun W (h : Below w5.heap.size w5 W) => (show _ ∧ _ from ⟨(B5.out.next h).four, (B5.out.next h).lt⟩))
    have RN5 := Lib.hid (HN.out.next b5.out)
    have RO5 := Lib.hid (HO.out.next b5.out)
    go_wp2_with fail
    go_loopw [7, 23] (fun s_ k_ w' => ∃ (k st : Nat) (acc : List UInt8), s_ = .int .i64 st ∧ k_ = .int .i64 k ∧ k ≤ s.size ∧ st < m ∧ Hid (acc.length ≤ 6 * k) ∧ Hid (Below w5.heap.size w5 w') ∧ Hid (Lib.IsBuilder 55 5 w5.heap.size w5.heap.size (Lib.byteCells acc) w') ∧ Hid (acc ++ coB nx ot st (s.data.toList.drop k) = R)) (fun _ k_ _ => s.size - (intOf k_).toNat)
    case atStart => exact ⟨0, qN, [], rfl, rfl, by omega, hq, Lib.hid (by simp), b6, I6, HR⟩
    case round =>
      obtain ⟨k, st, acc, rfl, rfl, hk, hst, HA, hbw, HI, HE⟩ := hrel
      clear b6 I6 HR
      obtain ⟨⟨f0, f1, f2, f3⟩, fl⟩ := HF.out wr hbw.out
      by_cases hlt : k < s.size
      · have hcl := HL.out k hlt
        obtain ⟨r, tx_, rn, t2, gr_, hr4, grl, h6, gn, hn4, gnl, ht2, HS⟩ := coB_step Knx.out Kot.out (at_byte s k hlt) hcl hst
        have hnum := letB_num hcl
        obtain ⟨c, hcc⟩ : ∃ c, s[k] = c := ⟨_, rfl⟩
        obtain ⟨l, hl⟩ : ∃ l, c.toNat - 97 = l := ⟨_, rfl⟩
        rw [hcc] at grl gnl hnum hcl
        rw [hl] at grl gnl
        have u1 : IntKind.u8.wrap (((s[k]'hlt).toNat : Int) - 97) = (l : Int) := by rw [hcc, IntKind.wrap_u8]; omega
        have l4 : (l : Int) < 4 := by omega
        have l0 : (0 : Int) ≤ (l : Int) := by omega
        have i0 : (0 : Int) ≤ (k : Int) := by omega
        have i1 : (k : Int) < (s.size : Int) := by omega
        have j0 : (0 : Int) ≤ (st : Int) := by omega
        have j1 : (st : Int) < (m : Int) := by omega
        obtain ⟨ob, oo, go_, goo, c4, rfl, hoB, eo, hgB, eg⟩ := (RO5.out.next hbw.out).cell2 (.string) (fun _ => rfl) gr_ grl
        rw [hr4] at eo
        have RNw := Lib.hid (RN5.out.next hbw.out)
        have WR := Lib.hid (bW_any w5.heap.size w5.heap.size (Lib.byteCells acc) tx_ wr HI.out (by rw [byteC_len]; have := HA.out; omega))
        have HE2 := Lib.hid (show (acc ++ tx_.data.toList) ++ coB nx ot t2 (s.data.toList.drop (k + 1)) = R by rw [← HE.out, HS, List.append_assoc])
        have HA2 := Lib.hid (show (acc ++ tx_.data.toList).length ≤ 6 * (k + 1) by rw [List.length_append, byte_len]; have := HA.out; omega)
        have HGn := Lib.hid gn
        have HGl := Lib.hid gnl
        clear HS hcl hnum gr_ grl gn gnl HE hcc hl
        go_upto_region 9 with (go_at_call 25; refine WR.out.mono ?_; rintro e w6 ⟨rfl, hb6, HI6⟩)
        have b7 := Lib.hid (hbw.out.trans hb6)
        have I7 := Lib.hid (show Lib.IsBuilder 55 5 w5.heap.size w5.heap.size (Lib.byteCells (acc ++ tx_.data.toList)) w6 by rw [byteC_app]; exact HI6)
        clear hbw HI hb6 HI6 WR f0 f1 f2 f3 fl eo eg hoB hgB RNw
        obtain ⟨⟨f0, f1, f2, f3⟩, fl⟩ := HF.out w6 b7.out
        obtain ⟨nb, no, gn_, gno, c4n, rfl, hnB, en, hgB, eg⟩ := (RN5.out.next b7.out).cell2 (.int .i64) (fun _ => rfl) HGn.out HGl.out
        rw [hn4] at en
        go_wp2_with fail
        go_roundw
        case rel => exact ⟨k + 1, t2, acc ++ tx_.data.toList, rfl, by go_num, by omega, ht2, HA2, b7, I7, HE2⟩
        case measure => simp [intOf]; omega
      · obtain rfl : k = s.size := by omega
        have i1 : ¬ (s.size : Int) < (s.size : Int) := by omega
        have hRe : acc = R := by have h := HE.out; rw [List.drop_of_length_le (by rw [byte_len]; exact Nat.le_refl _), coB, List.append_nil] at h; exact h
        rw [hRe] at HI HA
        clear HE hRe
        have LN := Lib.hid (fun W (h : Lib.IsBuilder 55 5 w5.heap.size w5.heap.size (Lib.byteCells R) W) => Tryz.Builder_Len w5.heap.size w5.heap.size (Lib.byteCells R) W h)
        rw [byteC_len] at LN
        have TS := Lib.hid (fun W (h : Lib.IsBuilder 55 5 w5.heap.size w5.heap.size (Lib.byteCells R) W) (h2 : w5.heap.size ≤ W.heap.size) => Tryz.Builder_String_any w5.heap.size w5.heap.size R W h h2)
        by_cases hbig : 2000 < R.length
        · have h1 : (2000 : Int) < (R.length : Int) := by omega
          go_wp2_with (go_at_call 26; refine (LN.out _ HI.out).mono ?_; rintro e w6 ⟨rfl, rfl⟩)
          exact bodyPost_ret (v := .tuple #[.string ⟨#[]⟩, .int .i64 3]) (by simp [results, Tryz.results8, go_sem]) rfl ⟨by rw [ER.out, if_pos hbig], b5.out.trans (hbw.out.mono b5.out.size)⟩
        · have h1 : ¬ (2000 : Int) < (R.length : Int) := by omega
          go_wp2_with (first | (go_at_call 26; refine (LN.out _ HI.out).mono ?_; rintro e w6 ⟨rfl, rfl⟩) | (go_at_call 27; refine (TS.out _ HI.out hbw.out.size).mono ?_; rintro e w7 ⟨rfl, hb7⟩))
          exact bodyPost_ret (v := .tuple #[.string ⟨R.toArray⟩, .int .i64 0]) (by simp [results, Tryz.results8, go_sem]) rfl ⟨by rw [ER.out, if_neg hbig], b5.out.trans ((hbw.out.trans hb7).mono b5.out.size)⟩
end Go.Proofs.YtmdmgndhapdmgaaGreat


/-
  The code of a text, in the reference.
-/
namespace Go.Proofs.YtmdmgndhapdmgaaGreat
open Go.RowKit

section
variable {P : Program} {w : World} {ops : Array Oper} {o : Oper} {a : Act}
/-- a text behind the bytes of a row, as a step of a region that draws its order -/
theorem step_appStr {K : Act → World → Prop} {Q : Exit → Act → World → Prop} {E : Prop} (hgd : o.guard = none) (sl x : Operand) (t u : TypeId) (ho : o.op = .call { callee := .builtin .append, args := #[sl, x], argTypes := #[t, u] })
    (base : Nat) (e : TypeId) (i : TypeInfo) (ht : P.underlying t = some (.slice e)) (hu : P.underlying u = some .string) (hi : P.info? e = some i) (hz : i.zero = some (.int .u8 0)) (hsize : i.size = 1) (hby : i.bytes = 1)
    (v : Value) (n : Nat) (xs : List Value) (hs : a.eval sl = v) (hown : w.ownsRow base e 1 v n xs) (s : ByteArray) (hx : a.eval x = .string s) (h63 : n + s.size ≤ maxLen) (hbytes : n + s.size ≤ 140737488355328) (hbase : base ≤ w.heap.size)
    (h : ∀ v' w', w'.ownsRow base e 1 v' (n + s.size) (xs ++ Lib.strCells s) → w.grownBy w' v.ownBlock → K (a.put o.dst v') w') :
    if Region.wanted o (yielded ops a.tmps) = true then Oper.wp P o a w K Q else E := by
  obtain ⟨v', w', hr, h2, h3, _⟩ := Lib.run_append_own_string (P := P) w base t u o.type e i ht hu hi hz hsize hby v n xs hown s h63 hbytes hbase
  have hw : Region.wanted o (yielded ops a.tmps) = true := by simp [Region.wanted, hgd]
  rw [if_pos hw]
  unfold Oper.wp execOp
  simp only [ho, resolve, invoke, builtin, Sem.run_bind, Sem.run_pure, Result.andThen_ok, List.map_toArray, List.map_cons, List.map_nil, hs, hx, hr]
  exact h v' w' h2 h3
end
theorem byteC_flat (l : List UInt8) : l.flatMap byteE = Lib.byteCells l := by
  unfold Lib.byteCells
  induction l with
  | nil => rfl
  | cons c r ih => rw [List.flatMap_cons, List.map_cons, ih]; rfl
set_option maxHeartbeats 2000000 in
set_option maxRecDepth 100000 in
theorem codeWS_any (S q : Int) (N O : Option Addr) (m cn mo_ co : Nat) (nh oh : List RowH) (nx : List (List Int)) (ot : List (List ByteArray)) (s : ByteArray) (w : World) (hm : m ≤ 1048576) (hmo : mo_ ≤ 1048576)
    (hx : RdT w w.heap.size N m intE nh nx) (ho : RdT w w.heap.size O mo_ strEM oh ot) (hoz : ∀ r ∈ ot, ∀ t ∈ r, t.size ≤ maxLen) (hs : s.size ≤ maxLen) :
    Calls Tryz.prog 9 #[.agg #[.int .i64 S, .int .i64 q, .slice N m cn, .slice O mo_ co], .string s] w (Ret (.tuple #[.string (cwR S q nx ot s).1, .int .i64 (cwR S q nx ot s).2]) w) := by
  have HN := Lib.hid hx; have HO := Lib.hid ho
  have B0 := Lib.hid (Blk.new w 27 #[.int .i64 S, .int .i64 q, .slice N m cn, .slice O mo_ co])
  have b0 := Lib.hid (show Below w.heap.size w (w.alloc (.cells #[.int .i64 S, .int .i64 q, .slice N m cn, .slice O mo_ co] 27)) from by (repeat first | exact Below.refl _ _ | assumption | refine Below.drew ?_ | refine Below.alloc ?_ (by first | exact Nat.le_refl _ | (simp; done) | omega | (simp; omega)) _ | refine Below.setCell ?_ (by first | exact Nat.le_refl _ | (simp; done) | omega | (simp; omega)) _))
  have VC := Lib.hid (fun W (h : Below w.heap.size w W) (hB : Blk W w.heap.size 27 #[.int .i64 S, .int .i64 q, .slice N m cn, .slice O mo_ co]) => l04Coder_any w.heap.size S q N O m cn mo_ co nh oh nx ot W hB hm hmo (HN.out.next h) (HO.out.next h) hoz)
  have VW := Lib.hid (fun b (hb : okW s = b) W => specOk_any s b W hs hb)
  clear hx ho hoz
  have start : ∀ w3, Hid (w3 = w.alloc (.cells #[.int .i64 S, .int .i64 q, .slice N m cn, .slice O mo_ co] 27)) → Below w.heap.size w w3 ∧ Blk w3 w.heap.size 27 #[.int .i64 S, .int .i64 q, .slice N m cn, .slice O mo_ co] := fun w3 H3 => by
    rw [H3.out]; exact ⟨b0.out, B0.out⟩
  have Start := Lib.hid start; clear start B0 b0
  rcases hc : cdB S q nx ot with _ | _
  · have eR : cwR S q nx ot s = (⟨#[]⟩, 1) := by unfold cwR; rw [if_neg (by rw [hc]; simp)]
    have Hc := Lib.hid hc
    rw [eR]
    clear hc eR
    go_enter Tryz.func9, Tryz.ntmps9
    go_upto_region 1 with fail
    refine named fun w3 H3 => ?_
    obtain ⟨b3, B3⟩ := Start.out w3 H3
    have kl := B3.lt
    clear H3
    go_wp2_with (go_at_call 28; refine (VC.out _ b3 B3 false Hc.out).mono ?_; rintro e w4 ⟨rfl, hb4⟩)
    exact bodyPost_ret (v := .tuple #[.string ⟨#[]⟩, .int .i64 1]) (by simp [results, Tryz.results9, go_sem]) rfl ⟨rfl, b3.trans (hb4.mono b3.size)⟩
  rcases hw : okW s with _ | _
  · have eR : cwR S q nx ot s = (⟨#[]⟩, 1) := by unfold cwR; rw [if_neg (by rw [hw]; simp)]
    have Hc := Lib.hid hc
    have Hw := Lib.hid hw
    rw [eR]
    clear hc hw eR
    go_enter Tryz.func9, Tryz.ntmps9
    go_upto_region 1 with fail
    refine named fun w3 H3 => ?_
    obtain ⟨b3, B3⟩ := Start.out w3 H3
    have kl := B3.lt
    clear H3
    go_wp2_with (first | (go_at_call 28; refine (VC.out _ b3 B3 true Hc.out).mono ?_; rintro e w4 ⟨rfl, hb4⟩) | (go_at_call 29; refine (VW.out false Hw.out _).mono ?_; rintro e w5 ⟨rfl, hb5⟩))
    exact bodyPost_ret (v := .tuple #[.string ⟨#[]⟩, .int .i64 1]) (by simp [results, Tryz.results9, go_sem]) rfl ⟨rfl, (b3.trans (hb4.mono b3.size)).trans (hb5.mono (b3.trans (hb4.mono b3.size)).size)⟩
  have Hc := Lib.hid hc
  have Hw := Lib.hid hw
  obtain ⟨knx, kot, kS1, kS2, kq1, kq2⟩ := cd_ok hc
  obtain ⟨SN, rfl⟩ := Int.eq_ofNat_of_zero_le (show 0 ≤ S by omega)
  obtain ⟨qN, rfl⟩ := Int.eq_ofNat_of_zero_le kq1
  rw [Int.toNat_natCast] at knx kot
  have kl1 : m = SN := by rw [← knx.len]; exact HN.out.len.symm
  have kl2 : SN = mo_ := by rw [← kot.len]; exact HO.out.len
  subst kl1
  subst kl2
  have hq : qN < m := by omega
  have Knx := Lib.hid knx
  have Kot := Lib.hid kot
  obtain ⟨R, hR⟩ : ∃ R, coB nx ot qN s.data.toList = R := ⟨_, rfl⟩
  have eR : cwR (m : Int) (qN : Int) nx ot s = if 2000 < R.length then (⟨#[]⟩, 3) else (⟨R.toArray⟩, 0) := by
    unfold cwR; rw [if_pos ⟨hc, hw⟩, Int.toNat_natCast, hR]
  have ER := Lib.hid eR
  have HR := Lib.hid (show ([] : List UInt8) ++ coB nx ot qN (s.data.toList.drop 0) = R by rw [List.nil_append, List.drop_zero]; exact hR)
  have hsz := okW_size hw
  have HL := Lib.hid (fun (i : Nat) (hi : i < s.size) => okW_at hw hi)
  obtain ⟨i0', hi', hz0', hz1', hz2'⟩ := info_parts info_u8c
  clear hc hw knx kot kS1 kS2 kq1 kq2 hR eR
  go_enter Tryz.func9, Tryz.ntmps9
  go_upto_region 1 with fail
  refine named fun w3 H3 => ?_
  obtain ⟨b3, B3⟩ := Start.out w3 H3
  have kl := B3.lt
  clear H3
  go_upto_region 3 with (first | (go_at_call 28; refine (VC.out _ b3 B3 true Hc.out).mono ?_; rintro e w4 ⟨rfl, hb4⟩) | (go_at_call 29; refine (VW.out true Hw.out _).mono ?_; rintro e w5 ⟨rfl, hb5⟩))
  have b4 := b3.trans (hb4.mono b3.size)
  have b5 := Lib.hid (b4.trans (hb5.mono b4.size))
  have B5 := Lib.hid ((B3.next hb4).next hb5)
  clear kl b3 b4 hb4 hb5 B3 VC VW Start
  obtain ⟨k0, k1, k2, k3⟩ := B5.out.four
  have kl := B5.out.lt
  have HF := Lib.hid (fun W (h : Below w5.heap.size w5 W) => (show _ ∧ _ from ⟨(B5.out.next h).four, (B5.out.next h).lt⟩))
  have RN5 := Lib.hid (HN.out.next b5.out)
  have RO5 := Lib.hid (HO.out.next b5.out)
  go_upto_region 5 with fail
  refine named fun w6 H6 => ?_
  have b6 := Lib.hid (show Below w5.heap.size w5 w6 by rw [H6.out]; (repeat first | exact Below.refl _ _ | assumption | refine Below.drew ?_ | refine Below.alloc ?_ (by first | exact Nat.le_refl _ | (simp; done) | omega | (simp; omega)) _ | refine Below.setCell ?_ (by first | exact Nat.le_refl _ | (simp; done) | omega | (simp; omega)) _))
  have O6 := Lib.hid (show w6.ownsRow w5.heap.size 5 1 (.slice (some ⟨w5.heap.size, 0, none⟩) 0 0) 0 (Lib.byteCells []) by
    rw [H6.out]
    simpa [Lib.byteCells] using World.ownsRow_made (base := w5.heap.size) (e := 5) (size := 1) w5 #[] 0 (Nat.le_refl _) (by unfold maxLen; omega) rfl)
  clear H6 k0 k1 k2 k3 kl
  go_wp2_with fail
  go_loopw [6, 7, 8] (fun s_ o_ k_ w' => ∃ (k st : Nat) (acc : List UInt8) (A : Option Addr) (c : Nat), s_ = .int .i64 st ∧ o_ = .slice A acc.length c ∧ k_ = .int .i64 k ∧ k ≤ s.size ∧ st < m ∧ Hid (acc.length ≤ 6 * k) ∧ Hid (Below w5.heap.size w5 w') ∧ Hid (w'.ownsRow w5.heap.size 5 1 (.slice A acc.length c) acc.length (Lib.byteCells acc)) ∧ Hid (acc ++ coB nx ot st (s.data.toList.drop k) = R)) (fun _ _ k_ _ => s.size - (intOf k_).toNat)
  case atStart => exact ⟨0, qN, [], _, 0, rfl, rfl, rfl, by omega, hq, Lib.hid (by simp), b6, O6, HR⟩
  case round =>
    obtain ⟨k, st, acc, A, c, rfl, rfl, rfl, hk, hst, HA, hbw, HP, HE⟩ := hrel
    clear b6 O6 HR
    obtain ⟨⟨f0, f1, f2, f3⟩, fl⟩ := HF.out wr hbw.out
    by_cases hlt : k < s.size
    · have hcl := HL.out k hlt
      obtain ⟨r, tx_, rn, t2, gr_, hr4, grl, h6, gn, hn4, gnl, ht2, HS0⟩ := coB_step Knx.out Kot.out (at_byte s k hlt) hcl hst
      have hnum := letB_num hcl
      obtain ⟨cc, hcc⟩ : ∃ c, s[k] = c := ⟨_, rfl⟩
      obtain ⟨l, hl⟩ : ∃ l, cc.toNat - 97 = l := ⟨_, rfl⟩
      rw [hcc] at grl gnl hnum hcl
      rw [hl] at grl gnl
      have LT := Lib.hid (fun W => show Calls Tryz.prog 30 #[.int .u8 ((((s[k]'hlt).toNat : Nat) : Int))] W (Ret (.int .i64 (l : Int)) W) from by
        have h := l04Letter_any cc hcl W
        rw [show (cc.toNat : Int) - 97 = (l : Int) by omega] at h
        rw [hcc]; exact h)
      have l4 : (l : Int) < 4 := by omega
      have l0 : (0 : Int) ≤ (l : Int) := by omega
      have i0 : (0 : Int) ≤ (k : Int) := by omega
      have i1 : (k : Int) < (s.size : Int) := by omega
      have j0 : (0 : Int) ≤ (st : Int) := by omega
      have j1 : (st : Int) < (m : Int) := by omega
      obtain ⟨ob, oo, go_, goo, c4, rfl, hoB, eo, hgB, eg⟩ := (RO5.out.next hbw.out).cell2 (.string) (fun _ => rfl) gr_ grl
      rw [hr4] at eo
      have HE2 := Lib.hid (show (acc ++ tx_.data.toList) ++ coB nx ot t2 (s.data.toList.drop (k + 1)) = R by rw [← HE.out, HS0, List.append_assoc])
      have HA2 := Lib.hid (show (acc ++ tx_.data.toList).length ≤ 6 * (k + 1) by rw [List.length_append, byte_len]; have := HA.out; omega)
      have HGn := Lib.hid gn
      have HGl := Lib.hid gnl
      have HS := Lib.hid (fun W (h : Below wr.heap.size wr W) => show W.cell? ⟨w.heap.size, 3, none⟩ = some (.slice (some ⟨ob, oo, none⟩) m co) ∧ W.cell? ⟨ob, oo + st, none⟩ = some (.slice (some ⟨go_, goo, none⟩) 4 c4) ∧ W.cell? ⟨go_, goo + l, none⟩ = some (.string tx_) from
        ⟨(h.cell (p := ⟨w.heap.size, 3, none⟩) fl).trans f3, (h.cell (p := ⟨ob, oo + st, none⟩) hoB).trans eo, (h.cell (p := ⟨go_, goo + l, none⟩) hgB).trans eg⟩)
      have hla := HA.out
      clear HS0 hcl hnum gr_ grl gn gnl HE hcc hl f0 f1 f2 f3 fl eo eg hoB hgB
      go_upto_region 8 with fail
      refine wp_region_N (fun W => W.cell? ⟨w.heap.size, 3, none⟩ = some (.slice (some ⟨ob, oo, none⟩) m co) ∧ W.cell? ⟨ob, oo + st, none⟩ = some (.slice (some ⟨go_, goo, none⟩) 4 c4) ∧ W.cell? ⟨go_, goo + l, none⟩ = some (.string tx_)) [12, 13] (by kernel_rfl) ?_
      have c0 : Below wr.heap.size wr wr.drew := (Below.refl _ _).drew
      have hS0 := HS.out _ c0
      generalize wr.drew = wd at *
      refine wpAnyN_take (i := 0) (v := ?_) rfl (by kernel_rfl) (fun _ _ _ h => h) (by rfl) (fun W hW => ?_) hS0 ?_
      rotate_left
      · obtain ⟨z0, z1, z2⟩ := hW
        go_simp
        try with_reducible rfl
      try simp only [List.getElem_toArray, List.getElem_cons_zero, List.getElem_cons_succ, Act.put, List.setIfInBounds_toArray, List.set_cons_zero, List.set_cons_succ]
      refine wpAnyN_take (i := 1) (v := ?_) rfl (by kernel_rfl) (fun _ _ _ h => h) (by rfl) (fun W hW => ?_) hS0 ?_
      rotate_left
      · obtain ⟨z0, z1, z2⟩ := hW
        go_simp
        try with_reducible rfl
      try simp only [List.getElem_toArray, List.getElem_cons_zero, List.getElem_cons_succ, Act.put, List.setIfInBounds_toArray, List.set_cons_zero, List.set_cons_succ]
      refine wpAnyN_take (i := 2) (v := ?_) rfl (by kernel_rfl) (fun _ _ _ h => h) (by rfl) (fun W hW => ?_) hS0 ?_
      rotate_left
      · obtain ⟨z0, z1, z2⟩ := hW
        go_simp
        try with_reducible rfl
      try simp only [List.getElem_toArray, List.getElem_cons_zero, List.getElem_cons_succ, Act.put, List.setIfInBounds_toArray, List.set_cons_zero, List.set_cons_succ]
      refine wpAnyN_take (i := 3) (v := ?_) rfl (by kernel_rfl) (fun _ _ _ h => h) (by rfl) (fun W hW => ?_) hS0 ?_
      rotate_left
      · obtain ⟨z0, z1, z2⟩ := hW
        go_simp
        try with_reducible rfl
      try simp only [List.getElem_toArray, List.getElem_cons_zero, List.getElem_cons_succ, Act.put, List.setIfInBounds_toArray, List.set_cons_zero, List.set_cons_succ]
      refine wpAnyN_take (i := 4) (v := ?_) rfl (by kernel_rfl) (fun _ _ _ h => h) (by rfl) (fun W hW => ?_) hS0 ?_
      rotate_left
      · obtain ⟨z0, z1, z2⟩ := hW
        go_simp
        try with_reducible rfl
      try simp only [List.getElem_toArray, List.getElem_cons_zero, List.getElem_cons_succ, Act.put, List.setIfInBounds_toArray, List.set_cons_zero, List.set_cons_succ]
      refine wpAnyN_take (i := 5) (v := ?_) rfl (by kernel_rfl) (fun _ _ _ h => h) (by rfl) (fun W hW => ?_) hS0 ?_
      rotate_left
      · obtain ⟨z0, z1, z2⟩ := hW
        go_simp
        try with_reducible rfl
      try simp only [List.getElem_toArray, List.getElem_cons_zero, List.getElem_cons_succ, Act.put, List.setIfInBounds_toArray, List.set_cons_zero, List.set_cons_succ]
      refine wpAnyN_take (i := 6) (v := ?_) rfl (by kernel_rfl) (fun _ _ _ h => h) (by rfl) (fun W hW => ?_) hS0 ?_
      rotate_left
      · obtain ⟨z0, z1, z2⟩ := hW
        go_simp
        try with_reducible rfl
      try simp only [List.getElem_toArray, List.getElem_cons_zero, List.getElem_cons_succ, Act.put, List.setIfInBounds_toArray, List.set_cons_zero, List.set_cons_succ]
      refine wpAnyN_take (i := 7) (v := ?_) rfl (by kernel_rfl) (fun _ _ _ h => h) (by rfl) (fun W hW => ?_) hS0 ?_
      rotate_left
      · obtain ⟨z0, z1, z2⟩ := hW
        go_simp
        try with_reducible rfl
      try simp only [List.getElem_toArray, List.getElem_cons_zero, List.getElem_cons_succ, Act.put, List.setIfInBounds_toArray, List.set_cons_zero, List.set_cons_succ]
      refine wpAnyN_next (i := 8) rfl (by kernel_rfl) (fun Kc hK => ?_)
      go_simp
      refine hK.out _ _ (fun _ => hS0) ?_
      clear hK Kc
      try simp only [List.getElem_toArray, List.getElem_cons_zero, List.getElem_cons_succ, Act.put, List.setIfInBounds_toArray, List.set_cons_zero, List.set_cons_succ]
      refine wpAnyN_next (i := 9) rfl (by kernel_rfl) (fun Kc hK => ?_)
      go_simp
      go_wp2_with (go_at_call 30; refine (LT.out wd).mono ?_; rintro e w5' ⟨rfl, hb5⟩)
      have c5 : Below wr.heap.size wr w5' := c0.trans (hb5.mono c0.size)
      have hS5 := HS.out _ c5
      refine hK.out _ _ (fun _ => hS5) ?_
      clear hK Kc
      try simp only [List.getElem_toArray, List.getElem_cons_zero, List.getElem_cons_succ, Act.put, List.setIfInBounds_toArray, List.set_cons_zero, List.set_cons_succ]
      clear hS0
      refine wpAnyN_take (i := 10) (v := ?_) rfl (by kernel_rfl) (fun _ _ _ h => h) (by rfl) (fun W hW => ?_) hS5 ?_
      rotate_left
      · obtain ⟨z0, z1, z2⟩ := hW
        go_simp
        try with_reducible rfl
      try simp only [List.getElem_toArray, List.getElem_cons_zero, List.getElem_cons_succ, Act.put, List.setIfInBounds_toArray, List.set_cons_zero, List.set_cons_succ]
      refine wpAnyN_take (i := 11) (v := ?_) rfl (by kernel_rfl) (fun _ _ _ h => h) (by rfl) (fun W hW => ?_) hS5 ?_
      rotate_left
      · obtain ⟨z0, z1, z2⟩ := hW
        go_simp
        try with_reducible rfl
      try simp only [List.getElem_toArray, List.getElem_cons_zero, List.getElem_cons_succ, Act.put, List.setIfInBounds_toArray, List.set_cons_zero, List.set_cons_succ]
      clear hS5
      refine wpAnyN_next (i := 12) rfl (by kernel_rfl) (fun Kc hK => ?_)
      refine step_appStr (by rfl) _ _ 22 9 (by rfl) w5.heap.size 5 i0' Tryz.underlying22 Tryz.underlying9 hi' hz0' hz1' hz2' (.slice A acc.length c) acc.length (Lib.byteCells acc) (by rfl) (own_next HP.out c5) tx_ (by rfl) (by unfold maxLen; omega) (by omega) (by have h1 := hbw.out.size; have h2 := c5.size; omega) ?_
      intro v9 w9 own9 hg9
      have hv : ∃ A9 c9, v9 = .slice A9 (acc ++ tx_.data.toList).length c9 := by
        rw [List.length_append, byte_len]
        rcases own9.2 with ⟨hv, h0⟩ | ⟨g, cap, cur, hv, _⟩
        · exact ⟨none, 0, by rw [hv, h0]⟩
        · exact ⟨_, _, hv⟩
      obtain ⟨A9, c9, rfl⟩ := hv
      have b9 := Lib.hid ((hbw.out.trans (c5.mono hbw.out.size)).grown hg9 (hbw.out.trans (c5.mono hbw.out.size)).size (own_ge HP.out))
      have O9 := Lib.hid (show w9.ownsRow w5.heap.size 5 1 (.slice A9 (acc ++ tx_.data.toList).length c9) (acc ++ tx_.data.toList).length (Lib.byteCells (acc ++ tx_.data.toList)) by
        rw [byteC_app]
        have h := own9
        rw [strC_bytes, ← byte_len tx_, ← List.length_append] at h
        exact h)
      refine hK.out _ _ (fun h => absurd h (by decide)) ?_
      clear hK Kc own9 hg9
      try simp only [List.getElem_toArray, List.getElem_cons_zero, List.getElem_cons_succ, Act.put, List.setIfInBounds_toArray, List.set_cons_zero, List.set_cons_succ]
      refine wpAnyN_next (i := 13) rfl (by kernel_rfl) (fun Kc hK => ?_)
      go_simp
      refine hK.out _ _ (fun h => absurd h (by decide)) ?_
      clear hK Kc
      try simp only [List.getElem_toArray, List.getElem_cons_zero, List.getElem_cons_succ, Act.put, List.setIfInBounds_toArray, List.set_cons_zero, List.set_cons_succ]
      refine wpAnyN_done (by kernel_rfl) ?_ _
      clear HS c5 hb5 c0 HP hbw
      obtain ⟨wr, hwr⟩ : ∃ wz : World, wz = w9 := ⟨_, rfl⟩
      subst hwr
      obtain ⟨⟨f0, f1, f2, f3⟩, fl⟩ := HF.out wr b9.out
      obtain ⟨nb, no, gn_, gno, c4n, rfl, hnB, en, hgB, eg⟩ := (RN5.out.next b9.out).cell2 (.int .i64) (fun _ => rfl) HGn.out HGl.out
      rw [hn4] at en
      have HS := Lib.hid (fun W (h : Below wr.heap.size wr W) => show W.cell? ⟨w.heap.size, 2, none⟩ = some (.slice (some ⟨nb, no, none⟩) m cn) ∧ W.cell? ⟨nb, no + st, none⟩ = some (.slice (some ⟨gn_, gno, none⟩) 4 c4n) ∧ W.cell? ⟨gn_, gno + l, none⟩ = some (.int .i64 (t2 : Int)) from
        ⟨(h.cell (p := ⟨w.heap.size, 2, none⟩) fl).trans f2, (h.cell (p := ⟨nb, no + st, none⟩) hnB).trans en, (h.cell (p := ⟨gn_, gno + l, none⟩) hgB).trans eg⟩)
      clear f0 f1 f2 f3 fl en eg hnB hgB
      go_upto_region 9 with fail
      refine wp_region_N (fun W => W.cell? ⟨w.heap.size, 2, none⟩ = some (.slice (some ⟨nb, no, none⟩) m cn) ∧ W.cell? ⟨nb, no + st, none⟩ = some (.slice (some ⟨gn_, gno, none⟩) 4 c4n) ∧ W.cell? ⟨gn_, gno + l, none⟩ = some (.int .i64 (t2 : Int))) [11] (by kernel_rfl) ?_
      have c0 : Below wr.heap.size wr wr.drew := (Below.refl _ _).drew
      have hS0 := HS.out _ c0
      generalize wr.drew = wd at *
      refine wpAnyN_take (i := 0) (v := ?_) rfl (by kernel_rfl) (fun _ _ _ h => h) (by rfl) (fun W hW => ?_) hS0 ?_
      rotate_left
      · obtain ⟨z0, z1, z2⟩ := hW
        go_simp
        try with_reducible rfl
      try simp only [List.getElem_toArray, List.getElem_cons_zero, List.getElem_cons_succ, Act.put, List.setIfInBounds_toArray, List.set_cons_zero, List.set_cons_succ]
      refine wpAnyN_take (i := 1) (v := ?_) rfl (by kernel_rfl) (fun _ _ _ h => h) (by rfl) (fun W hW => ?_) hS0 ?_
      rotate_left
      · obtain ⟨z0, z1, z2⟩ := hW
        go_simp
        try with_reducible rfl
      try simp only [List.getElem_toArray, List.getElem_cons_zero, List.getElem_cons_succ, Act.put, List.setIfInBounds_toArray, List.set_cons_zero, List.set_cons_succ]
      refine wpAnyN_take (i := 2) (v := ?_) rfl (by kernel_rfl) (fun _ _ _ h => h) (by rfl) (fun W hW => ?_) hS0 ?_
      rotate_left
      · obtain ⟨z0, z1, z2⟩ := hW
        go_simp
        try with_reducible rfl
      try simp only [List.getElem_toArray, List.getElem_cons_zero, List.getElem_cons_succ, Act.put, List.setIfInBounds_toArray, List.set_cons_zero, List.set_cons_succ]
      refine wpAnyN_take (i := 3) (v := ?_) rfl (by kernel_rfl) (fun _ _ _ h => h) (by rfl) (fun W hW => ?_) hS0 ?_
      rotate_left
      · obtain ⟨z0, z1, z2⟩ := hW
        go_simp
        try with_reducible rfl
      try simp only [List.getElem_toArray, List.getElem_cons_zero, List.getElem_cons_succ, Act.put, List.setIfInBounds_toArray, List.set_cons_zero, List.set_cons_succ]
      refine wpAnyN_take (i := 4) (v := ?_) rfl (by kernel_rfl) (fun _ _ _ h => h) (by rfl) (fun W hW => ?_) hS0 ?_
      rotate_left
      · obtain ⟨z0, z1, z2⟩ := hW
        go_simp
        try with_reducible rfl
      try simp only [List.getElem_toArray, List.getElem_cons_zero, List.getElem_cons_succ, Act.put, List.setIfInBounds_toArray, List.set_cons_zero, List.set_cons_succ]
      refine wpAnyN_take (i := 5) (v := ?_) rfl (by kernel_rfl) (fun _ _ _ h => h) (by rfl) (fun W hW => ?_) hS0 ?_
      rotate_left
      · obtain ⟨z0, z1, z2⟩ := hW
        go_simp
        try with_reducible rfl
      try simp only [List.getElem_toArray, List.getElem_cons_zero, List.getElem_cons_succ, Act.put, List.setIfInBounds_toArray, List.set_cons_zero, List.set_cons_succ]
      refine wpAnyN_take (i := 6) (v := ?_) rfl (by kernel_rfl) (fun _ _ _ h => h) (by rfl) (fun W hW => ?_) hS0 ?_
      rotate_left
      · obtain ⟨z0, z1, z2⟩ := hW
        go_simp
        try with_reducible rfl
      try simp only [List.getElem_toArray, List.getElem_cons_zero, List.getElem_cons_succ, Act.put, List.setIfInBounds_toArray, List.set_cons_zero, List.set_cons_succ]
      refine wpAnyN_next (i := 7) rfl (by kernel_rfl) (fun Kc hK => ?_)
      go_simp
      refine hK.out _ _ (fun _ => hS0) ?_
      clear hK Kc
      try simp only [List.getElem_toArray, List.getElem_cons_zero, List.getElem_cons_succ, Act.put, List.setIfInBounds_toArray, List.set_cons_zero, List.set_cons_succ]
      refine wpAnyN_next (i := 8) rfl (by kernel_rfl) (fun Kc hK => ?_)
      go_simp
      go_wp2_with (go_at_call 30; refine (LT.out wd).mono ?_; rintro e w5' ⟨rfl, hb5⟩)
      have c5 : Below wr.heap.size wr w5' := c0.trans (hb5.mono c0.size)
      have hS5 := HS.out _ c5
      refine hK.out _ _ (fun _ => hS5) ?_
      clear hK Kc
      try simp only [List.getElem_toArray, List.getElem_cons_zero, List.getElem_cons_succ, Act.put, List.setIfInBounds_toArray, List.set_cons_zero, List.set_cons_succ]
      clear hS0
      refine wpAnyN_take (i := 9) (v := ?_) rfl (by kernel_rfl) (fun _ _ _ h => h) (by rfl) (fun W hW => ?_) hS5 ?_
      rotate_left
      · obtain ⟨z0, z1, z2⟩ := hW
        go_simp
        try with_reducible rfl
      try simp only [List.getElem_toArray, List.getElem_cons_zero, List.getElem_cons_succ, Act.put, List.setIfInBounds_toArray, List.set_cons_zero, List.set_cons_succ]
      refine wpAnyN_take (i := 10) (v := ?_) rfl (by kernel_rfl) (fun _ _ _ h => h) (by rfl) (fun W hW => ?_) hS5 ?_
      rotate_left
      · obtain ⟨z0, z1, z2⟩ := hW
        go_simp
        try with_reducible rfl
      try simp only [List.getElem_toArray, List.getElem_cons_zero, List.getElem_cons_succ, Act.put, List.setIfInBounds_toArray, List.set_cons_zero, List.set_cons_succ]
      clear hS5
      refine wpAnyN_next (i := 11) rfl (by kernel_rfl) (fun Kc hK => ?_)
      go_simp
      refine hK.out _ _ (fun h => absurd h (by decide)) ?_
      clear hK Kc
      try simp only [List.getElem_toArray, List.getElem_cons_zero, List.getElem_cons_succ, Act.put, List.setIfInBounds_toArray, List.set_cons_zero, List.set_cons_succ]
      refine wpAnyN_done (by kernel_rfl) ?_ _
      go_wp2_with fail
      go_roundw
      case rel => exact ⟨k + 1, t2, acc ++ tx_.data.toList, A9, c9, rfl, by rw [List.length_append, byte_len], by go_num, by omega, ht2, HA2, Lib.hid (b9.out.trans (c5.mono b9.out.size)), Lib.hid (own_next O9.out c5), HE2⟩
      case measure => simp [intOf]; omega
    · obtain rfl : k = s.size := by omega
      have i1 : ¬ (s.size : Int) < (s.size : Int) := by omega
      have hRe : acc = R := by have h := HE.out; rw [List.drop_of_length_le (by rw [byte_len]; exact Nat.le_refl _), coB, List.append_nil] at h; exact h
      have CV := Lib.hid (fun W (h : Below wr.heap.size wr W) => conv_own (A := A) (c := c) (n := acc.length) (base := w5.heap.size) (bs := acc) (w := W) (by rw [byteC_flat]; exact own_next HP.out h) rfl)
      have cv := CV.out wr (Below.refl _ _)
      rw [← hRe] at ER
      clear HE hRe
      by_cases hbig : 2000 < acc.length
      · have h1 : (2000 : Int) < (acc.length : Int) := by omega
        go_wp2_with fail
        exact bodyPost_ret (v := .tuple #[.string ⟨#[]⟩, .int .i64 3]) (by simp [results, Tryz.results9, go_sem]) rfl ⟨by rw [ER.out, if_pos hbig], b5.out.trans (hbw.out.mono b5.out.size)⟩
      · have h1 : ¬ (2000 : Int) < (acc.length : Int) := by omega
        go_wp2_with fail
        exact bodyPost_ret (v := .tuple #[.string ⟨acc.toArray⟩, .int .i64 0]) (by simp [results, Tryz.results9, go_sem]) rfl ⟨by rw [ER.out, if_neg hbig], b5.out.trans (hbw.out.mono b5.out.size)⟩
end Go.Proofs.YtmdmgndhapdmgaaGreat


/-
  A drawn automaton.
-/
namespace Go.Proofs.YtmdmgndhapdmgaaGreat
open Go.RowKit

theorem elemTD : Elem Tryz.prog 24 61 1 24 := Elem.mk' (z := .slice none 0 0) Tryz.underlying24 (by kernel_rfl) rfl
/-- an automaton under way -/
structure DaW (w W : World) (g K X : Nat) (S q : Int) (F : Option Addr) (nf cf : Nat) (fs : List Int) (A : Option Addr) (n c : Nat) (hs : List RowH) (nx : List (List Int)) : Prop where
  s : Src W g K
  a : Blk W X 99 #[.int .i64 S, .int .i64 q, .slice F nf cf, .slice A n c]
  r : Blk W w.heap.size 99 #[.int .i64 0, .int .i64 0, .slice none 0 0, .slice none 0 0]
  f : W.ownsRow w.heap.size 2 1 (.slice F nf cf) nf (fs.flatMap intE)
  t : TabR 61 2 intE W w.heap.size A n c hs nx
  d : ∀ (i : Nat) (p : RowH) (b : Nat), hs[i]? = some p → (Value.slice p.A p.n p.c).ownBlock = some b → (Value.slice F nf cf).ownBlock ≠ some b
  hx : w.heap.size < X
  hg : g < w.heap.size
  gr : w.grownBy W (some g)
section
variable {w W W' : World} {g K K' X : Nat} {S q : Int} {F : Option Addr} {nf cf : Nat} {fs : List Int} {A : Option Addr} {n c : Nat} {hs : List RowH} {nx : List (List Int)}
theorem tab_src {w W W' : World} {g : Nat} {A : Option Addr} {n c : Nat} {hs : List RowH} {nx : List (List Int)} (h : TabR 61 2 intE W w.heap.size A n c hs nx) (hg : W.grownBy W' (some g)) (hlt : g < w.heap.size) : TabR 61 2 intE W' w.heap.size A n c hs nx :=
  h.kept hg (by
    cases hv : (Value.slice A n c).ownBlock with
    | none => exact .inl rfl
    | some k => exact .inr fun e => by have := (h.o.lt k hv).1; injection e with e; omega) (fun i q hq => by
    cases hv : (Value.slice q.A q.n q.c).ownBlock with
    | none => exact .inl rfl
    | some k => exact .inr fun e => by have := (h.ge i q k hq hv).1; injection e with e; omega)
theorem DaW.draw (h : DaW w W g K X S q F nf cf fs A n c hs nx) (hs' : Src W' g K') (hg : W.grownBy W' (some g)) : DaW w W' g K' X S q F nf cf fs A n c hs nx :=
  ⟨hs', h.a.grown hg (by have := h.hx; have := h.hg; intro e; injection e with e; omega), h.r.grown hg (by have := h.hg; intro e; injection e with e; omega), own_kept h.f hg h.hg, tab_src h.t hg h.hg, h.d, h.hx, h.hg, gb_trans h.gr hg⟩
theorem DaW.next (h : DaW w W g K X S q F nf cf fs A n c hs nx) (hb : Below W.heap.size W W') : DaW w W' g K X S q F nf cf fs A n c hs nx :=
  ⟨h.s.next hb, h.a.next hb, h.r.next hb, own_next h.f hb, h.t.next hb, h.d, h.hx, h.hg, gb_next h.gr hb⟩
theorem DaW.alloc (h : DaW w W g K X S q F nf cf fs A n c hs nx) (o : Obj) : DaW w (W.alloc o) g K X S q F nf cf fs A n c hs nx := h.next ((Below.refl _ _).alloc (Nat.le_refl _) o)
theorem DaW.mono (h : DaW w W g K X S q F nf cf fs A n c hs nx) (hK : K ≤ K') : DaW w W g K' X S q F nf cf fs A n c hs nx := ⟨h.s.mono hK, h.a, h.r, h.f, h.t, h.d, h.hx, h.hg, h.gr⟩
/-- behind what writes a row of the call's own from w on -/
theorem DaW.own {e2 s2 n2 : Nat} {v2 : Value} {xs2 : List Value} (h : DaW w W g K X S q F nf cf fs A n c hs nx) (ho : W.ownsRow w.heap.size e2 s2 v2 n2 xs2) (hg : W.grownBy W' v2.ownBlock) (he : e2 ≠ 99) (hf : (Value.slice F nf cf).ownBlock = none ∨ (Value.slice F nf cf).ownBlock ≠ v2.ownBlock)
    (ht : e2 ≠ 61) (hr : ∀ (i : Nat) (q : RowH), hs[i]? = some q → (Value.slice q.A q.n q.c).ownBlock = none ∨ (Value.slice q.A q.n q.c).ownBlock ≠ v2.ownBlock) : DaW w W' g K X S q F nf cf fs A n c hs nx :=
  ⟨h.s.grown hg (fun k e => by have := (ho.lt k e).1; have := h.hg; omega), h.a.grown hg (own_blk_ne ho h.a he), h.r.grown hg (own_blk_ne ho h.r he), h.f.kept hg hf, h.t.kept hg (own_ne h.t.o ho (Ne.symm ht)) hr, h.d, h.hx, h.hg, gb_weak' h.gr hg (own_ge ho)⟩
theorem DaW.setq (h : DaW w W g K X S q F nf cf fs A n c hs nx) (q' : Int) : DaW w (W.setCell ⟨X, 1, none⟩ (.int .i64 q')) g K X S q' F nf cf fs A n c hs nx := by
  have g2 := gb_set W X 1 (.int .i64 q')
  have hx := h.hx
  have hgl := h.hg
  exact ⟨h.s.grown g2 (fun k e => by injection e with e; omega), h.a.set_ 1 _, h.r.grown g2 (by intro e; injection e with e; omega), own_keptR h.f h.a (by decide) _, h.t.keptB h.a g2 (by decide) (by decide), h.d, hx, hgl, gb_weak' h.gr g2 (fun k e => by injection e with e; omega)⟩
/-- the last states told -/
theorem DaW.fin {F' : Option Addr} {cf' : Nat} {x : Int} (h : DaW w W g K X S q F nf cf fs A n c hs nx) (ho : W'.ownsRow w.heap.size 2 1 (.slice F' (nf + 1) cf') (nf + 1) ((fs ++ [x]).flatMap intE)) (hg : W.grownBy W' (Value.slice F nf cf).ownBlock)
    (hat : (Value.slice F' (nf + 1) cf').ownBlock = (Value.slice F nf cf).ownBlock ∨ (Value.slice F' (nf + 1) cf').ownBlock = some W.heap.size) : DaW w (W'.setCell ⟨X, 2, none⟩ (.slice F' (nf + 1) cf')) g K X S q F' (nf + 1) cf' (fs ++ [x]) A n c hs nx := by
  have a1 := h.a.grown hg (own_blk_ne h.f h.a (by decide))
  have r1 := h.r.grown hg (own_blk_ne h.f h.r (by decide))
  have t1 := h.t.kept hg (own_ne h.t.o h.f (by decide)) (fun i p hp => by
    cases hv : (Value.slice p.A p.n p.c).ownBlock with
    | none => exact .inl rfl
    | some b => exact .inr fun e => h.d i p b hp hv e.symm)
  have g2 := gb_set W' X 2 (.slice F' (nf + 1) cf')
  have hx := h.hx
  have hgl := h.hg
  refine ⟨(h.s.grown hg (fun k e => by have := (h.f.lt k e).1; omega)).grown g2 (fun k e => by injection e with e; omega), a1.set_ 2 _, r1.grown g2 (by intro e; injection e with e; omega), own_keptR ho a1 (by decide) _, t1.keptB a1 g2 (by decide) (by decide), fun i p b hp hv => ?_, hx, hgl, gb_weak' (gb_weak' h.gr hg (own_ge h.f)) g2 (fun k e => by injection e with e; omega)⟩
  rcases hat with e | e
  · rw [e]; exact h.d i p b hp hv
  · rw [e]; intro e2; injection e2 with e2; have := (h.t.ge i p b hp hv).2; omega
end
/-- with a row under way -/
structure DaR (w W : World) (g K X : Nat) (S q : Int) (F : Option Addr) (nf cf : Nat) (fs : List Int) (A : Option Addr) (n c : Nat) (hs : List RowH) (nx : List (List Int)) (R : Option Addr) (l cr : Nat) (acc : List Int) : Prop where
  o : DaW w W g K X S q F nf cf fs A n c hs nx
  lo : W.ownsRow w.heap.size 2 1 (.slice R l cr) l (acc.flatMap intE)
  d : ∀ (i : Nat) (p : RowH) (b : Nat), hs[i]? = some p → (Value.slice p.A p.n p.c).ownBlock = some b → (Value.slice R l cr).ownBlock ≠ some b
  f : ∀ b, (Value.slice F nf cf).ownBlock = some b → (Value.slice R l cr).ownBlock ≠ some b
section
variable {w W W' : World} {g K K' X : Nat} {S q : Int} {F : Option Addr} {nf cf : Nat} {fs : List Int} {A : Option Addr} {n c : Nat} {hs : List RowH} {nx : List (List Int)} {R : Option Addr} {l cr : Nat} {acc : List Int}
theorem DaR.draw (h : DaR w W g K X S q F nf cf fs A n c hs nx R l cr acc) (hs' : Src W' g K') (hg : W.grownBy W' (some g)) : DaR w W' g K' X S q F nf cf fs A n c hs nx R l cr acc := ⟨h.o.draw hs' hg, own_kept h.lo hg h.o.hg, h.d, h.f⟩
theorem DaR.next (h : DaR w W g K X S q F nf cf fs A n c hs nx R l cr acc) (hb : Below W.heap.size W W') : DaR w W' g K X S q F nf cf fs A n c hs nx R l cr acc := ⟨h.o.next hb, own_next h.lo hb, h.d, h.f⟩
theorem DaR.alloc (h : DaR w W g K X S q F nf cf fs A n c hs nx R l cr acc) (o : Obj) : DaR w (W.alloc o) g K X S q F nf cf fs A n c hs nx R l cr acc := h.next ((Below.refl _ _).alloc (Nat.le_refl _) o)
theorem DaR.push {R' : Option Addr} {cr' l' : Nat} {acc' : List Int} (h : DaR w W g K X S q F nf cf fs A n c hs nx R l cr acc) (ho : W'.ownsRow w.heap.size 2 1 (.slice R' l' cr') l' (acc'.flatMap intE)) (hg : W.grownBy W' (Value.slice R l cr).ownBlock)
    (hat : (Value.slice R' l' cr').ownBlock = (Value.slice R l cr).ownBlock ∨ (Value.slice R' l' cr').ownBlock = some W.heap.size) : DaR w W' g K X S q F nf cf fs A n c hs nx R' l' cr' acc' := by
  refine ⟨h.o.own h.lo hg (by decide) ?_ (by decide) (fun i p hp => ?_), ho, fun i p b hp hv => ?_, fun b hv => ?_⟩
  · cases hv : (Value.slice F nf cf).ownBlock with
    | none => exact .inl rfl
    | some b => exact .inr fun e => h.f b hv e.symm
  · cases hv : (Value.slice p.A p.n p.c).ownBlock with
    | none => exact .inl rfl
    | some b => exact .inr fun e => h.d i p b hp hv e.symm
  · rcases hat with e | e
    · rw [e]; exact h.d i p b hp hv
    · rw [e]; intro e2; injection e2 with e2; have := (h.o.t.ge i p b hp hv).2; omega
  · rcases hat with e | e
    · rw [e]; exact h.f b hv
    · rw [e]; intro e2; injection e2 with e2; have := (h.o.f.lt b hv).2; omega
/-- the row told to the table -/
theorem DaR.place {A' : Option Addr} {c' : Nat} (h : DaR w W g K X S q F nf cf fs A n c hs nx R l cr acc) (hl : acc.length = l) (ho : W'.ownsRow w.heap.size 61 1 (.slice A' (n + 1) c') (n + 1) ((hs ++ [(⟨R, l, cr⟩ : RowH)]).flatMap encR)) (hg : W.grownBy W' (Value.slice A n c).ownBlock) :
    DaW w (W'.setCell ⟨X, 3, none⟩ (.slice A' (n + 1) c')) g K X S q F nf cf fs A' (n + 1) c' (hs ++ [⟨R, l, cr⟩]) (nx ++ [acc]) := by
  have h0 := h.o
  have hx := h0.hx
  have hgl := h0.hg
  have T9 := h0.t.push (q := ⟨R, l, cr⟩) (by decide) h.lo hl h.d ho hg
  have a1 := h0.a.grown hg (own_blk_ne h0.t.o h0.a (by decide))
  have r1 := h0.r.grown hg (own_blk_ne h0.t.o h0.r (by decide))
  have g2 := gb_set W' X 3 (.slice A' (n + 1) c')
  have f1 := h0.f.kept hg (own_ne h0.f h0.t.o (by decide))
  refine ⟨(h0.s.grown hg (fun k e => by have := (h0.t.o.lt k e).1; omega)).grown g2 (fun k e => by injection e with e; omega), a1.set_ 3 _, r1.grown g2 (by intro e; injection e with e; omega), own_keptR f1 a1 (by decide) _, T9.keptB a1 g2 (by decide) (by decide), fun i p b hp hv => ?_, hx, hgl, gb_weak' (gb_weak' h0.gr hg (own_ge h0.t.o)) g2 (fun k e => by injection e with e; omega)⟩
  have hlen := (List.getElem?_eq_some_iff.1 hp).1
  rw [List.length_append, List.length_singleton, h0.t.lg] at hlen
  by_cases hi : i < n
  · rw [List.getElem?_append_left (by rw [h0.t.lg]; exact hi)] at hp
    exact h0.d i p b hp hv
  · obtain rfl : i = n := by omega
    rw [List.getElem?_append_right (by rw [h0.t.lg]; exact Nat.le_refl _), h0.t.lg, Nat.sub_self] at hp
    obtain rfl := Option.some.inj hp
    intro e
    exact h.f b e hv
end
/-- what the draw of an automaton leaves -/
def AuD (w : World) (g K : Nat) (most : Int) (e : Ending) (w' : World) : Prop :=
  ∃ (S q : Int) (F : Option Addr) (nf cf : Nat) (A : Option Addr) (n c : Nat) (hs : List RowH) (nx : List (List Int)), e = .returned (.agg #[.int .i64 S, .int .i64 q, .slice F nf cf, .slice A n c]) ∧ 1 ≤ S ∧ S ≤ most ∧ 0 ≤ q ∧ q < S ∧ NxOk S.toNat nx ∧
    TabR 61 2 intE w' w.heap.size A n c hs nx ∧ Src w' g K ∧ w.grownBy w' (some g)
set_option maxHeartbeats 2000000 in
set_option maxRecDepth 100000 in
theorem l04Draw_any (g K : Nat) (most : Int) (w : World) (h : Src w g K) (hK : K ≤ 10000000) (hm0 : 1 ≤ most) (hm : most ≤ 24) :
    Calls Tryz.prog 55 #[.pointer (some ⟨g, 0, none⟩), .int .i64 most] w (AuD w g (K + 1000) most) := by
  have hg := h.lt
  have R0 := Lib.hid (Blk.new w 99 #[.int .i64 0, .int .i64 0, .slice none 0 0, .slice none 0 0])
  have S0 := Lib.hid (h.next ((Below.refl w.heap.size w).alloc (Nat.le_refl _) (.cells #[.int .i64 0, .int .i64 0, .slice none 0 0, .slice none 0 0] 99)))
  clear h
  go_enter Tryz.func55, Tryz.ntmps55
  go_upto_region 2 with
    (go_at_call 58
     refine (pick_any g K most most _ S0.out (by omega) (by omega) (by omega)).mono ?_
     rintro e w1 ⟨v, rfl, v0, v1, s1, g1⟩
     have uv : IntKind.i64.wrap (1 + v) = 1 + v := IntWalk.i64_in _ (by omega))
  refine named fun w2 H2 => ?_
  obtain ⟨Sv, hSv⟩ : ∃ Sv, 1 + v = Sv := ⟨_, rfl⟩
  have hS1 : 1 ≤ Sv := by omega
  have hS2 : Sv ≤ most := by omega
  have P2 := Lib.hid (show DaW w w2 g (K + 2) w1.heap.size Sv 0 none 0 0 [] none 0 0 [] [] from by
    rw [H2.out, ← hSv]
    exact ⟨s1.next ((Below.refl _ _).alloc (Nat.le_refl _) _), Blk.new _ _ _, (R0.out.grown g1 (by intro e; injection e with e; omega)).alloc _, World.ownsRow_nil _ _ _ _, TabR.nil _ _, fun i p b h1 => by simp at h1, by have := g1.size; simp at this; omega, hg, gb_next (gb_trans (World.grownBy_alloc w _ _) g1) ((Below.refl _ _).alloc (Nat.le_refl _) _)⟩)
  obtain ⟨X, hX⟩ : ∃ X, w1.heap.size = X := ⟨_, rfl⟩
  rw [hX] at P2
  have HX := Lib.hid hX
  obtain ⟨x0, x1, x2, x3⟩ := P2.out.a.four
  have xl := P2.out.a.lt
  clear H2 s1 g1 R0 S0
  rw [hX]
  clear hX
  go_upto_region 3 with
    (go_at_call 58
     refine (pick_any g (K + 2) Sv Sv _ P2.out.s (by omega) (by omega) (by omega)).mono ?_
     rintro e w3 ⟨q, rfl, q0, q1, s3, g3⟩
     have P3 := Lib.hid (P2.out.draw s3 g3)
     have y1 := P3.out.a.cell 1
     have yf := P3.out.a.frozen 1
     have yl := P3.out.a.lt)
  refine named fun w4 H4 => ?_
  have P4 := Lib.hid (show DaW w w4 g (K + 4 + 12 * 0) X Sv q none 0 0 [] none 0 0 [] [] by rw [H4.out]; exact (P3.out.setq q).mono (by omega))
  clear H4 P3 P2 y1 yf yl x0 x1 x2 x3 xl s3 g3
  go_wp2_with fail
  go_loopw [6] (fun x_ w' => ∃ (x : Nat) (F : Option Addr) (nf cf : Nat) (fs : List Int) (A : Option Addr) (c : Nat) (hs : List RowH) (nx : List (List Int)), x_ = .int .i64 x ∧ (x : Int) ≤ Sv ∧ nf ≤ x ∧ Hid (DaW w w' g (K + 4 + 12 * x) X Sv q F nf cf fs A x c hs nx) ∧ Hid (∀ r ∈ nx, r.length = 4 ∧ ∀ z ∈ r, 0 ≤ z ∧ z < Sv)) (fun x_ _ => (Sv - intOf x_).toNat)
  case atStart => exact ⟨0, none, 0, 0, [], none, 0, [], [], rfl, by omega, by omega, P4, Lib.hid (fun r hr => by simp at hr)⟩
  case round =>
    obtain ⟨x, F, nf, cf, fs, A, c, hs, nx, rfl, hx, hnf, HP, HN⟩ := hrel
    clear P4
    obtain ⟨x0, x1, x2, x3⟩ := HP.out.a.four
    have xl := HP.out.a.lt
    by_cases hlt : (x : Int) < Sv
    · go_upto_region 7 with fail
      refine named fun w5 H5 => ?_
      have P5 := Lib.hid (show DaR w w5 g (K + 4 + 12 * x + 2 * 0) X Sv q F nf cf fs A x c hs nx (some ⟨wr.heap.size, 0, none⟩) 0 0 [] from by
        rw [H5.out]
        refine ⟨(HP.out.alloc _).mono (by omega), ?_, fun i p b hp hv e => ?_, fun b hv e => ?_⟩
        · simpa using World.ownsRow_made (base := w.heap.size) (e := 2) (size := 1) wr #[] 0 (by have := HP.out.gr.size; omega) (by unfold maxLen; omega) rfl
        · injection e with e; have := (HP.out.t.ge i p b hp hv).2; have e' : wr.heap.size = b := e; omega
        · injection e with e; have := (HP.out.f.lt b hv).2; have e' : wr.heap.size = b := e; omega)
      clear H5 HP x0 x1 x2 x3 xl
      go_wp2_with fail
      go_loopw [7, 8] (fun o_ i_ w' => ∃ (l : Nat) (R : Option Addr) (cr : Nat) (acc : List Int), i_ = .int .i64 l ∧ o_ = .slice R l cr ∧ l ≤ 4 ∧ Hid (DaR w w' g (K + 4 + 12 * x + 2 * l) X Sv q F nf cf fs A x c hs nx R l cr acc) ∧ Hid (acc.length = l) ∧ Hid (∀ z ∈ acc, 0 ≤ z ∧ z < Sv)) (fun _ i_ _ => 4 - (intOf i_).toNat)
      case atStart => exact ⟨0, _, 0, [], rfl, rfl, by omega, P5, Lib.hid rfl, Lib.hid (fun z hz => by simp at hz)⟩
      case round =>
        obtain ⟨l, R, cr, acc, rfl, rfl, hl4, HR, HA, HZ⟩ := hrel
        clear P5
        obtain ⟨x0, x1, x2, x3⟩ := HR.out.o.a.four
        have xl := HR.out.o.a.lt
        by_cases hl : l < 4
        · have i1 : (l : Int) < 4 := by omega
          go_wp2_with
            (first
              | (go_at_call 58
                 refine (pick_any g (K + 4 + 12 * x + 2 * l) Sv Sv _ HR.out.o.s (by omega) (by omega) (by omega)).mono ?_
                 rintro e w6 ⟨u, rfl, u0, u1, s6, g6⟩
                 have P6 := Lib.hid (HR.out.draw s6 g6)
                 have P7 := Lib.hid (P6.out.alloc (.cells #[.int .i64 u] 2)))
              | (at_builtin
                 refine wpList_pushG rfl _ _ _ rfl w.heap.size 2 1 8 elem_int intE R l cr acc rfl P7.out.lo w6.heap.size (u : Int) _ _ _ rfl (heap_alloc_new _ _) rfl rfl (by simp [intE, Value.oneCell']) (by omega) (by omega) (by unfold maxLen; omega) P7.out.o.gr.size ?_
                 intro A9 c9 w9 own9 hg9 at9
                 have P9 := Lib.hid (P7.out.push own9 hg9 at9)
                 clear own9 hg9 at9))
          go_roundw
          case rel => exact ⟨l + 1, A9, c9, acc ++ [u], by go_num, rfl, by omega, P9, Lib.hid (by rw [List.length_append, HA.out]; rfl), Lib.hid (fun z hz => by
            rcases List.mem_append.1 hz with hz | hz
            · exact HZ.out z hz
            · rw [List.mem_singleton.1 hz]; exact ⟨u0, u1⟩)⟩
          case measure => simp [intOf]; omega
        · obtain rfl : l = 4 := by omega
          have i1 : ¬ ((4 : Nat) : Int) < 4 := by omega
          have P4 := Lib.hid (HR.out.alloc (.cells #[.slice R 4 cr] 61))
          have hln := HA.out
          have HN2 := Lib.hid (show ∀ r ∈ nx ++ [acc], r.length = 4 ∧ ∀ z ∈ r, 0 ≤ z ∧ z < Sv from fun r hr => by
            rcases List.mem_append.1 hr with hr | hr
            · exact HN.out r hr
            · rw [List.mem_singleton.1 hr]; exact ⟨hln, HZ.out⟩)
          go_upto_region 12 with
            (at_builtin
             refine wpList_pushG rfl _ _ _ rfl w.heap.size 61 1 24 elemTD encR A x c hs rfl P4.out.o.t.o wr.heap.size (⟨R, 4, cr⟩ : RowH) #[.slice R 4 cr] 61 (0, 0) rfl (heap_alloc_new _ _) rfl rfl (by simp [encR, Value.oneCell']) (by omega) (by omega) (by unfold maxLen; omega) P4.out.o.gr.size ?_
             intro A9 c9 w9 own9 hg9 _
             have P9 := Lib.hid (P4.out.place hln own9 hg9)
             have M9 := P4.out.o.a.grown hg9 (own_blk_ne P4.out.o.t.o P4.out.o.a (by decide))
             have m3 := M9.cell 3
             have ml := M9.lt
             have mf := M9.frozen 3
             clear own9 hg9 M9)
          refine named fun w5 H5 => ?_
          have P5 := Lib.hid (show DaW w w5 g (K + 4 + 12 * x + 8) X Sv q F nf cf fs A9 (x + 1) c9 (hs ++ [⟨R, 4, cr⟩]) (nx ++ [acc]) by rw [H5.out]; exact P9.out.mono (by omega))
          clear H5 P9 P4 HR m3 ml mf x0 x1 x2 x3 xl
          go_wp2_with fail
          refine (one_any g (K + 4 + 12 * x + 8) 3 _ P5.out.s (by omega) (by omega)).mono ?_
          rintro e w6 ⟨bb, rfl, s6, g6⟩
          have P6 := Lib.hid (P5.out.draw s6 g6)
          clear s6 g6 P5
          obtain ⟨x0, x1, x2, x3⟩ := P6.out.a.four
          have xl := P6.out.a.lt
          cases bb
          · go_wp2_with fail
            go_roundw
            case rel => exact ⟨x + 1, F, nf, cf, fs, A9, c9, _, _, by go_num, by omega, by omega, Lib.hid (P6.out.mono (by omega)), HN2⟩
            case measure => simp [intOf]; omega
          · have P7 := Lib.hid (P6.out.alloc (.cells #[.int .i64 (x : Int)] 2))
            go_wp2_with
              (at_builtin
               refine wpList_pushG rfl _ _ _ rfl w.heap.size 2 1 8 elem_int intE F nf cf fs rfl P7.out.f w6.heap.size (x : Int) _ _ _ rfl (heap_alloc_new _ _) rfl rfl (by simp [intE, Value.oneCell']) (by omega) (by omega) (by unfold maxLen; omega) P7.out.gr.size ?_
               intro A8 c8 w8 own8 hg8 at8
               have P8 := Lib.hid (P7.out.fin own8 hg8 at8)
               have M8 := P7.out.a.grown hg8 (own_blk_ne P7.out.f P7.out.a (by decide))
               have m2 := M8.cell 2
               have ml := M8.lt
               have mf := M8.frozen 2
               clear own8 hg8 at8 M8)
            go_roundw
            case rel => exact ⟨x + 1, A8, nf + 1, c8, fs ++ [(x : Int)], A9, c9, _, _, by go_num, by omega, by omega, Lib.hid (P8.out.mono (by omega)), HN2⟩
            case measure => simp [intOf]; omega
    · have hxe : (x : Int) = Sv := by omega
      have r0 := HP.out.r.four
      obtain ⟨r0, r1, r2, r3⟩ := r0
      have rl := HP.out.r.lt
      have rf0 := HP.out.r.frozen 0
      have rf1 := HP.out.r.frozen 1
      have rf2 := HP.out.r.frozen 2
      have rf3 := HP.out.r.frozen 3
      have B4 := Lib.hid (HP.out.r.set4 (.int .i64 Sv) (.int .i64 q) (.slice F nf cf) (.slice A x c))
      obtain ⟨z0, z1, z2, z3⟩ := B4.out.four
      have g4 := gb_set4 wr w.heap.size (.int .i64 Sv) (.int .i64 q) (.slice F nf cf) (.slice A x c)
      have HT := Lib.hid (HP.out.t.keptB HP.out.r g4 (by decide) (by decide))
      have HS := Lib.hid (HP.out.s.grown g4 (fun k e => by injection e with e; omega))
      have HG := Lib.hid (gb_weak' HP.out.gr g4 (fun k e => by injection e with e; omega))
      have HNx := Lib.hid (show NxOk Sv.toNat nx from ⟨by rw [HP.out.t.lx]; omega, fun r hr => ⟨(HN.out r hr).1, fun z hz => by have := (HN.out r hr).2 z hz; omega⟩⟩)
      clear g4 HN HP B4
      unfold set4 at z0 z1 z2 z3 HT HS HG
      go_wp2_with fail
      exact bodyPost_ret (v := .agg #[.int .i64 Sv, .int .i64 q, .slice F nf cf, .slice A x c]) (by simp [results, Tryz.results55, go_sem, z0, z1, z2, z3]) rfl ⟨Sv, q, F, nf, cf, A, x, c, hs, nx, rfl, hS1, hS2, q0, q1, HNx.out, HT.out, HS.out.mono (by omega), HG.out⟩
end Go.Proofs.YtmdmgndhapdmgaaGreat


/-
  Tables copied: toInt64SS, toStringSS.
-/
namespace Go.Proofs.YtmdmgndhapdmgaaGreat
open Go.RowKit

end Go.Proofs.YtmdmgndhapdmgaaGreat


/-
  A drawn coder.
-/
namespace Go.Proofs.YtmdmgndhapdmgaaGreat
open Go.RowKit

set_option maxHeartbeats 1000000 in
set_option maxRecDepth 100000 in
theorem l01Drawn3_any (g K : Nat) (most : Int) (w : World) (h : Src w g K) (hK : K ≤ 10000000) (hm0 : 0 ≤ most) (hm : most ≤ 10) :
    Calls Tryz.prog 56 #[.pointer (some ⟨g, 0, none⟩), .int .i64 most] w (StrDraw w g (K + 100) most) := by
  have hg := h.lt
  go_enter Tryz.func56, Tryz.ntmps56
  go_wp2_with fail
  refine (pick_any g K 3 3 _ h (by omega) (by omega) (by omega)).mono ?_
  rintro e w1 ⟨v, rfl, v0, v1, s1, g1⟩
  go_wp2_with fail
  have g1' := gb_trans g1 (World.grownBy_alloc w1 (.cells #[] 5) _)
  refine (pick_any g (K + 2) (most + 1) (most + 1) _ (s1.grown (World.grownBy_alloc w1 (.cells #[] 5) none) (fun k e => by cases e)) (by omega) (by omega) (by omega)).mono ?_
  rintro e w2 ⟨k, rfl, k0, k1, s2, g2⟩
  have g2' := Lib.hid (gb_trans g1' g2)
  have own2 := Lib.hid (own_kept (by simpa using World.ownsRow_made (base := w.heap.size) (e := 5) (size := 1) w1 #[] 0 (by have := g1.size; omega) (by unfold maxLen; omega) rfl) g2 hg)
  have S2 := Lib.hid s2
  clear s2 g2 g1' g1 s1 h
  go_wp2_with fail
  go_loopw [6, 7] (fun o_ k_ w' => ∃ (z : Int) (out : List UInt8) (A : Option Addr) (n c : Nat), k_ = .int .i64 z ∧ o_ = .slice A n c ∧ 0 ≤ z ∧ (n : Int) + z ≤ most ∧ Hid (out.length = n) ∧
      Hid (w'.ownsRow w.heap.size 5 1 (.slice A n c) n (out.flatMap byteE)) ∧ Hid (out.all letB = true) ∧ Hid (Src w' g (K + 4 + 2 * n)) ∧ Hid (w.grownBy w' (some g))) (fun _ k_ _ => (intOf k_).toNat)
  case atStart => exact ⟨k, [], _, 0, 0, rfl, rfl, k0, by omega, Lib.hid rfl, own2, Lib.hid rfl, S2, g2'⟩
  case round =>
    obtain ⟨z, out, A, n, c, rfl, rfl, hz0, hz1, ho, hown, hlet, hs, hgr⟩ := hrel
    by_cases hlt : 0 < z
    · go_wp2_with fail
      refine (pick_any g (K + 4 + 2 * n) (1 + v) 3 _ hs.out (by omega) (by omega) (by omega)).mono ?_
      rintro e w3 ⟨u, rfl, u0, u1, s3, g3⟩
      obtain ⟨hb1, hb2⟩ := byteE_of u0 (show u < 4 by omega)
      have Hb1 := Lib.hid hb1; have Hb2 := Lib.hid hb2; clear hb1 hb2
      have own3 := Lib.hid (own_kept hown.out g3 hg)
      have gr3 := Lib.hid (gb_trans hgr.out g3)
      have sz3 := gr3.out.size
      have S3 := Lib.hid s3; clear s3
      have G3 := Lib.hid g3; clear g3
      go_wp2_with
        (at_builtin
         refine wpList_pushG rfl _ _ _ rfl w.heap.size 5 1 1 elem_byte byteE A n c out rfl (own3.out.alloc _) w3.heap.size (UInt8.ofNat (97 + u.toNat)) #[.int .u8 (97 + u)] 5 (0, 0) rfl (heap_alloc_new _ _) Hb1.out rfl (by simp [byteE, Value.oneCell']) (by omega) (by omega) (by unfold maxLen; omega) (by simp; omega) ?_
         intro A' c' w4 own4 hg4 hat4
         have Own4 := Lib.hid own4; clear own4
         have Gr4 := Lib.hid (gb_weak' (gb_trans gr3.out (World.grownBy_alloc _ _ _)) hg4 (own_ge own3.out))
         have S4 := Lib.hid ((S3.out.grown (World.grownBy_alloc _ _ none) (fun k e => by cases e)).grown hg4 (fun k e => by have := own_ge own3.out k e; omega))
         clear hat4 hg4)
      go_roundw
      case rel => exact ⟨z - 1, out ++ [UInt8.ofNat (97 + u.toNat)], A', n + 1, c', by go_num, rfl, by omega, by omega, Lib.hid (by rw [List.length_append, ho.out]; rfl), Own4, Lib.hid (by rw [List.all_append, hlet.out]; simpa using Hb2.out), Lib.hid (S4.out.mono (by omega)), Gr4⟩
      case measure => simp [intOf]; omega
    · have hcv := conv_own hown.out ho.out
      go_wp2_with fail
      refine (one_any g (K + 4 + 2 * n) 3 _ hs.out (by omega) (by omega)).mono ?_
      rintro e w3 ⟨b, rfl, s3, g3⟩
      have gr3 := Lib.hid (gb_trans hgr.out g3)
      have S3 := Lib.hid s3; clear s3 g3
      have hsz : (⟨out.toArray⟩ : ByteArray).size = n := by rw [← ho.out]; simp [ByteArray.size]
      have Hlet : Hid ((⟨out.toArray⟩ : ByteArray).data.toList.all letB = true) := by simpa using hlet
      generalize (⟨out.toArray⟩ : ByteArray) = s at *
      have hs1 : s.size ≤ n := by omega
      have hs2 : n ≤ s.size := by omega
      clear hsz
      by_cases hn0 : s.size = 0
      · cases b
        all_goals
          go_wp2_with fail
          go_ret
          exact ⟨s, rfl, by omega, Hlet.out, S3.out.mono (by omega), gr3.out⟩
      cases b
      · go_wp2_with fail
        go_ret
        exact ⟨s, rfl, by omega, Hlet.out, S3.out.mono (by omega), gr3.out⟩
      have hn1 : 0 < s.size := by omega
      clear hn0
      go_wp2_with fail
      refine (pick_any g (K + 4 + 2 * n + 2) s.size s.size _ S3.out (by omega) (by omega) (by omega)).mono ?_
      rintro e w4 ⟨p, rfl, p0, p1, s4, g4⟩
      have gr4 := Lib.hid (gb_trans gr3.out g4)
      have S4 := Lib.hid s4; clear s4 g4 gr3 S3 hown hs hgr own2 S2 g2' ho hlet hcv
      have hex := Lib.hid (ext_let Hlet.out 0 (1 + p).toNat)
      have hes : (s.extract 0 (1 + p).toNat).size = min (1 + p).toNat s.size - 0 := ByteArray.size_extract
      have he1 : (s.extract 0 (1 + p).toNat).size ≤ s.size := by omega
      have he2 : 0 < (s.extract 0 (1 + p).toNat).size := by omega
      go_wp2_with fail
      go_loopw [9] (fun r_ w' => ∃ r : ByteArray, r_ = .string r ∧ 0 < r.size ∧ r.size ≤ 20 ∧ Hid (r.data.toList.all letB = true) ∧ Hid (Src w' g (K + 8 + 2 * n + 2 * r.size)) ∧ Hid (w.grownBy w' (some g))) (fun r_ _ => most.toNat - strLen r_)
      case atStart => exact ⟨_, rfl, he2, by omega, hex, Lib.hid (S4.out.mono (by omega)), gr4⟩
      case round =>
        obtain ⟨r, rfl, hr0, hr1, hrl, hrs, hrg⟩ := hrel
        clear he1 he2 hes hex gr4 S4
        by_cases hlt2 : (r.size : Int) < most
        · go_wp2_with fail
          refine (one_any g (K + 8 + 2 * n + 2 * r.size) 2 _ hrs.out (by omega) (by omega)).mono ?_
          rintro e w5 ⟨b, rfl, s5, g5⟩
          have gr5 := Lib.hid (gb_trans hrg.out g5)
          have S5 := Lib.hid s5; clear s5 g5
          cases b
          · have hle : decide ((r.size : Int) ≤ most) = true := decide_eq_true (by omega)
            go_wp2_with fail
            go_ret
            exact ⟨r, rfl, by omega, hrl.out, S5.out.mono (by omega), gr5.out⟩
          · have hrr : (r ++ r).size = r.size + r.size := ByteArray.size_append
            have hl2 := Lib.hid (show (r ++ r).data.toList.all letB = true by rw [ByteArray.data_append, Array.toList_append, List.all_append, hrl.out]; rfl)
            have Hrr := Lib.hid hrr; clear hrr
            go_wp2_with fail
            go_roundw
            case rel => exact ⟨r ++ r, rfl, by rw [Hrr.out]; omega, by rw [Hrr.out]; omega, hl2, Lib.hid (S5.out.mono (by rw [Hrr.out]; omega)), gr5⟩
            case measure => simp [strLen]; omega
        · by_cases hle : (r.size : Int) ≤ most
          · go_wp2_with fail
            go_ret
            exact ⟨r, rfl, by omega, hrl.out, hrs.out.mono (by omega), hrg.out⟩
          · go_wp2_with fail
            go_ret
            exact ⟨s, rfl, by omega, Hlet.out, hrs.out.mono (by omega), hrg.out⟩
theorem elemSD : Elem Tryz.prog 60 9 1 16 := Elem.mk' (z := .string .empty) Tryz.underlying60 (by kernel_rfl) rfl
theorem elemTS : Elem Tryz.prog 25 60 1 24 := Elem.mk' (z := .slice none 0 0) Tryz.underlying25 (by kernel_rfl) rfl
theorem tab_grown {α : Type} {EH E : TypeId} {enc : α → List Value} {w W W' : World} {g : Nat} {A : Option Addr} {n c : Nat} {hs : List RowH} {nx : List (List α)} (h : TabR EH E enc W w.heap.size A n c hs nx) (hg : W.grownBy W' (some g)) (hlt : g < w.heap.size) : TabR EH E enc W' w.heap.size A n c hs nx :=
  h.kept hg (by
    cases hv : (Value.slice A n c).ownBlock with
    | none => exact .inl rfl
    | some k => exact .inr fun e => by have := (h.o.lt k hv).1; injection e with e; omega) (fun i q hq => by
    cases hv : (Value.slice q.A q.n q.c).ownBlock with
    | none => exact .inl rfl
    | some k => exact .inr fun e => by have := (h.ge i q k hq hv).1; injection e with e; omega)
/-- a coder under way -/
structure DcW (w W : World) (g K AX M : Nat) (S q : Int) (FV : Value) (A : Option Addr) (n c : Nat) (hs : List RowH) (nx : List (List Int)) (O : Option Addr) (no co : Nat) (os : List RowH) (ot : List (List ByteArray)) : Prop where
  s : Src W g K
  a : Blk W AX 99 #[.int .i64 S, .int .i64 q, FV, .slice A n c]
  m : Blk W M 27 #[.int .i64 S, .int .i64 q, .slice A n c, .slice O no co]
  r : Blk W w.heap.size 27 #[.int .i64 0, .int .i64 0, .slice none 0 0, .slice none 0 0]
  t : TabR 61 2 intE W w.heap.size A n c hs nx
  o : TabR 60 9 strEM W w.heap.size O no co os ot
  hm : w.heap.size < M
  hg : g < w.heap.size
  hax : w.heap.size ≤ AX
  gr : w.grownBy W (some g)
section
variable {w W W' : World} {g K K' AX M : Nat} {S q : Int} {FV : Value} {A : Option Addr} {n c : Nat} {hs : List RowH} {nx : List (List Int)} {O : Option Addr} {no co : Nat} {os : List RowH} {ot : List (List ByteArray)}
theorem DcW.draw (h : DcW w W g K AX M S q FV A n c hs nx O no co os ot) (hs' : Src W' g K') (hg : W.grownBy W' (some g)) : DcW w W' g K' AX M S q FV A n c hs nx O no co os ot :=
  have h1 := h.hm; have h2 := h.hg; have h3 := h.hax
  ⟨hs', h.a.grown hg (by intro e; injection e with e; omega), h.m.grown hg (by intro e; injection e with e; omega), h.r.grown hg (by intro e; injection e with e; omega), tab_grown h.t hg h.hg, tab_grown h.o hg h.hg, h.hm, h.hg, h.hax, gb_trans h.gr hg⟩
theorem DcW.next (h : DcW w W g K AX M S q FV A n c hs nx O no co os ot) (hb : Below W.heap.size W W') : DcW w W' g K AX M S q FV A n c hs nx O no co os ot :=
  ⟨h.s.next hb, h.a.next hb, h.m.next hb, h.r.next hb, h.t.next hb, h.o.next hb, h.hm, h.hg, h.hax, gb_next h.gr hb⟩
theorem DcW.alloc (h : DcW w W g K AX M S q FV A n c hs nx O no co os ot) (x : Obj) : DcW w (W.alloc x) g K AX M S q FV A n c hs nx O no co os ot := h.next ((Below.refl _ _).alloc (Nat.le_refl _) x)
theorem DcW.mono (h : DcW w W g K AX M S q FV A n c hs nx O no co os ot) (hK : K ≤ K') : DcW w W g K' AX M S q FV A n c hs nx O no co os ot := ⟨h.s.mono hK, h.a, h.m, h.r, h.t, h.o, h.hm, h.hg, h.hax, h.gr⟩
end
/-- with a row under way -/
structure DcR (w W : World) (g K AX M : Nat) (S q : Int) (FV : Value) (A : Option Addr) (n c : Nat) (hs : List RowH) (nx : List (List Int)) (O : Option Addr) (no co : Nat) (os : List RowH) (ot : List (List ByteArray)) (R : Option Addr) (l cr : Nat) (acc : List ByteArray) : Prop where
  o : DcW w W g K AX M S q FV A n c hs nx O no co os ot
  lo : W.ownsRow w.heap.size 9 1 (.slice R l cr) l (acc.flatMap strEM)
  d : ∀ (i : Nat) (p : RowH) (b : Nat), os[i]? = some p → (Value.slice p.A p.n p.c).ownBlock = some b → (Value.slice R l cr).ownBlock ≠ some b
section
variable {w W W' : World} {g K K' AX M : Nat} {S q : Int} {FV : Value} {A : Option Addr} {n c : Nat} {hs : List RowH} {nx : List (List Int)} {O : Option Addr} {no co : Nat} {os : List RowH} {ot : List (List ByteArray)} {R : Option Addr} {l cr : Nat} {acc : List ByteArray}
theorem DcR.draw (h : DcR w W g K AX M S q FV A n c hs nx O no co os ot R l cr acc) (hs' : Src W' g K') (hg : W.grownBy W' (some g)) : DcR w W' g K' AX M S q FV A n c hs nx O no co os ot R l cr acc := ⟨h.o.draw hs' hg, own_kept h.lo hg h.o.hg, h.d⟩
theorem DcR.next (h : DcR w W g K AX M S q FV A n c hs nx O no co os ot R l cr acc) (hb : Below W.heap.size W W') : DcR w W' g K AX M S q FV A n c hs nx O no co os ot R l cr acc := ⟨h.o.next hb, own_next h.lo hb, h.d⟩
theorem DcR.alloc (h : DcR w W g K AX M S q FV A n c hs nx O no co os ot R l cr acc) (x : Obj) : DcR w (W.alloc x) g K AX M S q FV A n c hs nx O no co os ot R l cr acc := h.next ((Below.refl _ _).alloc (Nat.le_refl _) x)
theorem DcR.push {R' : Option Addr} {cr' l' : Nat} {acc' : List ByteArray} (h : DcR w W g K AX M S q FV A n c hs nx O no co os ot R l cr acc) (ho : W'.ownsRow w.heap.size 9 1 (.slice R' l' cr') l' (acc'.flatMap strEM)) (hg : W.grownBy W' (Value.slice R l cr).ownBlock)
    (hat : (Value.slice R' l' cr').ownBlock = (Value.slice R l cr).ownBlock ∨ (Value.slice R' l' cr').ownBlock = some W.heap.size) : DcR w W' g K AX M S q FV A n c hs nx O no co os ot R' l' cr' acc' := by
  have h0 := h.o
  refine ⟨⟨h0.s.grown hg (fun k e => by have := (h.lo.lt k e).1; have := h0.hg; omega), h0.a.grown hg (own_blk_ne h.lo h0.a (by decide)), h0.m.grown hg (own_blk_ne h.lo h0.m (by decide)), h0.r.grown hg (own_blk_ne h.lo h0.r (by decide)), h0.t.keptN h.lo hg (by decide) (by decide), h0.o.kept hg (own_ne h0.o.o h.lo (by decide)) (fun i p hp => ?_), h0.hm, h0.hg, h0.hax, gb_weak' h0.gr hg (own_ge h.lo)⟩, ho, fun i p b hp hv => ?_⟩
  · cases hv : (Value.slice p.A p.n p.c).ownBlock with
    | none => exact .inl rfl
    | some b => exact .inr fun e => h.d i p b hp hv e.symm
  · rcases hat with e | e
    · rw [e]; exact h.d i p b hp hv
    · rw [e]; intro e2; injection e2 with e2; have := (h0.o.ge i p b hp hv).2; omega
theorem DcR.place {O' : Option Addr} {co' : Nat} (h : DcR w W g K AX M S q FV A n c hs nx O no co os ot R l cr acc) (hl : acc.length = l) (hax : AX ≠ M) (ho : W'.ownsRow w.heap.size 60 1 (.slice O' (no + 1) co') (no + 1) ((os ++ [(⟨R, l, cr⟩ : RowH)]).flatMap encR)) (hg : W.grownBy W' (Value.slice O no co).ownBlock) :
    DcW w (W'.setCell ⟨M, 3, none⟩ (.slice O' (no + 1) co')) g K AX M S q FV A n c hs nx O' (no + 1) co' (os ++ [⟨R, l, cr⟩]) (ot ++ [acc]) := by
  have h0 := h.o
  have hx := h0.hm
  have hgl := h0.hg
  have T9 := h0.o.push (q := ⟨R, l, cr⟩) (by decide) h.lo hl h.d ho hg
  have m1 := h0.m.grown hg (own_blk_ne h0.o.o h0.m (by decide))
  have a1 := h0.a.grown hg (own_blk_ne h0.o.o h0.a (by decide))
  have r1 := h0.r.grown hg (own_blk_ne h0.o.o h0.r (by decide))
  have t1 := h0.t.keptN h0.o.o hg (by decide) (by decide)
  have g2 := gb_set W' M 3 (.slice O' (no + 1) co')
  exact ⟨(h0.s.grown hg (fun k e => by have := (h0.o.o.lt k e).1; omega)).grown g2 (fun k e => by injection e with e; omega), a1.grown g2 (by intro e; injection e with e; exact hax e), m1.set_ 3 _, r1.grown g2 (by intro e; injection e with e; omega), t1.keptB m1 g2 (by decide) (by decide), T9.keptB m1 g2 (by decide) (by decide), hx, hgl, h0.hax, gb_weak' (gb_weak' h0.gr hg (own_ge h0.o.o)) g2 (fun k e => by injection e with e; omega)⟩
end
/-- what the draw of a coder leaves -/
def CdD (w : World) (g K : Nat) (e : Ending) (w' : World) : Prop :=
  ∃ (S q : Int) (A : Option Addr) (n c : Nat) (hs : List RowH) (nx : List (List Int)) (O : Option Addr) (no co : Nat) (os : List RowH) (ot : List (List ByteArray)), e = .returned (.agg #[.int .i64 S, .int .i64 q, .slice A n c, .slice O no co]) ∧ 1 ≤ S ∧ S ≤ 24 ∧ 0 ≤ q ∧ q < S ∧ NxOk S.toNat nx ∧ OtOk S.toNat ot ∧
    TabR 61 2 intE w' w.heap.size A n c hs nx ∧ TabR 60 9 strEM w' w.heap.size O no co os ot ∧ Src w' g K ∧ w.grownBy w' (some g)
end Go.Proofs.YtmdmgndhapdmgaaGreat


/-
  A drawn coder: the walk.
-/
namespace Go.Proofs.YtmdmgndhapdmgaaGreat
open Go.RowKit

theorem okW_of {t : ByteArray} (h1 : t.size ≤ 6) (h2 : t.data.toList.all letB = true) : okW t = true ∧ t.size ≤ 6 := by
  refine ⟨?_, h1⟩
  unfold okW
  rw [h2, Bool.and_true, decide_eq_true_eq]; omega
set_option maxHeartbeats 2000000 in
set_option maxRecDepth 100000 in
theorem l04DrawCoder_any (g K : Nat) (w : World) (h : Src w g K) (hK : K ≤ 1000000) :
    Calls Tryz.prog 18 #[.pointer (some ⟨g, 0, none⟩), .int .i64 3] w (CdD w g (K + 10000)) := by
  have hg := h.lt
  have R0 := Lib.hid (Blk.new w 27 #[.int .i64 0, .int .i64 0, .slice none 0 0, .slice none 0 0])
  have S0 := Lib.hid (h.next ((Below.refl w.heap.size w).alloc (Nat.le_refl _) (.cells #[.int .i64 0, .int .i64 0, .slice none 0 0, .slice none 0 0] 27)))
  clear h
  go_enter Tryz.func18, Tryz.ntmps18
  go_upto_region 3 with
    (go_at_call 55
     refine (l04Draw_any g K 3 _ S0.out (by omega) (by omega) (by omega)).mono ?_
     rintro e w1 ⟨S, q, F, nf, cf, A, n, c, hs, nx, rfl, hS1, hS2, q0, q1, hnx, t1, s1, g1⟩)
  refine named fun w2 H2 => ?_
  have hw1 : w.heap.size + 1 ≤ w1.heap.size := by have := g1.size; simpa using this
  have P2 := Lib.hid (show DcW w w2 g (K + 1000 + 500 * 0) w1.heap.size (w1.heap.size + 1) S q (.slice F nf cf) A n c hs nx none 0 0 [] [] from by
    rw [H2.out]
    refine ⟨(s1.next (((Below.refl _ _).alloc (Nat.le_refl _) _).alloc (by simp) _)).mono (by omega), (Blk.new _ _ _).alloc _, ?_, ((R0.out.grown g1 (by intro e; injection e with e; omega)).alloc _).alloc _, ((t1.mono (by simp)).alloc _).alloc _, TabR.nil _ _, by omega, hg, by omega, gb_next (gb_trans (World.grownBy_alloc w _ _) g1) (((Below.refl _ _).alloc (Nat.le_refl _) _).alloc (by simp) _)⟩
    have h := Blk.new (w1.alloc (.cells #[.int .i64 S, .int .i64 q, .slice F nf cf, .slice A n c] 99)) 27 #[.int .i64 S, .int .i64 q, .slice A n c, .slice none 0 0]
    rw [show (w1.alloc (.cells #[.int .i64 S, .int .i64 q, .slice F nf cf, .slice A n c] 99)).heap.size = w1.heap.size + 1 by simp] at h
    exact h)
  obtain ⟨AX, hAX⟩ : ∃ AX, w1.heap.size = AX := ⟨_, rfl⟩
  have HNX := Lib.hid hnx
  rw [hAX] at P2 ⊢
  have hax : AX ≠ AX + 1 := by omega
  obtain ⟨M, hM⟩ : ∃ M, AX + 1 = M := ⟨_, rfl⟩
  rw [hM] at P2 hax ⊢
  clear H2 s1 g1 t1 R0 S0 hAX hw1 hM hnx
  go_wp2_with fail
  go_loopw [7] (fun x_ w' => ∃ (x : Nat) (O : Option Addr) (co : Nat) (os : List RowH) (ot : List (List ByteArray)), x_ = .int .i64 x ∧ (x : Int) ≤ S ∧ Hid (DcW w w' g (K + 1000 + 500 * x) AX M S q (.slice F nf cf) A n c hs nx O x co os ot) ∧ Hid (∀ r ∈ ot, r.length = 4 ∧ ∀ t ∈ r, okW t = true ∧ t.size ≤ 6)) (fun x_ _ => (S - intOf x_).toNat)
  case atStart => exact ⟨0, none, 0, [], [], rfl, by omega, P2, Lib.hid (fun r hr => by simp at hr)⟩
  case round =>
    obtain ⟨x, O, co, os, ot, rfl, hx, HP, HN⟩ := hrel
    clear P2
    obtain ⟨x0, x1, x2, x3⟩ := HP.out.a.four
    have xl := HP.out.a.lt
    by_cases hlt : (x : Int) < S
    · go_upto_region 7 with fail
      refine named fun w5 H5 => ?_
      have P5 := Lib.hid (show DcR w w5 g (K + 1000 + 500 * x + 110 * 0) AX M S q (.slice F nf cf) A n c hs nx O x co os ot (some ⟨wr.heap.size, 0, none⟩) 0 0 [] from by
        rw [H5.out]
        refine ⟨(HP.out.alloc _).mono (by omega), ?_, fun i p b hp hv e => ?_⟩
        · simpa using World.ownsRow_made (base := w.heap.size) (e := 9) (size := 1) wr #[] 0 (by have := HP.out.gr.size; omega) (by unfold maxLen; omega) rfl
        · injection e with e; have := (HP.out.o.ge i p b hp hv).2; have e' : wr.heap.size = b := e; omega)
      clear H5 HP x0 x1 x2 x3 xl
      go_wp2_with fail
      go_loopw [8, 9] (fun o_ i_ w' => ∃ (l : Nat) (R : Option Addr) (cr : Nat) (acc : List ByteArray), i_ = .int .i64 l ∧ o_ = .slice R l cr ∧ l ≤ 4 ∧ Hid (DcR w w' g (K + 1000 + 500 * x + 110 * l) AX M S q (.slice F nf cf) A n c hs nx O x co os ot R l cr acc) ∧ Hid (acc.length = l) ∧ Hid (∀ t ∈ acc, okW t = true ∧ t.size ≤ 6)) (fun _ i_ _ => 4 - (intOf i_).toNat)
      case atStart => exact ⟨0, _, 0, [], rfl, rfl, by omega, P5, Lib.hid rfl, Lib.hid (fun z hz => by simp at hz)⟩
      case round =>
        obtain ⟨l, R, cr, acc, rfl, rfl, hl4, HR, HA, HZ⟩ := hrel
        clear P5
        obtain ⟨x0, x1, x2, x3⟩ := HR.out.o.m.four
        have xl := HR.out.o.m.lt
        by_cases hl : l < 4
        · have i1 : (l : Int) < 4 := by omega
          go_wp2_with fail
          refine (l01Drawn3_any g (K + 1000 + 500 * x + 110 * l) 3 _ HR.out.o.s (by omega) (by omega) (by omega)).mono ?_
          rintro e w6 ⟨t, rfl, ht3, htl, s6, g6⟩
          have P6 := Lib.hid (HR.out.draw s6 g6)
          have HT := Lib.hid (okW_of (t := t) (by omega) htl)
          clear s6 g6 htl HR
          go_wp2_with fail
          refine (one_any g (K + 1000 + 500 * x + 110 * l + 100) 4 _ P6.out.o.s (by omega) (by omega)).mono ?_
          rintro e w7 ⟨bb, rfl, s7, g7⟩
          have P7 := Lib.hid (P6.out.draw s7 g7)
          clear s7 g7 P6 x0 x1 x2 x3 xl
          obtain ⟨y, hy⟩ : ∃ y : ByteArray, (if bb = true then (⟨#[]⟩ : ByteArray) else t) = y := ⟨_, rfl⟩
          have HY := Lib.hid (show okW y = true ∧ y.size ≤ 6 by
            rw [← hy]; split
            · exact okW_of (show (0 : Nat) ≤ 6 by omega) rfl
            · exact HT.out)
          have P8 := Lib.hid (P7.out.alloc (.cells #[.string y] 9))
          cases bb
          all_goals
            subst hy
            go_wp2_with
              (at_builtin
               refine wpList_pushG rfl _ _ _ rfl w.heap.size 9 1 16 elemSD strEM R l cr acc rfl P8.out.lo w7.heap.size _ _ _ _ rfl (heap_alloc_new _ _) rfl rfl (by simp [strEM, Value.oneCell']) (by omega) (by omega) (by unfold maxLen; omega) P8.out.o.gr.size ?_
               intro A9 c9 w9 own9 hg9 at9
               have P9 := Lib.hid (P8.out.push own9 hg9 at9)
               clear own9 hg9 at9)
            go_roundw
            case rel => exact ⟨l + 1, A9, c9, acc ++ [_], by go_num, rfl, by omega, Lib.hid ⟨P9.out.o.mono (by omega), P9.out.lo, P9.out.d⟩, Lib.hid (by rw [List.length_append, HA.out]; rfl), Lib.hid (fun z hz => by
              rcases List.mem_append.1 hz with hz | hz
              · exact HZ.out z hz
              · rw [List.mem_singleton.1 hz]; exact HY.out)⟩
            case measure => simp [intOf]; omega
        · obtain rfl : l = 4 := by omega
          have i1 : ¬ ((4 : Nat) : Int) < 4 := by omega
          have P4 := Lib.hid (HR.out.alloc (.cells #[.slice R 4 cr] 60))
          have hln := HA.out
          have HN2 := Lib.hid (show ∀ r ∈ ot ++ [acc], r.length = 4 ∧ ∀ t ∈ r, okW t = true ∧ t.size ≤ 6 from fun r hr => by
            rcases List.mem_append.1 hr with hr | hr
            · exact HN.out r hr
            · rw [List.mem_singleton.1 hr]; exact ⟨hln, HZ.out⟩)
          go_wp2_with
            (at_builtin
             refine wpList_pushG rfl _ _ _ rfl w.heap.size 60 1 24 elemTS encR O x co os rfl P4.out.o.o.o wr.heap.size (⟨R, 4, cr⟩ : RowH) #[.slice R 4 cr] 60 (0, 0) rfl (heap_alloc_new _ _) rfl rfl (by simp [encR, Value.oneCell']) (by omega) (by omega) (by unfold maxLen; omega) P4.out.o.gr.size ?_
             intro A9 c9 w9 own9 hg9 _
             have P9 := Lib.hid (P4.out.place hln hax own9 hg9)
             have M9 := P4.out.o.m.grown hg9 (own_blk_ne P4.out.o.o.o P4.out.o.m (by decide))
             have m3 := M9.cell 3
             have ml := M9.lt
             have mf := M9.frozen 3
             clear own9 hg9 M9)
          go_roundw
          case rel => exact ⟨x + 1, A9, c9, _, _, by go_num, by omega, Lib.hid (P9.out.mono (by omega)), HN2⟩
          case measure => simp [intOf]; omega
    · have hxe : (x : Int) = S := by omega
      obtain ⟨m0, m1, m2, m3⟩ := HP.out.m.four
      have ml := HP.out.m.lt
      obtain ⟨r0, r1, r2, r3⟩ := HP.out.r.four
      have rl := HP.out.r.lt
      have rf0 := HP.out.r.frozen 0
      have rf1 := HP.out.r.frozen 1
      have rf2 := HP.out.r.frozen 2
      have rf3 := HP.out.r.frozen 3
      have B4 := Lib.hid (HP.out.r.set4 (.int .i64 S) (.int .i64 q) (.slice A n c) (.slice O x co))
      obtain ⟨z0, z1, z2, z3⟩ := B4.out.four
      have g4 := gb_set4 wr w.heap.size (.int .i64 S) (.int .i64 q) (.slice A n c) (.slice O x co)
      have HT := Lib.hid (HP.out.t.keptB HP.out.r g4 (by decide) (by decide))
      have HO := Lib.hid (HP.out.o.keptB HP.out.r g4 (by decide) (by decide))
      have HS := Lib.hid (HP.out.s.grown g4 (fun k e => by injection e with e; omega))
      have HG := Lib.hid (gb_weak' HP.out.gr g4 (fun k e => by injection e with e; omega))
      have HOt := Lib.hid (show OtOk S.toNat ot from ⟨by rw [HP.out.o.lx]; omega, HN.out⟩)
      clear g4 HN HP B4
      unfold set4 at z0 z1 z2 z3 HT HO HS HG
      go_wp2_with fail
      exact bodyPost_ret (v := .agg #[.int .i64 S, .int .i64 q, .slice A n c, .slice O x co]) (by simp [results, Tryz.results18, go_sem, z0, z1, z2, z3]) rfl ⟨S, q, A, n, c, hs, nx, O, x, co, os, ot, rfl, hS1, by omega, q0, q1, HNX.out, HOt.out, HT.out, HO.out, HS.out.mono (by omega), HG.out⟩
/-- a drawn coder that a call owns -/
def CdNew (w : World) (e : Ending) (w' : World) : Prop :=
  ∃ (S q : Int) (A : Option Addr) (n c : Nat) (hs : List RowH) (nx : List (List Int)) (O : Option Addr) (no co : Nat) (os : List RowH) (ot : List (List ByteArray)), e = .returned (.agg #[.int .i64 S, .int .i64 q, .slice A n c, .slice O no co]) ∧ 1 ≤ S ∧ S ≤ 24 ∧ 0 ≤ q ∧ q < S ∧ NxOk S.toNat nx ∧ OtOk S.toNat ot ∧
    TabR 61 2 intE w' w.heap.size A n c hs nx ∧ TabR 60 9 strEM w' w.heap.size O no co os ot ∧ Below w.heap.size w w'
set_option maxHeartbeats 1000000 in
set_option maxRecDepth 100000 in
theorem p6Coder_any (A : Option Addr) (n c : Nat) (bs : List UInt8) (w : World) (hn : n ≤ 4096) (hr : Rd w w.heap.size A n 1 byteE bs) :
    Calls Tryz.prog 5 #[.slice A n c] w (CdNew w) := by
  have R0 := Lib.hid (Blk.new w 27 #[.int .i64 0, .int .i64 0, .slice none 0 0, .slice none 0 0])
  have HR := Lib.hid (hr.next ((Below.refl w.heap.size w).alloc (Nat.le_refl _) (.cells #[.int .i64 0, .int .i64 0, .slice none 0 0, .slice none 0 0] 27)))
  clear hr
  go_enter Tryz.func5, Tryz.ntmps5
  go_wp2_with fail
  refine (l00From_any A n c bs _ hn HR.out).mono ?_
  rintro e w1 ⟨g, rfl, hg, s1, hb1⟩
  have R1 := Lib.hid (R0.out.next hb1)
  have hgl := s1.lt
  go_wp2_with fail
  refine (l04DrawCoder_any g 0 _ s1 (by omega)).mono ?_
  rintro e w2 ⟨S, q, N, m, cn, nh, nx, O, no, co, oh, ot, rfl, h1, h2, h3, h4, h5, h6, h7, h8, h9, h10⟩
  have hw : w.heap.size + 1 ≤ g := by simpa using hg
  have hw1 := hb1.size
  have R2 := Lib.hid (R1.out.grown h10 (by intro e; injection e with e; omega))
  have b1 := Lib.hid (show Below w.heap.size w w1 from ((Below.refl _ _).alloc (Nat.le_refl _) _).trans (hb1.mono (by simp)))
  have b2 := Lib.hid (b1.out.grown h10 b1.out.size (fun k e => by injection e with e; omega))
  have T2 := Lib.hid (h7.mono b1.out.size)
  have O2 := Lib.hid (h8.mono b1.out.size)
  have r0 := R2.out.four
  obtain ⟨r0, r1, r2, r3⟩ := r0
  have rl := R2.out.lt
  have rf0 := R2.out.frozen 0
  have rf1 := R2.out.frozen 1
  have rf2 := R2.out.frozen 2
  have rf3 := R2.out.frozen 3
  have B4 := Lib.hid (R2.out.set4 (.int .i64 S) (.int .i64 q) (.slice N m cn) (.slice O no co))
  obtain ⟨z0, z1, z2, z3⟩ := B4.out.four
  have g4 := gb_set4 w2 w.heap.size (.int .i64 S) (.int .i64 q) (.slice N m cn) (.slice O no co)
  have HT := Lib.hid (T2.out.keptB R2.out g4 (by decide) (by decide))
  have HO := Lib.hid (O2.out.keptB R2.out g4 (by decide) (by decide))
  have HB := Lib.hid (b2.out.grown g4 b2.out.size (fun k e => by injection e with e; omega))
  clear g4 B4 h7 h8 h9 h10 T2 O2 R1 R0 hb1 s1
  unfold set4 at z0 z1 z2 z3 HT HO HB
  go_wp2_with fail
  exact bodyPost_ret (v := .agg #[.int .i64 S, .int .i64 q, .slice N m cn, .slice O no co]) (by simp [results, Tryz.results5, go_sem, z0, z1, z2, z3]) rfl ⟨S, q, N, m, cn, nh, nx, O, no, co, oh, ot, rfl, h1, h2, h3, h4, h5, h6, HT.out, HO.out, HB.out⟩
end Go.Proofs.YtmdmgndhapdmgaaGreat
