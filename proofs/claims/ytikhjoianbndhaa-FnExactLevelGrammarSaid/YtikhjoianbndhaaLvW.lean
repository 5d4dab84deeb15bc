/-
  Level grammars: rules and depths in memory, what a call leaves as it was.
-/
import Derived.Test.YtikhjoianbndhaaLvM
import Derived.Test.YtikhjoianbndhaaRuleK
import Derived.Test.YtikhjoianbndhaaMarkI
import Derived.Test.YtikhjoianbndhaaLett
import Derived.Deep.RegionHeld3
import Derived.Deep.RegionWith
import Derived.Deep.RegionLaw
import Derived.Deep.DeepCutAuto
namespace Go.Proofs.Ytikhjoianbndhaa
open Go.RowKit

section
variable {α : Type} {P : Program} {w : World} {ops : Array Oper} {o : Oper} {a : Act} {K : Act → World → Prop} {Q : Exit → Act → World → Prop} {E : Prop}
/-- one element more, as a step of a region that draws its order; where the row lies then -/
theorem step_pushL (hgd : o.guard = none) (s x : Operand) (t : TypeId) (ho : o.op = .call { callee := .builtin .append, args := #[s, x], argTypes := #[t, t] })
    (base : Nat) (e : TypeId) (sz bytes : Nat) (EI : Elem P t e sz bytes) (enc : α → List Value) (A : Option Addr) (n c : Nat) (xs : List α) (hs : a.eval s = .slice A n c)
    (hown : w.ownsRow base e sz (.slice A n c) n (xs.flatMap enc)) (g : Nat) (y : α) (cs : Array Value) (t' : TypeId) (fr : Nat × Nat) (hx : a.eval x = .slice (some ⟨g, 0, none⟩) 1 1) (hg : w.heap[g]? = some (.cells cs t' fr)) (hcs : cs.toList = enc y)
    (hlen : (enc y).length = sz) (hone : ∀ u ∈ enc y, u.oneCell' = true) (hsz : 0 < sz) (hbytes : (n + 1) * bytes ≤ 140737488355328) (hm : n + 1 ≤ maxLen) (hsize : base ≤ w.heap.size)
    (h : ∀ A' c' w', w'.ownsRow base e sz (.slice A' (n + 1) c') (n + 1) ((xs ++ [y]).flatMap enc) → w.grownBy w' (Value.slice A n c).ownBlock →
      ((Value.slice A' (n + 1) c').ownBlock = (Value.slice A n c).ownBlock ∨ (Value.slice A' (n + 1) c').ownBlock = some w.heap.size) →
      K (a.put o.dst (.slice A' (n + 1) c')) w') : if Region.wanted o (yielded ops a.tmps) = true then Oper.wp P o a w K Q else E := by
  obtain ⟨ht, i, z, hi, hz, h1, h2, hzs⟩ := EI
  have hnews : ∀ j u, (enc y)[j]? = some u → w.cell? ((⟨g, 0, none⟩ : Addr).add j) = some u := by rw [← hcs]; exact World.news_of_block hg
  obtain ⟨v', w', hr, r2, r3, _, r5⟩ := run_append_own_at (P := P) w base t o.type e i z sz bytes ht hi hz h1 h2 hzs hsz _ n _ hown ⟨g, 0, none⟩ 1 1 (enc y) (by rw [hlen]; omega) hnews hone hm hbytes hsize
  obtain ⟨g', cap, rfl, _, _⟩ := r2.form (by omega)
  have hw : Region.wanted o (yielded ops a.tmps) = true := by simp [Region.wanted, hgd]
  rw [if_pos hw]
  unfold Oper.wp execOp
  simp only [ho, resolve, invoke, builtin, Sem.run_bind, Sem.run_pure, Result.andThen_ok, List.map_toArray, List.map_cons, List.map_nil, hs, hx, hr]
  exact h _ _ w' (by rw [List.flatMap_append]; simpa using r2) r3 r5
end
/-- rules and depths, in a box of type T whose third cell is z -/
structure LvG (T : TypeId) (w0 W : World) (X : Nat) (z : Value) (A : Option Addr) (n c : Nat) (B : Option Addr) (m d : Nat) (rs : List Fac) (ds : List Int) : Prop where
  q : W.ownsRow w0.heap.size 44 3 (.slice A n c) n (rs.flatMap Fac.cells)
  k : W.ownsRow w0.heap.size 2 1 (.slice B m d) m (ds.flatMap intE)
  x : Blk W X T #[.slice A n c, .slice B m d, z]
  e : Below w0.heap.size w0 W
  hx : w0.heap.size ≤ X
  t1 : 44 ≠ T
  t2 : 2 ≠ T
/-- what a call leaves as it was: all but the box, the map and the two rows -/
structure LvF (W W' : World) (X M : Nat) (v v' u u' : Value) : Prop where
  size : W.heap.size ≤ W'.heap.size
  kept : ∀ x, x < W.heap.size → x ≠ X → x ≠ M → some x ≠ v.ownBlock → some x ≠ u.ownBlock → W'.heap[x]? = W.heap[x]?
  row : v'.ownBlock = v.ownBlock ∨ ∀ x, v'.ownBlock = some x → W.heap.size ≤ x
  row' : u'.ownBlock = u.ownBlock ∨ ∀ x, u'.ownBlock = some x → W.heap.size ≤ x
section
variable {w0 W W' W'' : World} {X M : Nat} {v v' v'' u u' u'' : Value}
theorem LvF.of_below (hb : Below W.heap.size W W') : LvF W W' X M v v u u := ⟨hb.size, fun x hx _ _ _ _ => hb.block x hx, .inl rfl, .inl rfl⟩
theorem LvF.trans (h1 : LvF W W' X M v v' u u') (h2 : LvF W' W'' X M v' v'' u' u'') : LvF W W'' X M v v'' u u'' := by
  refine ⟨Nat.le_trans h1.size h2.size, fun x hx hX hM hv hu => ?_, ?_, ?_⟩
  · rw [h2.kept x (Nat.lt_of_lt_of_le hx h1.size) hX hM (fun e => ?_) (fun e => ?_), h1.kept x hx hX hM hv hu]
    · rcases h1.row with q | q
      · rw [q] at e; exact hv e
      · have := q x e.symm; omega
    · rcases h1.row' with q | q
      · rw [q] at e; exact hu e
      · have := q x e.symm; omega
  · rcases h2.row with q | q
    · rw [q]; exact h1.row
    · exact .inr fun x hx => Nat.le_trans h1.size (q x hx)
  · rcases h2.row' with q | q
    · rw [q]; exact h1.row'
    · exact .inr fun x hx => Nat.le_trans h1.size (q x hx)
theorem LvF.of_grown (hg : W.grownBy W' v.ownBlock) (hat : v'.ownBlock = v.ownBlock ∨ v'.ownBlock = some W.heap.size) : LvF W W' X M v v' u u :=
  ⟨hg.4, fun x hx _ _ hv _ => hg.block x hx hv, hat.imp id fun e x hx => by rw [e] at hx; injection hx with hx; omega, .inl rfl⟩
theorem LvF.of_grown' (hg : W.grownBy W' u.ownBlock) (hat : u'.ownBlock = u.ownBlock ∨ u'.ownBlock = some W.heap.size) : LvF W W' X M v v u u' :=
  ⟨hg.4, fun x hx _ _ _ hu => hg.block x hx hu, .inl rfl, hat.imp id fun e x hx => by rw [e] at hx; injection hx with hx; omega⟩
theorem LvF.of_map (hg : W.grownBy W' (some M)) : LvF W W' X M v v u u :=
  ⟨hg.4, fun x hx _ hM _ _ => hg.block x hx (by intro e; injection e with e; exact hM e), .inl rfl, .inl rfl⟩
theorem LvF.setX (h : LvF W W' X M v v' u u') (i : Nat) (z : Value) : LvF W (W'.setCell ⟨X, i, none⟩ z) X M v v' u u' := by
  refine ⟨by have := h.size; have h2 := (gb_set W' X i z).4; omega, fun y hy hX hM hv hu => ?_, h.row, h.row'⟩
  rw [Below.heap_setCell W' ⟨X, i, none⟩ z y hX]
  exact h.kept y hy hX hM hv hu
theorem LvF.box (h : LvF W W' X M v v' u u') {x : Nat} (hx : W.heap.size ≤ x) (i : Nat) (z : Value) : LvF W (W'.setCell ⟨x, i, none⟩ z) X M v v' u u' := by
  refine ⟨by have := h.size; have h2 := (gb_set W' x i z).4; omega, fun y hy hX hM hv hu => ?_, h.row, h.row'⟩
  rw [Below.heap_setCell W' ⟨x, i, none⟩ z y (show y ≠ x by omega)]
  exact h.kept y hy hX hM hv hu
theorem LvF.blk (h : LvF W W' X M v v' u u') {x : Nat} {t : TypeId} {cs : Array Value} (hB : Blk W x t cs) (hX : x ≠ X) (hM : x ≠ M) (hv : some x ≠ v.ownBlock) (hu : some x ≠ u.ownBlock) : Blk W' x t cs := (h.kept x hB.lt hX hM hv hu).trans hB
end
section
variable {T : TypeId} {w0 W W' : World} {X M : Nat} {z : Value} {A : Option Addr} {n c : Nat} {B : Option Addr} {m d : Nat} {rs : List Fac} {ds : List Int}
theorem LvG.next (h : LvG T w0 W X z A n c B m d rs ds) (hb : Below W.heap.size W W') : LvG T w0 W' X z A n c B m d rs ds :=
  ⟨own_next h.q hb, own_next h.k hb, h.x.next hb, h.e.trans (hb.mono h.e.size), h.hx, h.t1, h.t2⟩
theorem LvG.alloc (h : LvG T w0 W X z A n c B m d rs ds) (o : Obj) : LvG T w0 (W.alloc o) X z A n c B m d rs ds := h.next ((Below.refl _ _).alloc (Nat.le_refl _) _)
theorem LvG.drew (h : LvG T w0 W X z A n c B m d rs ds) : LvG T w0 W.drew X z A n c B m d rs ds := h.next (Below.refl _ _).drew
/-- the rules grow; the box is not yet told -/
structure LvG' (T : TypeId) (w0 W : World) (X : Nat) (z : Value) (A : Option Addr) (n c : Nat) (B : Option Addr) (m d : Nat) (rs : List Fac) (ds : List Int) (vx ux : Value) : Prop where
  q : W.ownsRow w0.heap.size 44 3 (.slice A n c) n (rs.flatMap Fac.cells)
  k : W.ownsRow w0.heap.size 2 1 (.slice B m d) m (ds.flatMap intE)
  x : Blk W X T #[vx, ux, z]
  e : Below w0.heap.size w0 W
  hx : w0.heap.size ≤ X
  t1 : 44 ≠ T
  t2 : 2 ≠ T
theorem LvG.open (h : LvG T w0 W X z A n c B m d rs ds) : LvG' T w0 W X z A n c B m d rs ds (.slice A n c) (.slice B m d) := ⟨h.q, h.k, h.x, h.e, h.hx, h.t1, h.t2⟩
theorem LvG'.shut (h : LvG' T w0 W X z A n c B m d rs ds (.slice A n c) (.slice B m d)) : LvG T w0 W X z A n c B m d rs ds := ⟨h.q, h.k, h.x, h.e, h.hx, h.t1, h.t2⟩
variable {vx ux : Value}
theorem LvG'.next (h : LvG' T w0 W X z A n c B m d rs ds vx ux) (hb : Below W.heap.size W W') : LvG' T w0 W' X z A n c B m d rs ds vx ux :=
  ⟨own_next h.q hb, own_next h.k hb, h.x.next hb, h.e.trans (hb.mono h.e.size), h.hx, h.t1, h.t2⟩
theorem LvG'.alloc (h : LvG' T w0 W X z A n c B m d rs ds vx ux) (o : Obj) : LvG' T w0 (W.alloc o) X z A n c B m d rs ds vx ux := h.next ((Below.refl _ _).alloc (Nat.le_refl _) _)
theorem LvG'.drew (h : LvG' T w0 W X z A n c B m d rs ds vx ux) : LvG' T w0 W.drew X z A n c B m d rs ds vx ux := h.next (Below.refl _ _).drew
theorem LvG'.pushR {A8 : Option Addr} {k8 c8 : Nat} {rs' : List Fac} (h : LvG' T w0 W X z A n c B m d rs ds vx ux) (hq : W'.ownsRow w0.heap.size 44 3 (.slice A8 k8 c8) k8 (rs'.flatMap Fac.cells)) (hg : W.grownBy W' (Value.slice A n c).ownBlock) :
    LvG' T w0 W' X z A8 k8 c8 B m d rs' ds vx ux :=
  ⟨hq, h.k.kept hg (own_ne h.k h.q (by decide)), h.x.grown hg (own_blk_ne h.q h.x h.t1), h.e.grown hg h.e.size (own_ge h.q), h.hx, h.t1, h.t2⟩
theorem LvG'.pushD {B8 : Option Addr} {k8 c8 : Nat} {ds' : List Int} (h : LvG' T w0 W X z A n c B m d rs ds vx ux) (hq : W'.ownsRow w0.heap.size 2 1 (.slice B8 k8 c8) k8 (ds'.flatMap intE)) (hg : W.grownBy W' (Value.slice B m d).ownBlock) :
    LvG' T w0 W' X z A n c B8 k8 c8 rs ds' vx ux :=
  ⟨h.q.kept hg (own_ne h.q h.k (by decide)), hq, h.x.grown hg (own_blk_ne h.k h.x h.t2), h.e.grown hg h.e.size (own_ge h.k), h.hx, h.t1, h.t2⟩
theorem LvG'.set0 (h : LvG' T w0 W X z A n c B m d rs ds vx ux) (y : Value) : LvG' T w0 (W.setCell ⟨X, 0, none⟩ y) X z A n c B m d rs ds y ux :=
  ⟨own_kept' h.q h.x h.t1 _, own_kept' h.k h.x h.t2 _, h.x.set_ 0 _, h.e.setCell h.hx _, h.hx, h.t1, h.t2⟩
theorem LvG'.set1 (h : LvG' T w0 W X z A n c B m d rs ds vx ux) (y : Value) : LvG' T w0 (W.setCell ⟨X, 1, none⟩ y) X z A n c B m d rs ds vx y :=
  ⟨own_kept' h.q h.x h.t1 _, own_kept' h.k h.x h.t2 _, h.x.set_ 1 _, h.e.setCell h.hx _, h.hx, h.t1, h.t2⟩
theorem LvG'.set2 (h : LvG' T w0 W X z A n c B m d rs ds vx ux) (y : Value) : LvG' T w0 (W.setCell ⟨X, 2, none⟩ y) X y A n c B m d rs ds vx ux :=
  ⟨own_kept' h.q h.x h.t1 _, own_kept' h.k h.x h.t2 _, h.x.set_ 2 _, h.e.setCell h.hx _, h.hx, h.t1, h.t2⟩
theorem LvG'.put {mm : List (Fac × Value)} (h : LvG' T w0 W X z A n c B m d rs ds vx ux) (hm : MapIs W M Fac.val mm) (hne : M ≠ X) (hg : W.grownBy W' (some M)) (hb : Below w0.heap.size w0 W') : LvG' T w0 W' X z A n c B m d rs ds vx ux :=
  have ne : ∀ {e sz n : Nat} {v : Value} {xs : List Value}, W.ownsRow w0.heap.size e sz v n xs → v.ownBlock = none ∨ v.ownBlock ≠ some M := fun ho => by
    have := hm.ne_own ho
    exact .inr fun e => this e.symm
  ⟨h.q.kept hg (ne h.q), h.k.kept hg (ne h.k), h.x.grown hg (by intro e; injection e with e; exact hne e.symm), hb, h.hx, h.t1, h.t2⟩
/-- what may be read -/
theorem LvG.red (h : LvG T w0 W X z A n c B n d rs ds) (hr : rs.length = n) (hd : ds.length = n) (hn : 0 < n) : ∃ ga gb, A = some ⟨ga, 0, none⟩ ∧ B = some ⟨gb, 0, none⟩ ∧ ga < W.heap.size ∧ gb < W.heap.size ∧
    ∀ k : Nat, k < n → W.cell? ⟨gb, k, none⟩ = some (.int .i64 (lvD ⟨rs, ds⟩ k)) ∧ W.cell? ⟨ga, k * 3, none⟩ = some (.string (lvR ⟨rs, ds⟩ k).l) ∧ W.cell? ⟨ga, k * 3 + 1, none⟩ = some (.int .i64 (lvR ⟨rs, ds⟩ k).a) ∧ W.cell? ⟨ga, k * 3 + 2, none⟩ = some (.int .i64 (lvR ⟨rs, ds⟩ k).b) := by
  obtain ⟨ga, ca, hva, hga0, hga1⟩ := h.q.form hn
  obtain ⟨gb, cb, hvb, hgb0, hgb1⟩ := h.k.form hn
  obtain rfl : A = some ⟨ga, 0, none⟩ := by injection hva
  obtain rfl : B = some ⟨gb, 0, none⟩ := by injection hvb
  refine ⟨ga, gb, rfl, rfl, by have := h.q.lt ga rfl; omega, by have := h.k.lt gb rfl; omega, fun k hk => ?_⟩
  have a1 := own_at (sz := 1) (enc := intE) (fun _ _ => rfl) h.k hd 0 k hk 0 (by omega)
  have r0 := own_at (sz := 3) (enc := Fac.cells) (fun x _ => fac_len x) h.q hr default k hk 0 (by omega)
  have r1 := own_at (sz := 3) (enc := Fac.cells) (fun x _ => fac_len x) h.q hr default k hk 1 (by omega)
  have r2 := own_at (sz := 3) (enc := Fac.cells) (fun x _ => fac_len x) h.q hr default k hk 2 (by omega)
  rw [Nat.mul_one, Nat.add_zero] at a1
  rw [Nat.add_zero] at r0
  exact ⟨a1, r0, r1, r2⟩
end
end Go.Proofs.Ytikhjoianbndhaa
