/-
  Texts of this claim, merged: Lett LvW DrG P6Word P6G PlainP MapI IdxR Make Ints StrS IdxS.
-/
import Derived.Test.YtfanphhlagjkdaaP2
import Derived.Deep.RegionHeld3
import Derived.Deep.RegionWith
import Derived.Deep.RegionLaw
import Derived.Deep.DeepCutAuto


/-
  The reference's small functions on letters and numbers.
-/
namespace Go.Proofs.Ytfanphhlagjkdaa
open Go.RowKit

end Go.Proofs.Ytfanphhlagjkdaa


/-
  Level grammars: rules and depths in memory, what a call leaves as it was.
-/
namespace Go.Proofs.Ytfanphhlagjkdaa
open Go.RowKit

section
variable {α : Type} {P : Program} {w : World} {ops : Array Oper} {o : Oper} {a : Act} {K : Act → World → Prop} {Q : Exit → Act → World → Prop} {E : Prop}
/-- one element more, as a step of a region that draws its order; where the row lies then -/
theorem step_pushL (hgd : o.guard = none) (s x : Operand) (t : TypeId) (ho : o.op = .call { callee := .builtin .append, args := #[s, x], argTypes := #[t, t] })
    (base : Nat) (e : TypeId) (sz bytes : Nat) (EI : Elem P t e sz bytes) (enc : α → List Value) (A : Option Addr) (n c : Nat) (xs : List α) (hs : a.eval s = .slice A n c)
    (hown : w.ownsRow base e sz (.slice A n c) n (xs.flatMap enc)) (g : Nat) (y : α) (cs : Array Value) (t' : TypeId) (fr : Nat × Nat) (hx : a.eval x = .slice (some ⟨g, 0, none⟩) 1 1) (hg : w.heap[g]? = some (.cells cs t' fr)) (hcs : cs.toList = enc y)
    (hlen : (enc y).length = sz) (hone : ∀ u ∈ enc y, u.oneCell' = true) (hsz : 0 < sz) (hbytes : (n + 1) * bytes ≤ 140737488355328) (hm : n + 1 ≤ maxLen) (hsize : base ≤ w.heap.size)
    (h : ∀ A' c' w', w'.ownsRow base e sz (.slice A' (n + 1) c') (n + 1) ((xs ++ [y]).flatMap enc) → w.grownBy w' (Value.slice A n c).ownBlock →
      ((Value.slice A' (n + 1) c').ownBlock = (Value.slice A n c).ownBlock ∨ (Value.slice A' (n + 1) c').ownBlock = some w.heap.size) →
      K (a.put o.dst (.slice A' (n + 1) c')) w') : if Region.wanted o (yielded ops a.tmps) = true then Oper.wp P o a w K Q else E := by
  obtain ⟨ht, i, z, hi, hz, h1, h2, hzs⟩ := EI
  have hnews : ∀ j u, (enc y)[j]? = some u → w.cell? ((⟨g, 0, none⟩ : Addr).add j) = some u := by rw [← hcs]; exact World.news_of_block hg
  obtain ⟨v', w', hr, r2, r3, _, r5⟩ := run_append_own_at (P := P) w base t o.type e i z sz bytes ht hi hz h1 h2 hzs hsz _ n _ hown ⟨g, 0, none⟩ 1 1 (enc y) (by rw [hlen]; omega) hnews hone hm hbytes hsize
  obtain ⟨g', cap, rfl, _, _⟩ := r2.form (by omega)
  have hw : Region.wanted o (yielded ops a.tmps) = true := by simp [Region.wanted, hgd]
  rw [if_pos hw]
  unfold Oper.wp execOp
  simp only [ho, resolve, invoke, builtin, Sem.run_bind, Sem.run_pure, Result.andThen_ok, List.map_toArray, List.map_cons, List.map_nil, hs, hx, hr]
  exact h _ _ w' (by rw [List.flatMap_append]; simpa using r2) r3 r5
end
/-- rules and depths, in a box of type T whose third cell is z -/
structure LvG (T : TypeId) (w0 W : World) (X : Nat) (z : Value) (A : Option Addr) (n c : Nat) (B : Option Addr) (m d : Nat) (rs : List Fac) (ds : List Int) : Prop where
  q : W.ownsRow w0.heap.size 65 3 (.slice A n c) n (rs.flatMap Fac.cells)
  k : W.ownsRow w0.heap.size 2 1 (.slice B m d) m (ds.flatMap intE)
  x : Blk W X T #[.slice A n c, .slice B m d, z]
  e : Below w0.heap.size w0 W
  hx : w0.heap.size ≤ X
  t1 : 65 ≠ T
  t2 : 2 ≠ T
/-- what a call leaves as it was: all but the box, the map and the two rows -/
structure LvF (W W' : World) (X M : Nat) (v v' u u' : Value) : Prop where
  size : W.heap.size ≤ W'.heap.size
  kept : ∀ x, x < W.heap.size → x ≠ X → x ≠ M → some x ≠ v.ownBlock → some x ≠ u.ownBlock → W'.heap[x]? = W.heap[x]?
  row : v'.ownBlock = v.ownBlock ∨ ∀ x, v'.ownBlock = some x → W.heap.size ≤ x
  row' : u'.ownBlock = u.ownBlock ∨ ∀ x, u'.ownBlock = some x → W.heap.size ≤ x
section
variable {w0 W W' W'' : World} {X M : Nat} {v v' v'' u u' u'' : Value}
theorem LvF.of_below (hb : Below W.heap.size W W') : LvF W W' X M v v u u := ⟨hb.size, fun x hx _ _ _ _ => hb.block x hx, .inl rfl, .inl rfl⟩
theorem LvF.trans (h1 : LvF W W' X M v v' u u') (h2 : LvF W' W'' X M v' v'' u' u'') : LvF W W'' X M v v'' u u'' := by
  refine ⟨Nat.le_trans h1.size h2.size, fun x hx hX hM hv hu => ?_, ?_, ?_⟩
  · rw [h2.kept x (Nat.lt_of_lt_of_le hx h1.size) hX hM (fun e => ?_) (fun e => ?_), h1.kept x hx hX hM hv hu]
    · rcases h1.row with q | q
      · rw [q] at e; exact hv e
      · have := q x e.symm; omega
    · rcases h1.row' with q | q
      · rw [q] at e; exact hu e
      · have := q x e.symm; omega
  · rcases h2.row with q | q
    · rw [q]; exact h1.row
    · exact .inr fun x hx => Nat.le_trans h1.size (q x hx)
  · rcases h2.row' with q | q
    · rw [q]; exact h1.row'
    · exact .inr fun x hx => Nat.le_trans h1.size (q x hx)
theorem LvF.of_grown (hg : W.grownBy W' v.ownBlock) (hat : v'.ownBlock = v.ownBlock ∨ v'.ownBlock = some W.heap.size) : LvF W W' X M v v' u u :=
  ⟨hg.4, fun x hx _ _ hv _ => hg.block x hx hv, hat.imp id fun e x hx => by rw [e] at hx; injection hx with hx; omega, .inl rfl⟩
theorem LvF.of_grown' (hg : W.grownBy W' u.ownBlock) (hat : u'.ownBlock = u.ownBlock ∨ u'.ownBlock = some W.heap.size) : LvF W W' X M v v u u' :=
  ⟨hg.4, fun x hx _ _ _ hu => hg.block x hx hu, .inl rfl, hat.imp id fun e x hx => by rw [e] at hx; injection hx with hx; omega⟩
theorem LvF.of_map (hg : W.grownBy W' (some M)) : LvF W W' X M v v u u :=
  ⟨hg.4, fun x hx _ hM _ _ => hg.block x hx (by intro e; injection e with e; exact hM e), .inl rfl, .inl rfl⟩
theorem LvF.setX (h : LvF W W' X M v v' u u') (i : Nat) (z : Value) : LvF W (W'.setCell ⟨X, i, none⟩ z) X M v v' u u' := by
  refine ⟨by have := h.size; have h2 := (gb_set W' X i z).4; omega, fun y hy hX hM hv hu => ?_, h.row, h.row'⟩
  rw [Below.heap_setCell W' ⟨X, i, none⟩ z y hX]
  exact h.kept y hy hX hM hv hu
theorem LvF.box (h : LvF W W' X M v v' u u') {x : Nat} (hx : W.heap.size ≤ x) (i : Nat) (z : Value) : LvF W (W'.setCell ⟨x, i, none⟩ z) X M v v' u u' := by
  refine ⟨by have := h.size; have h2 := (gb_set W' x i z).4; omega, fun y hy hX hM hv hu => ?_, h.row, h.row'⟩
  rw [Below.heap_setCell W' ⟨x, i, none⟩ z y (show y ≠ x by omega)]
  exact h.kept y hy hX hM hv hu
theorem LvF.blk (h : LvF W W' X M v v' u u') {x : Nat} {t : TypeId} {cs : Array Value} (hB : Blk W x t cs) (hX : x ≠ X) (hM : x ≠ M) (hv : some x ≠ v.ownBlock) (hu : some x ≠ u.ownBlock) : Blk W' x t cs := (h.kept x hB.lt hX hM hv hu).trans hB
end
section
variable {T : TypeId} {w0 W W' : World} {X M : Nat} {z : Value} {A : Option Addr} {n c : Nat} {B : Option Addr} {m d : Nat} {rs : List Fac} {ds : List Int}
theorem LvG.next (h : LvG T w0 W X z A n c B m d rs ds) (hb : Below W.heap.size W W') : LvG T w0 W' X z A n c B m d rs ds :=
  ⟨own_next h.q hb, own_next h.k hb, h.x.next hb, h.e.trans (hb.mono h.e.size), h.hx, h.t1, h.t2⟩
theorem LvG.alloc (h : LvG T w0 W X z A n c B m d rs ds) (o : Obj) : LvG T w0 (W.alloc o) X z A n c B m d rs ds := h.next ((Below.refl _ _).alloc (Nat.le_refl _) _)
theorem LvG.drew (h : LvG T w0 W X z A n c B m d rs ds) : LvG T w0 W.drew X z A n c B m d rs ds := h.next (Below.refl _ _).drew
/-- the rules grow; the box is not yet told -/
structure LvG' (T : TypeId) (w0 W : World) (X : Nat) (z : Value) (A : Option Addr) (n c : Nat) (B : Option Addr) (m d : Nat) (rs : List Fac) (ds : List Int) (vx ux : Value) : Prop where
  q : W.ownsRow w0.heap.size 65 3 (.slice A n c) n (rs.flatMap Fac.cells)
  k : W.ownsRow w0.heap.size 2 1 (.slice B m d) m (ds.flatMap intE)
  x : Blk W X T #[vx, ux, z]
  e : Below w0.heap.size w0 W
  hx : w0.heap.size ≤ X
  t1 : 65 ≠ T
  t2 : 2 ≠ T
theorem LvG.open (h : LvG T w0 W X z A n c B m d rs ds) : LvG' T w0 W X z A n c B m d rs ds (.slice A n c) (.slice B m d) := ⟨h.q, h.k, h.x, h.e, h.hx, h.t1, h.t2⟩
theorem LvG'.shut (h : LvG' T w0 W X z A n c B m d rs ds (.slice A n c) (.slice B m d)) : LvG T w0 W X z A n c B m d rs ds := ⟨h.q, h.k, h.x, h.e, h.hx, h.t1, h.t2⟩
variable {vx ux : Value}
theorem LvG'.next (h : LvG' T w0 W X z A n c B m d rs ds vx ux) (hb : Below W.heap.size W W') : LvG' T w0 W' X z A n c B m d rs ds vx ux :=
  ⟨own_next h.q hb, own_next h.k hb, h.x.next hb, h.e.trans (hb.mono h.e.size), h.hx, h.t1, h.t2⟩
theorem LvG'.alloc (h : LvG' T w0 W X z A n c B m d rs ds vx ux) (o : Obj) : LvG' T w0 (W.alloc o) X z A n c B m d rs ds vx ux := h.next ((Below.refl _ _).alloc (Nat.le_refl _) _)
theorem LvG'.drew (h : LvG' T w0 W X z A n c B m d rs ds vx ux) : LvG' T w0 W.drew X z A n c B m d rs ds vx ux := h.next (Below.refl _ _).drew
theorem LvG'.pushR {A8 : Option Addr} {k8 c8 : Nat} {rs' : List Fac} (h : LvG' T w0 W X z A n c B m d rs ds vx ux) (hq : W'.ownsRow w0.heap.size 65 3 (.slice A8 k8 c8) k8 (rs'.flatMap Fac.cells)) (hg : W.grownBy W' (Value.slice A n c).ownBlock) :
    LvG' T w0 W' X z A8 k8 c8 B m d rs' ds vx ux :=
  ⟨hq, h.k.kept hg (own_ne h.k h.q (by decide)), h.x.grown hg (own_blk_ne h.q h.x h.t1), h.e.grown hg h.e.size (own_ge h.q), h.hx, h.t1, h.t2⟩
theorem LvG'.pushD {B8 : Option Addr} {k8 c8 : Nat} {ds' : List Int} (h : LvG' T w0 W X z A n c B m d rs ds vx ux) (hq : W'.ownsRow w0.heap.size 2 1 (.slice B8 k8 c8) k8 (ds'.flatMap intE)) (hg : W.grownBy W' (Value.slice B m d).ownBlock) :
    LvG' T w0 W' X z A n c B8 k8 c8 rs ds' vx ux :=
  ⟨h.q.kept hg (own_ne h.q h.k (by decide)), hq, h.x.grown hg (own_blk_ne h.k h.x h.t2), h.e.grown hg h.e.size (own_ge h.k), h.hx, h.t1, h.t2⟩
theorem LvG'.set0 (h : LvG' T w0 W X z A n c B m d rs ds vx ux) (y : Value) : LvG' T w0 (W.setCell ⟨X, 0, none⟩ y) X z A n c B m d rs ds y ux :=
  ⟨own_kept' h.q h.x h.t1 _, own_kept' h.k h.x h.t2 _, h.x.set_ 0 _, h.e.setCell h.hx _, h.hx, h.t1, h.t2⟩
theorem LvG'.set1 (h : LvG' T w0 W X z A n c B m d rs ds vx ux) (y : Value) : LvG' T w0 (W.setCell ⟨X, 1, none⟩ y) X z A n c B m d rs ds vx y :=
  ⟨own_kept' h.q h.x h.t1 _, own_kept' h.k h.x h.t2 _, h.x.set_ 1 _, h.e.setCell h.hx _, h.hx, h.t1, h.t2⟩
theorem LvG'.set2 (h : LvG' T w0 W X z A n c B m d rs ds vx ux) (y : Value) : LvG' T w0 (W.setCell ⟨X, 2, none⟩ y) X y A n c B m d rs ds vx ux :=
  ⟨own_kept' h.q h.x h.t1 _, own_kept' h.k h.x h.t2 _, h.x.set_ 2 _, h.e.setCell h.hx _, h.hx, h.t1, h.t2⟩
theorem LvG'.put {mm : List (Fac × Value)} (h : LvG' T w0 W X z A n c B m d rs ds vx ux) (hm : MapIs W M Fac.val mm) (hne : M ≠ X) (hg : W.grownBy W' (some M)) (hb : Below w0.heap.size w0 W') : LvG' T w0 W' X z A n c B m d rs ds vx ux :=
  have ne : ∀ {e sz n : Nat} {v : Value} {xs : List Value}, W.ownsRow w0.heap.size e sz v n xs → v.ownBlock = none ∨ v.ownBlock ≠ some M := fun ho => by
    have := hm.ne_own ho
    exact .inr fun e => this e.symm
  ⟨h.q.kept hg (ne h.q), h.k.kept hg (ne h.k), h.x.grown hg (by intro e; injection e with e; exact hne e.symm), hb, h.hx, h.t1, h.t2⟩
/-- what may be read -/
theorem LvG.red (h : LvG T w0 W X z A n c B n d rs ds) (hr : rs.length = n) (hd : ds.length = n) (hn : 0 < n) : ∃ ga gb, A = some ⟨ga, 0, none⟩ ∧ B = some ⟨gb, 0, none⟩ ∧ ga < W.heap.size ∧ gb < W.heap.size ∧
    ∀ k : Nat, k < n → W.cell? ⟨gb, k, none⟩ = some (.int .i64 (lvD ⟨rs, ds⟩ k)) ∧ W.cell? ⟨ga, k * 3, none⟩ = some (.string (lvR ⟨rs, ds⟩ k).l) ∧ W.cell? ⟨ga, k * 3 + 1, none⟩ = some (.int .i64 (lvR ⟨rs, ds⟩ k).a) ∧ W.cell? ⟨ga, k * 3 + 2, none⟩ = some (.int .i64 (lvR ⟨rs, ds⟩ k).b) := by
  obtain ⟨ga, ca, hva, hga0, hga1⟩ := h.q.form hn
  obtain ⟨gb, cb, hvb, hgb0, hgb1⟩ := h.k.form hn
  obtain rfl : A = some ⟨ga, 0, none⟩ := by injection hva
  obtain rfl : B = some ⟨gb, 0, none⟩ := by injection hvb
  refine ⟨ga, gb, rfl, rfl, by have := h.q.lt ga rfl; omega, by have := h.k.lt gb rfl; omega, fun k hk => ?_⟩
  have a1 := own_at (sz := 1) (enc := intE) (fun _ _ => rfl) h.k hd 0 k hk 0 (by omega)
  have r0 := own_at (sz := 3) (enc := Fac.cells) (fun x _ => fac_len x) h.q hr default k hk 0 (by omega)
  have r1 := own_at (sz := 3) (enc := Fac.cells) (fun x _ => fac_len x) h.q hr default k hk 1 (by omega)
  have r2 := own_at (sz := 3) (enc := Fac.cells) (fun x _ => fac_len x) h.q hr default k hk 2 (by omega)
  rw [Nat.mul_one, Nat.add_zero] at a1
  rw [Nat.add_zero] at r0
  exact ⟨a1, r0, r1, r2⟩
end
end Go.Proofs.Ytfanphhlagjkdaa


/-
  The draw of a grammar: it is valid, and its word is not too long.
-/
namespace Go.Proofs.Ytfanphhlagjkdaa
open Go.RowKit

/-- a grammar that is drawn under way -/
structure DgW (w W : World) (g K : Nat) (A : Option Addr) (n c : Nat) (rs : List Fac) : Prop where
  q : W.ownsRow w.heap.size 65 3 (.slice A n c) n (rs.flatMap Fac.cells)
  r : Blk W w.heap.size 26 #[.slice none 0 0]
  x : Blk W (w.heap.size + 1) 26 #[.slice A n c]
  s : Src W g K
  e : w.grownBy W (some g)
  hg : g < w.heap.size
section
variable {w W W' : World} {g K : Nat} {A : Option Addr} {n c : Nat} {rs : List Fac}
theorem DgW.next (h : DgW w W g K A n c rs) (hb : Below W.heap.size W W') : DgW w W' g K A n c rs := ⟨own_next h.q hb, h.r.next hb, h.x.next hb, h.s.next hb, gb_next h.e hb, h.hg⟩
theorem DgW.alloc (h : DgW w W g K A n c rs) (o : Obj) : DgW w (W.alloc o) g K A n c rs := h.next ((Below.refl _ _).alloc (Nat.le_refl _) _)
theorem DgW.pick {K' : Nat} (h : DgW w W g K A n c rs) (hs : Src W' g K') (hg : W.grownBy W' (some g)) : DgW w W' g K' A n c rs :=
  ⟨own_kept h.q hg h.hg, h.r.grown hg (by intro e; injection e with e; have := h.hg; omega), h.x.grown hg (by intro e; injection e with e; have := h.hg; omega), hs, gb_trans h.e hg, h.hg⟩
theorem DgW.keepAt {ga b : Nat} (h : DgW w W g K (some ⟨ga, 0, none⟩) n c rs) (hg : W.grownBy W' (some b)) (hb : w.heap.size + 2 ≤ b) (hne : ga ≠ b) : DgW w W' g K (some ⟨ga, 0, none⟩) n c rs :=
  ⟨h.q.kept hg (.inr (by intro e; have e2 : some ga = some b := e; injection e2 with e2; exact hne e2)), h.r.grown hg (by intro e; injection e with e; omega), h.x.grown hg (by intro e; injection e with e; omega), h.s.grown hg (fun k e => by injection e with e; have := h.hg; omega),
    gb_weak h.e hg (by omega), h.hg⟩
theorem DgW.news {ga : Nat} (h : DgW w W g K (some ⟨ga, 0, none⟩) n c rs) : ∀ j u, (rs.flatMap Fac.cells)[j]? = some u → W.cell? ((⟨ga, 0, none⟩ : Addr).add j) = some u := fun j u hu => h.q.cells (g := ga) rfl j u hu
/-- the grammar is put anew -/
theorem DgW.put {A' : Option Addr} {n' c' : Nat} {rs' : List Fac} (h : DgW w W g K A n c rs) (hq : W.ownsRow w.heap.size 65 3 (.slice A' n' c') n' (rs'.flatMap Fac.cells)) : DgW w (W.setCell ⟨w.heap.size + 1, 0, none⟩ (.slice A' n' c')) g K A' n' c' rs' := by
  have hg := gb_set W (w.heap.size + 1) 0 (.slice A' n' c')
  exact ⟨own_kept' hq h.x (by decide) _, h.r.grown hg (by intro e; injection e with e; omega), h.x.set_ 0 _, h.s.grown hg (fun k e => by injection e with e; have := h.hg; omega), gb_weak h.e hg (by omega), h.hg⟩
/-- the result told -/
theorem DgW.done (h : DgW w W g K A n c rs) (hl : rs.length = n) : (W.setCell ⟨w.heap.size, 0, none⟩ (.slice A n c)).ownsRow w.heap.size 65 3 (.slice A rs.length c) rs.length (rs.flatMap Fac.cells) ∧
    Src (W.setCell ⟨w.heap.size, 0, none⟩ (.slice A n c)) g K ∧ w.grownBy (W.setCell ⟨w.heap.size, 0, none⟩ (.slice A n c)) (some g) := by
  have hg := gb_set W w.heap.size 0 (.slice A n c)
  rw [hl]
  exact ⟨own_kept' h.q h.r (by decide) _, h.s.grown hg (fun k e => by injection e with e; have := h.hg; omega), gb_weak h.e hg (Nat.le_refl _)⟩
/-- one rule more in the row, the grammar put anew -/
theorem DgW.push {A' : Option Addr} {n' c' : Nat} {rs' : List Fac} (h : DgW w W g K A n c rs) (hq : W'.ownsRow w.heap.size 65 3 (.slice A' n' c') n' (rs'.flatMap Fac.cells)) (hg : W.grownBy W' (Value.slice A n c).ownBlock) :
    DgW w (W'.setCell ⟨w.heap.size + 1, 0, none⟩ (.slice A' n' c')) g K A' n' c' rs' := by
  have hx := h.x.grown hg (own_blk_ne h.q h.x (by decide))
  have hg2 := gb_set W' (w.heap.size + 1) 0 (.slice A' n' c')
  have hs := h.s.grown hg (fun k e => by have := own_ge h.q k e; have := h.hg; omega)
  exact ⟨own_kept' hq hx (by decide) _, (h.r.grown hg (own_blk_ne h.q h.r (by decide))).grown hg2 (by intro e; injection e with e; omega), hx.set_ 0 _, hs.grown hg2 (fun k e => by injection e with e; have := h.hg; omega),
    gb_weak (gb_weak' h.e hg (own_ge h.q)) hg2 (by omega), h.hg⟩
end
/-- what is drawn -/
structure DgOk (rs : List Fac) (most : Int) : Prop where
  wf : WF rs
  pos : 0 < rs.length
  few : rs.length ≤ 14
  len : ((wdN rs).length : Int) ≤ most
def GrDraw (w : World) (g K : Nat) (most : Int) (e : Ending) (w' : World) : Prop :=
  ∃ A c rs, e = .returned (.agg #[.slice A rs.length c]) ∧ DgOk rs most ∧ w'.ownsRow w.heap.size 65 3 (.slice A rs.length c) rs.length (rs.flatMap Fac.cells) ∧ Src w' g K ∧ w.grownBy w' (some g)
def ltR (k : Nat) : List Fac := (List.range k).map fun i => ruleC (UInt8.ofNat (97 + i))
theorem ltR_succ (k : Nat) : ltR (k + 1) = ltR k ++ [ruleC (UInt8.ofNat (97 + k))] := by unfold ltR; rw [List.range_succ, List.map_append]; rfl
theorem ltR_len (k : Nat) : (ltR k).length = k := by simp [ltR]
theorem ltR_wf {k : Nat} (hk : k ≤ 4) : WF (ltR k) := fun i r hr => by
  unfold ltR at hr
  rw [List.getElem?_map] at hr
  obtain ⟨j, hj, rfl⟩ := Option.map_eq_some_iff.1 hr
  have hj2 : j < k := by have := List.mem_of_getElem? hj; simpa using this
  have e : (UInt8.ofNat (97 + j)).toNat = 97 + j := by rw [UInt8.toNat_ofNat']; omega
  exact .inr ⟨_, by simp [letB, e]; omega, rfl, rfl, rfl⟩
theorem ltR_ok {k : Nat} (h0 : 0 < k) (hk : k ≤ 4) {most : Int} (hm : 1 ≤ most) : DgOk (ltR k) most := by
  refine ⟨ltR_wf hk, by rw [ltR_len]; exact h0, by rw [ltR_len]; omega, ?_⟩
  obtain ⟨j, rfl⟩ : ∃ j, k = j + 1 := ⟨k - 1, by omega⟩
  have e : wdN (ltR (j + 1)) = [(UInt8.ofNat (97 + j)).toNat - 97] := by
    unfold wdN
    rw [if_neg (by intro e; have := ltR_len (j + 1); rw [e] at this; simp at this), ltR_len]
    refine wds_one (r := ruleC (UInt8.ofNat (97 + j))) (c := UInt8.ofNat (97 + j)) ?_ rfl
    rw [ltR_succ, List.getElem?_append_right (by rw [ltR_len]; omega), ltR_len]
    simp
  rw [e]; simpa using hm
theorem dg_gok {rs : List Fac} (hwf : WF rs) (hn : rs.length ≤ 15) : (gOk rs).isSome = true := small_ok hwf (by omega)
theorem wf_sz {rs : List Fac} (hwf : WF rs) : ∀ f ∈ rs, f.l.size ≤ maxLen := by
  intro f hf
  obtain ⟨k, hk, rfl⟩ := List.getElem_of_mem hf
  rcases hwf k _ (List.getElem?_eq_getElem hk) with ⟨h0, _⟩ | ⟨c, _, hl, _⟩
  · unfold maxLen; omega
  · rw [hl]; show 1 ≤ maxLen; unfold maxLen; omega
theorem wf_snoc' {rs : List Fac} (h : WF rs) {l r : Int} (l0 : 0 ≤ l) (l1 : l < rs.length) (r0 : 0 ≤ r) (r1 : r < rs.length) : WF (rs ++ [⟨.empty, l, r⟩]) := wf_snoc h ⟨l0, l1⟩ ⟨r0, r1⟩
set_option maxHeartbeats 16000000 in
set_option maxRecDepth 100000 in
theorem l02Drawn_any (g K : Nat) (most : Int) (w : World) (h : Src w g K) (hK : K ≤ 10000000) (hm0 : 1 ≤ most) (hm : most ≤ 100000) :
    Calls Try.prog 22 #[.pointer (some ⟨g, 0, none⟩), .int .i64 most] w (GrDraw w g (K + 1000) most) := by
  have hg := h.lt
  have H0 := Lib.hid h; clear h
  go_enter Try.func22, Try.ntmps22
  go_wp2_with fail
  refine namedC fun w1 H1 => ?_
  have hb1 : Below w.heap.size w w1 := by rw [H1.out]; (repeat first | exact Below.refl _ _ | assumption | refine Below.drew ?_ | refine Below.alloc ?_ (by first | exact Nat.le_refl _ | (simp; done) | omega | (simp; omega)) _ | refine Below.setCell ?_ (by first | exact Nat.le_refl _ | (simp; done) | omega | (simp; omega)) _)
  have P1 := Lib.hid (show DgW w w1 g K none 0 0 [] from ⟨World.ownsRow_nil _ _ _ _, by rw [H1.out]; exact (Blk.new w _ _).alloc _, by rw [H1.out]; simpa using Blk.new (w.alloc (.cells #[.slice none 0 0] 26)) 26 #[.slice none 0 0], H0.out.next hb1, gb_below hb1, hg⟩)
  clear H1 hb1 H0
  refine (pick_any g K 3 3 w1 P1.out.s (by omega) (by omega) (by omega)).mono ?_
  rintro e w2 ⟨v, rfl, v0, v1, s2, g2⟩
  have P2 := Lib.hid (P1.out.pick s2 g2)
  obtain ⟨L, hL⟩ : ∃ L : Nat, 1 + v = L := ⟨(1 + v).toNat, by omega⟩
  have hL1 : 1 ≤ L := by omega
  have hL3 : L ≤ 3 := by omega
  have um : IntKind.i64.wrap (1 + v) = (L : Int) := by rw [IntWalk.i64_in _ (by omega)]; exact hL
  clear s2 g2 P1
  go_wp2_with fail
  have HLL := Lib.hid hL
  clear um hL v0 v1
  go_loopw [7] (fun k_ w' => ∃ (k : Nat) (A : Option Addr) (c : Nat), k_ = .int .i64 k ∧ k ≤ L ∧ Hid (DgW w w' g (K + 2) A k c (ltR k))) (fun k_ _ => L - (intOf k_).toNat)
  case atStart => exact ⟨0, none, 0, rfl, by omega, P2⟩
  case round =>
    obtain ⟨k, A, c, rfl, hk, P⟩ := hrel
    clear P2
    by_cases hlt : k < L
    · have i1 : (k : Int) < (L : Int) := by omega
      obtain ⟨u, hu⟩ : ∃ u : UInt8, UInt8.ofNat (97 + k) = u := ⟨_, rfl⟩
      have hu' : (u.toNat : Int) = 97 + k := by rw [← hu, UInt8.toNat_ofNat']; omega
      have HU := Lib.hid hu
      have d0 := P.out.x.cell 0
      have dl := P.out.x.lt
      have hcv := conv_letter (wr.alloc (.cells #[.int .u8 (97 + (k : Int))] 5)) wr.heap.size 1 u (by rw [hu']; simp)
      have Q2 := Lib.hid (P.out.alloc (.cells #[.int .u8 (97 + (k : Int))] 5))
      have BN0 := Blk.new (wr.alloc (.cells #[.int .u8 (97 + (k : Int))] 5)) 65 #[.string (ruleC u).l, .int .i64 (ruleC u).a, .int .i64 (ruleC u).b]
      have sz4 : (wr.alloc (.cells #[.int .u8 (97 + (k : Int))] 5)).heap.size = wr.heap.size + 1 := by simp
      rw [sz4] at BN0
      have BN := Lib.hid BN0
      clear BN0 sz4
      have Q3 := Lib.hid (Q2.out.alloc (.cells #[.string ⟨#[u]⟩, .int .i64 0, .int .i64 0] 65))
      clear hu hu'
      go_wp2_with
        (at_builtin
         refine wpList_pushG rfl _ _ _ rfl w.heap.size 65 3 32 elem_rule Fac.cells A k c (ltR k) rfl Q3.out.q (wr.heap.size + 1) (ruleC u) #[.string (ruleC u).l, .int .i64 (ruleC u).a, .int .i64 (ruleC u).b] 65 (0, 0) rfl BN.out rfl rfl (one_fac _) (by omega) (by omega) (by unfold maxLen; omega) (by have := Q3.out.x.lt; omega) ?_
         intro A9 c9 w9 own9 hg9 hat9
         have Q9 := Lib.hid (Q3.out.push own9 hg9)
         have G9 := Q3.out.x.grown hg9 (own_blk_ne Q3.out.q Q3.out.x (by decide))
         have f9 := G9.frozen
         have d9 := G9.cell 0
         have l9 := G9.lt
         clear own9 hg9 hat9 G9)
      go_roundw
      case rel => exact ⟨k + 1, A9, c9, by go_num, by omega, Lib.hid (by rw [ltR_succ, HU.out]; exact Q9.out)⟩
      case measure => simp [intOf]; omega
    · obtain rfl : k = L := by omega
      have ok0 := Lib.hid (ltR_ok (most := most) hL1 (by omega) hm0)
      have HLn0 := Lib.hid (ltR_len k)
      go_wp2_with fail
      refine (pick_any g (K + 2) 12 12 wr P.out.s (by omega) (by omega) (by omega)).mono ?_
      rintro e w3 ⟨z, rfl, z0, z1, s3, g3⟩
      have P3 := Lib.hid (P.out.pick s3 g3)
      clear s3 g3 P
      generalize ltR k = rs0 at *
      go_wp2_with fail
      go_loopw [8] (fun z_ w' => ∃ (z : Nat) (A : Option Addr) (n c K2 : Nat) (rs : List Fac), z_ = .int .i64 z ∧ n + z ≤ 14 ∧ 1 ≤ n ∧ K2 + 10 * z ≤ K + 200 ∧ Hid (rs.length = n) ∧ Hid (DgOk rs most) ∧ Hid (DgW w w' g K2 A n c rs)) (fun z_ _ => (intOf z_).toNat)
      case atStart => exact ⟨z.toNat, _, k, _, K + 2 + 2, rs0, by congr 1; omega, by omega, hL1, by omega, HLn0, ok0, P3⟩
      case round =>
        obtain ⟨z, A, n, c, K2, rs, rfl, hnz, hn1, hK2, HLn, HOk, P⟩ := hrel
        clear P3 ok0 HLn0
        have d0 := P.out.x.cell 0
        have dl := P.out.x.lt
        by_cases hz : 0 < z
        · obtain ⟨ga, cap0, hv0, hga0, hga1⟩ := P.out.q.form hn1
          obtain rfl : A = some ⟨ga, 0, none⟩ := by injection hv0
          have z1 : (0 : Int) < (z : Int) := by omega
          clear hv0 hga0 hga1
          go_wp2_with fail
          refine (pick_any g K2 n n wr P.out.s (by omega) (by omega) (by omega)).mono ?_
          rintro e w3 ⟨v1, rfl, v10, v11, s3, g3⟩
          have P3 := Lib.hid (P.out.pick s3 g3)
          clear s3 g3 d0 dl P
          go_wp2_with fail
          refine (pick_any g (K2 + 2) n n w3 P3.out.s (by omega) (by omega) (by omega)).mono ?_
          rintro e w4 ⟨v2, rfl, v20, v21, s4, g4⟩
          have P4 := Lib.hid (P3.out.pick s4 g4)
          clear s4 g4 P3
          go_wp2_with fail
          refine namedC fun w5 H5 => ?_
          have hb5 : Below w4.heap.size w4 w5 := by rw [H5.out]; (repeat first | exact Below.refl _ _ | assumption | refine Below.drew ?_ | refine Below.alloc ?_ (by first | exact Nat.le_refl _ | (simp; done) | omega | (simp; omega)) _ | refine Below.setCell ?_ (by first | exact Nat.le_refl _ | (simp; done) | omega | (simp; omega)) _)
          have BR5 := Lib.hid (show Blk w5 w4.heap.size 65 #[.string .empty, .int .i64 v1, .int .i64 v2] by rw [H5.out]; exact Blk.new _ _ _)
          have P5 := Lib.hid (P4.out.next hb5)
          have gr0 : w.heap.size + 1 < w4.heap.size := P4.out.x.lt
          have gr1 : ga < w4.heap.size := (P4.out.q.lt ga rfl).2
          clear H5 hb5
          generalize hgr : w4.heap.size = gr at *
          clear hgr P4
          have um : IntKind.i64.wrap ((n : Int) - 1) = ((n - 1 : Nat) : Int) := by rw [IntWalk.i64_in _ (by omega)]; omega
          refine (one_any g (K2 + 2 + 2) 2 w5 P5.out.s (by omega) (by omega)).mono ?_
          rintro e w6 ⟨b1, rfl, s6, g6⟩
          have P6 := Lib.hid (P5.out.pick s6 g6)
          have BR6 := Lib.hid (BR5.out.grown g6 (by intro e; injection e with e; omega))
          have c61 := BR6.out.cell 1
          have c6f := BR6.out.frozen
          have c6l := BR6.out.lt
          clear s6 g6 P5 BR5
          go_upto_if 49 with fail
          go_cut [] (fun wx => ∃ l : Int, 0 ≤ l ∧ l < (n : Int) ∧ Hid (DgW w wx g (K2 + 2 + 2 + 2) (some ⟨ga, 0, none⟩) n c rs) ∧ Hid (Blk wx gr 65 #[.string .empty, .int .i64 l, .int .i64 v2]))
          case first =>
            cases b1
            · go_wp2_with fail
              go_meet
              exact ⟨v1, v10, v11, P6, BR6⟩
            · have P7 := Lib.hid (P6.out.keepAt (gb_set w6 gr 1 (.int .i64 ((n - 1 : Nat) : Int))) (by omega) (by omega))
              have BR7 := Lib.hid (BR6.out.set_ 1 (.int .i64 ((n - 1 : Nat) : Int)))
              go_wp2_with fail
              go_meet
              exact ⟨((n - 1 : Nat) : Int), by omega, by omega, P7, BR7⟩
          case rest =>
            obtain ⟨l, l0, l1, P7, BR7⟩ := hcut
            clear P6 BR6 c61 c6f c6l v10 v11
            go_wp2_with fail
            refine (one_any g (K2 + 2 + 2 + 2) 3 wc P7.out.s (by omega) (by omega)).mono ?_
            rintro e w8 ⟨b2, rfl, s8, g8'⟩
            have P8 := Lib.hid (P7.out.pick s8 g8')
            have BR8 := Lib.hid (BR7.out.grown g8' (by intro e; injection e with e; omega))
            have c81 := BR8.out.cell 2
            have c8f := BR8.out.frozen
            have c8l := BR8.out.lt
            clear s8 g8' P7 BR7
            go_upto_if 54 with fail
            go_cut [] (fun wx => ∃ r : Int, 0 ≤ r ∧ r < (n : Int) ∧ Hid (DgW w wx g (K2 + 2 + 2 + 2 + 2) (some ⟨ga, 0, none⟩) n c rs) ∧ Hid (Blk wx gr 65 #[.string .empty, .int .i64 l, .int .i64 r]))
            case first =>
              cases b2
              · go_wp2_with fail
                go_meet
                exact ⟨v2, v20, v21, P8, BR8⟩
              · have P9 := Lib.hid (P8.out.keepAt (gb_set w8 gr 2 (.int .i64 ((n - 1 : Nat) : Int))) (by omega) (by omega))
                have BR9 := Lib.hid (BR8.out.set_ 2 (.int .i64 ((n - 1 : Nat) : Int)))
                go_wp2_with fail
                go_meet
                exact ⟨((n - 1 : Nat) : Int), by omega, by omega, P9, BR9⟩
            case rest =>
              obtain ⟨r, r0, r1, P, BR⟩ := hcut
              clear P8 BR8 c81 c8f c8l um v20 v21
              have hn0 : 0 < n := hn1
              generalize hK3 : K2 + 2 + 2 + 2 + 2 = K3 at *
              go_upto_region 16 with fail
              go_cut [11] (fun p_ wx => ∃ (g8 : Nat) (A6 : Option Addr) (c6 : Nat), p_ = .pointer (some ⟨g8, 0, none⟩) ∧ Hid (DgW w wx g K3 (some ⟨ga, 0, none⟩) n c rs) ∧ Hid (Blk wx g8 26 #[.slice A6 (n + 1) c6]) ∧
                Hid (wx.ownsRow w.heap.size 65 3 (.slice A6 (n + 1) c6) (n + 1) ((rs ++ [(⟨.empty, l, r⟩ : Fac)]).flatMap Fac.cells)) ∧ Hid (w.heap.size + 1 < g8))
              case first =>
                refine wp_region_N (fun W' => W'.cell? ⟨w.heap.size + 1, 0, none⟩ = some (.slice (some ⟨ga, 0, none⟩) n c) ∧ W'.cell? ⟨gr, 0, none⟩ = some (.string .empty) ∧ W'.cell? ⟨gr, 1, none⟩ = some (.int .i64 l) ∧ W'.cell? ⟨gr, 2, none⟩ = some (.int .i64 r)) [6, 7, 9] (by kernel_rfl) ?_
                have P_0 := Lib.hid (P.out.next (Below.refl _ _).drew)
                have BR_0 := Lib.hid BR.out.drew
                have hS0 : wc.drew.cell? ⟨w.heap.size + 1, 0, none⟩ = some (.slice (some ⟨ga, 0, none⟩) n c) ∧ wc.drew.cell? ⟨gr, 0, none⟩ = some (.string .empty) ∧ wc.drew.cell? ⟨gr, 1, none⟩ = some (.int .i64 l) ∧ wc.drew.cell? ⟨gr, 2, none⟩ = some (.int .i64 r) := ⟨P_0.out.x.cell 0, BR_0.out.three⟩
                have Hnews := Lib.hid (fun W (h : DgW w W g K3 (some ⟨ga, 0, none⟩) n c rs) => h.news)
                generalize wc.drew = wd at *
                refine wpAnyN_take (i := 1) (v := ?_) rfl (by kernel_rfl) (fun _ _ _ h => h) (by rfl) (fun W hW => ?_) hS0 ?_
                rotate_left
                · obtain ⟨z0, z1, z2, z3⟩ := hW
                  go_simp
                  try with_reducible rfl
                try simp only [List.getElem_toArray, List.getElem_cons_zero, List.getElem_cons_succ, Act.put, List.setIfInBounds_toArray, List.set_cons_zero, List.set_cons_succ]
                refine wpAnyN_take (i := 2) (v := ?_) rfl (by kernel_rfl) (fun _ _ _ h => h) (by rfl) (fun W hW => ?_) hS0 ?_
                rotate_left
                · obtain ⟨z0, z1, z2, z3⟩ := hW
                  go_simp
                  try with_reducible rfl
                try simp only [List.getElem_toArray, List.getElem_cons_zero, List.getElem_cons_succ, Act.put, List.setIfInBounds_toArray, List.set_cons_zero, List.set_cons_succ]
                refine wpAnyN_take (i := 4) (v := ?_) rfl (by kernel_rfl) (fun _ _ _ h => h) (by rfl) (fun W hW => ?_) hS0 ?_
                rotate_left
                · obtain ⟨z0, z1, z2, z3⟩ := hW
                  go_simp
                  try with_reducible rfl
                try simp only [List.getElem_toArray, List.getElem_cons_zero, List.getElem_cons_succ, Act.put, List.setIfInBounds_toArray, List.set_cons_zero, List.set_cons_succ]
                clear hS0
                refine wpAnyN_3 (i := 0) (j := 5) (l := 8) rfl rfl rfl (by kernel_rfl) ?_ ?_ ?_
                · intro Kc hK
                  go_simp
                  have P_1 := Lib.hid (P_0.out.alloc (.cells #[] 65))
                  have BR_1 := Lib.hid (BR_0.out.alloc (.cells #[] 65))
                  have OE_1 := Lib.hid (World.ownsRow_made (base := w.heap.size) (e := 65) (size := 3) wd #[] 0 (by have := P_0.out.x.lt; omega) (by unfold maxLen; omega) rfl)
                  have ne0_gr : gr < wd.heap.size := BR_0.out.lt
                  have ne0_ga : ga < wd.heap.size := (P_0.out.q.lt ga rfl).2
                  have e0_low : w.heap.size + 1 < wd.heap.size := P_0.out.x.lt
                  refine hK.out _ _ (fun _ => ⟨P_1.out.x.cell 0, BR_1.out.three⟩) ?_
                  clear hK Kc
                  try simp only [List.getElem_toArray, List.getElem_cons_zero, List.getElem_cons_succ, Act.put, List.setIfInBounds_toArray, List.set_cons_zero, List.set_cons_succ]
                  generalize wd.heap.size = e0 at *
                  generalize wd.alloc (.cells #[] 65) = x1 at *
                  clear P_0 BR_0
                  refine wpAnyN_3 (i := 3) (j := 5) (l := 8) rfl rfl rfl (by kernel_rfl) ?_ ?_ ?_
                  · intro Kc hK
                    refine step_copyL (by rfl) _ _ _ (by rfl) w.heap.size 65 3 32 elem_rule Fac.cells e0 (by rfl) OE_1.out ⟨ga, 0, none⟩ n c rs (by rfl) HLn.out hn0 (Hnews.out _ P_1.out) (fun x _ => fac_len x) (fun x _ => one_fac x) (by omega) (by omega) (by unfold maxLen; omega) P_1.out.e.size ?_
                    intro A3 c3 x2 own3 hg3 at3
                    obtain ⟨o3, cap3, hv3, _, _⟩ := own3.form hn0
                    obtain rfl : A3 = some ⟨o3, 0, none⟩ := by injection hv3
                    have h3_gr : gr < x1.heap.size := BR_1.out.lt
                    have h3_ga : ga < x1.heap.size := (P_1.out.q.lt ga rfl).2
                    have at3 : o3 = e0 ∨ o3 = x1.heap.size := at3.imp (fun h => Option.some.inj h) (fun h => Option.some.inj h)
                    have o3_low : w.heap.size + 1 < o3 := by have h := P_1.out.x.lt; rcases at3 with h3 | h3 <;> omega
                    have o3_gr : gr ≠ o3 := by rcases at3 with h3 | h3 <;> omega
                    have o3_ga : ga ≠ o3 := by rcases at3 with h3 | h3 <;> omega
                    have P_2 := Lib.hid (P_1.out.keepAt hg3 (show w.heap.size + 2 ≤ e0 by omega) (by omega))
                    have BR_2 := Lib.hid (BR_1.out.grown hg3 (by intro e; injection e with e; omega))
                    have OC_2 := Lib.hid own3
                    refine hK.out _ _ (fun _ => ⟨P_2.out.x.cell 0, BR_2.out.three⟩) ?_
                    clear hK Kc own3 hg3 at3 hv3 h3_gr h3_ga
                    try simp only [List.getElem_toArray, List.getElem_cons_zero, List.getElem_cons_succ, Act.put, List.setIfInBounds_toArray, List.set_cons_zero, List.set_cons_succ]
                    clear P_1 BR_1 OE_1
                    refine wpAnyN_2 (i := 5) (j := 8) rfl rfl (by kernel_rfl) ?_ ?_
                    · intro Kc hK
                      go_simp
                      have P_3 := Lib.hid (P_2.out.alloc (.cells #[.string .empty, .int .i64 l, .int .i64 r] 65))
                      have BR_3 := Lib.hid (BR_2.out.alloc (.cells #[.string .empty, .int .i64 l, .int .i64 r] 65))
                      have OC_3 := Lib.hid (OC_2.out.alloc (.cells #[.string .empty, .int .i64 l, .int .i64 r] 65))
                      have B5_3 := Lib.hid (Blk.new x2 65 #[.string .empty, .int .i64 l, .int .i64 r])
                      have ng5_gr : gr < x2.heap.size := BR_2.out.lt
                      have ng5_ga : ga < x2.heap.size := (P_2.out.q.lt ga rfl).2
                      have ng5_o3 : o3 < x2.heap.size := (OC_2.out.lt o3 rfl).2
                      have g5_low : w.heap.size + 1 < x2.heap.size := P_2.out.x.lt
                      refine hK.out _ _ (fun _ => ⟨P_3.out.x.cell 0, BR_3.out.three⟩) ?_
                      clear hK Kc
                      try simp only [List.getElem_toArray, List.getElem_cons_zero, List.getElem_cons_succ, Act.put, List.setIfInBounds_toArray, List.set_cons_zero, List.set_cons_succ]
                      generalize x2.heap.size = g5 at *
                      generalize x2.alloc (.cells #[.string .empty, .int .i64 l, .int .i64 r] 65) = x3 at *
                      clear P_2 BR_2 OC_2
                      refine wpAnyN_2 (i := 6) (j := 8) rfl rfl (by kernel_rfl) ?_ ?_
                      · intro Kc hK
                        refine step_pushL (by rfl) _ _ _ (by rfl) w.heap.size 65 3 32 elem_rule Fac.cells (some ⟨o3, 0, none⟩) n c3 rs (by rfl) OC_3.out g5 ⟨⟨#[]⟩, l, r⟩ #[.string .empty, .int .i64 l, .int .i64 r] 65 (0, 0) (by rfl) B5_3.out rfl rfl (one_fac _) (by omega) (by omega) (by unfold maxLen; omega) P_3.out.e.size ?_
                        intro A6 c6 x4 own6 hg6 at6
                        have P_4 := Lib.hid (P_3.out.keepAt hg6 (show w.heap.size + 2 ≤ o3 by omega) (by omega))
                        have BR_4 := Lib.hid (BR_3.out.grown hg6 (by intro e; have e2 : some gr = some o3 := e; injection e2 with e2; omega))
                        have O6_4 := Lib.hid own6
                        refine hK.out _ _ (fun h => absurd h (by decide)) ?_
                        clear hK Kc own6 hg6 at6
                        try simp only [List.getElem_toArray, List.getElem_cons_zero, List.getElem_cons_succ, Act.put, List.setIfInBounds_toArray, List.set_cons_zero, List.set_cons_succ]
                        clear P_3 BR_3 OC_3 B5_3
                        refine wpAnyN_2 (i := 7) (j := 8) rfl rfl (by kernel_rfl) ?_ ?_
                        · intro Kc hK
                          go_simp
                          refine hK.out _ _ (fun h => absurd h (by decide)) ?_
                          clear hK Kc
                          try simp only [List.getElem_toArray, List.getElem_cons_zero, List.getElem_cons_succ, Act.put, List.setIfInBounds_toArray, List.set_cons_zero, List.set_cons_succ]
                          refine wpAnyN_next (i := 8) rfl (by kernel_rfl) (fun Kc hK => ?_)
                          go_simp
                          have P_6 := Lib.hid (P_4.out.alloc (.cells #[.slice none 0 0] 26))
                          have BR_6 := Lib.hid (BR_4.out.alloc (.cells #[.slice none 0 0] 26))
                          have O6_6 := Lib.hid (O6_4.out.alloc (.cells #[.slice none 0 0] 26))
                          have BL_6 := Lib.hid (Blk.new x4 26 #[.slice none 0 0])
                          have ng8_gr : gr < x4.heap.size := BR_4.out.lt
                          have ng8_ga : ga < x4.heap.size := (P_4.out.q.lt ga rfl).2
                          have g8_low : w.heap.size + 1 < x4.heap.size := P_4.out.x.lt
                          refine hK.out _ _ (fun _ => ⟨P_6.out.x.cell 0, BR_6.out.three⟩) ?_
                          clear hK Kc
                          try simp only [List.getElem_toArray, List.getElem_cons_zero, List.getElem_cons_succ, Act.put, List.setIfInBounds_toArray, List.set_cons_zero, List.set_cons_succ]
                          generalize x4.heap.size = g8 at *
                          generalize x4.alloc (.cells #[.slice none 0 0] 26) = x6 at *
                          clear P_4 BR_4 O6_4
                          refine wpAnyN_next (i := 9) rfl (by kernel_rfl) (fun Kc hK => ?_)
                          have b9c := BL_6.out.cell 0
                          have b9f := BL_6.out.frozen
                          have b9l := BL_6.out.lt
                          go_simp
                          have P_7 := Lib.hid (P_6.out.keepAt (gb_set x6 g8 0 (.slice A6 (n + 1) c6)) (show w.heap.size + 2 ≤ g8 by omega) (by omega))
                          have BL_7 := Lib.hid (BL_6.out.set_ 0 (.slice A6 (n + 1) c6))
                          have O6_7 := Lib.hid (own_kept' (i := 0) O6_6.out BL_6.out (by decide) (.slice A6 (n + 1) c6))
                          refine hK.out _ _ (fun h => absurd h (by decide)) ?_
                          clear hK Kc b9c b9f b9l
                          try simp only [List.getElem_toArray, List.getElem_cons_zero, List.getElem_cons_succ, Act.put, List.setIfInBounds_toArray, List.set_cons_zero, List.set_cons_succ]
                          refine wpAnyN_done (by kernel_rfl) ?_ _
                          go_wp2_with fail
                          go_meet
                          exact ⟨g8, A6, c6, rfl, P_7, BL_7, O6_7, Lib.hid g8_low⟩
                        · intro Kc hK
                          go_simp
                          have P_8 := Lib.hid (P_4.out.alloc (.cells #[.slice none 0 0] 26))
                          have BR_8 := Lib.hid (BR_4.out.alloc (.cells #[.slice none 0 0] 26))
                          have O6_8 := Lib.hid (O6_4.out.alloc (.cells #[.slice none 0 0] 26))
                          have BL_8 := Lib.hid (Blk.new x4 26 #[.slice none 0 0])
                          have ng8_gr : gr < x4.heap.size := BR_4.out.lt
                          have ng8_ga : ga < x4.heap.size := (P_4.out.q.lt ga rfl).2
                          have g8_low : w.heap.size + 1 < x4.heap.size := P_4.out.x.lt
                          refine hK.out _ _ (fun _ => ⟨P_8.out.x.cell 0, BR_8.out.three⟩) ?_
                          clear hK Kc
                          try simp only [List.getElem_toArray, List.getElem_cons_zero, List.getElem_cons_succ, Act.put, List.setIfInBounds_toArray, List.set_cons_zero, List.set_cons_succ]
                          generalize x4.heap.size = g8 at *
                          generalize x4.alloc (.cells #[.slice none 0 0] 26) = x8 at *
                          clear P_4 BR_4 O6_4
                          refine wpAnyN_next (i := 7) rfl (by kernel_rfl) (fun Kc hK => ?_)
                          go_simp
                          refine hK.out _ _ (fun h => absurd h (by decide)) ?_
                          clear hK Kc
                          try simp only [List.getElem_toArray, List.getElem_cons_zero, List.getElem_cons_succ, Act.put, List.setIfInBounds_toArray, List.set_cons_zero, List.set_cons_succ]
                          refine wpAnyN_next (i := 9) rfl (by kernel_rfl) (fun Kc hK => ?_)
                          have b9c := BL_8.out.cell 0
                          have b9f := BL_8.out.frozen
                          have b9l := BL_8.out.lt
                          go_simp
                          have P_10 := Lib.hid (P_8.out.keepAt (gb_set x8 g8 0 (.slice A6 (n + 1) c6)) (show w.heap.size + 2 ≤ g8 by omega) (by omega))
                          have BL_10 := Lib.hid (BL_8.out.set_ 0 (.slice A6 (n + 1) c6))
                          have O6_10 := Lib.hid (own_kept' (i := 0) O6_8.out BL_8.out (by decide) (.slice A6 (n + 1) c6))
                          refine hK.out _ _ (fun h => absurd h (by decide)) ?_
                          clear hK Kc b9c b9f b9l
                          try simp only [List.getElem_toArray, List.getElem_cons_zero, List.getElem_cons_succ, Act.put, List.setIfInBounds_toArray, List.set_cons_zero, List.set_cons_succ]
                          refine wpAnyN_done (by kernel_rfl) ?_ _
                          go_wp2_with fail
                          go_meet
                          exact ⟨g8, A6, c6, rfl, P_10, BL_10, O6_10, Lib.hid g8_low⟩
                      · intro Kc hK
                        go_simp
                        have P_11 := Lib.hid (P_3.out.alloc (.cells #[.slice none 0 0] 26))
                        have BR_11 := Lib.hid (BR_3.out.alloc (.cells #[.slice none 0 0] 26))
                        have OC_11 := Lib.hid (OC_3.out.alloc (.cells #[.slice none 0 0] 26))
                        have B5_11 := Lib.hid (B5_3.out.alloc (.cells #[.slice none 0 0] 26))
                        have BL_11 := Lib.hid (Blk.new x3 26 #[.slice none 0 0])
                        have ng8_gr : gr < x3.heap.size := BR_3.out.lt
                        have ng8_ga : ga < x3.heap.size := (P_3.out.q.lt ga rfl).2
                        have ng8_o3 : o3 < x3.heap.size := (OC_3.out.lt o3 rfl).2
                        have ng8_g5 : g5 < x3.heap.size := B5_3.out.lt
                        have g8_low : w.heap.size + 1 < x3.heap.size := P_3.out.x.lt
                        refine hK.out _ _ (fun _ => ⟨P_11.out.x.cell 0, BR_11.out.three⟩) ?_
                        clear hK Kc
                        try simp only [List.getElem_toArray, List.getElem_cons_zero, List.getElem_cons_succ, Act.put, List.setIfInBounds_toArray, List.set_cons_zero, List.set_cons_succ]
                        generalize x3.heap.size = g8 at *
                        generalize x3.alloc (.cells #[.slice none 0 0] 26) = x11 at *
                        clear P_3 BR_3 OC_3 B5_3
                        refine wpAnyN_next (i := 6) rfl (by kernel_rfl) (fun Kc hK => ?_)
                        refine step_pushL (by rfl) _ _ _ (by rfl) w.heap.size 65 3 32 elem_rule Fac.cells (some ⟨o3, 0, none⟩) n c3 rs (by rfl) OC_11.out g5 ⟨⟨#[]⟩, l, r⟩ #[.string .empty, .int .i64 l, .int .i64 r] 65 (0, 0) (by rfl) B5_11.out rfl rfl (one_fac _) (by omega) (by omega) (by unfold maxLen; omega) P_11.out.e.size ?_
                        intro A6 c6 x12 own6 hg6 at6
                        have P_12 := Lib.hid (P_11.out.keepAt hg6 (show w.heap.size + 2 ≤ o3 by omega) (by omega))
                        have BR_12 := Lib.hid (BR_11.out.grown hg6 (by intro e; have e2 : some gr = some o3 := e; injection e2 with e2; omega))
                        have BL_12 := Lib.hid (BL_11.out.grown hg6 (by intro e; have e2 : some g8 = some o3 := e; injection e2 with e2; omega))
                        have O6_12 := Lib.hid own6
                        refine hK.out _ _ (fun h => absurd h (by decide)) ?_
                        clear hK Kc own6 hg6 at6
                        try simp only [List.getElem_toArray, List.getElem_cons_zero, List.getElem_cons_succ, Act.put, List.setIfInBounds_toArray, List.set_cons_zero, List.set_cons_succ]
                        clear P_11 BR_11 OC_11 B5_11 BL_11
                        refine wpAnyN_next (i := 7) rfl (by kernel_rfl) (fun Kc hK => ?_)
                        go_simp
                        refine hK.out _ _ (fun h => absurd h (by decide)) ?_
                        clear hK Kc
                        try simp only [List.getElem_toArray, List.getElem_cons_zero, List.getElem_cons_succ, Act.put, List.setIfInBounds_toArray, List.set_cons_zero, List.set_cons_succ]
                        refine wpAnyN_next (i := 9) rfl (by kernel_rfl) (fun Kc hK => ?_)
                        have b9c := BL_12.out.cell 0
                        have b9f := BL_12.out.frozen
                        have b9l := BL_12.out.lt
                        go_simp
                        have P_14 := Lib.hid (P_12.out.keepAt (gb_set x12 g8 0 (.slice A6 (n + 1) c6)) (show w.heap.size + 2 ≤ g8 by omega) (by omega))
                        have BL_14 := Lib.hid (BL_12.out.set_ 0 (.slice A6 (n + 1) c6))
                        have O6_14 := Lib.hid (own_kept' (i := 0) O6_12.out BL_12.out (by decide) (.slice A6 (n + 1) c6))
                        refine hK.out _ _ (fun h => absurd h (by decide)) ?_
                        clear hK Kc b9c b9f b9l
                        try simp only [List.getElem_toArray, List.getElem_cons_zero, List.getElem_cons_succ, Act.put, List.setIfInBounds_toArray, List.set_cons_zero, List.set_cons_succ]
                        refine wpAnyN_done (by kernel_rfl) ?_ _
                        go_wp2_with fail
                        go_meet
                        exact ⟨g8, A6, c6, rfl, P_14, BL_14, O6_14, Lib.hid g8_low⟩
                    · intro Kc hK
                      go_simp
                      have P_15 := Lib.hid (P_2.out.alloc (.cells #[.slice none 0 0] 26))
                      have BR_15 := Lib.hid (BR_2.out.alloc (.cells #[.slice none 0 0] 26))
                      have OC_15 := Lib.hid (OC_2.out.alloc (.cells #[.slice none 0 0] 26))
                      have BL_15 := Lib.hid (Blk.new x2 26 #[.slice none 0 0])
                      have ng8_gr : gr < x2.heap.size := BR_2.out.lt
                      have ng8_ga : ga < x2.heap.size := (P_2.out.q.lt ga rfl).2
                      have ng8_o3 : o3 < x2.heap.size := (OC_2.out.lt o3 rfl).2
                      have g8_low : w.heap.size + 1 < x2.heap.size := P_2.out.x.lt
                      refine hK.out _ _ (fun _ => ⟨P_15.out.x.cell 0, BR_15.out.three⟩) ?_
                      clear hK Kc
                      try simp only [List.getElem_toArray, List.getElem_cons_zero, List.getElem_cons_succ, Act.put, List.setIfInBounds_toArray, List.set_cons_zero, List.set_cons_succ]
                      generalize x2.heap.size = g8 at *
                      generalize x2.alloc (.cells #[.slice none 0 0] 26) = x15 at *
                      clear P_2 BR_2 OC_2
                      refine wpAnyN_next (i := 5) rfl (by kernel_rfl) (fun Kc hK => ?_)
                      go_simp
                      have P_16 := Lib.hid (P_15.out.alloc (.cells #[.string .empty, .int .i64 l, .int .i64 r] 65))
                      have BR_16 := Lib.hid (BR_15.out.alloc (.cells #[.string .empty, .int .i64 l, .int .i64 r] 65))
                      have OC_16 := Lib.hid (OC_15.out.alloc (.cells #[.string .empty, .int .i64 l, .int .i64 r] 65))
                      have BL_16 := Lib.hid (BL_15.out.alloc (.cells #[.string .empty, .int .i64 l, .int .i64 r] 65))
                      have B5_16 := Lib.hid (Blk.new x15 65 #[.string .empty, .int .i64 l, .int .i64 r])
                      have ng5_gr : gr < x15.heap.size := BR_15.out.lt
                      have ng5_ga : ga < x15.heap.size := (P_15.out.q.lt ga rfl).2
                      have ng5_o3 : o3 < x15.heap.size := (OC_15.out.lt o3 rfl).2
                      have ng5_g8 : g8 < x15.heap.size := BL_15.out.lt
                      have g5_low : w.heap.size + 1 < x15.heap.size := P_15.out.x.lt
                      refine hK.out _ _ (fun _ => ⟨P_16.out.x.cell 0, BR_16.out.three⟩) ?_
                      clear hK Kc
                      try simp only [List.getElem_toArray, List.getElem_cons_zero, List.getElem_cons_succ, Act.put, List.setIfInBounds_toArray, List.set_cons_zero, List.set_cons_succ]
                      generalize x15.heap.size = g5 at *
                      generalize x15.alloc (.cells #[.string .empty, .int .i64 l, .int .i64 r] 65) = x16 at *
                      clear P_15 BR_15 OC_15 BL_15
                      refine wpAnyN_next (i := 6) rfl (by kernel_rfl) (fun Kc hK => ?_)
                      refine step_pushL (by rfl) _ _ _ (by rfl) w.heap.size 65 3 32 elem_rule Fac.cells (some ⟨o3, 0, none⟩) n c3 rs (by rfl) OC_16.out g5 ⟨⟨#[]⟩, l, r⟩ #[.string .empty, .int .i64 l, .int .i64 r] 65 (0, 0) (by rfl) B5_16.out rfl rfl (one_fac _) (by omega) (by omega) (by unfold maxLen; omega) P_16.out.e.size ?_
                      intro A6 c6 x17 own6 hg6 at6
                      have P_17 := Lib.hid (P_16.out.keepAt hg6 (show w.heap.size + 2 ≤ o3 by omega) (by omega))
                      have BR_17 := Lib.hid (BR_16.out.grown hg6 (by intro e; have e2 : some gr = some o3 := e; injection e2 with e2; omega))
                      have BL_17 := Lib.hid (BL_16.out.grown hg6 (by intro e; have e2 : some g8 = some o3 := e; injection e2 with e2; omega))
                      have O6_17 := Lib.hid own6
                      refine hK.out _ _ (fun h => absurd h (by decide)) ?_
                      clear hK Kc own6 hg6 at6
                      try simp only [List.getElem_toArray, List.getElem_cons_zero, List.getElem_cons_succ, Act.put, List.setIfInBounds_toArray, List.set_cons_zero, List.set_cons_succ]
                      clear P_16 BR_16 OC_16 B5_16 BL_16
                      refine wpAnyN_next (i := 7) rfl (by kernel_rfl) (fun Kc hK => ?_)
                      go_simp
                      refine hK.out _ _ (fun h => absurd h (by decide)) ?_
                      clear hK Kc
                      try simp only [List.getElem_toArray, List.getElem_cons_zero, List.getElem_cons_succ, Act.put, List.setIfInBounds_toArray, List.set_cons_zero, List.set_cons_succ]
                      refine wpAnyN_next (i := 9) rfl (by kernel_rfl) (fun Kc hK => ?_)
                      have b9c := BL_17.out.cell 0
                      have b9f := BL_17.out.frozen
                      have b9l := BL_17.out.lt
                      go_simp
                      have P_19 := Lib.hid (P_17.out.keepAt (gb_set x17 g8 0 (.slice A6 (n + 1) c6)) (show w.heap.size + 2 ≤ g8 by omega) (by omega))
                      have BL_19 := Lib.hid (BL_17.out.set_ 0 (.slice A6 (n + 1) c6))
                      have O6_19 := Lib.hid (own_kept' (i := 0) O6_17.out BL_17.out (by decide) (.slice A6 (n + 1) c6))
                      refine hK.out _ _ (fun h => absurd h (by decide)) ?_
                      clear hK Kc b9c b9f b9l
                      try simp only [List.getElem_toArray, List.getElem_cons_zero, List.getElem_cons_succ, Act.put, List.setIfInBounds_toArray, List.set_cons_zero, List.set_cons_succ]
                      refine wpAnyN_done (by kernel_rfl) ?_ _
                      go_wp2_with fail
                      go_meet
                      exact ⟨g8, A6, c6, rfl, P_19, BL_19, O6_19, Lib.hid g8_low⟩
                  · intro Kc hK
                    go_simp
                    have P_20 := Lib.hid (P_1.out.alloc (.cells #[.string .empty, .int .i64 l, .int .i64 r] 65))
                    have BR_20 := Lib.hid (BR_1.out.alloc (.cells #[.string .empty, .int .i64 l, .int .i64 r] 65))
                    have OE_20 := Lib.hid (OE_1.out.alloc (.cells #[.string .empty, .int .i64 l, .int .i64 r] 65))
                    have B5_20 := Lib.hid (Blk.new x1 65 #[.string .empty, .int .i64 l, .int .i64 r])
                    have ng5_gr : gr < x1.heap.size := BR_1.out.lt
                    have ng5_ga : ga < x1.heap.size := (P_1.out.q.lt ga rfl).2
                    have ng5_e0 : e0 < x1.heap.size := (OE_1.out.lt e0 rfl).2
                    have g5_low : w.heap.size + 1 < x1.heap.size := P_1.out.x.lt
                    refine hK.out _ _ (fun _ => ⟨P_20.out.x.cell 0, BR_20.out.three⟩) ?_
                    clear hK Kc
                    try simp only [List.getElem_toArray, List.getElem_cons_zero, List.getElem_cons_succ, Act.put, List.setIfInBounds_toArray, List.set_cons_zero, List.set_cons_succ]
                    generalize x1.heap.size = g5 at *
                    generalize x1.alloc (.cells #[.string .empty, .int .i64 l, .int .i64 r] 65) = x20 at *
                    clear P_1 BR_1 OE_1
                    refine wpAnyN_2 (i := 3) (j := 8) rfl rfl (by kernel_rfl) ?_ ?_
                    · intro Kc hK
                      refine step_copyL (by rfl) _ _ _ (by rfl) w.heap.size 65 3 32 elem_rule Fac.cells e0 (by rfl) OE_20.out ⟨ga, 0, none⟩ n c rs (by rfl) HLn.out hn0 (Hnews.out _ P_20.out) (fun x _ => fac_len x) (fun x _ => one_fac x) (by omega) (by omega) (by unfold maxLen; omega) P_20.out.e.size ?_
                      intro A3 c3 x21 own3 hg3 at3
                      obtain ⟨o3, cap3, hv3, _, _⟩ := own3.form hn0
                      obtain rfl : A3 = some ⟨o3, 0, none⟩ := by injection hv3
                      have h3_gr : gr < x20.heap.size := BR_20.out.lt
                      have h3_ga : ga < x20.heap.size := (P_20.out.q.lt ga rfl).2
                      have h3_g5 : g5 < x20.heap.size := B5_20.out.lt
                      have at3 : o3 = e0 ∨ o3 = x20.heap.size := at3.imp (fun h => Option.some.inj h) (fun h => Option.some.inj h)
                      have o3_low : w.heap.size + 1 < o3 := by have h := P_20.out.x.lt; rcases at3 with h3 | h3 <;> omega
                      have o3_gr : gr ≠ o3 := by rcases at3 with h3 | h3 <;> omega
                      have o3_ga : ga ≠ o3 := by rcases at3 with h3 | h3 <;> omega
                      have o3_g5 : g5 ≠ o3 := by rcases at3 with h3 | h3 <;> omega
                      have P_21 := Lib.hid (P_20.out.keepAt hg3 (show w.heap.size + 2 ≤ e0 by omega) (by omega))
                      have BR_21 := Lib.hid (BR_20.out.grown hg3 (by intro e; injection e with e; omega))
                      have B5_21 := Lib.hid (B5_20.out.grown hg3 (by intro e; injection e with e; omega))
                      have OC_21 := Lib.hid own3
                      refine hK.out _ _ (fun _ => ⟨P_21.out.x.cell 0, BR_21.out.three⟩) ?_
                      clear hK Kc own3 hg3 at3 hv3 h3_gr h3_ga h3_g5
                      try simp only [List.getElem_toArray, List.getElem_cons_zero, List.getElem_cons_succ, Act.put, List.setIfInBounds_toArray, List.set_cons_zero, List.set_cons_succ]
                      clear P_20 BR_20 OE_20 B5_20
                      refine wpAnyN_2 (i := 6) (j := 8) rfl rfl (by kernel_rfl) ?_ ?_
                      · intro Kc hK
                        refine step_pushL (by rfl) _ _ _ (by rfl) w.heap.size 65 3 32 elem_rule Fac.cells (some ⟨o3, 0, none⟩) n c3 rs (by rfl) OC_21.out g5 ⟨⟨#[]⟩, l, r⟩ #[.string .empty, .int .i64 l, .int .i64 r] 65 (0, 0) (by rfl) B5_21.out rfl rfl (one_fac _) (by omega) (by omega) (by unfold maxLen; omega) P_21.out.e.size ?_
                        intro A6 c6 x22 own6 hg6 at6
                        have P_22 := Lib.hid (P_21.out.keepAt hg6 (show w.heap.size + 2 ≤ o3 by omega) (by omega))
                        have BR_22 := Lib.hid (BR_21.out.grown hg6 (by intro e; have e2 : some gr = some o3 := e; injection e2 with e2; omega))
                        have O6_22 := Lib.hid own6
                        refine hK.out _ _ (fun h => absurd h (by decide)) ?_
                        clear hK Kc own6 hg6 at6
                        try simp only [List.getElem_toArray, List.getElem_cons_zero, List.getElem_cons_succ, Act.put, List.setIfInBounds_toArray, List.set_cons_zero, List.set_cons_succ]
                        clear P_21 BR_21 OC_21 B5_21
                        refine wpAnyN_2 (i := 7) (j := 8) rfl rfl (by kernel_rfl) ?_ ?_
                        · intro Kc hK
                          go_simp
                          refine hK.out _ _ (fun h => absurd h (by decide)) ?_
                          clear hK Kc
                          try simp only [List.getElem_toArray, List.getElem_cons_zero, List.getElem_cons_succ, Act.put, List.setIfInBounds_toArray, List.set_cons_zero, List.set_cons_succ]
                          refine wpAnyN_next (i := 8) rfl (by kernel_rfl) (fun Kc hK => ?_)
                          go_simp
                          have P_24 := Lib.hid (P_22.out.alloc (.cells #[.slice none 0 0] 26))
                          have BR_24 := Lib.hid (BR_22.out.alloc (.cells #[.slice none 0 0] 26))
                          have O6_24 := Lib.hid (O6_22.out.alloc (.cells #[.slice none 0 0] 26))
                          have BL_24 := Lib.hid (Blk.new x22 26 #[.slice none 0 0])
                          have ng8_gr : gr < x22.heap.size := BR_22.out.lt
                          have ng8_ga : ga < x22.heap.size := (P_22.out.q.lt ga rfl).2
                          have g8_low : w.heap.size + 1 < x22.heap.size := P_22.out.x.lt
                          refine hK.out _ _ (fun _ => ⟨P_24.out.x.cell 0, BR_24.out.three⟩) ?_
                          clear hK Kc
                          try simp only [List.getElem_toArray, List.getElem_cons_zero, List.getElem_cons_succ, Act.put, List.setIfInBounds_toArray, List.set_cons_zero, List.set_cons_succ]
                          generalize x22.heap.size = g8 at *
                          generalize x22.alloc (.cells #[.slice none 0 0] 26) = x24 at *
                          clear P_22 BR_22 O6_22
                          refine wpAnyN_next (i := 9) rfl (by kernel_rfl) (fun Kc hK => ?_)
                          have b9c := BL_24.out.cell 0
                          have b9f := BL_24.out.frozen
                          have b9l := BL_24.out.lt
                          go_simp
                          have P_25 := Lib.hid (P_24.out.keepAt (gb_set x24 g8 0 (.slice A6 (n + 1) c6)) (show w.heap.size + 2 ≤ g8 by omega) (by omega))
                          have BL_25 := Lib.hid (BL_24.out.set_ 0 (.slice A6 (n + 1) c6))
                          have O6_25 := Lib.hid (own_kept' (i := 0) O6_24.out BL_24.out (by decide) (.slice A6 (n + 1) c6))
                          refine hK.out _ _ (fun h => absurd h (by decide)) ?_
                          clear hK Kc b9c b9f b9l
                          try simp only [List.getElem_toArray, List.getElem_cons_zero, List.getElem_cons_succ, Act.put, List.setIfInBounds_toArray, List.set_cons_zero, List.set_cons_succ]
                          refine wpAnyN_done (by kernel_rfl) ?_ _
                          go_wp2_with fail
                          go_meet
                          exact ⟨g8, A6, c6, rfl, P_25, BL_25, O6_25, Lib.hid g8_low⟩
                        · intro Kc hK
                          go_simp
                          have P_26 := Lib.hid (P_22.out.alloc (.cells #[.slice none 0 0] 26))
                          have BR_26 := Lib.hid (BR_22.out.alloc (.cells #[.slice none 0 0] 26))
                          have O6_26 := Lib.hid (O6_22.out.alloc (.cells #[.slice none 0 0] 26))
                          have BL_26 := Lib.hid (Blk.new x22 26 #[.slice none 0 0])
                          have ng8_gr : gr < x22.heap.size := BR_22.out.lt
                          have ng8_ga : ga < x22.heap.size := (P_22.out.q.lt ga rfl).2
                          have g8_low : w.heap.size + 1 < x22.heap.size := P_22.out.x.lt
                          refine hK.out _ _ (fun _ => ⟨P_26.out.x.cell 0, BR_26.out.three⟩) ?_
                          clear hK Kc
                          try simp only [List.getElem_toArray, List.getElem_cons_zero, List.getElem_cons_succ, Act.put, List.setIfInBounds_toArray, List.set_cons_zero, List.set_cons_succ]
                          generalize x22.heap.size = g8 at *
                          generalize x22.alloc (.cells #[.slice none 0 0] 26) = x26 at *
                          clear P_22 BR_22 O6_22
                          refine wpAnyN_next (i := 7) rfl (by kernel_rfl) (fun Kc hK => ?_)
                          go_simp
                          refine hK.out _ _ (fun h => absurd h (by decide)) ?_
                          clear hK Kc
                          try simp only [List.getElem_toArray, List.getElem_cons_zero, List.getElem_cons_succ, Act.put, List.setIfInBounds_toArray, List.set_cons_zero, List.set_cons_succ]
                          refine wpAnyN_next (i := 9) rfl (by kernel_rfl) (fun Kc hK => ?_)
                          have b9c := BL_26.out.cell 0
                          have b9f := BL_26.out.frozen
                          have b9l := BL_26.out.lt
                          go_simp
                          have P_28 := Lib.hid (P_26.out.keepAt (gb_set x26 g8 0 (.slice A6 (n + 1) c6)) (show w.heap.size + 2 ≤ g8 by omega) (by omega))
                          have BL_28 := Lib.hid (BL_26.out.set_ 0 (.slice A6 (n + 1) c6))
                          have O6_28 := Lib.hid (own_kept' (i := 0) O6_26.out BL_26.out (by decide) (.slice A6 (n + 1) c6))
                          refine hK.out _ _ (fun h => absurd h (by decide)) ?_
                          clear hK Kc b9c b9f b9l
                          try simp only [List.getElem_toArray, List.getElem_cons_zero, List.getElem_cons_succ, Act.put, List.setIfInBounds_toArray, List.set_cons_zero, List.set_cons_succ]
                          refine wpAnyN_done (by kernel_rfl) ?_ _
                          go_wp2_with fail
                          go_meet
                          exact ⟨g8, A6, c6, rfl, P_28, BL_28, O6_28, Lib.hid g8_low⟩
                      · intro Kc hK
                        go_simp
                        have P_29 := Lib.hid (P_21.out.alloc (.cells #[.slice none 0 0] 26))
                        have BR_29 := Lib.hid (BR_21.out.alloc (.cells #[.slice none 0 0] 26))
                        have OC_29 := Lib.hid (OC_21.out.alloc (.cells #[.slice none 0 0] 26))
                        have B5_29 := Lib.hid (B5_21.out.alloc (.cells #[.slice none 0 0] 26))
                        have BL_29 := Lib.hid (Blk.new x21 26 #[.slice none 0 0])
                        have ng8_gr : gr < x21.heap.size := BR_21.out.lt
                        have ng8_ga : ga < x21.heap.size := (P_21.out.q.lt ga rfl).2
                        have ng8_o3 : o3 < x21.heap.size := (OC_21.out.lt o3 rfl).2
                        have ng8_g5 : g5 < x21.heap.size := B5_21.out.lt
                        have g8_low : w.heap.size + 1 < x21.heap.size := P_21.out.x.lt
                        refine hK.out _ _ (fun _ => ⟨P_29.out.x.cell 0, BR_29.out.three⟩) ?_
                        clear hK Kc
                        try simp only [List.getElem_toArray, List.getElem_cons_zero, List.getElem_cons_succ, Act.put, List.setIfInBounds_toArray, List.set_cons_zero, List.set_cons_succ]
                        generalize x21.heap.size = g8 at *
                        generalize x21.alloc (.cells #[.slice none 0 0] 26) = x29 at *
                        clear P_21 BR_21 OC_21 B5_21
                        refine wpAnyN_next (i := 6) rfl (by kernel_rfl) (fun Kc hK => ?_)
                        refine step_pushL (by rfl) _ _ _ (by rfl) w.heap.size 65 3 32 elem_rule Fac.cells (some ⟨o3, 0, none⟩) n c3 rs (by rfl) OC_29.out g5 ⟨⟨#[]⟩, l, r⟩ #[.string .empty, .int .i64 l, .int .i64 r] 65 (0, 0) (by rfl) B5_29.out rfl rfl (one_fac _) (by omega) (by omega) (by unfold maxLen; omega) P_29.out.e.size ?_
                        intro A6 c6 x30 own6 hg6 at6
                        have P_30 := Lib.hid (P_29.out.keepAt hg6 (show w.heap.size + 2 ≤ o3 by omega) (by omega))
                        have BR_30 := Lib.hid (BR_29.out.grown hg6 (by intro e; have e2 : some gr = some o3 := e; injection e2 with e2; omega))
                        have BL_30 := Lib.hid (BL_29.out.grown hg6 (by intro e; have e2 : some g8 = some o3 := e; injection e2 with e2; omega))
                        have O6_30 := Lib.hid own6
                        refine hK.out _ _ (fun h => absurd h (by decide)) ?_
                        clear hK Kc own6 hg6 at6
                        try simp only [List.getElem_toArray, List.getElem_cons_zero, List.getElem_cons_succ, Act.put, List.setIfInBounds_toArray, List.set_cons_zero, List.set_cons_succ]
                        clear P_29 BR_29 OC_29 B5_29 BL_29
                        refine wpAnyN_next (i := 7) rfl (by kernel_rfl) (fun Kc hK => ?_)
                        go_simp
                        refine hK.out _ _ (fun h => absurd h (by decide)) ?_
                        clear hK Kc
                        try simp only [List.getElem_toArray, List.getElem_cons_zero, List.getElem_cons_succ, Act.put, List.setIfInBounds_toArray, List.set_cons_zero, List.set_cons_succ]
                        refine wpAnyN_next (i := 9) rfl (by kernel_rfl) (fun Kc hK => ?_)
                        have b9c := BL_30.out.cell 0
                        have b9f := BL_30.out.frozen
                        have b9l := BL_30.out.lt
                        go_simp
                        have P_32 := Lib.hid (P_30.out.keepAt (gb_set x30 g8 0 (.slice A6 (n + 1) c6)) (show w.heap.size + 2 ≤ g8 by omega) (by omega))
                        have BL_32 := Lib.hid (BL_30.out.set_ 0 (.slice A6 (n + 1) c6))
                        have O6_32 := Lib.hid (own_kept' (i := 0) O6_30.out BL_30.out (by decide) (.slice A6 (n + 1) c6))
                        refine hK.out _ _ (fun h => absurd h (by decide)) ?_
                        clear hK Kc b9c b9f b9l
                        try simp only [List.getElem_toArray, List.getElem_cons_zero, List.getElem_cons_succ, Act.put, List.setIfInBounds_toArray, List.set_cons_zero, List.set_cons_succ]
                        refine wpAnyN_done (by kernel_rfl) ?_ _
                        go_wp2_with fail
                        go_meet
                        exact ⟨g8, A6, c6, rfl, P_32, BL_32, O6_32, Lib.hid g8_low⟩
                    · intro Kc hK
                      go_simp
                      have P_33 := Lib.hid (P_20.out.alloc (.cells #[.slice none 0 0] 26))
                      have BR_33 := Lib.hid (BR_20.out.alloc (.cells #[.slice none 0 0] 26))
                      have OE_33 := Lib.hid (OE_20.out.alloc (.cells #[.slice none 0 0] 26))
                      have B5_33 := Lib.hid (B5_20.out.alloc (.cells #[.slice none 0 0] 26))
                      have BL_33 := Lib.hid (Blk.new x20 26 #[.slice none 0 0])
                      have ng8_gr : gr < x20.heap.size := BR_20.out.lt
                      have ng8_ga : ga < x20.heap.size := (P_20.out.q.lt ga rfl).2
                      have ng8_e0 : e0 < x20.heap.size := (OE_20.out.lt e0 rfl).2
                      have ng8_g5 : g5 < x20.heap.size := B5_20.out.lt
                      have g8_low : w.heap.size + 1 < x20.heap.size := P_20.out.x.lt
                      refine hK.out _ _ (fun _ => ⟨P_33.out.x.cell 0, BR_33.out.three⟩) ?_
                      clear hK Kc
                      try simp only [List.getElem_toArray, List.getElem_cons_zero, List.getElem_cons_succ, Act.put, List.setIfInBounds_toArray, List.set_cons_zero, List.set_cons_succ]
                      generalize x20.heap.size = g8 at *
                      generalize x20.alloc (.cells #[.slice none 0 0] 26) = x33 at *
                      clear P_20 BR_20 OE_20 B5_20
                      refine wpAnyN_next (i := 3) rfl (by kernel_rfl) (fun Kc hK => ?_)
                      refine step_copyL (by rfl) _ _ _ (by rfl) w.heap.size 65 3 32 elem_rule Fac.cells e0 (by rfl) OE_33.out ⟨ga, 0, none⟩ n c rs (by rfl) HLn.out hn0 (Hnews.out _ P_33.out) (fun x _ => fac_len x) (fun x _ => one_fac x) (by omega) (by omega) (by unfold maxLen; omega) P_33.out.e.size ?_
                      intro A3 c3 x34 own3 hg3 at3
                      obtain ⟨o3, cap3, hv3, _, _⟩ := own3.form hn0
                      obtain rfl : A3 = some ⟨o3, 0, none⟩ := by injection hv3
                      have h3_gr : gr < x33.heap.size := BR_33.out.lt
                      have h3_ga : ga < x33.heap.size := (P_33.out.q.lt ga rfl).2
                      have h3_g5 : g5 < x33.heap.size := B5_33.out.lt
                      have h3_g8 : g8 < x33.heap.size := BL_33.out.lt
                      have at3 : o3 = e0 ∨ o3 = x33.heap.size := at3.imp (fun h => Option.some.inj h) (fun h => Option.some.inj h)
                      have o3_low : w.heap.size + 1 < o3 := by have h := P_33.out.x.lt; rcases at3 with h3 | h3 <;> omega
                      have o3_gr : gr ≠ o3 := by rcases at3 with h3 | h3 <;> omega
                      have o3_ga : ga ≠ o3 := by rcases at3 with h3 | h3 <;> omega
                      have o3_g5 : g5 ≠ o3 := by rcases at3 with h3 | h3 <;> omega
                      have o3_g8 : g8 ≠ o3 := by rcases at3 with h3 | h3 <;> omega
                      have P_34 := Lib.hid (P_33.out.keepAt hg3 (show w.heap.size + 2 ≤ e0 by omega) (by omega))
                      have BR_34 := Lib.hid (BR_33.out.grown hg3 (by intro e; injection e with e; omega))
                      have B5_34 := Lib.hid (B5_33.out.grown hg3 (by intro e; injection e with e; omega))
                      have BL_34 := Lib.hid (BL_33.out.grown hg3 (by intro e; injection e with e; omega))
                      have OC_34 := Lib.hid own3
                      refine hK.out _ _ (fun _ => ⟨P_34.out.x.cell 0, BR_34.out.three⟩) ?_
                      clear hK Kc own3 hg3 at3 hv3 h3_gr h3_ga h3_g5 h3_g8
                      try simp only [List.getElem_toArray, List.getElem_cons_zero, List.getElem_cons_succ, Act.put, List.setIfInBounds_toArray, List.set_cons_zero, List.set_cons_succ]
                      clear P_33 BR_33 OE_33 B5_33 BL_33
                      refine wpAnyN_next (i := 6) rfl (by kernel_rfl) (fun Kc hK => ?_)
                      refine step_pushL (by rfl) _ _ _ (by rfl) w.heap.size 65 3 32 elem_rule Fac.cells (some ⟨o3, 0, none⟩) n c3 rs (by rfl) OC_34.out g5 ⟨⟨#[]⟩, l, r⟩ #[.string .empty, .int .i64 l, .int .i64 r] 65 (0, 0) (by rfl) B5_34.out rfl rfl (one_fac _) (by omega) (by omega) (by unfold maxLen; omega) P_34.out.e.size ?_
                      intro A6 c6 x35 own6 hg6 at6
                      have P_35 := Lib.hid (P_34.out.keepAt hg6 (show w.heap.size + 2 ≤ o3 by omega) (by omega))
                      have BR_35 := Lib.hid (BR_34.out.grown hg6 (by intro e; have e2 : some gr = some o3 := e; injection e2 with e2; omega))
                      have BL_35 := Lib.hid (BL_34.out.grown hg6 (by intro e; have e2 : some g8 = some o3 := e; injection e2 with e2; omega))
                      have O6_35 := Lib.hid own6
                      refine hK.out _ _ (fun h => absurd h (by decide)) ?_
                      clear hK Kc own6 hg6 at6
                      try simp only [List.getElem_toArray, List.getElem_cons_zero, List.getElem_cons_succ, Act.put, List.setIfInBounds_toArray, List.set_cons_zero, List.set_cons_succ]
                      clear P_34 BR_34 OC_34 B5_34 BL_34
                      refine wpAnyN_next (i := 7) rfl (by kernel_rfl) (fun Kc hK => ?_)
                      go_simp
                      refine hK.out _ _ (fun h => absurd h (by decide)) ?_
                      clear hK Kc
                      try simp only [List.getElem_toArray, List.getElem_cons_zero, List.getElem_cons_succ, Act.put, List.setIfInBounds_toArray, List.set_cons_zero, List.set_cons_succ]
                      refine wpAnyN_next (i := 9) rfl (by kernel_rfl) (fun Kc hK => ?_)
                      have b9c := BL_35.out.cell 0
                      have b9f := BL_35.out.frozen
                      have b9l := BL_35.out.lt
                      go_simp
                      have P_37 := Lib.hid (P_35.out.keepAt (gb_set x35 g8 0 (.slice A6 (n + 1) c6)) (show w.heap.size + 2 ≤ g8 by omega) (by omega))
                      have BL_37 := Lib.hid (BL_35.out.set_ 0 (.slice A6 (n + 1) c6))
                      have O6_37 := Lib.hid (own_kept' (i := 0) O6_35.out BL_35.out (by decide) (.slice A6 (n + 1) c6))
                      refine hK.out _ _ (fun h => absurd h (by decide)) ?_
                      clear hK Kc b9c b9f b9l
                      try simp only [List.getElem_toArray, List.getElem_cons_zero, List.getElem_cons_succ, Act.put, List.setIfInBounds_toArray, List.set_cons_zero, List.set_cons_succ]
                      refine wpAnyN_done (by kernel_rfl) ?_ _
                      go_wp2_with fail
                      go_meet
                      exact ⟨g8, A6, c6, rfl, P_37, BL_37, O6_37, Lib.hid g8_low⟩
                  · intro Kc hK
                    go_simp
                    have P_38 := Lib.hid (P_1.out.alloc (.cells #[.slice none 0 0] 26))
                    have BR_38 := Lib.hid (BR_1.out.alloc (.cells #[.slice none 0 0] 26))
                    have OE_38 := Lib.hid (OE_1.out.alloc (.cells #[.slice none 0 0] 26))
                    have BL_38 := Lib.hid (Blk.new x1 26 #[.slice none 0 0])
                    have ng8_gr : gr < x1.heap.size := BR_1.out.lt
                    have ng8_ga : ga < x1.heap.size := (P_1.out.q.lt ga rfl).2
                    have ng8_e0 : e0 < x1.heap.size := (OE_1.out.lt e0 rfl).2
                    have g8_low : w.heap.size + 1 < x1.heap.size := P_1.out.x.lt
                    refine hK.out _ _ (fun _ => ⟨P_38.out.x.cell 0, BR_38.out.three⟩) ?_
                    clear hK Kc
                    try simp only [List.getElem_toArray, List.getElem_cons_zero, List.getElem_cons_succ, Act.put, List.setIfInBounds_toArray, List.set_cons_zero, List.set_cons_succ]
                    generalize x1.heap.size = g8 at *
                    generalize x1.alloc (.cells #[.slice none 0 0] 26) = x38 at *
                    clear P_1 BR_1 OE_1
                    refine wpAnyN_2 (i := 3) (j := 5) rfl rfl (by kernel_rfl) ?_ ?_
                    · intro Kc hK
                      refine step_copyL (by rfl) _ _ _ (by rfl) w.heap.size 65 3 32 elem_rule Fac.cells e0 (by rfl) OE_38.out ⟨ga, 0, none⟩ n c rs (by rfl) HLn.out hn0 (Hnews.out _ P_38.out) (fun x _ => fac_len x) (fun x _ => one_fac x) (by omega) (by omega) (by unfold maxLen; omega) P_38.out.e.size ?_
                      intro A3 c3 x39 own3 hg3 at3
                      obtain ⟨o3, cap3, hv3, _, _⟩ := own3.form hn0
                      obtain rfl : A3 = some ⟨o3, 0, none⟩ := by injection hv3
                      have h3_gr : gr < x38.heap.size := BR_38.out.lt
                      have h3_ga : ga < x38.heap.size := (P_38.out.q.lt ga rfl).2
                      have h3_g8 : g8 < x38.heap.size := BL_38.out.lt
                      have at3 : o3 = e0 ∨ o3 = x38.heap.size := at3.imp (fun h => Option.some.inj h) (fun h => Option.some.inj h)
                      have o3_low : w.heap.size + 1 < o3 := by have h := P_38.out.x.lt; rcases at3 with h3 | h3 <;> omega
                      have o3_gr : gr ≠ o3 := by rcases at3 with h3 | h3 <;> omega
                      have o3_ga : ga ≠ o3 := by rcases at3 with h3 | h3 <;> omega
                      have o3_g8 : g8 ≠ o3 := by rcases at3 with h3 | h3 <;> omega
                      have P_39 := Lib.hid (P_38.out.keepAt hg3 (show w.heap.size + 2 ≤ e0 by omega) (by omega))
                      have BR_39 := Lib.hid (BR_38.out.grown hg3 (by intro e; injection e with e; omega))
                      have BL_39 := Lib.hid (BL_38.out.grown hg3 (by intro e; injection e with e; omega))
                      have OC_39 := Lib.hid own3
                      refine hK.out _ _ (fun _ => ⟨P_39.out.x.cell 0, BR_39.out.three⟩) ?_
                      clear hK Kc own3 hg3 at3 hv3 h3_gr h3_ga h3_g8
                      try simp only [List.getElem_toArray, List.getElem_cons_zero, List.getElem_cons_succ, Act.put, List.setIfInBounds_toArray, List.set_cons_zero, List.set_cons_succ]
                      clear P_38 BR_38 OE_38 BL_38
                      refine wpAnyN_next (i := 5) rfl (by kernel_rfl) (fun Kc hK => ?_)
                      go_simp
                      have P_40 := Lib.hid (P_39.out.alloc (.cells #[.string .empty, .int .i64 l, .int .i64 r] 65))
                      have BR_40 := Lib.hid (BR_39.out.alloc (.cells #[.string .empty, .int .i64 l, .int .i64 r] 65))
                      have OC_40 := Lib.hid (OC_39.out.alloc (.cells #[.string .empty, .int .i64 l, .int .i64 r] 65))
                      have BL_40 := Lib.hid (BL_39.out.alloc (.cells #[.string .empty, .int .i64 l, .int .i64 r] 65))
                      have B5_40 := Lib.hid (Blk.new x39 65 #[.string .empty, .int .i64 l, .int .i64 r])
                      have ng5_gr : gr < x39.heap.size := BR_39.out.lt
                      have ng5_ga : ga < x39.heap.size := (P_39.out.q.lt ga rfl).2
                      have ng5_o3 : o3 < x39.heap.size := (OC_39.out.lt o3 rfl).2
                      have ng5_g8 : g8 < x39.heap.size := BL_39.out.lt
                      have g5_low : w.heap.size + 1 < x39.heap.size := P_39.out.x.lt
                      refine hK.out _ _ (fun _ => ⟨P_40.out.x.cell 0, BR_40.out.three⟩) ?_
                      clear hK Kc
                      try simp only [List.getElem_toArray, List.getElem_cons_zero, List.getElem_cons_succ, Act.put, List.setIfInBounds_toArray, List.set_cons_zero, List.set_cons_succ]
                      generalize x39.heap.size = g5 at *
                      generalize x39.alloc (.cells #[.string .empty, .int .i64 l, .int .i64 r] 65) = x40 at *
                      clear P_39 BR_39 OC_39 BL_39
                      refine wpAnyN_next (i := 6) rfl (by kernel_rfl) (fun Kc hK => ?_)
                      refine step_pushL (by rfl) _ _ _ (by rfl) w.heap.size 65 3 32 elem_rule Fac.cells (some ⟨o3, 0, none⟩) n c3 rs (by rfl) OC_40.out g5 ⟨⟨#[]⟩, l, r⟩ #[.string .empty, .int .i64 l, .int .i64 r] 65 (0, 0) (by rfl) B5_40.out rfl rfl (one_fac _) (by omega) (by omega) (by unfold maxLen; omega) P_40.out.e.size ?_
                      intro A6 c6 x41 own6 hg6 at6
                      have P_41 := Lib.hid (P_40.out.keepAt hg6 (show w.heap.size + 2 ≤ o3 by omega) (by omega))
                      have BR_41 := Lib.hid (BR_40.out.grown hg6 (by intro e; have e2 : some gr = some o3 := e; injection e2 with e2; omega))
                      have BL_41 := Lib.hid (BL_40.out.grown hg6 (by intro e; have e2 : some g8 = some o3 := e; injection e2 with e2; omega))
                      have O6_41 := Lib.hid own6
                      refine hK.out _ _ (fun h => absurd h (by decide)) ?_
                      clear hK Kc own6 hg6 at6
                      try simp only [List.getElem_toArray, List.getElem_cons_zero, List.getElem_cons_succ, Act.put, List.setIfInBounds_toArray, List.set_cons_zero, List.set_cons_succ]
                      clear P_40 BR_40 OC_40 B5_40 BL_40
                      refine wpAnyN_next (i := 7) rfl (by kernel_rfl) (fun Kc hK => ?_)
                      go_simp
                      refine hK.out _ _ (fun h => absurd h (by decide)) ?_
                      clear hK Kc
                      try simp only [List.getElem_toArray, List.getElem_cons_zero, List.getElem_cons_succ, Act.put, List.setIfInBounds_toArray, List.set_cons_zero, List.set_cons_succ]
                      refine wpAnyN_next (i := 9) rfl (by kernel_rfl) (fun Kc hK => ?_)
                      have b9c := BL_41.out.cell 0
                      have b9f := BL_41.out.frozen
                      have b9l := BL_41.out.lt
                      go_simp
                      have P_43 := Lib.hid (P_41.out.keepAt (gb_set x41 g8 0 (.slice A6 (n + 1) c6)) (show w.heap.size + 2 ≤ g8 by omega) (by omega))
                      have BL_43 := Lib.hid (BL_41.out.set_ 0 (.slice A6 (n + 1) c6))
                      have O6_43 := Lib.hid (own_kept' (i := 0) O6_41.out BL_41.out (by decide) (.slice A6 (n + 1) c6))
                      refine hK.out _ _ (fun h => absurd h (by decide)) ?_
                      clear hK Kc b9c b9f b9l
                      try simp only [List.getElem_toArray, List.getElem_cons_zero, List.getElem_cons_succ, Act.put, List.setIfInBounds_toArray, List.set_cons_zero, List.set_cons_succ]
                      refine wpAnyN_done (by kernel_rfl) ?_ _
                      go_wp2_with fail
                      go_meet
                      exact ⟨g8, A6, c6, rfl, P_43, BL_43, O6_43, Lib.hid g8_low⟩
                    · intro Kc hK
                      go_simp
                      have P_44 := Lib.hid (P_38.out.alloc (.cells #[.string .empty, .int .i64 l, .int .i64 r] 65))
                      have BR_44 := Lib.hid (BR_38.out.alloc (.cells #[.string .empty, .int .i64 l, .int .i64 r] 65))
                      have OE_44 := Lib.hid (OE_38.out.alloc (.cells #[.string .empty, .int .i64 l, .int .i64 r] 65))
                      have BL_44 := Lib.hid (BL_38.out.alloc (.cells #[.string .empty, .int .i64 l, .int .i64 r] 65))
                      have B5_44 := Lib.hid (Blk.new x38 65 #[.string .empty, .int .i64 l, .int .i64 r])
                      have ng5_gr : gr < x38.heap.size := BR_38.out.lt
                      have ng5_ga : ga < x38.heap.size := (P_38.out.q.lt ga rfl).2
                      have ng5_e0 : e0 < x38.heap.size := (OE_38.out.lt e0 rfl).2
                      have ng5_g8 : g8 < x38.heap.size := BL_38.out.lt
                      have g5_low : w.heap.size + 1 < x38.heap.size := P_38.out.x.lt
                      refine hK.out _ _ (fun _ => ⟨P_44.out.x.cell 0, BR_44.out.three⟩) ?_
                      clear hK Kc
                      try simp only [List.getElem_toArray, List.getElem_cons_zero, List.getElem_cons_succ, Act.put, List.setIfInBounds_toArray, List.set_cons_zero, List.set_cons_succ]
                      generalize x38.heap.size = g5 at *
                      generalize x38.alloc (.cells #[.string .empty, .int .i64 l, .int .i64 r] 65) = x44 at *
                      clear P_38 BR_38 OE_38 BL_38
                      refine wpAnyN_next (i := 3) rfl (by kernel_rfl) (fun Kc hK => ?_)
                      refine step_copyL (by rfl) _ _ _ (by rfl) w.heap.size 65 3 32 elem_rule Fac.cells e0 (by rfl) OE_44.out ⟨ga, 0, none⟩ n c rs (by rfl) HLn.out hn0 (Hnews.out _ P_44.out) (fun x _ => fac_len x) (fun x _ => one_fac x) (by omega) (by omega) (by unfold maxLen; omega) P_44.out.e.size ?_
                      intro A3 c3 x45 own3 hg3 at3
                      obtain ⟨o3, cap3, hv3, _, _⟩ := own3.form hn0
                      obtain rfl : A3 = some ⟨o3, 0, none⟩ := by injection hv3
                      have h3_gr : gr < x44.heap.size := BR_44.out.lt
                      have h3_ga : ga < x44.heap.size := (P_44.out.q.lt ga rfl).2
                      have h3_g5 : g5 < x44.heap.size := B5_44.out.lt
                      have h3_g8 : g8 < x44.heap.size := BL_44.out.lt
                      have at3 : o3 = e0 ∨ o3 = x44.heap.size := at3.imp (fun h => Option.some.inj h) (fun h => Option.some.inj h)
                      have o3_low : w.heap.size + 1 < o3 := by have h := P_44.out.x.lt; rcases at3 with h3 | h3 <;> omega
                      have o3_gr : gr ≠ o3 := by rcases at3 with h3 | h3 <;> omega
                      have o3_ga : ga ≠ o3 := by rcases at3 with h3 | h3 <;> omega
                      have o3_g5 : g5 ≠ o3 := by rcases at3 with h3 | h3 <;> omega
                      have o3_g8 : g8 ≠ o3 := by rcases at3 with h3 | h3 <;> omega
                      have P_45 := Lib.hid (P_44.out.keepAt hg3 (show w.heap.size + 2 ≤ e0 by omega) (by omega))
                      have BR_45 := Lib.hid (BR_44.out.grown hg3 (by intro e; injection e with e; omega))
                      have B5_45 := Lib.hid (B5_44.out.grown hg3 (by intro e; injection e with e; omega))
                      have BL_45 := Lib.hid (BL_44.out.grown hg3 (by intro e; injection e with e; omega))
                      have OC_45 := Lib.hid own3
                      refine hK.out _ _ (fun _ => ⟨P_45.out.x.cell 0, BR_45.out.three⟩) ?_
                      clear hK Kc own3 hg3 at3 hv3 h3_gr h3_ga h3_g5 h3_g8
                      try simp only [List.getElem_toArray, List.getElem_cons_zero, List.getElem_cons_succ, Act.put, List.setIfInBounds_toArray, List.set_cons_zero, List.set_cons_succ]
                      clear P_44 BR_44 OE_44 B5_44 BL_44
                      refine wpAnyN_next (i := 6) rfl (by kernel_rfl) (fun Kc hK => ?_)
                      refine step_pushL (by rfl) _ _ _ (by rfl) w.heap.size 65 3 32 elem_rule Fac.cells (some ⟨o3, 0, none⟩) n c3 rs (by rfl) OC_45.out g5 ⟨⟨#[]⟩, l, r⟩ #[.string .empty, .int .i64 l, .int .i64 r] 65 (0, 0) (by rfl) B5_45.out rfl rfl (one_fac _) (by omega) (by omega) (by unfold maxLen; omega) P_45.out.e.size ?_
                      intro A6 c6 x46 own6 hg6 at6
                      have P_46 := Lib.hid (P_45.out.keepAt hg6 (show w.heap.size + 2 ≤ o3 by omega) (by omega))
                      have BR_46 := Lib.hid (BR_45.out.grown hg6 (by intro e; have e2 : some gr = some o3 := e; injection e2 with e2; omega))
                      have BL_46 := Lib.hid (BL_45.out.grown hg6 (by intro e; have e2 : some g8 = some o3 := e; injection e2 with e2; omega))
                      have O6_46 := Lib.hid own6
                      refine hK.out _ _ (fun h => absurd h (by decide)) ?_
                      clear hK Kc own6 hg6 at6
                      try simp only [List.getElem_toArray, List.getElem_cons_zero, List.getElem_cons_succ, Act.put, List.setIfInBounds_toArray, List.set_cons_zero, List.set_cons_succ]
                      clear P_45 BR_45 OC_45 B5_45 BL_45
                      refine wpAnyN_next (i := 7) rfl (by kernel_rfl) (fun Kc hK => ?_)
                      go_simp
                      refine hK.out _ _ (fun h => absurd h (by decide)) ?_
                      clear hK Kc
                      try simp only [List.getElem_toArray, List.getElem_cons_zero, List.getElem_cons_succ, Act.put, List.setIfInBounds_toArray, List.set_cons_zero, List.set_cons_succ]
                      refine wpAnyN_next (i := 9) rfl (by kernel_rfl) (fun Kc hK => ?_)
                      have b9c := BL_46.out.cell 0
                      have b9f := BL_46.out.frozen
                      have b9l := BL_46.out.lt
                      go_simp
                      have P_48 := Lib.hid (P_46.out.keepAt (gb_set x46 g8 0 (.slice A6 (n + 1) c6)) (show w.heap.size + 2 ≤ g8 by omega) (by omega))
                      have BL_48 := Lib.hid (BL_46.out.set_ 0 (.slice A6 (n + 1) c6))
                      have O6_48 := Lib.hid (own_kept' (i := 0) O6_46.out BL_46.out (by decide) (.slice A6 (n + 1) c6))
                      refine hK.out _ _ (fun h => absurd h (by decide)) ?_
                      clear hK Kc b9c b9f b9l
                      try simp only [List.getElem_toArray, List.getElem_cons_zero, List.getElem_cons_succ, Act.put, List.setIfInBounds_toArray, List.set_cons_zero, List.set_cons_succ]
                      refine wpAnyN_done (by kernel_rfl) ?_ _
                      go_wp2_with fail
                      go_meet
                      exact ⟨g8, A6, c6, rfl, P_48, BL_48, O6_48, Lib.hid g8_low⟩
                · intro Kc hK
                  go_simp
                  have P_49 := Lib.hid (P_0.out.alloc (.cells #[.string .empty, .int .i64 l, .int .i64 r] 65))
                  have BR_49 := Lib.hid (BR_0.out.alloc (.cells #[.string .empty, .int .i64 l, .int .i64 r] 65))
                  have B5_49 := Lib.hid (Blk.new wd 65 #[.string .empty, .int .i64 l, .int .i64 r])
                  have ng5_gr : gr < wd.heap.size := BR_0.out.lt
                  have ng5_ga : ga < wd.heap.size := (P_0.out.q.lt ga rfl).2
                  have g5_low : w.heap.size + 1 < wd.heap.size := P_0.out.x.lt
                  refine hK.out _ _ (fun _ => ⟨P_49.out.x.cell 0, BR_49.out.three⟩) ?_
                  clear hK Kc
                  try simp only [List.getElem_toArray, List.getElem_cons_zero, List.getElem_cons_succ, Act.put, List.setIfInBounds_toArray, List.set_cons_zero, List.set_cons_succ]
                  generalize wd.heap.size = g5 at *
                  generalize wd.alloc (.cells #[.string .empty, .int .i64 l, .int .i64 r] 65) = x49 at *
                  clear P_0 BR_0
                  refine wpAnyN_2 (i := 0) (j := 8) rfl rfl (by kernel_rfl) ?_ ?_
                  · intro Kc hK
                    go_simp
                    have P_50 := Lib.hid (P_49.out.alloc (.cells #[] 65))
                    have BR_50 := Lib.hid (BR_49.out.alloc (.cells #[] 65))
                    have B5_50 := Lib.hid (B5_49.out.alloc (.cells #[] 65))
                    have OE_50 := Lib.hid (World.ownsRow_made (base := w.heap.size) (e := 65) (size := 3) x49 #[] 0 (by have := P_49.out.x.lt; omega) (by unfold maxLen; omega) rfl)
                    have ne0_gr : gr < x49.heap.size := BR_49.out.lt
                    have ne0_ga : ga < x49.heap.size := (P_49.out.q.lt ga rfl).2
                    have ne0_g5 : g5 < x49.heap.size := B5_49.out.lt
                    have e0_low : w.heap.size + 1 < x49.heap.size := P_49.out.x.lt
                    refine hK.out _ _ (fun _ => ⟨P_50.out.x.cell 0, BR_50.out.three⟩) ?_
                    clear hK Kc
                    try simp only [List.getElem_toArray, List.getElem_cons_zero, List.getElem_cons_succ, Act.put, List.setIfInBounds_toArray, List.set_cons_zero, List.set_cons_succ]
                    generalize x49.heap.size = e0 at *
                    generalize x49.alloc (.cells #[] 65) = x50 at *
                    clear P_49 BR_49 B5_49
                    refine wpAnyN_2 (i := 3) (j := 8) rfl rfl (by kernel_rfl) ?_ ?_
                    · intro Kc hK
                      refine step_copyL (by rfl) _ _ _ (by rfl) w.heap.size 65 3 32 elem_rule Fac.cells e0 (by rfl) OE_50.out ⟨ga, 0, none⟩ n c rs (by rfl) HLn.out hn0 (Hnews.out _ P_50.out) (fun x _ => fac_len x) (fun x _ => one_fac x) (by omega) (by omega) (by unfold maxLen; omega) P_50.out.e.size ?_
                      intro A3 c3 x51 own3 hg3 at3
                      obtain ⟨o3, cap3, hv3, _, _⟩ := own3.form hn0
                      obtain rfl : A3 = some ⟨o3, 0, none⟩ := by injection hv3
                      have h3_gr : gr < x50.heap.size := BR_50.out.lt
                      have h3_ga : ga < x50.heap.size := (P_50.out.q.lt ga rfl).2
                      have h3_g5 : g5 < x50.heap.size := B5_50.out.lt
                      have at3 : o3 = e0 ∨ o3 = x50.heap.size := at3.imp (fun h => Option.some.inj h) (fun h => Option.some.inj h)
                      have o3_low : w.heap.size + 1 < o3 := by have h := P_50.out.x.lt; rcases at3 with h3 | h3 <;> omega
                      have o3_gr : gr ≠ o3 := by rcases at3 with h3 | h3 <;> omega
                      have o3_ga : ga ≠ o3 := by rcases at3 with h3 | h3 <;> omega
                      have o3_g5 : g5 ≠ o3 := by rcases at3 with h3 | h3 <;> omega
                      have P_51 := Lib.hid (P_50.out.keepAt hg3 (show w.heap.size + 2 ≤ e0 by omega) (by omega))
                      have BR_51 := Lib.hid (BR_50.out.grown hg3 (by intro e; injection e with e; omega))
                      have B5_51 := Lib.hid (B5_50.out.grown hg3 (by intro e; injection e with e; omega))
                      have OC_51 := Lib.hid own3
                      refine hK.out _ _ (fun _ => ⟨P_51.out.x.cell 0, BR_51.out.three⟩) ?_
                      clear hK Kc own3 hg3 at3 hv3 h3_gr h3_ga h3_g5
                      try simp only [List.getElem_toArray, List.getElem_cons_zero, List.getElem_cons_succ, Act.put, List.setIfInBounds_toArray, List.set_cons_zero, List.set_cons_succ]
                      clear P_50 BR_50 OE_50 B5_50
                      refine wpAnyN_2 (i := 6) (j := 8) rfl rfl (by kernel_rfl) ?_ ?_
                      · intro Kc hK
                        refine step_pushL (by rfl) _ _ _ (by rfl) w.heap.size 65 3 32 elem_rule Fac.cells (some ⟨o3, 0, none⟩) n c3 rs (by rfl) OC_51.out g5 ⟨⟨#[]⟩, l, r⟩ #[.string .empty, .int .i64 l, .int .i64 r] 65 (0, 0) (by rfl) B5_51.out rfl rfl (one_fac _) (by omega) (by omega) (by unfold maxLen; omega) P_51.out.e.size ?_
                        intro A6 c6 x52 own6 hg6 at6
                        have P_52 := Lib.hid (P_51.out.keepAt hg6 (show w.heap.size + 2 ≤ o3 by omega) (by omega))
                        have BR_52 := Lib.hid (BR_51.out.grown hg6 (by intro e; have e2 : some gr = some o3 := e; injection e2 with e2; omega))
                        have O6_52 := Lib.hid own6
                        refine hK.out _ _ (fun h => absurd h (by decide)) ?_
                        clear hK Kc own6 hg6 at6
                        try simp only [List.getElem_toArray, List.getElem_cons_zero, List.getElem_cons_succ, Act.put, List.setIfInBounds_toArray, List.set_cons_zero, List.set_cons_succ]
                        clear P_51 BR_51 OC_51 B5_51
                        refine wpAnyN_2 (i := 7) (j := 8) rfl rfl (by kernel_rfl) ?_ ?_
                        · intro Kc hK
                          go_simp
                          refine hK.out _ _ (fun h => absurd h (by decide)) ?_
                          clear hK Kc
                          try simp only [List.getElem_toArray, List.getElem_cons_zero, List.getElem_cons_succ, Act.put, List.setIfInBounds_toArray, List.set_cons_zero, List.set_cons_succ]
                          refine wpAnyN_next (i := 8) rfl (by kernel_rfl) (fun Kc hK => ?_)
                          go_simp
                          have P_54 := Lib.hid (P_52.out.alloc (.cells #[.slice none 0 0] 26))
                          have BR_54 := Lib.hid (BR_52.out.alloc (.cells #[.slice none 0 0] 26))
                          have O6_54 := Lib.hid (O6_52.out.alloc (.cells #[.slice none 0 0] 26))
                          have BL_54 := Lib.hid (Blk.new x52 26 #[.slice none 0 0])
                          have ng8_gr : gr < x52.heap.size := BR_52.out.lt
                          have ng8_ga : ga < x52.heap.size := (P_52.out.q.lt ga rfl).2
                          have g8_low : w.heap.size + 1 < x52.heap.size := P_52.out.x.lt
                          refine hK.out _ _ (fun _ => ⟨P_54.out.x.cell 0, BR_54.out.three⟩) ?_
                          clear hK Kc
                          try simp only [List.getElem_toArray, List.getElem_cons_zero, List.getElem_cons_succ, Act.put, List.setIfInBounds_toArray, List.set_cons_zero, List.set_cons_succ]
                          generalize x52.heap.size = g8 at *
                          generalize x52.alloc (.cells #[.slice none 0 0] 26) = x54 at *
                          clear P_52 BR_52 O6_52
                          refine wpAnyN_next (i := 9) rfl (by kernel_rfl) (fun Kc hK => ?_)
                          have b9c := BL_54.out.cell 0
                          have b9f := BL_54.out.frozen
                          have b9l := BL_54.out.lt
                          go_simp
                          have P_55 := Lib.hid (P_54.out.keepAt (gb_set x54 g8 0 (.slice A6 (n + 1) c6)) (show w.heap.size + 2 ≤ g8 by omega) (by omega))
                          have BL_55 := Lib.hid (BL_54.out.set_ 0 (.slice A6 (n + 1) c6))
                          have O6_55 := Lib.hid (own_kept' (i := 0) O6_54.out BL_54.out (by decide) (.slice A6 (n + 1) c6))
                          refine hK.out _ _ (fun h => absurd h (by decide)) ?_
                          clear hK Kc b9c b9f b9l
                          try simp only [List.getElem_toArray, List.getElem_cons_zero, List.getElem_cons_succ, Act.put, List.setIfInBounds_toArray, List.set_cons_zero, List.set_cons_succ]
                          refine wpAnyN_done (by kernel_rfl) ?_ _
                          go_wp2_with fail
                          go_meet
                          exact ⟨g8, A6, c6, rfl, P_55, BL_55, O6_55, Lib.hid g8_low⟩
                        · intro Kc hK
                          go_simp
                          have P_56 := Lib.hid (P_52.out.alloc (.cells #[.slice none 0 0] 26))
                          have BR_56 := Lib.hid (BR_52.out.alloc (.cells #[.slice none 0 0] 26))
                          have O6_56 := Lib.hid (O6_52.out.alloc (.cells #[.slice none 0 0] 26))
                          have BL_56 := Lib.hid (Blk.new x52 26 #[.slice none 0 0])
                          have ng8_gr : gr < x52.heap.size := BR_52.out.lt
                          have ng8_ga : ga < x52.heap.size := (P_52.out.q.lt ga rfl).2
                          have g8_low : w.heap.size + 1 < x52.heap.size := P_52.out.x.lt
                          refine hK.out _ _ (fun _ => ⟨P_56.out.x.cell 0, BR_56.out.three⟩) ?_
                          clear hK Kc
                          try simp only [List.getElem_toArray, List.getElem_cons_zero, List.getElem_cons_succ, Act.put, List.setIfInBounds_toArray, List.set_cons_zero, List.set_cons_succ]
                          generalize x52.heap.size = g8 at *
                          generalize x52.alloc (.cells #[.slice none 0 0] 26) = x56 at *
                          clear P_52 BR_52 O6_52
                          refine wpAnyN_next (i := 7) rfl (by kernel_rfl) (fun Kc hK => ?_)
                          go_simp
                          refine hK.out _ _ (fun h => absurd h (by decide)) ?_
                          clear hK Kc
                          try simp only [List.getElem_toArray, List.getElem_cons_zero, List.getElem_cons_succ, Act.put, List.setIfInBounds_toArray, List.set_cons_zero, List.set_cons_succ]
                          refine wpAnyN_next (i := 9) rfl (by kernel_rfl) (fun Kc hK => ?_)
                          have b9c := BL_56.out.cell 0
                          have b9f := BL_56.out.frozen
                          have b9l := BL_56.out.lt
                          go_simp
                          have P_58 := Lib.hid (P_56.out.keepAt (gb_set x56 g8 0 (.slice A6 (n + 1) c6)) (show w.heap.size + 2 ≤ g8 by omega) (by omega))
                          have BL_58 := Lib.hid (BL_56.out.set_ 0 (.slice A6 (n + 1) c6))
                          have O6_58 := Lib.hid (own_kept' (i := 0) O6_56.out BL_56.out (by decide) (.slice A6 (n + 1) c6))
                          refine hK.out _ _ (fun h => absurd h (by decide)) ?_
                          clear hK Kc b9c b9f b9l
                          try simp only [List.getElem_toArray, List.getElem_cons_zero, List.getElem_cons_succ, Act.put, List.setIfInBounds_toArray, List.set_cons_zero, List.set_cons_succ]
                          refine wpAnyN_done (by kernel_rfl) ?_ _
                          go_wp2_with fail
                          go_meet
                          exact ⟨g8, A6, c6, rfl, P_58, BL_58, O6_58, Lib.hid g8_low⟩
                      · intro Kc hK
                        go_simp
                        have P_59 := Lib.hid (P_51.out.alloc (.cells #[.slice none 0 0] 26))
                        have BR_59 := Lib.hid (BR_51.out.alloc (.cells #[.slice none 0 0] 26))
                        have OC_59 := Lib.hid (OC_51.out.alloc (.cells #[.slice none 0 0] 26))
                        have B5_59 := Lib.hid (B5_51.out.alloc (.cells #[.slice none 0 0] 26))
                        have BL_59 := Lib.hid (Blk.new x51 26 #[.slice none 0 0])
                        have ng8_gr : gr < x51.heap.size := BR_51.out.lt
                        have ng8_ga : ga < x51.heap.size := (P_51.out.q.lt ga rfl).2
                        have ng8_o3 : o3 < x51.heap.size := (OC_51.out.lt o3 rfl).2
                        have ng8_g5 : g5 < x51.heap.size := B5_51.out.lt
                        have g8_low : w.heap.size + 1 < x51.heap.size := P_51.out.x.lt
                        refine hK.out _ _ (fun _ => ⟨P_59.out.x.cell 0, BR_59.out.three⟩) ?_
                        clear hK Kc
                        try simp only [List.getElem_toArray, List.getElem_cons_zero, List.getElem_cons_succ, Act.put, List.setIfInBounds_toArray, List.set_cons_zero, List.set_cons_succ]
                        generalize x51.heap.size = g8 at *
                        generalize x51.alloc (.cells #[.slice none 0 0] 26) = x59 at *
                        clear P_51 BR_51 OC_51 B5_51
                        refine wpAnyN_next (i := 6) rfl (by kernel_rfl) (fun Kc hK => ?_)
                        refine step_pushL (by rfl) _ _ _ (by rfl) w.heap.size 65 3 32 elem_rule Fac.cells (some ⟨o3, 0, none⟩) n c3 rs (by rfl) OC_59.out g5 ⟨⟨#[]⟩, l, r⟩ #[.string .empty, .int .i64 l, .int .i64 r] 65 (0, 0) (by rfl) B5_59.out rfl rfl (one_fac _) (by omega) (by omega) (by unfold maxLen; omega) P_59.out.e.size ?_
                        intro A6 c6 x60 own6 hg6 at6
                        have P_60 := Lib.hid (P_59.out.keepAt hg6 (show w.heap.size + 2 ≤ o3 by omega) (by omega))
                        have BR_60 := Lib.hid (BR_59.out.grown hg6 (by intro e; have e2 : some gr = some o3 := e; injection e2 with e2; omega))
                        have BL_60 := Lib.hid (BL_59.out.grown hg6 (by intro e; have e2 : some g8 = some o3 := e; injection e2 with e2; omega))
                        have O6_60 := Lib.hid own6
                        refine hK.out _ _ (fun h => absurd h (by decide)) ?_
                        clear hK Kc own6 hg6 at6
                        try simp only [List.getElem_toArray, List.getElem_cons_zero, List.getElem_cons_succ, Act.put, List.setIfInBounds_toArray, List.set_cons_zero, List.set_cons_succ]
                        clear P_59 BR_59 OC_59 B5_59 BL_59
                        refine wpAnyN_next (i := 7) rfl (by kernel_rfl) (fun Kc hK => ?_)
                        go_simp
                        refine hK.out _ _ (fun h => absurd h (by decide)) ?_
                        clear hK Kc
                        try simp only [List.getElem_toArray, List.getElem_cons_zero, List.getElem_cons_succ, Act.put, List.setIfInBounds_toArray, List.set_cons_zero, List.set_cons_succ]
                        refine wpAnyN_next (i := 9) rfl (by kernel_rfl) (fun Kc hK => ?_)
                        have b9c := BL_60.out.cell 0
                        have b9f := BL_60.out.frozen
                        have b9l := BL_60.out.lt
                        go_simp
                        have P_62 := Lib.hid (P_60.out.keepAt (gb_set x60 g8 0 (.slice A6 (n + 1) c6)) (show w.heap.size + 2 ≤ g8 by omega) (by omega))
                        have BL_62 := Lib.hid (BL_60.out.set_ 0 (.slice A6 (n + 1) c6))
                        have O6_62 := Lib.hid (own_kept' (i := 0) O6_60.out BL_60.out (by decide) (.slice A6 (n + 1) c6))
                        refine hK.out _ _ (fun h => absurd h (by decide)) ?_
                        clear hK Kc b9c b9f b9l
                        try simp only [List.getElem_toArray, List.getElem_cons_zero, List.getElem_cons_succ, Act.put, List.setIfInBounds_toArray, List.set_cons_zero, List.set_cons_succ]
                        refine wpAnyN_done (by kernel_rfl) ?_ _
                        go_wp2_with fail
                        go_meet
                        exact ⟨g8, A6, c6, rfl, P_62, BL_62, O6_62, Lib.hid g8_low⟩
                    · intro Kc hK
                      go_simp
                      have P_63 := Lib.hid (P_50.out.alloc (.cells #[.slice none 0 0] 26))
                      have BR_63 := Lib.hid (BR_50.out.alloc (.cells #[.slice none 0 0] 26))
                      have OE_63 := Lib.hid (OE_50.out.alloc (.cells #[.slice none 0 0] 26))
                      have B5_63 := Lib.hid (B5_50.out.alloc (.cells #[.slice none 0 0] 26))
                      have BL_63 := Lib.hid (Blk.new x50 26 #[.slice none 0 0])
                      have ng8_gr : gr < x50.heap.size := BR_50.out.lt
                      have ng8_ga : ga < x50.heap.size := (P_50.out.q.lt ga rfl).2
                      have ng8_e0 : e0 < x50.heap.size := (OE_50.out.lt e0 rfl).2
                      have ng8_g5 : g5 < x50.heap.size := B5_50.out.lt
                      have g8_low : w.heap.size + 1 < x50.heap.size := P_50.out.x.lt
                      refine hK.out _ _ (fun _ => ⟨P_63.out.x.cell 0, BR_63.out.three⟩) ?_
                      clear hK Kc
                      try simp only [List.getElem_toArray, List.getElem_cons_zero, List.getElem_cons_succ, Act.put, List.setIfInBounds_toArray, List.set_cons_zero, List.set_cons_succ]
                      generalize x50.heap.size = g8 at *
                      generalize x50.alloc (.cells #[.slice none 0 0] 26) = x63 at *
                      clear P_50 BR_50 OE_50 B5_50
                      refine wpAnyN_next (i := 3) rfl (by kernel_rfl) (fun Kc hK => ?_)
                      refine step_copyL (by rfl) _ _ _ (by rfl) w.heap.size 65 3 32 elem_rule Fac.cells e0 (by rfl) OE_63.out ⟨ga, 0, none⟩ n c rs (by rfl) HLn.out hn0 (Hnews.out _ P_63.out) (fun x _ => fac_len x) (fun x _ => one_fac x) (by omega) (by omega) (by unfold maxLen; omega) P_63.out.e.size ?_
                      intro A3 c3 x64 own3 hg3 at3
                      obtain ⟨o3, cap3, hv3, _, _⟩ := own3.form hn0
                      obtain rfl : A3 = some ⟨o3, 0, none⟩ := by injection hv3
                      have h3_gr : gr < x63.heap.size := BR_63.out.lt
                      have h3_ga : ga < x63.heap.size := (P_63.out.q.lt ga rfl).2
                      have h3_g5 : g5 < x63.heap.size := B5_63.out.lt
                      have h3_g8 : g8 < x63.heap.size := BL_63.out.lt
                      have at3 : o3 = e0 ∨ o3 = x63.heap.size := at3.imp (fun h => Option.some.inj h) (fun h => Option.some.inj h)
                      have o3_low : w.heap.size + 1 < o3 := by have h := P_63.out.x.lt; rcases at3 with h3 | h3 <;> omega
                      have o3_gr : gr ≠ o3 := by rcases at3 with h3 | h3 <;> omega
                      have o3_ga : ga ≠ o3 := by rcases at3 with h3 | h3 <;> omega
                      have o3_g5 : g5 ≠ o3 := by rcases at3 with h3 | h3 <;> omega
                      have o3_g8 : g8 ≠ o3 := by rcases at3 with h3 | h3 <;> omega
                      have P_64 := Lib.hid (P_63.out.keepAt hg3 (show w.heap.size + 2 ≤ e0 by omega) (by omega))
                      have BR_64 := Lib.hid (BR_63.out.grown hg3 (by intro e; injection e with e; omega))
                      have B5_64 := Lib.hid (B5_63.out.grown hg3 (by intro e; injection e with e; omega))
                      have BL_64 := Lib.hid (BL_63.out.grown hg3 (by intro e; injection e with e; omega))
                      have OC_64 := Lib.hid own3
                      refine hK.out _ _ (fun _ => ⟨P_64.out.x.cell 0, BR_64.out.three⟩) ?_
                      clear hK Kc own3 hg3 at3 hv3 h3_gr h3_ga h3_g5 h3_g8
                      try simp only [List.getElem_toArray, List.getElem_cons_zero, List.getElem_cons_succ, Act.put, List.setIfInBounds_toArray, List.set_cons_zero, List.set_cons_succ]
                      clear P_63 BR_63 OE_63 B5_63 BL_63
                      refine wpAnyN_next (i := 6) rfl (by kernel_rfl) (fun Kc hK => ?_)
                      refine step_pushL (by rfl) _ _ _ (by rfl) w.heap.size 65 3 32 elem_rule Fac.cells (some ⟨o3, 0, none⟩) n c3 rs (by rfl) OC_64.out g5 ⟨⟨#[]⟩, l, r⟩ #[.string .empty, .int .i64 l, .int .i64 r] 65 (0, 0) (by rfl) B5_64.out rfl rfl (one_fac _) (by omega) (by omega) (by unfold maxLen; omega) P_64.out.e.size ?_
                      intro A6 c6 x65 own6 hg6 at6
                      have P_65 := Lib.hid (P_64.out.keepAt hg6 (show w.heap.size + 2 ≤ o3 by omega) (by omega))
                      have BR_65 := Lib.hid (BR_64.out.grown hg6 (by intro e; have e2 : some gr = some o3 := e; injection e2 with e2; omega))
                      have BL_65 := Lib.hid (BL_64.out.grown hg6 (by intro e; have e2 : some g8 = some o3 := e; injection e2 with e2; omega))
                      have O6_65 := Lib.hid own6
                      refine hK.out _ _ (fun h => absurd h (by decide)) ?_
                      clear hK Kc own6 hg6 at6
                      try simp only [List.getElem_toArray, List.getElem_cons_zero, List.getElem_cons_succ, Act.put, List.setIfInBounds_toArray, List.set_cons_zero, List.set_cons_succ]
                      clear P_64 BR_64 OC_64 B5_64 BL_64
                      refine wpAnyN_next (i := 7) rfl (by kernel_rfl) (fun Kc hK => ?_)
                      go_simp
                      refine hK.out _ _ (fun h => absurd h (by decide)) ?_
                      clear hK Kc
                      try simp only [List.getElem_toArray, List.getElem_cons_zero, List.getElem_cons_succ, Act.put, List.setIfInBounds_toArray, List.set_cons_zero, List.set_cons_succ]
                      refine wpAnyN_next (i := 9) rfl (by kernel_rfl) (fun Kc hK => ?_)
                      have b9c := BL_65.out.cell 0
                      have b9f := BL_65.out.frozen
                      have b9l := BL_65.out.lt
                      go_simp
                      have P_67 := Lib.hid (P_65.out.keepAt (gb_set x65 g8 0 (.slice A6 (n + 1) c6)) (show w.heap.size + 2 ≤ g8 by omega) (by omega))
                      have BL_67 := Lib.hid (BL_65.out.set_ 0 (.slice A6 (n + 1) c6))
                      have O6_67 := Lib.hid (own_kept' (i := 0) O6_65.out BL_65.out (by decide) (.slice A6 (n + 1) c6))
                      refine hK.out _ _ (fun h => absurd h (by decide)) ?_
                      clear hK Kc b9c b9f b9l
                      try simp only [List.getElem_toArray, List.getElem_cons_zero, List.getElem_cons_succ, Act.put, List.setIfInBounds_toArray, List.set_cons_zero, List.set_cons_succ]
                      refine wpAnyN_done (by kernel_rfl) ?_ _
                      go_wp2_with fail
                      go_meet
                      exact ⟨g8, A6, c6, rfl, P_67, BL_67, O6_67, Lib.hid g8_low⟩
                  · intro Kc hK
                    go_simp
                    have P_68 := Lib.hid (P_49.out.alloc (.cells #[.slice none 0 0] 26))
                    have BR_68 := Lib.hid (BR_49.out.alloc (.cells #[.slice none 0 0] 26))
                    have B5_68 := Lib.hid (B5_49.out.alloc (.cells #[.slice none 0 0] 26))
                    have BL_68 := Lib.hid (Blk.new x49 26 #[.slice none 0 0])
                    have ng8_gr : gr < x49.heap.size := BR_49.out.lt
                    have ng8_ga : ga < x49.heap.size := (P_49.out.q.lt ga rfl).2
                    have ng8_g5 : g5 < x49.heap.size := B5_49.out.lt
                    have g8_low : w.heap.size + 1 < x49.heap.size := P_49.out.x.lt
                    refine hK.out _ _ (fun _ => ⟨P_68.out.x.cell 0, BR_68.out.three⟩) ?_
                    clear hK Kc
                    try simp only [List.getElem_toArray, List.getElem_cons_zero, List.getElem_cons_succ, Act.put, List.setIfInBounds_toArray, List.set_cons_zero, List.set_cons_succ]
                    generalize x49.heap.size = g8 at *
                    generalize x49.alloc (.cells #[.slice none 0 0] 26) = x68 at *
                    clear P_49 BR_49 B5_49
                    refine wpAnyN_next (i := 0) rfl (by kernel_rfl) (fun Kc hK => ?_)
                    go_simp
                    have P_69 := Lib.hid (P_68.out.alloc (.cells #[] 65))
                    have BR_69 := Lib.hid (BR_68.out.alloc (.cells #[] 65))
                    have B5_69 := Lib.hid (B5_68.out.alloc (.cells #[] 65))
                    have BL_69 := Lib.hid (BL_68.out.alloc (.cells #[] 65))
                    have OE_69 := Lib.hid (World.ownsRow_made (base := w.heap.size) (e := 65) (size := 3) x68 #[] 0 (by have := P_68.out.x.lt; omega) (by unfold maxLen; omega) rfl)
                    have ne0_gr : gr < x68.heap.size := BR_68.out.lt
                    have ne0_ga : ga < x68.heap.size := (P_68.out.q.lt ga rfl).2
                    have ne0_g5 : g5 < x68.heap.size := B5_68.out.lt
                    have ne0_g8 : g8 < x68.heap.size := BL_68.out.lt
                    have e0_low : w.heap.size + 1 < x68.heap.size := P_68.out.x.lt
                    refine hK.out _ _ (fun _ => ⟨P_69.out.x.cell 0, BR_69.out.three⟩) ?_
                    clear hK Kc
                    try simp only [List.getElem_toArray, List.getElem_cons_zero, List.getElem_cons_succ, Act.put, List.setIfInBounds_toArray, List.set_cons_zero, List.set_cons_succ]
                    generalize x68.heap.size = e0 at *
                    generalize x68.alloc (.cells #[] 65) = x69 at *
                    clear P_68 BR_68 B5_68 BL_68
                    refine wpAnyN_next (i := 3) rfl (by kernel_rfl) (fun Kc hK => ?_)
                    refine step_copyL (by rfl) _ _ _ (by rfl) w.heap.size 65 3 32 elem_rule Fac.cells e0 (by rfl) OE_69.out ⟨ga, 0, none⟩ n c rs (by rfl) HLn.out hn0 (Hnews.out _ P_69.out) (fun x _ => fac_len x) (fun x _ => one_fac x) (by omega) (by omega) (by unfold maxLen; omega) P_69.out.e.size ?_
                    intro A3 c3 x70 own3 hg3 at3
                    obtain ⟨o3, cap3, hv3, _, _⟩ := own3.form hn0
                    obtain rfl : A3 = some ⟨o3, 0, none⟩ := by injection hv3
                    have h3_gr : gr < x69.heap.size := BR_69.out.lt
                    have h3_ga : ga < x69.heap.size := (P_69.out.q.lt ga rfl).2
                    have h3_g5 : g5 < x69.heap.size := B5_69.out.lt
                    have h3_g8 : g8 < x69.heap.size := BL_69.out.lt
                    have at3 : o3 = e0 ∨ o3 = x69.heap.size := at3.imp (fun h => Option.some.inj h) (fun h => Option.some.inj h)
                    have o3_low : w.heap.size + 1 < o3 := by have h := P_69.out.x.lt; rcases at3 with h3 | h3 <;> omega
                    have o3_gr : gr ≠ o3 := by rcases at3 with h3 | h3 <;> omega
                    have o3_ga : ga ≠ o3 := by rcases at3 with h3 | h3 <;> omega
                    have o3_g5 : g5 ≠ o3 := by rcases at3 with h3 | h3 <;> omega
                    have o3_g8 : g8 ≠ o3 := by rcases at3 with h3 | h3 <;> omega
                    have P_70 := Lib.hid (P_69.out.keepAt hg3 (show w.heap.size + 2 ≤ e0 by omega) (by omega))
                    have BR_70 := Lib.hid (BR_69.out.grown hg3 (by intro e; injection e with e; omega))
                    have B5_70 := Lib.hid (B5_69.out.grown hg3 (by intro e; injection e with e; omega))
                    have BL_70 := Lib.hid (BL_69.out.grown hg3 (by intro e; injection e with e; omega))
                    have OC_70 := Lib.hid own3
                    refine hK.out _ _ (fun _ => ⟨P_70.out.x.cell 0, BR_70.out.three⟩) ?_
                    clear hK Kc own3 hg3 at3 hv3 h3_gr h3_ga h3_g5 h3_g8
                    try simp only [List.getElem_toArray, List.getElem_cons_zero, List.getElem_cons_succ, Act.put, List.setIfInBounds_toArray, List.set_cons_zero, List.set_cons_succ]
                    clear P_69 BR_69 OE_69 B5_69 BL_69
                    refine wpAnyN_next (i := 6) rfl (by kernel_rfl) (fun Kc hK => ?_)
                    refine step_pushL (by rfl) _ _ _ (by rfl) w.heap.size 65 3 32 elem_rule Fac.cells (some ⟨o3, 0, none⟩) n c3 rs (by rfl) OC_70.out g5 ⟨⟨#[]⟩, l, r⟩ #[.string .empty, .int .i64 l, .int .i64 r] 65 (0, 0) (by rfl) B5_70.out rfl rfl (one_fac _) (by omega) (by omega) (by unfold maxLen; omega) P_70.out.e.size ?_
                    intro A6 c6 x71 own6 hg6 at6
                    have P_71 := Lib.hid (P_70.out.keepAt hg6 (show w.heap.size + 2 ≤ o3 by omega) (by omega))
                    have BR_71 := Lib.hid (BR_70.out.grown hg6 (by intro e; have e2 : some gr = some o3 := e; injection e2 with e2; omega))
                    have BL_71 := Lib.hid (BL_70.out.grown hg6 (by intro e; have e2 : some g8 = some o3 := e; injection e2 with e2; omega))
                    have O6_71 := Lib.hid own6
                    refine hK.out _ _ (fun h => absurd h (by decide)) ?_
                    clear hK Kc own6 hg6 at6
                    try simp only [List.getElem_toArray, List.getElem_cons_zero, List.getElem_cons_succ, Act.put, List.setIfInBounds_toArray, List.set_cons_zero, List.set_cons_succ]
                    clear P_70 BR_70 OC_70 B5_70 BL_70
                    refine wpAnyN_next (i := 7) rfl (by kernel_rfl) (fun Kc hK => ?_)
                    go_simp
                    refine hK.out _ _ (fun h => absurd h (by decide)) ?_
                    clear hK Kc
                    try simp only [List.getElem_toArray, List.getElem_cons_zero, List.getElem_cons_succ, Act.put, List.setIfInBounds_toArray, List.set_cons_zero, List.set_cons_succ]
                    refine wpAnyN_next (i := 9) rfl (by kernel_rfl) (fun Kc hK => ?_)
                    have b9c := BL_71.out.cell 0
                    have b9f := BL_71.out.frozen
                    have b9l := BL_71.out.lt
                    go_simp
                    have P_73 := Lib.hid (P_71.out.keepAt (gb_set x71 g8 0 (.slice A6 (n + 1) c6)) (show w.heap.size + 2 ≤ g8 by omega) (by omega))
                    have BL_73 := Lib.hid (BL_71.out.set_ 0 (.slice A6 (n + 1) c6))
                    have O6_73 := Lib.hid (own_kept' (i := 0) O6_71.out BL_71.out (by decide) (.slice A6 (n + 1) c6))
                    refine hK.out _ _ (fun h => absurd h (by decide)) ?_
                    clear hK Kc b9c b9f b9l
                    try simp only [List.getElem_toArray, List.getElem_cons_zero, List.getElem_cons_succ, Act.put, List.setIfInBounds_toArray, List.set_cons_zero, List.set_cons_succ]
                    refine wpAnyN_done (by kernel_rfl) ?_ _
                    go_wp2_with fail
                    go_meet
                    exact ⟨g8, A6, c6, rfl, P_73, BL_73, O6_73, Lib.hid g8_low⟩
                · intro Kc hK
                  go_simp
                  have P_74 := Lib.hid (P_0.out.alloc (.cells #[.slice none 0 0] 26))
                  have BR_74 := Lib.hid (BR_0.out.alloc (.cells #[.slice none 0 0] 26))
                  have BL_74 := Lib.hid (Blk.new wd 26 #[.slice none 0 0])
                  have ng8_gr : gr < wd.heap.size := BR_0.out.lt
                  have ng8_ga : ga < wd.heap.size := (P_0.out.q.lt ga rfl).2
                  have g8_low : w.heap.size + 1 < wd.heap.size := P_0.out.x.lt
                  refine hK.out _ _ (fun _ => ⟨P_74.out.x.cell 0, BR_74.out.three⟩) ?_
                  clear hK Kc
                  try simp only [List.getElem_toArray, List.getElem_cons_zero, List.getElem_cons_succ, Act.put, List.setIfInBounds_toArray, List.set_cons_zero, List.set_cons_succ]
                  generalize wd.heap.size = g8 at *
                  generalize wd.alloc (.cells #[.slice none 0 0] 26) = x74 at *
                  clear P_0 BR_0
                  refine wpAnyN_2 (i := 0) (j := 5) rfl rfl (by kernel_rfl) ?_ ?_
                  · intro Kc hK
                    go_simp
                    have P_75 := Lib.hid (P_74.out.alloc (.cells #[] 65))
                    have BR_75 := Lib.hid (BR_74.out.alloc (.cells #[] 65))
                    have BL_75 := Lib.hid (BL_74.out.alloc (.cells #[] 65))
                    have OE_75 := Lib.hid (World.ownsRow_made (base := w.heap.size) (e := 65) (size := 3) x74 #[] 0 (by have := P_74.out.x.lt; omega) (by unfold maxLen; omega) rfl)
                    have ne0_gr : gr < x74.heap.size := BR_74.out.lt
                    have ne0_ga : ga < x74.heap.size := (P_74.out.q.lt ga rfl).2
                    have ne0_g8 : g8 < x74.heap.size := BL_74.out.lt
                    have e0_low : w.heap.size + 1 < x74.heap.size := P_74.out.x.lt
                    refine hK.out _ _ (fun _ => ⟨P_75.out.x.cell 0, BR_75.out.three⟩) ?_
                    clear hK Kc
                    try simp only [List.getElem_toArray, List.getElem_cons_zero, List.getElem_cons_succ, Act.put, List.setIfInBounds_toArray, List.set_cons_zero, List.set_cons_succ]
                    generalize x74.heap.size = e0 at *
                    generalize x74.alloc (.cells #[] 65) = x75 at *
                    clear P_74 BR_74 BL_74
                    refine wpAnyN_2 (i := 3) (j := 5) rfl rfl (by kernel_rfl) ?_ ?_
                    · intro Kc hK
                      refine step_copyL (by rfl) _ _ _ (by rfl) w.heap.size 65 3 32 elem_rule Fac.cells e0 (by rfl) OE_75.out ⟨ga, 0, none⟩ n c rs (by rfl) HLn.out hn0 (Hnews.out _ P_75.out) (fun x _ => fac_len x) (fun x _ => one_fac x) (by omega) (by omega) (by unfold maxLen; omega) P_75.out.e.size ?_
                      intro A3 c3 x76 own3 hg3 at3
                      obtain ⟨o3, cap3, hv3, _, _⟩ := own3.form hn0
                      obtain rfl : A3 = some ⟨o3, 0, none⟩ := by injection hv3
                      have h3_gr : gr < x75.heap.size := BR_75.out.lt
                      have h3_ga : ga < x75.heap.size := (P_75.out.q.lt ga rfl).2
                      have h3_g8 : g8 < x75.heap.size := BL_75.out.lt
                      have at3 : o3 = e0 ∨ o3 = x75.heap.size := at3.imp (fun h => Option.some.inj h) (fun h => Option.some.inj h)
                      have o3_low : w.heap.size + 1 < o3 := by have h := P_75.out.x.lt; rcases at3 with h3 | h3 <;> omega
                      have o3_gr : gr ≠ o3 := by rcases at3 with h3 | h3 <;> omega
                      have o3_ga : ga ≠ o3 := by rcases at3 with h3 | h3 <;> omega
                      have o3_g8 : g8 ≠ o3 := by rcases at3 with h3 | h3 <;> omega
                      have P_76 := Lib.hid (P_75.out.keepAt hg3 (show w.heap.size + 2 ≤ e0 by omega) (by omega))
                      have BR_76 := Lib.hid (BR_75.out.grown hg3 (by intro e; injection e with e; omega))
                      have BL_76 := Lib.hid (BL_75.out.grown hg3 (by intro e; injection e with e; omega))
                      have OC_76 := Lib.hid own3
                      refine hK.out _ _ (fun _ => ⟨P_76.out.x.cell 0, BR_76.out.three⟩) ?_
                      clear hK Kc own3 hg3 at3 hv3 h3_gr h3_ga h3_g8
                      try simp only [List.getElem_toArray, List.getElem_cons_zero, List.getElem_cons_succ, Act.put, List.setIfInBounds_toArray, List.set_cons_zero, List.set_cons_succ]
                      clear P_75 BR_75 OE_75 BL_75
                      refine wpAnyN_next (i := 5) rfl (by kernel_rfl) (fun Kc hK => ?_)
                      go_simp
                      have P_77 := Lib.hid (P_76.out.alloc (.cells #[.string .empty, .int .i64 l, .int .i64 r] 65))
                      have BR_77 := Lib.hid (BR_76.out.alloc (.cells #[.string .empty, .int .i64 l, .int .i64 r] 65))
                      have OC_77 := Lib.hid (OC_76.out.alloc (.cells #[.string .empty, .int .i64 l, .int .i64 r] 65))
                      have BL_77 := Lib.hid (BL_76.out.alloc (.cells #[.string .empty, .int .i64 l, .int .i64 r] 65))
                      have B5_77 := Lib.hid (Blk.new x76 65 #[.string .empty, .int .i64 l, .int .i64 r])
                      have ng5_gr : gr < x76.heap.size := BR_76.out.lt
                      have ng5_ga : ga < x76.heap.size := (P_76.out.q.lt ga rfl).2
                      have ng5_o3 : o3 < x76.heap.size := (OC_76.out.lt o3 rfl).2
                      have ng5_g8 : g8 < x76.heap.size := BL_76.out.lt
                      have g5_low : w.heap.size + 1 < x76.heap.size := P_76.out.x.lt
                      refine hK.out _ _ (fun _ => ⟨P_77.out.x.cell 0, BR_77.out.three⟩) ?_
                      clear hK Kc
                      try simp only [List.getElem_toArray, List.getElem_cons_zero, List.getElem_cons_succ, Act.put, List.setIfInBounds_toArray, List.set_cons_zero, List.set_cons_succ]
                      generalize x76.heap.size = g5 at *
                      generalize x76.alloc (.cells #[.string .empty, .int .i64 l, .int .i64 r] 65) = x77 at *
                      clear P_76 BR_76 OC_76 BL_76
                      refine wpAnyN_next (i := 6) rfl (by kernel_rfl) (fun Kc hK => ?_)
                      refine step_pushL (by rfl) _ _ _ (by rfl) w.heap.size 65 3 32 elem_rule Fac.cells (some ⟨o3, 0, none⟩) n c3 rs (by rfl) OC_77.out g5 ⟨⟨#[]⟩, l, r⟩ #[.string .empty, .int .i64 l, .int .i64 r] 65 (0, 0) (by rfl) B5_77.out rfl rfl (one_fac _) (by omega) (by omega) (by unfold maxLen; omega) P_77.out.e.size ?_
                      intro A6 c6 x78 own6 hg6 at6
                      have P_78 := Lib.hid (P_77.out.keepAt hg6 (show w.heap.size + 2 ≤ o3 by omega) (by omega))
                      have BR_78 := Lib.hid (BR_77.out.grown hg6 (by intro e; have e2 : some gr = some o3 := e; injection e2 with e2; omega))
                      have BL_78 := Lib.hid (BL_77.out.grown hg6 (by intro e; have e2 : some g8 = some o3 := e; injection e2 with e2; omega))
                      have O6_78 := Lib.hid own6
                      refine hK.out _ _ (fun h => absurd h (by decide)) ?_
                      clear hK Kc own6 hg6 at6
                      try simp only [List.getElem_toArray, List.getElem_cons_zero, List.getElem_cons_succ, Act.put, List.setIfInBounds_toArray, List.set_cons_zero, List.set_cons_succ]
                      clear P_77 BR_77 OC_77 B5_77 BL_77
                      refine wpAnyN_next (i := 7) rfl (by kernel_rfl) (fun Kc hK => ?_)
                      go_simp
                      refine hK.out _ _ (fun h => absurd h (by decide)) ?_
                      clear hK Kc
                      try simp only [List.getElem_toArray, List.getElem_cons_zero, List.getElem_cons_succ, Act.put, List.setIfInBounds_toArray, List.set_cons_zero, List.set_cons_succ]
                      refine wpAnyN_next (i := 9) rfl (by kernel_rfl) (fun Kc hK => ?_)
                      have b9c := BL_78.out.cell 0
                      have b9f := BL_78.out.frozen
                      have b9l := BL_78.out.lt
                      go_simp
                      have P_80 := Lib.hid (P_78.out.keepAt (gb_set x78 g8 0 (.slice A6 (n + 1) c6)) (show w.heap.size + 2 ≤ g8 by omega) (by omega))
                      have BL_80 := Lib.hid (BL_78.out.set_ 0 (.slice A6 (n + 1) c6))
                      have O6_80 := Lib.hid (own_kept' (i := 0) O6_78.out BL_78.out (by decide) (.slice A6 (n + 1) c6))
                      refine hK.out _ _ (fun h => absurd h (by decide)) ?_
                      clear hK Kc b9c b9f b9l
                      try simp only [List.getElem_toArray, List.getElem_cons_zero, List.getElem_cons_succ, Act.put, List.setIfInBounds_toArray, List.set_cons_zero, List.set_cons_succ]
                      refine wpAnyN_done (by kernel_rfl) ?_ _
                      go_wp2_with fail
                      go_meet
                      exact ⟨g8, A6, c6, rfl, P_80, BL_80, O6_80, Lib.hid g8_low⟩
                    · intro Kc hK
                      go_simp
                      have P_81 := Lib.hid (P_75.out.alloc (.cells #[.string .empty, .int .i64 l, .int .i64 r] 65))
                      have BR_81 := Lib.hid (BR_75.out.alloc (.cells #[.string .empty, .int .i64 l, .int .i64 r] 65))
                      have OE_81 := Lib.hid (OE_75.out.alloc (.cells #[.string .empty, .int .i64 l, .int .i64 r] 65))
                      have BL_81 := Lib.hid (BL_75.out.alloc (.cells #[.string .empty, .int .i64 l, .int .i64 r] 65))
                      have B5_81 := Lib.hid (Blk.new x75 65 #[.string .empty, .int .i64 l, .int .i64 r])
                      have ng5_gr : gr < x75.heap.size := BR_75.out.lt
                      have ng5_ga : ga < x75.heap.size := (P_75.out.q.lt ga rfl).2
                      have ng5_e0 : e0 < x75.heap.size := (OE_75.out.lt e0 rfl).2
                      have ng5_g8 : g8 < x75.heap.size := BL_75.out.lt
                      have g5_low : w.heap.size + 1 < x75.heap.size := P_75.out.x.lt
                      refine hK.out _ _ (fun _ => ⟨P_81.out.x.cell 0, BR_81.out.three⟩) ?_
                      clear hK Kc
                      try simp only [List.getElem_toArray, List.getElem_cons_zero, List.getElem_cons_succ, Act.put, List.setIfInBounds_toArray, List.set_cons_zero, List.set_cons_succ]
                      generalize x75.heap.size = g5 at *
                      generalize x75.alloc (.cells #[.string .empty, .int .i64 l, .int .i64 r] 65) = x81 at *
                      clear P_75 BR_75 OE_75 BL_75
                      refine wpAnyN_next (i := 3) rfl (by kernel_rfl) (fun Kc hK => ?_)
                      refine step_copyL (by rfl) _ _ _ (by rfl) w.heap.size 65 3 32 elem_rule Fac.cells e0 (by rfl) OE_81.out ⟨ga, 0, none⟩ n c rs (by rfl) HLn.out hn0 (Hnews.out _ P_81.out) (fun x _ => fac_len x) (fun x _ => one_fac x) (by omega) (by omega) (by unfold maxLen; omega) P_81.out.e.size ?_
                      intro A3 c3 x82 own3 hg3 at3
                      obtain ⟨o3, cap3, hv3, _, _⟩ := own3.form hn0
                      obtain rfl : A3 = some ⟨o3, 0, none⟩ := by injection hv3
                      have h3_gr : gr < x81.heap.size := BR_81.out.lt
                      have h3_ga : ga < x81.heap.size := (P_81.out.q.lt ga rfl).2
                      have h3_g5 : g5 < x81.heap.size := B5_81.out.lt
                      have h3_g8 : g8 < x81.heap.size := BL_81.out.lt
                      have at3 : o3 = e0 ∨ o3 = x81.heap.size := at3.imp (fun h => Option.some.inj h) (fun h => Option.some.inj h)
                      have o3_low : w.heap.size + 1 < o3 := by have h := P_81.out.x.lt; rcases at3 with h3 | h3 <;> omega
                      have o3_gr : gr ≠ o3 := by rcases at3 with h3 | h3 <;> omega
                      have o3_ga : ga ≠ o3 := by rcases at3 with h3 | h3 <;> omega
                      have o3_g5 : g5 ≠ o3 := by rcases at3 with h3 | h3 <;> omega
                      have o3_g8 : g8 ≠ o3 := by rcases at3 with h3 | h3 <;> omega
                      have P_82 := Lib.hid (P_81.out.keepAt hg3 (show w.heap.size + 2 ≤ e0 by omega) (by omega))
                      have BR_82 := Lib.hid (BR_81.out.grown hg3 (by intro e; injection e with e; omega))
                      have B5_82 := Lib.hid (B5_81.out.grown hg3 (by intro e; injection e with e; omega))
                      have BL_82 := Lib.hid (BL_81.out.grown hg3 (by intro e; injection e with e; omega))
                      have OC_82 := Lib.hid own3
                      refine hK.out _ _ (fun _ => ⟨P_82.out.x.cell 0, BR_82.out.three⟩) ?_
                      clear hK Kc own3 hg3 at3 hv3 h3_gr h3_ga h3_g5 h3_g8
                      try simp only [List.getElem_toArray, List.getElem_cons_zero, List.getElem_cons_succ, Act.put, List.setIfInBounds_toArray, List.set_cons_zero, List.set_cons_succ]
                      clear P_81 BR_81 OE_81 B5_81 BL_81
                      refine wpAnyN_next (i := 6) rfl (by kernel_rfl) (fun Kc hK => ?_)
                      refine step_pushL (by rfl) _ _ _ (by rfl) w.heap.size 65 3 32 elem_rule Fac.cells (some ⟨o3, 0, none⟩) n c3 rs (by rfl) OC_82.out g5 ⟨⟨#[]⟩, l, r⟩ #[.string .empty, .int .i64 l, .int .i64 r] 65 (0, 0) (by rfl) B5_82.out rfl rfl (one_fac _) (by omega) (by omega) (by unfold maxLen; omega) P_82.out.e.size ?_
                      intro A6 c6 x83 own6 hg6 at6
                      have P_83 := Lib.hid (P_82.out.keepAt hg6 (show w.heap.size + 2 ≤ o3 by omega) (by omega))
                      have BR_83 := Lib.hid (BR_82.out.grown hg6 (by intro e; have e2 : some gr = some o3 := e; injection e2 with e2; omega))
                      have BL_83 := Lib.hid (BL_82.out.grown hg6 (by intro e; have e2 : some g8 = some o3 := e; injection e2 with e2; omega))
                      have O6_83 := Lib.hid own6
                      refine hK.out _ _ (fun h => absurd h (by decide)) ?_
                      clear hK Kc own6 hg6 at6
                      try simp only [List.getElem_toArray, List.getElem_cons_zero, List.getElem_cons_succ, Act.put, List.setIfInBounds_toArray, List.set_cons_zero, List.set_cons_succ]
                      clear P_82 BR_82 OC_82 B5_82 BL_82
                      refine wpAnyN_next (i := 7) rfl (by kernel_rfl) (fun Kc hK => ?_)
                      go_simp
                      refine hK.out _ _ (fun h => absurd h (by decide)) ?_
                      clear hK Kc
                      try simp only [List.getElem_toArray, List.getElem_cons_zero, List.getElem_cons_succ, Act.put, List.setIfInBounds_toArray, List.set_cons_zero, List.set_cons_succ]
                      refine wpAnyN_next (i := 9) rfl (by kernel_rfl) (fun Kc hK => ?_)
                      have b9c := BL_83.out.cell 0
                      have b9f := BL_83.out.frozen
                      have b9l := BL_83.out.lt
                      go_simp
                      have P_85 := Lib.hid (P_83.out.keepAt (gb_set x83 g8 0 (.slice A6 (n + 1) c6)) (show w.heap.size + 2 ≤ g8 by omega) (by omega))
                      have BL_85 := Lib.hid (BL_83.out.set_ 0 (.slice A6 (n + 1) c6))
                      have O6_85 := Lib.hid (own_kept' (i := 0) O6_83.out BL_83.out (by decide) (.slice A6 (n + 1) c6))
                      refine hK.out _ _ (fun h => absurd h (by decide)) ?_
                      clear hK Kc b9c b9f b9l
                      try simp only [List.getElem_toArray, List.getElem_cons_zero, List.getElem_cons_succ, Act.put, List.setIfInBounds_toArray, List.set_cons_zero, List.set_cons_succ]
                      refine wpAnyN_done (by kernel_rfl) ?_ _
                      go_wp2_with fail
                      go_meet
                      exact ⟨g8, A6, c6, rfl, P_85, BL_85, O6_85, Lib.hid g8_low⟩
                  · intro Kc hK
                    go_simp
                    have P_86 := Lib.hid (P_74.out.alloc (.cells #[.string .empty, .int .i64 l, .int .i64 r] 65))
                    have BR_86 := Lib.hid (BR_74.out.alloc (.cells #[.string .empty, .int .i64 l, .int .i64 r] 65))
                    have BL_86 := Lib.hid (BL_74.out.alloc (.cells #[.string .empty, .int .i64 l, .int .i64 r] 65))
                    have B5_86 := Lib.hid (Blk.new x74 65 #[.string .empty, .int .i64 l, .int .i64 r])
                    have ng5_gr : gr < x74.heap.size := BR_74.out.lt
                    have ng5_ga : ga < x74.heap.size := (P_74.out.q.lt ga rfl).2
                    have ng5_g8 : g8 < x74.heap.size := BL_74.out.lt
                    have g5_low : w.heap.size + 1 < x74.heap.size := P_74.out.x.lt
                    refine hK.out _ _ (fun _ => ⟨P_86.out.x.cell 0, BR_86.out.three⟩) ?_
                    clear hK Kc
                    try simp only [List.getElem_toArray, List.getElem_cons_zero, List.getElem_cons_succ, Act.put, List.setIfInBounds_toArray, List.set_cons_zero, List.set_cons_succ]
                    generalize x74.heap.size = g5 at *
                    generalize x74.alloc (.cells #[.string .empty, .int .i64 l, .int .i64 r] 65) = x86 at *
                    clear P_74 BR_74 BL_74
                    refine wpAnyN_next (i := 0) rfl (by kernel_rfl) (fun Kc hK => ?_)
                    go_simp
                    have P_87 := Lib.hid (P_86.out.alloc (.cells #[] 65))
                    have BR_87 := Lib.hid (BR_86.out.alloc (.cells #[] 65))
                    have B5_87 := Lib.hid (B5_86.out.alloc (.cells #[] 65))
                    have BL_87 := Lib.hid (BL_86.out.alloc (.cells #[] 65))
                    have OE_87 := Lib.hid (World.ownsRow_made (base := w.heap.size) (e := 65) (size := 3) x86 #[] 0 (by have := P_86.out.x.lt; omega) (by unfold maxLen; omega) rfl)
                    have ne0_gr : gr < x86.heap.size := BR_86.out.lt
                    have ne0_ga : ga < x86.heap.size := (P_86.out.q.lt ga rfl).2
                    have ne0_g5 : g5 < x86.heap.size := B5_86.out.lt
                    have ne0_g8 : g8 < x86.heap.size := BL_86.out.lt
                    have e0_low : w.heap.size + 1 < x86.heap.size := P_86.out.x.lt
                    refine hK.out _ _ (fun _ => ⟨P_87.out.x.cell 0, BR_87.out.three⟩) ?_
                    clear hK Kc
                    try simp only [List.getElem_toArray, List.getElem_cons_zero, List.getElem_cons_succ, Act.put, List.setIfInBounds_toArray, List.set_cons_zero, List.set_cons_succ]
                    generalize x86.heap.size = e0 at *
                    generalize x86.alloc (.cells #[] 65) = x87 at *
                    clear P_86 BR_86 B5_86 BL_86
                    refine wpAnyN_next (i := 3) rfl (by kernel_rfl) (fun Kc hK => ?_)
                    refine step_copyL (by rfl) _ _ _ (by rfl) w.heap.size 65 3 32 elem_rule Fac.cells e0 (by rfl) OE_87.out ⟨ga, 0, none⟩ n c rs (by rfl) HLn.out hn0 (Hnews.out _ P_87.out) (fun x _ => fac_len x) (fun x _ => one_fac x) (by omega) (by omega) (by unfold maxLen; omega) P_87.out.e.size ?_
                    intro A3 c3 x88 own3 hg3 at3
                    obtain ⟨o3, cap3, hv3, _, _⟩ := own3.form hn0
                    obtain rfl : A3 = some ⟨o3, 0, none⟩ := by injection hv3
                    have h3_gr : gr < x87.heap.size := BR_87.out.lt
                    have h3_ga : ga < x87.heap.size := (P_87.out.q.lt ga rfl).2
                    have h3_g5 : g5 < x87.heap.size := B5_87.out.lt
                    have h3_g8 : g8 < x87.heap.size := BL_87.out.lt
                    have at3 : o3 = e0 ∨ o3 = x87.heap.size := at3.imp (fun h => Option.some.inj h) (fun h => Option.some.inj h)
                    have o3_low : w.heap.size + 1 < o3 := by have h := P_87.out.x.lt; rcases at3 with h3 | h3 <;> omega
                    have o3_gr : gr ≠ o3 := by rcases at3 with h3 | h3 <;> omega
                    have o3_ga : ga ≠ o3 := by rcases at3 with h3 | h3 <;> omega
                    have o3_g5 : g5 ≠ o3 := by rcases at3 with h3 | h3 <;> omega
                    have o3_g8 : g8 ≠ o3 := by rcases at3 with h3 | h3 <;> omega
                    have P_88 := Lib.hid (P_87.out.keepAt hg3 (show w.heap.size + 2 ≤ e0 by omega) (by omega))
                    have BR_88 := Lib.hid (BR_87.out.grown hg3 (by intro e; injection e with e; omega))
                    have B5_88 := Lib.hid (B5_87.out.grown hg3 (by intro e; injection e with e; omega))
                    have BL_88 := Lib.hid (BL_87.out.grown hg3 (by intro e; injection e with e; omega))
                    have OC_88 := Lib.hid own3
                    refine hK.out _ _ (fun _ => ⟨P_88.out.x.cell 0, BR_88.out.three⟩) ?_
                    clear hK Kc own3 hg3 at3 hv3 h3_gr h3_ga h3_g5 h3_g8
                    try simp only [List.getElem_toArray, List.getElem_cons_zero, List.getElem_cons_succ, Act.put, List.setIfInBounds_toArray, List.set_cons_zero, List.set_cons_succ]
                    clear P_87 BR_87 OE_87 B5_87 BL_87
                    refine wpAnyN_next (i := 6) rfl (by kernel_rfl) (fun Kc hK => ?_)
                    refine step_pushL (by rfl) _ _ _ (by rfl) w.heap.size 65 3 32 elem_rule Fac.cells (some ⟨o3, 0, none⟩) n c3 rs (by rfl) OC_88.out g5 ⟨⟨#[]⟩, l, r⟩ #[.string .empty, .int .i64 l, .int .i64 r] 65 (0, 0) (by rfl) B5_88.out rfl rfl (one_fac _) (by omega) (by omega) (by unfold maxLen; omega) P_88.out.e.size ?_
                    intro A6 c6 x89 own6 hg6 at6
                    have P_89 := Lib.hid (P_88.out.keepAt hg6 (show w.heap.size + 2 ≤ o3 by omega) (by omega))
                    have BR_89 := Lib.hid (BR_88.out.grown hg6 (by intro e; have e2 : some gr = some o3 := e; injection e2 with e2; omega))
                    have BL_89 := Lib.hid (BL_88.out.grown hg6 (by intro e; have e2 : some g8 = some o3 := e; injection e2 with e2; omega))
                    have O6_89 := Lib.hid own6
                    refine hK.out _ _ (fun h => absurd h (by decide)) ?_
                    clear hK Kc own6 hg6 at6
                    try simp only [List.getElem_toArray, List.getElem_cons_zero, List.getElem_cons_succ, Act.put, List.setIfInBounds_toArray, List.set_cons_zero, List.set_cons_succ]
                    clear P_88 BR_88 OC_88 B5_88 BL_88
                    refine wpAnyN_next (i := 7) rfl (by kernel_rfl) (fun Kc hK => ?_)
                    go_simp
                    refine hK.out _ _ (fun h => absurd h (by decide)) ?_
                    clear hK Kc
                    try simp only [List.getElem_toArray, List.getElem_cons_zero, List.getElem_cons_succ, Act.put, List.setIfInBounds_toArray, List.set_cons_zero, List.set_cons_succ]
                    refine wpAnyN_next (i := 9) rfl (by kernel_rfl) (fun Kc hK => ?_)
                    have b9c := BL_89.out.cell 0
                    have b9f := BL_89.out.frozen
                    have b9l := BL_89.out.lt
                    go_simp
                    have P_91 := Lib.hid (P_89.out.keepAt (gb_set x89 g8 0 (.slice A6 (n + 1) c6)) (show w.heap.size + 2 ≤ g8 by omega) (by omega))
                    have BL_91 := Lib.hid (BL_89.out.set_ 0 (.slice A6 (n + 1) c6))
                    have O6_91 := Lib.hid (own_kept' (i := 0) O6_89.out BL_89.out (by decide) (.slice A6 (n + 1) c6))
                    refine hK.out _ _ (fun h => absurd h (by decide)) ?_
                    clear hK Kc b9c b9f b9l
                    try simp only [List.getElem_toArray, List.getElem_cons_zero, List.getElem_cons_succ, Act.put, List.setIfInBounds_toArray, List.set_cons_zero, List.set_cons_succ]
                    refine wpAnyN_done (by kernel_rfl) ?_ _
                    go_wp2_with fail
                    go_meet
                    exact ⟨g8, A6, c6, rfl, P_91, BL_91, O6_91, Lib.hid g8_low⟩
              case rest =>
                obtain ⟨g8, A6, c6, rfl, P2, BL2, O2, Hlow⟩ := hcut
                clear P BR
                have hwf2 := Lib.hid (wf_snoc' HOk.out.wf l0 (by rw [HLn.out]; exact l1) r0 (by rw [HLn.out]; exact r1))
                have hl2 := Lib.hid (show (rs ++ [(⟨.empty, l, r⟩ : Fac)]).length = n + 1 by rw [List.length_append, HLn.out]; rfl)
                generalize rs ++ [(⟨.empty, l, r⟩ : Fac)] = rs2 at *
                have hgk := dg_gok hwf2.out (by rw [hl2.out]; omega)
                obtain ⟨ls2, hls2⟩ := Option.isSome_iff_exists.1 hgk
                have Hls := Lib.hid hls2
                have R2 := Lib.hid (Rd.of_own (fun x _ => fac_len x) hl2.out O2.out)
                have OKC := Lib.hid (l02Ok_any g8 A6 (n + 1) c6 rs2 wc BL2.out.lt (BL2.out.cell 0) (by omega) R2.out (wf_sz hwf2.out) true hgk)
                have LEC := Lib.hid (fun W (hb : Below wc.heap.size wc W) => l02Length_any g8 A6 (n + 1) c6 rs2 W (by have := BL2.out.lt; have := hb.size; omega) ((BL2.out.next hb).cell 0) (by omega) (R2.out.next hb) (wf_sz hwf2.out) ls2 (gOk_lens hls2).1)
                have HLast := Lib.hid (last_word (gOk_lens hls2).1)
                have hw1 : (wdN rs2).length ≤ 2 ^ 14 := by
                  have h1 := wds_pow hwf2.out n (by rw [hl2.out]; omega)
                  have h2 : 2 ^ n ≤ 2 ^ 14 := Nat.pow_le_pow_right (by omega) (by omega)
                  unfold wdN
                  rw [if_neg (by intro e; have := hl2.out; rw [e] at this; simp at this), hl2.out, Nat.add_sub_cancel]
                  omega
                rw [HLast.out] at LEC
                obtain ⟨wl, hwl⟩ : ∃ wl, (wdN rs2).length = wl := ⟨_, rfl⟩
                rw [hwl] at LEC hw1
                have HWl := Lib.hid hwl
                clear hls2 hgk hwl l0 l1 r0 r1
                go_wp2_with fail
                refine OKC.out.mono ?_
                rintro e wk ⟨rfl, hbk⟩
                have Pk := Lib.hid (P2.out.next hbk)
                have BLk := Lib.hid (BL2.out.next hbk)
                have Ok_ := Lib.hid (own_next O2.out hbk)
                have HBk := Lib.hid hbk
                clear hbk P2 BL2 O2
                go_wp2_with fail
                refine (LEC.out wk HBk.out).mono ?_
                rintro e wn ⟨rfl, hbn⟩
                have Pn := Lib.hid (Pk.out.next hbn)
                have BLn := Lib.hid (BLk.out.next hbn)
                have On := Lib.hid (own_next Ok_.out hbn)
                have g0 := BLn.out.cell 0
                have gl := BLn.out.lt
                have x0 := Pn.out.x.cell 0
                have xf := Pn.out.x.frozen
                have xl := Pn.out.x.lt
                have r0 := Pn.out.r.cell 0
                have rf := Pn.out.r.frozen
                have rl := Pn.out.r.lt
                clear hbn Pk BLk Ok_ HBk
                by_cases hml : most < (wl : Int)
                · have FIN := Lib.hid (Pn.out.done HLn.out)
                  have x5 := (Pn.out.r.set_ 0 (.slice (some ⟨ga, 0, none⟩) n c)).cell 0
                  go_wp2_with fail
                  refine bodyPost_ret (v := .agg #[.slice (some ⟨ga, 0, none⟩) n c]) (by simp [results, Try.results22, go_sem]; rw [x5]; rfl) rfl ?_
                  exact ⟨_, c, rs, by rw [HLn.out], HOk.out, FIN.out.1, FIN.out.2.1.mono (by omega), FIN.out.2.2⟩
                · have Pp := Lib.hid (Pn.out.put On.out)
                  have HOk2 := Lib.hid (show DgOk rs2 most from ⟨hwf2.out, by rw [hl2.out]; omega, by rw [hl2.out]; omega, by rw [HWl.out]; omega⟩)
                  go_wp2_with fail
                  go_roundw
                  case rel => exact ⟨z - 1, A6, n + 1, c6, K3, rs2, by go_num, by omega, by omega, by omega, hl2, HOk2, Pp⟩
                  case measure => simp [intOf]; omega
        · have z1 : ¬ (0 : Int) < (z : Int) := by omega
          have r0 := P.out.r.cell 0
          have rf := P.out.r.frozen
          have rl := P.out.r.lt
          have FIN := Lib.hid (P.out.done HLn.out)
          have x5 := (P.out.r.set_ 0 (.slice A n c)).cell 0
          go_wp2_with fail
          refine bodyPost_ret (v := .agg #[.slice A n c]) (by simp [results, Try.results22, go_sem]; rw [x5]; rfl) rfl ?_
          exact ⟨_, c, rs, by rw [HLn.out], HOk.out, FIN.out.1, FIN.out.2.1.mono (by omega), FIN.out.2.2⟩
end Go.Proofs.Ytfanphhlagjkdaa


/-
  The words that a law draws.
-/
namespace Go.Proofs.Ytfanphhlagjkdaa
open Go.RowKit

/-- a list of bytes, as the walk reads it -/
theorem Rd.bytes {w : World} {B n : Nat} {A : Option Addr} {zs : List Int} (h : Rd w B A n 1 (fun z => [.int .u8 z]) zs) (ok : ∀ z ∈ zs, 0 ≤ z ∧ z < 256) : Rd w B A n 1 byteE (zs.map fun z => UInt8.ofNat z.toNat) := by
  refine ⟨by rw [List.length_map]; exact h.len, fun hn => ?_⟩
  obtain ⟨b, o, hA, hb, hc⟩ := h.2 hn
  refine ⟨b, o, hA, hb, fun k x hx j v hv => ?_⟩
  rw [List.getElem?_map] at hx
  obtain ⟨z, hz, rfl⟩ := Option.map_eq_some_iff.1 hx
  obtain ⟨h0, h1⟩ := ok z (List.mem_of_getElem? hz)
  obtain ⟨m, rfl⟩ := Int.eq_ofNat_of_zero_le h0
  have e : (UInt8.ofNat m).toNat = m := by rw [UInt8.toNat_ofNat']; omega
  have := hc k _ hz j v (by
    rcases j with _ | j
    · simpa [byteE, e] using hv
    · simp [byteE] at hv)
  exact this

theorem f6big_any (A : Option Addr) (n c : Nat) (w : World) (hn : n ≤ maxLen) (b : Bool) (hb : decide (4096 < n) = b) :
    Calls Try.prog 12 #[.slice A n c] w (Ret (.bool b) w) := by
  unfold maxLen at hn
  have e := Lib.hid (show decide ((4096 : Int) < (n : Int)) = b by rw [← hb, decide_eq_decide]; omega)
  clear hb
  go_enter Try.func12, Try.ntmps12
  go_wp2
  go_ret
  exact ⟨ret_bool e.out, Below.refl _ _⟩
def SrcNew (w : World) (e : Ending) (w' : World) : Prop := ∃ g, e = .returned (.pointer (some ⟨g, 0, none⟩)) ∧ w.heap.size ≤ g ∧ Src w' g 0 ∧ Below w.heap.size w w'
theorem l00From_any (A : Option Addr) (n c : Nat) (bs : List UInt8) (w : World) (hn : n ≤ 4096) (hr : Rd w w.heap.size A n 1 byteE bs) :
    Calls Try.prog 23 #[.slice A n c] w (SrcNew w) := by
  go_enter Try.func23, Try.ntmps23
  go_wp2_with fail
  go_ret
  exact ⟨w.heap.size, rfl, Nat.le_refl _, ⟨A, n, c, 0, bs, 0, Nat.le_refl _, hn, ⟨by omega, by omega⟩, Blk.new _ _ _, hr.below (by (repeat first | exact Below.refl _ _ | assumption | refine Below.drew ?_ | refine Below.alloc ?_ (by first | exact Nat.le_refl _ | (simp; done) | omega | (simp; omega)) _ | refine Below.setCell ?_ (by first | exact Nat.le_refl _ | (simp; done) | omega | (simp; omega)) _))⟩, by (repeat first | exact Below.refl _ _ | assumption | refine Below.drew ?_ | refine Below.alloc ?_ (by first | exact Nat.le_refl _ | (simp; done) | omega | (simp; omega)) _ | refine Below.setCell ?_ (by first | exact Nat.le_refl _ | (simp; done) | omega | (simp; omega)) _)⟩
/-- what a drawn word leaves -/
def WordPost (w : World) (most : Int) (e : Ending) (w' : World) : Prop := ∃ s : ByteArray, e = .returned (.string s) ∧ (s.size : Int) ≤ most ∧ s.data.toList.all letB = true ∧ Below w.heap.size w w'
end Go.Proofs.Ytfanphhlagjkdaa


/-
  The grammars that a law draws.
-/
namespace Go.Proofs.Ytfanphhlagjkdaa
open Go.RowKit

/-- a grammar that is drawn, in memory of its own -/
def GrNew (w : World) (most : Int) (e : Ending) (w' : World) : Prop :=
  ∃ A c rs, e = .returned (.agg #[.slice A rs.length c]) ∧ DgOk rs most ∧ w'.ownsRow w.heap.size 65 3 (.slice A rs.length c) rs.length (rs.flatMap Fac.cells) ∧ Below w.heap.size w w'
theorem DgOk.gok {rs : List Fac} {most : Int} (h : DgOk rs most) : (gOk rs).isSome = true := small_ok h.wf (by have := h.few; omega)
set_option maxHeartbeats 1000000 in
theorem p6Grammar_any (A : Option Addr) (n c : Nat) (bs : List UInt8) (w : World) (hn : n ≤ 4096) (hr : Rd w w.heap.size A n 1 byteE bs) :
    Calls Try.prog 13 #[.slice A n c] w (GrNew w 8) := by
  have HR := Lib.hid hr; clear hr
  go_enter Try.func13, Try.ntmps13
  go_wp2_with fail
  refine namedC fun w0 H0 => ?_
  have hb0 : Below w.heap.size w w0 := by rw [H0.out]; (repeat first | exact Below.refl _ _ | assumption | refine Below.drew ?_ | refine Below.alloc ?_ (by first | exact Nat.le_refl _ | (simp; done) | omega | (simp; omega)) _ | refine Below.setCell ?_ (by first | exact Nat.le_refl _ | (simp; done) | omega | (simp; omega)) _)
  have B0 := Lib.hid (show Blk w0 w.heap.size 26 #[.slice none 0 0] by rw [H0.out]; exact Blk.new _ _ _)
  clear H0
  refine (l00From_any A n c bs w0 hn (HR.out.next hb0)).mono ?_
  rintro e w1 ⟨g, rfl, hg, s1, hb1⟩
  have b1 := hb0.trans (hb1.mono hb0.size)
  have B1 := Lib.hid (B0.out.next hb1)
  have hlt := B0.out.lt
  go_wp2_with fail
  refine (l02Drawn_any g 0 8 w1 s1 (by omega) (by omega) (by omega)).mono ?_
  rintro e w2 ⟨A2, c2, rs, rfl, ok, own2, s2, g2⟩
  have B2 := Lib.hid (B1.out.grown g2 (by intro e; injection e with e; omega))
  have b2 := Lib.hid (b1.grown g2 b1.size (fun k e => by injection e; omega))
  have O2 := Lib.hid (own_kept' (i := 0) (own2.mono b1.size) B2.out (by decide) (.slice A2 rs.length c2))
  have Ok := Lib.hid ok
  have r0 := B2.out.cell 0
  have rf := B2.out.frozen
  have rl := B2.out.lt
  have x5 := (B2.out.set_ 0 (.slice A2 rs.length c2)).cell 0
  have b3 := Lib.hid (b2.out.setCell (p := ⟨w.heap.size, 0, none⟩) (Nat.le_refl _) (.slice A2 rs.length c2))
  clear own2 s2 g2 ok
  go_wp2_with fail
  refine bodyPost_ret (v := .agg #[.slice A2 rs.length c2]) (by simp [results, Try.results13, go_sem]; rw [x5]; rfl) rfl ?_
  exact ⟨A2, c2, rs, rfl, Ok.out, O2.out, b3.out⟩
set_option maxHeartbeats 1000000 in
theorem a2Grammar_any (A : Option Addr) (n c : Nat) (bs : List UInt8) (most : Int) (w : World) (hn : n ≤ 4096) (hr : Rd w w.heap.size A n 1 byteE bs) (hm0 : 1 ≤ most) (hm : most ≤ 100000) :
    Calls Try.prog 7 #[.slice A n c, .int .i64 most] w (GrNew w most) := by
  have HR := Lib.hid hr; clear hr
  go_enter Try.func7, Try.ntmps7
  go_wp2_with fail
  refine namedC fun w0 H0 => ?_
  have hb0 : Below w.heap.size w w0 := by rw [H0.out]; (repeat first | exact Below.refl _ _ | assumption | refine Below.drew ?_ | refine Below.alloc ?_ (by first | exact Nat.le_refl _ | (simp; done) | omega | (simp; omega)) _ | refine Below.setCell ?_ (by first | exact Nat.le_refl _ | (simp; done) | omega | (simp; omega)) _)
  have B0 := Lib.hid (show Blk w0 w.heap.size 26 #[.slice none 0 0] by rw [H0.out]; exact Blk.new _ _ _)
  clear H0
  refine (l00From_any A n c bs w0 hn (HR.out.next hb0)).mono ?_
  rintro e w1 ⟨g, rfl, hg, s1, hb1⟩
  have b1 := hb0.trans (hb1.mono hb0.size)
  have B1 := Lib.hid (B0.out.next hb1)
  have hlt := B0.out.lt
  go_wp2_with fail
  refine (l02Drawn_any g 0 most w1 s1 (by omega) hm0 hm).mono ?_
  rintro e w2 ⟨A2, c2, rs, rfl, ok, own2, s2, g2⟩
  have B2 := Lib.hid (B1.out.grown g2 (by intro e; injection e with e; omega))
  have b2 := Lib.hid (b1.grown g2 b1.size (fun k e => by injection e; omega))
  have O2 := Lib.hid (own_kept' (i := 0) (own2.mono b1.size) B2.out (by decide) (.slice A2 rs.length c2))
  have Ok := Lib.hid ok
  have r0 := B2.out.cell 0
  have rf := B2.out.frozen
  have rl := B2.out.lt
  have x5 := (B2.out.set_ 0 (.slice A2 rs.length c2)).cell 0
  have b3 := Lib.hid (b2.out.setCell (p := ⟨w.heap.size, 0, none⟩) (Nat.le_refl _) (.slice A2 rs.length c2))
  clear own2 s2 g2 ok
  go_wp2_with fail
  refine bodyPost_ret (v := .agg #[.slice A2 rs.length c2]) (by simp [results, Try.results7, go_sem]; rw [x5]; rfl) rfl ?_
  exact ⟨A2, c2, rs, rfl, Ok.out, O2.out, b3.out⟩
end Go.Proofs.Ytfanphhlagjkdaa


/-
  The grammar of a plain word in the program.
-/
namespace Go.Proofs.Ytfanphhlagjkdaa
open Go.RowKit

/-- a slice of the call's own that is the beginning of one which is appended to -/
theorem own_prefix {W W' : World} {base E sz k n c0 c : Nat} {A0 A : Option Addr} {xs0 ys : List Value} (hsz : 0 < sz) (hL : W.ownsRow base E sz (.slice A0 k c0) k xs0) (hA : W.ownsRow base E sz (.slice A n c) n (xs0 ++ ys))
    (hA' : W'.ownsRow base E sz (.slice A n c) n (xs0 ++ ys)) (hg : W.grownBy W' (Value.slice A n c).ownBlock) : W'.ownsRow base E sz (.slice A0 k c0) k xs0 := by
  rcases hL.2 with ⟨hnil, hk⟩ | ⟨g0, cap0, cur0, hv0, hb0, hh0, hk0, hm0, hs0, ht0⟩
  · rw [hnil] at hL ⊢
    exact ⟨hL.1, .inl ⟨rfl, hk⟩⟩
  · by_cases hne : (Value.slice A n c).ownBlock = some g0
    · rcases hA'.2 with ⟨hnil, _⟩ | ⟨g1, cap1, cur1, hv1, hb1, hh1, hk1, hm1, hs1, ht1⟩
      · rw [hnil] at hne; cases hne
      · rcases hA.2 with ⟨hnil, _⟩ | ⟨g2, cap2, cur2, hv2, hb2, hh2, hk2, hm2, hs2, ht2⟩
        · rw [hnil] at hne; cases hne
        · rw [hv1] at hne
          have e1 : g1 = g0 := by simpa [Value.ownBlock] using hne
          have e2 : g1 = g2 ∧ cap1 = cap2 := by
            rw [hv1] at hv2; injection hv2 with q1 q2 q3; injection q1 with q1; injection q1 with q1; exact ⟨q1, q3⟩
          obtain ⟨e2, e3⟩ := e2
          subst e1 e2 e3
          have ec : cur0 = cur2 := by
            rw [hh0] at hh2; injection hh2 with q; injection q with q
          subst ec
          have ecap : cap0 = cap1 := by
            have := hs0.symm.trans hs2
            exact Nat.eq_of_mul_eq_mul_right hsz this
          subst ecap
          refine ⟨hL.1, .inr ⟨g1, cap0, cur1, hv0, hb0, hh1, hk0, hm0, hs1, ?_⟩⟩
          have hkn : k * sz ≤ n * sz := by
            have h1 := hA.1
            have h2 := hL.1
            rw [List.length_append] at h1; omega
          have e5 : cur1.toList.take (k * sz) = (cur1.toList.take (n * sz)).take (k * sz) := by rw [List.take_take, Nat.min_eq_left hkn]
          rw [e5, ht1, ← hL.1]
          exact List.take_left
    · refine hL.kept hg (.inr ?_)
      rw [hv0]
      intro e; exact hne e.symm

/-- the letters up to one -/
def ksT (w : List UInt8) (c : Int) : List UInt8 := [97, 98, 99, 100].filter (fun u => decide (u ∈ w) && decide ((u.toNat : Int) < c))
theorem ksT_first (w : List UInt8) : ksT w 97 = [] := by simp [ksT]
theorem ksT_last (w : List UInt8) : ksT w 101 = ksP w := by
  unfold ksT ksP
  apply List.filter_congr
  intro u hu
  have : (u.toNat : Int) < 101 := by
    simp only [List.mem_cons, List.not_mem_nil, or_false] at hu
    rcases hu with rfl | rfl | rfl | rfl <;> decide
  simp [this]
theorem ksT_step (w : List UInt8) (u : UInt8) (h : letB u = true) : ksT w ((u.toNat : Int) + 1) = if u ∈ w then ksT w u.toNat ++ [u] else ksT w u.toNat := by
  have h : (97 : Int) ≤ u.toNat ∧ (u.toNat : Int) ≤ 100 := by simpa [letB] using h
  have h4 : u = 97 ∨ u = 98 ∨ u = 99 ∨ u = 100 := by
    simp only [← UInt8.toNat_inj]
    have : u.toNat = 97 ∨ u.toNat = 98 ∨ u.toNat = 99 ∨ u.toNat = 100 := by omega
    exact this
  unfold ksT
  rcases h4 with rfl | rfl | rfl | rfl
  all_goals
    by_cases h1 : (97 : UInt8) ∈ w <;> by_cases h2 : (98 : UInt8) ∈ w <;> by_cases h3 : (99 : UInt8) ∈ w <;> by_cases h4 : (100 : UInt8) ∈ w <;> simp [h1, h2, h3, h4]
theorem ksT_le (w : List UInt8) (c : Int) : (ksT w c).length ≤ 4 := by
  unfold ksT; exact Nat.le_trans (List.length_filter_le _ _) (by simp)

theorem okW_at {s : ByteArray} (h : okW s = true) {i : Nat} (hi : i < s.size) : letB s[i] = true := by
  unfold okW at h
  simp only [Bool.and_eq_true, List.all_eq_true] at h
  exact h.2 _ (List.mem_of_getElem? (at_byte s i hi))
theorem okW_size {s : ByteArray} (h : okW s = true) : s.size ≤ 2000 := by
  unfold okW at h
  simp only [Bool.and_eq_true, decide_eq_true_eq] at h
  exact h.1
/-- 'plain' under way -/
structure PlW (w W : World) (s : ByteArray) (A : Option Addr) (n c : Nat) (rs : List Fac) : Prop where
  q : W.ownsRow w.heap.size 65 3 (.slice A n c) n (rs.flatMap Fac.cells)
  s : Blk W w.heap.size 9 #[.string s]
  o : Blk W (w.heap.size + 1) 26 #[.slice none 0 0]
  g : Blk W (w.heap.size + 2) 26 #[.slice A n c]
  e : Below w.heap.size w W
section
variable {w W W' : World} {s : ByteArray} {A : Option Addr} {n c : Nat} {rs : List Fac}
theorem PlW.next (h : PlW w W s A n c rs) (hb : Below W.heap.size W W') : PlW w W' s A n c rs :=
  ⟨own_next h.q hb, h.s.next hb, h.o.next hb, h.g.next hb, h.e.trans (hb.mono h.e.size)⟩
theorem PlW.alloc (h : PlW w W s A n c rs) (o : Obj) : PlW w (W.alloc o) s A n c rs := h.next ((Below.refl _ _).alloc (Nat.le_refl _) _)
theorem PlW.push {A8 : Option Addr} {k8 c8 : Nat} {rs' : List Fac} (h : PlW w W s A n c rs) (hq : W'.ownsRow w.heap.size 65 3 (.slice A8 k8 c8) k8 (rs'.flatMap Fac.cells)) (hg : W.grownBy W' (Value.slice A n c).ownBlock) :
    PlW w (W'.setCell ⟨w.heap.size + 2, 0, none⟩ (.slice A8 k8 c8)) s A8 k8 c8 rs' := by
  have hs' := h.s.grown hg (own_blk_ne h.q h.s (by decide))
  have ho' := h.o.grown hg (own_blk_ne h.q h.o (by decide))
  have hg' := h.g.grown hg (own_blk_ne h.q h.g (by decide))
  have he' := h.e.grown hg h.e.size (own_ge h.q)
  have hg2 := gb_set W' (w.heap.size + 2) 0 (.slice A8 k8 c8)
  exact ⟨own_kept' hq hg' (by decide) _, hs'.grown hg2 (by intro e; injection e with e; omega), ho'.grown hg2 (by intro e; injection e with e; omega), hg'.set_ 0 _, he'.setCell (by simp) _⟩
end
set_option maxHeartbeats 1000000 in
set_option maxRecDepth 100000 in
theorem plainOf_any (L S : Nat) (z : Int) (i k c0 : Nat) (A0 : Option Addr) (s : ByteArray) (w : World) (hz : z = (i : Int)) (hL : Blk w L 24 #[.slice A0 k c0]) (hS : Blk w S 9 #[.string s]) (hk : k ≤ 1048576)
    (hr : Rd w w.heap.size A0 k 3 Fac.cells (lettersP s.data.toList)) (hi : i < s.size) (hs : s.size ≤ maxLen) (hl : letB s[i] = true) :
    Calls Try.prog 62 #[.int .i64 z, .pointer (some ⟨L, 0, none⟩), .pointer (some ⟨S, 0, none⟩)] w (Ret (.int .i64 (atP s.data.toList s[i])) w) := by
  subst hz
  unfold maxLen at hs
  have hmem : s[i] ∈ s.data.toList := List.mem_of_getElem? (at_byte s i hi)
  have e := Lib.hid (atP_ix hmem hl)
  have l0 := hL.cell 0
  have lL := hL.lt
  have s0 := hS.cell 0
  have lS := hS.lt
  have HR := Lib.hid hr
  have i0 : (0 : Int) ≤ (i : Int) := by omega
  have i1 : (i : Int) < (s.size : Int) := by omega
  have hup := upc w.heap.size w
  clear hmem hr hL hS
  go_enter Try.func62, Try.ntmps62
  go_wp2_with fail
  refine wp_region_up w.heap.size (by kernel_rfl) (by kernel_rfl) ?_
  repeat (go_big_quiet_step ((first | (go_at_call 60; exact Calls.up (Nat.le_refl _) (letter_any s[i] _)) | (go_at_call 63; exact Calls.up (Nat.le_refl _) (indexR_any A0 k c0 (lettersP s.data.toList) (ruleC s[i]) _ hk ((HR.out.below (Up.h _)).more (Up.h _).size))))))
  refine wpQuiet_nil ?_
  intro w4 hup_w4
  have hb4 := up_of hup_w4
  go_wp2_with fail
  go_ret
  exact ⟨ret_int e.out, hb4⟩
set_option maxHeartbeats 4000000 in
set_option maxRecDepth 100000 in
theorem plain_any (s : ByteArray) (w : World) (ho : okW s = true) : Calls Try.prog 30 #[.string s] w (RetG w (plainL s.data.toList)) := by
  have hs := okW_size ho
  have HL := Lib.hid (fun (i : Nat) (hi : i < s.size) => okW_at ho hi)
  clear ho
  go_enter Try.func30, Try.ntmps30
  go_wp2_with fail
  refine named fun w0 H0 => ?_
  have P0 := Lib.hid (show PlW w w0 s none 0 0 [] by
    rw [H0.out]
    refine ⟨World.ownsRow_nil _ _ _ _, ?_, ?_, ?_, by (repeat first | exact Below.refl _ _ | assumption | refine Below.drew ?_ | refine Below.alloc ?_ (by first | exact Nat.le_refl _ | (simp; done) | omega | (simp; omega)) _ | refine Below.setCell ?_ (by first | exact Nat.le_refl _ | (simp; done) | omega | (simp; omega)) _)⟩
    · exact ((Blk.new w _ _).alloc _).alloc _
    · simpa using (Blk.new (w.alloc (.cells #[.string s] 9)) 26 #[.slice none 0 0]).alloc _
    · simpa using Blk.new ((w.alloc (.cells #[.string s] 9)).alloc (.cells #[.slice none 0 0] 26)) 26 #[.slice none 0 0])
  clear H0
  go_loopw [4] (fun c_ w' => ∃ (c : Int) (A : Option Addr) (n cp : Nat), c_ = .int .u8 c ∧ 97 ≤ c ∧ c ≤ 101 ∧ n ≤ 4 ∧ Hid ((ksT s.data.toList c).length = n) ∧ Hid (PlW w w' s A n cp ((ksT s.data.toList c).map ruleC))) (fun c_ _ => (101 - intOf c_).toNat)
  case atStart => exact ⟨97, none, 0, 0, rfl, by omega, by omega, by omega, Lib.hid (by rw [ksT_first]; rfl), by rw [ksT_first]; exact P0⟩
  case round =>
    obtain ⟨c, A, n, cp, rfl, hc0, hc1, hn4, hnl, P1⟩ := hrel
    have s0 := P1.out.s.cell 0
    have ls := P1.out.s.lt
    by_cases hlt : c ≤ 100
    · obtain ⟨u, hu⟩ : ∃ u : UInt8, (u.toNat : Int) = c := ⟨UInt8.ofNat c.toNat, by simp; omega⟩
      subst hu
      have hlb : letB u = true := by simp [letB]; omega
      have Hst := Lib.hid (ksT_step s.data.toList u hlb)
      obtain ⟨z, hz⟩ : ∃ z, Lib.indexByte s.data.toList ((u.toNat : Int)).toNat.toUInt8 = z := ⟨_, rfl⟩
      have hzm := indexByte_mem s.data.toList u
      rw [show ((u.toNat : Int)).toNat.toUInt8 = u by simp] at hz
      rw [hz] at hzm
      have HZ := Lib.hid (show Lib.indexByte s.data.toList ((u.toNat : Int)).toNat.toUInt8 = z by rw [show ((u.toNat : Int)).toNat.toUInt8 = u by simp]; exact hz)
      have HZM := Lib.hid hzm
      clear hz hzm hlb
      by_cases hzz : 0 ≤ z
      · have Hst2 := Lib.hid (show ksT s.data.toList ((u.toNat : Int) + 1) = ksT s.data.toList u.toNat ++ [u] by rw [Hst.out, if_pos (HZM.out.1 hzz)])
        go_upto_if 17 with (go_at_call 61; refine (indexByte_any s _ z _ HZ.out).mono ?_; rintro e w1 ⟨rfl, hb1⟩)
        have P2 := Lib.hid (P1.out.next hb1)
        have d0 := P2.out.g.cell 0
        have l0 := P2.out.g.lt
        have P3 := Lib.hid (P2.out.next (Below.refl _ _).drew)
        have lc := fun W => letter_any u W
        obtain ⟨y, hy⟩ : ∃ y, ruleC u = y := ⟨_, rfl⟩
        rw [hy] at lc
        have LC := Lib.hid lc
        have HY := Lib.hid hy
        clear lc hy
        have zk : (n + 1) * 32 ≤ 140737488355328 := by omega
        have zkm : n + 1 ≤ maxLen := by unfold maxLen; omega
        go_wp2_with fail
        go_region_law
          (first
            | (refine step_push (by rfl) _ _ _ (by rfl) w.heap.size 65 3 32 elem_rule Fac.cells A n cp ((ksT s.data.toList u.toNat).map ruleC) (by rfl) P6.out.q _ y #[.string y.l, .int .i64 y.a, .int .i64 y.b] 65 (0, 0) (by rfl) (heap_alloc_new _ _) rfl rfl (one_fac _) (by omega) zk zkm P6.out.e.size ?_
               intro A8 c8 w8 own8 hg8 old8
               have P5 := Lib.hid (P6.out.push own8 hg8)
               have B5 := P6.out.g.grown hg8 (own_blk_ne P6.out.q P6.out.g (by decide))
               have d5 := B5.cell 0
               have f5 := B5.frozen
               have l5 := B5.lt)
            | (go_simp
               go_wp2_with (go_at_call 60; refine (LC.out _).mono ?_; rintro e w4 ⟨rfl, hb4⟩)
               have P4 := Lib.hid (P3.out.next hb4)
               have P6 := Lib.hid (P4.out.alloc (.cells #[.string y.l, .int .i64 y.a, .int .i64 y.b] 65))
               have d4 := P4.out.g.cell 0
               have l4 := P4.out.g.lt))
        all_goals
          have e5 := Lib.hid (show (ksT s.data.toList u.toNat).map ruleC ++ [y] = (ksT s.data.toList ((u.toNat : Int) + 1)).map ruleC by rw [Hst2.out, List.map_append, ← HY.out]; rfl)
          have hn4' : n + 1 ≤ 4 := by
            have h1 := ksT_le s.data.toList ((u.toNat : Int) + 1)
            rw [Hst2.out, List.length_append, hnl.out] at h1; exact h1
          have hnl' := Lib.hid (show (ksT s.data.toList ((u.toNat : Int) + 1)).length = n + 1 by rw [Hst2.out, List.length_append, hnl.out]; rfl)
          go_wp2_with fail
          go_roundw
          case rel => exact ⟨(u.toNat : Int) + 1, A8, n + 1, c8, by go_num, by omega, by omega, hn4', hnl', by rw [← e5.out]; exact P5⟩
          case measure => simp [intOf]; omega
      · have Hst2 := Lib.hid (show ksT s.data.toList ((u.toNat : Int) + 1) = ksT s.data.toList u.toNat by rw [Hst.out, if_neg (fun h => hzz (HZM.out.2 h))])
        go_wp2_with (go_at_call 61; refine (indexByte_any s _ z _ HZ.out).mono ?_; rintro e w1 ⟨rfl, hb1⟩)
        have P2 := Lib.hid (P1.out.next hb1)
        go_roundw
        case rel => exact ⟨(u.toNat : Int) + 1, A, n, cp, by go_num, by omega, by omega, hn4, by rw [Hst2.out]; exact hnl, by rw [Hst2.out]; exact P2⟩
        case measure => simp [intOf]; omega
    · obtain rfl : c = 101 := by omega
      have hK := ksT_last s.data.toList
      rw [hK] at hnl P1
      clear hK
      have d0 := P1.out.g.cell 0
      have l0 := P1.out.g.lt
      go_wp2_with fail
      refine named fun w2 H2 => ?_
      have P2 := Lib.hid (show PlW w w2 s A n cp (lettersP s.data.toList) by rw [H2.out]; exact P1.out.alloc _)
      have BL := Lib.hid (show Blk w2 wr.heap.size 24 #[.slice A n cp] by rw [H2.out]; exact Blk.new _ _ _)
      have hLw : w.heap.size + 2 < wr.heap.size := l0
      clear H2 P1 d0 l0 hlt hc0 hc1
      generalize wr.heap.size = L at *
      have LP2 := Lib.hid P2.out.q
      have hll := Lib.hid (show (lettersP s.data.toList).length = n by rw [← hnl.out]; simp [lettersP])
      obtain ⟨bf0, hbf0, hpl0⟩ : ∃ bf : Int, ((∀ h : 0 < s.size, bf = atP s.data.toList s[0]) ∧ (s.size = 0 → bf = 0)) ∧ lettersP s.data.toList ++ pairsP s.data.toList (s.data.toList.drop 1) bf n = plainL s.data.toList := by
        by_cases h0 : 0 < s.size
        · refine ⟨atP s.data.toList s[0], ⟨fun _ => rfl, fun h => by omega⟩, ?_⟩
          have := drop_cons (at_byte s 0 h0)
          rw [List.drop_zero] at this
          generalize hq : s.data.toList.drop (0 + 1) = q at this
          unfold plainL
          rw [← hnl.out]
          split
          · rename_i h; rw [h] at this; cases this
          · rename_i c cs h
            have h2 := h.symm.trans this
            injection h2 with h3 h4
            rw [← h3, ← h4]
        · refine ⟨0, ⟨fun h => absurd h h0, fun _ => rfl⟩, ?_⟩
          have : s.data.toList = [] := List.eq_nil_of_length_eq_zero (by rw [byte_len]; omega)
          rw [this]; rfl
      go_loopw [7] (fun i_ w' => ∃ (i : Nat) (A' : Option Addr) (n' cp' : Nat) (rs more : List Fac) (bf : Int), i_ = .int .i64 i ∧ 1 ≤ i ∧ (i ≤ s.size ∨ i = 1) ∧ Hid (n' + 1 = n + i) ∧ Hid (rs = lettersP s.data.toList ++ more) ∧ Hid (rs.length = n') ∧
        Hid (PlW w w' s A' n' cp' rs) ∧ Hid (Blk w' L 24 #[.slice A n cp]) ∧ Hid (w'.ownsRow w.heap.size 65 3 (.slice A n cp) n ((lettersP s.data.toList).flatMap Fac.cells)) ∧
        Hid ((i = 1 → ∀ h : 0 < s.size, bf = atP s.data.toList s[0]) ∧ (i ≠ 1 → bf = (n' : Int) - 1)) ∧ Hid (rs ++ pairsP s.data.toList (s.data.toList.drop i) bf n' = plainL s.data.toList)) (fun i_ _ => s.size - (intOf i_).toNat)
      case atStart =>
        exact ⟨1, A, n, cp, _, [], bf0, rfl, by omega, by omega, Lib.hid rfl, Lib.hid (by simp), hll, P2, BL, LP2, Lib.hid ⟨fun _ h => hbf0.1 h, fun h => absurd rfl h⟩, Lib.hid hpl0⟩
      case round =>
        obtain ⟨i, A', n', cp', rs, more, bf, rfl, hi1, hi2, hn', hrs, hrl, PR, BR, LR, hbf, HQ⟩ := hrel
        have s1 := PR.out.s.cell 0
        have ls1 := PR.out.s.lt
        have g1 := PR.out.g.cell 0
        have lg1 := PR.out.g.lt
        have o1 := PR.out.o.cell 0
        have f1 := PR.out.o.frozen
        by_cases hlt : i < s.size
        · have hat := fun (j : Nat) (hj : j < s.size) => atP_lt (List.mem_of_getElem? (at_byte s j hj)) (HL.out j hj)
          have hat0 := hat 0 (by omega)
          have hati := hat i hlt
          have hkl : (ksP s.data.toList).length = n := hnl.out
          rw [hkl] at hat0 hati
          have hn1 : 1 ≤ n := by omega
          have hn1' : 1 ≤ n' := by have := hn'.out; omega
          have hn2' : n' ≤ 2010 := by have := hn'.out; omega
          have hbb : -1 ≤ bf ∧ bf ≤ 2010 := by
            by_cases h1 : i = 1
            · have := hbf.out.1 h1 (by omega); omega
            · have := hbf.out.2 h1; omega
          have u1 : IntKind.i64.wrap ((n' : Int) - 1) = (n' : Int) - 1 := IntWalk.i64_in _ (by omega)
          have Hat := Lib.hid hat0
          have Hati := Lib.hid hati
          clear hat hat0 hati hkl
          go_upto_if 39 with (fail)
          go_cut [8] (fun b_ wx => b_ = .int .i64 bf ∧ Hid (PlW w wx s A' n' cp' rs) ∧ Hid (Blk wx L 24 #[.slice A n cp]) ∧ Hid (wx.ownsRow w.heap.size 65 3 (.slice A n cp) n ((lettersP s.data.toList).flatMap Fac.cells)))
          case first =>
            by_cases h1 : i = 1
            · subst h1
              have hb1 := Lib.hid (hbf.out.1 rfl (by omega))
              go_wp2_with (go_at_call 62; refine (plainOf_any L w.heap.size 0 0 n cp A s _ rfl BR.out PR.out.s (by omega) (Rd.of_own (fun x _ => fac_len x) hll.out LR.out) (by omega) (by unfold maxLen; omega) (HL.out 0 (by omega))).mono ?_; rintro e w4 ⟨rfl, hb4⟩; rw [← hb1.out])
              go_meet
              exact ⟨rfl, Lib.hid (PR.out.next hb4), Lib.hid (BR.out.next hb4), Lib.hid (own_next LR.out hb4)⟩
            · have hb1 := Lib.hid (hbf.out.2 h1)
              have h1' : ((i : Int) == 1) = false := by simp; omega
              clear h1
              go_wp2_with fail
              go_meet
              exact ⟨by rw [hb1.out], PR, BR, LR⟩
          case rest =>
            obtain ⟨rfl, PC, BC, LC⟩ := hcut
            have hat2 := Hati.out
            have HLi := Lib.hid (HL.out i hlt)
            have hstep := Lib.hid (show (rs ++ [⟨⟨#[]⟩, bf, atP s.data.toList s[i]⟩]) ++ pairsP s.data.toList (s.data.toList.drop (i + 1)) ((n' : Int)) (n' + 1) = plainL s.data.toList by
              rw [← HQ.out, drop_cons (at_byte s i hlt), List.append_assoc]; rfl)
            have LO := Lib.hid (fun W (h1 : Blk W L 24 #[.slice A n cp]) (h2 : Blk W w.heap.size 9 #[.string s]) h3 => plainOf_any L w.heap.size (i : Int) i n cp A s W rfl h1 h2 (by omega) h3 hlt (by unfold maxLen; omega) HLi.out)
            have hv := Lib.hid (atP_lt (List.mem_of_getElem? (at_byte s i hlt)) HLi.out)
            generalize atP s.data.toList s[i] = v at *
            have lc := fun W => pairInt_any bf v W (by omega) (by omega)
            obtain ⟨y, hy⟩ : ∃ y : Fac, (⟨⟨#[]⟩, bf, v⟩ : Fac) = y := ⟨_, rfl⟩
            rw [hy] at lc hstep
            have LC' := Lib.hid lc
            clear lc hy hat2 s1 ls1 g1 lg1 o1 f1
            have P3 := Lib.hid (PC.out.next (Below.refl _ _).drew)
            have B3 := Lib.hid (BC.out.next (Below.refl _ _).drew)
            have L3 := Lib.hid (own_next LC.out (Below.refl _ _).drew)
            have d0 := PC.out.g.cell 0
            have l0 := PC.out.g.lt
            have zk : (n' + 1) * 32 ≤ 140737488355328 := by omega
            have zkm : n' + 1 ≤ maxLen := by unfold maxLen; omega
            go_wp2_with fail
            go_region_law
              (first
                | (refine step_push (by rfl) _ _ _ (by rfl) w.heap.size 65 3 32 elem_rule Fac.cells A' n' cp' rs (by rfl) P6.out.q _ y #[.string y.l, .int .i64 y.a, .int .i64 y.b] 65 (0, 0) (by rfl) (heap_alloc_new _ _) rfl rfl (one_fac _) (by omega) zk zkm P6.out.e.size ?_
                   intro A8 c8 w8 own8 hg8 old8
                   have P7 := Lib.hid (P6.out.push own8 hg8)
                   have L7 := Lib.hid (own_prefix (by omega) L6.out (show _ ∧ _ from by have q := P6.out.q; rw [hrs.out, List.flatMap_append] at q; exact q) (by rw [hrs.out, List.flatMap_append] at old8; exact old8) hg8)
                   have G7 := Lib.hid (P6.out.g.grown hg8 (own_blk_ne P6.out.q P6.out.g (by decide)))
                   have B7 := Lib.hid (B6.out.grown hg8 (own_blk_ne P6.out.q B6.out (by decide)))
                   have d5 := G7.out.cell 0
                   have f5 := G7.out.frozen
                   have l5 := G7.out.lt)
                | (go_simp
                   go_wp2_with (go_at_call 64; refine (LC'.out _).mono ?_; rintro e w5 ⟨rfl, hb5⟩)
                   have P6 := Lib.hid ((P4.out.next hb5).alloc (.cells #[.string y.l, .int .i64 y.a, .int .i64 y.b] 65))
                   have B6 := Lib.hid ((B4.out.next hb5).alloc (.cells #[.string y.l, .int .i64 y.a, .int .i64 y.b] 65))
                   have L6 := Lib.hid ((own_next L4.out hb5).alloc (.cells #[.string y.l, .int .i64 y.a, .int .i64 y.b] 65))
                   have d6 := (P4.out.next hb5).g.cell 0
                   have l6 := (P4.out.next hb5).g.lt)
                | (go_simp
                   go_wp2_with (go_at_call 62; refine (LO.out _ B3.out P3.out.s (Rd.of_own (fun x _ => fac_len x) hll.out L3.out)).mono ?_; rintro e w4 ⟨rfl, hb4⟩)
                   have P4 := Lib.hid (P3.out.next hb4)
                   have B4 := Lib.hid (B3.out.next hb4)
                   have L4 := Lib.hid (own_next L3.out hb4)
                   have d4 := P4.out.g.cell 0
                   have l4 := P4.out.g.lt))
            all_goals
              go_wp2_with fail
              go_roundw
              case rel =>
                refine ⟨i + 1, A8, n' + 1, c8, rs ++ [y], more ++ [y], (n' : Int), by go_num, by omega, by omega, Lib.hid (by have := hn'.out; omega), Lib.hid (by rw [hrs.out, List.append_assoc]), Lib.hid (by rw [List.length_append, hrl.out]; rfl), P7, Lib.hid ?_, Lib.hid ?_, Lib.hid ⟨fun h => by omega, fun _ => by omega⟩, hstep⟩
                · exact B7.out.far (show L ≠ w.heap.size + 2 by omega) _
                · exact own_kept' L7.out G7.out (by decide) _
              case measure => simp [intOf]; omega
        · have he := Lib.hid (show plainL s.data.toList = rs by
            rw [← HQ.out, List.drop_of_length_le (by rw [byte_len]; omega)]; simp [pairsP])
          go_wp2_with fail
          have hg := gb_set wr (w.heap.size + 1) 0 (.slice A' n' cp')
          have x9 := PR.out.o.set_ 0 (.slice A' n' cp')
          have x10 : (wr.setCell ⟨w.heap.size + 1, 0, none⟩ (.slice A' n' cp')).cell? ⟨w.heap.size + 1, 0, none⟩ = some (.slice A' n' cp') := by rw [x9.cell 0]; rfl
          refine bodyPost_ret (v := .agg #[.slice A' n' cp']) (by simp [results, Try.results30, go_sem, x10]) rfl ⟨A', cp', by rw [he.out, hrl.out], ?_, PR.out.e.grown hg PR.out.e.size (fun q hq => by injection hq with hq; omega)⟩
          rw [he.out, hrl.out]
          exact PR.out.q.kept hg (.inr fun e => own_blk_ne PR.out.q PR.out.o (by decide) e.symm)
end Go.Proofs.Ytfanphhlagjkdaa


/-
  The letters of a grammar replaced: the small functions.
-/
namespace Go.Proofs.Ytfanphhlagjkdaa
open Go.RowKit

set_option maxHeartbeats 2000000 in
set_option maxRecDepth 100000 in
theorem raised_any (A : Option Addr) (n c : Nat) (rs : List Fac) (by_ : Int) (w : World) (hn : n ≤ 100000) (hr : Rd w w.heap.size A n 3 Fac.cells rs) (hwf : WF rs) (h0 : 0 ≤ by_) (h1 : by_ ≤ 1048576) :
    Calls Try.prog 29 #[.slice A n c, .int .i64 by_] w (RetNew w 65 3 Fac.cells (raiseL by_ rs)) := by
  have hl := Lib.hid hr.len
  have HR := Lib.hid hr; clear hr
  have HW := Lib.hid hwf; clear hwf
  go_enter Try.func29, Try.ntmps29
  go_wp2_with fail
  go_loopw [5, 11] (fun o_ i_ w' => ∃ (k : Nat) (A' : Option Addr) (c' : Nat), i_ = .int .i64 k ∧ o_ = .slice A' k c' ∧ k ≤ n ∧
      Hid (w'.ownsRow w.heap.size 65 3 (.slice A' k c') k ((raiseL by_ (rs.take k)).flatMap Fac.cells)) ∧ Below w.heap.size w w') (fun _ i_ _ => n - (intOf i_).toNat)
  case atStart =>
    exact ⟨0, _, 0, rfl, rfl, by omega, Lib.hid (by simpa [raiseL] using World.ownsRow_made (base := w.heap.size) (e := 65) (size := 3) w #[] 0 (by simp) (by unfold maxLen; omega) rfl), by (repeat first | exact Below.refl _ _ | assumption | refine Below.drew ?_ | refine Below.alloc ?_ (by first | exact Nat.le_refl _ | (simp; done) | omega | (simp; omega)) _ | refine Below.setCell ?_ (by first | exact Nat.le_refl _ | (simp; done) | omega | (simp; omega)) _)⟩
  case round =>
    obtain ⟨k, A', c', rfl, rfl, hk, hown, hb⟩ := hrel
    by_cases hlt : k < n
    · obtain ⟨b, o, x, rfl, hB, gx, c0, c1, c2⟩ := (HR.out.next hb).fac hlt
      have Hst := Lib.hid (show raiseL by_ (rs.take (k + 1)) = raiseL by_ (rs.take k) ++ [rsF by_ x] by rw [take_succ_at gx]; simp [raiseL])
      rcases HW.out k x gx with ⟨h0', ha0, ha1, hb0, hb1⟩ | ⟨cc, hcc, hxl, hxa, hxb⟩
      · have Hy := Lib.hid (show rsF by_ x = ⟨x.l, x.a + by_, x.b + by_⟩ by unfold rsF; rw [if_pos h0'])
        have Hp := Lib.hid (show isP x = true by simp [isP, h0'])
        have i0 : (0 : Int) ≤ (k : Int) := by omega
        clear gx h0'
        go_wp2_with fail
        refine (isPair_any x true _ Hp.out).mono ?_
        rintro e w1 ⟨rfl, hb1'⟩
        have B1 := Lib.hid ((Blk.new wr 65 #[.string x.l, .int .i64 x.a, .int .i64 x.b]).next hb1')
        have b1 := (hb.alloc hb.size _).trans (hb1'.mono (by have := hb.size; simp; omega))
        have own1 := Lib.hid (own_next (hown.out.alloc _) hb1')
        have hz1 : w.heap.size ≤ wr.heap.size := hb.size
        obtain ⟨d0, d1, d2⟩ := B1.out.three
        have lx := B1.out.lt
        have fx := B1.out.frozen
        have B2 := Lib.hid ((B1.out.set_ 1 (.int .i64 (x.a + by_))).set_ 2 (.int .i64 (x.b + by_)))
        have hgm := gb_setCell (gb_set w1 wr.heap.size 1 (.int .i64 (x.a + by_))) 2 (.int .i64 (x.b + by_))
        have own2 := Lib.hid (own1.out.kept hgm (by
          cases hv : (Value.slice A' k c').ownBlock with
          | none => exact .inl rfl
          | some q => exact .inr fun e => by injection e with e; have := (hown.out.lt q hv).2; omega))
        have b2 := (b1.setCell (p := ⟨wr.heap.size, 1, none⟩) hz1 (.int .i64 (x.a + by_))).setCell (p := ⟨wr.heap.size, 2, none⟩) hz1 (.int .i64 (x.b + by_))
        obtain ⟨e0, e1, e2⟩ := B2.out.three
        have BN0 := Blk.new ((w1.setCell ⟨wr.heap.size, 1, none⟩ (.int .i64 (x.a + by_))).setCell ⟨wr.heap.size, 2, none⟩ (.int .i64 (x.b + by_))) 65 #[.string x.l, .int .i64 (x.a + by_), .int .i64 (x.b + by_)]
        rw [show ((w1.setCell ⟨wr.heap.size, 1, none⟩ (.int .i64 (x.a + by_))).setCell ⟨wr.heap.size, 2, none⟩ (.int .i64 (x.b + by_))).heap.size = w1.heap.size by simp] at BN0
        have BN := Lib.hid BN0
        clear hgm BN0
        go_wp2_with
          (at_builtin
           refine wpList_push (w0 := w) rfl _ _ _ rfl w.heap.size 65 3 32 elem_rule Fac.cells _ k c' (raiseL by_ (rs.take k)) rfl (own2.out.alloc _) w1.heap.size ⟨x.l, x.a + by_, x.b + by_⟩ #[.string x.l, .int .i64 (x.a + by_), .int .i64 (x.b + by_)] 65 (0, 0) rfl BN.out rfl rfl (one_fac _) (by omega) (by omega) (by unfold maxLen; omega) rfl (b2.alloc b2.size _) ?_
           intro A9 c9 w9 own9 hg9 hat9 hb9
           have O9 := Lib.hid own9; clear own9)
        go_roundw
        case rel =>
          refine ⟨k + 1, A9, c9, by go_num, rfl, by omega, Lib.hid ?_, hb9⟩
          rw [Hst.out, Hy.out]; exact O9.out
        case measure => simp [intOf]; omega
      · have Hy := Lib.hid (show rsF by_ x = x by unfold rsF; rw [if_neg (by rw [hxl]; show ¬ (1 : Nat) = 0; omega)])
        have Hp := Lib.hid (show isP x = false by unfold isP; rw [hxl]; rfl)
        clear hxl hxa hxb gx
        go_wp2_with fail
        refine (isPair_any x false _ Hp.out).mono ?_
        rintro e w1 ⟨rfl, hb1'⟩
        have B1 := Lib.hid ((Blk.new wr 65 #[.string x.l, .int .i64 x.a, .int .i64 x.b]).next hb1')
        have b1 := (hb.alloc hb.size _).trans (hb1'.mono (by have := hb.size; simp; omega))
        have own1 := Lib.hid (own_next (hown.out.alloc _) hb1')
        obtain ⟨d0, d1, d2⟩ := B1.out.three
        go_wp2_with
          (at_builtin
           refine wpList_push (w0 := w) rfl _ _ _ rfl w.heap.size 65 3 32 elem_rule Fac.cells _ k c' (raiseL by_ (rs.take k)) rfl (own1.out.alloc _) _ x #[.string x.l, .int .i64 x.a, .int .i64 x.b] 65 (0, 0) rfl (heap_alloc_new _ _) rfl rfl (one_fac _) (by omega) (by omega) (by unfold maxLen; omega) rfl (b1.alloc b1.size _) ?_
           intro A9 c9 w9 own9 hg9 hat9 hb9
           have O9 := Lib.hid own9; clear own9)
        go_roundw
        case rel =>
          refine ⟨k + 1, A9, c9, by go_num, rfl, by omega, Lib.hid ?_, hb9⟩
          rw [Hst.out, Hy.out]; exact O9.out
        case measure => simp [intOf]; omega
    · have hkn : k = n := by omega
      have e := Lib.hid (show rs.take k = rs from List.take_of_length_le (by rw [hl.out]; omega))
      clear hkn
      have hk2 : k = n := by omega
      have hl2 := Lib.hid (show (raiseL by_ rs).length = k by rw [raiseL_len, hl.out]; omega)
      clear hk2
      go_wp2_with fail
      go_ret
      refine ⟨A', c', ret_slice (by rw [hl2.out]), ?_, hb⟩
      rw [hl2.out]
      have := hown.out
      rw [e.out] at this; exact this
theorem raisedL_any (A : Option Addr) (n c : Nat) (rs : List Fac) (by_ : Int) (w : World) (hn : n ≤ 100000) (hr : Rd w w.heap.size A n 3 Fac.cells rs) (hwf : WF rs) (h0 : 0 ≤ by_) (h1 : by_ ≤ 1048576) :
    Calls Try.prog 29 #[.slice A n c, .int .i64 by_] w fun e w' => ∃ A' c', e = .returned (.slice A' n c') ∧ w'.ownsRow w.heap.size 65 3 (.slice A' n c') n ((raiseL by_ rs).flatMap Fac.cells) ∧ Below w.heap.size w w' := by
  have hl : (raiseL by_ rs).length = n := by rw [raiseL_len, hr.len]
  refine (raised_any A n c rs by_ w hn hr hwf h0 h1).mono ?_
  rintro e w' ⟨A', c', he, ho, hb⟩
  rw [hl] at he ho
  exact ⟨A', c', he, ho, hb⟩
set_option maxHeartbeats 1000000 in
theorem l02Raised_any (x : Fac) (by_ : Int) (w : World) (hx : x.l.size = 0 → 0 ≤ x.a ∧ x.a ≤ 1048576 ∧ 0 ≤ x.b ∧ x.b ≤ 1048576) (h0 : 0 ≤ by_) (h1 : by_ ≤ 1048576) :
    Calls Try.prog 51 #[x.val, .int .i64 by_] w (Ret (rsF by_ x).val w) := by
  unfold Fac.val
  by_cases h : x.l.size = 0
  · have Hy := Lib.hid (show rsF by_ x = ⟨x.l, x.a + by_, x.b + by_⟩ by unfold rsF; rw [if_pos h])
    have e0 := size0 h
    obtain ⟨q0, q1, q2, q3⟩ := hx h
    rw [Hy.out]
    clear hx h
    go_enter Try.func51, Try.ntmps51
    go_wp2_with fail
    refine bodyPost_ret (v := .agg #[.string x.l, .int .i64 (x.a + by_), .int .i64 (x.b + by_)]) (by simp [results, Try.results51, go_sem]) rfl ⟨rfl, ?_⟩
    (repeat first | exact Below.refl _ _ | assumption | refine Below.drew ?_ | refine Below.alloc ?_ (by first | exact Nat.le_refl _ | (simp; done) | omega | (simp; omega)) _ | refine Below.setCell ?_ (by first | exact Nat.le_refl _ | (simp; done) | omega | (simp; omega)) _)
  · have Hy := Lib.hid (show rsF by_ x = x by unfold rsF; rw [if_neg h])
    have e0 := size1 h
    have e1 := size1' h
    rw [Hy.out]
    clear hx h
    go_enter Try.func51, Try.ntmps51
    go_wp2_with fail
    refine bodyPost_ret (v := .agg #[.string x.l, .int .i64 x.a, .int .i64 x.b]) (by simp [results, Try.results51, go_sem]) rfl ⟨rfl, ?_⟩
    (repeat first | exact Below.refl _ _ | assumption | refine Below.drew ?_ | refine Below.alloc ?_ (by first | exact Nat.le_refl _ | (simp; done) | omega | (simp; omega)) _ | refine Below.setCell ?_ (by first | exact Nat.le_refl _ | (simp; done) | omega | (simp; omega)) _)
theorem ixR_ge (f : Fac) : ∀ (rs : List Fac) (i : Int), 0 ≤ i → decide (0 ≤ ixR f rs i) = decide (f ∈ rs)
  | [], i, _ => by simp [ixR]
  | x :: r, i, h => by
    unfold ixR
    by_cases hx : f = x
    · simp [hx, h]
    · rw [if_neg hx, ixR_ge f r (i + 1) (by omega)]; simp [hx]
set_option maxHeartbeats 1000000 in
theorem containsR_any (A : Option Addr) (n c : Nat) (rs : List Fac) (f : Fac) (w : World) (hn : n ≤ 1048576) (hr : Rd w w.heap.size A n 3 Fac.cells rs) :
    Calls Try.prog 59 #[.slice A n c, .agg #[.string f.l, .int .i64 f.a, .int .i64 f.b]] w (Ret (.bool (decide (f ∈ rs))) w) := by
  have HR := Lib.hid hr; clear hr
  have hg := Lib.hid (ixR_ge f rs 0 (by omega))
  go_enter Try.func59, Try.ntmps59
  go_wp2_with fail
  refine (indexR_any A n c rs f _ hn (HR.out.next ((Below.refl _ _).alloc (Nat.le_refl _) _))).mono ?_
  rintro e w1 ⟨rfl, hb1⟩
  generalize ixR f rs 0 = z at *
  go_wp2_with fail
  go_ret
  exact ⟨ret_bool hg.out, ((Below.refl _ _).alloc (Nat.le_refl _) _).trans (hb1.mono (by simp))⟩
set_option maxHeartbeats 1000000 in
theorem hasLetter_any (A : Option Addr) (n c : Nat) (rs : List Fac) (z : Int) (u : UInt8) (hz : z = (u.toNat : Int)) (w : World) (hn : n ≤ 1048576) (hr : Rd w w.heap.size A n 3 Fac.cells rs) (b : Bool) (hb : decide (ruleC u ∈ rs) = b) :
    Calls Try.prog 28 #[.agg #[.slice A n c], .int .u8 z] w (Ret (.bool b) w) := by
  subst hz
  have HR := Lib.hid hr; clear hr
  have Hb := Lib.hid hb; clear hb
  go_enter Try.func28, Try.ntmps28
  go_wp2_with fail
  refine named fun w0 H0 => ?_
  have B0 := Lib.hid (show Blk w0 w.heap.size 26 #[.slice A n c] by rw [H0.out]; exact Blk.new _ _ _)
  have hb0 : Below w.heap.size w w0 := by rw [H0.out]; (repeat first | exact Below.refl _ _ | assumption | refine Below.drew ?_ | refine Below.alloc ?_ (by first | exact Nat.le_refl _ | (simp; done) | omega | (simp; omega)) _ | refine Below.setCell ?_ (by first | exact Nat.le_refl _ | (simp; done) | omega | (simp; omega)) _)
  have c0 := B0.out.cell 0
  have l0 := B0.out.lt
  have HR0 := Lib.hid (HR.out.next hb0)
  clear H0
  have hup := upc w0.heap.size w0
  refine wp_region_up w0.heap.size (by kernel_rfl) (by kernel_rfl) ?_
  repeat (go_big_quiet_step ((first | (go_at_call 60; exact Calls.up (Nat.le_refl _) (letter_any u _)) | (go_at_call 59; exact Calls.up (Nat.le_refl _) (containsR_any A n c rs (ruleC u) _ hn ((HR0.out.below (Up.h _)).more (Up.h _).size))))))
  refine wpQuiet_nil ?_
  intro w4 hup_w4
  have hb4 := up_of hup_w4
  go_wp2_with fail
  go_ret
  exact ⟨ret_bool Hb.out, hb0.trans (hb4.mono hb0.size)⟩
end Go.Proofs.Ytfanphhlagjkdaa


/-
  slices.IndexFunc and slices.ContainsFunc over rules, by the contract of the function that they are handed.
-/
namespace Go.Proofs.Ytfanphhlagjkdaa
open Go.RowKit

def findI {α : Type} (p : α → Bool) : List α → Int → Int
  | [], _ => -1
  | x :: r, i => if p x = true then i else findI p r (i + 1)
theorem findI_any {α : Type} (p : α → Bool) : ∀ (xs : List α) (i : Int), 0 ≤ i → (decide (0 ≤ findI p xs i) = xs.any p)
  | [], i, _ => rfl
  | x :: r, i, h => by
    unfold findI
    by_cases hp : p x = true
    · rw [if_pos hp]; simp [hp, h]
    · rw [if_neg hp, findI_any p r (i + 1) (by omega)]; simp [hp]

end Go.Proofs.Ytfanphhlagjkdaa


/-
  A new slice of four numbers.
-/
namespace Go.Proofs.Ytfanphhlagjkdaa
open Go.RowKit

theorem info_i64 : (Try.prog.info? 2).map (fun i => (i.zero, i.size, i.bytes)) = some (some (.int .i64 0), 1, 8) := by kernel_rfl
theorem made4 : madeCells (Value.int .i64 0).cells (4 * 1) = #[.int .i64 0, .int .i64 0, .int .i64 0, .int .i64 0] := by
  apply Array.ext
  · simp [size_madeCells]
  · intro i h1 h2
    have h3 : i < 4 := h2
    match i, h3 with
    | 0, _ => simp [madeCells, Value.cells]
    | 1, _ => simp [madeCells, Value.cells]
    | 2, _ => simp [madeCells, Value.cells]
    | 3, _ => simp [madeCells, Value.cells]
theorem make4 (W : World) : (Instr.makeSlice 43 (.int .i64 4) (.int .i64 4)).run Try.prog W = .ok (.slice (some ⟨W.heap.size, 0, none⟩) 4 4) (W.alloc (.cells #[.int .i64 0, .int .i64 0, .int .i64 0, .int .i64 0] 2)) := by
  obtain ⟨i0, hi, hz0, hz1, hz2⟩ := info_parts info_i64
  have hmk := run_make_rowN (P := Try.prog) 43 2 i0 _ Try.underlying43 hi hz0 .i64 .i64 4 4 (Nat.le_refl _) (by rw [hz2]; omega) (by omega) W
  rw [hz1, made4] at hmk
  exact hmk
end Go.Proofs.Ytfanphhlagjkdaa


/-
  Lists of numbers copied and compared.
-/
namespace Go.Proofs.Ytfanphhlagjkdaa
open Go.RowKit

theorem fill1 {α : Type} {enc : α → List Value} {cs : Array Value} {n k : Nat} {xs : List α} {x : α} {v : Value} (hs : cs.size = n * 1) (hk : k < n) (hx : xs[k]? = some x) (he : enc x = [v])
    (hc : ∀ i y, i < k → xs[i]? = some y → ∀ j, j < 1 → cs[i * 1 + j]? = (enc y)[j]?) :
    (cs.setIfInBounds k v).size = n * 1 ∧ ∀ i y, i < k + 1 → xs[i]? = some y → ∀ j, j < 1 → (cs.setIfInBounds k v)[i * 1 + j]? = (enc y)[j]? := by
  refine ⟨by simpa using hs, fun i y hi hy j hj => ?_⟩
  obtain rfl : j = 0 := by omega
  by_cases h : i = k
  · subst h
    obtain rfl : x = y := by rw [hx] at hy; exact Option.some.inj hy
    rw [he]
    have : i < cs.size := by omega
    simp [this]
  · rw [← hc i y (by omega) hy 0 hj]
    rw [Array.getElem?_setIfInBounds_ne (by omega)]

def eqInts : List Int → List Int → Bool
  | x :: r, y :: s => decide (x = y) && eqInts r s
  | _, _ => true
theorem eqInts_eq : ∀ (a b : List Int), a.length = b.length → eqInts a b = decide (a = b)
  | [], [], _ => rfl
  | x :: r, y :: s, h => by
    rw [eqInts, eqInts_eq r s (by simpa using h)]
    by_cases h1 : x = y <;> by_cases h2 : r = s <;> simp [h1, h2]
end Go.Proofs.Ytfanphhlagjkdaa


/-
  Equality of lists of texts, and whether marks are still there.
-/
namespace Go.Proofs.Ytfanphhlagjkdaa
open Go.RowKit

def eqStrs : List ByteArray → List ByteArray → Bool
  | x :: r, y :: s => decide (x = y) && eqStrs r s
  | _, _ => true
theorem eqStrs_eq : ∀ (a b : List ByteArray), a.length = b.length → eqStrs a b = decide (a = b)
  | [], [], _ => rfl
  | x :: r, y :: s, h => by
    rw [eqStrs, eqStrs_eq r s (by simpa using h)]
    by_cases h1 : x = y <;> by_cases h2 : r = s <;> simp [h1, h2]

end Go.Proofs.Ytfanphhlagjkdaa


/-
  slices.IndexFunc and slices.ContainsFunc over texts; lists of texts measured and copied.
-/
namespace Go.Proofs.Ytfanphhlagjkdaa
open Go.RowKit

set_option maxHeartbeats 1000000 in
theorem indexStr_any (fp : Nat) (ep : EnterOk fp) (cp : Array Value) (p : ByteArray → Bool) (A : Option Addr) (n c : Nat) (zs : List ByteArray) (w : World) (hn : n ≤ 1048576) (hr : Rd w w.heap.size A n 1 strEM zs)
    (hP : ∀ (k : Nat) (x : ByteArray), zs[k]? = some x → ∀ w', Below w.heap.size w w' → Calls Try.prog fp (#[.string x] ++ cp) w' (Ret (.bool (p x)) w')) :
    Calls Try.prog 57 #[.slice A n c, .func (.func fp) #[] cp] w (Ret (.int .i64 (findI p zs 0)) w) := by
  have hl := Lib.hid hr.len
  have HP := Lib.hid hP; clear hP
  unfold EnterOk at ep
  go_enter Try.func57, Try.ntmps57
  go_wp2_with fail
  go_loopw [8] (fun i_ w' => ∃ k : Nat, i_ = .int .i64 k ∧ k ≤ n ∧ Below w.heap.size w w' ∧ Hid (findI p (zs.drop k) k = findI p zs 0)) (fun i_ _ => n - (intOf i_).toNat)
  case atStart => exact ⟨0, rfl, by omega, Below.refl _ _, Lib.hid rfl⟩
  case round =>
    obtain ⟨k, rfl, hk, hb, H⟩ := hrel
    by_cases hlt : k < n
    · obtain ⟨b, o, x, rfl, hB, gx, c0⟩ := (show Rd wr wr.heap.size A n 1 (fun s => [.string s]) zs from hr.next hb).str hlt
      have H' := Lib.hid (show (if p x = true then (k : Int) else findI p (zs.drop (k + 1)) (k + 1)) = findI p zs 0 by rw [← H.out, drop_cons gx]; rfl)
      have hc := HP.out k x gx wr hb
      clear gx H
      rcases hp : p x with _ | _
      all_goals
        rw [hp] at hc
        have Hp := Lib.hid hp; clear hp
        have Hc := Lib.hid hc; clear hc
        go_wp2_with fail
        refine Hc.out.mono ?_
        rintro e w1 ⟨rfl, hb1⟩
        go_wp2_with fail
        first
          | (go_ret
             exact ⟨ret_int (by rw [← H'.out, Hp.out]; rfl), hb.trans (hb1.mono hb.size)⟩)
          | (go_roundw
             case rel => exact ⟨k + 1, by go_num, by omega, hb.trans (hb1.mono hb.size), Lib.hid (by rw [← H'.out, Hp.out]; rfl)⟩
             case measure => simp [intOf]; omega)
    · go_wp2_with fail
      go_ret
      exact ⟨ret_int (by rw [← H.out, List.drop_of_length_le (by rw [hl.out]; omega)]; rfl), hb⟩
theorem containsStr_any (fp : Nat) (ep : EnterOk fp) (cp : Array Value) (p : ByteArray → Bool) (A : Option Addr) (n c : Nat) (zs : List ByteArray) (w : World) (hn : n ≤ 1048576) (hr : Rd w w.heap.size A n 1 strEM zs)
    (hP : ∀ (k : Nat) (x : ByteArray), zs[k]? = some x → ∀ w', Below w.heap.size w w' → Calls Try.prog fp (#[.string x] ++ cp) w' (Ret (.bool (p x)) w')) :
    Calls Try.prog 25 #[.slice A n c, .func (.func fp) #[] cp] w (Ret (.bool (zs.any p)) w) := by
  have e := Lib.hid (findI_any p zs 0 (by omega))
  have Hc := Lib.hid (indexStr_any fp ep cp p A n c zs w hn hr hP)
  clear hP hr
  go_enter Try.func25, Try.ntmps25
  go_wp2_with fail
  refine Hc.out.mono ?_
  rintro e1 w1 ⟨rfl, hb1⟩
  go_wp2_with fail
  go_ret
  exact ⟨ret_bool e.out, hb1⟩
theorem info_str : (Try.prog.info? 9).map (fun i => (i.zero, i.size, i.bytes)) = some (some (.string .empty), 1, 16) := by kernel_rfl
/-- the rest of the measure of texts -/
def szStrs : Int → List ByteArray → Int
  | left, [] => left
  | left, s :: r => if left - s.size < 0 then -1 else szStrs (left - s.size) r
def szStrAll (left : Int) (ss : List ByteArray) : Int := if left < ss.length then -1 else szStrs (left - ss.length) ss
theorem szStrs_le : ∀ (ss : List ByteArray) (left : Int), 0 ≤ szStrs left ss → szStrs left ss ≤ left ∧ ∀ s ∈ ss, (s.size : Int) ≤ left
  | [], left, h => ⟨Int.le_refl _, by simp⟩
  | s :: r, left, h => by
    unfold szStrs at h ⊢
    split
    · rename_i h1; rw [if_pos h1] at h; omega
    · rename_i h1
      rw [if_neg h1] at h
      have ⟨h2, h3⟩ := szStrs_le r _ h
      refine ⟨by omega, fun x hx => ?_⟩
      rcases List.mem_cons.1 hx with rfl | hx
      · omega
      · have := h3 x hx; omega
theorem szStrAll_le {left : Int} {ss : List ByteArray} (h : 0 ≤ szStrAll left ss) : szStrAll left ss ≤ left ∧ (ss.length : Int) ≤ left ∧ ∀ s ∈ ss, (s.size : Int) ≤ left := by
  unfold szStrAll at h ⊢
  split
  · rename_i h1; rw [if_pos h1] at h; omega
  · rename_i h1
    rw [if_neg h1] at h
    have ⟨h2, h3⟩ := szStrs_le ss _ h
    exact ⟨by omega, by omega, fun s hs => by have := h3 s hs; omega⟩
end Go.Proofs.Ytfanphhlagjkdaa
