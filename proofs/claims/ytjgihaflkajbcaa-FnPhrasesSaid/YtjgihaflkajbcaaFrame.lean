/-
  Frames: what a call that writes one block of its caller's leaves alone.
-/
import Derived.Test.YtjgihaflkajbcaaOwn
namespace Go.Proofs.Ytjgihaflkajbcaa
open Go.RowKit

section
variable {w w1 w2 w' : World} {r : Option Nat} {g : Nat}
theorem gb_below (hb : Below w.heap.size w w') : w.grownBy w' r := ⟨hb.os, hb.tape, hb.output, hb.size, fun k hk _ => hb.block k hk⟩
theorem gb_trans (h1 : w.grownBy w1 r) (h2 : w1.grownBy w2 r) : w.grownBy w2 r :=
  ⟨h2.os.trans h1.os, h2.tape.trans h1.tape, h2.output.trans h1.output, Nat.le_trans h1.size h2.size, fun k hk hne => (h2.block k (Nat.lt_of_lt_of_le hk h1.size) hne).trans (h1.block k hk hne)⟩
theorem gb_next (h1 : w.grownBy w1 r) (h2 : Below w1.heap.size w1 w2) : w.grownBy w2 r := gb_trans h1 (gb_below h2)
theorem gb_set (w : World) (g i : Nat) (u : Value) : w.grownBy (w.setCell ⟨g, i, none⟩ u) (some g) :=
  ⟨rfl, rfl, rfl, by simp [World.setCell], fun k _ hne => Below.heap_setCell w _ u k (fun e => hne (by rw [e]))⟩
theorem gb_setCell (h : w.grownBy w1 (some g)) (i : Nat) (u : Value) : w.grownBy (w1.setCell ⟨g, i, none⟩ u) (some g) := gb_trans h (gb_set w1 g i u)
/-- a block that the call itself made later is free -/
theorem gb_weak {w0 : World} {k : Nat} (h1 : w0.grownBy w1 r) (h2 : w1.grownBy w2 (some k)) (hk : w0.heap.size ≤ k) : w0.grownBy w2 r :=
  ⟨h2.os.trans h1.os, h2.tape.trans h1.tape, h2.output.trans h1.output, Nat.le_trans h1.size h2.size, fun j hj hne => (h2.block j (Nat.lt_of_lt_of_le hj h1.size) (fun e => by injection e with e; omega)).trans (h1.block j hj hne)⟩
theorem gb_weak' {w0 : World} {row : Option Nat} (h1 : w0.grownBy w1 r) (h2 : w1.grownBy w2 row) (hk : ∀ k, row = some k → w0.heap.size ≤ k) : w0.grownBy w2 r :=
  ⟨h2.os.trans h1.os, h2.tape.trans h1.tape, h2.output.trans h1.output, Nat.le_trans h1.size h2.size, fun j hj hne => (h2.block j (Nat.lt_of_lt_of_le hj h1.size) (fun e => by have := hk j e.symm; omega)).trans (h1.block j hj hne)⟩
theorem Rd.grown {α : Type} {B n sz : Nat} {A : Option Addr} {enc : α → List Value} {xs : List α} (h : Rd w B A n sz enc xs) (hB : B ≤ w.heap.size) (hg : w.grownBy w' r) (hr : ∀ k, r = some k → B ≤ k) : Rd w' B A n sz enc xs :=
  h.keep fun p hp => hg.cell_far p (by omega) (fun e => by have := hr _ e.symm; omega)
end
section
variable {α : Type} {P : Program} {w : World} {ops : Array Oper} {rest : List Oper} {o : Oper} {a : Act} {Q : Exit → Act → World → Prop}
/-- one element more at the end of a slice of the call's own; no frame is asked -/
theorem wpList_pushG (hgd : o.guard = none) (s x : Operand) (t : TypeId) (ho : o.op = .call { callee := .builtin .append, args := #[s, x], argTypes := #[t, t] })
    (base : Nat) (e : TypeId) (sz bytes : Nat) (EI : Elem P t e sz bytes) (enc : α → List Value) (A : Option Addr) (n c : Nat) (xs : List α) (hs : a.eval s = .slice A n c)
    (hown : w.ownsRow base e sz (.slice A n c) n (xs.flatMap enc)) (g : Nat) (y : α) (cs : Array Value) (t' : TypeId) (fr : Nat × Nat) (hx : a.eval x = .slice (some ⟨g, 0, none⟩) 1 1) (hg : w.heap[g]? = some (.cells cs t' fr)) (hcs : cs.toList = enc y)
    (hlen : (enc y).length = sz) (hone : ∀ u ∈ enc y, u.oneCell' = true) (hsz : 0 < sz) (hbytes : (n + 1) * bytes ≤ 140737488355328) (hm : n + 1 ≤ maxLen) (hsize : base ≤ w.heap.size)
    (h : ∀ A' c' w', w'.ownsRow base e sz (.slice A' (n + 1) c') (n + 1) ((xs ++ [y]).flatMap enc) → w.grownBy w' (Value.slice A n c).ownBlock →
      ((Value.slice A' (n + 1) c').ownBlock = (Value.slice A n c).ownBlock ∨ (Value.slice A' (n + 1) c').ownBlock = some w.heap.size) → wpList P ops Q rest (a.put o.dst (.slice A' (n + 1) c')) w') : wpList P ops Q (o :: rest) a w := by
  obtain ⟨ht, i, z, hi, hz, h1, h2, hzs⟩ := EI
  have hnews : ∀ j u, (enc y)[j]? = some u → w.cell? ((⟨g, 0, none⟩ : Addr).add j) = some u := by rw [← hcs]; exact World.news_of_block hg
  refine wpList_plain hgd fun _ hK => ?_
  obtain ⟨v', w', hr, r2, r3, _, r5⟩ := run_append_own_at (P := P) w base t o.type e i z sz bytes ht hi hz h1 h2 hzs hsz _ n _ hown ⟨g, 0, none⟩ 1 1 (enc y) (by rw [hlen]; omega) hnews hone hm hbytes hsize
  obtain ⟨g', cap, rfl, _, _⟩ := r2.form (by omega)
  unfold Oper.wp execOp
  simp only [ho, resolve, invoke, builtin, Sem.run_bind, Sem.run_pure, Result.andThen_ok, List.map_toArray, List.map_cons, List.map_nil, hs, hx, hr]
  exact hK _ _ (h _ _ w' (by rw [List.flatMap_append]; simpa using r2) r3 r5)
end
/-- a row of the call's own, behind what writes another block -/
theorem own_kept {w w' : World} {base : Nat} {e : TypeId} {sz n : Nat} {v : Value} {xs : List Value} {g : Nat} (h : w.ownsRow base e sz v n xs) (hg : w.grownBy w' (some g)) (hlt : g < base) : w'.ownsRow base e sz v n xs := by
  refine h.kept hg ?_
  cases hv : v.ownBlock with
  | none => exact .inl rfl
  | some k => refine .inr fun e => ?_; have := (h.lt k hv).1; injection e with e; omega
theorem own_ge {w : World} {base : Nat} {e : TypeId} {sz n : Nat} {v : Value} {xs : List Value} (h : w.ownsRow base e sz v n xs) : ∀ k, v.ownBlock = some k → base ≤ k := fun k hk => (h.lt k hk).1
/-- the world under a name -/
theorem named {P : Program} {c : Code} {Q : Exit → Act → World → Prop} {a : Act} {W : World} (h : ∀ w, Hid (w = W) → c.wp P Q a w) : c.wp P Q a W := h W (Lib.hid rfl)
end Go.Proofs.Ytjgihaflkajbcaa
