
/-
  Frames: what a call that writes one block of its caller's leaves alone.
-/
import Derived.Test.YtcpofhjoblgmgaaDoorOwn
namespace Go.Proofs.YtcpofhjoblgmgaaDoor
open Go.RowKit

section
variable {w w1 w2 w' : World} {r : Option Nat} {g : Nat}
theorem gb_below (hb : Below w.heap.size w w') : w.grownBy w' r := ⟨hb.os, hb.tape, hb.output, hb.size, fun k hk _ => hb.block k hk⟩
theorem gb_trans (h1 : w.grownBy w1 r) (h2 : w1.grownBy w2 r) : w.grownBy w2 r :=
  ⟨h2.os.trans h1.os, h2.tape.trans h1.tape, h2.output.trans h1.output, Nat.le_trans h1.size h2.size, fun k hk hne => (h2.block k (Nat.lt_of_lt_of_le hk h1.size) hne).trans (h1.block k hk hne)⟩
theorem gb_next (h1 : w.grownBy w1 r) (h2 : Below w1.heap.size w1 w2) : w.grownBy w2 r := gb_trans h1 (gb_below h2)
theorem gb_set (w : World) (g i : Nat) (u : Value) : w.grownBy (w.setCell ⟨g, i, none⟩ u) (some g) :=
  ⟨rfl, rfl, rfl, by simp [World.setCell], fun k _ hne => Below.heap_setCell w _ u k (fun e => hne (by rw [e]))⟩
theorem gb_setCell (h : w.grownBy w1 (some g)) (i : Nat) (u : Value) : w.grownBy (w1.setCell ⟨g, i, none⟩ u) (some g) := gb_trans h (gb_set w1 g i u)
/-- a block that the call itself made later is free -/
theorem gb_weak {w0 : World} {k : Nat} (h1 : w0.grownBy w1 r) (h2 : w1.grownBy w2 (some k)) (hk : w0.heap.size ≤ k) : w0.grownBy w2 r :=
  ⟨h2.os.trans h1.os, h2.tape.trans h1.tape, h2.output.trans h1.output, Nat.le_trans h1.size h2.size, fun j hj hne => (h2.block j (Nat.lt_of_lt_of_le hj h1.size) (fun e => by injection e with e; omega)).trans (h1.block j hj hne)⟩
theorem gb_weak' {w0 : World} {row : Option Nat} (h1 : w0.grownBy w1 r) (h2 : w1.grownBy w2 row) (hk : ∀ k, row = some k → w0.heap.size ≤ k) : w0.grownBy w2 r :=
  ⟨h2.os.trans h1.os, h2.tape.trans h1.tape, h2.output.trans h1.output, Nat.le_trans h1.size h2.size, fun j hj hne => (h2.block j (Nat.lt_of_lt_of_le hj h1.size) (fun e => by have := hk j e.symm; omega)).trans (h1.block j hj hne)⟩
theorem Rd.grown {α : Type} {B n sz : Nat} {A : Option Addr} {enc : α → List Value} {xs : List α} (h : Rd w B A n sz enc xs) (hB : B ≤ w.heap.size) (hg : w.grownBy w' r) (hr : ∀ k, r = some k → B ≤ k) : Rd w' B A n sz enc xs :=
  h.keep fun p hp => hg.cell_far p (by omega) (fun e => by have := hr _ e.symm; omega)
end
section
variable {α : Type} {P : Program} {w : World} {ops : Array Oper} {rest : List Oper} {o : Oper} {a : Act} {Q : Exit → Act → World → Prop}
/-- one element more at the end of a slice of the call's own; no frame is asked -/
theorem wpList_pushG (hgd : o.guard = none) (s x : Operand) (t : TypeId) (ho : o.op = .call { callee := .builtin .append, args := #[s, x], argTypes := #[t, t] })
    (base : Nat) (e : TypeId) (sz bytes : Nat) (EI : Elem P t e sz bytes) (enc : α → List Value) (A : Option Addr) (n c : Nat) (xs : List α) (hs : a.eval s = .slice A n c)
    (hown : w.ownsRow base e sz (.slice A n c) n (xs.flatMap enc)) (g : Nat) (y : α) (cs : Array Value) (t' : TypeId) (fr : Nat × Nat) (hx : a.eval x = .slice (some ⟨g, 0, none⟩) 1 1) (hg : w.heap[g]? = some (.cells cs t' fr)) (hcs : cs.toList = enc y)
    (hlen : (enc y).length = sz) (hone : ∀ u ∈ enc y, u.oneCell' = true) (hsz : 0 < sz) (hbytes : (n + 1) * bytes ≤ 140737488355328) (hm : n + 1 ≤ maxLen) (hsize : base ≤ w.heap.size)
    (h : ∀ A' c' w', w'.ownsRow base e sz (.slice A' (n + 1) c') (n + 1) ((xs ++ [y]).flatMap enc) → w.grownBy w' (Value.slice A n c).ownBlock →
      ((Value.slice A' (n + 1) c').ownBlock = (Value.slice A n c).ownBlock ∨ (Value.slice A' (n + 1) c').ownBlock = some w.heap.size) → wpList P ops Q rest (a.put o.dst (.slice A' (n + 1) c')) w') : wpList P ops Q (o :: rest) a w := by
  obtain ⟨ht, i, z, hi, hz, h1, h2, hzs⟩ := EI
  have hnews : ∀ j u, (enc y)[j]? = some u → w.cell? ((⟨g, 0, none⟩ : Addr).add j) = some u := by rw [← hcs]; exact World.news_of_block hg
  refine wpList_plain hgd fun _ hK => ?_
  obtain ⟨v', w', hr, r2, r3, _, r5⟩ := run_append_own_at (P := P) w base t o.type e i z sz bytes ht hi hz h1 h2 hzs hsz _ n _ hown ⟨g, 0, none⟩ 1 1 (enc y) (by rw [hlen]; omega) hnews hone hm hbytes hsize
  obtain ⟨g', cap, rfl, _, _⟩ := r2.form (by omega)
  unfold Oper.wp execOp
  simp only [ho, resolve, invoke, builtin, Sem.run_bind, Sem.run_pure, Result.andThen_ok, List.map_toArray, List.map_cons, List.map_nil, hs, hx, hr]
  exact hK _ _ (h _ _ w' (by rw [List.flatMap_append]; simpa using r2) r3 r5)
end
/-- behind an append the slice that was appended to still reads as it did -/
theorem append_old {P : Program} {w w' : World} {t ty base e sz bytes n c m : Nat} {i : TypeInfo} {z : Value} {A : Option Addr} {v' : Value} {xs news : List Value} (ht : P.underlying t = some (.slice e)) (hi : P.info? e = some i) (hz : i.zero = some z) (hsz : i.size = sz) (hby : i.bytes = bytes)
    (hown : w.ownsRow base e sz (.slice A n c) n xs) (a : Addr) (cc : Nat) (hl : news.length = m * sz) (hnews : ∀ j u, news[j]? = some u → w.cell? (a.add j) = some u) (h1 : ∀ u ∈ news, u.oneCell' = true)
    (hm : n + m ≤ maxLen) (hbytes : (n + m) * bytes ≤ 140737488355328) (hr : (Builtin.append_ #[t, t] ty #[.slice A n c, .slice (some a) m cc]).run P w = .ok v' w')
    (hown' : w'.ownsRow base e sz v' (n + m) (xs ++ news)) : w'.ownsRow base e sz (.slice A n c) n xs := by
  subst hsz
  subst hby
  rcases hown.2 with ⟨hnil, hn0⟩ | ⟨g, cap, cur, hv, hbg, hh, hnc, hcm, hcs, htake⟩
  · rw [hnil]
    obtain rfl : xs = [] := List.eq_nil_of_length_eq_zero (by have := hown.1; rw [hn0] at this; simpa using this)
    subst hn0
    exact World.ownsRow_nil _ _ _ _
  · have hA : A = some ⟨g, 0, none⟩ := by injection hv
    have hc : c = cap := by injection hv
    subst hA hc
    by_cases hroom : n + m ≤ c
    · have hfit : n * i.size + news.length ≤ cur.size := by rw [hl, hcs, ← Nat.add_mul]; exact Nat.mul_le_mul_right _ hroom
      have h2 := run_append_room (P := P) w t ty e i ht hi g n c cur hh a m cc news hl hnews h1 hroom hfit
      rw [hr] at h2
      injection h2 with hv' hw'
      subst hv'
      rcases hown'.2 with ⟨hnil, _⟩ | ⟨g', cap', cur', hv2, hbg', hh', hnc', hcm', hcs', htake'⟩
      · cases hnil
      · have hg : g = g' := by injection hv2 with q; injection q with q; injection q
        have hc2 : c = cap' := by injection hv2
        subst hg hc2
        refine ⟨hown.1, .inr ⟨g, c, cur', rfl, hbg, hh', hnc, hcm, hcs', ?_⟩⟩
        have e1 : cur'.toList.take (n * i.size) = (cur'.toList.take ((n + m) * i.size)).take (n * i.size) := by
          rw [List.take_take, Nat.min_eq_left (Nat.mul_le_mul_right _ (Nat.le_add_right _ _))]
        rw [e1, htake', ← hown.1]
        exact List.take_left
    · have holds : ∀ j u, xs[j]? = some u → w.cell? ((⟨g, 0, none⟩ : Addr).add j) = some u := hown.cells (g := g) rfl
      have h2 := run_append_grow (P := P) w t ty e i z ht hi hz ⟨g, 0, none⟩ n c xs hown.1 holds a m cc news hl hnews (by omega) (by simp only [maxLen] at hm; omega) (growslice_fits (by omega) hbytes)
      rw [hr] at h2
      injection h2 with hv' hw'
      subst hw'
      refine ⟨hown.1, .inr ⟨g, c, cur, rfl, hbg, ?_, hnc, hcm, hcs, htake⟩⟩
      exact (Below.heap_alloc w.drew _ g (Array.getElem?_eq_some_iff.1 hh).1).trans hh
section
variable {α : Type} {P : Program} {w : World} {ops : Array Oper} {o : Oper} {a : Act} {K : Act → World → Prop} {Q : Exit → Act → World → Prop} {E : Prop}
/-- one element more, as a step of a region that draws its order -/
theorem step_push (hgd : o.guard = none) (s x : Operand) (t : TypeId) (ho : o.op = .call { callee := .builtin .append, args := #[s, x], argTypes := #[t, t] })
    (base : Nat) (e : TypeId) (sz bytes : Nat) (EI : Elem P t e sz bytes) (enc : α → List Value) (A : Option Addr) (n c : Nat) (xs : List α) (hs : a.eval s = .slice A n c)
    (hown : w.ownsRow base e sz (.slice A n c) n (xs.flatMap enc)) (g : Nat) (y : α) (cs : Array Value) (t' : TypeId) (fr : Nat × Nat) (hx : a.eval x = .slice (some ⟨g, 0, none⟩) 1 1) (hg : w.heap[g]? = some (.cells cs t' fr)) (hcs : cs.toList = enc y)
    (hlen : (enc y).length = sz) (hone : ∀ u ∈ enc y, u.oneCell' = true) (hsz : 0 < sz) (hbytes : (n + 1) * bytes ≤ 140737488355328) (hm : n + 1 ≤ maxLen) (hsize : base ≤ w.heap.size)
    (h : ∀ A' c' w', w'.ownsRow base e sz (.slice A' (n + 1) c') (n + 1) ((xs ++ [y]).flatMap enc) → w.grownBy w' (Value.slice A n c).ownBlock → w'.ownsRow base e sz (.slice A n c) n (xs.flatMap enc) →
      K (a.put o.dst (.slice A' (n + 1) c')) w') : if Region.wanted o (yielded ops a.tmps) = true then Oper.wp P o a w K Q else E := by
  obtain ⟨ht, i, z, hi, hz, h1, h2, hzs⟩ := EI
  have hnews : ∀ j u, (enc y)[j]? = some u → w.cell? ((⟨g, 0, none⟩ : Addr).add j) = some u := by rw [← hcs]; exact World.news_of_block hg
  obtain ⟨v', w', hr, r2, r3, _, _⟩ := run_append_own_at (P := P) w base t o.type e i z sz bytes ht hi hz h1 h2 hzs hsz _ n _ hown ⟨g, 0, none⟩ 1 1 (enc y) (by rw [hlen]; omega) hnews hone hm hbytes hsize
  have r5 := append_old ht hi hz h1 h2 hown ⟨g, 0, none⟩ 1 (by rw [hlen]; omega) hnews hone hm hbytes hr r2
  obtain ⟨g', cap, rfl, _, _⟩ := r2.form (by omega)
  have hw : Region.wanted o (yielded ops a.tmps) = true := by simp [Region.wanted, hgd]
  rw [if_pos hw]
  unfold Oper.wp execOp
  simp only [ho, resolve, invoke, builtin, Sem.run_bind, Sem.run_pure, Result.andThen_ok, List.map_toArray, List.map_cons, List.map_nil, hs, hx, hr]
  exact h _ _ w' (by rw [List.flatMap_append]; simpa using r2) r3 r5
end
/-- a row of the call's own, behind what writes another block -/
theorem own_kept {w w' : World} {base : Nat} {e : TypeId} {sz n : Nat} {v : Value} {xs : List Value} {g : Nat} (h : w.ownsRow base e sz v n xs) (hg : w.grownBy w' (some g)) (hlt : g < base) : w'.ownsRow base e sz v n xs := by
  refine h.kept hg ?_
  cases hv : v.ownBlock with
  | none => exact .inl rfl
  | some k => refine .inr fun e => ?_; have := (h.lt k hv).1; injection e with e; omega
theorem own_ge {w : World} {base : Nat} {e : TypeId} {sz n : Nat} {v : Value} {xs : List Value} (h : w.ownsRow base e sz v n xs) : ∀ k, v.ownBlock = some k → base ≤ k := fun k hk => (h.lt k hk).1
/-- an old cell, behind a new block and what writes another block -/
theorem far_alloc {w w' : World} {o : Obj} {r : Option Nat} {p : Addr} {v : Value} (hg : (w.alloc o).grownBy w' r) (h : w.cell? p = some v) (hlt : p.block < w.heap.size) (hne : some p.block ≠ r) : w'.cell? p = some v :=
  (hg.cell_far p (by simp; omega) hne).trans ((((Below.refl w.heap.size w).alloc (Nat.le_refl _) o).cell hlt).trans h)
/-- an element's cell of a row of the call's own -/
theorem own_at {α : Type} {w : World} {base e sz n c g : Nat} {enc : α → List Value} {out : List α} (hlen : ∀ x ∈ out, (enc x).length = sz) (h : w.ownsRow base e sz (.slice (some ⟨g, 0, none⟩) n c) n (out.flatMap enc)) (hl : out.length = n) (d : α) (i : Nat) (hi : i < n) (j : Nat) (hj : j < sz) :
    w.cell? ⟨g, i * sz + j, none⟩ = (enc (out.getD i d))[j]? := by
  have hlt : i * sz + j < n * sz := by
    have : (i + 1) * sz ≤ n * sz := Nat.mul_le_mul_right _ hi
    rw [Nat.succ_mul] at this; omega
  rw [h.cellAt _ hlt]
  have hx : out[i]? = some (out[i]'(by omega)) := List.getElem?_eq_getElem _
  rw [flat_at out hlen i _ hx j hj, List.getD_eq_getElem?_getD, hx]; rfl
/-- the world under a name -/
theorem named {P : Program} {c : Code} {Q : Exit → Act → World → Prop} {a : Act} {W : World} (h : ∀ w, Hid (w = W) → c.wp P Q a w) : c.wp P Q a W := h W (Lib.hid rfl)
theorem namedC {P : Program} {f : FuncId} {args : Array Value} {Q : Ending → World → Prop} {W : World} (h : ∀ w, Hid (w = W) → Calls P f args w Q) : Calls P f args W Q := h W (Lib.hid rfl)

/-! ### what a region that draws its order keeps: the caller's memory, a row of the call's own, and the blocks from lo on -/
section
variable {w w1 wc w' : World} {lo e sz n : Nat} {v : Value} {xs : List Value}
theorem held_call (h : Below w.heap.size w wc ∧ wc.ownsRow w.heap.size e sz v n xs ∧ w1.heap.size ≤ wc.heap.size ∧ (∀ b o, lo ≤ b → b < w1.heap.size → wc.cell? ⟨b, o, none⟩ = w1.cell? ⟨b, o, none⟩)) (hb : Below wc.heap.size wc w') :
    Below w.heap.size w w' ∧ w'.ownsRow w.heap.size e sz v n xs ∧ w1.heap.size ≤ w'.heap.size ∧ (∀ b o, lo ≤ b → b < w1.heap.size → w'.cell? ⟨b, o, none⟩ = w1.cell? ⟨b, o, none⟩) := by
  obtain ⟨h1, h2, h3, h4⟩ := h
  exact ⟨h1.trans (hb.mono h1.size), own_next h2 hb, Nat.le_trans h3 hb.size, fun b o hl hlt => (hb.cell (p := ⟨b, o, none⟩) (Nat.lt_of_lt_of_le hlt h3)).trans (h4 b o hl hlt)⟩
theorem held_callR {R : Prop} (h : (Below w.heap.size w wc ∧ wc.ownsRow w.heap.size e sz v n xs ∧ w1.heap.size ≤ wc.heap.size ∧ (∀ b o, lo ≤ b → b < w1.heap.size → wc.cell? ⟨b, o, none⟩ = w1.cell? ⟨b, o, none⟩)) ∧ R) (hb : Below wc.heap.size wc w') :
    Below w.heap.size w w' ∧ w'.ownsRow w.heap.size e sz v n xs ∧ w1.heap.size ≤ w'.heap.size ∧ (∀ b o, lo ≤ b → b < w1.heap.size → w'.cell? ⟨b, o, none⟩ = w1.cell? ⟨b, o, none⟩) := held_call h.1 hb
theorem held_drew (h1 : Below w.heap.size w w1) (h2 : w1.ownsRow w.heap.size e sz v n xs) (lo : Nat) :
    Below w.heap.size w w1.drew ∧ w1.drew.ownsRow w.heap.size e sz v n xs ∧ w1.heap.size ≤ w1.drew.heap.size ∧ (∀ b o, lo ≤ b → b < w1.heap.size → w1.drew.cell? ⟨b, o, none⟩ = w1.cell? ⟨b, o, none⟩) :=
  ⟨h1.drew, h2, Nat.le_refl _, fun _ _ _ _ => rfl⟩
theorem held_alloc (h : Below w.heap.size w wc ∧ wc.ownsRow w.heap.size e sz v n xs ∧ w1.heap.size ≤ wc.heap.size ∧ (∀ b o, lo ≤ b → b < w1.heap.size → wc.cell? ⟨b, o, none⟩ = w1.cell? ⟨b, o, none⟩)) (o : Obj) :
    Below w.heap.size w (wc.alloc o) ∧ (wc.alloc o).ownsRow w.heap.size e sz v n xs ∧ w1.heap.size ≤ (wc.alloc o).heap.size ∧ (∀ b o', lo ≤ b → b < w1.heap.size → (wc.alloc o).cell? ⟨b, o', none⟩ = w1.cell? ⟨b, o', none⟩) :=
  held_call h ((Below.refl _ _).alloc (Nat.le_refl _) o)
theorem held_push {o : Obj} {row : Option Nat} (h : Below w.heap.size w wc ∧ wc.ownsRow w.heap.size e sz v n xs ∧ w1.heap.size ≤ wc.heap.size ∧ (∀ b o, lo ≤ b → b < w1.heap.size → wc.cell? ⟨b, o, none⟩ = w1.cell? ⟨b, o, none⟩))
    (hg : (wc.alloc o).grownBy w' row) (hold : w'.ownsRow w.heap.size e sz v n xs) (hr : ∀ k, row = some k → w.heap.size ≤ k ∧ k < lo) :
    Below w.heap.size w w' ∧ w'.ownsRow w.heap.size e sz v n xs ∧ w1.heap.size ≤ w'.heap.size ∧ (∀ b o, lo ≤ b → b < w1.heap.size → w'.cell? ⟨b, o, none⟩ = w1.cell? ⟨b, o, none⟩) := by
  obtain ⟨h1, h2, h3, h4⟩ := held_alloc h o
  refine ⟨h1.grown hg h1.size (fun k hk => (hr k hk).1), hold, Nat.le_trans h3 hg.size, fun b o' hl hlt => ?_⟩
  exact (hg.cell_far ⟨b, o', none⟩ (Nat.lt_of_lt_of_le hlt h3) (fun e => by have := (hr b e.symm).2; omega)).trans (h4 b o' hl hlt)
end
end Go.Proofs.YtcpofhjoblgmgaaDoor
