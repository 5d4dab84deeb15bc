
/-
  Tables of rows of any length: as they are read, and as a call owns them.
-/
import Derived.Test.YtcpofhjoblgmgaaDoorFrame
import Derived.Test.YtcpofhjoblgmgaaDoorMarkI
namespace Go.Proofs.YtcpofhjoblgmgaaDoor
open Go.RowKit

theorem cell_lt {w : World} {p : Addr} {v : Value} (h : w.cell? p = some v) : p.block < w.heap.size := by
  rcases Nat.lt_or_ge p.block w.heap.size with hlt | hge
  · exact hlt
  · unfold World.cell? at h
    rw [Array.getElem?_eq_none hge] at h
    cases h
/-- a row's slice -/
structure RowH where
  A : Option Addr
  n : Nat
  c : Nat
  deriving Inhabited
def encR (h : RowH) : List Value := [.slice h.A h.n h.c]
/-- a table that reads as a list of lists -/
structure RdT {α : Type} (w : World) (B : Nat) (A : Option Addr) (n : Nat) (enc : α → List Value) (hs : List RowH) (xss : List (List α)) : Prop where
  hd : Rd w B A n 1 encR hs
  lx : xss.length = n
  r : ∀ (i : Nat) (h : RowH) (x : List α), hs[i]? = some h → xss[i]? = some x → Rd w B h.A h.n 1 enc x
section
variable {α : Type} {w w' : World} {B B' n : Nat} {A : Option Addr} {enc : α → List Value} {hs : List RowH} {xss : List (List α)}
theorem RdT.len (h : RdT w B A n enc hs xss) : xss.length = n := h.lx
theorem RdT.at_ (h : RdT w B A n enc hs xss) {k : Nat} (hk : k < n) : ∃ b o q x, A = some ⟨b, o, none⟩ ∧ b < B ∧ hs[k]? = some q ∧ xss[k]? = some x ∧ w.cell? ⟨b, o + k, none⟩ = some (.slice q.A q.n q.c) ∧ Rd w B q.A q.n 1 enc x := by
  obtain ⟨b, o, hA, hb, q, hq, hc⟩ := h.hd.at_ hk
  have hx : xss[k]? = some (xss[k]'(by rw [h.lx]; exact hk)) := List.getElem?_eq_getElem _
  exact ⟨b, o, q, _, hA, hb, hq, hx, by simpa using hc 0 _ rfl, h.r k q _ hq hx⟩
theorem RdT.below (h : RdT w B A n enc hs xss) (hb : Below B w w') : RdT w' B A n enc hs xss := ⟨h.hd.below hb, h.lx, fun i q x h1 h2 => (h.r i q x h1 h2).below hb⟩
theorem RdT.more (h : RdT w B A n enc hs xss) (hB : B ≤ B') : RdT w B' A n enc hs xss := ⟨h.hd.more hB, h.lx, fun i q x h1 h2 => (h.r i q x h1 h2).more hB⟩
theorem RdT.next (h : RdT w w.heap.size A n enc hs xss) (hb : Below w.heap.size w w') : RdT w' w'.heap.size A n enc hs xss := (h.below hb).more hb.size
end
/-- a table that a call owns: its head is a row of the call's own, its rows are too, and lie apart -/
structure TabR {α : Type} (EH E : TypeId) (enc : α → List Value) (w : World) (base : Nat) (A : Option Addr) (n c : Nat) (hs : List RowH) (xss : List (List α)) : Prop where
  o : w.ownsRow base EH 1 (.slice A n c) n (hs.flatMap encR)
  lg : hs.length = n
  lx : xss.length = n
  r : ∀ (i : Nat) (h : RowH) (x : List α), hs[i]? = some h → xss[i]? = some x → x.length = h.n ∧ w.ownsRow base E 1 (.slice h.A h.n h.c) h.n (x.flatMap enc)
  d : ∀ (i j : Nat) (h h' : RowH) (g : Nat), hs[i]? = some h → hs[j]? = some h' → (Value.slice h.A h.n h.c).ownBlock = some g → (Value.slice h'.A h'.n h'.c).ownBlock = some g → i = j
section
variable {α : Type} {EH E : TypeId} {w w' w1 : World} {base n c : Nat} {A : Option Addr} {enc : α → List Value} {hs : List RowH} {xss : List (List α)}
theorem TabR.nil (w : World) (base : Nat) : TabR (α := α) EH E enc w base none 0 0 [] [] := ⟨World.ownsRow_nil _ _ _ _, rfl, rfl, fun i h x h1 => by simp at h1, fun i j h h' g h1 => by simp at h1⟩
theorem TabR.next (h : TabR EH E enc w base A n c hs xss) (hb : Below w.heap.size w w') : TabR EH E enc w' base A n c hs xss :=
  ⟨own_next h.o hb, h.lg, h.lx, fun i q x h1 h2 => ⟨(h.r i q x h1 h2).1, own_next (h.r i q x h1 h2).2 hb⟩, h.d⟩
theorem TabR.alloc (h : TabR EH E enc w base A n c hs xss) (o : Obj) : TabR EH E enc (w.alloc o) base A n c hs xss := h.next ((Below.refl _ _).alloc (Nat.le_refl _) o)
theorem TabR.mono {base' : Nat} (h : TabR EH E enc w base A n c hs xss) (hb : base' ≤ base) : TabR EH E enc w base' A n c hs xss :=
  ⟨h.o.mono hb, h.lg, h.lx, fun i q x h1 h2 => ⟨(h.r i q x h1 h2).1, (h.r i q x h1 h2).2.mono hb⟩, h.d⟩
/-- what writes a row that the table has no part in -/
theorem TabR.kept {row : Option Nat} (h : TabR EH E enc w base A n c hs xss) (hg : w.grownBy w' row) (h1 : (Value.slice A n c).ownBlock = none ∨ (Value.slice A n c).ownBlock ≠ row)
    (h2 : ∀ (i : Nat) (q : RowH), hs[i]? = some q → (Value.slice q.A q.n q.c).ownBlock = none ∨ (Value.slice q.A q.n q.c).ownBlock ≠ row) : TabR EH E enc w' base A n c hs xss :=
  ⟨h.o.kept hg h1, h.lg, h.lx, fun i q x h3 h4 => ⟨(h.r i q x h3 h4).1, (h.r i q x h3 h4).2.kept hg (h2 i q h3)⟩, h.d⟩
theorem TabR.keptN {b2 e2 s2 n2 : Nat} {v2 : Value} {xs2 : List Value} (h : TabR EH E enc w base A n c hs xss) (ho : w.ownsRow b2 e2 s2 v2 n2 xs2) (hg : w.grownBy w' v2.ownBlock) (ht : EH ≠ e2) (ht2 : E ≠ e2) : TabR EH E enc w' base A n c hs xss :=
  ⟨h.o.kept hg (own_ne h.o ho ht), h.lg, h.lx, fun i q x h3 h4 => ⟨(h.r i q x h3 h4).1, (h.r i q x h3 h4).2.kept hg (own_ne (h.r i q x h3 h4).2 ho ht2)⟩, h.d⟩
theorem TabR.keptB {g : Nat} {t : TypeId} {cs : Array Value} (h : TabR EH E enc w base A n c hs xss) (hB : Blk w g t cs) (hg : w.grownBy w' (some g)) (ht : EH ≠ t) (ht2 : E ≠ t) : TabR EH E enc w' base A n c hs xss :=
  h.kept hg (by
    have := own_blk_ne h.o hB ht
    cases hv : (Value.slice A n c).ownBlock with
    | none => exact .inl rfl
    | some k => exact .inr fun e => this (by rw [hv, e])) (fun i q hq => by
    have hx : xss[i]? = some (xss[i]'(by rw [h.lx, ← h.lg]; exact (List.getElem?_eq_some_iff.1 hq).1)) := List.getElem?_eq_getElem _
    have := own_blk_ne (h.r i q _ hq hx).2 hB ht2
    cases hv : (Value.slice q.A q.n q.c).ownBlock with
    | none => exact .inl rfl
    | some k => exact .inr fun e => this (by rw [hv, e]))
theorem TabR.rd (h : TabR EH E enc w base A n c hs xss) (h1 : ∀ x, (enc x).length = 1) : RdT w w.heap.size A n enc hs xss :=
  ⟨Rd.of_own (fun _ _ => rfl) h.lg h.o, h.lx, fun i q x h2 h3 => Rd.of_own (fun x _ => h1 x) (h.r i q x h2 h3).1 (h.r i q x h2 h3).2⟩
/-- one row more at the end of the table -/
theorem TabR.push {A' : Option Addr} {c' : Nat} {q : RowH} {x : List α} (hE : EH ≠ E) (h : TabR EH E enc w base A n c hs xss) (hq : w.ownsRow base E 1 (.slice q.A q.n q.c) q.n (x.flatMap enc)) (hxl : x.length = q.n)
    (hfar : ∀ (i : Nat) (p : RowH) (g : Nat), hs[i]? = some p → (Value.slice p.A p.n p.c).ownBlock = some g → (Value.slice q.A q.n q.c).ownBlock ≠ some g)
    (ho : w'.ownsRow base EH 1 (.slice A' (n + 1) c') (n + 1) ((hs ++ [q]).flatMap encR)) (hg : w.grownBy w' (Value.slice A n c).ownBlock) : TabR EH E enc w' base A' (n + 1) c' (hs ++ [q]) (xss ++ [x]) := by
  have lg := h.lg
  have lx := h.lx
  have at1 : ∀ (i : Nat) (p : RowH), (hs ++ [q])[i]? = some p → (i < n ∧ hs[i]? = some p) ∨ (i = n ∧ p = q) := fun i p hi => by
    have hl := (List.getElem?_eq_some_iff.1 hi).1
    rw [List.length_append, List.length_singleton, lg] at hl
    by_cases hn : i < n
    · rw [List.getElem?_append_left (by omega)] at hi
      exact .inl ⟨hn, hi⟩
    · obtain rfl : i = n := by omega
      rw [List.getElem?_append_right (by omega), lg, Nat.sub_self] at hi
      injection hi with hi
      exact .inr ⟨rfl, hi.symm⟩
  refine ⟨ho, by rw [List.length_append, List.length_singleton, lg], by rw [List.length_append, List.length_singleton, lx], fun i p y hi hy => ?_, fun i j p p' g hi hj h1 h2 => ?_⟩
  · rcases at1 i p hi with ⟨hn, hp⟩ | ⟨rfl, rfl⟩
    · rw [List.getElem?_append_left (by omega)] at hy
      have := h.r i p y hp hy
      exact ⟨this.1, this.2.kept hg (own_ne this.2 h.o (Ne.symm hE))⟩
    · rw [List.getElem?_append_right (by omega), lx, Nat.sub_self] at hy
      injection hy with hy
      subst hy
      exact ⟨hxl, hq.kept hg (own_ne hq h.o (Ne.symm hE))⟩
  · rcases at1 i p hi with ⟨hn, hp⟩ | ⟨rfl, rfl⟩ <;> rcases at1 j p' hj with ⟨hm, hp'⟩ | ⟨rfl, rfl⟩
    · exact h.d i j p p' g hp hp' h1 h2
    · exact absurd h2 (hfar i p g hp h1)
    · exact absurd h1 (hfar j p' g hp' h2)
    · rfl
/-- a row that was made later lies apart -/
theorem TabR.fresh {q : RowH} (h : TabR EH E enc w base A n c hs xss) {x : List Value} {b0 : Nat} (hq : w1.ownsRow b0 E 1 (.slice q.A q.n q.c) q.n x) (hb : w.heap.size ≤ b0) :
    ∀ (i : Nat) (p : RowH) (g : Nat), hs[i]? = some p → (Value.slice p.A p.n p.c).ownBlock = some g → (Value.slice q.A q.n q.c).ownBlock ≠ some g := fun i p g hp h1 h2 => by
  have hx : xss[i]? = some (xss[i]'(by rw [h.lx, ← h.lg]; exact (List.getElem?_eq_some_iff.1 hp).1)) := List.getElem?_eq_getElem _
  have l1 := ((h.r i p _ hp hx).2.lt g h1).2
  have l2 := (hq.lt g h2).1
  omega
end
end Go.Proofs.YtcpofhjoblgmgaaDoor
