/-
  A grammar trimmed: the rules that are left, written down.
-/
import Derived.Test.YtikhjoianbndhaaTrimM
import Derived.Test.YtikhjoianbndhaaRuleK
import Derived.Test.YtikhjoianbndhaaMarkI
namespace Go.Proofs.Ytikhjoianbndhaa
open Go.RowKit

theorem info_bool : (Try.prog.info? 4).map (fun i => (i.zero, i.size, i.bytes)) = some (some (.bool false), 1, 1) := by kernel_rfl
def boolA (u : List Bool) : Array Value := (u.map Value.bool).toArray
theorem boolA_made (n : Nat) : madeCells (Value.bool false).cells (n * 1) = boolA (List.replicate n false) := by
  apply Array.ext
  · simp [size_madeCells, boolA]
  · intro i h1 h2
    simp [madeCells, Value.cells, boolA, Nat.mod_one]
theorem boolA_set (u : List Bool) (i : Nat) (b : Bool) : (boolA u).setIfInBounds i (.bool b) = boolA (u.set i b) := by
  unfold boolA
  apply Array.ext'
  simp [List.map_set]
theorem boolA_at (u : List Bool) {i : Nat} (h : i < u.length) : (boolA u)[i]? = some (.bool (u.getD i false)) := by
  simp [boolA, List.getD_eq_getElem?_getD, List.getElem?_eq_getElem h]
theorem makeB (n : Nat) (W : World) (hn : n ≤ 1048576) : (Instr.makeSlice 102 (.int .i64 (n : Int)) (.int .i64 (n : Int))).run Try.prog W = .ok (.slice (some ⟨W.heap.size, 0, none⟩) n n) (W.alloc (.cells (boolA (List.replicate n false)) 4)) := by
  obtain ⟨i0, hi, hz0, hz1, hz2⟩ := info_parts info_bool
  have hmk := run_make_rowN (P := Try.prog) 102 4 i0 _ Try.underlying102 hi hz0 .i64 .i64 n n (Nat.le_refl _) (by rw [hz2]; omega) (by omega) W
  rw [hz1, boolA_made] at hmk
  exact hmk
def intA (u : List Int) : Array Value := (u.map (Value.int .i64)).toArray
theorem intA_made (n : Nat) : madeCells (Value.int .i64 0).cells (n * 1) = intA (List.replicate n 0) := by
  apply Array.ext
  · simp [size_madeCells, intA]
  · intro i h1 h2
    simp [madeCells, Value.cells, intA, Nat.mod_one]
theorem intA_set (u : List Int) (i : Nat) (b : Int) : (intA u).setIfInBounds i (.int .i64 b) = intA (u.set i b) := by
  unfold intA
  apply Array.ext'
  simp [List.map_set]
theorem intA_at (u : List Int) {i : Nat} (h : i < u.length) : (intA u)[i]? = some (.int .i64 (u.getD i 0)) := by
  simp [intA, List.getD_eq_getElem?_getD, List.getElem?_eq_getElem h]
theorem info_i64' : (Try.prog.info? 2).map (fun i => (i.zero, i.size, i.bytes)) = some (some (.int .i64 0), 1, 8) := by kernel_rfl
theorem makeN (n : Nat) (W : World) (hn : n ≤ 1048576) : (Instr.makeSlice 37 (.int .i64 (n : Int)) (.int .i64 (n : Int))).run Try.prog W = .ok (.slice (some ⟨W.heap.size, 0, none⟩) n n) (W.alloc (.cells (intA (List.replicate n 0)) 2)) := by
  obtain ⟨i0, hi, hz0, hz1, hz2⟩ := info_parts info_i64'
  have hmk := run_make_rowN (P := Try.prog) 37 2 i0 _ Try.underlying37 hi hz0 .i64 .i64 n n (Nat.le_refl _) (by rw [hz2]; omega) (by omega) W
  rw [hz1, intA_made] at hmk
  exact hmk
theorem news1 {W : World} {g : Nat} {t : TypeId} {y : Fac} (h : Blk W g t #[.string y.l, .int .i64 y.a, .int .i64 y.b]) : ∀ j u, ([y].flatMap Fac.cells)[j]? = some u → W.cell? ((⟨g, 0, none⟩ : Addr).add j) = some u := by
  intro j u hj
  have e : ((⟨g, 0, none⟩ : Addr).add j) = ⟨g, j, none⟩ := by
    simp only [Addr.add, Nat.zero_add]
    by_cases h0 : j = 0
    · subst h0; rfl
    · simp [h0]
  rw [e, h.cell j]
  simpa [Fac.cells] using hj
/-- the last round of 'trimmed' under way -/
structure OutW (O : Nat) (w W : World) (A4 : Option Addr) (c4 k : Nat) (kept : List Fac) (X U : Nat) (u : List Bool) (V : Nat) (at_ : List Int) (B : Nat) (A7 : Option Addr) (nn c7 : Nat) (out : List Fac) : Prop where
  r : W.ownsRow w.heap.size 44 3 (.slice A4 k c4) k (kept.flatMap Fac.cells)
  u : Blk W U 4 (boolA u)
  v : Blk W V 2 (intA at_)
  b : Blk W B 24 #[.slice A7 nn c7]
  o : Blk W O 24 #[.slice none 0 0]
  q : W.ownsRow X 44 3 (.slice A7 nn c7) nn (out.flatMap Fac.cells)
  e : Below w.heap.size w W
  n0 : w.heap.size ≤ O
  n1 : O < B
  n2 : B < X
  n3 : w.heap.size ≤ U
  n4 : w.heap.size ≤ V
  n5 : X ≤ W.heap.size
  n6 : ∀ q, (Value.slice A4 k c4).ownBlock = some q → q < X
section
variable {O : Nat} {w W W' : World} {A4 : Option Addr} {c4 k : Nat} {kept : List Fac} {X U : Nat} {u : List Bool} {V : Nat} {at_ : List Int} {B : Nat} {A7 : Option Addr} {nn c7 : Nat} {out : List Fac}
theorem OutW.next (h : OutW O w W A4 c4 k kept X U u V at_ B A7 nn c7 out) (hb : Below W.heap.size W W') : OutW O w W' A4 c4 k kept X U u V at_ B A7 nn c7 out :=
  ⟨own_next h.r hb, h.u.next hb, h.v.next hb, h.b.next hb, h.o.next hb, own_next h.q hb, h.e.trans (hb.mono h.e.size), h.n0, h.n1, h.n2, h.n3, h.n4, Nat.le_trans h.n5 hb.size, h.n6⟩
theorem OutW.alloc (h : OutW O w W A4 c4 k kept X U u V at_ B A7 nn c7 out) (o : Obj) : OutW O w (W.alloc o) A4 c4 k kept X U u V at_ B A7 nn c7 out := h.next ((Below.refl _ _).alloc (Nat.le_refl _) _)
theorem OutW.drew (h : OutW O w W A4 c4 k kept X U u V at_ B A7 nn c7 out) : OutW O w W.drew A4 c4 k kept X U u V at_ B A7 nn c7 out := h.next (Below.refl _ _).drew
/-- the cells of a block made later put -/
theorem OutW.far {Z : Nat} (h : OutW O w W A4 c4 k kept X U u V at_ B A7 nn c7 out) (hg : W.grownBy W' (some Z)) (h1 : some Z ≠ (Value.slice A4 k c4).ownBlock) (h2 : some Z ≠ (Value.slice A7 nn c7).ownBlock) (h3 : Z ≠ U) (h4 : Z ≠ V) (h5 : Z ≠ B) (h6 : O < Z) :
    OutW O w W' A4 c4 k kept X U u V at_ B A7 nn c7 out := by
  have t : ∀ g : Nat, Z ≠ g → some g ≠ some Z := fun g hne e => hne (by injection e with e; exact e.symm)
  exact ⟨h.r.kept hg (.inr fun e => h1 e.symm), h.u.grown hg (t _ h3), h.v.grown hg (t _ h4), h.b.grown hg (t _ h5), h.o.grown hg (t _ (by omega)), h.q.kept hg (.inr fun e => h2 e.symm),
    h.e.grown hg h.e.size (fun q hq => by injection hq with hq; have := h.n0; omega), h.n0, h.n1, h.n2, h.n3, h.n4, Nat.le_trans h.n5 hg.size, h.n6⟩
/-- a number told -/
theorem OutW.tell (h : OutW O w W A4 c4 k kept X U u V at_ B A7 nn c7 out) (i : Nat) (z : Int) : OutW O w (W.setCell ⟨V, i, none⟩ (.int .i64 z)) A4 c4 k kept X U u V (at_.set i z) B A7 nn c7 out := by
  have hg := gb_set W V i (.int .i64 z)
  have nt : ∀ {g : Nat} {t : TypeId} {cs : Array Value}, Blk W g t cs → t ≠ 2 → some g ≠ some V := fun hB hne e => by
    injection e with e; subst e
    have := hB.symm.trans h.v
    injection this with this; injection this with _ this; exact hne this
  refine ⟨h.r.kept hg (.inr fun e => own_blk_ne h.r h.v (by decide) e.symm), h.u.grown hg (nt h.u (by decide)), ?_, h.b.grown hg (nt h.b (by decide)), h.o.grown hg (nt h.o (by decide)), h.q.kept hg (.inr fun e => own_blk_ne h.q h.v (by decide) e.symm),
    h.e.grown hg h.e.size (fun q hq => by injection hq with hq; have := h.n4; omega), h.n0, h.n1, h.n2, h.n3, h.n4, Nat.le_trans h.n5 hg.size, h.n6⟩
  have := h.v.set_ i (.int .i64 z)
  rw [intA_set] at this; exact this
/-- one rule more, told to the box as well -/
theorem OutW.push {A8 : Option Addr} {k8 c8 : Nat} {out' : List Fac} (h : OutW O w W A4 c4 k kept X U u V at_ B A7 nn c7 out) (hq : W'.ownsRow X 44 3 (.slice A8 k8 c8) k8 (out'.flatMap Fac.cells)) (hg : W.grownBy W' (Value.slice A7 nn c7).ownBlock) :
    OutW O w (W'.setCell ⟨B, 0, none⟩ (.slice A8 k8 c8)) A4 c4 k kept X U u V at_ B A8 k8 c8 out' := by
  have hb' : Blk W' B 24 #[.slice A7 nn c7] := h.b.grown hg (own_blk_ne h.q h.b (by decide))
  have hu' := h.u.grown hg (own_blk_ne h.q h.u (by decide))
  have hv' := h.v.grown hg (own_blk_ne h.q h.v (by decide))
  have ho' := h.o.grown hg (own_blk_ne h.q h.o (by decide))
  have hr' : W'.ownsRow w.heap.size 44 3 (.slice A4 k c4) k (kept.flatMap Fac.cells) := h.r.kept hg (by
    cases hv : (Value.slice A4 k c4).ownBlock with
    | none => exact .inl rfl
    | some q => exact .inr fun e => by have h1 := h.n6 q hv; have h2 := own_ge h.q q e.symm; omega)
  have he' := h.e.grown hg h.e.size (fun q hq' => by have := own_ge h.q q hq'; have := h.n0; have := h.n2; have := h.n1; omega)
  have hg2 := gb_set W' B 0 (.slice A8 k8 c8)
  have nt : ∀ {g : Nat} {t : TypeId} {cs : Array Value}, Blk W' g t cs → t ≠ 24 → some g ≠ some B := fun hB hne e => by
    injection e with e; subst e
    have := hB.symm.trans hb'
    injection this with this; injection this with _ this; exact hne this
  refine ⟨hr'.kept hg2 (.inr fun e => own_blk_ne hr' hb' (by decide) e.symm), hu'.grown hg2 (nt hu' (by decide)), hv'.grown hg2 (nt hv' (by decide)), ?_, ho'.grown hg2 (by intro e; injection e with e; have := h.n0; have := h.n1; omega), hq.kept hg2 (.inr fun e => own_blk_ne hq hb' (by decide) e.symm),
    he'.grown hg2 he'.size (fun q hq => by injection hq with hq; have := h.n0; have := h.n1; omega), h.n0, h.n1, h.n2, h.n3, h.n4, Nat.le_trans (Nat.le_trans h.n5 hg.size) hg2.size, h.n6⟩
  exact hb'.set_ 0 _
end
end Go.Proofs.Ytikhjoianbndhaa
