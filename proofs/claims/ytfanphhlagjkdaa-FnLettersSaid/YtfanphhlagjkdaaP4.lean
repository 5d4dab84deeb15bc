/-
  Texts of this claim, merged: TrimO TrimI TrimS Trim OrLim MapD WdM WdN Tail Stage Stage3 PlainI LvM LvW.
-/
import Derived.Test.YtfanphhlagjkdaaP3
import Derived.Deep.RegionHeld3
import Derived.Deep.RegionWith
import Derived.Deep.DeepCutAuto
import Derived.Deep.CutBlock
import Derived.StillTail
import Derived.OrdersHeld
import Derived.Deep.RegionHeld
import Derived.Lib.Bytealg
import Derived.Deep.RegionLaw


/-
  A grammar trimmed: the rules that are left, written down.
-/
namespace Go.Proofs.Ytfanphhlagjkdaa
open Go.RowKit

theorem info_bool : (Try.prog.info? 4).map (fun i => (i.zero, i.size, i.bytes)) = some (some (.bool false), 1, 1) := by kernel_rfl
def boolA (u : List Bool) : Array Value := (u.map Value.bool).toArray
theorem boolA_made (n : Nat) : madeCells (Value.bool false).cells (n * 1) = boolA (List.replicate n false) := by
  apply Array.ext
  · simp [size_madeCells, boolA]
  · intro i h1 h2
    simp [madeCells, Value.cells, boolA, Nat.mod_one]
theorem boolA_set (u : List Bool) (i : Nat) (b : Bool) : (boolA u).setIfInBounds i (.bool b) = boolA (u.set i b) := by
  unfold boolA
  apply Array.ext'
  simp [List.map_set]
theorem boolA_at (u : List Bool) {i : Nat} (h : i < u.length) : (boolA u)[i]? = some (.bool (u.getD i false)) := by
  simp [boolA, List.getD_eq_getElem?_getD, List.getElem?_eq_getElem h]
theorem makeB (n : Nat) (W : World) (hn : n ≤ 1048576) : (Instr.makeSlice 109 (.int .i64 (n : Int)) (.int .i64 (n : Int))).run Try.prog W = .ok (.slice (some ⟨W.heap.size, 0, none⟩) n n) (W.alloc (.cells (boolA (List.replicate n false)) 4)) := by
  obtain ⟨i0, hi, hz0, hz1, hz2⟩ := info_parts info_bool
  have hmk := run_make_rowN (P := Try.prog) 109 4 i0 _ Try.underlying109 hi hz0 .i64 .i64 n n (Nat.le_refl _) (by rw [hz2]; omega) (by omega) W
  rw [hz1, boolA_made] at hmk
  exact hmk
def intA (u : List Int) : Array Value := (u.map (Value.int .i64)).toArray
theorem intA_made (n : Nat) : madeCells (Value.int .i64 0).cells (n * 1) = intA (List.replicate n 0) := by
  apply Array.ext
  · simp [size_madeCells, intA]
  · intro i h1 h2
    simp [madeCells, Value.cells, intA, Nat.mod_one]
theorem intA_set (u : List Int) (i : Nat) (b : Int) : (intA u).setIfInBounds i (.int .i64 b) = intA (u.set i b) := by
  unfold intA
  apply Array.ext'
  simp [List.map_set]
theorem intA_at (u : List Int) {i : Nat} (h : i < u.length) : (intA u)[i]? = some (.int .i64 (u.getD i 0)) := by
  simp [intA, List.getD_eq_getElem?_getD, List.getElem?_eq_getElem h]
theorem info_i64' : (Try.prog.info? 2).map (fun i => (i.zero, i.size, i.bytes)) = some (some (.int .i64 0), 1, 8) := by kernel_rfl
theorem makeN (n : Nat) (W : World) (hn : n ≤ 1048576) : (Instr.makeSlice 43 (.int .i64 (n : Int)) (.int .i64 (n : Int))).run Try.prog W = .ok (.slice (some ⟨W.heap.size, 0, none⟩) n n) (W.alloc (.cells (intA (List.replicate n 0)) 2)) := by
  obtain ⟨i0, hi, hz0, hz1, hz2⟩ := info_parts info_i64'
  have hmk := run_make_rowN (P := Try.prog) 43 2 i0 _ Try.underlying43 hi hz0 .i64 .i64 n n (Nat.le_refl _) (by rw [hz2]; omega) (by omega) W
  rw [hz1, intA_made] at hmk
  exact hmk
theorem news1 {W : World} {g : Nat} {t : TypeId} {y : Fac} (h : Blk W g t #[.string y.l, .int .i64 y.a, .int .i64 y.b]) : ∀ j u, ([y].flatMap Fac.cells)[j]? = some u → W.cell? ((⟨g, 0, none⟩ : Addr).add j) = some u := by
  intro j u hj
  have e : ((⟨g, 0, none⟩ : Addr).add j) = ⟨g, j, none⟩ := by
    simp only [Addr.add, Nat.zero_add]
    by_cases h0 : j = 0
    · subst h0; rfl
    · simp [h0]
  rw [e, h.cell j]
  simpa [Fac.cells] using hj
/-- the last round of 'trimmed' under way -/
structure OutW (O : Nat) (w W : World) (A4 : Option Addr) (c4 k : Nat) (kept : List Fac) (X U : Nat) (u : List Bool) (V : Nat) (at_ : List Int) (B : Nat) (A7 : Option Addr) (nn c7 : Nat) (out : List Fac) : Prop where
  r : W.ownsRow w.heap.size 65 3 (.slice A4 k c4) k (kept.flatMap Fac.cells)
  u : Blk W U 4 (boolA u)
  v : Blk W V 2 (intA at_)
  b : Blk W B 26 #[.slice A7 nn c7]
  o : Blk W O 26 #[.slice none 0 0]
  q : W.ownsRow X 65 3 (.slice A7 nn c7) nn (out.flatMap Fac.cells)
  e : Below w.heap.size w W
  n0 : w.heap.size ≤ O
  n1 : O < B
  n2 : B < X
  n3 : w.heap.size ≤ U
  n4 : w.heap.size ≤ V
  n5 : X ≤ W.heap.size
  n6 : ∀ q, (Value.slice A4 k c4).ownBlock = some q → q < X
section
variable {O : Nat} {w W W' : World} {A4 : Option Addr} {c4 k : Nat} {kept : List Fac} {X U : Nat} {u : List Bool} {V : Nat} {at_ : List Int} {B : Nat} {A7 : Option Addr} {nn c7 : Nat} {out : List Fac}
theorem OutW.next (h : OutW O w W A4 c4 k kept X U u V at_ B A7 nn c7 out) (hb : Below W.heap.size W W') : OutW O w W' A4 c4 k kept X U u V at_ B A7 nn c7 out :=
  ⟨own_next h.r hb, h.u.next hb, h.v.next hb, h.b.next hb, h.o.next hb, own_next h.q hb, h.e.trans (hb.mono h.e.size), h.n0, h.n1, h.n2, h.n3, h.n4, Nat.le_trans h.n5 hb.size, h.n6⟩
theorem OutW.alloc (h : OutW O w W A4 c4 k kept X U u V at_ B A7 nn c7 out) (o : Obj) : OutW O w (W.alloc o) A4 c4 k kept X U u V at_ B A7 nn c7 out := h.next ((Below.refl _ _).alloc (Nat.le_refl _) _)
theorem OutW.drew (h : OutW O w W A4 c4 k kept X U u V at_ B A7 nn c7 out) : OutW O w W.drew A4 c4 k kept X U u V at_ B A7 nn c7 out := h.next (Below.refl _ _).drew
/-- the cells of a block made later put -/
theorem OutW.far {Z : Nat} (h : OutW O w W A4 c4 k kept X U u V at_ B A7 nn c7 out) (hg : W.grownBy W' (some Z)) (h1 : some Z ≠ (Value.slice A4 k c4).ownBlock) (h2 : some Z ≠ (Value.slice A7 nn c7).ownBlock) (h3 : Z ≠ U) (h4 : Z ≠ V) (h5 : Z ≠ B) (h6 : O < Z) :
    OutW O w W' A4 c4 k kept X U u V at_ B A7 nn c7 out := by
  have t : ∀ g : Nat, Z ≠ g → some g ≠ some Z := fun g hne e => hne (by injection e with e; exact e.symm)
  exact ⟨h.r.kept hg (.inr fun e => h1 e.symm), h.u.grown hg (t _ h3), h.v.grown hg (t _ h4), h.b.grown hg (t _ h5), h.o.grown hg (t _ (by omega)), h.q.kept hg (.inr fun e => h2 e.symm),
    h.e.grown hg h.e.size (fun q hq => by injection hq with hq; have := h.n0; omega), h.n0, h.n1, h.n2, h.n3, h.n4, Nat.le_trans h.n5 hg.size, h.n6⟩
/-- a number told -/
theorem OutW.tell (h : OutW O w W A4 c4 k kept X U u V at_ B A7 nn c7 out) (i : Nat) (z : Int) : OutW O w (W.setCell ⟨V, i, none⟩ (.int .i64 z)) A4 c4 k kept X U u V (at_.set i z) B A7 nn c7 out := by
  have hg := gb_set W V i (.int .i64 z)
  have nt : ∀ {g : Nat} {t : TypeId} {cs : Array Value}, Blk W g t cs → t ≠ 2 → some g ≠ some V := fun hB hne e => by
    injection e with e; subst e
    have := hB.symm.trans h.v
    injection this with this; injection this with _ this; exact hne this
  refine ⟨h.r.kept hg (.inr fun e => own_blk_ne h.r h.v (by decide) e.symm), h.u.grown hg (nt h.u (by decide)), ?_, h.b.grown hg (nt h.b (by decide)), h.o.grown hg (nt h.o (by decide)), h.q.kept hg (.inr fun e => own_blk_ne h.q h.v (by decide) e.symm),
    h.e.grown hg h.e.size (fun q hq => by injection hq with hq; have := h.n4; omega), h.n0, h.n1, h.n2, h.n3, h.n4, Nat.le_trans h.n5 hg.size, h.n6⟩
  have := h.v.set_ i (.int .i64 z)
  rw [intA_set] at this; exact this
/-- one rule more, told to the box as well -/
theorem OutW.push {A8 : Option Addr} {k8 c8 : Nat} {out' : List Fac} (h : OutW O w W A4 c4 k kept X U u V at_ B A7 nn c7 out) (hq : W'.ownsRow X 65 3 (.slice A8 k8 c8) k8 (out'.flatMap Fac.cells)) (hg : W.grownBy W' (Value.slice A7 nn c7).ownBlock) :
    OutW O w (W'.setCell ⟨B, 0, none⟩ (.slice A8 k8 c8)) A4 c4 k kept X U u V at_ B A8 k8 c8 out' := by
  have hb' : Blk W' B 26 #[.slice A7 nn c7] := h.b.grown hg (own_blk_ne h.q h.b (by decide))
  have hu' := h.u.grown hg (own_blk_ne h.q h.u (by decide))
  have hv' := h.v.grown hg (own_blk_ne h.q h.v (by decide))
  have ho' := h.o.grown hg (own_blk_ne h.q h.o (by decide))
  have hr' : W'.ownsRow w.heap.size 65 3 (.slice A4 k c4) k (kept.flatMap Fac.cells) := h.r.kept hg (by
    cases hv : (Value.slice A4 k c4).ownBlock with
    | none => exact .inl rfl
    | some q => exact .inr fun e => by have h1 := h.n6 q hv; have h2 := own_ge h.q q e.symm; omega)
  have he' := h.e.grown hg h.e.size (fun q hq' => by have := own_ge h.q q hq'; have := h.n0; have := h.n2; have := h.n1; omega)
  have hg2 := gb_set W' B 0 (.slice A8 k8 c8)
  have nt : ∀ {g : Nat} {t : TypeId} {cs : Array Value}, Blk W' g t cs → t ≠ 26 → some g ≠ some B := fun hB hne e => by
    injection e with e; subst e
    have := hB.symm.trans hb'
    injection this with this; injection this with _ this; exact hne this
  refine ⟨hr'.kept hg2 (.inr fun e => own_blk_ne hr' hb' (by decide) e.symm), hu'.grown hg2 (nt hu' (by decide)), hv'.grown hg2 (nt hv' (by decide)), ?_, ho'.grown hg2 (by intro e; injection e with e; have := h.n0; have := h.n1; omega), hq.kept hg2 (.inr fun e => own_blk_ne hq hb' (by decide) e.symm),
    he'.grown hg2 he'.size (fun q hq => by injection hq with hq; have := h.n0; have := h.n1; omega), h.n0, h.n1, h.n2, h.n3, h.n4, Nat.le_trans (Nat.le_trans h.n5 hg.size) hg2.size, h.n6⟩
  exact hb'.set_ 0 _
end
end Go.Proofs.Ytfanphhlagjkdaa


/-
  A grammar trimmed by the program.
-/
namespace Go.Proofs.Ytfanphhlagjkdaa
open Go.RowKit

theorem pair64_any (a b : Int) (w : World) (ha : -9223372036854775808 ≤ a ∧ a ≤ 9223372036854775807) (hb : -9223372036854775808 ≤ b ∧ b ≤ 9223372036854775807) : Calls Try.prog 32 #[.int .i64 a, .int .i64 b] w (Ret (Fac.val ⟨⟨#[]⟩, a, b⟩) w) := by
  have u1 : IntKind.i64.wrap a = a := IntWalk.i64_in _ (by omega)
  have u2 : IntKind.i64.wrap b = b := IntWalk.i64_in _ (by omega)
  go_enter Try.func32, Try.ntmps32
  go_wp2
  refine bodyPost_ret (v := Fac.val ⟨⟨#[]⟩, a, b⟩) (by simp [results, Try.results32, go_sem, Fac.val]; try rfl) rfl ⟨rfl, ?_⟩
  (repeat first | exact Below.refl _ _ | assumption | refine Below.drew ?_ | refine Below.alloc ?_ (by first | exact Nat.le_refl _ | (simp; done) | omega | (simp; omega)) _ | refine Below.setCell ?_ (by first | exact Nat.le_refl _ | (simp; done) | omega | (simp; omega)) _)
/-- the first round of 'trimmed' under way: what the call has made -/
structure TrW (w W : World) (A : Option Addr) (n c k : Nat) (A4 : Option Addr) (c4 k6 : Nat) (A6 : Option Addr) (c6 : Nat) (kept : List Fac) (same : List Int) (m : List (Fac × Value)) : Prop where
  r : W.ownsRow w.heap.size 65 3 (.slice A4 k c4) k (kept.flatMap Fac.cells)
  s : W.ownsRow w.heap.size 2 1 (.slice A6 k6 c6) k6 (same.flatMap intE)
  m : MapIs W (w.heap.size + 3) Fac.val m
  g : Blk W w.heap.size 26 #[.slice A n c]
  o : Blk W (w.heap.size + 1) 26 #[.slice none 0 0]
  e : Below w.heap.size w W
section
variable {w W W' : World} {A : Option Addr} {n c k k6 : Nat} {A4 : Option Addr} {c4 : Nat} {A6 : Option Addr} {c6 : Nat} {kept : List Fac} {same : List Int} {m : List (Fac × Value)}
theorem TrW.next (h : TrW w W A n c k A4 c4 k6 A6 c6 kept same m) (hb : Below W.heap.size W W') : TrW w W' A n c k A4 c4 k6 A6 c6 kept same m :=
  ⟨own_next h.r hb, own_next h.s hb, h.m.next hb, h.g.next hb, h.o.next hb, h.e.trans (hb.mono h.e.size)⟩
theorem TrW.alloc (h : TrW w W A n c k A4 c4 k6 A6 c6 kept same m) (o : Obj) : TrW w (W.alloc o) A n c k A4 c4 k6 A6 c6 kept same m := h.next ((Below.refl _ _).alloc (Nat.le_refl _) _)
theorem TrW.drew (h : TrW w W A n c k A4 c4 k6 A6 c6 kept same m) : TrW w W.drew A n c k A4 c4 k6 A6 c6 kept same m := h.next (Below.refl _ _).drew
/-- all that the call has made so far lies below a block that it makes next -/
theorem TrW.bnd (h : TrW w W A n c k A4 c4 k6 A6 c6 kept same m) : (∀ q, (Value.slice A4 k c4).ownBlock = some q → q < W.heap.size) ∧ (∀ q, (Value.slice A6 k6 c6).ownBlock = some q → q < W.heap.size) ∧ w.heap.size + 3 < W.heap.size :=
  ⟨fun q hq => (h.r.lt q hq).2, fun q hq => (h.s.lt q hq).2, h.m.lt⟩
/-- an entry put into the map -/
theorem TrW.put {m' : List (Fac × Value)} (h : TrW w W A n c k A4 c4 k6 A6 c6 kept same m) (hm : MapIs W' (w.heap.size + 3) Fac.val m') (hg : W.grownBy W' (some (w.heap.size + 3))) (hb : Below w.heap.size w W') : TrW w W' A n c k A4 c4 k6 A6 c6 kept same m' :=
  have ne : ∀ {e sz n : Nat} {v : Value} {xs : List Value}, W.ownsRow w.heap.size e sz v n xs → v.ownBlock = none ∨ v.ownBlock ≠ some (w.heap.size + 3) := fun ho => by
    have := h.m.ne_own ho
    exact .inr fun e => this e.symm
  ⟨h.r.kept hg (ne h.r), h.s.kept hg (ne h.s), hm, h.g.grown hg (by intro e; injection e with e; omega), h.o.grown hg (by intro e; injection e with e; omega), hb⟩
/-- one rule more -/
theorem TrW.pushR {A8 : Option Addr} {k8 c8 : Nat} {kept' : List Fac} (h : TrW w W A n c k A4 c4 k6 A6 c6 kept same m) (ho : W'.ownsRow w.heap.size 65 3 (.slice A8 k8 c8) k8 (kept'.flatMap Fac.cells)) (hg : W.grownBy W' (Value.slice A4 k c4).ownBlock) :
    TrW w W' A n c k8 A8 c8 k6 A6 c6 kept' same m :=
  ⟨ho, h.s.kept hg (own_ne h.s h.r (by decide)), h.m.grown hg (h.m.ne_own h.r), h.g.grown hg (own_blk_ne h.r h.g (by decide)), h.o.grown hg (own_blk_ne h.r h.o (by decide)), h.e.grown hg h.e.size (own_ge h.r)⟩
/-- one number more -/
theorem TrW.pushS {A8 : Option Addr} {k8 c8 : Nat} {same' : List Int} (h : TrW w W A n c k A4 c4 k6 A6 c6 kept same m) (ho : W'.ownsRow w.heap.size 2 1 (.slice A8 k8 c8) k8 (same'.flatMap intE)) (hg : W.grownBy W' (Value.slice A6 k6 c6).ownBlock) :
    TrW w W' A n c k A4 c4 k8 A8 c8 kept same' m :=
  ⟨h.r.kept hg (own_ne h.r h.s (by decide)), ho, h.m.grown hg (h.m.ne_own h.s), h.g.grown hg (own_blk_ne h.s h.g (by decide)), h.o.grown hg (own_blk_ne h.s h.o (by decide)), h.e.grown hg h.e.size (own_ge h.s)⟩
/-- three cells of a block of another kind put -/
theorem TrW.box3 {B : Nat} (h : TrW w W A n c k A4 c4 k6 A6 c6 kept same m) (hB : w.heap.size ≤ B) (hb : (∀ q, (Value.slice A4 k c4).ownBlock = some q → q < B) ∧ (∀ q, (Value.slice A6 k6 c6).ownBlock = some q → q < B) ∧ w.heap.size + 3 < B) (x y z : Value) :
    TrW w (((W.setCell ⟨B, 0, none⟩ x).setCell ⟨B, 1, none⟩ y).setCell ⟨B, 2, none⟩ z) A n c k A4 c4 k6 A6 c6 kept same m := by
  obtain ⟨h4, h6, hm⟩ := hb
  have hg : W.grownBy (((W.setCell ⟨B, 0, none⟩ x).setCell ⟨B, 1, none⟩ y).setCell ⟨B, 2, none⟩ z) (some B) := gb_setCell (gb_setCell (gb_set W B 0 x) 1 y) 2 z
  have ne : ∀ (v : Value), (∀ q, v.ownBlock = some q → q < B) → v.ownBlock = none ∨ v.ownBlock ≠ some B := fun v hv => by
    cases hq : v.ownBlock with
    | none => exact .inl rfl
    | some q => exact .inr fun e => by have := hv q hq; injection e with e; omega
  exact ⟨h.r.kept hg (ne _ h4), h.s.kept hg (ne _ h6), h.m.grown hg (by intro e; injection e with e; omega), h.g.grown hg (by intro e; injection e with e; omega), h.o.grown hg (by intro e; injection e with e; omega),
    h.e.grown hg h.e.size (fun q hq => by injection hq with hq; omega)⟩
/-- a cell of a block made later put -/
theorem TrW.set1 {B : Nat} (h : TrW w W A n c k A4 c4 k6 A6 c6 kept same m) (hB : w.heap.size ≤ B) (hb : (∀ q, (Value.slice A4 k c4).ownBlock = some q → q < B) ∧ (∀ q, (Value.slice A6 k6 c6).ownBlock = some q → q < B) ∧ w.heap.size + 3 < B) (i : Nat) (x : Value) :
    TrW w (W.setCell ⟨B, i, none⟩ x) A n c k A4 c4 k6 A6 c6 kept same m := by
  obtain ⟨h4, h6, hm⟩ := hb
  have hg : W.grownBy (W.setCell ⟨B, i, none⟩ x) (some B) := gb_set W B i x
  have ne : ∀ (v : Value), (∀ q, v.ownBlock = some q → q < B) → v.ownBlock = none ∨ v.ownBlock ≠ some B := fun v hv => by
    cases hq : v.ownBlock with
    | none => exact .inl rfl
    | some q => exact .inr fun e => by have := hv q hq; injection e with e; omega
  exact ⟨h.r.kept hg (ne _ h4), h.s.kept hg (ne _ h6), h.m.grown hg (by intro e; injection e with e; omega), h.g.grown hg (by intro e; injection e with e; omega), h.o.grown hg (by intro e; injection e with e; omega),
    h.e.grown hg h.e.size (fun q hq => by injection hq with hq; omega)⟩
end
set_option maxHeartbeats 4000000 in
set_option maxRecDepth 100000 in
theorem trimmed_any (A : Option Addr) (n c : Nat) (rs : List Fac) (w : World) (hn : n ≤ 1048576) (hr : Rd w w.heap.size A n 3 Fac.cells rs) (hwf : WF rs) :
    Calls Try.prog 35 #[.agg #[.slice A n c]] w (RetG w (trimL rs)) := by
  have hl := Lib.hid hr.len
  have HR := Lib.hid hr; clear hr
  have HWF := Lib.hid hwf; clear hwf
  rcases Nat.eq_zero_or_pos n with hn0 | hn0
  · subst hn0
    have ev := Lib.hid (show trimL rs = [] by unfold trimL; rw [if_pos hl.out])
    go_enter Try.func35, Try.ntmps35
    go_wp2_with fail
    refine bodyPost_ret (v := .agg #[.slice none 0 0]) (by simp [results, Try.results35, go_sem]) rfl ⟨none, 0, by rw [ev.out]; rfl, ?_, ?_⟩
    · rw [ev.out]; exact World.ownsRow_nil _ _ _ _
    · (repeat first | exact Below.refl _ _ | assumption | refine Below.drew ?_ | refine Below.alloc ?_ (by first | exact Nat.le_refl _ | (simp; done) | omega | (simp; omega)) _ | refine Below.setCell ?_ (by first | exact Nat.le_refl _ | (simp; done) | omega | (simp; omega)) _)
  have hn0' : ((n : Int) == 0) = false := by simp; omega
  have hmm := @run_makeMap Try.prog
  go_enter Try.func35, Try.ntmps35
  go_wp2_with fail
  refine named fun w0 H0 => ?_
  have T0 : TrW w w0 A n c 0 (some ⟨w.heap.size + 1 + 1, 0, none⟩) 0 0 (some ⟨w.heap.size + 1 + 1 + 1 + 1, 0, none⟩) 0 [] [] [] := by
    rw [H0.out]
    refine ⟨?_, ?_, ?_, ?_, ?_, by (repeat first | exact Below.refl _ _ | assumption | refine Below.drew ?_ | refine Below.alloc ?_ (by first | exact Nat.le_refl _ | (simp; done) | omega | (simp; omega)) _ | refine Below.setCell ?_ (by first | exact Nat.le_refl _ | (simp; done) | omega | (simp; omega)) _)⟩
    · have h := World.ownsRow_made (base := w.heap.size) (e := 65) (size := 3) ((w.alloc (.cells #[.slice A n c] 26)).alloc (.cells #[.slice none 0 0] 26)) #[] 0 (by simp; omega) (by unfold maxLen; omega) rfl
      simpa using (h.alloc _).alloc _
    · have h := World.ownsRow_made (base := w.heap.size) (e := 2) (size := 1) ((((w.alloc (.cells #[.slice A n c] 26)).alloc (.cells #[.slice none 0 0] 26)).alloc (.cells #[] 65)).alloc (.map #[] 0)) #[] 0 (by simp; omega) (by unfold maxLen; omega) rfl
      simpa using h
    · have h := MapIs.made (((w.alloc (.cells #[.slice A n c] 26)).alloc (.cells #[.slice none 0 0] 26)).alloc (.cells #[] 65)) Fac.val
      simpa using h.alloc _
    · exact ((((Blk.new w _ _).alloc _).alloc _).alloc _).alloc _
    · simpa using (((Blk.new (w.alloc _) _ _).alloc _).alloc _).alloc _
  have T0' := Lib.hid T0
  clear T0 H0 hmm hn0'
  have zr := Try.prog
  clear zr
  go_loopw [4, 6, 30] (fun r_ s_ i_ w' => ∃ (k : Nat) (A4 : Option Addr) (c4 : Nat) (A6 : Option Addr) (c6 : Nat) (kept : List Fac) (same : List Int) (m : List (Fac × Value)), i_ = .int .i64 k ∧ r_ = .slice A4 k c4 ∧ s_ = .slice A6 k c6 ∧ k ≤ n ∧ Hid (TrW w w' A n c k A4 c4 k A6 c6 kept same m) ∧
      Hid (∀ f, mget f m = if f ∈ kept then some (.int .i64 ((kept.idxOf f : Nat) : Int)) else none) ∧ Hid (TrI kept same) ∧ Hid (kept.length = k) ∧ Hid (trK (rs.drop k) kept same = trK rs [] [])) (fun _ _ i_ _ => n - (intOf i_).toNat)
  case atStart => exact ⟨0, _, 0, _, 0, [], [], [], rfl, rfl, rfl, by omega, T0', Lib.hid (fun f => rfl), Lib.hid TrI.nil, Lib.hid rfl, Lib.hid rfl⟩
  case round =>
    obtain ⟨k, A4, c4, A6, c6, kept, same, m, rfl, rfl, rfl, hk, TR, HM, HI, hkl, HK⟩ := hrel
    by_cases hlt : k < n
    · obtain ⟨b, o, x, rfl, hB, gx, c0, c1, c2⟩ := (HR.out.below TR.out.e).fac hlt
      have hBr : b < wr.heap.size := by have := TR.out.e.size; omega
      have Hstep := Lib.hid (trK_take rs gx HK.out)
      have HI2 := Lib.hid (HI.out.step HWF.out (by rw [hkl.out]; exact gx))
      have hsl := Lib.hid (HI.out.len.trans hkl.out)
      have Gx := Lib.hid gx
      clear gx
      obtain ⟨pb, hpb⟩ : ∃ pb, isP x = pb := ⟨_, rfl⟩
      have Hpb := Lib.hid hpb; clear hpb
      go_upto_if 36 with (go_at_call 31; refine (isPair_any x pb _ Hpb.out).mono ?_; rintro e w1 ⟨rfl, hb1'⟩)
      have b1 : Below wr.heap.size wr w1 := ((Below.refl wr.heap.size wr).alloc (Nat.le_refl _) _).trans (hb1'.mono (by simp))
      have TR1 := Lib.hid (TR.out.next b1)
      have BX1 := Lib.hid ((Blk.new wr 65 #[.string x.l, .int .i64 x.a, .int .i64 x.b]).next hb1')
      have zb := b1.size
      go_cut [] (fun wx => Hid (TrW w wx (some ⟨b, o, none⟩) n c k A4 c4 k A6 c6 kept same m) ∧ Hid (Blk wx wr.heap.size 65 #[.string (trR same x).l, .int .i64 (trR same x).a, .int .i64 (trR same x).b]))
      case first =>
        rcases HWF.out k x Gx.out with ⟨h0, ha0, ha1, hb0, hb1⟩ | ⟨cc, hcc, hxl, hxa, hxb⟩
        · obtain rfl : true = pb := by rw [← Hpb.out]; simp [isP, h0]
          have Hy := Lib.hid (show trR same x = ⟨⟨#[]⟩, same.getD x.a.toNat 0, same.getD x.b.toNat 0⟩ by unfold trR; rw [if_pos h0])
          have s1 := HI.out.s x.a.toNat (by have := hkl.out; omega)
          have s2 := HI.out.s x.b.toNat (by have := hkl.out; omega)
          obtain ⟨g6, cp6, hv6, hg60, hg61⟩ := TR1.out.s.form (by omega)
          obtain rfl : A6 = some ⟨g6, 0, none⟩ := by injection hv6
          have va : w1.cell? ⟨g6, x.a.toNat, none⟩ = some (.int .i64 (same.getD x.a.toNat 0)) := by
            have := own_at (sz := 1) (enc := intE) (fun _ _ => rfl) TR1.out.s hsl.out 0 x.a.toNat (by omega) 0 (by omega)
            rw [Nat.mul_one, Nat.add_zero] at this; exact this
          have vb : w1.cell? ⟨g6, x.b.toNat, none⟩ = some (.int .i64 (same.getD x.b.toNat 0)) := by
            have := own_at (sz := 1) (enc := intE) (fun _ _ => rfl) TR1.out.s hsl.out 0 x.b.toNat (by omega) 0 (by omega)
            rw [Nat.mul_one, Nat.add_zero] at this; exact this
          generalize same.getD x.a.toNat 0 = sa at *
          generalize same.getD x.b.toNat 0 = sb at *
          obtain ⟨d0, d1, d2⟩ := BX1.out.three
          have lx := BX1.out.lt
          have i1 : x.a < (k : Int) := ha1
          have i2 : x.b < (k : Int) := hb1
          clear hv6
          go_wp2_with fail
          go_region_with
            (first
              | (go_at_call 32
                 refine (pair64_any sa sb w1.drew (by omega) (by omega)).mono ?_
                 rintro e wm ⟨rfl, hbm⟩
                 have bm : Below w1.heap.size w1 wm := (Below.refl _ _).drew.trans hbm
                 have BXm := Lib.hid (BX1.out.next bm)
                 have fm := BXm.out.frozen
                 have lm := BXm.out.lt
                 obtain ⟨m0, m1, m2⟩ := BXm.out.three)
              | fail)
          all_goals
            go_wp2_with fail
            go_meet
            have BY := ((BXm.out.set_ 0 (.string .empty)).set_ 1 (.int .i64 sa)).set_ 2 (.int .i64 sb)
            have TRm := TR1.out.next bm
            have nb : ∀ q, q < wr.heap.size → q ≠ wr.heap.size := fun q hq => by omega
            refine ⟨Lib.hid (TrW.box3 TRm (by have := TR.out.e.size; omega) (TR.out.bnd) _ _ _), Lib.hid ?_⟩
            rw [Hy.out]; exact BY
        · obtain rfl : false = pb := by rw [← Hpb.out]; unfold isP; rw [hxl]; rfl
          have Hy := Lib.hid (show trR same x = x by unfold trR; rw [if_neg (by rw [hxl]; show (1 : Nat) ≠ 0; omega)])
          go_wp2_with fail
          go_meet
          exact ⟨TR1, by rw [Hy.out]; exact BX1⟩
      case rest =>
        obtain ⟨TR2, BX2⟩ := hcut
        have zmap := Lib.hid (show w.heap.size + 3 < wr.heap.size from TR.out.bnd.2.2)
        have nbR := Lib.hid (show some wr.heap.size ≠ (Value.slice A4 k c4).ownBlock from fun e => by have := TR.out.bnd.1 _ e.symm; omega)
        have nbS := Lib.hid (show some wr.heap.size ≠ (Value.slice A6 k c6).ownBlock from fun e => by have := TR.out.bnd.2.1 _ e.symm; omega)
        clear TR TR1 BX1 Hpb hb1' b1 c0 c1 c2
        generalize trR same x = y at *
        have hyk : k = kept.length := hkl.out.symm
        have Hyk := Lib.hid hyk; clear hyk
        obtain ⟨d0, d1, d2⟩ := BX2.out.three
        have lx := BX2.out.lt
        obtain ⟨kn, hkn⟩ : ∃ kn, (mget y m).isSome = kn := ⟨_, rfl⟩
        obtain ⟨vv, hvv⟩ : ∃ vv, (mget y m).getD (.int .i64 0) = vv := ⟨_, rfl⟩
        have Hkn := Lib.hid hkn
        clear hkn
        go_upto_if 55 with (at_lookup; refine wpList_lookOk rfl _ _ rfl rule_key Try.underlying107 (zero_i64 _) rfl y rfl TR2.out.m ?_; rw [Hkn.out, hvv])
        go_cut [] (fun wx => ∃ m', Hid (TrW w wx (some ⟨b, o, none⟩) n c k A4 c4 k A6 c6 kept same m') ∧ Hid (∀ f, mget f m' = if f ∈ kept ++ [y] then some (.int .i64 (((kept ++ [y]).idxOf f : Nat) : Int)) else none) ∧ Hid (Blk wx wr.heap.size 65 #[.string y.l, .int .i64 y.a, .int .i64 y.b]))
        case first =>
          by_cases hmem : y ∈ kept
          · obtain rfl : true = kn := by rw [← Hkn.out, HM.out, if_pos hmem]; rfl
            go_wp2_with fail
            go_meet
            exact ⟨m, TR2, Lib.hid (map_known HM.out hmem), BX2⟩
          · obtain rfl : false = kn := by rw [← Hkn.out, HM.out, if_neg hmem]; rfl
            go_wp2_with
              (at_mapUpdate
               refine wpList_put (w0 := w) rfl _ _ _ rfl rule_key Try.underlying107 rfl y (.int .i64 (k : Int)) rfl rfl TR2.out.m w.heap.size rfl (by omega) TR2.out.e ?_
               intro w7 hm7 hg7 hb7
               have HM7 := Lib.hid hm7
               have HG7 := Lib.hid hg7
               have HB7 := Lib.hid hb7
               clear hm7 hg7 hb7)
            go_meet
            refine ⟨_, Lib.hid (TrW.put TR2.out HM7.out HG7.out HB7.out), Lib.hid (fun f => ?_), Lib.hid (BX2.out.grown HG7.out (by intro e; injection e with e; have := zmap.out; omega))⟩
            rw [mget_mput, Hyk.out]
            exact map_new HM.out hmem f
        case rest =>
          obtain ⟨m', TR3, HM3, BX3⟩ := hcut
          have hv' := HM3.out y
          rw [if_pos (by simp), idx_app2] at hv'
          have hgk : k ≤ 1048576 := by omega
          have hvb : kept.idxOf y ≤ k := by have := List.idxOf_le_length (a := y) (l := kept); have := hkl.out; omega
          generalize hvz : ((kept.idxOf y : Nat) : Int) = v at *
          have T0 := Lib.hid (TR3.out.drew)
          have T1 := Lib.hid ((TR3.out.alloc (.cells #[.string y.l, .int .i64 y.a, .int .i64 y.b] 65)).drew)
          have T2 := Lib.hid (((TR3.out.alloc (.cells #[.string y.l, .int .i64 y.a, .int .i64 y.b] 65)).alloc (.cells #[.int .i64 v] 2)).drew)
          have T3 := Lib.hid (((TR3.out.alloc (.cells #[.int .i64 v] 2)).alloc (.cells #[.string y.l, .int .i64 y.a, .int .i64 y.b] 65)).drew)
          have T4 := Lib.hid ((TR3.out.alloc (.cells #[.int .i64 v] 2)).drew)
          have lk := fun (W : World) (h : MapIs W (w.heap.size + 3) Fac.val m') => show (Instr.lookup 107 (.map (some (w.heap.size + 1 + 1 + 1))) (.agg #[.string y.l, .int .i64 y.a, .int .i64 y.b]) false).run Try.prog W = .ok (.int .i64 v) W by
            have := h.look rule_key Try.underlying107 (zero_i64 W) y
            rw [hv'] at this
            exact this
          have LK := Lib.hid lk
          have l0 := lk _ T0.out.m
          have l1 := lk _ T1.out.m
          clear lk hv'
          obtain ⟨d0, d1, d2⟩ := BX3.out.three
          have lx := BX3.out.lt
          have X1 := Lib.hid ((BX3.out.alloc (.cells #[.string y.l, .int .i64 y.a, .int .i64 y.b] 65)).drew)
          have X2 := Lib.hid (((BX3.out.alloc (.cells #[.string y.l, .int .i64 y.a, .int .i64 y.b] 65)).alloc (.cells #[.int .i64 v] 2)).drew)
          have X3 := Lib.hid (((BX3.out.alloc (.cells #[.int .i64 v] 2)).alloc (.cells #[.string y.l, .int .i64 y.a, .int .i64 y.b] 65)).drew)
          have X4 := Lib.hid ((BX3.out.alloc (.cells #[.int .i64 v] 2)).drew)
          have P2R := Lib.hid (((Blk.new wc 65 #[.string y.l, .int .i64 y.a, .int .i64 y.b]).alloc (.cells #[.int .i64 v] 2)).drew)
          have P3S := Lib.hid (((Blk.new wc 2 #[.int .i64 v]).alloc (.cells #[.string y.l, .int .i64 y.a, .int .i64 y.b] 65)).drew)
          have P2S := Lib.hid (show Blk ((wc.alloc (.cells #[.string y.l, .int .i64 y.a, .int .i64 y.b] 65)).alloc (.cells #[.int .i64 v] 2)).drew (wc.heap.size + 1) 2 #[.int .i64 v] by
            have h := Blk.new (wc.alloc (.cells #[.string y.l, .int .i64 y.a, .int .i64 y.b] 65)) 2 #[.int .i64 v]
            rw [show (wc.alloc (.cells #[.string y.l, .int .i64 y.a, .int .i64 y.b] 65)).heap.size = wc.heap.size + 1 by simp] at h; exact h.drew)
          have P3R := Lib.hid (show Blk ((wc.alloc (.cells #[.int .i64 v] 2)).alloc (.cells #[.string y.l, .int .i64 y.a, .int .i64 y.b] 65)).drew (wc.heap.size + 1) 65 #[.string y.l, .int .i64 y.a, .int .i64 y.b] by
            have h := Blk.new (wc.alloc (.cells #[.int .i64 v] 2)) 65 #[.string y.l, .int .i64 y.a, .int .i64 y.b]
            rw [show (wc.alloc (.cells #[.int .i64 v] 2)).heap.size = wc.heap.size + 1 by simp] at h; exact h.drew)
          have zk : (k + 1) * 32 ≤ 140737488355328 := by omega
          have zk8 : (k + 1) * 8 ≤ 140737488355328 := by omega
          have zkm : k + 1 ≤ maxLen := by unfold maxLen; omega
          go_wp2_with fail
          go_region_law
            (first
              | (refine step_push (by rfl) _ _ _ (by rfl) w.heap.size 65 3 32 elem_rule Fac.cells A4 k c4 kept (by rfl) (by with_reducible first | exact T1.out.r | exact T2.out.r | exact T3.out.r | exact (tS.alloc _).r | exact tS.r) _ y #[.string y.l, .int .i64 y.a, .int .i64 y.b] 65 (0, 0) (by rfl) (by first | exact heap_alloc_new _ _ | exact P2R.out | exact P3R.out | exact bR) rfl rfl (one_fac _) (by omega) zk zkm (by with_reducible first | exact T1.out.e.size | exact T2.out.e.size | exact T3.out.e.size | exact (tS.alloc _).e.size | exact tS.e.size) ?_
                 intro A8 c8 w8 own8 hg8 old8
                 with_reducible first
                   | (have tR := T1.out.pushR own8 hg8
                      have xx := X1.out.grown hg8 nbR.out)
                   | (have tR := T2.out.pushR own8 hg8
                      have xx := X2.out.grown hg8 nbR.out
                      have bS := P2S.out.grown hg8 (own_blk_ne T2.out.r P2S.out (by decide)))
                   | (have tR := T3.out.pushR own8 hg8
                      have xx := X3.out.grown hg8 nbR.out
                      have bS := P3S.out.grown hg8 (own_blk_ne T3.out.r P3S.out (by decide)))
                   | have tRS := (tS.alloc _).pushR own8 hg8
                   | have tRS := tS.pushR own8 hg8
                 try
                   (have l8 := LK.out _ tR.m
                    obtain ⟨e0, e1, e2⟩ := xx.three
                    have le := xx.lt))
              | (refine step_push (by rfl) _ _ _ (by rfl) w.heap.size 2 1 8 elem_int intE A6 k c6 same (by rfl) (by with_reducible first | exact T4.out.s | exact T2.out.s | exact T3.out.s | exact (tR.alloc _).s | exact tR.s) _ v #[.int .i64 v] 2 (0, 0) (by rfl) (by first | exact heap_alloc_new _ _ | exact P2S.out | exact P3S.out | exact bS) rfl rfl (by simp [intE, Value.oneCell']) (by omega) zk8 zkm (by with_reducible first | exact T4.out.e.size | exact T2.out.e.size | exact T3.out.e.size | exact (tR.alloc _).e.size | exact tR.e.size) ?_
                 intro A9 c9 w9 own9 hg9 old9
                 with_reducible first
                   | (have tS := T4.out.pushS own9 hg9
                      have xx := X4.out.grown hg9 nbS.out)
                   | (have tS := T2.out.pushS own9 hg9
                      have xx := X2.out.grown hg9 nbS.out
                      have bR := P2R.out.grown hg9 (own_blk_ne T2.out.s P2R.out (by decide)))
                   | (have tS := T3.out.pushS own9 hg9
                      have xx := X3.out.grown hg9 nbS.out
                      have bR := P3R.out.grown hg9 (own_blk_ne T3.out.s P3R.out (by decide)))
                   | have tRS := (tR.alloc _).pushS own9 hg9
                   | have tRS := tR.pushS own9 hg9
                 try
                   (obtain ⟨e0, e1, e2⟩ := xx.three
                    have le := xx.lt)))
          all_goals
            go_wp2_with fail
            go_roundw
            case rel =>
              refine ⟨k + 1, _, _, _, _, kept ++ [y], same ++ [v], m', by go_num, rfl, rfl, by omega, Lib.hid tRS, HM3, HI2, Lib.hid (by rw [List.length_append, hkl.out]; rfl), Hstep⟩
            case measure => simp [intOf]; omega
    · obtain rfl : k = n := by omega
      have HA := Lib.hid (trK_all (by rw [hl.out]; omega) HK.out)
      have hI := HI.out
      have sv := hI.s (k - 1) (by have := hkl.out; omega)
      obtain ⟨g6, cp6, hv6, hg60, hg61⟩ := TR.out.s.form (by omega)
      obtain rfl : A6 = some ⟨g6, 0, none⟩ := by injection hv6
      have cs : wr.cell? ⟨g6, k - 1, none⟩ = some (.int .i64 (same.getD (k - 1) 0)) := by
        have := own_at (sz := 1) (enc := intE) (fun _ _ => rfl) TR.out.s (hI.len.trans hkl.out) 0 (k - 1) (by omega) 0 (by omega)
        rw [Nat.mul_one, Nat.add_zero] at this; exact this
      have Hu0 := Lib.hid (show use0 k same = (List.replicate k false).set (same.getD (k - 1) 0).toNat true from rfl)
      generalize same.getD (k - 1) 0 = z at *
      obtain ⟨z0, z1⟩ := sv
      have u1 : IntKind.i64.wrap ((k : Int) - 1) = (k : Int) - 1 := IntWalk.i64_in _ (by omega)
      have z2 : z < (k : Int) := by omega
      have j0 : (0 : Int) ≤ (k : Int) - 1 := by omega
      have j1 : (k : Int) - 1 < (k : Int) := by omega
      have jn : ((k : Int) - 1).toNat = k - 1 := by omega
      have mkB := fun W => makeB k W (by omega)
      have bz := boolA_at (List.replicate k false) (i := z.toNat) (by rw [List.length_replicate]; omega)
      have zk : z.toNat < k := by omega
      clear hv6 hI
      go_wp2_with fail
      refine named fun w2 H2 => ?_
      obtain ⟨g4, cp4, hv4, hg40, hg41⟩ := TR.out.r.form (by omega)
      obtain rfl : A4 = some ⟨g4, 0, none⟩ := by injection hv4
      have TU := Lib.hid (show TrW w w2 A k c k (some ⟨g4, 0, none⟩) c4 k (some ⟨g6, 0, none⟩) c6 kept same m by rw [H2.out]; exact TR.out.alloc _)
      have BU := Lib.hid (show Blk w2 wr.heap.size 4 (boolA (use0 k same)) by rw [H2.out, Hu0.out, ← boolA_set]; exact Blk.new _ _ _)
      have hbd := Lib.hid TR.out.bnd
      have hU : w.heap.size ≤ wr.heap.size := TR.out.e.size
      have hlu : (use0 k same).length = k := by rw [Hu0.out]; simp
      clear H2 HK Hu0 mkB bz cs TR hv4
      generalize wr.heap.size = U at *
      have HI' := HI
      go_loopw [12] (fun j_ w' => ∃ (j : Nat) (u : List Bool) (y : Int), j_ = .int .i64 y ∧ y + 1 = (j : Int) ∧ j ≤ k ∧ Hid (TrW w w' A k c k (some ⟨g4, 0, none⟩) c4 k (some ⟨g6, 0, none⟩) c6 kept same m) ∧ Hid (Blk w' U 4 (boolA u)) ∧ Hid (u.length = k) ∧
        Hid (useT kept j u = useT kept k (use0 k same))) (fun j_ _ => (intOf j_ + 1).toNat)
      case atStart => exact ⟨k, _, _, rfl, by omega, Nat.le_refl _, TU, BU, Lib.hid hlu, Lib.hid rfl⟩
      case round =>
        obtain ⟨j, u, y, rfl, hy, hj, T2, B2, hu, HU⟩ := hrel
        rcases j with _ | i
        · obtain rfl : y = -1 := by omega
          go_wp2_with fail
          have mkN := fun W => makeN k W (by omega)
          have e := HU.out
          rw [show useT kept 0 u = u from rfl] at e
          have HU2 := Lib.hid e
          clear e HU hy hj
          go_cut [14, 15] (fun p_ s_ wx => ∃ (B V X : Nat), p_ = .pointer (some ⟨B, 0, none⟩) ∧ s_ = .slice (some ⟨V, 0, none⟩) k k ∧ Hid (OutW (w.heap.size + 1) w wx (some ⟨g4, 0, none⟩) c4 k kept X U u V (List.replicate k 0) B none 0 0 []))
          case first =>
            go_region
            all_goals
              go_wp2_with fail
              go_meet
              have lo := T2.out.o.lt
              have lu := B2.out.lt
              have n6 : ∀ q, (Value.slice (some ⟨g4, 0, none⟩) k c4).ownBlock = some q → q < wr.heap.size := fun q hq => by have := hbd.out.1 q hq; omega
              first
                | (refine ⟨wr.heap.size + 1, wr.heap.size, wr.heap.size + 2, rfl, rfl, Lib.hid ?_⟩
                   have hb : Below wr.heap.size wr ((wr.alloc (.cells (intA (List.replicate k 0)) 2)).alloc (.cells #[.slice none 0 0] 26)).drew := (((Below.refl _ _).alloc (Nat.le_refl _) _).alloc (by simp) _).drew
                   have T5 := T2.out.next hb
                   refine ⟨T5.r, B2.out.next hb, ((Blk.new wr _ _).alloc _).drew, ?_, T5.o, World.ownsRow_nil _ _ _ _, T5.e, by omega, by omega, by omega, by omega, by omega, by simp, fun q hq => by have := n6 q hq; omega⟩
                   have h := Blk.new (wr.alloc (.cells (intA (List.replicate k 0)) 2)) 26 #[.slice none 0 0]
                   rw [show (wr.alloc (.cells (intA (List.replicate k 0)) 2)).heap.size = wr.heap.size + 1 by simp] at h
                   exact h.drew)
                | (refine ⟨wr.heap.size, wr.heap.size + 1, wr.heap.size + 2, rfl, rfl, Lib.hid ?_⟩
                   have hb : Below wr.heap.size wr ((wr.alloc (.cells #[.slice none 0 0] 26)).alloc (.cells (intA (List.replicate k 0)) 2)).drew := (((Below.refl _ _).alloc (Nat.le_refl _) _).alloc (by simp) _).drew
                   have T5 := T2.out.next hb
                   refine ⟨T5.r, B2.out.next hb, ?_, ((Blk.new wr _ _).alloc _).drew, T5.o, World.ownsRow_nil _ _ _ _, T5.e, by omega, by omega, by omega, by omega, by omega, by simp, fun q hq => by have := n6 q hq; omega⟩
                   have h := Blk.new (wr.alloc (.cells #[.slice none 0 0] 26)) 2 (intA (List.replicate k 0))
                   rw [show (wr.alloc (.cells #[.slice none 0 0] 26)).heap.size = wr.heap.size + 1 by simp] at h
                   exact h.drew)
          case rest =>
            obtain ⟨B, V, X, rfl, rfl, O0⟩ := hcut
            have hul := hu.out
            clear T2 B2 hu mkN TU BU hlu
            have key := Lib.hid (show trimL rs = outT u 0 kept [] (List.replicate k 0) by
              unfold trimL
              rw [← HA.out, hl.out, if_neg (by omega), ← HU2.out])
            have ulen := Lib.hid hul
            clear hul HU2 HA
            go_wp2_with fail
            refine named fun w4 H4 => ?_
            have O1 := Lib.hid (show OutW (w.heap.size + 1) w w4 (some ⟨g4, 0, none⟩) c4 k kept X U u V (List.replicate k 0) B none 0 0 [] by rw [H4.out]; exact O0.out)
            clear O0 H4
            go_loopw [110] (fun i_ w' => ∃ (i nn : Nat) (A7 : Option Addr) (c7 : Nat) (out : List Fac) (at_ : List Int), i_ = .int .i64 i ∧ i ≤ k ∧ nn ≤ i ∧ Hid (OutW (w.heap.size + 1) w w' (some ⟨g4, 0, none⟩) c4 k kept X U u V at_ B A7 nn c7 out) ∧ Hid (out.length = nn) ∧ Hid (at_.length = k) ∧
              Hid (∀ j, 0 ≤ at_.getD j 0 ∧ at_.getD j 0 ≤ 1048576) ∧ Hid (outT u i (kept.drop i) out at_ = outT u 0 kept [] (List.replicate k 0))) (fun i_ _ => k - (intOf i_).toNat)
            case atStart =>
              exact ⟨0, 0, none, 0, [], _, rfl, by omega, by omega, O1, Lib.hid rfl, Lib.hid (by simp), Lib.hid (fun j => by rw [List.getD_eq_getElem?_getD, List.getElem?_replicate]; split <;> simp), Lib.hid rfl⟩
            case round =>
              obtain ⟨i, nn, A7, c7, out, at_, rfl, hi, hnn, O2, hol, hal, har, HO⟩ := hrel
              by_cases hlt : i < k
              · obtain ⟨x, hx⟩ : ∃ x, kept[i]? = some x := ⟨_, List.getElem?_eq_getElem (by have := hkl.out; omega)⟩
                have hxd : kept.getD i default = x := by rw [List.getD_eq_getElem?_getD, hx]; rfl
                have cel := fun (q : Nat) (hq : q < 3) => own_at (sz := 3) (enc := Fac.cells) (fun _ _ => rfl) O2.out.r hkl.out default i (by omega) q hq
                rw [hxd] at cel
                have c0 : wr.cell? ⟨g4, i * 3, none⟩ = some (.string x.l) := cel 0 (by omega)
                have c1 : wr.cell? ⟨g4, i * 3 + 1, none⟩ = some (.int .i64 x.a) := cel 1 (by omega)
                have c2 : wr.cell? ⟨g4, i * 3 + 2, none⟩ = some (.int .i64 x.b) := cel 2 (by omega)
                clear cel hxd
                have bu := O2.out.u.cell i
                rw [boolA_at u (i := i) (by have := ulen.out; omega)] at bu
                have ho := HO.out
                rw [drop_cons hx] at ho
                have HX := Lib.hid hx
                obtain ⟨ub, hub⟩ : ∃ ub, u.getD i false = ub := ⟨_, rfl⟩
                rw [hub] at bu
                have Hub := Lib.hid hub
                clear hub hx
                have lU := O2.out.u.lt
                have a3 : Below wr.heap.size wr (wr.alloc (.cells #[.string x.l, .int .i64 x.a, .int .i64 x.b] 65)) := (Below.refl _ _).alloc (Nat.le_refl _) _
                have O3 := Lib.hid (O2.out.next a3)
                cases ub
                · have e : outT u (i + 1) (kept.drop (i + 1)) out at_ = outT u 0 kept [] (List.replicate k 0) := by
                    rw [← ho, outT, if_neg (by rw [Hub.out]; simp)]
                  have E := Lib.hid e
                  clear e ho
                  go_wp2_with fail
                  go_roundw
                  case rel => exact ⟨i + 1, nn, A7, c7, out, at_, by go_num, by omega, by omega, O3, hol, hal, har, E⟩
                  case measure => first | (simp [intOf]; done) | (simp [intOf]; omega)
                · have e : outT u (i + 1) (kept.drop (i + 1)) (out ++ [trR at_ x]) (at_.set i (nn : Int)) = outT u 0 kept [] (List.replicate k 0) := by
                    rw [← ho, outT, if_pos Hub.out, hol.out]
                  have E := Lib.hid e
                  clear e ho
                  obtain ⟨pb, hpb⟩ : ∃ pb, isP x = pb := ⟨_, rfl⟩
                  have Hpb := Lib.hid hpb; clear hpb
                  go_upto_if 121 with (go_at_call 31; refine (isPair_any x pb _ Hpb.out).mono ?_; rintro e w1 ⟨rfl, hb1'⟩)
                  have O4 := Lib.hid (O3.out.next hb1')
                  have BX1 := Lib.hid ((Blk.new wr 65 #[.string x.l, .int .i64 x.a, .int .i64 x.b]).next hb1')
                  have hsz : wr.heap.size < w1.heap.size := BX1.out.lt
                  go_cut [] (fun wx => Hid (OutW (w.heap.size + 1) w wx (some ⟨g4, 0, none⟩) c4 k kept X U u V at_ B A7 nn c7 out) ∧ Hid (Blk wx wr.heap.size 65 #[.string (trR at_ x).l, .int .i64 (trR at_ x).a, .int .i64 (trR at_ x).b]))
                  case first =>
                    rcases HI.out.k i x HX.out with ⟨h0, ha0, ha1, hb0, hb1⟩ | ⟨cc, hcc, hxl, hxa, hxb⟩
                    · obtain rfl : true = pb := by rw [← Hpb.out]; simp [isP, h0]
                      have Hy := Lib.hid (show trR at_ x = ⟨⟨#[]⟩, at_.getD x.a.toNat 0, at_.getD x.b.toNat 0⟩ by unfold trR; rw [if_pos h0])
                      have s1 := har.out x.a.toNat
                      have s2 := har.out x.b.toNat
                      have va := O4.out.v.cell x.a.toNat
                      rw [intA_at at_ (by have := hal.out; omega)] at va
                      have vb := O4.out.v.cell x.b.toNat
                      rw [intA_at at_ (by have := hal.out; omega)] at vb
                      generalize at_.getD x.a.toNat 0 = sa at *
                      generalize at_.getD x.b.toNat 0 = sb at *
                      obtain ⟨d0, d1, d2⟩ := BX1.out.three
                      have lx := BX1.out.lt
                      have i1 : x.a < (k : Int) := by omega
                      have i2 : x.b < (k : Int) := by omega
                      clear c0 c1 c2 bu
                      go_wp2_with fail
                      go_region_with
                        (first
                          | (go_at_call 32
                             refine (pair64_any sa sb w1.drew (by omega) (by omega)).mono ?_
                             rintro e wm ⟨rfl, hbm⟩
                             have bm : Below w1.heap.size w1 wm := (Below.refl _ _).drew.trans hbm
                             have BXm := Lib.hid (BX1.out.next bm)
                             have fm := BXm.out.frozen
                             have lm := BXm.out.lt
                             obtain ⟨m0, m1, m2⟩ := BXm.out.three)
                          | fail)
                      all_goals
                        go_wp2_with fail
                        go_meet
                        have BY := ((BXm.out.set_ 0 (.string .empty)).set_ 1 (.int .i64 sa)).set_ 2 (.int .i64 sb)
                        have Om := O4.out.next bm
                        have hgm := gb_setCell (gb_setCell (gb_set wm wr.heap.size 0 (.string .empty)) 1 (.int .i64 sa)) 2 (.int .i64 sb)
                        refine ⟨Lib.hid (Om.far hgm (fun e => by have := O2.out.n6 _ e.symm; have := O2.out.n5; omega) (fun e => by have := (O2.out.q.lt _ e.symm).2; omega) (by have := O2.out.u.lt; omega) (by have := O2.out.v.lt; omega) (by have := O2.out.b.lt; omega) (by have := O2.out.o.lt; omega)), Lib.hid ?_⟩
                        rw [Hy.out]; exact BY
                    · obtain rfl : false = pb := by rw [← Hpb.out]; unfold isP; rw [hxl]; rfl
                      have Hy := Lib.hid (show trR at_ x = x by unfold trR; rw [if_neg (by rw [hxl]; show (1 : Nat) ≠ 0; omega)])
                      clear hxl hxa hxb
                      go_wp2_with fail
                      go_meet
                      exact ⟨O4, by rw [Hy.out]; exact BX1⟩
                  case rest =>
                    obtain ⟨O5, BX5⟩ := hcut
                    clear O3 O4 BX1 Hpb c0 c1 c2 bu
                    generalize trR at_ x = y at *
                    have f5 := O5.out.v.frozen
                    have v5 := O5.out.v.cell i
                    rw [intA_at at_ (by have := hal.out; omega)] at v5
                    have b5 := O5.out.b.cell 0
                    have k5 : (i : Int) < (k : Int) := by omega
                    have O6 := Lib.hid (O5.out.tell i (nn : Int))
                    have BX6 := Lib.hid (BX5.out.grown (gb_set wc V i (.int .i64 (nn : Int))) (by intro e; injection e with e; have := O2.out.v.lt; omega))
                    have b6 := O6.out.b.cell 0
                    obtain ⟨e0, e1, e2⟩ := BX6.out.three
                    have O7 := Lib.hid (O6.out.alloc (.cells #[.string y.l, .int .i64 y.a, .int .i64 y.b] 65))
                    have BN := Lib.hid (Blk.new (wc.setCell ⟨V, i, none⟩ (.int .i64 (nn : Int))) 65 #[.string y.l, .int .i64 y.a, .int .i64 y.b])
                    have sz7 : (wc.setCell ⟨V, i, none⟩ (.int .i64 (nn : Int))).heap.size = wc.heap.size := by simp
                    rw [sz7] at BN
                    go_wp2_with
                      (at_builtin
                       refine wpList_app rfl _ _ _ rfl X 65 3 32 elem_rule Fac.cells A7 nn c7 out rfl O7.out.q ⟨wc.heap.size, 0, none⟩ 1 1 [y] rfl rfl (by omega) (news1 BN.out) (fun x _ => fac_len x) (fun x _ => one_fac x) (by omega) (by omega) (by unfold maxLen; omega) O7.out.n5 ?_
                       intro A9 c9 w9 own9 hg9 hat9
                       have O8 := Lib.hid (O7.out.push own9 hg9)
                       have B9 := O7.out.b.grown hg9 (own_blk_ne O7.out.q O7.out.b (by decide))
                       have f9 := B9.frozen
                       have d9 := B9.cell 0
                       have l9 := B9.lt
                       clear own9 B9)
                    go_roundw
                    case rel =>
                      exact ⟨i + 1, nn + 1, A9, c9, out ++ [y], at_.set i (nn : Int), by go_num, by omega, by omega, O8, Lib.hid (by simp [hol.out]), Lib.hid (by simp [hal.out]),
                        Lib.hid (fun j => by
                          have h := har.out j
                          rw [List.getD_eq_getElem?_getD, List.getElem?_set]
                          split
                          · split
                            · simp; omega
                            · simp
                          · rw [← List.getD_eq_getElem?_getD]; exact h), E⟩
                    case measure => first | (simp [intOf]; done) | (simp [intOf]; omega)
              · obtain rfl : i = k := by omega
                have hk2 := Lib.hid (show trimL rs = out by
                  rw [key.out, ← HO.out, List.drop_of_length_le (by rw [hkl.out]; exact Nat.le_refl _)]; rfl)
                have b0 := O2.out.b.cell 0
                have o0 := O2.out.o.cell 0
                have fo := O2.out.o.frozen
                go_wp2_with fail
                have hg := gb_set wr (w.heap.size + 1) 0 (.slice A7 nn c7)
                have x9 := O2.out.o.set_ 0 (.slice A7 nn c7)
                have x10 : (wr.setCell ⟨w.heap.size + 1, 0, none⟩ (.slice A7 nn c7)).cell? ⟨w.heap.size + 1, 0, none⟩ = some (.slice A7 nn c7) := by rw [x9.cell 0]; rfl
                refine bodyPost_ret (v := .agg #[.slice A7 nn c7]) (by simp [results, Try.results35, go_sem, x10]) rfl ⟨A7, c7, by rw [hk2.out, hol.out], ?_, O2.out.e.grown hg O2.out.e.size (fun q hq => by injection hq with hq; omega)⟩
                rw [hk2.out, hol.out]
                exact (O2.out.q.kept hg (.inr fun e => own_blk_ne O2.out.q O2.out.o (by decide) e.symm)).mono (by have := O2.out.n1; have := O2.out.n2; omega)
        · obtain rfl : y = (i : Int) := by omega
          obtain ⟨x, hx⟩ : ∃ x, kept[i]? = some x := ⟨_, List.getElem?_eq_getElem (by have := hkl.out; omega)⟩
          have hxd : kept.getD i default = x := by rw [List.getD_eq_getElem?_getD, hx]; rfl
          have cel := fun (q : Nat) (hq : q < 3) => own_at (sz := 3) (enc := Fac.cells) (fun _ _ => rfl) T2.out.r hkl.out default i (by omega) q hq
          rw [hxd] at cel
          have c0 : wr.cell? ⟨g4, i * 3, none⟩ = some (.string x.l) := cel 0 (by omega)
          have c1 : wr.cell? ⟨g4, i * 3 + 1, none⟩ = some (.int .i64 x.a) := cel 1 (by omega)
          have c2 : wr.cell? ⟨g4, i * 3 + 2, none⟩ = some (.int .i64 x.b) := cel 2 (by omega)
          clear cel
          have bu := B2.out.cell i
          rw [boolA_at u (i := i) (by have := hu.out; omega)] at bu
          have Hus := Lib.hid (show useStep kept i u = if u.getD i false = true ∧ x.l.size = 0 then (u.set x.a.toNat true).set x.b.toNat true else u by unfold useStep; rw [hxd])
          have HU' := Lib.hid (show useT kept i (useStep kept i u) = useT kept k (use0 k same) from HU.out)
          have HX := Lib.hid hx
          clear HU hx hxd
          obtain ⟨ub, hub⟩ : ∃ ub, u.getD i false = ub := ⟨_, rfl⟩
          rw [hub] at bu
          have Hub := Lib.hid hub
          clear hub
          have lU := B2.out.lt
          have u1 : IntKind.i64.wrap ((i : Int) - 1) = (i : Int) - 1 := IntWalk.i64_in _ (by omega)
          have a3 : Below wr.heap.size wr (wr.alloc (.cells #[.string x.l, .int .i64 x.a, .int .i64 x.b] 65)) := (Below.refl _ _).alloc (Nat.le_refl _) _
          have T3 := Lib.hid (T2.out.next a3)
          have B3 := Lib.hid (B2.out.next a3)
          cases ub
          · have e := Hus.out
            rw [Hub.out, if_neg (by simp)] at e
            have E := Lib.hid e
            clear e
            go_wp2_with fail
            go_roundw
            case rel => exact ⟨i, u, _, rfl, by omega, by omega, T3, B3, hu, by rw [E.out] at HU'; exact HU'⟩
            case measure => first | (simp [intOf]; done) | (simp [intOf]; omega)
          · obtain ⟨pb, hpb⟩ : ∃ pb, isP x = pb := ⟨_, rfl⟩
            have Hpb := Lib.hid hpb; clear hpb
            rcases HI.out.k i x HX.out with ⟨h0, ha0, ha1, hb0, hb1⟩ | ⟨cc, hcc, hxl, hxa, hxb⟩
            · obtain rfl : true = pb := by rw [← Hpb.out]; simp [isP, h0]
              have e := Hus.out
              rw [Hub.out, if_pos ⟨rfl, h0⟩] at e
              have E := Lib.hid e
              clear e
              go_wp2_with
                (go_at_call 31
                 refine (isPair_any x true _ Hpb.out).mono ?_
                 rintro e w1 ⟨rfl, hb1'⟩
                 have T4 := Lib.hid (T3.out.next hb1')
                 have B4 := Lib.hid (B3.out.next hb1')
                 have BX := Lib.hid ((Blk.new wr 65 #[.string x.l, .int .i64 x.a, .int .i64 x.b]).next hb1')
                 have lB := BX.out.lt
                 have lU4 := B4.out.lt
                 have fU := B4.out.frozen
                 obtain ⟨m0, m1, m2⟩ := BX.out.three
                 have da := B4.out.cell x.a.toNat
                 rw [boolA_at u (by have := hu.out; omega)] at da
                 have db := B4.out.cell x.b.toNat
                 rw [boolA_at u (by have := hu.out; omega)] at db
                 have B5 := B4.out.set_ x.a.toNat (.bool true)
                 rw [boolA_set] at B5
                 have db2 := B5.cell x.b.toNat
                 rw [boolA_at _ (by have := hu.out; rw [List.length_set]; omega)] at db2
                 clear B5
                 have ab : x.a < (k : Int) := by omega
                 have bb : x.b < (k : Int) := by omega
                 have nU : U ≠ wr.heap.size := by omega)
              go_region
              all_goals
                go_wp2_with fail
                go_roundw
                case rel =>
                  have B6 := (B4.out.set_ x.a.toNat (.bool true)).set_ x.b.toNat (.bool true)
                  rw [boolA_set, boolA_set, ← E.out] at B6
                  exact ⟨i, useStep kept i u, _, rfl, by omega, by omega, Lib.hid (TrW.set1 (TrW.set1 T4.out hU hbd.out _ _) hU hbd.out _ _).drew, Lib.hid B6.drew, Lib.hid (by rw [E.out]; simp [hu.out]), HU'⟩
                case measure => first | (simp [intOf]; done) | (simp [intOf]; omega)
            · obtain rfl : false = pb := by rw [← Hpb.out]; unfold isP; rw [hxl]; rfl
              have e := Hus.out
              rw [if_neg (by rw [hxl]; rintro ⟨-, h⟩; exact absurd h (show (1 : Nat) ≠ 0 by omega))] at e
              have E := Lib.hid e
              clear e hxl hxa hxb
              go_wp2_with
                (go_at_call 31
                 refine (isPair_any x false _ Hpb.out).mono ?_
                 rintro e w1 ⟨rfl, hb1'⟩
                 have T4 := Lib.hid (T3.out.next hb1')
                 have B4 := Lib.hid (B3.out.next hb1'))
              go_roundw
              case rel => exact ⟨i, u, _, rfl, by omega, by omega, T4, B4, hu, by rw [E.out] at HU'; exact HU'⟩
              case measure => first | (simp [intOf]; done) | (simp [intOf]; omega)
end Go.Proofs.Ytfanphhlagjkdaa


/-
  A grammar trimmed by the reference.
-/
namespace Go.Proofs.Ytfanphhlagjkdaa
open Go.RowKit

/-- the reference's first round under way: what the call has made -/
structure TsW (w W : World) (k : Nat) (A5 : Option Addr) (c5 k6 : Nat) (A4 : Option Addr) (c4 : Nat) (kept : List Fac) (same : List Int) : Prop where
  r : W.ownsRow w.heap.size 65 3 (.slice A5 k c5) k (kept.flatMap Fac.cells)
  s : W.ownsRow w.heap.size 2 1 (.slice A4 k6 c4) k6 (same.flatMap intE)
  o : Blk W w.heap.size 26 #[.slice none 0 0]
  e : Below w.heap.size w W
section
variable {w W W' : World} {k k6 : Nat} {A5 : Option Addr} {c5 : Nat} {A4 : Option Addr} {c4 : Nat} {kept : List Fac} {same : List Int}
theorem TsW.next (h : TsW w W k A5 c5 k6 A4 c4 kept same) (hb : Below W.heap.size W W') : TsW w W' k A5 c5 k6 A4 c4 kept same :=
  ⟨own_next h.r hb, own_next h.s hb, h.o.next hb, h.e.trans (hb.mono h.e.size)⟩
theorem TsW.alloc (h : TsW w W k A5 c5 k6 A4 c4 kept same) (o : Obj) : TsW w (W.alloc o) k A5 c5 k6 A4 c4 kept same := h.next ((Below.refl _ _).alloc (Nat.le_refl _) _)
theorem TsW.drew (h : TsW w W k A5 c5 k6 A4 c4 kept same) : TsW w W.drew k A5 c5 k6 A4 c4 kept same := h.next (Below.refl _ _).drew
theorem TsW.pushR {A8 : Option Addr} {k8 c8 : Nat} {kept' : List Fac} (h : TsW w W k A5 c5 k6 A4 c4 kept same) (ho : W'.ownsRow w.heap.size 65 3 (.slice A8 k8 c8) k8 (kept'.flatMap Fac.cells)) (hg : W.grownBy W' (Value.slice A5 k c5).ownBlock) :
    TsW w W' k8 A8 c8 k6 A4 c4 kept' same :=
  ⟨ho, h.s.kept hg (own_ne h.s h.r (by decide)), h.o.grown hg (own_blk_ne h.r h.o (by decide)), h.e.grown hg h.e.size (own_ge h.r)⟩
theorem TsW.pushS {A8 : Option Addr} {k8 c8 : Nat} {same' : List Int} (h : TsW w W k A5 c5 k6 A4 c4 kept same) (ho : W'.ownsRow w.heap.size 2 1 (.slice A8 k8 c8) k8 (same'.flatMap intE)) (hg : W.grownBy W' (Value.slice A4 k6 c4).ownBlock) :
    TsW w W' k A5 c5 k8 A8 c8 kept same' :=
  ⟨h.r.kept hg (own_ne h.r h.s (by decide)), ho, h.o.grown hg (own_blk_ne h.s h.o (by decide)), h.e.grown hg h.e.size (own_ge h.s)⟩
/-- a block made later put -/
theorem TsW.far {Z : Nat} (h : TsW w W k A5 c5 k6 A4 c4 kept same) (hg : W.grownBy W' (some Z)) (h1 : some Z ≠ (Value.slice A5 k c5).ownBlock) (h2 : some Z ≠ (Value.slice A4 k6 c4).ownBlock) (h3 : w.heap.size < Z) : TsW w W' k A5 c5 k6 A4 c4 kept same :=
  ⟨h.r.kept hg (.inr fun e => h1 e.symm), h.s.kept hg (.inr fun e => h2 e.symm), h.o.grown hg (by intro e; injection e with e; omega), h.e.grown hg h.e.size (fun q hq => by injection hq with hq; omega)⟩
theorem TsW.bnd (h : TsW w W k A5 c5 k6 A4 c4 kept same) : (∀ q, (Value.slice A5 k c5).ownBlock = some q → q < W.heap.size) ∧ (∀ q, (Value.slice A4 k6 c4).ownBlock = some q → q < W.heap.size) ∧ w.heap.size < W.heap.size :=
  ⟨fun q hq => (h.r.lt q hq).2, fun q hq => (h.s.lt q hq).2, h.o.lt⟩
end
theorem trR_set {at_ : List Int} {x : Fac} {i : Nat} {z : Int} (h : x.l.size = 0 → 0 ≤ x.a ∧ x.a < (i : Int) ∧ 0 ≤ x.b ∧ x.b < (i : Int)) : trR (at_.set i z) x = trR at_ x := by
  unfold trR
  by_cases h0 : x.l.size = 0
  · obtain ⟨a0, a1, b0, b1⟩ := h h0
    rw [if_pos h0, if_pos h0]
    simp only [List.getD_eq_getElem?_getD]
    rw [List.getElem?_set_ne (by omega), List.getElem?_set_ne (by omega)]
  · rw [if_neg h0, if_neg h0]
theorem fac_ext {f g : Fac} (h1 : f.l.toList = g.l.toList) (h2 : f.a = g.a) (h3 : f.b = g.b) : f = g := by
  cases f; cases g
  simp only at h1 h2 h3
  rw [tl_inj.1 h1, h2, h3]
theorem news1i {W : World} {g : Nat} {t : TypeId} {v : Int} (h : Blk W g t #[.int .i64 v]) : ∀ j u, ([v].flatMap intE)[j]? = some u → W.cell? ((⟨g, 0, none⟩ : Addr).add j) = some u := by
  intro j u hj
  have e : ((⟨g, 0, none⟩ : Addr).add j) = ⟨g, j, none⟩ := by
    simp only [Addr.add, Nat.zero_add]
    by_cases h0 : j = 0
    · subst h0; rfl
    · simp [h0]
  rw [e, h.cell j]
  simpa [intE] using hj
theorem hs_step {kept : List Fac} {same : List Int} (h : ∀ (j : Nat) (x : Fac), kept[j]? = some x → same.getD j 0 = ((kept.idxOf x : Nat) : Int)) (hl : same.length = kept.length) (y : Fac) :
    ∀ (j : Nat) (x : Fac), (kept ++ [y])[j]? = some x → (same ++ [((kept.idxOf y : Nat) : Int)]).getD j 0 = (((kept ++ [y]).idxOf x : Nat) : Int) := by
  intro j x hx
  by_cases e : j < kept.length
  · rw [List.getElem?_append_left e] at hx
    rw [List.getD_eq_getElem?_getD, List.getElem?_append_left (by omega), ← List.getD_eq_getElem?_getD, h j x hx, idx_app1 (List.mem_of_getElem? hx)]
  · have hj2 := (List.getElem?_eq_some_iff.1 hx).1
    simp only [List.length_append, List.length_singleton] at hj2
    obtain rfl : j = kept.length := by omega
    rw [List.getElem?_append_right (Nat.le_refl _), Nat.sub_self] at hx
    obtain rfl : y = x := by simpa using hx
    rw [List.getD_eq_getElem?_getD, List.getElem?_append_right (by omega), hl, Nat.sub_self, idx_app2]
    rfl
set_option maxHeartbeats 4000000 in
set_option maxRecDepth 100000 in
theorem l02Trim_any (gb : Nat) (A : Option Addr) (n c : Nat) (rs : List Fac) (w : World) (hg : gb < w.heap.size) (hc : w.cell? ⟨gb, 0, none⟩ = some (.slice A n c)) (hn : n ≤ 1048576) (hr : Rd w w.heap.size A n 3 Fac.cells rs) (hwf : WF rs) :
    Calls Try.prog 53 #[.pointer (some ⟨gb, 0, none⟩)] w (RetG w (trimL rs)) := by
  have hl := Lib.hid hr.len
  have HR := Lib.hid hr; clear hr
  have HWF := Lib.hid hwf; clear hwf
  have HC := Lib.hid (fun (W : World) (h : Below w.heap.size w W) => (h.cell (p := ⟨gb, 0, none⟩) hg).trans hc)
  go_enter Try.func53, Try.ntmps53
  go_wp2_with fail
  refine named fun w0 H0 => ?_
  have T0 : TsW w w0 0 (some ⟨w.heap.size + 1 + 1, 0, none⟩) 0 0 (some ⟨w.heap.size + 1, 0, none⟩) 0 [] [] := by
    rw [H0.out]
    refine ⟨?_, ?_, ?_, by (repeat first | exact Below.refl _ _ | assumption | refine Below.drew ?_ | refine Below.alloc ?_ (by first | exact Nat.le_refl _ | (simp; done) | omega | (simp; omega)) _ | refine Below.setCell ?_ (by first | exact Nat.le_refl _ | (simp; done) | omega | (simp; omega)) _)⟩
    · have h := World.ownsRow_made (base := w.heap.size) (e := 65) (size := 3) ((w.alloc (.cells #[.slice none 0 0] 26)).alloc (.cells #[] 2)) #[] 0 (by simp; omega) (by unfold maxLen; omega) rfl
      simpa using h
    · have h := World.ownsRow_made (base := w.heap.size) (e := 2) (size := 1) (w.alloc (.cells #[.slice none 0 0] 26)) #[] 0 (by simp) (by unfold maxLen; omega) rfl
      simpa using h.alloc _
    · exact ((Blk.new w _ _).alloc _).alloc _
  have T0' := Lib.hid T0
  clear T0 H0
  go_loopw [4, 5, 6] (fun s_ r_ i_ w' => ∃ (k : Nat) (A4 : Option Addr) (c4 : Nat) (A5 : Option Addr) (c5 : Nat) (kept : List Fac) (same : List Int), i_ = .int .i64 k ∧ s_ = .slice A4 k c4 ∧ r_ = .slice A5 k c5 ∧ k ≤ n ∧ Hid (TsW w w' k A5 c5 k A4 c4 kept same) ∧
      Hid (∀ (j : Nat) (x : Fac), kept[j]? = some x → same.getD j 0 = ((kept.idxOf x : Nat) : Int)) ∧ Hid (TrI kept same) ∧ Hid (kept.length = k) ∧ Hid (trK (rs.drop k) kept same = trK rs [] [])) (fun _ _ i_ _ => n - (intOf i_).toNat)
  case atStart => exact ⟨0, _, 0, _, 0, [], [], rfl, rfl, rfl, by omega, T0', Lib.hid (fun j x h => by simp at h), Lib.hid TrI.nil, Lib.hid rfl, Lib.hid rfl⟩
  case round =>
    obtain ⟨k, A4, c4, A5, c5, kept, same, rfl, rfl, rfl, hk, TR, HS, HI, hkl, HK⟩ := hrel
    have cg := HC.out wr TR.out.e
    by_cases hlt : k < n
    · obtain ⟨b, o, x, rfl, hB, gx, c0, c1, c2⟩ := (HR.out.below TR.out.e).fac hlt
      have hBr : b < wr.heap.size := by have := TR.out.e.size; omega
      have Hstep := Lib.hid (trK_take rs gx HK.out)
      have HI2 := Lib.hid (HI.out.step HWF.out (by rw [hkl.out]; exact gx))
      have hsl := Lib.hid (HI.out.len.trans hkl.out)
      have Gx := Lib.hid gx
      clear gx
      go_upto_if 37 with fail
      refine named fun w1 H1 => ?_
      have BX1 := Lib.hid (show Blk w1 wr.heap.size 65 #[.string x.l, .int .i64 x.a, .int .i64 x.b] by rw [H1.out]; exact Blk.new wr _ _)
      have TR1 := Lib.hid (show TsW w w1 k A5 c5 k A4 c4 kept same by rw [H1.out]; exact TR.out.alloc _)
      have nbR := Lib.hid (show some wr.heap.size ≠ (Value.slice A5 k c5).ownBlock from fun e => by have := TR.out.bnd.1 _ e.symm; omega)
      have nbS := Lib.hid (show some wr.heap.size ≠ (Value.slice A4 k c4).ownBlock from fun e => by have := TR.out.bnd.2.1 _ e.symm; omega)
      have zZ := TR.out.bnd.2.2
      have cgb : gb < wr.heap.size := by omega
      clear H1 c0 c1 c2
      generalize wr.heap.size = Z at *
      go_cut [] (fun wx => Hid (TsW w wx k A5 c5 k A4 c4 kept same) ∧ Hid (Blk wx Z 65 #[.string (trR same x).l, .int .i64 (trR same x).a, .int .i64 (trR same x).b]))
      case first =>
        rcases HWF.out k x Gx.out with ⟨h0, ha0, ha1, hb0, hb1⟩ | ⟨cc, hcc, hxl, hxa, hxb⟩
        · have e0 := size0 h0
          have he : x.l.toList.isEmpty = true := by rw [size0 h0]; rfl
          have Hy := Lib.hid (show trR same x = ⟨⟨#[]⟩, same.getD x.a.toNat 0, same.getD x.b.toNat 0⟩ by unfold trR; rw [if_pos h0])
          obtain ⟨g4, cp4, hv4, hg40, hg41⟩ := TR1.out.s.form (by omega)
          obtain rfl : A4 = some ⟨g4, 0, none⟩ := by injection hv4
          have va : w1.cell? ⟨g4, x.a.toNat, none⟩ = some (.int .i64 (same.getD x.a.toNat 0)) := by
            have := own_at (sz := 1) (enc := intE) (fun _ _ => rfl) TR1.out.s hsl.out 0 x.a.toNat (by omega) 0 (by omega)
            rw [Nat.mul_one, Nat.add_zero] at this; exact this
          have vb : w1.cell? ⟨g4, x.b.toNat, none⟩ = some (.int .i64 (same.getD x.b.toNat 0)) := by
            have := own_at (sz := 1) (enc := intE) (fun _ _ => rfl) TR1.out.s hsl.out 0 x.b.toNat (by omega) 0 (by omega)
            rw [Nat.mul_one, Nat.add_zero] at this; exact this
          generalize same.getD x.a.toNat 0 = sa at *
          generalize same.getD x.b.toNat 0 = sb at *
          obtain ⟨d0, d1, d2⟩ := BX1.out.three
          have lx := BX1.out.lt
          have fx := BX1.out.frozen
          have i1 : x.a < (k : Int) := ha1
          have i2 : x.b < (k : Int) := hb1
          clear hv4
          simp only [he]
          clear he e0
          go_wp2_with fail
          go_region
          all_goals
            go_wp2_with fail
            go_meet
            have BY := ((BX1.out.set_ 0 (.string .empty)).set_ 1 (.int .i64 sa)).set_ 2 (.int .i64 sb)
            have hgm := gb_setCell (gb_setCell (gb_set w1 Z 0 (.string .empty)) 1 (.int .i64 sa)) 2 (.int .i64 sb)
            refine ⟨Lib.hid (TR1.out.far hgm nbR.out nbS.out (by omega)).drew, Lib.hid ?_⟩
            rw [Hy.out]; exact BY.drew
        · have e0 : x.l.toList ≠ [] := size1 (by rw [hxl]; show (1 : Nat) ≠ 0; omega)
          have he : x.l.toList.isEmpty = false := by rw [List.isEmpty_eq_false_iff]; exact e0
          have Hy := Lib.hid (show trR same x = x by unfold trR; rw [if_neg (by rw [hxl]; show (1 : Nat) ≠ 0; omega)])
          clear hxl hxa hxb
          simp only [he]
          clear he e0
          go_wp2_with fail
          go_meet
          exact ⟨TR1, by rw [Hy.out]; exact BX1⟩
      case rest =>
        obtain ⟨TR2, BX2⟩ := hcut
        clear TR1 BX1
        generalize trR same x = y at *
        have hik : kept.idxOf y ≤ k := by have := List.idxOf_le_length (a := y) (l := kept); have := hkl.out; omega
        go_upto_block 2 with fail
        refine named fun w2 H2 => ?_
        have TR3 := Lib.hid (show TsW w w2 k A5 c5 k A4 c4 kept same by rw [H2.out]; exact TR2.out)
        have BX3 := Lib.hid (show Blk w2 Z 65 #[.string y.l, .int .i64 y.a, .int .i64 y.b] by rw [H2.out]; exact BX2.out)
        clear H2 TR2 BX2
        go_cut [8] (fun o_ wx => o_ = .int .i64 ((kept.idxOf y : Nat) : Int) ∧ Hid (TsW w wx k A5 c5 k A4 c4 kept same) ∧ Hid (Blk wx Z 65 #[.string y.l, .int .i64 y.a, .int .i64 y.b]))
        case first =>
          go_wp2_with fail
          go_loopw [8, 9] (fun o_ j_ w' => ∃ (own j : Nat), o_ = .int .i64 own ∧ j_ = .int .i64 j ∧ j ≤ k ∧ own ≤ k ∧ Hid (TsW w w' k A5 c5 k A4 c4 kept same) ∧ Hid (Blk w' Z 65 #[.string y.l, .int .i64 y.a, .int .i64 y.b]) ∧
            Hid ((own = k ∧ ∀ q, q < j → ¬ (same.getD q 0 = (q : Int) ∧ kept[q]? = some y)) ∨ (own < k ∧ kept[own]? = some y ∧ same.getD own 0 = (own : Int)))) (fun _ j_ _ => k - (intOf j_).toNat)
          case atStart => exact ⟨k, 0, rfl, rfl, by omega, by omega, TR3, BX3, Lib.hid (.inl ⟨rfl, fun q hq => absurd hq (by omega)⟩)⟩
          case round =>
            obtain ⟨own, j, rfl, rfl, hj, how, T4, B4, HQ⟩ := hrel
            by_cases hlt2 : j < k
            · rcases HQ.out with ⟨hok, hno⟩ | ⟨hok, hfo, hsf⟩
              · obtain rfl : k = own := hok.symm
                have HN := Lib.hid hno
                clear hno HQ
                obtain ⟨g4, cp4, hv4, hg40, hg41⟩ := T4.out.s.form (by omega)
                obtain rfl : A4 = some ⟨g4, 0, none⟩ := by injection hv4
                obtain ⟨g5, cp5, hv5, hg50, hg51⟩ := T4.out.r.form (by omega)
                obtain rfl : A5 = some ⟨g5, 0, none⟩ := by injection hv5
                have va : wr.cell? ⟨g4, j, none⟩ = some (.int .i64 (same.getD j 0)) := by
                  have := own_at (sz := 1) (enc := intE) (fun _ _ => rfl) T4.out.s hsl.out 0 j (by omega) 0 (by omega)
                  rw [Nat.mul_one, Nat.add_zero] at this; exact this
                obtain ⟨x', hx'⟩ : ∃ x', kept[j]? = some x' := ⟨_, List.getElem?_eq_getElem (by have := hkl.out; omega)⟩
                have hxd : kept.getD j default = x' := by rw [List.getD_eq_getElem?_getD, hx']; rfl
                have cel := fun (q : Nat) (hq : q < 3) => own_at (sz := 3) (enc := Fac.cells) (fun _ _ => rfl) T4.out.r hkl.out default j (by omega) q hq
                rw [hxd] at cel
                have c0 : wr.cell? ⟨g5, j * 3, none⟩ = some (.string x'.l) := cel 0 (by omega)
                have c1 : wr.cell? ⟨g5, j * 3 + 1, none⟩ = some (.int .i64 x'.a) := cel 1 (by omega)
                have c2 : wr.cell? ⟨g5, j * 3 + 2, none⟩ = some (.int .i64 x'.b) := cel 2 (by omega)
                have HX := Lib.hid hx'
                obtain ⟨e0, e1, e2⟩ := B4.out.three
                clear cel hxd hx' hv4 hv5
                obtain ⟨sj, hsj⟩ : ∃ sj, same.getD j 0 = sj := ⟨_, rfl⟩
                rw [hsj] at va
                have HSJ := Lib.hid hsj
                clear hsj
                by_cases hss : sj = (j : Int)
                · subst hss
                  by_cases hxy : x' = y
                  · subst hxy
                    go_wp2_with fail
                    go_region
                    all_goals
                      go_wp2_with fail
                      go_roundw
                      case rel => exact ⟨j, j + 1, rfl, by go_num, by omega, by omega, Lib.hid T4.out.drew, Lib.hid B4.out.drew, Lib.hid (.inr ⟨hlt2, HX.out, HSJ.out⟩)⟩
                      case measure => first | (simp [intOf]; done) | (simp [intOf]; omega)
                  · have hcase : x'.l.toList ≠ y.l.toList ∨ (x'.l.toList = y.l.toList ∧ x'.a ≠ y.a) ∨ (x'.l.toList = y.l.toList ∧ x'.a = y.a ∧ x'.b ≠ y.b) := by
                      by_cases h1 : x'.l.toList = y.l.toList
                      · by_cases h2 : x'.a = y.a
                        · by_cases h3 : x'.b = y.b
                          · exact absurd (fac_ext h1 h2 h3) hxy
                          · exact .inr (.inr ⟨h1, h2, h3⟩)
                        · exact .inr (.inl ⟨h1, h2⟩)
                      · exact .inl h1
                    have HXY := Lib.hid hxy
                    clear hxy
                    rcases hcase with h1 | ⟨h1, h2⟩ | ⟨h1, h2, h3⟩
                    all_goals
                      go_wp2_with fail
                      go_region
                      all_goals
                        go_wp2_with fail
                        go_roundw
                        case rel =>
                          refine ⟨k, j + 1, rfl, by go_num, by omega, by omega, Lib.hid T4.out.drew, Lib.hid B4.out.drew, Lib.hid (.inl ⟨rfl, fun q hq => ?_⟩)⟩
                          rcases Nat.lt_or_ge q j with h | h
                          · exact HN.out q h
                          · obtain rfl : q = j := by omega
                            rintro ⟨-, hh⟩
                            exact HXY.out (by have := HX.out.symm.trans hh; injection this)
                        case measure => first | (simp [intOf]; done) | (simp [intOf]; omega)
                · have hne : (sj == (j : Int)) = false := by simpa using hss
                  go_wp2_with fail
                  go_region
                  all_goals
                    go_wp2_with fail
                    go_roundw
                    case rel =>
                      refine ⟨k, j + 1, rfl, by go_num, by omega, by omega, Lib.hid T4.out.drew, Lib.hid B4.out.drew, Lib.hid (.inl ⟨rfl, fun q hq => ?_⟩)⟩
                      rcases Nat.lt_or_ge q j with h | h
                      · exact HN.out q h
                      · obtain rfl : q = j := by omega
                        rintro ⟨h1, -⟩
                        exact hss (HSJ.out.symm.trans h1)
                    case measure => first | (simp [intOf]; done) | (simp [intOf]; omega)
              · have hne : ((own : Int) == (k : Int)) = false := by simp; omega
                have hid := HS.out own y hfo
                rw [hsf] at hid
                have HID := Lib.hid hid
                clear hid hfo hsf
                go_wp2_with fail
                go_meet
                exact ⟨by rw [HID.out], T4, B4⟩
            · obtain rfl : k = j := by omega
              rcases HQ.out with ⟨hok, hno⟩ | ⟨hok, hfo, hsf⟩
              · obtain rfl : k = own := hok.symm
                have hnm : y ∉ kept := fun hm => by
                  have h1 : kept.idxOf y < kept.length := List.idxOf_lt_length_iff.2 hm
                  have h2 : kept[kept.idxOf y]? = some y := by rw [List.getElem?_eq_getElem h1, List.getElem_idxOf]
                  exact hno _ (by rw [hkl.out] at h1; exact h1) ⟨HS.out _ _ h2, h2⟩
                have HID := Lib.hid (show kept.idxOf y = k by rw [List.idxOf_eq_length hnm, hkl.out])
                clear hno hnm HQ
                go_wp2_with fail
                go_meet
                exact ⟨by rw [HID.out], T4, B4⟩
              · have hid := HS.out own y hfo
                rw [hsf] at hid
                have HID := Lib.hid hid
                clear hid hfo hsf HQ
                go_wp2_with fail
                go_meet
                exact ⟨by rw [HID.out], T4, B4⟩
        case rest =>
          obtain ⟨rfl, TR2, BX2⟩ := hcut
          have HS2 := Lib.hid (hs_step HS.out HI.out.len y)
          generalize hvz : ((kept.idxOf y : Nat) : Int) = v at *
          have TA := Lib.hid (TR2.out.alloc (.cells #[.int .i64 v] 2))
          have BA := Lib.hid (BX2.out.alloc (.cells #[.int .i64 v] 2))
          go_wp2_with
            (first
              | (at_builtin
                 refine wpList_app rfl _ _ _ rfl w.heap.size 2 1 8 elem_int intE A4 k c4 same rfl TA.out.s ⟨wc.heap.size, 0, none⟩ 1 1 [v] rfl rfl (by omega) (news1i (Blk.new wc 2 #[.int .i64 v])) (fun _ _ => rfl) (by simp [intE, Value.oneCell']) (by omega) (by omega) (by unfold maxLen; omega) TA.out.e.size ?_
                 intro A8 c8 w8 own8 hg8 hat8
                 have TB := Lib.hid (TA.out.pushS own8 hg8)
                 have BB := Lib.hid (BA.out.grown hg8 nbS.out)
                 obtain ⟨d0, d1, d2⟩ := BB.out.three
                 have lx := BB.out.lt
                 have TC := Lib.hid (TB.out.alloc (.cells #[.string y.l, .int .i64 y.a, .int .i64 y.b] 65))
                 clear own8 hg8 hat8)
              | (at_builtin
                 refine wpList_app rfl _ _ _ rfl w.heap.size 65 3 32 elem_rule Fac.cells A5 k c5 kept rfl TC.out.r ⟨w8.heap.size, 0, none⟩ 1 1 [y] rfl rfl (by omega) (news1 (Blk.new w8 65 #[.string y.l, .int .i64 y.a, .int .i64 y.b])) (fun x _ => fac_len x) (fun x _ => one_fac x) (by omega) (by omega) (by unfold maxLen; omega) TC.out.e.size ?_
                 intro A9 c9 w9 own9 hg9 hat9
                 have TD := Lib.hid (TC.out.pushR own9 hg9)
                 clear own9 hg9 hat9))
          go_roundw
          case rel => exact ⟨k + 1, A8, c8, A9, c9, kept ++ [y], same ++ [v], by go_num, rfl, rfl, by omega, TD, HS2, HI2, Lib.hid (by rw [List.length_append, hkl.out]; rfl), Hstep⟩
          case measure => first | (simp [intOf]; done) | (simp [intOf]; omega)
    · obtain rfl : k = n := by omega
      have HA := Lib.hid (trK_all (by rw [hl.out]; omega) HK.out)
      have mkB := fun W => makeB k W (by omega)
      go_upto_if 86 with fail
      refine named fun w2 H2 => ?_
      have TU := Lib.hid (show TsW w w2 k A5 c5 k A4 c4 kept same by rw [H2.out]; exact TR.out.alloc _)
      have BU := Lib.hid (show Blk w2 wr.heap.size 4 (boolA (List.replicate k false)) by rw [H2.out]; exact Blk.new wr _ _)
      have hbd := Lib.hid TR.out.bnd
      clear H2 TR mkB
      generalize wr.heap.size = U at *
      go_cut [] (fun wx => ∃ u, Hid (TsW w wx k A5 c5 k A4 c4 kept same) ∧ Hid (Blk wx U 4 (boolA u)) ∧ Hid (u.length = k) ∧ Hid (trimL rs = outT (useT kept k u) 0 kept [] (List.replicate k 0)))
      case first =>
        rcases Nat.eq_zero_or_pos k with hk0 | hk0
        · have hkey := Lib.hid (show trimL rs = outT (useT kept k (List.replicate k false)) 0 kept [] (List.replicate k 0) by
            unfold trimL
            rw [if_pos (by rw [hl.out]; exact hk0), List.eq_nil_of_length_eq_zero (hkl.out.trans hk0)]
            rfl)
          have hlt0 : ¬ (0 : Int) < (k : Int) := by omega
          clear hk0
          go_wp2_with fail
          go_meet
          exact ⟨_, TU, BU, Lib.hid (by simp), hkey⟩
        · have hI := HI.out
          have sv := hI.s (k - 1) (by have := hkl.out; omega)
          obtain ⟨g4, cp4, hv4, hg40, hg41⟩ := TU.out.s.form (by omega)
          obtain rfl : A4 = some ⟨g4, 0, none⟩ := by injection hv4
          have cs : w2.cell? ⟨g4, k - 1, none⟩ = some (.int .i64 (same.getD (k - 1) 0)) := by
            have := own_at (sz := 1) (enc := intE) (fun _ _ => rfl) TU.out.s (hI.len.trans hkl.out) 0 (k - 1) (by omega) 0 (by omega)
            rw [Nat.mul_one, Nat.add_zero] at this; exact this
          have hkey := Lib.hid (show trimL rs = outT (useT kept k ((List.replicate k false).set (same.getD (k - 1) 0).toNat true)) 0 kept [] (List.replicate k 0) by
            unfold trimL
            rw [← HA.out, hl.out, if_neg (by omega)]
            rfl)
          generalize same.getD (k - 1) 0 = z at *
          obtain ⟨z0, z1⟩ := sv
          have u1 : IntKind.i64.wrap ((k : Int) - 1) = (k : Int) - 1 := IntWalk.i64_in _ (by omega)
          have z2 : z < (k : Int) := by omega
          have j0 : (0 : Int) ≤ (k : Int) - 1 := by omega
          have j1 : (k : Int) - 1 < (k : Int) := by omega
          have jn : ((k : Int) - 1).toNat = k - 1 := by omega
          have bz := BU.out.cell z.toNat
          rw [boolA_at _ (by rw [List.length_replicate]; omega)] at bz
          have fz := BU.out.frozen
          have zk : z.toNat < k := by omega
          have hk1 : (0 : Int) < (k : Int) := by omega
          clear hv4 hI
          go_wp2_with fail
          go_meet
          have B6 := BU.out.set_ z.toNat (.bool true)
          rw [boolA_set] at B6
          refine ⟨(List.replicate k false).set z.toNat true, ?_, Lib.hid B6, Lib.hid (by simp), hkey⟩
          exact (Lib.hid (TU.out.far (gb_set w2 U _ _) (fun e => by have := hbd.out.1 _ e.symm; omega) (fun e => by have := hbd.out.2.1 _ e.symm; omega) hbd.out.2.2))
      case rest =>
        obtain ⟨u0, TV, BV, hu0, key0⟩ := hcut
        clear TU BU
        have u1 : IntKind.i64.wrap ((k : Int) - 1) = (k : Int) - 1 := IntWalk.i64_in _ (by omega)
        go_wp2_with fail
        refine named fun w3 H3 => ?_
        have TW := Lib.hid (show TsW w w3 k A5 c5 k A4 c4 kept same by rw [H3.out]; exact TV.out)
        have BW := Lib.hid (show Blk w3 U 4 (boolA u0) by rw [H3.out]; exact BV.out)
        clear H3 TV BV
        go_loopw [11] (fun j_ w' => ∃ (j : Nat) (u : List Bool) (y : Int), j_ = .int .i64 y ∧ y + 1 = (j : Int) ∧ j ≤ k ∧ Hid (TsW w w' k A5 c5 k A4 c4 kept same) ∧ Hid (Blk w' U 4 (boolA u)) ∧ Hid (u.length = k) ∧
          Hid (useT kept j u = useT kept k u0)) (fun j_ _ => (intOf j_ + 1).toNat)
        case atStart => exact ⟨k, _, _, rfl, by omega, Nat.le_refl _, TW, BW, hu0, Lib.hid rfl⟩
        case round =>
          obtain ⟨j, u, y, rfl, hy, hj, T2, B2, hu, HU⟩ := hrel
          rcases j with _ | i
          · obtain rfl : y = -1 := by omega
            have e := HU.out
            rw [show useT kept 0 u = u from rfl] at e
            have key := Lib.hid (show trimL rs = outT u 0 kept [] (List.replicate k 0) by rw [key0.out, ← e])
            have ulen := hu
            clear e HU hy hj key0
            have mkN := fun W => makeN k W (by omega)
            go_wp2_with fail
            refine named fun w4 H4 => ?_
            have lo := T2.out.o.lt
            have lu := B2.out.lt
            have n6 := T2.out.bnd.1
            have O1 : OutW w.heap.size w w4 A5 c5 k kept (wr.heap.size + 2) U u wr.heap.size (List.replicate k 0) (wr.heap.size + 1) none 0 0 [] := by
              rw [H4.out]
              have hb : Below wr.heap.size wr ((wr.alloc (.cells (intA (List.replicate k 0)) 2)).alloc (.cells #[.slice none 0 0] 26)) := ((Below.refl _ _).alloc (Nat.le_refl _) _).alloc (by simp) _
              have T5 := T2.out.next hb
              refine ⟨T5.r, B2.out.next hb, (Blk.new wr _ _).alloc _, ?_, T5.o, World.ownsRow_nil _ _ _ _, T5.e, Nat.le_refl _, by omega, by omega, by have := T2.out.e.size; have := hbd.out.2.2; omega, by omega, by simp, fun q hq => by have := n6 q hq; omega⟩
              have h := Blk.new (wr.alloc (.cells (intA (List.replicate k 0)) 2)) 26 #[.slice none 0 0]
              rw [show (wr.alloc (.cells (intA (List.replicate k 0)) 2)).heap.size = wr.heap.size + 1 by simp] at h
              exact h
            have O1' := Lib.hid O1
            clear O1 H4 T2 B2 n6 lo lu mkN hbd
            generalize hB : wr.heap.size + 1 = B at *
            have hB' := Lib.hid hB
            clear hB
            generalize wr.heap.size = V at *
            generalize V + 2 = X at *
            go_loopw [14] (fun i_ w' => ∃ (i nn : Nat) (A7 : Option Addr) (c7 : Nat) (out : List Fac) (at_ : List Int), i_ = .int .i64 i ∧ i ≤ k ∧ nn ≤ i ∧ Hid (OutW w.heap.size w w' A5 c5 k kept X U u V at_ B A7 nn c7 out) ∧ Hid (out.length = nn) ∧ Hid (at_.length = k) ∧
              Hid (outT u i (kept.drop i) out at_ = outT u 0 kept [] (List.replicate k 0))) (fun i_ _ => k - (intOf i_).toNat)
            case atStart =>
              exact ⟨0, 0, none, 0, [], _, rfl, by omega, by omega, O1', Lib.hid rfl, Lib.hid (by simp), Lib.hid rfl⟩
            case round =>
              obtain ⟨i, nn, A7, c7, out, at_, rfl, hi, hnn, O2, hol, hal, HO⟩ := hrel
              by_cases hlt : i < k
              · obtain ⟨g5, cp5, hv5, hg50, hg51⟩ := O2.out.r.form (by omega)
                obtain rfl : A5 = some ⟨g5, 0, none⟩ := by injection hv5
                obtain ⟨x, hx⟩ : ∃ x, kept[i]? = some x := ⟨_, List.getElem?_eq_getElem (by have := hkl.out; omega)⟩
                have hxd : kept.getD i default = x := by rw [List.getD_eq_getElem?_getD, hx]; rfl
                have cel := fun (q : Nat) (hq : q < 3) => own_at (sz := 3) (enc := Fac.cells) (fun _ _ => rfl) O2.out.r hkl.out default i (by omega) q hq
                rw [hxd] at cel
                have c0 : wr.cell? ⟨g5, i * 3, none⟩ = some (.string x.l) := cel 0 (by omega)
                have c1 : wr.cell? ⟨g5, i * 3 + 1, none⟩ = some (.int .i64 x.a) := cel 1 (by omega)
                have c2 : wr.cell? ⟨g5, i * 3 + 2, none⟩ = some (.int .i64 x.b) := cel 2 (by omega)
                have nV : V ≠ g5 := fun e => own_blk_ne O2.out.r O2.out.v (by decide) (by rw [e]; rfl)
                have nBV : B ≠ V := by have := hB'.out; omega
                clear cel hxd hv5
                have bu := O2.out.u.cell i
                rw [boolA_at u (i := i) (by have := ulen.out; omega)] at bu
                have ho := HO.out
                rw [drop_cons hx] at ho
                have HX := Lib.hid hx
                obtain ⟨ub, hub⟩ : ∃ ub, u.getD i false = ub := ⟨_, rfl⟩
                rw [hub] at bu
                have Hub := Lib.hid hub
                clear hub hx
                cases ub
                · have e : outT u (i + 1) (kept.drop (i + 1)) out at_ = outT u 0 kept [] (List.replicate k 0) := by
                    rw [← ho, outT, if_neg (by rw [Hub.out]; simp)]
                  have E := Lib.hid e
                  clear e ho
                  go_wp2_with fail
                  go_roundw
                  case rel => exact ⟨i + 1, nn, A7, c7, out, at_, by go_num, by omega, by omega, O2, hol, hal, E⟩
                  case measure => first | (simp [intOf]; done) | (simp [intOf]; omega)
                · have e : outT u (i + 1) (kept.drop (i + 1)) (out ++ [trR at_ x]) (at_.set i (nn : Int)) = outT u 0 kept [] (List.replicate k 0) := by
                    rw [← ho, outT, if_pos Hub.out, hol.out]
                  have E := Lib.hid e
                  clear e ho
                  have Hset := Lib.hid (show trR (at_.set i (nn : Int)) x = trR at_ x from trR_set (fun h0 => by
                    rcases HI.out.k i x HX.out with ⟨_, ha0, ha1, hb0, hb1⟩ | ⟨cc, hcc, hxl, hxa, hxb⟩
                    · exact ⟨ha0, ha1, hb0, hb1⟩
                    · rw [hxl] at h0; exact absurd h0 (show (1 : Nat) ≠ 0 by omega)))
                  have f5 := O2.out.v.frozen
                  have v5 := O2.out.v.cell i
                  rw [intA_at at_ (by have := hal.out; omega)] at v5
                  have b5 := O2.out.b.cell 0
                  go_upto_if 151 with fail
                  refine named fun w1 H1 => ?_
                  have O3 := Lib.hid (show OutW w.heap.size w w1 (some ⟨g5, 0, none⟩) c5 k kept X U u V (at_.set i (nn : Int)) B A7 nn c7 out by rw [H1.out]; exact (O2.out.tell i (nn : Int)).alloc _)
                  have BX1 := Lib.hid (show Blk w1 wr.heap.size 65 #[.string x.l, .int .i64 x.a, .int .i64 x.b] by
                    rw [H1.out]
                    have h := Blk.new (wr.setCell ⟨V, i, none⟩ (.int .i64 (nn : Int))) 65 #[.string x.l, .int .i64 x.a, .int .i64 x.b]
                    rw [show (wr.setCell ⟨V, i, none⟩ (.int .i64 (nn : Int))).heap.size = wr.heap.size by simp] at h
                    exact h)
                  have q1 : some wr.heap.size ≠ (Value.slice (some ⟨g5, 0, none⟩) k c5).ownBlock := fun e => by have := (O2.out.r.lt _ e.symm).2; omega
                  have q2 : some wr.heap.size ≠ (Value.slice A7 nn c7).ownBlock := fun e => by have := (O2.out.q.lt _ e.symm).2; omega
                  have q3 := O2.out.u.lt
                  have q4 := O2.out.v.lt
                  have q5 := O2.out.b.lt
                  have q6 := O2.out.o.lt
                  have Q1 := Lib.hid q1
                  have Q2 := Lib.hid q2
                  clear q1 q2 H1 c0 c1 c2 bu v5 f5 b5
                  generalize wr.heap.size = Z at *
                  go_cut [] (fun wx => Hid (OutW w.heap.size w wx (some ⟨g5, 0, none⟩) c5 k kept X U u V (at_.set i (nn : Int)) B A7 nn c7 out) ∧ Hid (Blk wx Z 65 #[.string (trR at_ x).l, .int .i64 (trR at_ x).a, .int .i64 (trR at_ x).b]))
                  case first =>
                    rcases HI.out.k i x HX.out with ⟨h0, ha0, ha1, hb0, hb1⟩ | ⟨cc, hcc, hxl, hxa, hxb⟩
                    · have e0 := size0 h0
                      have he : x.l.toList.isEmpty = true := by rw [e0]; rfl
                      have Hy := Lib.hid (show trR at_ x = ⟨⟨#[]⟩, (at_.set i (nn : Int)).getD x.a.toNat 0, (at_.set i (nn : Int)).getD x.b.toNat 0⟩ by rw [← Hset.out]; unfold trR; rw [if_pos h0])
                      have va := O3.out.v.cell x.a.toNat
                      rw [intA_at _ (by rw [List.length_set]; have := hal.out; omega)] at va
                      have vb := O3.out.v.cell x.b.toNat
                      rw [intA_at _ (by rw [List.length_set]; have := hal.out; omega)] at vb
                      obtain ⟨sa, hsa⟩ : ∃ sa, (at_.set i (nn : Int)).getD x.a.toNat 0 = sa := ⟨_, rfl⟩
                      obtain ⟨sb, hsb⟩ : ∃ sb, (at_.set i (nn : Int)).getD x.b.toNat 0 = sb := ⟨_, rfl⟩
                      rw [hsa] at va
                      rw [hsb] at vb
                      have Hy2 := Lib.hid (show trR at_ x = ⟨⟨#[]⟩, sa, sb⟩ by rw [Hy.out, hsa, hsb])
                      obtain ⟨d0, d1, d2⟩ := BX1.out.three
                      have lx := BX1.out.lt
                      have fx := BX1.out.frozen
                      have i1 : x.a < (k : Int) := by omega
                      have i2 : x.b < (k : Int) := by omega
                      clear hsa hsb Hy
                      simp only [he]
                      clear he e0
                      go_wp2_with fail
                      go_region
                      all_goals
                        go_wp2_with fail
                        go_meet
                        have BY := ((BX1.out.set_ 0 (.string .empty)).set_ 1 (.int .i64 sa)).set_ 2 (.int .i64 sb)
                        have hgm := gb_setCell (gb_setCell (gb_set w1 Z 0 (.string .empty)) 1 (.int .i64 sa)) 2 (.int .i64 sb)
                        refine ⟨Lib.hid (O3.out.far hgm Q1.out Q2.out (by omega) (by omega) (by omega) (by omega)).drew, Lib.hid ?_⟩
                        rw [Hy2.out]; exact BY.drew
                    · have e0 : x.l.toList ≠ [] := size1 (by rw [hxl]; show (1 : Nat) ≠ 0; omega)
                      have he : x.l.toList.isEmpty = false := by rw [List.isEmpty_eq_false_iff]; exact e0
                      have Hy := Lib.hid (show trR at_ x = x by unfold trR; rw [if_neg (by rw [hxl]; show (1 : Nat) ≠ 0; omega)])
                      clear hxl hxa hxb
                      simp only [he]
                      clear he e0
                      go_wp2_with fail
                      go_meet
                      exact ⟨O3, by rw [Hy.out]; exact BX1⟩
                  case rest =>
                    obtain ⟨O5, BX5⟩ := hcut
                    clear O3 BX1
                    generalize trR at_ x = y at *
                    have b5 := O5.out.b.cell 0
                    obtain ⟨e0, e1, e2⟩ := BX5.out.three
                    have O7 := Lib.hid (O5.out.alloc (.cells #[.string y.l, .int .i64 y.a, .int .i64 y.b] 65))
                    have BN := Lib.hid (Blk.new wc 65 #[.string y.l, .int .i64 y.a, .int .i64 y.b])
                    go_wp2_with
                      (at_builtin
                       refine wpList_app rfl _ _ _ rfl X 65 3 32 elem_rule Fac.cells A7 nn c7 out rfl O7.out.q ⟨wc.heap.size, 0, none⟩ 1 1 [y] rfl rfl (by omega) (news1 BN.out) (fun x _ => fac_len x) (fun x _ => one_fac x) (by omega) (by omega) (by unfold maxLen; omega) O7.out.n5 ?_
                       intro A9 c9 w9 own9 hg9 hat9
                       have O8 := Lib.hid (O7.out.push own9 hg9)
                       have B9 := O7.out.b.grown hg9 (own_blk_ne O7.out.q O7.out.b (by decide))
                       have f9 := B9.frozen
                       have d9 := B9.cell 0
                       have l9 := B9.lt
                       clear own9 B9)
                    go_roundw
                    case rel => exact ⟨i + 1, nn + 1, A9, c9, out ++ [y], at_.set i (nn : Int), by go_num, by omega, by omega, O8, Lib.hid (by simp [hol.out]), Lib.hid (by simp [hal.out]), E⟩
                    case measure => first | (simp [intOf]; done) | (simp [intOf]; omega)
              · obtain rfl : k = i := by omega
                have hk2 := Lib.hid (show trimL rs = out by
                  rw [key.out, ← HO.out, List.drop_of_length_le (by rw [hkl.out]; exact Nat.le_refl _)]; rfl)
                have b0 := O2.out.b.cell 0
                have o0 := O2.out.o.cell 0
                have fo := O2.out.o.frozen
                go_wp2_with fail
                have hg := gb_set wr w.heap.size 0 (.slice A7 nn c7)
                have x9 := O2.out.o.set_ 0 (.slice A7 nn c7)
                have x10 : (wr.setCell ⟨w.heap.size, 0, none⟩ (.slice A7 nn c7)).cell? ⟨w.heap.size, 0, none⟩ = some (.slice A7 nn c7) := by rw [x9.cell 0]; rfl
                refine bodyPost_ret (v := .agg #[.slice A7 nn c7]) (by simp [results, Try.results53, go_sem, x10]) rfl ⟨A7, c7, by rw [hk2.out, hol.out], ?_, O2.out.e.grown hg O2.out.e.size (fun q hq => by injection hq with hq; omega)⟩
                rw [hk2.out, hol.out]
                exact (O2.out.q.kept hg (.inr fun e => own_blk_ne O2.out.q O2.out.o (by decide) e.symm)).mono (by have := O2.out.n1; have := O2.out.n2; omega)
          · obtain rfl : y = (i : Int) := by omega
            obtain ⟨g5, cp5, hv5, hg50, hg51⟩ := T2.out.r.form (by omega)
            obtain rfl : A5 = some ⟨g5, 0, none⟩ := by injection hv5
            obtain ⟨x, hx⟩ : ∃ x, kept[i]? = some x := ⟨_, List.getElem?_eq_getElem (by have := hkl.out; omega)⟩
            have hxd : kept.getD i default = x := by rw [List.getD_eq_getElem?_getD, hx]; rfl
            have cel := fun (q : Nat) (hq : q < 3) => own_at (sz := 3) (enc := Fac.cells) (fun _ _ => rfl) T2.out.r hkl.out default i (by omega) q hq
            rw [hxd] at cel
            have c0 : wr.cell? ⟨g5, i * 3, none⟩ = some (.string x.l) := cel 0 (by omega)
            have c1 : wr.cell? ⟨g5, i * 3 + 1, none⟩ = some (.int .i64 x.a) := cel 1 (by omega)
            have c2 : wr.cell? ⟨g5, i * 3 + 2, none⟩ = some (.int .i64 x.b) := cel 2 (by omega)
            clear cel hv5
            have bu := B2.out.cell i
            rw [boolA_at u (i := i) (by have := hu.out; omega)] at bu
            have Hus := Lib.hid (show useStep kept i u = if u.getD i false = true ∧ x.l.size = 0 then (u.set x.a.toNat true).set x.b.toNat true else u by unfold useStep; rw [hxd])
            have HU' := Lib.hid (show useT kept i (useStep kept i u) = useT kept k u0 from HU.out)
            have HX := Lib.hid hx
            clear HU hx hxd
            obtain ⟨ub, hub⟩ : ∃ ub, u.getD i false = ub := ⟨_, rfl⟩
            rw [hub] at bu
            have Hub := Lib.hid hub
            clear hub
            have u2 : IntKind.i64.wrap ((i : Int) - 1) = (i : Int) - 1 := IntWalk.i64_in _ (by omega)
            cases ub
            · have e := Hus.out
              rw [Hub.out, if_neg (by simp)] at e
              have E := Lib.hid e
              clear e
              go_wp2_with fail
              go_roundw
              case rel => exact ⟨i, u, _, rfl, by omega, by omega, T2, B2, hu, by rw [E.out] at HU'; exact HU'⟩
              case measure => first | (simp [intOf]; done) | (simp [intOf]; omega)
            · rcases HI.out.k i x HX.out with ⟨h0, ha0, ha1, hb0, hb1⟩ | ⟨cc, hcc, hxl, hxa, hxb⟩
              · have e := Hus.out
                rw [Hub.out, if_pos ⟨rfl, h0⟩] at e
                have E := Lib.hid e
                clear e
                have e0 := size0 h0
                have he : x.l.toList.isEmpty = true := by rw [e0]; rfl
                have nU : U ≠ g5 := fun e => by have := hbd.out.1 g5 rfl; omega
                have fU := B2.out.frozen
                have da := B2.out.cell x.a.toNat
                rw [boolA_at u (by have := hu.out; omega)] at da
                have B5 := B2.out.set_ x.a.toNat (.bool true)
                rw [boolA_set] at B5
                have db2 := B5.cell x.b.toNat
                rw [boolA_at _ (by have := hu.out; rw [List.length_set]; omega)] at db2
                have fU5 := B5.frozen
                clear B5
                have ab : x.a < (k : Int) := by omega
                have bb : x.b < (k : Int) := by omega
                go_wp2_with fail
                go_roundw
                case rel =>
                  have B6 := (B2.out.set_ x.a.toNat (.bool true)).set_ x.b.toNat (.bool true)
                  rw [boolA_set, boolA_set, ← E.out] at B6
                  exact ⟨i, useStep kept i u, _, rfl, by omega, by omega, Lib.hid (T2.out.far (gb_setCell (gb_set wr U _ _) _ _) (fun e => by have := hbd.out.1 _ e.symm; omega) (fun e => by have := hbd.out.2.1 _ e.symm; omega) hbd.out.2.2), Lib.hid B6, Lib.hid (by rw [E.out]; simp [hu.out]), HU'⟩
                case measure => first | (simp [intOf]; done) | (simp [intOf]; omega)
              · have e := Hus.out
                rw [if_neg (by rw [hxl]; rintro ⟨-, h⟩; exact absurd h (show (1 : Nat) ≠ 0 by omega))] at e
                have E := Lib.hid e
                have e0 : x.l.toList ≠ [] := size1 (by rw [hxl]; show (1 : Nat) ≠ 0; omega)
                have he : x.l.toList.isEmpty = false := by rw [List.isEmpty_eq_false_iff]; exact e0
                clear e hxl hxa hxb
                go_wp2_with fail
                go_roundw
                case rel => exact ⟨i, u, _, rfl, by omega, by omega, T2, B2, hu, by rw [E.out] at HU'; exact HU'⟩
                case measure => first | (simp [intOf]; done) | (simp [intOf]; omega)
end Go.Proofs.Ytfanphhlagjkdaa


/-
  TrimGrammar on both sides.
-/
namespace Go.Proofs.Ytfanphhlagjkdaa
open Go.RowKit

/-- a grammar in new memory, and a code -/
def RetGC (w0 : World) (xs : List Fac) (k : Int) (e : Ending) (w' : World) : Prop :=
  ∃ A c, e = .returned (.tuple #[.agg #[.slice A xs.length c], .int .i64 k]) ∧ w'.ownsRow w0.heap.size 65 3 (.slice A xs.length c) xs.length (xs.flatMap Fac.cells) ∧ Below w0.heap.size w0 w'
def trimF (rs : List Fac) : List Fac := if (gOk rs).isSome then trimL rs else []
def trimC (rs : List Fac) : Int := if (gOk rs).isSome then 0 else 1
theorem outT_len (used : List Bool) : ∀ (ks : List Fac) (i : Nat) (out : List Fac) (at_ : List Int), (outT used i ks out at_).length ≤ out.length + ks.length
  | [], i, out, at_ => by simp [outT]
  | r :: ks, i, out, at_ => by
    rw [outT]
    split
    · have := outT_len used ks (i + 1) (out ++ [trR at_ r]) (at_.set i (out.length : Int))
      simp only [List.length_append, List.length_singleton] at this
      simp only [List.length_cons]; omega
    · have := outT_len used ks (i + 1) out at_
      simp only [List.length_cons]; omega
theorem trK_len : ∀ (rs kept : List Fac) (same : List Int), (trK rs kept same).1.length = kept.length + rs.length
  | [], kept, same => by simp [trK]
  | r :: rs, kept, same => by
    rw [trK, trK_len rs]; simp; omega
theorem trimF_len (rs : List Fac) : (trimF rs).length ≤ rs.length := by
  unfold trimF
  split
  · unfold trimL
    split
    · simp
    · have h1 := outT_len (useT (trK rs [] []).1 rs.length (use0 rs.length (trK rs [] []).2)) (trK rs [] []).1 0 [] (List.replicate rs.length 0)
      have h2 := trK_len rs [] []
      simp only [List.length_nil, Nat.zero_add] at h1 h2
      omega
  · simp
end Go.Proofs.Ytfanphhlagjkdaa


/-
  A grammar, if it is valid: in the program and in the reference.
-/
namespace Go.Proofs.Ytfanphhlagjkdaa
open Go.RowKit

/-- a grammar if it is valid, or the word that there is too much -/
def orLim (A : Option Addr) (n c : Nat) (b : Bool) : Value := bif b then .tuple #[.agg #[.slice A n c], .int .i64 0] else .tuple #[.agg #[.slice none 0 0], .int .i64 3]
def limF (rs : List Fac) : List Fac := if (gOk rs).isSome then rs else []
def limC (rs : List Fac) : Int := if (gOk rs).isSome then 0 else 3
theorem orLim_ret {w0 w w' : World} {A : Option Addr} {n c : Nat} {rs : List Fac} (hl : rs.length = n) (ho : w.ownsRow w0.heap.size 65 3 (.slice A n c) n (rs.flatMap Fac.cells)) (h0 : Below w0.heap.size w0 w) (hb : Below w.heap.size w w') :
    RetGC w0 (limF rs) (limC rs) (.returned (orLim A n c (gOk rs).isSome)) w' := by
  have h1 := h0.trans (hb.mono h0.size)
  unfold limF limC orLim
  rcases (gOk rs).isSome with _ | _
  · exact ⟨none, 0, rfl, World.ownsRow_nil _ _ _ _, h1⟩
  · exact ⟨A, c, by simp [hl], by simpa [hl] using own_next ho hb, h1⟩
theorem tuple2_ret {a b : Value} (h : a = b) : Ending.returned a = .returned b := by rw [h]
set_option maxHeartbeats 1000000 in
theorem orLimit_any (A : Option Addr) (n c : Nat) (rs : List Fac) (w : World) (hn : n ≤ 100000000) (hr : Rd w w.heap.size A n 3 Fac.cells rs) (hok : ∀ f ∈ rs, f.l.size ≤ maxLen) :
    Calls Try.prog 34 #[.agg #[.slice A n c]] w (Ret (orLim A n c (gOk rs).isSome) w) := by
  have HR := Lib.hid hr; clear hr
  have HO := Lib.hid hok; clear hok
  obtain ⟨b, hb⟩ : ∃ b, (gOk rs).isSome = b := ⟨_, rfl⟩
  rw [hb]
  have Hb := Lib.hid hb; clear hb
  have hT := Lib.hid (show orLim A n c b = bif b then .tuple #[.agg #[.slice A n c], .int .i64 0] else .tuple #[.agg #[.slice none 0 0], .int .i64 3] from rfl)
  generalize orLim A n c b = T at *
  go_enter Try.func34, Try.ntmps34
  go_wp2_with fail
  refine namedC fun w3 H3 => ?_
  have hb3 : Below w.heap.size w w3 := by rw [H3.out]; (repeat first | exact Below.refl _ _ | assumption | refine Below.drew ?_ | refine Below.alloc ?_ (by first | exact Nat.le_refl _ | (simp; done) | omega | (simp; omega)) _ | refine Below.setCell ?_ (by first | exact Nat.le_refl _ | (simp; done) | omega | (simp; omega)) _)
  have BG := Lib.hid (show Blk w3 w.heap.size 26 #[.slice A n c] by rw [H3.out]; exact (Blk.new _ _ _).alloc _)
  have BC := Lib.hid (show Blk w3 (w.heap.size + 1) 26 #[.slice none 0 0] by rw [H3.out]; simpa using Blk.new (w.alloc (.cells #[.slice A n c] 26)) 26 #[.slice none 0 0])
  clear H3
  refine (validG_any A n c rs w3 hn (HR.out.next hb3) HO.out b Hb.out).mono ?_
  rintro e1 w4 ⟨rfl, hb4⟩
  have b4 := hb3.trans (hb4.mono hb3.size)
  have BC4 := BC.out.next hb4
  have BG4 := BG.out.next hb4
  have d4 := BC4.cell 0
  have f4 := BC4.frozen
  have l4 := BC4.lt
  have g4 := BG4.cell 0
  cases b
  · have B5 := BC4.set_ 0 (.slice none 0 0)
    have x5 : (w4.setCell ⟨w.heap.size + 1, 0, none⟩ (.slice none 0 0)).cell? ⟨w.heap.size + 1, 0, none⟩ = some (.slice none 0 0) := by rw [B5.cell 0]; rfl
    have b5 := b4.setCell (p := ⟨w.heap.size + 1, 0, none⟩) (by simp) (.slice none 0 0)
    clear B5 BC4 BG4
    go_wp2_with fail
    exact bodyPost_ret (v := .tuple #[.agg #[.slice none 0 0], .int .i64 3]) (by simp [results, Try.results34, go_sem, x5]) rfl ⟨by rw [hT.out]; rfl, b5⟩
  · have B5 := BC4.set_ 0 (.slice A n c)
    have x5 : (w4.setCell ⟨w.heap.size + 1, 0, none⟩ (.slice A n c)).cell? ⟨w.heap.size + 1, 0, none⟩ = some (.slice A n c) := by rw [B5.cell 0]; rfl
    have b5 := b4.setCell (p := ⟨w.heap.size + 1, 0, none⟩) (by simp) (.slice A n c)
    clear B5 BC4 BG4
    go_wp2_with fail
    exact bodyPost_ret (v := .tuple #[.agg #[.slice A n c], .int .i64 0]) (by simp [results, Try.results34, go_sem, x5]) rfl ⟨by rw [hT.out]; rfl, b5⟩
theorem orLimit_yes (A : Option Addr) (n c : Nat) (rs : List Fac) (w : World) (hn : n ≤ 100000000) (hr : Rd w w.heap.size A n 3 Fac.cells rs) (hok : ∀ f ∈ rs, f.l.size ≤ maxLen) (h : (gOk rs).isSome = true) :
    Calls Try.prog 34 #[.agg #[.slice A n c]] w (Ret (.tuple #[.agg #[.slice A n c], .int .i64 0]) w) := by
  have := orLimit_any A n c rs w hn hr hok
  rw [h] at this; exact this
theorem orLimit_no (A : Option Addr) (n c : Nat) (rs : List Fac) (w : World) (hn : n ≤ 100000000) (hr : Rd w w.heap.size A n 3 Fac.cells rs) (hok : ∀ f ∈ rs, f.l.size ≤ maxLen) (h : (gOk rs).isSome = false) :
    Calls Try.prog 34 #[.agg #[.slice A n c]] w (Ret (.tuple #[.agg #[.slice none 0 0], .int .i64 3]) w) := by
  have := orLimit_any A n c rs w hn hr hok
  rw [h] at this; exact this
set_option maxHeartbeats 1000000 in
theorem l02Told_any (A : Option Addr) (n c : Nat) (rs : List Fac) (w : World) (hn : n ≤ 100000000) (hr : Rd w w.heap.size A n 3 Fac.cells rs) (hok : ∀ f ∈ rs, f.l.size ≤ maxLen) :
    Calls Try.prog 52 #[.agg #[.slice A n c]] w (Ret (orLim A n c (gOk rs).isSome) w) := by
  have HR := Lib.hid hr; clear hr
  have HO := Lib.hid hok; clear hok
  obtain ⟨b, hb⟩ : ∃ b, (gOk rs).isSome = b := ⟨_, rfl⟩
  rw [hb]
  have Hb := Lib.hid hb; clear hb
  have hT := Lib.hid (show orLim A n c b = bif b then .tuple #[.agg #[.slice A n c], .int .i64 0] else .tuple #[.agg #[.slice none 0 0], .int .i64 3] from rfl)
  generalize orLim A n c b = T at *
  go_enter Try.func52, Try.ntmps52
  go_wp2_with fail
  refine namedC fun w3 H3 => ?_
  have hb3 : Below w.heap.size w w3 := by rw [H3.out]; (repeat first | exact Below.refl _ _ | assumption | refine Below.drew ?_ | refine Below.alloc ?_ (by first | exact Nat.le_refl _ | (simp; done) | omega | (simp; omega)) _ | refine Below.setCell ?_ (by first | exact Nat.le_refl _ | (simp; done) | omega | (simp; omega)) _)
  have BG := Lib.hid (show Blk w3 w.heap.size 26 #[.slice A n c] by rw [H3.out]; exact (Blk.new _ _ _).alloc _)
  have BC := Lib.hid (show Blk w3 (w.heap.size + 1) 26 #[.slice none 0 0] by rw [H3.out]; simpa using Blk.new (w.alloc (.cells #[.slice A n c] 26)) 26 #[.slice none 0 0])
  clear H3
  refine (l02Ok_any w.heap.size A n c rs w3 BG.out.lt (BG.out.cell 0) hn (HR.out.next hb3) HO.out b Hb.out).mono ?_
  rintro e1 w4 ⟨rfl, hb4⟩
  have b4 := hb3.trans (hb4.mono hb3.size)
  have BC4 := BC.out.next hb4
  have BG4 := BG.out.next hb4
  have d4 := BC4.cell 0
  have f4 := BC4.frozen
  have l4 := BC4.lt
  have g4 := BG4.cell 0
  cases b
  · have B5 := BC4.set_ 0 (.slice none 0 0)
    have x5 : (w4.setCell ⟨w.heap.size + 1, 0, none⟩ (.slice none 0 0)).cell? ⟨w.heap.size + 1, 0, none⟩ = some (.slice none 0 0) := by rw [B5.cell 0]; rfl
    have b5 := b4.setCell (p := ⟨w.heap.size + 1, 0, none⟩) (by simp) (.slice none 0 0)
    clear B5 BC4 BG4
    go_wp2_with fail
    exact bodyPost_ret (v := .tuple #[.agg #[.slice none 0 0], .int .i64 3]) (by simp [results, Try.results52, go_sem, x5]) rfl ⟨by rw [hT.out]; rfl, b5⟩
  · have B5 := BC4.set_ 0 (.slice A n c)
    have x5 : (w4.setCell ⟨w.heap.size + 1, 0, none⟩ (.slice A n c)).cell? ⟨w.heap.size + 1, 0, none⟩ = some (.slice A n c) := by rw [B5.cell 0]; rfl
    have b5 := b4.setCell (p := ⟨w.heap.size + 1, 0, none⟩) (by simp) (.slice A n c)
    clear B5 BC4 BG4
    go_wp2_with fail
    exact bodyPost_ret (v := .tuple #[.agg #[.slice A n c], .int .i64 0]) (by simp [results, Try.results52, go_sem, x5]) rfl ⟨by rw [hT.out]; rfl, b5⟩
theorem l02Told_yes (A : Option Addr) (n c : Nat) (rs : List Fac) (w : World) (hn : n ≤ 100000000) (hr : Rd w w.heap.size A n 3 Fac.cells rs) (hok : ∀ f ∈ rs, f.l.size ≤ maxLen) (h : (gOk rs).isSome = true) :
    Calls Try.prog 52 #[.agg #[.slice A n c]] w (Ret (.tuple #[.agg #[.slice A n c], .int .i64 0]) w) := by
  have := l02Told_any A n c rs w hn hr hok
  rw [h] at this; exact this
theorem l02Told_no (A : Option Addr) (n c : Nat) (rs : List Fac) (w : World) (hn : n ≤ 100000000) (hr : Rd w w.heap.size A n 3 Fac.cells rs) (hok : ∀ f ∈ rs, f.l.size ≤ maxLen) (h : (gOk rs).isSome = false) :
    Calls Try.prog 52 #[.agg #[.slice A n c]] w (Ret (.tuple #[.agg #[.slice none 0 0], .int .i64 3]) w) := by
  have := l02Told_any A n c rs w hn hr hok
  rw [h] at this; exact this
end Go.Proofs.Ytfanphhlagjkdaa


/-
  The letters of a grammar replaced: what is made, and the code.
-/
namespace Go.Proofs.Ytfanphhlagjkdaa

def mapOk (rs : List Fac) (ws : List ByteArray) : Bool := (gOk rs).isSome && (decide (ws.length = 4) && ws.all okW)
def mapT (rs : List Fac) (ws : List ByteArray) : List Fac := trimL ((mapS2 rs ws).1.take ((lastI (mapS2 rs ws).2).toNat + 1))
def mapF (rs : List Fac) (ws : List ByteArray) : List Fac :=
  if mapOk rs ws = false then [] else if 400 < (mapS2 rs ws).1.length then [] else if (mapS2 rs ws).2.length = 0 ∨ lastI (mapS2 rs ws).2 < 0 then [] else limF (mapT rs ws)
def mapC (rs : List Fac) (ws : List ByteArray) : Int :=
  if mapOk rs ws = false then 1 else if 400 < (mapS2 rs ws).1.length then 3 else if (mapS2 rs ws).2.length = 0 ∨ lastI (mapS2 rs ws).2 < 0 then 0 else limC (mapT rs ws)
end Go.Proofs.Ytfanphhlagjkdaa


/-
  The word of a grammar whose letters are replaced.
-/
namespace Go.Proofs.Ytfanphhlagjkdaa

theorem full_pre {α : Type} (d : α) (F : Nat → α) (G : α → α → Fac → α) : ∀ (ys xs : List Fac) {p : Nat}, p < xs.length → (full d F G (xs ++ ys)).getD p d = (full d F G xs).getD p d
  | [], xs, p, _ => by rw [List.append_nil]
  | y :: ys, xs, p, h => by
    rw [show xs ++ y :: ys = (xs ++ [y]) ++ ys by simp, full_pre d F G ys (xs ++ [y]) (by simp; omega), full_old d F G xs y h]
theorem wds_pre (xs ys : List Fac) {p : Nat} (h : p < xs.length) : (wds (xs ++ ys)).getD p [] = (wds xs).getD p [] := full_pre [] wdF wdG ys xs h
theorem wds_take {rs : List Fac} {n p : Nat} (h : p < n) (hn : n ≤ rs.length) : (wds (rs.take n)).getD p [] = (wds rs).getD p [] := by
  have := wds_pre (rs.take n) (rs.drop n) (p := p) (by rw [List.length_take]; omega)
  rw [List.take_append_drop] at this
  exact this.symm
theorem wds_pair {rs : List Fac} (hwf : WF rs) {k : Nat} {r : Fac} (h : rs[k]? = some r) (h0 : r.l.size = 0) : (wds rs).getD k [] = (wds rs).getD r.a.toNat [] ++ (wds rs).getD r.b.toNat [] := full_pair [] wdF wdG hwf h h0
theorem wds_one {rs : List Fac} {k : Nat} {r : Fac} (h : rs[k]? = some r) {c : UInt8} (hl : r.l = ⟨#[c]⟩) : (wds rs).getD k [] = [c.toNat - 97] := by
  have := full_let [] wdF wdG h (by rw [hl]; show (1 : Nat) ≠ 0; omega)
  rw [hl] at this
  exact this
theorem wds_snoc {rs : List Fac} {a b : Int} (ha : 0 ≤ a ∧ a < rs.length) (hb : 0 ≤ b ∧ b < rs.length) (hwf : WF rs) : (wds (rs ++ [⟨⟨#[]⟩, a, b⟩])).getD rs.length [] = (wds rs).getD a.toNat [] ++ (wds rs).getD b.toNat [] := by
  have hr : (rs ++ [(⟨⟨#[]⟩, a, b⟩ : Fac)])[rs.length]? = some ⟨⟨#[]⟩, a, b⟩ := by simp
  rw [wds_pair (wf_snoc hwf ha hb) hr rfl, wds_pre _ _ (show a.toNat < rs.length by have := ha.1; have := ha.2; omega), wds_pre _ _ (show b.toNat < rs.length by have := hb.1; have := hb.2; omega)]
/-- rules that are raised -/
theorem wds_raise {xs ys : List Fac} (hx : WF xs) (hy : WF ys) : ∀ j, j < ys.length → (wds (xs ++ raiseL xs.length ys)).getD (xs.length + j) [] = (wds ys).getD j [] := by
  intro j
  induction j using Nat.strongRecOn with
  | ind j ih =>
    intro hj
    have hr : ys[j]? = some ys[j] := List.getElem?_eq_getElem hj
    have hz : (xs ++ raiseL xs.length ys)[xs.length + j]? = some (rsF xs.length ys[j]) := by
      rw [List.getElem?_append_right (by omega), Nat.add_sub_cancel_left]
      unfold raiseL
      rw [List.getElem?_map, hr]; rfl
    rcases hy j _ hr with ⟨h0, a0, a1, b0, b1⟩ | ⟨c, hc, hl, _, _⟩
    · have e : rsF xs.length ys[j] = ⟨ys[j].l, ys[j].a + xs.length, ys[j].b + xs.length⟩ := by unfold rsF; rw [if_pos h0]
      rw [e] at hz
      rw [wds_pair (wf_raise hx hy) hz h0, wds_pair hy hr h0]
      simp only
      rw [show (ys[j].a + (xs.length : Int)).toNat = xs.length + ys[j].a.toNat by omega, show (ys[j].b + (xs.length : Int)).toNat = xs.length + ys[j].b.toNat by omega, ih _ (by omega) (by omega), ih _ (by omega) (by omega)]
    · have e : rsF xs.length ys[j] = ys[j] := by unfold rsF; rw [if_neg (by rw [hl]; show ¬ (1 : Nat) = 0; omega)]
      rw [e] at hz
      rw [wds_one hz hl, wds_one hr hl]
def numC (c : UInt8) : Nat := c.toNat - 97
def nums (s : ByteArray) : List Nat := s.data.toList.map numC
theorem wds_pairs (w : List UInt8) : ∀ (cs : List UInt8) (b : Int) (xs : List Fac) (u : List Nat), WF xs → (∀ c ∈ cs, 0 ≤ atP w c ∧ atP w c < xs.length ∧ (wds xs).getD (atP w c).toNat [] = [numC c]) → 0 ≤ b → b < xs.length → (wds xs).getD b.toNat [] = u →
    (wds (xs ++ pairsP w cs b xs.length)).getD (if cs = [] then b.toNat else xs.length + cs.length - 1) [] = u ++ cs.map numC
  | [], b, xs, u, _, _, _, _, hu => by
    rw [show pairsP w [] b xs.length = [] from rfl, List.append_nil, if_pos rfl, hu]; simp
  | c :: cs, b, xs, u, hw, hc, b0, b1, hu => by
    have hcc := hc c (by simp)
    have hw2 := wf_snoc hw (a := b) (b := atP w c) ⟨b0, b1⟩ ⟨hcc.1, hcc.2.1⟩
    have hv := wds_snoc (rs := xs) (a := b) (b := atP w c) ⟨b0, b1⟩ ⟨hcc.1, hcc.2.1⟩ hw
    rw [hu, hcc.2.2] at hv
    have ih := wds_pairs w cs (xs.length : Int) (xs ++ [⟨⟨#[]⟩, b, atP w c⟩]) (u ++ [numC c]) hw2 (fun c' hc' => by
      have := hc c' (by simp [hc'])
      exact ⟨this.1, by simp; omega, by rw [wds_pre _ _ (by omega)]; exact this.2.2⟩) (by omega) (by simp; omega) (by rw [Int.toNat_natCast]; exact hv)
    simp only [List.length_append, List.length_singleton, List.append_assoc, List.singleton_append] at ih
    rw [if_neg (by simp)]
    show (wds (xs ++ ⟨⟨#[]⟩, b, atP w c⟩ :: pairsP w cs xs.length (xs.length + 1))).getD _ [] = _
    by_cases h : cs = []
    · subst h
      simp only [pairsP, if_true, Int.toNat_natCast, List.map_nil, List.append_nil, List.length_singleton, List.map_cons] at ih ⊢
      simpa using ih
    · rw [if_neg h] at ih
      rw [show xs.length + (c :: cs).length - 1 = xs.length + 1 + cs.length - 1 by simp only [List.length_cons]; omega, ih]
      simp
theorem plain_word {w : List UInt8} (hl : w.all letB = true) (h0 : w ≠ []) : (wds (plainL w)).getD ((plainL w).length - 1) [] = w.map numC := by
  unfold plainL
  split
  · exact absurd rfl h0
  · rename_i c cs
    have hm : ∀ c' ∈ c :: cs, letB c' = true := by simpa using hl
    have hlen : (lettersP (c :: cs)).length = (ksP (c :: cs)).length := by simp [lettersP]
    rw [← hlen]
    have hat : ∀ c' ∈ c :: cs, 0 ≤ atP (c :: cs) c' ∧ atP (c :: cs) c' < (lettersP (c :: cs)).length ∧ (wds (lettersP (c :: cs))).getD (atP (c :: cs) c').toNat [] = [numC c'] := fun c' hc' => by
      have h1 := atP_lt hc' (hm c' hc')
      refine ⟨h1.1, by rw [hlen]; exact h1.2, ?_⟩
      refine wds_one (r := ruleC c') (c := c') ?_ rfl
      unfold lettersP atP
      rw [Int.toNat_natCast, List.getElem?_map]
      have hi := mem_ks hc' (hm c' hc')
      rw [List.getElem?_eq_getElem (List.idxOf_lt_length_of_mem hi), List.getElem_idxOf]; rfl
    have := wds_pairs (c :: cs) cs (atP (c :: cs) c) (lettersP (c :: cs)) [numC c] (wf_letters _ fun _ h => ks_letB h) (fun c' hc' => hat c' (by simp [hc'])) (hat c (by simp)).1 (hat c (by simp)).2.1 (hat c (by simp)).2.2
    rw [List.length_append, pairsP_len]
    by_cases h : cs = []
    · subst h
      simp only [if_true, List.map_nil, List.append_nil, List.length_nil, Nat.add_zero, List.map_cons] at this ⊢
      have e : (lettersP [c]).length - 1 = (atP [c] c).toNat := by
        have h1 := hat c (by simp)
        have h2 : (lettersP [c]).length ≤ 1 := by
          rw [hlen]
          unfold ksP
          have : ∀ l : List UInt8, l.Nodup → (l.filter fun x => decide (x ∈ [c])).length ≤ 1 := fun l hl => by
            have : (l.filter fun x => decide (x ∈ [c])) = l.filter (fun x => x == c) := by
              apply List.filter_congr
              intro x _
              rw [Bool.eq_iff_iff]; simp
            rw [this, ← List.countP_eq_length_filter]
            have := List.nodup_iff_count.1 hl c
            exact this
          exact this _ (by decide)
        omega
      rw [e]; exact this
    · rw [if_neg h] at this
      rw [this]; simp
/-- the word with its letters replaced -/
def mapW (ws : List ByteArray) (u : List Nat) : List Nat := u.flatMap fun k => nums (ws.getD k ⟨#[]⟩)
theorem mapW_app (ws : List ByteArray) (u v : List Nat) : mapW ws (u ++ v) = mapW ws u ++ mapW ws v := by simp [mapW]
/-- what the letters' rules hold -/
structure MlW (rs : List Fac) (ws : List ByteArray) (s : List Fac × List Int) (k : Nat) : Prop where
  hi : ∀ i, k ≤ i → i < 4 → s.2.getD i 0 = -1
  lo : ∀ i, i < k → (s.2.getD i 0 < 0 → nums (ws.getD i ⟨#[]⟩) = [] ∨ usedL rs (lb i) = false) ∧ (0 ≤ s.2.getD i 0 → (wds s.1).getD (s.2.getD i 0).toNat [] = nums (ws.getD i ⟨#[]⟩) ∧ nums (ws.getD i ⟨#[]⟩) ≠ [])
theorem nums_nil {s : ByteArray} : nums s = [] ↔ s.size = 0 := by
  unfold nums
  rw [List.map_eq_nil_iff, ← byte_len, List.length_eq_zero_iff]
theorem MlW.step {rs : List Fac} {ws : List ByteArray} {s : List Fac × List Int} {k : Nat} (h : MlW rs ws s k) (hI : MlI s k) (hk : k < 4) {w : ByteArray} (hw : okW w = true) (he : ws.getD k ⟨#[]⟩ = w) : MlW rs ws (mlStep rs k w s) (k + 1) := by
  unfold mlStep
  split
  · rename_i hc
    obtain ⟨hl, hsz⟩ := okW_let hw
    have hne : w.data.toList ≠ [] := fun e => hc.1 (by rw [← byte_len, e]; rfl)
    have h2 := plainL_pos hne hl
    have hset : ∀ (v : Int) (i : Nat), (s.2.set k v).getD i 0 = if i = k then v else s.2.getD i 0 := fun v i => by
      rw [List.getD_eq_getElem?_getD, List.getElem?_set]
      by_cases e : k = i
      · subst e; rw [if_pos rfl, if_pos (by rw [hI.st]; exact hk), if_pos rfl]; rfl
      · rw [if_neg e, if_neg (fun q => e q.symm), ← List.getD_eq_getElem?_getD]
    refine ⟨fun i h1 h4 => ?_, fun i hi => ?_⟩
    · simp only
      rw [hset, if_neg (by omega)]; exact h.hi i (by omega) h4
    · simp only
      rw [hset]
      by_cases e : i = k
      · subst e
        rw [if_pos rfl, he]
        refine ⟨fun q => by omega, fun _ => ⟨?_, fun q => hc.1 (nums_nil.1 q)⟩⟩
        have e1 : ((((s.1.length + (plainL w.data.toList).length : Nat) : Int) - 1).toNat) = s.1.length + ((plainL w.data.toList).length - 1) := by omega
        rw [e1, wds_raise hI.wf (wf_plain hl) _ (by omega), plain_word hl hne]; rfl
      · rw [if_neg e]
        have := h.lo i (by omega)
        refine ⟨this.1, fun q => ?_⟩
        have hb := hI.b i (by omega)
        rw [wds_pre _ _ (by omega)]
        exact this.2 q
  · rename_i hc
    refine ⟨fun i h1 h4 => h.hi i (by omega) h4, fun i hi => ?_⟩
    by_cases e : i = k
    · subst e
      rw [he]
      have h1 := h.hi i (Nat.le_refl _) hk
      refine ⟨fun _ => ?_, fun q => by omega⟩
      by_cases h0 : w.size = 0
      · exact .inl (nums_nil.2 h0)
      · right
        cases hu : usedL rs (lb i) with
        | false => rfl
        | true => exact absurd ⟨h0, hu⟩ hc
    · exact h.lo i (by omega)
theorem MlW.go {rs : List Fac} {ws0 : List ByteArray} : ∀ (ws : List ByteArray) (k : Nat) (s : List Fac × List Int), MlW rs ws0 s k → MlI s k → k + ws.length ≤ 4 → (∀ w ∈ ws, okW w = true) → ws0.drop k = ws → MlW rs ws0 (mlGo rs k ws s) (k + ws.length)
  | [], _, _, h, _, _, _, _ => h
  | w :: ws, k, s, h, hI, hk, hw, hd => by
    simp only [List.length_cons] at hk ⊢
    have hx : ws0[k]? = some w := by
      have : (ws0.drop k)[0]? = some w := by rw [hd]; rfl
      rw [List.getElem?_drop] at this; simpa using this
    have := MlW.go (rs := rs) (ws0 := ws0) ws (k + 1) (mlStep rs k w s) (h.step hI (by omega) (hw w (by simp)) (by rw [List.getD_eq_getElem?_getD, hx]; rfl)) (hI.step (by omega) (hw w (by simp))) (by omega) (fun x hx => hw x (by simp [hx])) (by
      rw [← List.drop_drop, hd]; rfl)
    rw [show k + (ws.length + 1) = k + 1 + ws.length by omega]
    exact this
theorem MlW.nil (rs : List Fac) (ws : List ByteArray) : MlW rs ws ([], [-1, -1, -1, -1]) 0 := ⟨fun i _ hi => by
  rcases i with _ | _ | _ | _ | i
  · decide
  · decide
  · decide
  · decide
  · omega, fun i hi => by omega⟩
/-- what the rules that stand for others hold -/
def MrW (rs : List Fac) (ws : List ByteArray) (s : List Fac × List Int) (k : Nat) : Prop :=
  ∀ i, i < k → (s.2.getD i 0 < 0 → mapW ws ((wds rs).getD i []) = []) ∧ (0 ≤ s.2.getD i 0 → (wds s.1).getD (s.2.getD i 0).toNat [] = mapW ws ((wds rs).getD i []))
theorem MrW.step {rs : List Fac} {ws : List ByteArray} {st : List Int} {s0 s : List Fac × List Int} {n k : Nat} (hwf : WF rs) (h : MrW rs ws s k) (hI : MrI s n k) (hst : s0.2 = st) (hw : MlW rs ws s0 4) (hb : ∀ i, i < 4 → -1 ≤ st.getD i 0 ∧ st.getD i 0 < s0.1.length)
    (hpre : ∃ e, s.1 = s0.1 ++ e) {r : Fac} (hr : rs[k]? = some r) : MrW rs ws (mrStep st r s) (k + 1) ∧ ∃ e, (mrStep st r s).1 = s0.1 ++ e := by
  obtain ⟨e, he⟩ := hpre
  have old : ∀ (out : List Fac) (x : Int), (∃ q, out = s.1 ++ q) → ((x < 0 → mapW ws ((wds rs).getD k []) = []) ∧ (0 ≤ x → (wds out).getD x.toNat [] = mapW ws ((wds rs).getD k []))) → MrW rs ws (out, s.2 ++ [x]) (k + 1) := by
    intro out x ⟨q, hq⟩ hx i hi
    simp only
    rw [getD_snoc, hI.st]
    by_cases hik : i < k
    · rw [if_pos hik]
      have := h i hik
      refine ⟨this.1, fun q0 => ?_⟩
      have hbb := hI.b i hik
      rw [hq, wds_pre _ _ (by omega)]
      exact this.2 q0
    · obtain rfl : i = k := by omega
      rw [if_neg hik, if_pos rfl]
      exact hx
  unfold mrStep
  rcases hwf k r hr with ⟨h0, a0, a1, b0, b1⟩ | ⟨c, hc, hl, _, _⟩
  · rw [if_pos h0]
    have hwk := wds_pair hwf hr h0
    have hA := hI.b r.a.toNat (by omega)
    have hB := hI.b r.b.toNat (by omega)
    have wA := h r.a.toNat (by omega)
    have wB := h r.b.toNat (by omega)
    split
    · rename_i hn
      refine ⟨old _ _ ⟨[], by simp⟩ ?_, e, he⟩
      rw [hwk, mapW_app, wA.1 hn, List.nil_append]
      exact wB
    · split
      · rename_i hn1 hn
        refine ⟨old _ _ ⟨[], by simp⟩ ?_, e, he⟩
        rw [hwk, mapW_app, wB.1 hn, List.append_nil]
        exact wA
      · rename_i h1 h2
        refine ⟨old _ _ ⟨_, rfl⟩ ⟨fun q => by omega, fun _ => ?_⟩, e ++ [⟨⟨#[]⟩, s.2.getD r.a.toNat 0, s.2.getD r.b.toNat 0⟩], by rw [he, List.append_assoc]⟩
        rw [Int.toNat_natCast, wds_snoc ⟨by omega, hA.2⟩ ⟨by omega, hB.2⟩ hI.wf, wA.2 (by omega), wB.2 (by omega), hwk, mapW_app]
  · rw [if_neg (by rw [hl]; show ¬ (1 : Nat) = 0; omega)]
    refine ⟨old _ _ ⟨[], by simp⟩ ?_, e, he⟩
    have hq : letN r.l < 4 := by rw [hl]; exact letN_lt (s := ⟨#[c]⟩) hc
    have hwk : (wds rs).getD k [] = [letN r.l] := by rw [wds_one hr hl, hl]; rfl
    have hu : usedL rs (lb (letN r.l)) = true := by
      unfold usedL
      rw [List.any_eq_true]
      refine ⟨r, List.mem_of_getElem? hr, ?_⟩
      rw [decide_eq_true_eq, hl]
      congr 1
      have hn := letB_num hc
      have : lb (letN ⟨#[c]⟩) = c := by
        rw [← UInt8.toNat_inj, letN_one]
        unfold lb
        rw [UInt8.toNat_ofNat']; omega
      rw [this]
    have hlo := hw.lo (letN r.l) hq
    rw [hst] at hlo
    rw [hwk]
    have hmw : mapW ws [letN r.l] = nums (ws.getD (letN r.l) ⟨#[]⟩) := by simp [mapW]
    rw [hmw]
    refine ⟨fun q => ?_, fun q => ?_⟩
    · rcases hlo.1 q with q1 | q1
      · exact q1
      · rw [hu] at q1; cases q1
    · have := hb (letN r.l) hq
      rw [he, wds_pre _ _ (by omega)]
      exact (hlo.2 q).1
theorem mapOk_ws {rs : List Fac} {ws : List ByteArray} (h : mapOk rs ws = true) : ws.length = 4 ∧ (∀ w ∈ ws, okW w = true) ∧ (gOk rs).isSome = true := by
  unfold mapOk at h
  simp only [Bool.and_eq_true, decide_eq_true_eq, List.all_eq_true] at h
  exact ⟨h.2.1, h.2.2, h.1⟩
end Go.Proofs.Ytfanphhlagjkdaa


/-
  The word of a grammar whose letters are replaced: the law; grammars of few rules are valid.
-/
namespace Go.Proofs.Ytfanphhlagjkdaa

theorem trimL_most (rs : List Fac) : (trimL rs).length ≤ rs.length := by
  unfold trimL
  split
  · simp
  · have h1 := outT_len (useT (trK rs [] []).1 rs.length (use0 rs.length (trK rs [] []).2)) (trK rs [] []).1 0 [] (List.replicate rs.length 0)
    have h2 := trK_len rs [] []
    simp only [List.length_nil, Nat.zero_add] at h1 h2
    omega
theorem map_all {rs : List Fac} {ws : List ByteArray} (hok : mapOk rs ws = true) : WF rs ∧ MlI (mapS1 rs ws) 4 ∧ ∀ k, k ≤ rs.length →
    MrW rs ws (mrGo (mapS1 rs ws).2 (rs.take k) ((mapS1 rs ws).1, [])) k ∧ MrI (mrGo (mapS1 rs ws).2 (rs.take k) ((mapS1 rs ws).1, [])) (mapS1 rs ws).1.length k ∧ ∃ e, (mrGo (mapS1 rs ws).2 (rs.take k) ((mapS1 rs ws).1, [])).1 = (mapS1 rs ws).1 ++ e := by
  obtain ⟨hl, hw, hg⟩ := mapOk_ws hok
  obtain ⟨ls, hls⟩ := Option.isSome_iff_exists.1 hg
  have hwf := wf_of (gOk_lens hls).1
  have hI := MlI.go (rs := rs) ws 0 ([], [-1, -1, -1, -1]) MlI.nil (by omega) hw
  have hW := MlW.go (rs := rs) (ws0 := ws) ws 0 ([], [-1, -1, -1, -1]) (MlW.nil rs ws) MlI.nil (by omega) hw rfl
  rw [hl, Nat.zero_add] at hI hW
  have hI' : MlI (mapS1 rs ws) 4 := hI
  have hW' : MlW rs ws (mapS1 rs ws) 4 := hW
  refine ⟨hwf, hI', ?_⟩
  generalize mapS1 rs ws = s1 at *
  intro k
  induction k with
  | zero => exact fun _ => ⟨fun i hi => by omega, ⟨hI'.wf, rfl, fun i hi => by omega, Nat.le_refl _⟩, [], by simp [mrGo]⟩
  | succ k ih =>
    intro hk
    obtain ⟨h1, h2, h3⟩ := ih (by omega)
    have hr : rs[k]? = some rs[k] := List.getElem?_eq_getElem (by omega)
    rw [take_succ_at hr, mrGo_snoc]
    have hle : s1.1.length ≤ (mrGo s1.2 (rs.take k) (s1.1, [])).1.length := by
      obtain ⟨e, he⟩ := h3
      rw [he, List.length_append]; omega
    have s1b := fun i hi => hI'.b i hi
    obtain ⟨h4, _⟩ := h2.step (st := s1.2) (fun i hi => by have := s1b i hi; omega) (hwf k _ hr)
    obtain ⟨h5, h6⟩ := h1.step hwf h2 rfl hW' s1b h3 hr
    exact ⟨h5, h4, h6⟩
/-- a rule's word is at most twice as long as the longest before it -/
theorem wds_pow {rs : List Fac} (hwf : WF rs) : ∀ k, k < rs.length → ((wds rs).getD k []).length ≤ 2 ^ k := by
  intro k
  induction k using Nat.strongRecOn with
  | ind k ih =>
    intro hk
    have hr : rs[k]? = some rs[k] := List.getElem?_eq_getElem hk
    rcases hwf k _ hr with ⟨h0, a0, a1, b0, b1⟩ | ⟨c, _, hl, _, _⟩
    · rw [wds_pair hwf hr h0, List.length_append]
      have e1 := ih rs[k].a.toNat (by omega) (by omega)
      have e2 := ih rs[k].b.toNat (by omega) (by omega)
      obtain ⟨m, rfl⟩ : ∃ m, k = m + 1 := ⟨k - 1, by omega⟩
      have p1 : 2 ^ rs[m + 1].a.toNat ≤ 2 ^ m := Nat.pow_le_pow_right (by omega) (by omega)
      have p2 : 2 ^ rs[m + 1].b.toNat ≤ 2 ^ m := Nat.pow_le_pow_right (by omega) (by omega)
      rw [Nat.pow_succ]; omega
    · rw [wds_one hr hl]
      exact Nat.one_le_two_pow
theorem wds_lens {rs : List Fac} (hwf : WF rs) {k : Nat} (hk : k < rs.length) : (full 0 lenF lenG rs).getD k 0 = (((wds rs).getD k []).length : Int) :=
  full_hom (d := (0 : Int)) (F := lenF) (G := lenG) hwf (fun u => (u.length : Int)) (fun k _ => rfl) (fun u v r _ _ _ _ => by simp [lenG]) k hk
theorem ok_of {rs : List Fac} (hwf : WF rs) (hn : rs.length ≤ 400) (hb : ∀ k, k < rs.length → ((wds rs).getD k []).length ≤ 1000000000000000) : (gOk rs).isSome = true := by
  unfold gOk
  rw [if_neg (by omega)]
  exact gLens_of hwf (fun k hk => by rw [wds_lens hwf hk]; have := hb k hk; omega) rs.length 0 (by omega)
theorem small_ok {rs : List Fac} (hwf : WF rs) (hn : rs.length ≤ 49) : (gOk rs).isSome = true :=
  ok_of hwf (by omega) fun k hk => by
    have h1 := wds_pow hwf k hk
    have h2 : 2 ^ k ≤ 2 ^ 48 := Nat.pow_le_pow_right (by omega) (by omega)
    have h3 : (2 : Nat) ^ 48 ≤ 1000000000000000 := by decide
    omega
theorem trim_word {rs : List Fac} (hwf : WF rs) (h0 : 0 < rs.length) : WF (trimL rs) ∧ 0 < (trimL rs).length ∧ (trimL rs).length ≤ rs.length ∧ wdN (trimL rs) = wdN rs := by
  obtain ⟨h1, h2, h3, _⟩ := trim_val [] wdF wdG (fun _ _ _ _ => rfl) hwf h0
  have h4 : (trimL rs).length ≤ rs.length := trimL_most rs
  refine ⟨h1, h2, h4, ?_⟩
  unfold wdN
  rw [if_neg (by intro e; rw [e] at h2; simp at h2), if_neg (by intro e; rw [e] at h0; simp at h0)]
  exact h3
/-- the code is told -/
theorem map_word {rs : List Fac} {ws : List ByteArray} (hok : mapOk rs ws = true) (hC : mapC rs ws = 0) : (gOk (mapF rs ws)).isSome = true ∧ wdN (mapF rs ws) = mapW ws (wdN rs) := by
  obtain ⟨hwf, hI, hall⟩ := map_all hok
  obtain ⟨h1, h2, _⟩ := hall rs.length (Nat.le_refl _)
  rw [List.take_of_length_le (Nat.le_refl _)] at h1 h2
  unfold mapC at hC
  unfold mapF
  rw [if_neg (by rw [hok]; decide)] at hC ⊢
  have hS : mapS2 rs ws = mrGo (mapS1 rs ws).2 rs ((mapS1 rs ws).1, []) := rfl
  rw [← hS] at h1 h2
  unfold mapT at hC ⊢
  generalize mapS2 rs ws = s2 at *
  split at hC
  · cases hC
  rename_i h400
  rw [if_neg h400]
  have hlen := h2.st
  by_cases hz : s2.2.length = 0 ∨ lastI s2.2 < 0
  · rw [if_pos hz]
    refine ⟨rfl, ?_⟩
    have hw0 : wdN ([] : List Fac) = [] := rfl
    rw [hw0]
    unfold wdN
    split
    · rfl
    · rename_i hne
      have hpos : 0 < rs.length := List.length_pos_iff.2 hne
      rcases hz with hz | hz
      · omega
      · have := (h1 (rs.length - 1) (by omega)).1 (by unfold lastI at hz; rw [hlen] at hz; exact hz)
        exact this.symm
  · rw [if_neg hz] at hC ⊢
    have hne : rs ≠ [] := fun e => hz (.inl (by rw [hlen, e]; rfl))
    have hpos : 0 < rs.length := List.length_pos_iff.2 hne
    have hsl0 : 0 ≤ lastI s2.2 := by
      rcases Int.lt_or_le (lastI s2.2) 0 with h | h
      · exact absurd (.inr h) hz
      · exact h
    have hsl1 : lastI s2.2 < s2.1.length := by
      have := h2.b (rs.length - 1) (by omega)
      unfold lastI
      rw [hlen]; exact this.2
    unfold limC at hC
    unfold limF
    have hg : (gOk (trimL (s2.1.take ((lastI s2.2).toNat + 1)))).isSome = true := by
      rcases hb : (gOk (trimL (s2.1.take ((lastI s2.2).toNat + 1)))).isSome with _ | _
      · rw [hb] at hC; exact absurd hC (by decide)
      · rfl
    rw [hg, if_pos rfl]
    refine ⟨hg, ?_⟩
    have hwt := wf_take h2.wf ((lastI s2.2).toNat + 1)
    have hlt : (s2.1.take ((lastI s2.2).toNat + 1)).length = (lastI s2.2).toNat + 1 := by rw [List.length_take]; omega
    obtain ⟨_, _, _, e⟩ := trim_word hwt (by omega)
    rw [e]
    have hv := (h1 (rs.length - 1) (by omega)).2 (by unfold lastI at hsl0; rw [hlen] at hsl0; exact hsl0)
    unfold wdN
    rw [if_neg (by intro q; rw [q] at hlt; simp at hlt), if_neg hne, hlt, Nat.add_sub_cancel, wds_take (by omega) (by omega), ← hv]
    unfold lastI
    rw [hlen]
/-- few rules, short words: there is no limit -/
theorem map_small {rs : List Fac} {ws : List ByteArray} (hok : mapOk rs ws = true) (hn : (mapS2 rs ws).1.length ≤ 49) : mapC rs ws = 0 := by
  obtain ⟨hwf, hI, hall⟩ := map_all hok
  obtain ⟨h1, h2, _⟩ := hall rs.length (Nat.le_refl _)
  rw [List.take_of_length_le (Nat.le_refl _)] at h1 h2
  have hS : mapS2 rs ws = mrGo (mapS1 rs ws).2 rs ((mapS1 rs ws).1, []) := rfl
  rw [← hS] at h1 h2
  unfold mapC mapT
  rw [if_neg (by rw [hok]; decide), if_neg (by omega)]
  generalize mapS2 rs ws = s2 at *
  split
  · rfl
  · rename_i hz
    have hlen := h2.st
    have hpos : 0 < rs.length := by
      rcases Nat.eq_zero_or_pos rs.length with h | h
      · exact absurd (.inl (by omega)) hz
      · exact h
    have hsl0 : 0 ≤ lastI s2.2 := by
      rcases Int.lt_or_le (lastI s2.2) 0 with h | h
      · exact absurd (.inr h) hz
      · exact h
    have hsl1 : lastI s2.2 < s2.1.length := by
      have := h2.b (rs.length - 1) (by omega)
      unfold lastI
      rw [hlen]; exact this.2
    have hwt := wf_take h2.wf ((lastI s2.2).toNat + 1)
    have hlt : (s2.1.take ((lastI s2.2).toNat + 1)).length = (lastI s2.2).toNat + 1 := by rw [List.length_take]; omega
    obtain ⟨e1, _, e3, _⟩ := trim_word hwt (by omega)
    unfold limC
    rw [small_ok e1 (by omega)]; rfl
end Go.Proofs.Ytfanphhlagjkdaa


/-
  A region that draws its order: quiet operations ahead, in an order of ours, and a tail that waits for all of them.
-/
namespace Go.Proofs.Ytfanphhlagjkdaa
open Go

section
variable {P : Program} {ops : Array Oper} {md : Region.Mode} {C : World → Prop}

/-- what an operation waits for -/
def depsT (md : Region.Mode) (ops : Array Oper) (j : Nat) : List Nat :=
  match ops[j]? with
  | some o => (o.after.toList.filter fun e => Region.binds md e).map (·.on)
  | none => []
def reachT (md : Region.Mode) (ops : Array Oper) : Nat → List Nat → List Nat
  | 0, s => s
  | k + 1, s => reachT md ops k (s ++ (s.flatMap (depsT md ops)).filter fun x => !s.contains x).eraseDups
/-- every operation that is not ahead waits for all that are -/
def waitB (md : Region.Mode) (ops : Array Oper) (hd : List Nat) : Bool :=
  (List.range ops.size).all fun t => hd.contains t || hd.all fun i => (reachT md ops ops.size [t]).contains i
def seqT (md : Region.Mode) (ops : Array Oper) : List Nat → Array Bool → Bool
  | [], listed => (Region.ready md ops listed).isEmpty
  | t :: tl, listed => decide (Region.ready md ops listed = [t]) && seqT md ops tl (listed.setIfInBounds t true)
def headT (md : Region.Mode) (ops : Array Oper) (tl : List Nat) : List Nat → Array Bool → Bool
  | [], listed => seqT md ops tl listed
  | i :: hd, listed => (Region.ready md ops listed).contains i && Region.free md ops listed i && headT md ops tl hd (listed.setIfInBounds i true)
def tailB (md : Region.Mode) (ops : Array Oper) (hd tl : List Nat) : Bool :=
  Region.noSelect ops && waitB md ops hd && headT md ops tl hd (Array.replicate ops.size false) && decide (hd.length + tl.length = ops.size)

structure InvT (md : Region.Mode) (ops : Array Oper) (listed : Array Bool) : Prop where
  size : listed.size = ops.size
  closed : ∀ j oj, ops[j]? = some oj → listed.getD j false = true → ∀ e ∈ oj.after, Region.binds md e = true → listed.getD e.on false = true
theorem InvT.set {i : Nat} {listed : Array Bool} (inv : InvT md ops listed) (hi : i ∈ Region.ready md ops listed) : InvT md ops (listed.setIfInBounds i true) := by
  obtain ⟨_, oi, hoi, hall⟩ := mem_ready.1 hi
  refine ⟨by simp [inv.size], fun j oj hj hl e he hb => ?_⟩
  by_cases hij : i = j
  · subst hij
    have : oj = oi := Option.some.inj (hj.symm.trans hoi)
    subst this
    exact getD_set_true (hall e he hb)
  · rw [getD_set_ne false hij] at hl
    exact getD_set_true (inv.closed j oj hj hl e he hb)
theorem reachT_in {listed : Array Bool} (inv : InvT md ops listed) {t : Nat} (hr : t ∈ Region.ready md ops listed) : ∀ (k : Nat) (s : List Nat), (∀ x ∈ s, x = t ∨ listed.getD x false = true) → ∀ x ∈ reachT md ops k s, x = t ∨ listed.getD x false = true
  | 0, s, h => h
  | k + 1, s, h => by
    refine reachT_in inv hr k _ fun x hx => ?_
    rw [List.mem_eraseDups] at hx
    rcases List.mem_append.1 hx with hx | hx
    · exact h x hx
    · have hx := (List.mem_filter.1 hx).1
      obtain ⟨y, hy, hxy⟩ := List.mem_flatMap.1 hx
      unfold depsT at hxy
      split at hxy
      · rename_i o ho
        obtain ⟨e, he, rfl⟩ := List.mem_map.1 hxy
        rw [List.mem_filter] at he
        have he1 : e ∈ o.after := by simpa using he.1
        rcases h y hy with rfl | hl
        · obtain ⟨_, ot, hot, hall⟩ := mem_ready.1 hr
          have : o = ot := Option.some.inj (ho.symm.trans hot)
          subst this
          exact .inr (hall e he1 he.2)
        · exact .inr (inv.closed y o ho hl e he1 he.2)
      · simp at hxy
theorem waitT {hd : List Nat} {listed : Array Bool} (hw : waitB md ops hd = true) (inv : InvT md ops listed) {i t : Nat} (hi : i ∈ hd) (hun : listed.getD i true = false) (ht : t ∈ Region.ready md ops listed) : t ∈ hd := by
  obtain ⟨_, ot, hot, _⟩ := mem_ready.1 ht
  have htlt : t < ops.size := (Array.getElem?_eq_some_iff.1 hot).1
  have h1 := List.all_eq_true.1 hw t (List.mem_range.2 htlt)
  simp only [Bool.or_eq_true, List.contains_iff_mem] at h1
  rcases h1 with h1 | h1
  · exact h1
  · have h2 := List.all_eq_true.1 h1 i hi
    have h3 : i ∈ reachT md ops ops.size [t] := by simpa using h2
    rcases reachT_in inv ht _ [t] (fun x hx => .inl (by simpa using hx)) i h3 with rfl | h4
    · exact hi
    · rw [getD_both hun] at h4; cases h4

/-- Whatever order is picked: the operations ahead come first. -/
def wpAnyT (P : Program) (md : Region.Mode) (ops : Array Oper) (C : World → Prop) (hd : List Nat) (L : Array Bool → Act → Prop) : Nat → Array Bool → Act → Prop
  | 0, listed, a => L listed a
  | f + 1, listed, a => Region.ready md ops listed ≠ [] ∧ ∀ i ∈ Region.ready md ops listed, i ∈ hd ∧ qOp P ops C i (wpAnyT P md ops C hd L f (listed.setIfInBounds i true)) a
theorem wpAny_of_headT {hd : List Nat} {g : Nat} {L : Array Bool → Act → Prop} {Q' : Exit → Act → World → Prop} (hL : ∀ listed a w, C w → L listed a → wpAny P md ops Q' g listed a w) :
    ∀ (f : Nat) (listed : Array Bool) (a : Act) (w : World), C w → wpAnyT P md ops C hd L f listed a → wpAny P md ops Q' (f + g) listed a w
  | 0, listed, a, w, hw, h => by rw [Nat.zero_add]; exact hL _ _ _ hw h
  | f + 1, listed, a, w, hw, h => by
    rw [show f + 1 + g = (f + g) + 1 by omega]
    exact ⟨fun h0 => absurd h0 h.1, fun i hi => wpOp_of_qOp hw (fun a' w' hw' => wpAny_of_headT hL f _ a' w' hw') (h.2 i hi).2⟩
theorem wpAnyT_first {hd : List Nat} {i : Nat} {oi : Oper} {v : Value} {L : Array Bool → Act → Prop} (hi : ops[i]? = some oi) (hsel : ∀ (j : Nat) (o : Oper) cs b, ops[j]? = some o → o.op ≠ .select cs b)
    (hw : waitB md ops hd = true) (hin : i ∈ hd) (hdone : ∀ listed a, L listed a → ∀ j ∈ Region.ready md ops listed, j ∉ hd) :
    ∀ (f : Nat) (listed : Array Bool) (a : Act), InvT md ops listed →
      (∀ j oj, ops[j]? = some oj → j ≠ i → listed.getD j true = false → (∀ e ∈ oj.after, Region.binds md e = true → e.on ≠ i) → oi.apart ops oj = true) →
      i ∈ Region.ready md ops listed → YieldsIn P ops C oi v a →
      wpAnyT P md ops C hd L f (listed.setIfInBounds i true) (a.put oi.dst v) → wpAnyT P md ops C hd L (f + 1) listed a := by
  intro f
  induction f with
  | zero =>
    intro listed a inv _ hr hy H
    have hun := (mem_ready.1 hr).1
    refine ⟨fun h => (by rw [h] at hr; cases hr), fun j hj => ?_⟩
    have hjn := waitT hw inv hin hun hj
    refine ⟨hjn, ?_⟩
    by_cases hji : j = i
    · subst hji; exact hy.qOp hi H
    · exact absurd hjn (hdone _ _ H j (ready_mono hj hji))
  | succ f ih =>
    intro listed a inv hfree hr hy H
    have hun := (mem_ready.1 hr).1
    refine ⟨fun h => (by rw [h] at hr; cases hr), fun j hj => ?_⟩
    have hjn := waitT hw inv hin hun hj
    refine ⟨hjn, ?_⟩
    by_cases hji : j = i
    · subst hji; exact hy.qOp hi H
    · have h1 := (H.2 j (ready_mono hj hji)).2
      obtain ⟨hjun, oj, hoj, hall⟩ := mem_ready.1 hj
      have hnot : ∀ e ∈ oj.after, Region.binds md e = true → e.on ≠ i := fun e he hb heq => by
        have h1 := hall e he hb
        rw [heq, getD_both hun] at h1
        cases h1
      have h2 := qOp_put hoj (hfree j oj hoj hji hjun hnot) (fun cs b => hsel i oi cs b hi) (fun cs b => hsel j oj cs b hoj) hy h1
      have hfree' : ∀ k ok, ops[k]? = some ok → k ≠ i → (listed.setIfInBounds j true).getD k true = false →
          (∀ e ∈ ok.after, Region.binds md e = true → e.on ≠ i) → oi.apart ops ok = true := fun k ok hk hki hun hno => by
        refine hfree k ok hk hki ?_ hno
        by_cases hjk : j = k
        · subst hjk; exact hjun
        · rw [getD_set_ne true hjk] at hun; exact hun
      refine qOp_mono (fun a' h3 => ih (listed.setIfInBounds j true) a' (inv.set hj) hfree' (ready_mono hr (Ne.symm hji)) h3.1 ?_) h2
      rw [Array.setIfInBounds_comm _ _ hji]
      exact h3.2
theorem seqT_ready {tl : List Nat} {listed : Array Bool} (h : seqT md ops tl listed = true) : ∀ j ∈ Region.ready md ops listed, j ∈ tl := by
  cases tl with
  | nil => intro j hj; simp only [seqT, List.isEmpty_iff] at h; rw [h] at hj; cases hj
  | cons t tl =>
    intro j hj
    simp only [seqT, Bool.and_eq_true, decide_eq_true_eq] at h
    rw [h.1] at hj
    have : j = t := by simpa using hj
    simp [this]
theorem wpAny_of_seqT {Q' : Exit → Act → World → Prop} : ∀ (tl : List Nat) (l : List Oper) (listed : Array Bool) (a : Act) (w : World), tl.map (fun i => ops[i]?) = l.map some →
    seqT md ops tl listed = true → wpList P ops Q' l a w → wpAny P md ops Q' tl.length listed a w
  | [], [], _, _, _, _, hB, h => ⟨by simpa [seqT] using hB, h⟩
  | [], _ :: _, _, _, _, hl, _, _ => by simp at hl
  | _ :: _, [], _, _, _, hl, _, _ => by simp at hl
  | t :: tl, o :: l, listed, a, w, hl, hB, h => by
    simp only [List.map_cons, List.cons.injEq] at hl
    simp only [List.length_cons, seqT, Bool.and_eq_true, decide_eq_true_eq] at hB ⊢
    refine ⟨fun h1 => (by rw [hB.1] at h1; cases h1), fun i hi => ?_⟩
    rw [hB.1] at hi
    have hik : i = t := by simpa using hi
    subst hik
    have hw : wpOp P ops Q' i (wpList P ops Q' l) a w := by unfold wpOp; simp only [hl.1]; exact h
    exact wpOp_mono (fun a' w' h' => wpAny_of_seqT tl l _ a' w' hl.2 hB.2 h') hw
theorem wpAnyT_lex {hd0 tl : List Nat} {Lq : Act → Prop} (hsel : Region.noSelect ops = true) (hw : waitB md ops hd0 = true) (hdj : ∀ j ∈ tl, j ∉ hd0) :
    ∀ (hd : List Nat) (l : List Oper) (listed : Array Bool) (a : Act), hd.map (fun i => ops[i]?) = l.map some → (∀ i ∈ hd, i ∈ hd0) → InvT md ops listed →
    headT md ops tl hd listed = true → wpQuiet P ops C Lq l a →
    wpAnyT P md ops C hd0 (fun listed' a' => seqT md ops tl listed' = true ∧ Lq a') hd.length listed a
  | [], [], listed, a, _, _, _, hB, h => ⟨by simpa [headT] using hB, h⟩
  | [], _ :: _, _, _, hl, _, _, _, _ => by simp at hl
  | _ :: _, [], _, _, hl, _, _, _, _ => by simp at hl
  | i :: hd, o :: l, listed, a, hl, hin, inv, hB, h => by
    simp only [List.map_cons, List.cons.injEq] at hl
    simp only [headT, Bool.and_eq_true] at hB
    obtain ⟨⟨hr, hf⟩, hB'⟩ := hB
    have hr' : i ∈ Region.ready md ops listed := by simpa using hr
    have hst : qOp P ops C i (wpQuiet P ops C Lq l) a := by unfold qOp; simp only [hl.1]; exact h
    obtain ⟨v, hy, hK⟩ := yieldsIn_of_qOp hl.1 hst
    exact wpAnyT_first hl.1 (Region.noSelect_spec hsel) hw (hin i (by simp)) (fun listed' a' hL j hj => hdj j (seqT_ready hL.1 j hj)) hd.length listed a inv (Region.free_spec hl.1 hf) hr' hy
      (wpAnyT_lex hsel hw hdj hd l _ _ hl.2 (fun j hj => hin j (by simp [hj])) (inv.set hr') hB' hK)
/-- the operations with these numbers -/
def pickT (l : List Oper) : List Nat → List Oper
  | [] => []
  | i :: is => (l.drop i).take 1 ++ pickT l is
theorem pickT_map {l : List Oper} : ∀ {is : List Nat}, (∀ i ∈ is, i < l.length) → is.map (fun i => l.toArray[i]?) = (pickT l is).map some
  | [], _ => rfl
  | i :: is, h => by
    have hi := h i (by simp)
    have e : (l.drop i).take 1 = [l[i]] := by rw [List.drop_eq_getElem_cons hi]; rfl
    have ih := pickT_map (l := l) (is := is) (fun j hj => h j (by simp [hj]))
    rw [List.map_cons, ih]
    show _ = ((l.drop i).take 1 ++ pickT l is).map some
    rw [e]
    simp [hi]
/-- **Quiet operations ahead in the order 'hd', then the tail in the order 'tl'.** -/
theorem wp_region_tail {id : Nat} {Q : Exit → Act → World → Prop} {a : Act} {w : World} {l : List Oper} (C : World → Prop) (hd tl : List Nat) (hm : P.follows .mixedOrders = true)
    (hB : (tailB .any l.toArray hd tl && (hd.all fun i => decide (i < l.length)) && (tl.all fun i => decide (i < l.length)) && (tl.all fun j => !hd.contains j)) = true) (hC : C { w with drawn := w.drawn + 1 })
    (h : wpQuiet P l.toArray C (fun a' => ∀ w', C w' → wpList P l.toArray Q (pickT l tl) a' w') (pickT l hd) a) : (Code.region id l.toArray true).wp P Q a w := by
  simp only [tailB, Bool.and_eq_true, decide_eq_true_eq, List.all_eq_true] at hB
  obtain ⟨⟨⟨⟨⟨⟨hsel, hw⟩, hlex⟩, hlen⟩, hh⟩, ht⟩, hdj⟩ := hB
  have inv0 : InvT .any l.toArray (Array.replicate l.toArray.size false) := ⟨by simp, fun j oj _ hl => (by rw [getD_replicate_false] at hl; cases hl)⟩
  have H := wpAnyT_lex (md := .any) hsel hw (fun j hj => by have := hdj j hj; simpa using this) hd (pickT l hd) _ a (pickT_map hh) (fun _ h => h) inv0 hlex h
  refine wp_region_any hm ?_
  have := wpAny_of_headT (Q' := Q) (g := tl.length) (fun listed a' w' hw' hL => wpAny_of_seqT tl (pickT l tl) listed a' w' (pickT_map ht) hL.1 (hL.2 w' hw')) _ _ _ _ hC H
  rw [hlen] at this
  exact this
end
end Go.Proofs.Ytfanphhlagjkdaa


/-
  A region that draws its order: loads are taken first where nobody writes their cells before them.
-/
namespace Go.Proofs.Ytfanphhlagjkdaa
open Go

section
variable {P : Program} {ops : Array Oper} {Q : Exit → Act → World → Prop} {md : Region.Mode} {S : World → Prop} {N : List Nat}

def invB (md : Region.Mode) (ops : Array Oper) (listed : Array Bool) : Bool :=
  decide (listed.size = ops.size) && (List.range ops.size).all fun j => !listed.getD j false || (depsT md ops j).all fun i => listed.getD i false
theorem invB_spec {listed : Array Bool} (h : invB md ops listed = true) : InvT md ops listed := by
  simp only [invB, Bool.and_eq_true, decide_eq_true_eq] at h
  refine ⟨h.1, fun j oj hj hl e he hb => ?_⟩
  have hlt : j < ops.size := (Array.getElem?_eq_some_iff.1 hj).1
  have h1 := List.all_eq_true.1 h.2 j (List.mem_range.2 hlt)
  rw [hl] at h1
  simp only [Bool.not_true, Bool.false_or] at h1
  refine List.all_eq_true.1 h1 e.on ?_
  unfold depsT
  rw [hj]
  exact List.mem_map.2 ⟨e, List.mem_filter.2 ⟨by simpa using he, hb⟩, rfl⟩
/-- each operation that waits for 'i' apart, all keep what the load reads -/
def nB (md : Region.Mode) (ops : Array Oper) (N : List Nat) (i : Nat) : Bool :=
  (List.range ops.size).all fun j => decide (j = i) || !N.contains j || (reachT md ops ops.size [j]).contains i
/-- Whatever order is picked from here on; S holds behind each operation that is carried out, those of N apart. -/
def wpAnyN (P : Program) (md : Region.Mode) (ops : Array Oper) (Q : Exit → Act → World → Prop) (S : World → Prop) (N : List Nat) : Nat → Array Bool → Act → World → Prop
  | 0, listed, a, w => Region.ready md ops listed = [] ∧ Q .normal a w
  | fuel + 1, listed, a, w =>
    (Region.ready md ops listed = [] → Q .normal a w) ∧
    ∀ i ∈ Region.ready md ops listed, wpOp P ops Q i (fun a' w' => (N.contains i = false → S w') ∧ wpAnyN P md ops Q S N fuel (listed.setIfInBounds i true) a' w') a w
theorem wpAny_of_N : ∀ (fuel : Nat) (listed : Array Bool) (a : Act) (w : World), wpAnyN P md ops Q S N fuel listed a w → wpAny P md ops Q fuel listed a w
  | 0, _, _, _, h => h
  | fuel + 1, _, _, _, h => ⟨h.1, fun i hi => wpOp_mono (fun a' w' h' => wpAny_of_N fuel _ a' w' h'.2) (h.2 i hi)⟩
theorem wpAnyN_first {i : Nat} {oi : Oper} {v : Value} (hi : ops[i]? = some oi) (hsel : ∀ (j : Nat) (o : Oper) cs b, ops[j]? = some o → o.op ≠ .select cs b)
    (hQ : ∀ c a w, Q (.panic c) (a.put oi.dst v) w → Q (.panic c) a w) (hn : nB md ops N i = true) :
    ∀ (fuel : Nat) (listed : Array Bool) (a : Act) (w : World), InvT md ops listed →
      (∀ j oj, ops[j]? = some oj → j ≠ i → listed.getD j true = false → (∀ e ∈ oj.after, Region.binds md e = true → e.on ≠ i) → oi.apart ops oj = true) →
      i ∈ Region.ready md ops listed → YieldsIf P ops S oi v a → S w →
      wpAnyN P md ops Q S N fuel (listed.setIfInBounds i true) (a.put oi.dst v) w → wpAnyN P md ops Q S N (fuel + 1) listed a w := by
  intro fuel
  induction fuel with
  | zero =>
    intro listed a w _ _ hr hy hS H
    refine ⟨fun h => (by rw [h] at hr; cases hr), fun j hj => ?_⟩
    by_cases hji : j = i
    · subst hji; exact hy.wpOp hi hS ⟨fun _ => hS, H⟩
    · have := ready_mono hj hji
      rw [H.1] at this
      cases this
  | succ fuel ih =>
    intro listed a w inv hfree hr hy hS H
    refine ⟨fun h => (by rw [h] at hr; cases hr), fun j hj => ?_⟩
    by_cases hji : j = i
    · subst hji; exact hy.wpOp hi hS ⟨fun _ => hS, H⟩
    · have h1 := H.2 j (ready_mono hj hji)
      obtain ⟨hjun, oj, hoj, hall⟩ := mem_ready.1 hj
      have hun := (mem_ready.1 hr).1
      have hnot : ∀ e ∈ oj.after, Region.binds md e = true → e.on ≠ i := fun e he hb heq => by
        have h1 := hall e he hb
        rw [heq, getD_both hun] at h1
        cases h1
      have hNj : N.contains j = false := by
        have h2 := List.all_eq_true.1 hn j (List.mem_range.2 (Array.getElem?_eq_some_iff.1 hoj).1)
        simp only [Bool.or_eq_true, decide_eq_true_eq, Bool.not_eq_true'] at h2
        rcases h2 with (h2 | h2) | h2
        · exact absurd h2 hji
        · exact h2
        · have h3 : i ∈ reachT md ops ops.size [j] := by simpa using h2
          rcases reachT_in inv hj _ [j] (fun x hx => .inl (by simpa using hx)) i h3 with h4 | h4
          · exact absurd h4.symm hji
          · rw [getD_both hun] at h4; cases h4
      have h2 := wpOp_putIf hoj (hfree j oj hoj hji hjun hnot) (fun cs b => hsel i oi cs b hi) (fun cs b => hsel j oj cs b hoj) hQ hy h1
      have hfree' : ∀ k ok, ops[k]? = some ok → k ≠ i → (listed.setIfInBounds j true).getD k true = false →
          (∀ e ∈ ok.after, Region.binds md e = true → e.on ≠ i) → oi.apart ops ok = true := fun k ok hk hki hun hno => by
        refine hfree k ok hk hki ?_ hno
        by_cases hjk : j = k
        · subst hjk; exact hjun
        · rw [getD_set_ne true hjk] at hun; exact hun
      refine wpOp_mono (fun a' w' h3 => ⟨h3.2.1, ih (listed.setIfInBounds j true) a' w' (inv.set hj) hfree' (ready_mono hr (Ne.symm hji)) h3.1 (h3.2.1 hNj) ?_⟩) h2
      rw [Array.setIfInBounds_comm _ _ hji]
      exact h3.2.2
def takeB (md : Region.Mode) (ops : Array Oper) (N : List Nat) (listed : Array Bool) (i : Nat) : Bool :=
  Region.noSelect ops && (Region.free md ops listed i && ((Region.ready md ops listed).contains i && (nB md ops N i && invB md ops listed)))
/-- Take number 'i' first. -/
theorem wpAnyN_take {i : Nat} {oi : Oper} {v : Value} {fuel : Nat} {listed : Array Bool} {a : Act} {w : World} (hi : ops[i]? = some oi) (hB : takeB md ops N listed i = true)
    (hQ : ∀ c a w, Q (.panic c) (a.put oi.dst v) w → Q (.panic c) a w) (hw : Region.wanted oi (yielded ops a.tmps) = true) (hy : ∀ w, S w → (execOp a.eval oi).run P w = .ok (.value v) w) (hS : S w)
    (h : wpAnyN P md ops Q S N fuel (listed.setIfInBounds i true) (a.put oi.dst v) w) : wpAnyN P md ops Q S N (fuel + 1) listed a w := by
  simp only [takeB, Bool.and_eq_true] at hB
  obtain ⟨h1, h2, h3, h4, h5⟩ := hB
  exact wpAnyN_first hi (Region.noSelect_spec h1) hQ h4 fuel listed a w (invB_spec h5) (Region.free_spec hi h2) (by simpa using h3) (.inl ⟨hw, hy⟩) hS h
/-- The one that comes up. -/
theorem wpAnyN_next {i : Nat} {o : Oper} {fuel : Nat} {listed : Array Bool} {a : Act} {w : World} (ho : ops[i]? = some o) (hr : Region.ready md ops listed = [i])
    (h : ∀ K' : Act → World → Prop, Shut (∀ a w, (N.contains i = false → S w) → wpAnyN P md ops Q S N fuel (listed.setIfInBounds i true) a w → K' a w) → if Region.wanted o (yielded ops a.tmps) = true then Oper.wp P o a w K' Q else K' (a.put o.dst undef) w) :
    wpAnyN P md ops Q S N (fuel + 1) listed a w := by
  refine ⟨fun h0 => (by rw [h0] at hr; cases hr), fun j hj => ?_⟩
  rw [hr] at hj
  obtain rfl : j = i := by simpa using hj
  exact wpOp_step ho (fun K' hK => h K' (fun a w hS hW => hK a w ⟨hS, hW⟩))
theorem wpAnyN_done {listed : Array Bool} {a : Act} {w : World} (hr : Region.ready md ops listed = []) (h : Q .normal a w) : ∀ fuel, wpAnyN P md ops Q S N fuel listed a w
  | 0 => ⟨hr, h⟩
  | _ + 1 => ⟨fun _ => h, by rw [hr]; simp⟩
theorem wp_region_N {id : Nat} {a : Act} {w : World} (S : World → Prop) (N : List Nat) (hm : P.follows .mixedOrders = true)
    (h : wpAnyN P .any ops Q S N ops.size (Array.replicate ops.size false) a w.drew) : (Code.region id ops true).wp P Q a w :=
  wp_region_any hm (wpAny_of_N _ _ _ _ h)
end
end Go.Proofs.Ytfanphhlagjkdaa


/-
  A region that draws its order, in which two or three operations that write may come up; a copy into a new row.
-/
namespace Go.Proofs.Ytfanphhlagjkdaa
open Go.RowKit

section
variable {P : Program} {ops : Array Oper} {Q : Exit → Act → World → Prop} {md : Region.Mode} {S : World → Prop} {N : List Nat}
/-- what is to be shown of one that comes up -/
def UpN (P : Program) (ops : Array Oper) (Q : Exit → Act → World → Prop) (md : Region.Mode) (S : World → Prop) (N : List Nat) (fuel : Nat) (listed : Array Bool) (a : Act) (w : World) (i : Nat) (o : Oper) : Prop :=
  ∀ K' : Act → World → Prop, Shut (∀ a w, (N.contains i = false → S w) → wpAnyN P md ops Q S N fuel (listed.setIfInBounds i true) a w → K' a w) → if Region.wanted o (yielded ops a.tmps) = true then Oper.wp P o a w K' Q else K' (a.put o.dst undef) w
theorem wpAnyN_2 {i j : Nat} {o o' : Oper} {fuel : Nat} {listed : Array Bool} {a : Act} {w : World} (ho : ops[i]? = some o) (ho' : ops[j]? = some o') (hr : Region.ready md ops listed = [i, j])
    (h : UpN P ops Q md S N fuel listed a w i o) (h' : UpN P ops Q md S N fuel listed a w j o') : wpAnyN P md ops Q S N (fuel + 1) listed a w := by
  refine ⟨fun h0 => (by rw [h0] at hr; cases hr), fun k hk => ?_⟩
  rw [hr] at hk
  rcases List.mem_cons.1 hk with rfl | hk
  · exact wpOp_step ho (fun K' hK => h K' (fun a w hS hW => hK a w ⟨hS, hW⟩))
  · obtain rfl : k = j := by simpa using hk
    exact wpOp_step ho' (fun K' hK => h' K' (fun a w hS hW => hK a w ⟨hS, hW⟩))
theorem wpAnyN_3 {i j l : Nat} {o o' o'' : Oper} {fuel : Nat} {listed : Array Bool} {a : Act} {w : World} (ho : ops[i]? = some o) (ho' : ops[j]? = some o') (ho'' : ops[l]? = some o'') (hr : Region.ready md ops listed = [i, j, l])
    (h : UpN P ops Q md S N fuel listed a w i o) (h' : UpN P ops Q md S N fuel listed a w j o') (h'' : UpN P ops Q md S N fuel listed a w l o'') : wpAnyN P md ops Q S N (fuel + 1) listed a w := by
  refine ⟨fun h0 => (by rw [h0] at hr; cases hr), fun k hk => ?_⟩
  rw [hr] at hk
  rcases List.mem_cons.1 hk with rfl | hk
  · exact wpOp_step ho (fun K' hK => h K' (fun a w hS hW => hK a w ⟨hS, hW⟩))
  · rcases List.mem_cons.1 hk with rfl | hk
    · exact wpOp_step ho' (fun K' hK => h' K' (fun a w hS hW => hK a w ⟨hS, hW⟩))
    · obtain rfl : k = l := by simpa using hk
      exact wpOp_step ho'' (fun K' hK => h'' K' (fun a w hS hW => hK a w ⟨hS, hW⟩))
end
section
variable {α : Type} {P : Program} {w : World} {ops : Array Oper} {o : Oper} {a : Act} {K : Act → World → Prop} {Q : Exit → Act → World → Prop} {E : Prop}
/-- all elements into a new row, as a step of a region that draws its order; where the row lies then -/
theorem step_copyL (hgd : o.guard = none) (s x : Operand) (t : TypeId) (ho : o.op = .call { callee := .builtin .append, args := #[s, x], argTypes := #[t, t] })
    (base : Nat) (e : TypeId) (sz bytes : Nat) (EI : Elem P t e sz bytes) (enc : α → List Value) (e0 : Nat) (hs : a.eval s = .slice (some ⟨e0, 0, none⟩) 0 0)
    (hown : w.ownsRow base e sz (.slice (some ⟨e0, 0, none⟩) 0 0) 0 []) (ad : Addr) (m cc : Nat) (ys : List α) (hx : a.eval x = .slice (some ad) m cc) (hym : ys.length = m) (hm0 : 0 < m) (hnews : ∀ j u, (ys.flatMap enc)[j]? = some u → w.cell? (ad.add j) = some u)
    (hlen : ∀ y ∈ ys, (enc y).length = sz) (hone : ∀ y ∈ ys, ∀ u ∈ enc y, u.oneCell' = true) (hsz : 0 < sz) (hbytes : m * bytes ≤ 140737488355328) (hm : m ≤ maxLen) (hsize : base ≤ w.heap.size)
    (h : ∀ A' c' w', w'.ownsRow base e sz (.slice A' m c') m (ys.flatMap enc) → w.grownBy w' (some e0) → ((Value.slice A' m c').ownBlock = some e0 ∨ (Value.slice A' m c').ownBlock = some w.heap.size) → K (a.put o.dst (.slice A' m c')) w') :
    if Region.wanted o (yielded ops a.tmps) = true then Oper.wp P o a w K Q else E := by
  obtain ⟨ht, i, z, hi, hz, h1, h2, hzs⟩ := EI
  obtain ⟨v', w', hr, r2, r3, _, r5⟩ := run_append_own_at (P := P) w base t o.type e i z sz bytes ht hi hz h1 h2 hzs hsz _ 0 _ hown ad m cc (ys.flatMap enc) (by rw [flat_len ys hlen, hym]) hnews
    (fun u hu => by obtain ⟨y, hy, hu⟩ := List.mem_flatMap.1 hu; exact hone y hy u hu) (by omega) (by rw [Nat.zero_add]; exact hbytes) hsize
  rw [Nat.zero_add, List.nil_append] at r2
  obtain ⟨g', cap, rfl, _, _⟩ := r2.form (by omega)
  have hw : Region.wanted o (yielded ops a.tmps) = true := by simp [Region.wanted, hgd]
  rw [if_pos hw]
  unfold Oper.wp execOp
  simp only [ho, resolve, invoke, builtin, Sem.run_bind, Sem.run_pure, Result.andThen_ok, List.map_toArray, List.map_cons, List.map_nil, hs, hx, hr]
  exact h _ _ w' r2 r3 r5
end
end Go.Proofs.Ytfanphhlagjkdaa


/-
  The grammar of a plain word in the program: the small functions.
-/
namespace Go.Proofs.Ytfanphhlagjkdaa
open Go.RowKit

theorem conv_letter (W : World) (g c : Nat) (b : UInt8) (h : W.cell? ⟨g, 0, none⟩ = some (.int .u8 (b.toNat : Int))) : (convert 22 9 (.slice (some ⟨g, 0, none⟩) 1 c)).run Try.prog W = .ok (.string ⟨#[b]⟩) W := by
  refine run_convert_bytes_back (P := Try.prog) W _ _ 5 ⟨g, 0, none⟩ c [b] Try.underlying22 Try.underlying5 Try.underlying9 fun j hj => ?_
  obtain rfl : j = 0 := by simpa using hj
  simp [Addr.add, h]
set_option maxHeartbeats 1000000 in
set_option maxRecDepth 100000 in
theorem letter_any (c : UInt8) (w : World) : Calls Try.prog 60 #[.int .u8 (c.toNat : Int)] w (Ret (Fac.val (ruleC c)) w) := by
  go_enter Try.func60, Try.ntmps60
  have hcv := conv_letter ((w.alloc (.cells #[.string ⟨#[]⟩, .int .i64 0, .int .i64 0] 65)).alloc (.cells #[.int .u8 (c.toNat : Int)] 5)) (w.heap.size + 1) 1 c (by simp)
  go_wp2_with fail
  refine bodyPost_ret (v := Fac.val (ruleC c)) (by simp [results, Try.results60, go_sem, Fac.val, ruleC]; try rfl) rfl ⟨rfl, ?_⟩
  (repeat first | exact Below.refl _ _ | assumption | refine Below.drew ?_ | refine Below.alloc ?_ (by first | exact Nat.le_refl _ | (simp; done) | omega | (simp; omega)) _ | refine Below.setCell ?_ (by first | exact Nat.le_refl _ | (simp; done) | omega | (simp; omega)) _)
theorem pairInt_any (a b : Int) (w : World) (ha : -9223372036854775808 ≤ a ∧ a ≤ 9223372036854775807) (hb : -9223372036854775808 ≤ b ∧ b ≤ 9223372036854775807) : Calls Try.prog 64 #[.int .i64 a, .int .i64 b] w (Ret (Fac.val ⟨⟨#[]⟩, a, b⟩) w) := by
  have u1 : IntKind.i64.wrap a = a := IntWalk.i64_in _ (by omega)
  have u2 : IntKind.i64.wrap b = b := IntWalk.i64_in _ (by omega)
  go_enter Try.func64, Try.ntmps64
  go_wp2
  refine bodyPost_ret (v := Fac.val ⟨⟨#[]⟩, a, b⟩) (by simp [results, Try.results64, go_sem, Fac.val]; try rfl) rfl ⟨rfl, ?_⟩
  (repeat first | exact Below.refl _ _ | assumption | refine Below.drew ?_ | refine Below.alloc ?_ (by first | exact Nat.le_refl _ | (simp; done) | omega | (simp; omega)) _ | refine Below.setCell ?_ (by first | exact Nat.le_refl _ | (simp; done) | omega | (simp; omega)) _)
set_option maxHeartbeats 1000000 in
set_option maxRecDepth 100000 in
theorem stringslite_any (s : ByteArray) (c : Int) (w : World) : Calls Try.prog 79 #[.string s, .int .u8 c] w fun e w' => e = .returned (.int .i64 (Lib.indexByte s.data.toList c.toNat.toUInt8)) ∧ w' = w := by
  go_enter Try.func79, Try.ntmps79
  go_wp2
  rw [run_callFunc_extern Try.func81 (by kernel_rfl) (by kernel_rfl) (by kernel_rfl) (e := Extern.BytealgIndexByte.indexByte) (by kernel_rfl), Lib.run_indexByteString]
  simp only [Result.andThen]
  rw [Oper.upon_value]
  go_wp2
  go_ret
  exact ⟨rfl, rfl⟩
theorem indexByte_any (s : ByteArray) (c : Int) (z : Int) (w : World) (hz : Lib.indexByte s.data.toList c.toNat.toUInt8 = z) : Calls Try.prog 61 #[.string s, .int .u8 c] w (Ret (.int .i64 z) w) := by
  have HZ := Lib.hid hz; clear hz
  go_enter Try.func61, Try.ntmps61
  go_wp2_with (go_at_call 79; refine (stringslite_any s c _).mono ?_; rintro e w' ⟨rfl, rfl⟩; rw [HZ.out])
  go_ret
  exact ⟨rfl, Below.refl _ _⟩
theorem indexByte_mem (l : List UInt8) (c : UInt8) : (0 ≤ Lib.indexByte l c) ↔ c ∈ l := by
  induction l with
  | nil => simp [Lib.indexByte]
  | cons b l ih =>
    unfold Lib.indexByte
    have := Lib.indexByte_ge l c
    by_cases hb : b = c
    · simp [hb]
    · have hb' : (b == c) = false := by simpa using hb
      rw [hb']
      simp only [Bool.false_eq_true, if_false, List.mem_cons, (Ne.symm hb : c ≠ b), false_or, ← ih]
      by_cases h1 : Lib.indexByte l c = -1
      · simp [h1]
      · have : (Lib.indexByte l c == -1) = false := by simpa using h1
        rw [this]; simp; omega
set_option maxHeartbeats 1000000 in
set_option maxRecDepth 100000 in
theorem indexR_any (A : Option Addr) (n c : Nat) (rs : List Fac) (f : Fac) (w : World) (hn : n ≤ 1048576) (hr : Rd w w.heap.size A n 3 Fac.cells rs) :
    Calls Try.prog 63 #[.slice A n c, .agg #[.string f.l, .int .i64 f.a, .int .i64 f.b]] w (Ret (.int .i64 (ixR f rs 0)) w) := by
  have hl := Lib.hid hr.len
  have HR := Lib.hid hr; clear hr
  go_enter Try.func63, Try.ntmps63
  go_wp2_with fail
  refine named fun w0 H0 => ?_
  have B0 := Lib.hid (show Blk w0 w.heap.size 65 #[.string f.l, .int .i64 f.a, .int .i64 f.b] by rw [H0.out]; exact Blk.new _ _ _)
  have hb0 : Below w.heap.size w w0 := by rw [H0.out]; (repeat first | exact Below.refl _ _ | assumption | refine Below.drew ?_ | refine Below.alloc ?_ (by first | exact Nat.le_refl _ | (simp; done) | omega | (simp; omega)) _ | refine Below.setCell ?_ (by first | exact Nat.le_refl _ | (simp; done) | omega | (simp; omega)) _)
  clear H0
  go_loopw [8] (fun i w' => ∃ k : Nat, i = .int .i64 k ∧ k ≤ n ∧ Below w0.heap.size w0 w' ∧ Hid (ixR f (rs.drop k) k = ixR f rs 0)) (fun i _ => n - (intOf i).toNat)
  case atStart => exact ⟨0, rfl, by omega, Below.refl _ _, Lib.hid rfl⟩
  case round =>
    obtain ⟨k, rfl, hk, hb, H⟩ := hrel
    have hbb := hb0.trans (hb.mono hb0.size)
    by_cases hlt : k < n
    · obtain ⟨b, o, x, rfl, hB, gx, c0, c1, c2⟩ := (HR.out.next hbb).fac hlt
      have H' := Lib.hid (show (if f = x then (k : Int) else ixR f (rs.drop (k + 1)) (k + 1)) = ixR f rs 0 by
        rw [← H.out, drop_cons gx]; rfl)
      clear gx H
      have B1 := B0.out.next hb
      obtain ⟨d0, d1, d2⟩ := B1.three
      have l1 := B1.lt
      have hup := upc wr.heap.size wr
      have i0 : (0 : Int) ≤ (k : Int) := by omega
      have i1 : (k : Int) < (n : Int) := by omega
      by_cases he : f = x
      · have he' := Lib.hid (show decide (f = x) = true by simpa using he)
        have hne := fun W => (eql_rule f x W).trans (by rw [he'.out])
        have e2 := Lib.hid (show ixR f rs 0 = (k : Int) by rw [← H'.out, if_pos he])
        clear he B1
        go_wp2_with fail
        refine wp_region_up wr.heap.size (by kernel_rfl) (by kernel_rfl) ?_
        repeat (go_big_quiet_step (fail))
        refine wpQuiet_nil ?_
        intro w2 hw2
        have hb2 := up_of hw2
        go_wp2
        go_ret
        exact ⟨ret_int e2.out.symm, hbb.trans (hb2.mono hbb.size)⟩
      · have he' := Lib.hid (show decide (f = x) = false by simpa using he)
        have hne := fun W => (eql_rule f x W).trans (by rw [he'.out])
        have e2 := Lib.hid (show ixR f (rs.drop (k + 1)) (k + 1) = ixR f rs 0 by rw [← H'.out, if_neg he])
        clear he B1
        go_wp2_with fail
        refine wp_region_up wr.heap.size (by kernel_rfl) (by kernel_rfl) ?_
        repeat (go_big_quiet_step (fail))
        refine wpQuiet_nil ?_
        intro w2 hw2
        have hb2 := up_of hw2
        go_wp2
        go_roundw
        case rel => exact ⟨k + 1, by go_num, by omega, hb.trans (hb2.mono hb.size), e2⟩
        case measure => simp [intOf]; omega
    · have e2 := Lib.hid (show ixR f rs 0 = -1 by rw [← H.out, List.drop_of_length_le (by rw [hl.out]; omega)]; rfl)
      go_wp2
      go_ret
      exact ⟨ret_int e2.out.symm, hbb⟩
end Go.Proofs.Ytfanphhlagjkdaa


/-
  Level grammars: the plain part: rules with their depths, and how two level rules are made one.
-/
namespace Go.Proofs.Ytfanphhlagjkdaa

structure LvS where
  rs : List Fac
  ds : List Int
def lvD (s : LvS) (k : Int) : Int := s.ds.getD k.toNat 0
def lvR (s : LvS) (k : Int) : Fac := s.rs.getD k.toNat default
def lvDep (s : LvS) (r : Fac) : Int := if r.l.size = 0 then max (lvD s r.a) (lvD s r.b) + 1 else 1
/-- a rule, added if it is not there -/
def lvRule (s : LvS) (r : Fac) : LvS × Int := if r ∈ s.rs then (s, ((s.rs.idxOf r : Nat) : Int)) else (⟨s.rs ++ [r], s.ds ++ [lvDep s r]⟩, (s.rs.length : Int))
def lvPair (s : LvS) (a b : Int) : LvS × Int := lvRule s ⟨⟨#[]⟩, a, b⟩
def lvLeft (s : LvS) (a z : Int) : LvS × Int :=
  if lvD s z ≤ lvD s a + 1 then lvPair s a z
  else if lvD s (lvR s z).a ≤ lvD s (lvR s z).b then lvPair (lvPair s a (lvR s z).a).1 (lvPair s a (lvR s z).a).2 (lvR s z).b
  else lvPair (lvPair (lvPair s a (lvR s (lvR s z).a).a).1 (lvR s (lvR s z).a).b (lvR s z).b).1 (lvPair s a (lvR s (lvR s z).a).a).2 (lvPair (lvPair s a (lvR s (lvR s z).a).a).1 (lvR s (lvR s z).a).b (lvR s z).b).2
def lvRight (s : LvS) (a z : Int) : LvS × Int :=
  if lvD s z ≤ lvD s a + 1 then lvPair s z a
  else if lvD s (lvR s z).b ≤ lvD s (lvR s z).a then lvPair (lvPair s (lvR s z).b a).1 (lvR s z).a (lvPair s (lvR s z).b a).2
  else lvPair (lvPair (lvPair s (lvR s z).a (lvR s (lvR s z).b).a).1 (lvR s (lvR s z).b).b a).1 (lvPair s (lvR s z).a (lvR s (lvR s z).b).a).2 (lvPair (lvPair s (lvR s z).a (lvR s (lvR s z).b).a).1 (lvR s (lvR s z).b).b a).2
def lvLevel : Nat → LvS → Int → Int → LvS × Int
  | 0, s, l, r => lvPair s l r
  | f + 1, s, l, r =>
    if 1 < lvD s l - lvD s r then lvLeft (lvLevel f s (lvR s l).b r).1 (lvR s l).a (lvLevel f s (lvR s l).b r).2
    else if lvD s l - lvD s r < -1 then lvRight (lvLevel f s l (lvR s r).a).1 (lvR s r).b (lvLevel f s l (lvR s r).a).2
    else lvPair s l r
/-- what holds of rules and depths -/
structure LvI (s : LvS) : Prop where
  len : s.ds.length = s.rs.length
  wf : WF s.rs
  dep : ∀ (k : Nat) (r : Fac), s.rs[k]? = some r → lvD s (k : Int) = lvDep s r
  lo : ∀ k : Nat, k < s.rs.length → 1 ≤ lvD s (k : Int) ∧ lvD s (k : Int) ≤ (k : Int) + 1
def Idx (s : LvS) (k : Int) : Prop := 0 ≤ k ∧ k < (s.rs.length : Int)
theorem LvI.get {s : LvS} (h : LvI s) {k : Int} (hk : Idx s k) : s.rs[k.toNat]? = some (lvR s k) := by
  unfold lvR
  rw [List.getD_eq_getElem?_getD, List.getElem?_eq_getElem (by have := hk.2; have := hk.1; omega)]; rfl
/-- a deep rule is a pair -/
theorem LvI.deep {s : LvS} (h : LvI s) {k : Int} (hk : Idx s k) (hd : 1 < lvD s k) : (lvR s k).l.size = 0 ∧ Idx s (lvR s k).a ∧ Idx s (lvR s k).b ∧ (lvR s k).a < k ∧ (lvR s k).b < k ∧ lvD s k = max (lvD s (lvR s k).a) (lvD s (lvR s k).b) + 1 := by
  have hg := h.get hk
  have h1 := h.dep _ _ hg
  have e : ((k.toNat : Nat) : Int) = k := by have := hk.1; omega
  rw [e] at h1
  rcases h.wf _ _ hg with ⟨h0, ha0, ha1, hb0, hb1⟩ | ⟨c, _, hl, _⟩
  · have := hk.2
    unfold lvDep at h1
    rw [if_pos h0] at h1
    exact ⟨h0, ⟨ha0, by omega⟩, ⟨hb0, by omega⟩, by omega, by omega, h1⟩
  · exfalso
    unfold lvDep at h1
    rw [if_neg (by rw [hl]; show ¬ (1 : Nat) = 0; omega)] at h1
    omega
/-- what an operation does -/
structure LvO (s : LvS) (t : LvS × Int) (g : Nat) : Prop where
  i : LvI t.1
  ext : ∃ er ed, t.1.rs = s.rs ++ er ∧ t.1.ds = s.ds ++ ed
  ix : Idx t.1 t.2
  len : t.1.rs.length ≤ s.rs.length + g
theorem LvO.grow {s : LvS} {t : LvS × Int} {g : Nat} (h : LvO s t g) : s.rs.length ≤ t.1.rs.length := by
  obtain ⟨er, ed, h1, _⟩ := h.ext
  rw [h1, List.length_append]; omega
theorem LvO.idx {s : LvS} {t : LvS × Int} {g : Nat} (h : LvO s t g) {k : Int} (hk : Idx s k) : Idx t.1 k := ⟨hk.1, by have := h.grow; have := hk.2; omega⟩
theorem LvO.r {s : LvS} {t : LvS × Int} {g : Nat} (h : LvO s t g) {k : Int} (hk : Idx s k) : lvR t.1 k = lvR s k := by
  obtain ⟨er, ed, h1, _⟩ := h.ext
  unfold lvR
  rw [h1, List.getD_eq_getElem?_getD, List.getD_eq_getElem?_getD, List.getElem?_append_left (by have := hk.1; have := hk.2; omega)]
theorem LvO.d {s : LvS} {t : LvS × Int} {g : Nat} (hs : LvI s) (h : LvO s t g) {k : Int} (hk : Idx s k) : lvD t.1 k = lvD s k := by
  obtain ⟨er, ed, _, h2⟩ := h.ext
  unfold lvD
  rw [h2, List.getD_eq_getElem?_getD, List.getD_eq_getElem?_getD, List.getElem?_append_left (by have := hk.1; have := hk.2; have := hs.len; omega)]
theorem LvO.trans {s : LvS} {t u : LvS × Int} {g1 g2 : Nat} (h1 : LvO s t g1) (h2 : LvO t.1 u g2) : LvO s u (g1 + g2) := by
  obtain ⟨e1, d1, a1, b1⟩ := h1.ext
  obtain ⟨e2, d2, a2, b2⟩ := h2.ext
  exact ⟨h2.i, ⟨e1 ++ e2, d1 ++ d2, by rw [a2, a1, List.append_assoc], by rw [b2, b1, List.append_assoc]⟩, h2.ix, by have := h1.len; have := h2.len; omega⟩
theorem LvO.more {s : LvS} {t : LvS × Int} {g g' : Nat} (h : LvO s t g) (hg : g ≤ g') : LvO s t g' := ⟨h.i, h.ext, h.ix, by have := h.len; omega⟩
/-- what may be added -/
def RuleOk (s : LvS) (r : Fac) : Prop := (r.l.size = 0 ∧ Idx s r.a ∧ Idx s r.b) ∨ (∃ c, letB c = true ∧ r.l = ⟨#[c]⟩ ∧ r.a = 0 ∧ r.b = 0)
theorem lvRule_do {s : LvS} (h : LvI s) {r : Fac} (hr : RuleOk s r) : LvO s (lvRule s r) 1 := by
  unfold lvRule
  split
  · rename_i hm
    have := List.idxOf_lt_length_of_mem hm
    exact ⟨h, ⟨[], [], by simp, by simp⟩, ⟨by simp, by simp only; omega⟩, by simp⟩
  · rename_i hm
    have hl := h.len
    have hdd : 1 ≤ lvDep s r ∧ lvDep s r ≤ (s.rs.length : Int) + 1 := by
      unfold lvDep
      rcases hr with ⟨h0, ha, hb⟩ | ⟨c, _, hl2, _⟩
      · rw [if_pos h0]
        have e1 := h.lo r.a.toNat (by have := ha.1; have := ha.2; omega)
        have e2 := h.lo r.b.toNat (by have := hb.1; have := hb.2; omega)
        rw [show ((r.a.toNat : Nat) : Int) = r.a by have := ha.1; omega] at e1
        rw [show ((r.b.toNat : Nat) : Int) = r.b by have := hb.1; omega] at e2
        have := ha.2; have := hb.2
        omega
      · rw [if_neg (by rw [hl2]; show ¬ (1 : Nat) = 0; omega)]; omega
    obtain ⟨dd, hdn⟩ : ∃ dd, lvDep s r = dd := ⟨_, rfl⟩
    rw [hdn] at hdd ⊢
    have old : ∀ k : Int, Idx s k → lvD ⟨s.rs ++ [r], s.ds ++ [dd]⟩ k = lvD s k := fun k hk => by
      unfold lvD
      rw [List.getD_eq_getElem?_getD, List.getD_eq_getElem?_getD, List.getElem?_append_left (by have := hk.1; have := hk.2; omega)]
    have new : lvD ⟨s.rs ++ [r], s.ds ++ [dd]⟩ (s.rs.length : Int) = dd := by
      unfold lvD
      rw [List.getD_eq_getElem?_getD, Int.toNat_natCast, ← hl, List.getElem?_append_right (Nat.le_refl _), Nat.sub_self]; rfl
    have dold : ∀ q : Fac, (q.l.size = 0 → Idx s q.a ∧ Idx s q.b) → lvDep ⟨s.rs ++ [r], s.ds ++ [dd]⟩ q = lvDep s q := fun q hq => by
      unfold lvDep
      by_cases h0 : q.l.size = 0
      · rw [if_pos h0, if_pos h0, old _ (hq h0).1, old _ (hq h0).2]
      · rw [if_neg h0, if_neg h0]
    refine ⟨⟨by simp [hl], ?_, ?_, ?_⟩, ⟨[r], [dd], rfl, rfl⟩, ⟨by simp, by simp only [List.length_append, List.length_singleton]; omega⟩, by simp⟩
    · intro k q hq
      by_cases hk : k < s.rs.length
      · rw [List.getElem?_append_left hk] at hq; exact h.wf k q hq
      · have hk2 : k = s.rs.length := by have := (List.getElem?_eq_some_iff.1 hq).1; simp at this; omega
        subst hk2
        simp at hq; subst hq
        rcases hr with ⟨h0, ha, hb⟩ | hc
        · exact .inl ⟨h0, ha.1, ha.2, hb.1, hb.2⟩
        · exact .inr hc
    · intro k q hq
      by_cases hk : k < s.rs.length
      · rw [List.getElem?_append_left hk] at hq
        rw [old k ⟨by omega, by omega⟩, h.dep k q hq, dold]
        intro h0
        rcases h.wf k q hq with ⟨_, ha0, ha1, hb0, hb1⟩ | ⟨c, _, hl2, _⟩
        · exact ⟨⟨ha0, by omega⟩, ⟨hb0, by omega⟩⟩
        · rw [hl2] at h0; exact absurd h0 (show ¬ (1 : Nat) = 0 by omega)
      · have hk2 : k = s.rs.length := by have := (List.getElem?_eq_some_iff.1 hq).1; simp at this; omega
        subst hk2
        simp at hq; subst hq
        rw [new, dold, hdn]
        intro h0
        rcases hr with ⟨_, ha, hb⟩ | ⟨c, _, hl2, _⟩
        · exact ⟨ha, hb⟩
        · rw [hl2] at h0; exact absurd h0 (show ¬ (1 : Nat) = 0 by omega)
    · intro k hk
      by_cases hk' : k < s.rs.length
      · rw [old k ⟨by omega, by omega⟩]; exact h.lo k hk'
      · have hk2 : k = s.rs.length := by simp at hk; omega
        subst hk2
        rw [new]; exact hdd
theorem lvPair_do {s : LvS} (h : LvI s) {a b : Int} (ha : Idx s a) (hb : Idx s b) : LvO s (lvPair s a b) 1 := lvRule_do h (.inl ⟨rfl, ha, hb⟩)
theorem lvLeft_do {s : LvS} (h : LvI s) {a z : Int} (ha : Idx s a) (hz : Idx s z) : LvO s (lvLeft s a z) 3 := by
  have da := h.lo a.toNat (by have := ha.1; have := ha.2; omega)
  rw [show ((a.toNat : Nat) : Int) = a by have := ha.1; omega] at da
  unfold lvLeft
  split
  · exact (lvPair_do h ha hz).more (by omega)
  · rename_i h1
    obtain ⟨_, hc, hd, _, _, _⟩ := h.deep hz (by omega)
    have dd := h.lo (lvR s z).b.toNat (by have := hd.1; have := hd.2; omega)
    rw [show (((lvR s z).b.toNat : Nat) : Int) = (lvR s z).b by have := hd.1; omega] at dd
    split
    · have o1 := lvPair_do h ha hc
      exact (o1.trans (lvPair_do o1.i o1.ix (o1.idx hd))).more (by omega)
    · rename_i h2
      obtain ⟨_, he, hf, _, _, _⟩ := h.deep hc (by omega)
      have o1 := lvPair_do h ha he
      have o2 := lvPair_do o1.i (o1.idx hf) (o1.idx hd)
      exact ((o1.trans o2).trans (lvPair_do o2.i (o2.idx o1.ix) o2.ix)).more (by omega)
theorem lvRight_do {s : LvS} (h : LvI s) {a z : Int} (ha : Idx s a) (hz : Idx s z) : LvO s (lvRight s a z) 3 := by
  have da := h.lo a.toNat (by have := ha.1; have := ha.2; omega)
  rw [show ((a.toNat : Nat) : Int) = a by have := ha.1; omega] at da
  unfold lvRight
  split
  · exact (lvPair_do h hz ha).more (by omega)
  · rename_i h1
    obtain ⟨_, hd, hc, _, _, _⟩ := h.deep hz (by omega)
    have dd := h.lo (lvR s z).a.toNat (by have := hd.1; have := hd.2; omega)
    rw [show (((lvR s z).a.toNat : Nat) : Int) = (lvR s z).a by have := hd.1; omega] at dd
    split
    · have o1 := lvPair_do h hc ha
      exact (o1.trans (lvPair_do o1.i (o1.idx hd) o1.ix)).more (by omega)
    · rename_i h2
      obtain ⟨_, hf, he, _, _, _⟩ := h.deep hc (by omega)
      have o1 := lvPair_do h hd hf
      have o2 := lvPair_do o1.i (o1.idx he) (o1.idx ha)
      exact ((o1.trans o2).trans (lvPair_do o2.i (o2.idx o1.ix) o2.ix)).more (by omega)
theorem lvLevel_do : ∀ (f : Nat) {s : LvS} (_ : LvI s) {l r : Int} (_ : Idx s l) (_ : Idx s r), l + r ≤ f → LvO s (lvLevel f s l r) (3 * f + 1)
  | 0, s, h, l, r, hl, hr, hf => (lvPair_do h hl hr).more (by omega)
  | f + 1, s, h, l, r, hl, hr, hf => by
    have d1 := h.lo l.toNat (by have := hl.1; have := hl.2; omega)
    have d2 := h.lo r.toNat (by have := hr.1; have := hr.2; omega)
    rw [show ((l.toNat : Nat) : Int) = l by have := hl.1; omega] at d1
    rw [show ((r.toNat : Nat) : Int) = r by have := hr.1; omega] at d2
    unfold lvLevel
    split
    · obtain ⟨_, ha, hb, ha2, hb2, _⟩ := h.deep hl (by omega)
      have o1 := lvLevel_do f h hb hr (by omega)
      exact (o1.trans (lvLeft_do o1.i (o1.idx ha) o1.ix)).more (by omega)
    · split
      · obtain ⟨_, ha, hb, ha2, hb2, _⟩ := h.deep hr (by omega)
        have o1 := lvLevel_do f h hl ha (by omega)
        exact (o1.trans (lvRight_do o1.i (o1.idx hb) o1.ix)).more (by omega)
      · exact (lvPair_do h hl hr).more (by omega)
end Go.Proofs.Ytfanphhlagjkdaa


/-
  Level grammars: rules and depths in memory, what a call leaves as it was.
-/
namespace Go.Proofs.Ytfanphhlagjkdaa
open Go.RowKit

section
variable {α : Type} {P : Program} {w : World} {ops : Array Oper} {o : Oper} {a : Act} {K : Act → World → Prop} {Q : Exit → Act → World → Prop} {E : Prop}
/-- one element more, as a step of a region that draws its order; where the row lies then -/
theorem step_pushL (hgd : o.guard = none) (s x : Operand) (t : TypeId) (ho : o.op = .call { callee := .builtin .append, args := #[s, x], argTypes := #[t, t] })
    (base : Nat) (e : TypeId) (sz bytes : Nat) (EI : Elem P t e sz bytes) (enc : α → List Value) (A : Option Addr) (n c : Nat) (xs : List α) (hs : a.eval s = .slice A n c)
    (hown : w.ownsRow base e sz (.slice A n c) n (xs.flatMap enc)) (g : Nat) (y : α) (cs : Array Value) (t' : TypeId) (fr : Nat × Nat) (hx : a.eval x = .slice (some ⟨g, 0, none⟩) 1 1) (hg : w.heap[g]? = some (.cells cs t' fr)) (hcs : cs.toList = enc y)
    (hlen : (enc y).length = sz) (hone : ∀ u ∈ enc y, u.oneCell' = true) (hsz : 0 < sz) (hbytes : (n + 1) * bytes ≤ 140737488355328) (hm : n + 1 ≤ maxLen) (hsize : base ≤ w.heap.size)
    (h : ∀ A' c' w', w'.ownsRow base e sz (.slice A' (n + 1) c') (n + 1) ((xs ++ [y]).flatMap enc) → w.grownBy w' (Value.slice A n c).ownBlock →
      ((Value.slice A' (n + 1) c').ownBlock = (Value.slice A n c).ownBlock ∨ (Value.slice A' (n + 1) c').ownBlock = some w.heap.size) →
      K (a.put o.dst (.slice A' (n + 1) c')) w') : if Region.wanted o (yielded ops a.tmps) = true then Oper.wp P o a w K Q else E := by
  obtain ⟨ht, i, z, hi, hz, h1, h2, hzs⟩ := EI
  have hnews : ∀ j u, (enc y)[j]? = some u → w.cell? ((⟨g, 0, none⟩ : Addr).add j) = some u := by rw [← hcs]; exact World.news_of_block hg
  obtain ⟨v', w', hr, r2, r3, _, r5⟩ := run_append_own_at (P := P) w base t o.type e i z sz bytes ht hi hz h1 h2 hzs hsz _ n _ hown ⟨g, 0, none⟩ 1 1 (enc y) (by rw [hlen]; omega) hnews hone hm hbytes hsize
  obtain ⟨g', cap, rfl, _, _⟩ := r2.form (by omega)
  have hw : Region.wanted o (yielded ops a.tmps) = true := by simp [Region.wanted, hgd]
  rw [if_pos hw]
  unfold Oper.wp execOp
  simp only [ho, resolve, invoke, builtin, Sem.run_bind, Sem.run_pure, Result.andThen_ok, List.map_toArray, List.map_cons, List.map_nil, hs, hx, hr]
  exact h _ _ w' (by rw [List.flatMap_append]; simpa using r2) r3 r5
end
/-- rules and depths, in a box of type T whose third cell is z -/
structure LvG (T : TypeId) (w0 W : World) (X : Nat) (z : Value) (A : Option Addr) (n c : Nat) (B : Option Addr) (m d : Nat) (rs : List Fac) (ds : List Int) : Prop where
  q : W.ownsRow w0.heap.size 65 3 (.slice A n c) n (rs.flatMap Fac.cells)
  k : W.ownsRow w0.heap.size 2 1 (.slice B m d) m (ds.flatMap intE)
  x : Blk W X T #[.slice A n c, .slice B m d, z]
  e : Below w0.heap.size w0 W
  hx : w0.heap.size ≤ X
  t1 : 65 ≠ T
  t2 : 2 ≠ T
/-- what a call leaves as it was: all but the box, the map and the two rows -/
structure LvF (W W' : World) (X M : Nat) (v v' u u' : Value) : Prop where
  size : W.heap.size ≤ W'.heap.size
  kept : ∀ x, x < W.heap.size → x ≠ X → x ≠ M → some x ≠ v.ownBlock → some x ≠ u.ownBlock → W'.heap[x]? = W.heap[x]?
  row : v'.ownBlock = v.ownBlock ∨ ∀ x, v'.ownBlock = some x → W.heap.size ≤ x
  row' : u'.ownBlock = u.ownBlock ∨ ∀ x, u'.ownBlock = some x → W.heap.size ≤ x
section
variable {w0 W W' W'' : World} {X M : Nat} {v v' v'' u u' u'' : Value}
theorem LvF.of_below (hb : Below W.heap.size W W') : LvF W W' X M v v u u := ⟨hb.size, fun x hx _ _ _ _ => hb.block x hx, .inl rfl, .inl rfl⟩
theorem LvF.trans (h1 : LvF W W' X M v v' u u') (h2 : LvF W' W'' X M v' v'' u' u'') : LvF W W'' X M v v'' u u'' := by
  refine ⟨Nat.le_trans h1.size h2.size, fun x hx hX hM hv hu => ?_, ?_, ?_⟩
  · rw [h2.kept x (Nat.lt_of_lt_of_le hx h1.size) hX hM (fun e => ?_) (fun e => ?_), h1.kept x hx hX hM hv hu]
    · rcases h1.row with q | q
      · rw [q] at e; exact hv e
      · have := q x e.symm; omega
    · rcases h1.row' with q | q
      · rw [q] at e; exact hu e
      · have := q x e.symm; omega
  · rcases h2.row with q | q
    · rw [q]; exact h1.row
    · exact .inr fun x hx => Nat.le_trans h1.size (q x hx)
  · rcases h2.row' with q | q
    · rw [q]; exact h1.row'
    · exact .inr fun x hx => Nat.le_trans h1.size (q x hx)
theorem LvF.of_grown (hg : W.grownBy W' v.ownBlock) (hat : v'.ownBlock = v.ownBlock ∨ v'.ownBlock = some W.heap.size) : LvF W W' X M v v' u u :=
  ⟨hg.4, fun x hx _ _ hv _ => hg.block x hx hv, hat.imp id fun e x hx => by rw [e] at hx; injection hx with hx; omega, .inl rfl⟩
theorem LvF.of_grown' (hg : W.grownBy W' u.ownBlock) (hat : u'.ownBlock = u.ownBlock ∨ u'.ownBlock = some W.heap.size) : LvF W W' X M v v u u' :=
  ⟨hg.4, fun x hx _ _ _ hu => hg.block x hx hu, .inl rfl, hat.imp id fun e x hx => by rw [e] at hx; injection hx with hx; omega⟩
theorem LvF.of_map (hg : W.grownBy W' (some M)) : LvF W W' X M v v u u :=
  ⟨hg.4, fun x hx _ hM _ _ => hg.block x hx (by intro e; injection e with e; exact hM e), .inl rfl, .inl rfl⟩
theorem LvF.setX (h : LvF W W' X M v v' u u') (i : Nat) (z : Value) : LvF W (W'.setCell ⟨X, i, none⟩ z) X M v v' u u' := by
  refine ⟨by have := h.size; have h2 := (gb_set W' X i z).4; omega, fun y hy hX hM hv hu => ?_, h.row, h.row'⟩
  rw [Below.heap_setCell W' ⟨X, i, none⟩ z y hX]
  exact h.kept y hy hX hM hv hu
theorem LvF.box (h : LvF W W' X M v v' u u') {x : Nat} (hx : W.heap.size ≤ x) (i : Nat) (z : Value) : LvF W (W'.setCell ⟨x, i, none⟩ z) X M v v' u u' := by
  refine ⟨by have := h.size; have h2 := (gb_set W' x i z).4; omega, fun y hy hX hM hv hu => ?_, h.row, h.row'⟩
  rw [Below.heap_setCell W' ⟨x, i, none⟩ z y (show y ≠ x by omega)]
  exact h.kept y hy hX hM hv hu
theorem LvF.blk (h : LvF W W' X M v v' u u') {x : Nat} {t : TypeId} {cs : Array Value} (hB : Blk W x t cs) (hX : x ≠ X) (hM : x ≠ M) (hv : some x ≠ v.ownBlock) (hu : some x ≠ u.ownBlock) : Blk W' x t cs := (h.kept x hB.lt hX hM hv hu).trans hB
end
section
variable {T : TypeId} {w0 W W' : World} {X M : Nat} {z : Value} {A : Option Addr} {n c : Nat} {B : Option Addr} {m d : Nat} {rs : List Fac} {ds : List Int}
theorem LvG.next (h : LvG T w0 W X z A n c B m d rs ds) (hb : Below W.heap.size W W') : LvG T w0 W' X z A n c B m d rs ds :=
  ⟨own_next h.q hb, own_next h.k hb, h.x.next hb, h.e.trans (hb.mono h.e.size), h.hx, h.t1, h.t2⟩
theorem LvG.alloc (h : LvG T w0 W X z A n c B m d rs ds) (o : Obj) : LvG T w0 (W.alloc o) X z A n c B m d rs ds := h.next ((Below.refl _ _).alloc (Nat.le_refl _) _)
theorem LvG.drew (h : LvG T w0 W X z A n c B m d rs ds) : LvG T w0 W.drew X z A n c B m d rs ds := h.next (Below.refl _ _).drew
/-- the rules grow; the box is not yet told -/
structure LvG' (T : TypeId) (w0 W : World) (X : Nat) (z : Value) (A : Option Addr) (n c : Nat) (B : Option Addr) (m d : Nat) (rs : List Fac) (ds : List Int) (vx ux : Value) : Prop where
  q : W.ownsRow w0.heap.size 65 3 (.slice A n c) n (rs.flatMap Fac.cells)
  k : W.ownsRow w0.heap.size 2 1 (.slice B m d) m (ds.flatMap intE)
  x : Blk W X T #[vx, ux, z]
  e : Below w0.heap.size w0 W
  hx : w0.heap.size ≤ X
  t1 : 65 ≠ T
  t2 : 2 ≠ T
theorem LvG.open (h : LvG T w0 W X z A n c B m d rs ds) : LvG' T w0 W X z A n c B m d rs ds (.slice A n c) (.slice B m d) := ⟨h.q, h.k, h.x, h.e, h.hx, h.t1, h.t2⟩
theorem LvG'.shut (h : LvG' T w0 W X z A n c B m d rs ds (.slice A n c) (.slice B m d)) : LvG T w0 W X z A n c B m d rs ds := ⟨h.q, h.k, h.x, h.e, h.hx, h.t1, h.t2⟩
variable {vx ux : Value}
theorem LvG'.next (h : LvG' T w0 W X z A n c B m d rs ds vx ux) (hb : Below W.heap.size W W') : LvG' T w0 W' X z A n c B m d rs ds vx ux :=
  ⟨own_next h.q hb, own_next h.k hb, h.x.next hb, h.e.trans (hb.mono h.e.size), h.hx, h.t1, h.t2⟩
theorem LvG'.alloc (h : LvG' T w0 W X z A n c B m d rs ds vx ux) (o : Obj) : LvG' T w0 (W.alloc o) X z A n c B m d rs ds vx ux := h.next ((Below.refl _ _).alloc (Nat.le_refl _) _)
theorem LvG'.drew (h : LvG' T w0 W X z A n c B m d rs ds vx ux) : LvG' T w0 W.drew X z A n c B m d rs ds vx ux := h.next (Below.refl _ _).drew
theorem LvG'.pushR {A8 : Option Addr} {k8 c8 : Nat} {rs' : List Fac} (h : LvG' T w0 W X z A n c B m d rs ds vx ux) (hq : W'.ownsRow w0.heap.size 65 3 (.slice A8 k8 c8) k8 (rs'.flatMap Fac.cells)) (hg : W.grownBy W' (Value.slice A n c).ownBlock) :
    LvG' T w0 W' X z A8 k8 c8 B m d rs' ds vx ux :=
  ⟨hq, h.k.kept hg (own_ne h.k h.q (by decide)), h.x.grown hg (own_blk_ne h.q h.x h.t1), h.e.grown hg h.e.size (own_ge h.q), h.hx, h.t1, h.t2⟩
theorem LvG'.pushD {B8 : Option Addr} {k8 c8 : Nat} {ds' : List Int} (h : LvG' T w0 W X z A n c B m d rs ds vx ux) (hq : W'.ownsRow w0.heap.size 2 1 (.slice B8 k8 c8) k8 (ds'.flatMap intE)) (hg : W.grownBy W' (Value.slice B m d).ownBlock) :
    LvG' T w0 W' X z A n c B8 k8 c8 rs ds' vx ux :=
  ⟨h.q.kept hg (own_ne h.q h.k (by decide)), hq, h.x.grown hg (own_blk_ne h.k h.x h.t2), h.e.grown hg h.e.size (own_ge h.k), h.hx, h.t1, h.t2⟩
theorem LvG'.set0 (h : LvG' T w0 W X z A n c B m d rs ds vx ux) (y : Value) : LvG' T w0 (W.setCell ⟨X, 0, none⟩ y) X z A n c B m d rs ds y ux :=
  ⟨own_kept' h.q h.x h.t1 _, own_kept' h.k h.x h.t2 _, h.x.set_ 0 _, h.e.setCell h.hx _, h.hx, h.t1, h.t2⟩
theorem LvG'.set1 (h : LvG' T w0 W X z A n c B m d rs ds vx ux) (y : Value) : LvG' T w0 (W.setCell ⟨X, 1, none⟩ y) X z A n c B m d rs ds vx y :=
  ⟨own_kept' h.q h.x h.t1 _, own_kept' h.k h.x h.t2 _, h.x.set_ 1 _, h.e.setCell h.hx _, h.hx, h.t1, h.t2⟩
theorem LvG'.set2 (h : LvG' T w0 W X z A n c B m d rs ds vx ux) (y : Value) : LvG' T w0 (W.setCell ⟨X, 2, none⟩ y) X y A n c B m d rs ds vx ux :=
  ⟨own_kept' h.q h.x h.t1 _, own_kept' h.k h.x h.t2 _, h.x.set_ 2 _, h.e.setCell h.hx _, h.hx, h.t1, h.t2⟩
theorem LvG'.put {mm : List (Fac × Value)} (h : LvG' T w0 W X z A n c B m d rs ds vx ux) (hm : MapIs W M Fac.val mm) (hne : M ≠ X) (hg : W.grownBy W' (some M)) (hb : Below w0.heap.size w0 W') : LvG' T w0 W' X z A n c B m d rs ds vx ux :=
  have ne : ∀ {e sz n : Nat} {v : Value} {xs : List Value}, W.ownsRow w0.heap.size e sz v n xs → v.ownBlock = none ∨ v.ownBlock ≠ some M := fun ho => by
    have := hm.ne_own ho
    exact .inr fun e => this e.symm
  ⟨h.q.kept hg (ne h.q), h.k.kept hg (ne h.k), h.x.grown hg (by intro e; injection e with e; exact hne e.symm), hb, h.hx, h.t1, h.t2⟩
/-- what may be read -/
theorem LvG.red (h : LvG T w0 W X z A n c B n d rs ds) (hr : rs.length = n) (hd : ds.length = n) (hn : 0 < n) : ∃ ga gb, A = some ⟨ga, 0, none⟩ ∧ B = some ⟨gb, 0, none⟩ ∧ ga < W.heap.size ∧ gb < W.heap.size ∧
    ∀ k : Nat, k < n → W.cell? ⟨gb, k, none⟩ = some (.int .i64 (lvD ⟨rs, ds⟩ k)) ∧ W.cell? ⟨ga, k * 3, none⟩ = some (.string (lvR ⟨rs, ds⟩ k).l) ∧ W.cell? ⟨ga, k * 3 + 1, none⟩ = some (.int .i64 (lvR ⟨rs, ds⟩ k).a) ∧ W.cell? ⟨ga, k * 3 + 2, none⟩ = some (.int .i64 (lvR ⟨rs, ds⟩ k).b) := by
  obtain ⟨ga, ca, hva, hga0, hga1⟩ := h.q.form hn
  obtain ⟨gb, cb, hvb, hgb0, hgb1⟩ := h.k.form hn
  obtain rfl : A = some ⟨ga, 0, none⟩ := by injection hva
  obtain rfl : B = some ⟨gb, 0, none⟩ := by injection hvb
  refine ⟨ga, gb, rfl, rfl, by have := h.q.lt ga rfl; omega, by have := h.k.lt gb rfl; omega, fun k hk => ?_⟩
  have a1 := own_at (sz := 1) (enc := intE) (fun _ _ => rfl) h.k hd 0 k hk 0 (by omega)
  have r0 := own_at (sz := 3) (enc := Fac.cells) (fun x _ => fac_len x) h.q hr default k hk 0 (by omega)
  have r1 := own_at (sz := 3) (enc := Fac.cells) (fun x _ => fac_len x) h.q hr default k hk 1 (by omega)
  have r2 := own_at (sz := 3) (enc := Fac.cells) (fun x _ => fac_len x) h.q hr default k hk 2 (by omega)
  rw [Nat.mul_one, Nat.add_zero] at a1
  rw [Nat.add_zero] at r0
  exact ⟨a1, r0, r1, r2⟩
end
end Go.Proofs.Ytfanphhlagjkdaa
