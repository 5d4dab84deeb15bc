/-
  Texts of this claim, merged: Mark MarkI TrimO PrsO Tail Stage PrsI PrsR PlainI PlainP LtrP Found PlainS FoldI.
-/
import Derived.Test.YtikhjoianbndhaaP1
import Derived.StillTail
import Derived.OrdersHeld
import Derived.Deep.RegionHeld
import Derived.Maps.RangeWalk
import Derived.Lib.Bytealg
import Derived.Deep.RegionLaw
import Derived.Deep.DeepCutAuto
import Derived.Deep.RegionHeld3


/-
  The marks that the laws lay into results, and whether they are still there.
-/
namespace Go.Proofs.Ytikhjoianbndhaa
open Go.RowKit

def digB (k : Nat) : UInt8 := UInt8.ofNat (48 + k % 10)
/-- the digits of a number, ahead of a text -/
def mtGo (k : Nat) (out : ByteArray) : ByteArray :=
  if 0 < k then mtGo (k / 10) ((⟨#[digB k]⟩ : ByteArray) ++ out) else out
termination_by k
decreasing_by omega
def mt (k : Nat) : ByteArray := if k = 0 then ⟨#[109, 48]⟩ else (⟨#[109]⟩ : ByteArray) ++ mtGo k ⟨#[]⟩

theorem mtGo_pos {j : Nat} (h : 0 < j) (out : ByteArray) : mtGo j out = mtGo (j / 10) ((⟨#[digB j]⟩ : ByteArray) ++ out) := by
  conv => lhs; rw [mtGo]
  rw [if_pos h]
/-- one byte as a text -/
theorem conv_one (W : World) (j c : Nat) : (convert 87 9 (.slice (some ⟨W.heap.size, 0, none⟩) 1 c)).run Try.prog (W.alloc (.cells #[.int .u8 (48 + (j : Int) % 10)] 5)) =
    .ok (.string ⟨#[digB j]⟩) (W.alloc (.cells #[.int .u8 (48 + (j : Int) % 10)] 5)) := by
  have e : ((digB j).toNat : Int) = 48 + (j : Int) % 10 := by
    unfold digB; rw [UInt8.toNat_ofNat']; omega
  refine run_convert_bytes_back (P := Try.prog) _ _ _ 5 ⟨W.heap.size, 0, none⟩ c [digB j] Try.underlying87 Try.underlying5 Try.underlying9 fun i hi => ?_
  obtain rfl : i = 0 := by simpa using hi
  rw [List.getElem_cons_zero, e]
  exact (Blk.new W 5 #[.int .u8 (48 + (j : Int) % 10)]).cell 0

set_option maxHeartbeats 400000 in
set_option maxRecDepth 100000 in
theorem markText_any (k : Nat) (w : World) (hk : k ≤ 100000000) :
    Calls Try.prog 60 #[.int .i64 (k : Int)] w (Ret (.string (mt k)) w) := by
  by_cases h : k = 0
  · subst h
    have e := Lib.hid (show mt 0 = ⟨#[109, 48]⟩ from rfl)
    go_enter Try.func60, Try.ntmps60
    go_wp2
    go_ret
    exact ⟨by rw [e.out]; rfl, Below.refl _ _⟩
  · have e := Lib.hid (show mt k = (⟨#[109]⟩ : ByteArray) ++ mtGo k ⟨#[]⟩ by unfold mt; rw [if_neg h])
    have h1 : (0 : Int) < k := by omega
    go_enter Try.func60, Try.ntmps60
    go_wp2
    go_loopw [0, 3] (fun k_ o_ w' => ∃ (j : Nat) (out : ByteArray), k_ = .int .i64 j ∧ o_ = .string out ∧ j ≤ 100000000 ∧ out.size + j ≤ 200000000 ∧ Below w.heap.size w w' ∧ Hid (mtGo j out = mtGo k ⟨#[]⟩)) (fun k_ _ _ => (intOf k_).toNat)
    case atStart => exact ⟨k, ⟨#[]⟩, rfl, rfl, hk, by show 0 + k ≤ 200000000; omega, Below.refl _ _, Lib.hid rfl⟩
    case round =>
      obtain ⟨j, out, rfl, rfl, hj, ho, hb, H⟩ := hrel
      by_cases h0 : 0 < j
      · have hcv := fun W => conv_one W j 1
        have hn := Lib.hid (show mtGo (j / 10) ((⟨#[digB j]⟩ : ByteArray) ++ out) = mtGo k ⟨#[]⟩ from (mtGo_pos h0 out).symm.trans H.out)
        clear H
        go_wp2_with fail
        go_roundw
        case rel => exact ⟨j / 10, _, by go_num, rfl, by omega, by rw [ByteArray.size_append]; show 1 + out.size + _ ≤ _; omega, hb.alloc hb.size _, hn⟩
        case measure => simp [intOf]; omega
      · have hn := Lib.hid (show out = mtGo k ⟨#[]⟩ by rw [← H.out, mtGo, if_neg h0])
        go_wp2
        go_ret
        exact ⟨by rw [e.out, ← hn.out]; rfl, hb⟩
theorem markText_int (z : Int) (w : World) (h0 : 0 ≤ z) (h1 : z ≤ 100000000) :
    Calls Try.prog 60 #[.int .i64 z] w (Ret (.string (mt z.toNat)) w) := by
  obtain ⟨k, rfl⟩ := Int.eq_ofNat_of_zero_le h0
  rw [Int.toNat_natCast]
  exact markText_any k w (by omega)
theorem markText_eq (z : Int) (j : Nat) (w : World) (h0 : 0 ≤ z) (h1 : z ≤ 100000000) (hz : z.toNat = j) :
    Calls Try.prog 60 #[.int .i64 z] w (Ret (.string (mt j)) w) := by
  subst hz
  exact markText_int z w h0 h1
theorem mtGo_size : ∀ (k : Nat) (out : ByteArray), k ≤ 100000000 → (mtGo k out).size ≤ out.size + k := by
  intro k
  induction k using Nat.strongRecOn with
  | ind k ih =>
    intro out hk
    by_cases h : 0 < k
    · rw [mtGo_pos h]
      have := ih (k / 10) (by omega) ((⟨#[digB k]⟩ : ByteArray) ++ out) (by omega)
      rw [ByteArray.size_append] at this
      have e : (⟨#[digB k]⟩ : ByteArray).size = 1 := rfl
      omega
    · rw [mtGo, if_neg h]; omega
theorem mt_size (k : Nat) (h : k ≤ 100000000) : (mt k).size ≤ 200000000 := by
  unfold mt
  split
  · show 2 ≤ _; omega
  · rw [ByteArray.size_append]
    have := mtGo_size k ⟨#[]⟩ h
    have e : (⟨#[109]⟩ : ByteArray).size = 1 := rfl
    have e2 : (⟨#[]⟩ : ByteArray).size = 0 := rfl
    omega
def strEM (s : ByteArray) : List Value := [.string s]
/-- the marks from k on -/
def marks (k : Nat) : Nat → List ByteArray
  | 0 => []
  | n + 1 => mt k :: marks (k + 1) n
theorem marks_len : ∀ (n k : Nat), (marks k n).length = n
  | 0, _ => rfl
  | n + 1, k => by simp [marks, marks_len n]
theorem marks_at : ∀ (n k i : Nat), i < n → (marks k n)[i]? = some (mt (k + i))
  | 0, _, i, h => by omega
  | n + 1, k, 0, _ => by simp [marks]
  | n + 1, k, i + 1, h => by
    rw [marks, List.getElem?_cons_succ, marks_at n (k + 1) i (by omega)]
    congr 2; omega

/-- the cells of a slice of the call's own, marked -/
theorem own_set {w : World} {base : Nat} {e : TypeId} {sz n c g : Nat} {xs : List Value} (h : w.ownsRow base e sz (.slice (some ⟨g, 0, none⟩) n c) n xs) (i : Nat) (u : Value) :
    (w.setCell ⟨g, i, none⟩ u).ownsRow base e sz (.slice (some ⟨g, 0, none⟩) n c) n (xs.set i u) := by
  exact (h.stored i u).1
end Go.Proofs.Ytikhjoianbndhaa


/-
  The marks that the laws lay into lists of numbers and of rules.
-/
namespace Go.Proofs.Ytikhjoianbndhaa
open Go.RowKit

/-- two rows of different element types do not share a block -/
theorem own_ne {w : World} {b1 b2 e1 e2 s1 s2 n1 n2 : Nat} {v1 v2 : Value} {xs1 xs2 : List Value} (h1 : w.ownsRow b1 e1 s1 v1 n1 xs1) (h2 : w.ownsRow b2 e2 s2 v2 n2 xs2) (hne : e1 ≠ e2) : v1.ownBlock = none ∨ v1.ownBlock ≠ v2.ownBlock := by
  rcases h1.2 with ⟨rfl, _⟩ | ⟨g1, c1, u1, rfl, _, hh1, _⟩
  · left; rfl
  · right
    rcases h2.2 with ⟨rfl, _⟩ | ⟨g2, c2, u2, rfl, _, hh2, _⟩
    · simp [Value.ownBlock]
    · intro he
      have hg : g1 = g2 := by simpa [Value.ownBlock] using he
      subst hg
      rw [hh1] at hh2
      injection hh2 with hh2
      injection hh2 with _ ht
      exact hne ht
/-- the numbers from k on -/
def marksI (k : Nat) : Nat → List Int
  | 0 => []
  | n + 1 => (k : Int) :: marksI (k + 1) n
theorem marksI_len : ∀ (n k : Nat), (marksI k n).length = n
  | 0, _ => rfl
  | n + 1, k => by simp [marksI, marksI_len n]
theorem marksI_at : ∀ (n k i : Nat), i < n → (marksI k n)[i]? = some ((k + i : Nat) : Int)
  | 0, _, i, h => by omega
  | n + 1, k, 0, _ => by simp [marksI]
  | n + 1, k, i + 1, h => by
    rw [marksI, List.getElem?_cons_succ, marksI_at n (k + 1) i (by omega)]
    congr 2; omega
theorem own_setI {w : World} {base : Nat} {e : TypeId} {sz n c g : Nat} {xs : List Value} (h : w.ownsRow base e sz (.slice (some ⟨g, 0, none⟩) n c) n xs) (i : Nat) (u : Value) :
    (w.setCell ⟨g, i, none⟩ u).ownsRow base e sz (.slice (some ⟨g, 0, none⟩) n c) n (xs.set i u) := (h.stored i u).1
set_option maxHeartbeats 1000000 in
theorem markRuleS_any (A : Option Addr) (n c : Nat) (base : Nat) (xs : List Value) (k : Nat) (w : World) (hn : n ≤ 1048576) (hk : k ≤ 1048576)
    (hown : w.ownsRow base 44 3 (.slice A n c) n xs) :
    Calls Try.prog 33 #[.slice A n c, .int .i64 (k : Int)] w fun e w' => e = .returned (.int .i64 ((k + 3 * n : Nat) : Int)) ∧ w.grownBy w' (Value.slice A n c).ownBlock := by
  go_enter Try.func33, Try.ntmps33
  go_wp2
  go_loopw [1, 5] (fun k_ i_ w' => ∃ (i : Nat) (ys : List Value), i_ = .int .i64 i ∧ k_ = .int .i64 ((k : Int) + 3 * (i : Int)) ∧ i ≤ n ∧ Hid (w'.ownsRow base 44 3 (.slice A n c) n ys) ∧
      Hid (w.grownBy w' (Value.slice A n c).ownBlock)) (fun _ i_ _ => n - (intOf i_).toNat)
  case atStart => exact ⟨0, xs, rfl, by go_num, by omega, Lib.hid hown, Lib.hid (World.grownBy.refl _ _)⟩
  case round =>
    obtain ⟨i, ys, rfl, rfl, hi, ho, hg⟩ := hrel
    by_cases hlt : i < n
    · obtain ⟨g, cap, hv, hgb, hgs⟩ := ho.out.form (by omega)
      injection hv with hA _ hc
      subst hA
      clear hc
      have hc1 := Lib.hid ho.out.1
      go_wp2_with fail
      refine (markText_int _ wr (by omega) (by omega)).mono ?_
      rintro e w1 ⟨rfl, hb1⟩
      have ho1 := Lib.hid (own_next ho.out hb1)
      have c0 := (ho1.out.cellAt (i * 3) (by omega)).trans (List.getElem?_eq_getElem (by rw [hc1.out]; omega))
      have c1 := (ho1.out.cellAt (i * 3 + 1) (by omega)).trans (List.getElem?_eq_getElem (by rw [hc1.out]; omega))
      have c2 := (ho1.out.cellAt (i * 3 + 2) (by omega)).trans (List.getElem?_eq_getElem (by rw [hc1.out]; omega))
      have f0 := ho1.out.frozenAt
      have G1 := Lib.hid (gb_trans hg.out (gb_below hb1 (r := (Value.slice (some ⟨g, 0, none⟩) n c).ownBlock)))
      go_wp2_with fail
      go_roundw
      case rel =>
        refine ⟨i + 1, _, by go_num, by go_num, by omega, Lib.hid (own_setI (own_setI (own_setI ho1.out (i * 3) _) (i * 3 + 1) _) (i * 3 + 2) _), Lib.hid (gb_setCell (gb_setCell (gb_setCell G1.out (i * 3) _) (i * 3 + 1) _) (i * 3 + 2) _)⟩
      case measure => simp [intOf]; omega
    · have hin : i = n := by omega
      have Hin := Lib.hid hin; clear hin
      go_wp2
      go_ret
      exact ⟨ret_int (by rw [Hin.out]; omega), hg.out⟩
theorem markGrammar_any (A : Option Addr) (n c : Nat) (base : Nat) (xs : List Value) (k : Nat) (w : World) (hn : n ≤ 1048576) (hk : k ≤ 1048576)
    (hown : w.ownsRow base 44 3 (.slice A n c) n xs) :
    Calls Try.prog 10 #[.agg #[.slice A n c], .int .i64 (k : Int)] w fun e w' => e = .returned (.int .i64 ((k + 3 * n : Nat) : Int)) ∧ w.grownBy w' (Value.slice A n c).ownBlock := by
  have Ho := Lib.hid hown; clear hown
  have hb0 : Below w.heap.size w (w.alloc (.cells #[.slice A n c] 24)) := by (repeat first | exact Below.refl _ _ | assumption | refine Below.drew ?_ | refine Below.alloc ?_ (by first | exact Nat.le_refl _ | (simp; done) | omega | (simp; omega)) _ | refine Below.setCell ?_ (by first | exact Nat.le_refl _ | (simp; done) | omega | (simp; omega)) _)
  go_enter Try.func10, Try.ntmps10
  go_wp2_with fail
  refine (markRuleS_any A n c base xs k _ hn hk (own_next Ho.out hb0)).mono ?_
  rintro e w1 ⟨rfl, hg1⟩
  go_wp2_with fail
  go_ret
  exact ⟨rfl, gb_trans (gb_below hb0) hg1⟩
end Go.Proofs.Ytikhjoianbndhaa


/-
  A grammar trimmed: the rules that are left, written down.
-/
namespace Go.Proofs.Ytikhjoianbndhaa
open Go.RowKit

theorem info_bool : (Try.prog.info? 4).map (fun i => (i.zero, i.size, i.bytes)) = some (some (.bool false), 1, 1) := by kernel_rfl
def boolA (u : List Bool) : Array Value := (u.map Value.bool).toArray
theorem boolA_made (n : Nat) : madeCells (Value.bool false).cells (n * 1) = boolA (List.replicate n false) := by
  apply Array.ext
  · simp [size_madeCells, boolA]
  · intro i h1 h2
    simp [madeCells, Value.cells, boolA, Nat.mod_one]
theorem boolA_set (u : List Bool) (i : Nat) (b : Bool) : (boolA u).setIfInBounds i (.bool b) = boolA (u.set i b) := by
  unfold boolA
  apply Array.ext'
  simp [List.map_set]
theorem boolA_at (u : List Bool) {i : Nat} (h : i < u.length) : (boolA u)[i]? = some (.bool (u.getD i false)) := by
  simp [boolA, List.getD_eq_getElem?_getD, List.getElem?_eq_getElem h]
theorem makeB (n : Nat) (W : World) (hn : n ≤ 1048576) : (Instr.makeSlice 102 (.int .i64 (n : Int)) (.int .i64 (n : Int))).run Try.prog W = .ok (.slice (some ⟨W.heap.size, 0, none⟩) n n) (W.alloc (.cells (boolA (List.replicate n false)) 4)) := by
  obtain ⟨i0, hi, hz0, hz1, hz2⟩ := info_parts info_bool
  have hmk := run_make_rowN (P := Try.prog) 102 4 i0 _ Try.underlying102 hi hz0 .i64 .i64 n n (Nat.le_refl _) (by rw [hz2]; omega) (by omega) W
  rw [hz1, boolA_made] at hmk
  exact hmk
def intA (u : List Int) : Array Value := (u.map (Value.int .i64)).toArray
theorem intA_made (n : Nat) : madeCells (Value.int .i64 0).cells (n * 1) = intA (List.replicate n 0) := by
  apply Array.ext
  · simp [size_madeCells, intA]
  · intro i h1 h2
    simp [madeCells, Value.cells, intA, Nat.mod_one]
theorem intA_set (u : List Int) (i : Nat) (b : Int) : (intA u).setIfInBounds i (.int .i64 b) = intA (u.set i b) := by
  unfold intA
  apply Array.ext'
  simp [List.map_set]
theorem intA_at (u : List Int) {i : Nat} (h : i < u.length) : (intA u)[i]? = some (.int .i64 (u.getD i 0)) := by
  simp [intA, List.getD_eq_getElem?_getD, List.getElem?_eq_getElem h]
theorem info_i64' : (Try.prog.info? 2).map (fun i => (i.zero, i.size, i.bytes)) = some (some (.int .i64 0), 1, 8) := by kernel_rfl
theorem makeN (n : Nat) (W : World) (hn : n ≤ 1048576) : (Instr.makeSlice 37 (.int .i64 (n : Int)) (.int .i64 (n : Int))).run Try.prog W = .ok (.slice (some ⟨W.heap.size, 0, none⟩) n n) (W.alloc (.cells (intA (List.replicate n 0)) 2)) := by
  obtain ⟨i0, hi, hz0, hz1, hz2⟩ := info_parts info_i64'
  have hmk := run_make_rowN (P := Try.prog) 37 2 i0 _ Try.underlying37 hi hz0 .i64 .i64 n n (Nat.le_refl _) (by rw [hz2]; omega) (by omega) W
  rw [hz1, intA_made] at hmk
  exact hmk
theorem news1 {W : World} {g : Nat} {t : TypeId} {y : Fac} (h : Blk W g t #[.string y.l, .int .i64 y.a, .int .i64 y.b]) : ∀ j u, ([y].flatMap Fac.cells)[j]? = some u → W.cell? ((⟨g, 0, none⟩ : Addr).add j) = some u := by
  intro j u hj
  have e : ((⟨g, 0, none⟩ : Addr).add j) = ⟨g, j, none⟩ := by
    simp only [Addr.add, Nat.zero_add]
    by_cases h0 : j = 0
    · subst h0; rfl
    · simp [h0]
  rw [e, h.cell j]
  simpa [Fac.cells] using hj
/-- the last round of 'trimmed' under way -/
structure OutW (O : Nat) (w W : World) (A4 : Option Addr) (c4 k : Nat) (kept : List Fac) (X U : Nat) (u : List Bool) (V : Nat) (at_ : List Int) (B : Nat) (A7 : Option Addr) (nn c7 : Nat) (out : List Fac) : Prop where
  r : W.ownsRow w.heap.size 44 3 (.slice A4 k c4) k (kept.flatMap Fac.cells)
  u : Blk W U 4 (boolA u)
  v : Blk W V 2 (intA at_)
  b : Blk W B 24 #[.slice A7 nn c7]
  o : Blk W O 24 #[.slice none 0 0]
  q : W.ownsRow X 44 3 (.slice A7 nn c7) nn (out.flatMap Fac.cells)
  e : Below w.heap.size w W
  n0 : w.heap.size ≤ O
  n1 : O < B
  n2 : B < X
  n3 : w.heap.size ≤ U
  n4 : w.heap.size ≤ V
  n5 : X ≤ W.heap.size
  n6 : ∀ q, (Value.slice A4 k c4).ownBlock = some q → q < X
section
variable {O : Nat} {w W W' : World} {A4 : Option Addr} {c4 k : Nat} {kept : List Fac} {X U : Nat} {u : List Bool} {V : Nat} {at_ : List Int} {B : Nat} {A7 : Option Addr} {nn c7 : Nat} {out : List Fac}
theorem OutW.next (h : OutW O w W A4 c4 k kept X U u V at_ B A7 nn c7 out) (hb : Below W.heap.size W W') : OutW O w W' A4 c4 k kept X U u V at_ B A7 nn c7 out :=
  ⟨own_next h.r hb, h.u.next hb, h.v.next hb, h.b.next hb, h.o.next hb, own_next h.q hb, h.e.trans (hb.mono h.e.size), h.n0, h.n1, h.n2, h.n3, h.n4, Nat.le_trans h.n5 hb.size, h.n6⟩
theorem OutW.alloc (h : OutW O w W A4 c4 k kept X U u V at_ B A7 nn c7 out) (o : Obj) : OutW O w (W.alloc o) A4 c4 k kept X U u V at_ B A7 nn c7 out := h.next ((Below.refl _ _).alloc (Nat.le_refl _) _)
theorem OutW.drew (h : OutW O w W A4 c4 k kept X U u V at_ B A7 nn c7 out) : OutW O w W.drew A4 c4 k kept X U u V at_ B A7 nn c7 out := h.next (Below.refl _ _).drew
/-- the cells of a block made later put -/
theorem OutW.far {Z : Nat} (h : OutW O w W A4 c4 k kept X U u V at_ B A7 nn c7 out) (hg : W.grownBy W' (some Z)) (h1 : some Z ≠ (Value.slice A4 k c4).ownBlock) (h2 : some Z ≠ (Value.slice A7 nn c7).ownBlock) (h3 : Z ≠ U) (h4 : Z ≠ V) (h5 : Z ≠ B) (h6 : O < Z) :
    OutW O w W' A4 c4 k kept X U u V at_ B A7 nn c7 out := by
  have t : ∀ g : Nat, Z ≠ g → some g ≠ some Z := fun g hne e => hne (by injection e with e; exact e.symm)
  exact ⟨h.r.kept hg (.inr fun e => h1 e.symm), h.u.grown hg (t _ h3), h.v.grown hg (t _ h4), h.b.grown hg (t _ h5), h.o.grown hg (t _ (by omega)), h.q.kept hg (.inr fun e => h2 e.symm),
    h.e.grown hg h.e.size (fun q hq => by injection hq with hq; have := h.n0; omega), h.n0, h.n1, h.n2, h.n3, h.n4, Nat.le_trans h.n5 hg.size, h.n6⟩
/-- a number told -/
theorem OutW.tell (h : OutW O w W A4 c4 k kept X U u V at_ B A7 nn c7 out) (i : Nat) (z : Int) : OutW O w (W.setCell ⟨V, i, none⟩ (.int .i64 z)) A4 c4 k kept X U u V (at_.set i z) B A7 nn c7 out := by
  have hg := gb_set W V i (.int .i64 z)
  have nt : ∀ {g : Nat} {t : TypeId} {cs : Array Value}, Blk W g t cs → t ≠ 2 → some g ≠ some V := fun hB hne e => by
    injection e with e; subst e
    have := hB.symm.trans h.v
    injection this with this; injection this with _ this; exact hne this
  refine ⟨h.r.kept hg (.inr fun e => own_blk_ne h.r h.v (by decide) e.symm), h.u.grown hg (nt h.u (by decide)), ?_, h.b.grown hg (nt h.b (by decide)), h.o.grown hg (nt h.o (by decide)), h.q.kept hg (.inr fun e => own_blk_ne h.q h.v (by decide) e.symm),
    h.e.grown hg h.e.size (fun q hq => by injection hq with hq; have := h.n4; omega), h.n0, h.n1, h.n2, h.n3, h.n4, Nat.le_trans h.n5 hg.size, h.n6⟩
  have := h.v.set_ i (.int .i64 z)
  rw [intA_set] at this; exact this
/-- one rule more, told to the box as well -/
theorem OutW.push {A8 : Option Addr} {k8 c8 : Nat} {out' : List Fac} (h : OutW O w W A4 c4 k kept X U u V at_ B A7 nn c7 out) (hq : W'.ownsRow X 44 3 (.slice A8 k8 c8) k8 (out'.flatMap Fac.cells)) (hg : W.grownBy W' (Value.slice A7 nn c7).ownBlock) :
    OutW O w (W'.setCell ⟨B, 0, none⟩ (.slice A8 k8 c8)) A4 c4 k kept X U u V at_ B A8 k8 c8 out' := by
  have hb' : Blk W' B 24 #[.slice A7 nn c7] := h.b.grown hg (own_blk_ne h.q h.b (by decide))
  have hu' := h.u.grown hg (own_blk_ne h.q h.u (by decide))
  have hv' := h.v.grown hg (own_blk_ne h.q h.v (by decide))
  have ho' := h.o.grown hg (own_blk_ne h.q h.o (by decide))
  have hr' : W'.ownsRow w.heap.size 44 3 (.slice A4 k c4) k (kept.flatMap Fac.cells) := h.r.kept hg (by
    cases hv : (Value.slice A4 k c4).ownBlock with
    | none => exact .inl rfl
    | some q => exact .inr fun e => by have h1 := h.n6 q hv; have h2 := own_ge h.q q e.symm; omega)
  have he' := h.e.grown hg h.e.size (fun q hq' => by have := own_ge h.q q hq'; have := h.n0; have := h.n2; have := h.n1; omega)
  have hg2 := gb_set W' B 0 (.slice A8 k8 c8)
  have nt : ∀ {g : Nat} {t : TypeId} {cs : Array Value}, Blk W' g t cs → t ≠ 24 → some g ≠ some B := fun hB hne e => by
    injection e with e; subst e
    have := hB.symm.trans hb'
    injection this with this; injection this with _ this; exact hne this
  refine ⟨hr'.kept hg2 (.inr fun e => own_blk_ne hr' hb' (by decide) e.symm), hu'.grown hg2 (nt hu' (by decide)), hv'.grown hg2 (nt hv' (by decide)), ?_, ho'.grown hg2 (by intro e; injection e with e; have := h.n0; have := h.n1; omega), hq.kept hg2 (.inr fun e => own_blk_ne hq hb' (by decide) e.symm),
    he'.grown hg2 he'.size (fun q hq => by injection hq with hq; have := h.n0; have := h.n1; omega), h.n0, h.n1, h.n2, h.n3, h.n4, Nat.le_trans (Nat.le_trans h.n5 hg.size) hg2.size, h.n6⟩
  exact hb'.set_ 0 _
end
end Go.Proofs.Ytikhjoianbndhaa


/-
  The pair that occurs most often, in the reference.
-/
namespace Go.Proofs.Ytikhjoianbndhaa
open Go.RowKit

/-- how often the pair with number k is counted -/
def cntAt (r : Nat) (D : List PI) (k : Nat) : Int := (D.count (((k / r : Nat) : Int), ((k % r : Nat) : Int)) : Nat)
def cntL (r : Nat) (D : List PI) : List Int := (List.range (r * r)).map (cntAt r D)
theorem cntL_len (r : Nat) (D : List PI) : (cntL r D).length = r * r := by simp [cntL]
theorem cntL_at {r : Nat} {D : List PI} {k : Nat} (h : k < r * r) : (cntL r D).getD k 0 = cntAt r D k := by
  unfold cntL
  rw [List.getD_eq_getElem?_getD, List.getElem?_map, List.getElem?_range h]; rfl
theorem cntL_nil (r : Nat) : cntL r [] = List.replicate (r * r) 0 := by
  apply List.ext_getElem
  · simp [cntL]
  · intro i h1 h2
    simp [cntL, cntAt]
theorem divmod_of {r a b : Nat} (hb : b < r) : (a * r + b) / r = a ∧ (a * r + b) % r = b := by
  have hr : 0 < r := by omega
  refine ⟨?_, ?_⟩
  · rw [Nat.mul_comm, Nat.mul_add_div hr, Nat.div_eq_of_lt hb]; rfl
  · rw [Nat.mul_comm, Nat.mul_add_mod, Nat.mod_eq_of_lt hb]
theorem cntL_set {r : Nat} {D : List PI} {a b : Nat} (ha : a < r) (hb : b < r) : (cntL r D).set (a * r + b) (cntAt r D (a * r + b) + 1) = cntL r (D ++ [((a : Int), (b : Int))]) := by
  obtain ⟨d1, d2⟩ := divmod_of (a := a) hb
  apply List.ext_getElem
  · simp [cntL]
  · intro i h1 h2
    rw [List.getElem_set]
    have hi : i < r * r := by simpa [cntL] using h2
    have e1 : (cntL r (D ++ [((a : Int), (b : Int))]))[i]'h2 = cntAt r (D ++ [((a : Int), (b : Int))]) i := by simp [cntL]
    rw [e1]
    by_cases hk : a * r + b = i
    · rw [if_pos hk, ← hk]
      unfold cntAt
      rw [d1, d2, List.count_append, List.count_singleton_self]; omega
    · rw [if_neg hk]
      have e2 : (cntL r D)[i]'(by simpa [cntL] using hi) = cntAt r D i := by simp [cntL]
      rw [e2]
      unfold cntAt
      rw [List.count_append]
      have : List.count (((i / r : Nat) : Int), ((i % r : Nat) : Int)) [((a : Int), (b : Int))] = 0 := by
        rw [List.count_eq_zero]
        intro hm
        rw [List.mem_singleton] at hm
        injection hm with h1 h2
        have h1' : i / r = a := by omega
        have h2' : i % r = b := by omega
        apply hk
        rw [← h1', ← h2', Nat.mul_comm]; exact Nat.div_add_mod i r
      rw [this]; rfl
/-- numbers told by the first greatest count -/
theorem best_cnt {r : Nat} {D : List PI} (hr : 0 < r) (hD : ∀ q ∈ D, 0 ≤ q.1 ∧ q.1 < (r : Int) ∧ 0 ≤ q.2 ∧ q.2 < (r : Int)) (h0 : D ≠ []) {b : Nat} (hb : b < r * r)
    (h1 : ∀ k, k < r * r → cntAt r D k ≤ cntAt r D b) (h2 : ∀ k, k < b → cntAt r D k < cntAt r D b) : bst D = ((((b / r : Nat) : Int), ((b % r : Nat) : Int)), (cntAt r D b).toNat) := by
  have ix : ∀ q : PI, q ∈ D → ∃ k, k < r * r ∧ q = (((k / r : Nat) : Int), ((k % r : Nat) : Int)) := by
    intro q hq
    obtain ⟨a0, a1, b0, b1⟩ := hD q hq
    obtain ⟨x, hx⟩ : ∃ x : Nat, q.1 = x := ⟨q.1.toNat, by omega⟩
    obtain ⟨y, hy⟩ : ∃ y : Nat, q.2 = y := ⟨q.2.toNat, by omega⟩
    have hx' : x < r := by omega
    have hy' : y < r := by omega
    obtain ⟨d1, d2⟩ := divmod_of (a := x) hy'
    refine ⟨x * r + y, ?_, ?_⟩
    · have : (x + 1) * r ≤ r * r := Nat.mul_le_mul_right r hx'
      rw [Nat.succ_mul] at this; omega
    · rw [d1, d2, ← hx, ← hy]
  refine bst_of h0 ⟨rfl, fun q => ?_, fun q hq => ?_⟩
  · by_cases hq : q ∈ D
    · obtain ⟨k, hk, rfl⟩ := ix q hq
      have := h1 k hk
      unfold cntAt at this ⊢
      omega
    · rw [List.count_eq_zero_of_not_mem hq]; omega
  · have hpos : q ∈ D := by
      obtain ⟨z, hz⟩ : ∃ z, z ∈ D := List.exists_mem_of_ne_nil D h0
      obtain ⟨k, hk, rfl⟩ := ix z hz
      have h3 := h1 k hk
      have h4 : 0 < D.count (((k / r : Nat) : Int), ((k % r : Nat) : Int)) := List.count_pos_iff.2 hz
      refine List.count_pos_iff.1 ?_
      rw [hq]
      unfold cntAt at h3 ⊢
      omega
    obtain ⟨k, hk, rfl⟩ := ix q hpos
    have hkb : b ≤ k := by
      rcases Nat.lt_or_ge k b with h | h
      · have h3 := h2 k h
        unfold cntAt at h3 hq
        omega
      · exact h
    have hd : b / r ≤ k / r := Nat.div_le_div_right hkb
    rcases Nat.lt_or_ge (b / r) (k / r) with h | h
    · exact .inl (by show ((b / r : Nat) : Int) < ((k / r : Nat) : Int); omega)
    · refine .inr ⟨by show ((b / r : Nat) : Int) = ((k / r : Nat) : Int); omega, ?_⟩
      show ((b % r : Nat) : Int) ≤ ((k % r : Nat) : Int)
      have e : b / r = k / r := by omega
      have m1 := Nat.div_add_mod b r
      have m2 := Nat.div_add_mod k r
      rw [e] at m1
      omega
theorem cps_in {r : Int} : ∀ (l : List Int) (sk : Bool), (∀ c ∈ l, 0 ≤ c ∧ c < r) → ∀ q ∈ cps sk l, 0 ≤ q.1 ∧ q.1 < r ∧ 0 ≤ q.2 ∧ q.2 < r := by
  intro l sk h q hq
  obtain ⟨a, b, e⟩ := cps_mem l sk hq
  have h1 := h q.1 (by rw [e]; simp)
  have h2 := h q.2 (by rw [e]; simp)
  exact ⟨h1.1, h1.2, h2.1, h2.2⟩
/-- where the counting stands -/
structure CtI (ks : List Int) (D : List PI) (sk : Bool) (i : Nat) (last : Int) : Prop where
  eq : D ++ cps sk (ks.drop i) = cps false ks
  lo : last = -2 ∨ 0 ≤ last
  hi : last < i
  sk : sk = true ↔ (1 ≤ i ∧ last = (i : Int) - 1 ∧ ∃ x, ks[i - 1]? = some x ∧ ks[i]? = some x)
theorem CtI.first (ks : List Int) : CtI ks [] false 0 (-2) := ⟨rfl, .inl rfl, by omega, by simp⟩
theorem CtI.skip {ks : List Int} {D : List PI} {sk : Bool} {i : Nat} {last x : Int} (h : CtI ks D sk i last) (hx : ks[i]? = some x) (hy : ks[i + 1]? = some x) (hs : sk = true) : CtI ks D false (i + 1) last := by
  refine ⟨?_, h.lo, by have := h.hi; omega, ?_⟩
  · rw [← h.eq, drop_cons hx, drop_cons hy, cps_two, if_pos ⟨rfl, hs⟩]
  · have := h.hi
    constructor
    · intro e; cases e
    · rintro ⟨_, e, _⟩; omega
theorem CtI.count {ks : List Int} {D : List PI} {sk : Bool} {i : Nat} {last x y : Int} (h : CtI ks D sk i last) (hx : ks[i]? = some x) (hy : ks[i + 1]? = some y) (hs : ¬ (x = y ∧ sk = true)) : CtI ks (D ++ [(x, y)]) (decide (x = y)) (i + 1) (i : Int) := by
  refine ⟨?_, .inr (by omega), by omega, ?_⟩
  · rw [← h.eq, drop_cons hx, drop_cons hy, cps_two, if_neg hs, ← drop_cons hy, List.append_assoc]; rfl
  · rw [decide_eq_true_iff]
    constructor
    · rintro rfl
      exact ⟨by omega, by omega, x, hx, hy⟩
    · rintro ⟨_, _, z, h1, h2⟩
      have e1 : x = z := Option.some.inj (hx.symm.trans h1)
      have e2 : y = z := Option.some.inj (hy.symm.trans h2)
      rw [e1, e2]
theorem CtI.last {ks : List Int} {D : List PI} {sk : Bool} {i : Nat} {last : Int} (h : CtI ks D sk i last) (hi : ks.length ≤ i + 1) : D = cps false ks := by
  have e := h.eq
  have : cps sk (ks.drop i) = [] := by
    have hl : (ks.drop i).length ≤ 1 := by rw [List.length_drop]; omega
    generalize ks.drop i = l at hl ⊢
    match l, hl with
    | [], _ => exact cps_nil _
    | [x], _ => exact cps_one _ _
  rw [this, List.append_nil] at e
  exact e
set_option maxHeartbeats 4000000 in
set_option maxRecDepth 100000 in
theorem l06Often_any (B : Option Addr) (m d r : Nat) (ks : List Int) (w : World) (hm : 2 ≤ m) (hm2 : m ≤ 100000) (hr0 : 0 < r) (hr1 : r ≤ 400) (hrg : ∀ c ∈ ks, 0 ≤ c ∧ c < (r : Int)) (hr : Rd w w.heap.size B m 1 intE ks) :
    Calls Try.prog 35 #[.slice B m d, .int .i64 r] w (Ret (.tuple #[.int .i64 (bst (cps false ks)).1.1, .int .i64 (bst (cps false ks)).1.2, .int .i64 ((bst (cps false ks)).2 : Nat)]) w) := by
  have hl := hr.len
  have HR := Lib.hid hr; clear hr
  have HG := Lib.hid hrg; clear hrg
  obtain ⟨R, hR⟩ : ∃ R, r * r = R := ⟨_, rfl⟩
  have hR1 : R ≤ 160000 := by rw [← hR]; exact Nat.mul_le_mul hr1 hr1
  have uR : IntKind.i64.wrap ((r : Int) * (r : Int)) = (R : Int) := by
    rw [show (r : Int) * (r : Int) = (R : Int) by rw [← hR]; rw [Int.natCast_mul]]
    exact IntWalk.i64_in _ (by omega)
  have mkN := fun W => makeN R W (by omega)
  have R0 : (0 : Int) ≤ (R : Int) := by omega
  have hGet := Lib.hid (fun (i : Nat) (x : Int) (h : ks[i]? = some x) => show ∃ a : Nat, a < r ∧ x = (a : Int) from by
    have := HG.out x (List.mem_of_getElem? h)
    exact ⟨x.toNat, by omega, by omega⟩)
  go_enter Try.func35, Try.ntmps35
  go_wp2_with fail
  go_loopw [8, 9] (fun l_ i_ w' => ∃ (i : Nat) (last : Int) (D : List PI) (sk : Bool), l_ = .int .i64 last ∧ i_ = .int .i64 i ∧ i + 1 ≤ m ∧ -2 ≤ last ∧ last < i ∧ Hid (CtI ks D sk i last) ∧
    Hid (Blk w' w.heap.size 2 (intA (cntL r D))) ∧ Hid (Below w.heap.size w w')) (fun _ i_ _ => m - (intOf i_).toNat)
  case atStart => exact ⟨0, -2, [], false, rfl, rfl, by omega, by omega, by omega, Lib.hid (CtI.first ks), Lib.hid (by rw [cntL_nil, hR]; exact Blk.new w _ _), Lib.hid (by (repeat first | exact Below.refl _ _ | assumption | refine Below.drew ?_ | refine Below.alloc ?_ (by first | exact Nat.le_refl _ | (simp; done) | omega | (simp; omega)) _ | refine Below.setCell ?_ (by first | exact Nat.le_refl _ | (simp; done) | omega | (simp; omega)) _))⟩
  case round =>
    obtain ⟨i, last, D, sk, rfl, rfl, hi, hlo, hhi, HI, HB, HE⟩ := hrel
    have i0 : (0 : Int) ≤ (i : Int) := by omega
    have u1 : IntKind.i64.wrap ((i : Int) + 1) = (i : Int) + 1 := IntWalk.i64_in _ (by omega)
    have u2 : IntKind.i64.wrap ((i : Int) - 1) = (i : Int) - 1 := IntWalk.i64_in _ (by omega)
    by_cases hlt : i + 1 < m
    · have i2 : (i : Int) + 1 < (m : Int) := by omega
      have i1 : (i : Int) < (m : Int) := by omega
      have i3 : (0 : Int) ≤ (i : Int) + 1 := by omega
      have RK := HR.out.next HE.out
      obtain ⟨b, o, x, rfl, hBB, gx, cx⟩ := RK.int (show i < m by omega)
      obtain ⟨b', o', y, hA, hBB', gy, cy⟩ := RK.int hlt
      obtain ⟨rfl, rfl⟩ : b = b' ∧ o = o' := by injection hA with h; injection h with h1 h2 h3; exact ⟨h1, h2⟩
      obtain ⟨a1, ha1, rfl⟩ := hGet.out i x gx
      obtain ⟨a2, ha2, rfl⟩ := hGet.out (i + 1) y gy
      have Gx := Lib.hid gx
      have Gy := Lib.hid gy
      have RK2 := Lib.hid RK
      clear gx gy hA hBB' RK
      -- the store
      obtain ⟨K, hK⟩ : ∃ K, a1 * r + a2 = K := ⟨_, rfl⟩
      have hKR : K < R := by
        rw [← hK, ← hR]
        have : (a1 + 1) * r ≤ r * r := Nat.mul_le_mul_right r ha1
        rw [Nat.succ_mul] at this; omega
      obtain ⟨P, hP⟩ : ∃ P, a1 * r = P := ⟨_, rfl⟩
      have uP : IntKind.i64.wrap ((a1 : Int) * (r : Int)) = (P : Int) := by
        rw [show (a1 : Int) * (r : Int) = (P : Int) by rw [← hP]; rw [Int.natCast_mul]]
        exact IntWalk.i64_in _ (by omega)
      have uK : IntKind.i64.wrap ((P : Int) + (a2 : Int)) = (K : Int) := by rw [IntWalk.i64_in _ (by omega)]; omega
      have K0 : (0 : Int) ≤ (K : Int) := by omega
      have K1 : (K : Int) < (R : Int) := by omega
      have cK : wr.cell? ⟨w.heap.size, K, none⟩ = some (.int .i64 (cntAt r D K)) := by
        rw [HB.out.cell K, intA_at _ (by rw [cntL_len, hR]; exact hKR), cntL_at (by rw [hR]; exact hKR)]
      have fK := HB.out.frozen K
      have hcl : 0 ≤ cntAt r D K ∧ cntAt r D K ≤ 100000 := by
        unfold cntAt
        have h1 := List.count_le_length (a := ((((K / r : Nat) : Int)), (((K % r : Nat) : Int)))) (l := D)
        have h2 := congrArg List.length HI.out.eq
        have h3 := cps_len ks false
        rw [List.length_append] at h2
        omega
      have hset : (cntL r D).set K (cntAt r D K + 1) = cntL r (D ++ [((a1 : Int), (a2 : Int))]) := by rw [← hK]; exact cntL_set ha1 ha2
      obtain ⟨cv, hcv⟩ : ∃ cv, cntAt r D K = cv := ⟨_, rfl⟩
      rw [hcv] at cK hcl hset
      have uC : IntKind.i64.wrap (cv + 1) = cv + 1 := IntWalk.i64_in _ (by omega)
      have HB2 := Lib.hid (show Blk (wr.setCell ⟨w.heap.size, K, none⟩ (.int .i64 (cv + 1))) w.heap.size 2 (intA (cntL r (D ++ [((a1 : Int), (a2 : Int))]))) by rw [← hset, ← intA_set]; exact HB.out.set_ K _)
      have HE2 := Lib.hid (HE.out.setCell (p := ⟨w.heap.size, K, none⟩) (Nat.le_refl _) (.int .i64 (cv + 1)))
      clear hcv hset hK hP hcl
      by_cases hxy : a1 = a2
      · subst hxy
        by_cases hla : last = (i : Int) - 1
        · have hi1 : 1 ≤ i := by rcases HI.out.lo with h | h <;> omega
          obtain ⟨b'', o'', z, hA, _, gz, cz⟩ := RK2.out.int (show i - 1 < m by omega)
          obtain ⟨rfl, rfl⟩ : b = b'' ∧ o = o'' := by injection hA with h; injection h with h1 h2 h3; exact ⟨h1, h2⟩
          obtain ⟨j, rfl⟩ : ∃ j, i = j + 1 := ⟨i - 1, by omega⟩
          subst hla
          obtain ⟨a3, ha3, rfl⟩ := hGet.out _ z gz
          have Gz := Lib.hid gz
          have cz' : wr.cell? ⟨b, o + j, none⟩ = some (.int .i64 a3) := cz
          clear gz hA cz RK2
          by_cases hz : a3 = a1
          · subst hz
            have HS := Lib.hid (HI.out.skip Gx.out Gy.out (HI.out.sk.2 ⟨by omega, rfl, _, Gz.out, Gx.out⟩))
            clear HB2 HE2
            go_wp2_with fail
            go_region
            go_wp2_with fail
            go_roundw
            case rel => exact ⟨j + 1 + 1, _, D, false, rfl, by go_num, by omega, by omega, by omega, HS, HB, Lib.hid HE.out.drew⟩
            case measure => simp [intOf]; omega
          · have HS := Lib.hid (HI.out.count Gx.out Gy.out (fun h => by
              obtain ⟨_, _, v, h1, h2⟩ := HI.out.sk.1 h.2
              have e1 := Option.some.inj (Gz.out.symm.trans h1)
              have e2 := Option.some.inj (Gx.out.symm.trans h2)
              omega))
            have hz' : ¬ (a3 : Int) = (a1 : Int) := by omega
            go_wp2_with fail
            go_region
            go_wp2_with fail
            go_region
            go_wp2_with fail
            go_roundw
            case rel => exact ⟨j + 1 + 1, _, D ++ [((a1 : Int), (a1 : Int))], _, by go_num, by go_num, by omega, by omega, by omega, HS, HB2, Lib.hid HE2.out.drew.drew⟩
            case measure => simp [intOf]; omega
        · have HS := Lib.hid (HI.out.count Gx.out Gy.out (fun h => hla (HI.out.sk.1 h.2).2.1))
          have hlab : (last == (i : Int) - 1) = false := by rw [beq_eq_false_iff_ne]; exact hla
          clear RK2
          go_wp2_with fail
          go_region
          go_wp2_with fail
          go_region
          go_wp2_with fail
          go_roundw
          case rel => exact ⟨i + 1, _, D ++ [((a1 : Int), (a1 : Int))], _, rfl, by go_num, by omega, by omega, by omega, HS, HB2, Lib.hid HE2.out.drew.drew⟩
          case measure => simp [intOf]; omega
      · have HS := Lib.hid (HI.out.count Gx.out Gy.out (fun h => hxy (by have := h.1; omega)))
        have hxy' : ¬ (a1 : Int) = (a2 : Int) := by omega
        have hxb : ((a1 : Int) == (a2 : Int)) = false := by rw [beq_eq_false_iff_ne]; exact hxy'
        clear RK2
        go_wp2_with fail
        go_region
        go_wp2_with fail
        go_region
        go_wp2_with fail
        go_roundw
        case rel => exact ⟨i + 1, _, D ++ [((a1 : Int), (a2 : Int))], _, rfl, by go_num, by omega, by omega, by omega, HS, HB2, Lib.hid HE2.out.drew.drew⟩
        case measure => simp [intOf]; omega
    · have i2 : ¬ (i : Int) + 1 < (m : Int) := by omega
      have hDe := HI.out.last (by omega)
      subst hDe
      have HIn := Lib.hid (cps_in ks false HG.out)
      have hne : cps false ks ≠ [] := by
        match hks : ks, hl with
        | [], h => simp at h; omega
        | [x], h => simp at h; omega
        | x :: y :: r', _ => exact cps_some
      have HN := Lib.hid hne
      have hcb : ∀ k, 0 ≤ cntAt r (cps false ks) k ∧ cntAt r (cps false ks) k ≤ 100000 := fun k => by
        unfold cntAt
        have h1 := List.count_le_length (a := ((((k / r : Nat) : Int)), (((k % r : Nat) : Int)))) (l := cps false ks)
        have h3 := cps_len ks false
        omega
      have HCb := Lib.hid hcb
      clear hne hcb HI
      generalize cps false ks = D at *
      have hat : ∀ (W : World), Blk W w.heap.size 2 (intA (cntL r D)) → ∀ k, k < R → W.cell? ⟨w.heap.size, k, none⟩ = some (.int .i64 (cntAt r D k)) := fun W hW k hk => by
        rw [hW.cell k, intA_at _ (by rw [cntL_len, hR]; exact hk), cntL_at (by rw [hR]; exact hk)]
      have HAt := Lib.hid hat
      have hRp : 0 < R := by rw [← hR]; exact Nat.mul_pos hr0 hr0
      clear hat
      go_wp2_with fail
      go_loopw [10, 11] (fun b_ k_ w' => ∃ (b k : Nat), b_ = .int .i64 b ∧ k_ = .int .i64 k ∧ k ≤ R ∧ b < R ∧ Hid (∀ j, j < k → cntAt r D j ≤ cntAt r D b) ∧ Hid (∀ j, j < b → cntAt r D j < cntAt r D b) ∧
        Hid (Blk w' w.heap.size 2 (intA (cntL r D))) ∧ Hid (Below w.heap.size w w')) (fun _ k_ _ => R - (intOf k_).toNat)
      case atStart => exact ⟨0, 0, rfl, rfl, by omega, by omega, Lib.hid (fun j h => by omega), Lib.hid (fun j h => by omega), HB, HE⟩
      case round =>
        obtain ⟨b, k, rfl, rfl, hk, hb, H1, H2, HB1, HE1⟩ := hrel
        have b0 : (0 : Int) ≤ (b : Int) := by omega
        have b1 : (b : Int) < (R : Int) := by omega
        have cb := HAt.out wr HB1.out b hb
        by_cases hkR : k < R
        · have k0 : (0 : Int) ≤ (k : Int) := by omega
          have k1 : (k : Int) < (R : Int) := by omega
          have ck := HAt.out wr HB1.out k hkR
          have v1 : IntKind.i64.wrap ((k : Int) + 1) = (k : Int) + 1 := IntWalk.i64_in _ (by omega)
          by_cases hg : cntAt r D b < cntAt r D k
          · have N1 := Lib.hid (show ∀ j, j < k + 1 → cntAt r D j ≤ cntAt r D k from fun j hj => by
              rcases Nat.lt_or_ge j k with h | h
              · have := H1.out j h; omega
              · obtain rfl : j = k := by omega
                exact Int.le_refl _)
            have N2 := Lib.hid (show ∀ j, j < k → cntAt r D j < cntAt r D k from fun j hj => by have := H1.out j hj; omega)
            clear H1 H2
            generalize hck_ : cntAt r D k = ck_ at *
            generalize cntAt r D b = cb_ at *
            go_wp2_with fail
            go_region
            go_wp2_with fail
            go_roundw
            case rel => exact ⟨k, k + 1, rfl, by go_num, by omega, by omega, Lib.hid (by rw [hck_]; exact N1.out), Lib.hid (by rw [hck_]; exact N2.out), HB1, Lib.hid HE1.out.drew⟩
            case measure => simp [intOf]; omega
          · have N1 := Lib.hid (show ∀ j, j < k + 1 → cntAt r D j ≤ cntAt r D b from fun j hj => by
              rcases Nat.lt_or_ge j k with h | h
              · exact H1.out j h
              · obtain rfl : j = k := by omega
                omega)
            clear H1
            generalize cntAt r D k = ck_ at *
            generalize hcb_ : cntAt r D b = cb_ at *
            go_wp2_with fail
            go_region
            go_wp2_with fail
            go_roundw
            case rel => exact ⟨b, k + 1, rfl, by go_num, by omega, by omega, Lib.hid (by rw [hcb_]; exact N1.out), Lib.hid (by rw [hcb_]; exact H2.out), HB1, Lib.hid HE1.out.drew⟩
            case measure => simp [intOf]; omega
        · obtain rfl : k = R := by omega
          have HBst := Lib.hid (best_cnt hr0 HIn.out HN.out (b := b) (by omega) (fun j hj => H1.out j (by omega)) H2.out)
          have hc0 := HCb.out b
          have k1 : ¬ (k : Int) < (k : Int) := by omega
          have hbr : b / r ≤ b := Nat.div_le_self b r
          have q1 : wrap64 ((b : Int) / (r : Int)) = ((b / r : Nat) : Int) := by
            rw [← Int.natCast_ediv]
            generalize b / r = Q at *
            exact IntWalk.wrap64_in _ (by omega)
          have q2 : (b : Int) % (r : Int) = ((b % r : Nat) : Int) := by rw [Int.natCast_emod]
          have q3 : (r : Int) ≠ 0 := by omega
          clear H1 H2 HIn HN HCb
          obtain ⟨cb_, hcb_⟩ : ∃ cb_, cntAt r D b = cb_ := ⟨_, rfl⟩
          rw [hcb_] at cb hc0 HBst
          go_wp2_with fail
          go_region
          go_wp2_with fail
          refine bodyPost_ret (v := .tuple #[.int .i64 (wrap64 ((b : Int) / (r : Int))), .int .i64 ((b : Int) % (r : Int)), .int .i64 cb_]) (by simp [results, Try.results35, go_sem]) rfl ?_
          refine ⟨?_, HE1.out.drew⟩
          rw [HBst.out, q1, q2]
          show Ending.returned (.tuple #[.int .i64 ((b / r : Nat) : Int), .int .i64 ((b % r : Nat) : Int), .int .i64 cb_]) = .returned (.tuple #[.int .i64 ((b / r : Nat) : Int), .int .i64 ((b % r : Nat) : Int), .int .i64 ((cb_.toNat : Nat) : Int)])
          rw [Int.toNat_of_nonneg hc0.1]
end Go.Proofs.Ytikhjoianbndhaa


/-
  A region that draws its order: quiet operations ahead, in an order of ours, and a tail that waits for all of them.
-/
namespace Go.Proofs.Ytikhjoianbndhaa
open Go

section
variable {P : Program} {ops : Array Oper} {md : Region.Mode} {C : World → Prop}

/-- what an operation waits for -/
def depsT (md : Region.Mode) (ops : Array Oper) (j : Nat) : List Nat :=
  match ops[j]? with
  | some o => (o.after.toList.filter fun e => Region.binds md e).map (·.on)
  | none => []
def reachT (md : Region.Mode) (ops : Array Oper) : Nat → List Nat → List Nat
  | 0, s => s
  | k + 1, s => reachT md ops k (s ++ (s.flatMap (depsT md ops)).filter fun x => !s.contains x).eraseDups
/-- every operation that is not ahead waits for all that are -/
def waitB (md : Region.Mode) (ops : Array Oper) (hd : List Nat) : Bool :=
  (List.range ops.size).all fun t => hd.contains t || hd.all fun i => (reachT md ops ops.size [t]).contains i
def seqT (md : Region.Mode) (ops : Array Oper) : List Nat → Array Bool → Bool
  | [], listed => (Region.ready md ops listed).isEmpty
  | t :: tl, listed => decide (Region.ready md ops listed = [t]) && seqT md ops tl (listed.setIfInBounds t true)
def headT (md : Region.Mode) (ops : Array Oper) (tl : List Nat) : List Nat → Array Bool → Bool
  | [], listed => seqT md ops tl listed
  | i :: hd, listed => (Region.ready md ops listed).contains i && Region.free md ops listed i && headT md ops tl hd (listed.setIfInBounds i true)
def tailB (md : Region.Mode) (ops : Array Oper) (hd tl : List Nat) : Bool :=
  Region.noSelect ops && waitB md ops hd && headT md ops tl hd (Array.replicate ops.size false) && decide (hd.length + tl.length = ops.size)

structure InvT (md : Region.Mode) (ops : Array Oper) (listed : Array Bool) : Prop where
  size : listed.size = ops.size
  closed : ∀ j oj, ops[j]? = some oj → listed.getD j false = true → ∀ e ∈ oj.after, Region.binds md e = true → listed.getD e.on false = true
theorem InvT.set {i : Nat} {listed : Array Bool} (inv : InvT md ops listed) (hi : i ∈ Region.ready md ops listed) : InvT md ops (listed.setIfInBounds i true) := by
  obtain ⟨_, oi, hoi, hall⟩ := mem_ready.1 hi
  refine ⟨by simp [inv.size], fun j oj hj hl e he hb => ?_⟩
  by_cases hij : i = j
  · subst hij
    have : oj = oi := Option.some.inj (hj.symm.trans hoi)
    subst this
    exact getD_set_true (hall e he hb)
  · rw [getD_set_ne false hij] at hl
    exact getD_set_true (inv.closed j oj hj hl e he hb)
theorem reachT_in {listed : Array Bool} (inv : InvT md ops listed) {t : Nat} (hr : t ∈ Region.ready md ops listed) : ∀ (k : Nat) (s : List Nat), (∀ x ∈ s, x = t ∨ listed.getD x false = true) → ∀ x ∈ reachT md ops k s, x = t ∨ listed.getD x false = true
  | 0, s, h => h
  | k + 1, s, h => by
    refine reachT_in inv hr k _ fun x hx => ?_
    rw [List.mem_eraseDups] at hx
    rcases List.mem_append.1 hx with hx | hx
    · exact h x hx
    · have hx := (List.mem_filter.1 hx).1
      obtain ⟨y, hy, hxy⟩ := List.mem_flatMap.1 hx
      unfold depsT at hxy
      split at hxy
      · rename_i o ho
        obtain ⟨e, he, rfl⟩ := List.mem_map.1 hxy
        rw [List.mem_filter] at he
        have he1 : e ∈ o.after := by simpa using he.1
        rcases h y hy with rfl | hl
        · obtain ⟨_, ot, hot, hall⟩ := mem_ready.1 hr
          have : o = ot := Option.some.inj (ho.symm.trans hot)
          subst this
          exact .inr (hall e he1 he.2)
        · exact .inr (inv.closed y o ho hl e he1 he.2)
      · simp at hxy
theorem waitT {hd : List Nat} {listed : Array Bool} (hw : waitB md ops hd = true) (inv : InvT md ops listed) {i t : Nat} (hi : i ∈ hd) (hun : listed.getD i true = false) (ht : t ∈ Region.ready md ops listed) : t ∈ hd := by
  obtain ⟨_, ot, hot, _⟩ := mem_ready.1 ht
  have htlt : t < ops.size := (Array.getElem?_eq_some_iff.1 hot).1
  have h1 := List.all_eq_true.1 hw t (List.mem_range.2 htlt)
  simp only [Bool.or_eq_true, List.contains_iff_mem] at h1
  rcases h1 with h1 | h1
  · exact h1
  · have h2 := List.all_eq_true.1 h1 i hi
    have h3 : i ∈ reachT md ops ops.size [t] := by simpa using h2
    rcases reachT_in inv ht _ [t] (fun x hx => .inl (by simpa using hx)) i h3 with rfl | h4
    · exact hi
    · rw [getD_both hun] at h4; cases h4

/-- Whatever order is picked: the operations ahead come first. -/
def wpAnyT (P : Program) (md : Region.Mode) (ops : Array Oper) (C : World → Prop) (hd : List Nat) (L : Array Bool → Act → Prop) : Nat → Array Bool → Act → Prop
  | 0, listed, a => L listed a
  | f + 1, listed, a => Region.ready md ops listed ≠ [] ∧ ∀ i ∈ Region.ready md ops listed, i ∈ hd ∧ qOp P ops C i (wpAnyT P md ops C hd L f (listed.setIfInBounds i true)) a
theorem wpAny_of_headT {hd : List Nat} {g : Nat} {L : Array Bool → Act → Prop} {Q' : Exit → Act → World → Prop} (hL : ∀ listed a w, C w → L listed a → wpAny P md ops Q' g listed a w) :
    ∀ (f : Nat) (listed : Array Bool) (a : Act) (w : World), C w → wpAnyT P md ops C hd L f listed a → wpAny P md ops Q' (f + g) listed a w
  | 0, listed, a, w, hw, h => by rw [Nat.zero_add]; exact hL _ _ _ hw h
  | f + 1, listed, a, w, hw, h => by
    rw [show f + 1 + g = (f + g) + 1 by omega]
    exact ⟨fun h0 => absurd h0 h.1, fun i hi => wpOp_of_qOp hw (fun a' w' hw' => wpAny_of_headT hL f _ a' w' hw') (h.2 i hi).2⟩
theorem wpAnyT_first {hd : List Nat} {i : Nat} {oi : Oper} {v : Value} {L : Array Bool → Act → Prop} (hi : ops[i]? = some oi) (hsel : ∀ (j : Nat) (o : Oper) cs b, ops[j]? = some o → o.op ≠ .select cs b)
    (hw : waitB md ops hd = true) (hin : i ∈ hd) (hdone : ∀ listed a, L listed a → ∀ j ∈ Region.ready md ops listed, j ∉ hd) :
    ∀ (f : Nat) (listed : Array Bool) (a : Act), InvT md ops listed →
      (∀ j oj, ops[j]? = some oj → j ≠ i → listed.getD j true = false → (∀ e ∈ oj.after, Region.binds md e = true → e.on ≠ i) → oi.apart ops oj = true) →
      i ∈ Region.ready md ops listed → YieldsIn P ops C oi v a →
      wpAnyT P md ops C hd L f (listed.setIfInBounds i true) (a.put oi.dst v) → wpAnyT P md ops C hd L (f + 1) listed a := by
  intro f
  induction f with
  | zero =>
    intro listed a inv _ hr hy H
    have hun := (mem_ready.1 hr).1
    refine ⟨fun h => (by rw [h] at hr; cases hr), fun j hj => ?_⟩
    have hjn := waitT hw inv hin hun hj
    refine ⟨hjn, ?_⟩
    by_cases hji : j = i
    · subst hji; exact hy.qOp hi H
    · exact absurd hjn (hdone _ _ H j (ready_mono hj hji))
  | succ f ih =>
    intro listed a inv hfree hr hy H
    have hun := (mem_ready.1 hr).1
    refine ⟨fun h => (by rw [h] at hr; cases hr), fun j hj => ?_⟩
    have hjn := waitT hw inv hin hun hj
    refine ⟨hjn, ?_⟩
    by_cases hji : j = i
    · subst hji; exact hy.qOp hi H
    · have h1 := (H.2 j (ready_mono hj hji)).2
      obtain ⟨hjun, oj, hoj, hall⟩ := mem_ready.1 hj
      have hnot : ∀ e ∈ oj.after, Region.binds md e = true → e.on ≠ i := fun e he hb heq => by
        have h1 := hall e he hb
        rw [heq, getD_both hun] at h1
        cases h1
      have h2 := qOp_put hoj (hfree j oj hoj hji hjun hnot) (fun cs b => hsel i oi cs b hi) (fun cs b => hsel j oj cs b hoj) hy h1
      have hfree' : ∀ k ok, ops[k]? = some ok → k ≠ i → (listed.setIfInBounds j true).getD k true = false →
          (∀ e ∈ ok.after, Region.binds md e = true → e.on ≠ i) → oi.apart ops ok = true := fun k ok hk hki hun hno => by
        refine hfree k ok hk hki ?_ hno
        by_cases hjk : j = k
        · subst hjk; exact hjun
        · rw [getD_set_ne true hjk] at hun; exact hun
      refine qOp_mono (fun a' h3 => ih (listed.setIfInBounds j true) a' (inv.set hj) hfree' (ready_mono hr (Ne.symm hji)) h3.1 ?_) h2
      rw [Array.setIfInBounds_comm _ _ hji]
      exact h3.2
theorem seqT_ready {tl : List Nat} {listed : Array Bool} (h : seqT md ops tl listed = true) : ∀ j ∈ Region.ready md ops listed, j ∈ tl := by
  cases tl with
  | nil => intro j hj; simp only [seqT, List.isEmpty_iff] at h; rw [h] at hj; cases hj
  | cons t tl =>
    intro j hj
    simp only [seqT, Bool.and_eq_true, decide_eq_true_eq] at h
    rw [h.1] at hj
    have : j = t := by simpa using hj
    simp [this]
theorem wpAny_of_seqT {Q' : Exit → Act → World → Prop} : ∀ (tl : List Nat) (l : List Oper) (listed : Array Bool) (a : Act) (w : World), tl.map (fun i => ops[i]?) = l.map some →
    seqT md ops tl listed = true → wpList P ops Q' l a w → wpAny P md ops Q' tl.length listed a w
  | [], [], _, _, _, _, hB, h => ⟨by simpa [seqT] using hB, h⟩
  | [], _ :: _, _, _, _, hl, _, _ => by simp at hl
  | _ :: _, [], _, _, _, hl, _, _ => by simp at hl
  | t :: tl, o :: l, listed, a, w, hl, hB, h => by
    simp only [List.map_cons, List.cons.injEq] at hl
    simp only [List.length_cons, seqT, Bool.and_eq_true, decide_eq_true_eq] at hB ⊢
    refine ⟨fun h1 => (by rw [hB.1] at h1; cases h1), fun i hi => ?_⟩
    rw [hB.1] at hi
    have hik : i = t := by simpa using hi
    subst hik
    have hw : wpOp P ops Q' i (wpList P ops Q' l) a w := by unfold wpOp; simp only [hl.1]; exact h
    exact wpOp_mono (fun a' w' h' => wpAny_of_seqT tl l _ a' w' hl.2 hB.2 h') hw
theorem wpAnyT_lex {hd0 tl : List Nat} {Lq : Act → Prop} (hsel : Region.noSelect ops = true) (hw : waitB md ops hd0 = true) (hdj : ∀ j ∈ tl, j ∉ hd0) :
    ∀ (hd : List Nat) (l : List Oper) (listed : Array Bool) (a : Act), hd.map (fun i => ops[i]?) = l.map some → (∀ i ∈ hd, i ∈ hd0) → InvT md ops listed →
    headT md ops tl hd listed = true → wpQuiet P ops C Lq l a →
    wpAnyT P md ops C hd0 (fun listed' a' => seqT md ops tl listed' = true ∧ Lq a') hd.length listed a
  | [], [], listed, a, _, _, _, hB, h => ⟨by simpa [headT] using hB, h⟩
  | [], _ :: _, _, _, hl, _, _, _, _ => by simp at hl
  | _ :: _, [], _, _, hl, _, _, _, _ => by simp at hl
  | i :: hd, o :: l, listed, a, hl, hin, inv, hB, h => by
    simp only [List.map_cons, List.cons.injEq] at hl
    simp only [headT, Bool.and_eq_true] at hB
    obtain ⟨⟨hr, hf⟩, hB'⟩ := hB
    have hr' : i ∈ Region.ready md ops listed := by simpa using hr
    have hst : qOp P ops C i (wpQuiet P ops C Lq l) a := by unfold qOp; simp only [hl.1]; exact h
    obtain ⟨v, hy, hK⟩ := yieldsIn_of_qOp hl.1 hst
    exact wpAnyT_first hl.1 (Region.noSelect_spec hsel) hw (hin i (by simp)) (fun listed' a' hL j hj => hdj j (seqT_ready hL.1 j hj)) hd.length listed a inv (Region.free_spec hl.1 hf) hr' hy
      (wpAnyT_lex hsel hw hdj hd l _ _ hl.2 (fun j hj => hin j (by simp [hj])) (inv.set hr') hB' hK)
/-- the operations with these numbers -/
def pickT (l : List Oper) : List Nat → List Oper
  | [] => []
  | i :: is => (l.drop i).take 1 ++ pickT l is
theorem pickT_map {l : List Oper} : ∀ {is : List Nat}, (∀ i ∈ is, i < l.length) → is.map (fun i => l.toArray[i]?) = (pickT l is).map some
  | [], _ => rfl
  | i :: is, h => by
    have hi := h i (by simp)
    have e : (l.drop i).take 1 = [l[i]] := by rw [List.drop_eq_getElem_cons hi]; rfl
    have ih := pickT_map (l := l) (is := is) (fun j hj => h j (by simp [hj]))
    rw [List.map_cons, ih]
    show _ = ((l.drop i).take 1 ++ pickT l is).map some
    rw [e]
    simp [hi]
/-- **Quiet operations ahead in the order 'hd', then the tail in the order 'tl'.** -/
theorem wp_region_tail {id : Nat} {Q : Exit → Act → World → Prop} {a : Act} {w : World} {l : List Oper} (C : World → Prop) (hd tl : List Nat) (hm : P.follows .mixedOrders = true)
    (hB : (tailB .any l.toArray hd tl && (hd.all fun i => decide (i < l.length)) && (tl.all fun i => decide (i < l.length)) && (tl.all fun j => !hd.contains j)) = true) (hC : C { w with drawn := w.drawn + 1 })
    (h : wpQuiet P l.toArray C (fun a' => ∀ w', C w' → wpList P l.toArray Q (pickT l tl) a' w') (pickT l hd) a) : (Code.region id l.toArray true).wp P Q a w := by
  simp only [tailB, Bool.and_eq_true, decide_eq_true_eq, List.all_eq_true] at hB
  obtain ⟨⟨⟨⟨⟨⟨hsel, hw⟩, hlex⟩, hlen⟩, hh⟩, ht⟩, hdj⟩ := hB
  have inv0 : InvT .any l.toArray (Array.replicate l.toArray.size false) := ⟨by simp, fun j oj _ hl => (by rw [getD_replicate_false] at hl; cases hl)⟩
  have H := wpAnyT_lex (md := .any) hsel hw (fun j hj => by have := hdj j hj; simpa using this) hd (pickT l hd) _ a (pickT_map hh) (fun _ h => h) inv0 hlex h
  refine wp_region_any hm ?_
  have := wpAny_of_headT (Q' := Q) (g := tl.length) (fun listed a' w' hw' hL => wpAny_of_seqT tl (pickT l tl) listed a' w' (pickT_map ht) hL.1 (hL.2 w' hw')) _ _ _ _ hC H
  rw [hlen] at this
  exact this
end
end Go.Proofs.Ytikhjoianbndhaa


/-
  A region that draws its order: loads are taken first where nobody writes their cells before them.
-/
namespace Go.Proofs.Ytikhjoianbndhaa
open Go

section
variable {P : Program} {ops : Array Oper} {Q : Exit → Act → World → Prop} {md : Region.Mode} {S : World → Prop} {N : List Nat}

def invB (md : Region.Mode) (ops : Array Oper) (listed : Array Bool) : Bool :=
  decide (listed.size = ops.size) && (List.range ops.size).all fun j => !listed.getD j false || (depsT md ops j).all fun i => listed.getD i false
theorem invB_spec {listed : Array Bool} (h : invB md ops listed = true) : InvT md ops listed := by
  simp only [invB, Bool.and_eq_true, decide_eq_true_eq] at h
  refine ⟨h.1, fun j oj hj hl e he hb => ?_⟩
  have hlt : j < ops.size := (Array.getElem?_eq_some_iff.1 hj).1
  have h1 := List.all_eq_true.1 h.2 j (List.mem_range.2 hlt)
  rw [hl] at h1
  simp only [Bool.not_true, Bool.false_or] at h1
  refine List.all_eq_true.1 h1 e.on ?_
  unfold depsT
  rw [hj]
  exact List.mem_map.2 ⟨e, List.mem_filter.2 ⟨by simpa using he, hb⟩, rfl⟩
/-- each operation that waits for 'i' apart, all keep what the load reads -/
def nB (md : Region.Mode) (ops : Array Oper) (N : List Nat) (i : Nat) : Bool :=
  (List.range ops.size).all fun j => decide (j = i) || !N.contains j || (reachT md ops ops.size [j]).contains i
/-- Whatever order is picked from here on; S holds behind each operation that is carried out, those of N apart. -/
def wpAnyN (P : Program) (md : Region.Mode) (ops : Array Oper) (Q : Exit → Act → World → Prop) (S : World → Prop) (N : List Nat) : Nat → Array Bool → Act → World → Prop
  | 0, listed, a, w => Region.ready md ops listed = [] ∧ Q .normal a w
  | fuel + 1, listed, a, w =>
    (Region.ready md ops listed = [] → Q .normal a w) ∧
    ∀ i ∈ Region.ready md ops listed, wpOp P ops Q i (fun a' w' => (N.contains i = false → S w') ∧ wpAnyN P md ops Q S N fuel (listed.setIfInBounds i true) a' w') a w
theorem wpAny_of_N : ∀ (fuel : Nat) (listed : Array Bool) (a : Act) (w : World), wpAnyN P md ops Q S N fuel listed a w → wpAny P md ops Q fuel listed a w
  | 0, _, _, _, h => h
  | fuel + 1, _, _, _, h => ⟨h.1, fun i hi => wpOp_mono (fun a' w' h' => wpAny_of_N fuel _ a' w' h'.2) (h.2 i hi)⟩
theorem wpAnyN_first {i : Nat} {oi : Oper} {v : Value} (hi : ops[i]? = some oi) (hsel : ∀ (j : Nat) (o : Oper) cs b, ops[j]? = some o → o.op ≠ .select cs b)
    (hQ : ∀ c a w, Q (.panic c) (a.put oi.dst v) w → Q (.panic c) a w) (hn : nB md ops N i = true) :
    ∀ (fuel : Nat) (listed : Array Bool) (a : Act) (w : World), InvT md ops listed →
      (∀ j oj, ops[j]? = some oj → j ≠ i → listed.getD j true = false → (∀ e ∈ oj.after, Region.binds md e = true → e.on ≠ i) → oi.apart ops oj = true) →
      i ∈ Region.ready md ops listed → YieldsIf P ops S oi v a → S w →
      wpAnyN P md ops Q S N fuel (listed.setIfInBounds i true) (a.put oi.dst v) w → wpAnyN P md ops Q S N (fuel + 1) listed a w := by
  intro fuel
  induction fuel with
  | zero =>
    intro listed a w _ _ hr hy hS H
    refine ⟨fun h => (by rw [h] at hr; cases hr), fun j hj => ?_⟩
    by_cases hji : j = i
    · subst hji; exact hy.wpOp hi hS ⟨fun _ => hS, H⟩
    · have := ready_mono hj hji
      rw [H.1] at this
      cases this
  | succ fuel ih =>
    intro listed a w inv hfree hr hy hS H
    refine ⟨fun h => (by rw [h] at hr; cases hr), fun j hj => ?_⟩
    by_cases hji : j = i
    · subst hji; exact hy.wpOp hi hS ⟨fun _ => hS, H⟩
    · have h1 := H.2 j (ready_mono hj hji)
      obtain ⟨hjun, oj, hoj, hall⟩ := mem_ready.1 hj
      have hun := (mem_ready.1 hr).1
      have hnot : ∀ e ∈ oj.after, Region.binds md e = true → e.on ≠ i := fun e he hb heq => by
        have h1 := hall e he hb
        rw [heq, getD_both hun] at h1
        cases h1
      have hNj : N.contains j = false := by
        have h2 := List.all_eq_true.1 hn j (List.mem_range.2 (Array.getElem?_eq_some_iff.1 hoj).1)
        simp only [Bool.or_eq_true, decide_eq_true_eq, Bool.not_eq_true'] at h2
        rcases h2 with (h2 | h2) | h2
        · exact absurd h2 hji
        · exact h2
        · have h3 : i ∈ reachT md ops ops.size [j] := by simpa using h2
          rcases reachT_in inv hj _ [j] (fun x hx => .inl (by simpa using hx)) i h3 with h4 | h4
          · exact absurd h4.symm hji
          · rw [getD_both hun] at h4; cases h4
      have h2 := wpOp_putIf hoj (hfree j oj hoj hji hjun hnot) (fun cs b => hsel i oi cs b hi) (fun cs b => hsel j oj cs b hoj) hQ hy h1
      have hfree' : ∀ k ok, ops[k]? = some ok → k ≠ i → (listed.setIfInBounds j true).getD k true = false →
          (∀ e ∈ ok.after, Region.binds md e = true → e.on ≠ i) → oi.apart ops ok = true := fun k ok hk hki hun hno => by
        refine hfree k ok hk hki ?_ hno
        by_cases hjk : j = k
        · subst hjk; exact hjun
        · rw [getD_set_ne true hjk] at hun; exact hun
      refine wpOp_mono (fun a' w' h3 => ⟨h3.2.1, ih (listed.setIfInBounds j true) a' w' (inv.set hj) hfree' (ready_mono hr (Ne.symm hji)) h3.1 (h3.2.1 hNj) ?_⟩) h2
      rw [Array.setIfInBounds_comm _ _ hji]
      exact h3.2.2
def takeB (md : Region.Mode) (ops : Array Oper) (N : List Nat) (listed : Array Bool) (i : Nat) : Bool :=
  Region.noSelect ops && (Region.free md ops listed i && ((Region.ready md ops listed).contains i && (nB md ops N i && invB md ops listed)))
/-- Take number 'i' first. -/
theorem wpAnyN_take {i : Nat} {oi : Oper} {v : Value} {fuel : Nat} {listed : Array Bool} {a : Act} {w : World} (hi : ops[i]? = some oi) (hB : takeB md ops N listed i = true)
    (hQ : ∀ c a w, Q (.panic c) (a.put oi.dst v) w → Q (.panic c) a w) (hw : Region.wanted oi (yielded ops a.tmps) = true) (hy : ∀ w, S w → (execOp a.eval oi).run P w = .ok (.value v) w) (hS : S w)
    (h : wpAnyN P md ops Q S N fuel (listed.setIfInBounds i true) (a.put oi.dst v) w) : wpAnyN P md ops Q S N (fuel + 1) listed a w := by
  simp only [takeB, Bool.and_eq_true] at hB
  obtain ⟨h1, h2, h3, h4, h5⟩ := hB
  exact wpAnyN_first hi (Region.noSelect_spec h1) hQ h4 fuel listed a w (invB_spec h5) (Region.free_spec hi h2) (by simpa using h3) (.inl ⟨hw, hy⟩) hS h
/-- The one that comes up. -/
theorem wpAnyN_next {i : Nat} {o : Oper} {fuel : Nat} {listed : Array Bool} {a : Act} {w : World} (ho : ops[i]? = some o) (hr : Region.ready md ops listed = [i])
    (h : ∀ K' : Act → World → Prop, Shut (∀ a w, (N.contains i = false → S w) → wpAnyN P md ops Q S N fuel (listed.setIfInBounds i true) a w → K' a w) → if Region.wanted o (yielded ops a.tmps) = true then Oper.wp P o a w K' Q else K' (a.put o.dst undef) w) :
    wpAnyN P md ops Q S N (fuel + 1) listed a w := by
  refine ⟨fun h0 => (by rw [h0] at hr; cases hr), fun j hj => ?_⟩
  rw [hr] at hj
  obtain rfl : j = i := by simpa using hj
  exact wpOp_step ho (fun K' hK => h K' (fun a w hS hW => hK a w ⟨hS, hW⟩))
theorem wpAnyN_done {listed : Array Bool} {a : Act} {w : World} (hr : Region.ready md ops listed = []) (h : Q .normal a w) : ∀ fuel, wpAnyN P md ops Q S N fuel listed a w
  | 0 => ⟨hr, h⟩
  | _ + 1 => ⟨fun _ => h, by rw [hr]; simp⟩
theorem wp_region_N {id : Nat} {a : Act} {w : World} (S : World → Prop) (N : List Nat) (hm : P.follows .mixedOrders = true)
    (h : wpAnyN P .any ops Q S N ops.size (Array.replicate ops.size false) a w.drew) : (Code.region id ops true).wp P Q a w :=
  wp_region_any hm (wpAny_of_N _ _ _ _ h)
end
end Go.Proofs.Ytikhjoianbndhaa


/-
  The pair that occurs most often, in the program.
-/
namespace Go.Proofs.Ytikhjoianbndhaa
open Go.RowKit Go.MapKept

section
variable {α : Type} {P : Program} {w : World} {ops : Array Oper} {rest : List Oper} {o : Oper} {a : Act} {Q : Exit → Act → World → Prop} {r b : Nat} {K : α → Value} {m : List (α × Value)} {vs : List Nat}
theorem wpList_rangeR (hgd : o.guard = none) (s : Operand) (t k e : TypeId) (ho : o.op = .range t s) (ht : P.underlying t = some (.map k e)) (hs : a.eval s = .map (some b)) (h : MapS w b K m)
    (hK : ∀ c, Rng (w.alloc (.mapIter (some b) c #[] c)) w.heap.size b K m [] → wpList P ops Q rest (a.put o.dst (.pointer (some ⟨w.heap.size, 0, none⟩))) (w.alloc (.mapIter (some b) c #[] c))) : wpList P ops Q (o :: rest) a w := by
  refine wpList_plain hgd fun _ hK' => ?_
  obtain ⟨c, hr, h1⟩ := h.range t k e ht
  unfold Oper.wp execOp
  simp only [ho, hs, Sem.run_bind, hr, Result.andThen_ok, Sem.run_pure]
  exact hK' _ _ (hK c h1)
/-- an entry that has come -/
structure NextE (P : Program) (w : World) (r b : Nat) (K : α → Value) (m : List (α × Value)) (vs : List Nat) where
  i : Nat
  q : α
  v : Value
  w' : World
  h1 : m[i]? = some (q, v)
  h2 : i ∉ vs
  h3 : Rng w' r b K m (i :: vs)
  h4 : w.grownBy w' (some r)
  h5 : w'.heap.size = w.heap.size
  h6 : (Instr.entry (.pointer (some ⟨r, 0, none⟩))).run P w' = .ok (.tuple #[K q, v]) w'
theorem wpList_nextR (hgd : o.guard = none) (it : Operand) (ho : o.op = .next it false) (hit : a.eval it = .pointer (some ⟨r, 0, none⟩)) (h : Rng w r b K m vs)
    (hDone : (∀ i, i < m.length → i ∈ vs) → wpList P ops Q rest (a.put o.dst (.tuple #[.bool false])) w)
    (hMore : ∀ E : NextE P w r b K m vs, wpList P ops Q rest (a.put o.dst (.tuple #[.bool true, K E.q, E.v])) E.w') : wpList P ops Q (o :: rest) a w := by
  refine wpList_plain hgd fun _ hK' => ?_
  unfold Oper.wp execOp
  rcases h.step (P := P) o.type with ⟨h1, hr⟩ | ⟨i, p, w', h1, h2, hr, h3, h4, h5, h6⟩
  · simp only [ho, hit, Sem.run_bind, hr, Result.andThen_ok, Sem.run_pure]
    exact hK' _ _ (hDone h1)
  · simp only [ho, hit, Sem.run_bind, hr, Result.andThen_ok, Sem.run_pure]
    exact hK' _ _ (hMore ⟨i, p.1, p.2, w', h1, h2, h3, h4, h5, h6⟩)
end
/-- the counts in the map -/
def CntM (mm : List (PI × Value)) (D : List PI) : Prop := ∀ p, mget p mm = if D.count p = 0 then none else some (.int .i64 ((D.count p : Nat) : Int))
theorem CntM.put {mm : List (PI × Value)} {D : List PI} (h : CntM mm D) (p : PI) : CntM (mput p (.int .i64 ((D.count p : Nat) + 1 : Int)) mm) (D ++ [p]) := fun q => by
  rw [mget_mput, List.count_append]
  by_cases e : q = p
  · subst e
    rw [if_pos rfl, List.count_singleton_self, if_neg (by omega)]; rfl
  · rw [if_neg e, h q]
    have : List.count q [p] = 0 := by rw [List.count_eq_zero]; simp [e]
    rw [this]; rfl
theorem CntM.getD {mm : List (PI × Value)} {D : List PI} (h : CntM mm D) (p : PI) : (mget p mm).getD (.int .i64 0) = .int .i64 ((D.count p : Nat) : Int) := by
  rw [h p]
  split
  · rename_i e; rw [e]; rfl
  · rfl
/-- where the counting stands, in the program -/
structure FqI (ks : List Int) (D : List PI) (sk : Bool) (i : Nat) (tt : List (PI × Value)) : Prop where
  eq : D ++ cps sk (ks.drop (i - 1)) = cps false ks
  lt : ∀ p v, mget p tt = some v → ∃ k : Nat, v = .int .i64 (k : Int) ∧ k < i
  sk : ∀ c, ks[i - 1]? = some c → ∀ p : PI, p.1 = c → (mget p tt = some (.int .i64 ((i - 1 : Nat) : Int)) ↔ (sk = true ∧ p = (c, c)))
theorem FqI.first (ks : List Int) : FqI ks [] false 1 [] := ⟨rfl, fun p v h => (by cases h), fun c _ p _ => ⟨fun h => (by cases h), fun h => (by cases h.1)⟩⟩
theorem FqI.skip {ks : List Int} {D : List PI} {sk : Bool} {j : Nat} {tt : List (PI × Value)} {x y : Int} (h : FqI ks D sk (j + 1) tt) (hx : ks[j]? = some x) (hy : ks[j + 1]? = some y) (hm : mget (x, y) tt = some (.int .i64 (j : Int))) : FqI ks D false (j + 2) tt := by
  obtain ⟨h1, h2⟩ := (h.sk x hx (x, y) rfl).1 hm
  injection h2 with _ h2
  subst h2
  refine ⟨?_, fun p v hp => ?_, fun c hc p hp => ⟨fun e => ?_, fun e => by cases e.1⟩⟩
  · rw [← h.eq]
    show D ++ cps false (ks.drop (j + 1)) = D ++ cps sk (ks.drop j)
    rw [drop_cons hx, drop_cons hy, cps_two, if_pos ⟨rfl, h1⟩]
  · obtain ⟨k, e, hk⟩ := h.lt p v hp
    exact ⟨k, e, by omega⟩
  · obtain ⟨k, e1, hk⟩ := h.lt p _ e
    injection e1 with _ e1
    have : ((j + 2 - 1 : Nat) : Int) = (k : Int) := e1
    omega
theorem FqI.count {ks : List Int} {D : List PI} {sk : Bool} {j : Nat} {tt : List (PI × Value)} {x y : Int} (h : FqI ks D sk (j + 1) tt) (hx : ks[j]? = some x) (hy : ks[j + 1]? = some y) (hm : mget (x, y) tt ≠ some (.int .i64 (j : Int))) :
    FqI ks (D ++ [(x, y)]) (decide (x = y)) (j + 2) (mput (x, y) (.int .i64 ((j + 1 : Nat) : Int)) tt) := by
  have hs : ¬ (x = y ∧ sk = true) := fun e => hm ((h.sk x hx (x, y) rfl).2 ⟨e.2, by rw [← e.1]⟩)
  refine ⟨?_, fun p v hp => ?_, fun c hc p hp => ?_⟩
  · rw [← h.eq]
    show (D ++ [(x, y)]) ++ cps (decide (x = y)) (ks.drop (j + 1)) = D ++ cps sk (ks.drop j)
    rw [drop_cons hx, drop_cons hy, cps_two, if_neg hs, ← drop_cons hy, List.append_assoc]; rfl
  · rw [mget_mput] at hp
    split at hp
    · injection hp with hp
      exact ⟨j + 1, hp.symm, by omega⟩
    · obtain ⟨k, e, hk⟩ := h.lt p v hp
      exact ⟨k, e, by omega⟩
  · have hcy : y = c := Option.some.inj (hy.symm.trans hc)
    subst hcy
    rw [mget_mput, decide_eq_true_iff]
    by_cases e : p = (x, y)
    · rw [if_pos e]
      subst e
      have hp' : x = y := hp
      constructor
      · intro _; exact ⟨hp', by rw [hp']⟩
      · intro _; rfl
    · rw [if_neg e]
      constructor
      · intro hg
        obtain ⟨k, e1, hk⟩ := h.lt p _ hg
        injection e1 with _ e1
        have : ((j + 2 - 1 : Nat) : Int) = (k : Int) := e1
        omega
      · rintro ⟨e1, e2⟩
        exact absurd (by rw [e2, e1]) e
theorem FqI.last {ks : List Int} {D : List PI} {sk : Bool} {i : Nat} {tt : List (PI × Value)} (h : FqI ks D sk i tt) (hi : ks.length ≤ i) : D = cps false ks := by
  have e := h.eq
  have : cps sk (ks.drop (i - 1)) = [] := by
    have hl : (ks.drop (i - 1)).length ≤ 1 := by rw [List.length_drop]; omega
    generalize ks.drop (i - 1) = l at hl ⊢
    match l, hl with
    | [], _ => exact cps_nil _
    | [x], _ => exact cps_one _ _
  rw [this, List.append_nil] at e
  exact e
/-- the loop over the counts -/
structure BstI (D : List PI) (mm : List (PI × Value)) (vs : List Nat) (p : PI) (n : Nat) : Prop where
  c : (n = 0 ∧ p = (0, 0) ∧ vs = []) ∨ (D.count p = n ∧ 0 < n)
  b : ∀ i ∈ vs, ∀ q v, mm[i]? = some (q, v) → D.count q < n ∨ (D.count q = n ∧ lexLE p q)
theorem lexLE_refl (p : PI) : lexLE p p := .inr ⟨rfl, Int.le_refl _⟩
theorem lexLE_trans {p q r : PI} (h1 : lexLE p q) (h2 : lexLE q r) : lexLE p r := by
  simp only [lexLE] at *; omega
theorem lexLE_total {p q : PI} (h : ¬ lexLE p q) : lexLE q p := by
  simp only [lexLE] at *; omega
theorem CntM.at_ {mm : List (PI × Value)} {D : List PI} (h : CntM mm D) (hn : (mm.map (·.1)).Nodup) {i : Nat} {q : PI} {v : Value} (hi : mm[i]? = some (q, v)) : v = .int .i64 ((D.count q : Nat) : Int) ∧ 0 < D.count q := by
  have h1 := mget_at hn hi
  have h2 := h q
  rw [h1] at h2
  split at h2
  · cases h2
  · exact ⟨Option.some.inj h2, by omega⟩
theorem BstI.take {D : List PI} {mm : List (PI × Value)} {vs : List Nat} {p : PI} {n i : Nat} {q : PI} {v : Value} (h : BstI D mm vs p n) (hi : mm[i]? = some (q, v)) (hp : 0 < D.count q) (hc : n < D.count q ∨ (D.count q = n ∧ ¬ lexLE p q)) : BstI D mm (i :: vs) q (D.count q) := by
  refine ⟨.inr ⟨rfl, hp⟩, fun j hj q' v' hq' => ?_⟩
  rcases List.mem_cons.1 hj with rfl | hj
  · have e : q' = q := by
      have := hi.symm.trans hq'
      injection this with this; injection this with this _
      exact this.symm
    subst e
    exact .inr ⟨rfl, lexLE_refl _⟩
  · rcases h.b j hj q' v' hq' with h1 | ⟨h1, h2⟩
    · rcases hc with c | ⟨c, _⟩
      · exact .inl (by omega)
      · exact .inl (by omega)
    · rcases hc with c | ⟨c, c2⟩
      · exact .inl (by omega)
      · exact .inr ⟨by omega, lexLE_trans (lexLE_total c2) h2⟩
theorem BstI.pass {D : List PI} {mm : List (PI × Value)} {vs : List Nat} {p : PI} {n i : Nat} {q : PI} {v : Value} (h : BstI D mm vs p n) (hi : mm[i]? = some (q, v)) (hp : 0 < D.count q) (hc : ¬ (n < D.count q ∨ (D.count q = n ∧ ¬ lexLE p q))) : BstI D mm (i :: vs) p n := by
  have hn : 0 < n := by
    rcases Nat.eq_zero_or_pos n with e | e
    · exact absurd (.inl (by omega)) hc
    · exact e
  refine ⟨h.c.elim (fun e => by have := e.1; omega) .inr, fun j hj q' v' hq' => ?_⟩
  rcases List.mem_cons.1 hj with rfl | hj
  · have e : q' = q := by
      have := hi.symm.trans hq'
      injection this with this; injection this with this _
      exact this.symm
    subst e
    by_cases c1 : D.count q' = n
    · refine .inr ⟨c1, ?_⟩
      by_cases c2 : lexLE p q'
      · exact c2
      · exact absurd (.inr ⟨c1, c2⟩) hc
    · exact .inl (by
        have : ¬ n < D.count q' := fun e => hc (.inl e)
        omega)
  · exact h.b j hj q' v' hq'
theorem BstI.done {D : List PI} {mm : List (PI × Value)} {vs : List Nat} {p : PI} {n : Nat} (h : BstI D mm vs p n) (hC : CntM mm D) (hn : (mm.map (·.1)).Nodup) (hall : ∀ i, i < mm.length → i ∈ vs) : bst D = (p, n) := by
  have hq : ∀ q, q ∈ D → D.count q < n ∨ (D.count q = n ∧ lexLE p q) := fun q hq => by
    have h1 := hC q
    have h2 : 0 < D.count q := List.count_pos_iff.2 hq
    rw [if_neg (by omega)] at h1
    obtain ⟨i, hi⟩ := mget_in h1
    exact h.b i (hall i (List.getElem?_eq_some_iff.1 hi).1) q _ hi
  rcases h.c with ⟨e1, e2, e3⟩ | ⟨e1, e2⟩
  · have : D = [] := by
      match D, hq with
      | [], _ => rfl
      | x :: r, hq => have := hq x (by simp); have h2 : 0 < (x :: r).count x := List.count_pos_iff.2 (by simp); omega
    rw [this, bst_nil, e1, e2]
  · have h0 : D ≠ [] := by
      intro e; rw [e] at e1; simp at e1; omega
    refine bst_of h0 ⟨e1, fun q => ?_, fun q hqn => ?_⟩
    · by_cases hm : q ∈ D
      · rcases hq q hm with c | c <;> omega
      · rw [List.count_eq_zero_of_not_mem hm]; omega
    · have hm : q ∈ D := List.count_pos_iff.1 (by omega)
      rcases hq q hm with c | c
      · omega
      · exact c.2
theorem zero_int (w : World) : (zeroValue 3).run Try.prog w = .ok (.int .i64 0) w := by kernel_rfl
/-- 'frequent' under way -/
structure FqW (w W : World) (M T : Nat) (mm tt : List (PI × Value)) : Prop where
  o : Blk W w.heap.size 58 #[.int .i64 0, .int .i64 0]
  m : MapS W M PIv mm
  t : MapIs W T PIv tt
  e : Below w.heap.size w W
  hM : w.heap.size < M
  hT : M < T
section
variable {w W W' : World} {M T : Nat} {mm tt : List (PI × Value)}
theorem FqW.next (h : FqW w W M T mm tt) (hb : Below W.heap.size W W') : FqW w W' M T mm tt := ⟨h.o.next hb, h.m.next hb, h.t.next hb, h.e.trans (hb.mono h.e.size), h.hM, h.hT⟩
theorem FqW.alloc (h : FqW w W M T mm tt) (o : Obj) : FqW w (W.alloc o) M T mm tt := h.next ((Below.refl _ _).alloc (Nat.le_refl _) o)
theorem FqW.drew (h : FqW w W M T mm tt) : FqW w W.drew M T mm tt := h.next (Below.refl _ _).drew
theorem FqW.putM {mm' : List (PI × Value)} (h : FqW w W M T mm tt) (hm : MapS W' M PIv mm') (hg : W.grownBy W' (some M)) : FqW w W' M T mm' tt :=
  ⟨h.o.grown hg (by intro e; injection e with e; have := h.hM; omega), hm, h.t.grown hg (by intro e; injection e with e; have := h.hT; omega), h.e.grown hg h.e.size (fun k hk => by cases hk; have := h.hM; omega), h.hM, h.hT⟩
theorem FqW.putT {tt' : List (PI × Value)} (h : FqW w W M T mm tt) (ht : MapIs W' T PIv tt') (hg : W.grownBy W' (some T)) : FqW w W' M T mm tt' :=
  ⟨h.o.grown hg (by intro e; injection e with e; have := h.hM; have := h.hT; omega), h.m.grown hg (by intro e; injection e with e; have := h.hT; omega), ht, h.e.grown hg h.e.size (fun k hk => by cases hk; have := h.hM; have := h.hT; omega), h.hM, h.hT⟩
end
/-- the loop over the counts, in memory -/
structure FqV (w W : World) (M X R : Nat) (mm : List (PI × Value)) (vs : List Nat) (p : PI) : Prop where
  o : Blk W w.heap.size 58 #[.int .i64 0, .int .i64 0]
  b : Blk W X 58 #[.int .i64 p.1, .int .i64 p.2]
  g : Rng W R M PIv mm vs
  e : Below w.heap.size w W
  hX : w.heap.size < X
  hR : w.heap.size < R
  hN : X ≠ R
  hM : X ≠ M
section
variable {w W W' : World} {M X R : Nat} {mm : List (PI × Value)} {vs : List Nat} {p : PI}
theorem FqV.next (h : FqV w W M X R mm vs p) (hb : Below W.heap.size W W') : FqV w W' M X R mm vs p := ⟨h.o.next hb, h.b.next hb, h.g.next' hb, h.e.trans (hb.mono h.e.size), h.hX, h.hR, h.hN, h.hM⟩
theorem FqV.alloc (h : FqV w W M X R mm vs p) (o : Obj) : FqV w (W.alloc o) M X R mm vs p := h.next ((Below.refl _ _).alloc (Nat.le_refl _) o)
theorem FqV.step {vs' : List Nat} (h : FqV w W M X R mm vs p) (hg : W.grownBy W' (some R)) (hr : Rng W' R M PIv mm vs') : FqV w W' M X R mm vs' p :=
  ⟨h.o.grown hg (by intro e; injection e with e; have := h.hR; omega), h.b.grown hg (by intro e; injection e with e; exact h.hN e), hr, h.e.grown hg h.e.size (fun k hk => by cases hk; have := h.hR; omega), h.hX, h.hR, h.hN, h.hM⟩
theorem FqV.set_ (h : FqV w W M X R mm vs p) (q : PI) : FqV w ((W.setCell ⟨X, 0, none⟩ (.int .i64 q.1)).setCell ⟨X, 1, none⟩ (.int .i64 q.2)) M X R mm vs q := by
  have ho := (h.o.far (p := ⟨X, 0, none⟩) (by show w.heap.size ≠ X; have := h.hX; omega) (.int .i64 q.1)).far (p := ⟨X, 1, none⟩) (by show w.heap.size ≠ X; have := h.hX; omega) (.int .i64 q.2)
  have hb := (h.b.set_ 0 (.int .i64 q.1)).set_ 1 (.int .i64 q.2)
  have hg := (h.g.far (p := ⟨X, 0, none⟩) (fun e => h.hM e.symm) (fun e => h.hN e.symm) (.int .i64 q.1)).far (p := ⟨X, 1, none⟩) (fun e => h.hM e.symm) (fun e => h.hN e.symm) (.int .i64 q.2)
  exact ⟨ho, hb, hg, (h.e.setCell (p := ⟨X, 0, none⟩) (Nat.le_of_lt h.hX) _).setCell (p := ⟨X, 1, none⟩) (Nat.le_of_lt h.hX) _, h.hX, h.hR, h.hN, h.hM⟩
end
set_option maxHeartbeats 4000000 in
set_option maxRecDepth 100000 in
theorem frequent_any (B : Option Addr) (m d : Nat) (ks : List Int) (w : World) (hm2 : m ≤ 100000) (hr : Rd w w.heap.size B m 1 intE ks) :
    Calls Try.prog 37 #[.slice B m d] w (Ret (.tuple #[PIv (bst (cps false ks)).1, .int .i64 ((bst (cps false ks)).2 : Nat)]) w) := by
  have hl := hr.len
  have HR := Lib.hid hr; clear hr
  have hmm := @run_makeMap Try.prog
  go_enter Try.func37, Try.ntmps37
  go_wp2_with fail
  refine named fun w3 H3 => ?_
  have P3 := Lib.hid (show FqW w w3 (w.heap.size + 1) (w.heap.size + 1 + 1) [] [] by
    rw [H3.out]
    refine ⟨((Blk.new w _ _).alloc _).alloc _, ?_, ?_, by (repeat first | exact Below.refl _ _ | assumption | refine Below.drew ?_ | refine Below.alloc ?_ (by first | exact Nat.le_refl _ | (simp; done) | omega | (simp; omega)) _ | refine Below.setCell ?_ (by first | exact Nat.le_refl _ | (simp; done) | omega | (simp; omega)) _), by omega, by omega⟩
    · have h := MapS.made (w.alloc (.cells #[.int .i64 0, .int .i64 0] 58)) PIv
      simpa using h.alloc _
    · have h := MapIs.made ((w.alloc (.cells #[.int .i64 0, .int .i64 0] 58)).alloc (.map #[] 0)) PIv
      simpa using h)
  clear H3 hmm
  generalize hT : w.heap.size + 1 + 1 = T at *
  generalize hM : w.heap.size + 1 = M at *
  go_loopw [6] (fun i_ w' => ∃ (i : Nat) (D : List PI) (sk : Bool) (mm tt : List (PI × Value)), i_ = .int .i64 i ∧ 1 ≤ i ∧ (i ≤ m ∨ i = 1) ∧ Hid (FqI ks D sk i tt) ∧ Hid (CntM mm D) ∧ Hid (FqW w w' M T mm tt)) (fun i_ _ => m - (intOf i_).toNat)
  case atStart => exact ⟨1, [], false, [], [], rfl, by omega, by omega, Lib.hid (FqI.first ks), Lib.hid (fun p => rfl), P3⟩
  case round =>
    obtain ⟨i, D, sk, mm, tt, rfl, hi1, hi2, HI, HC, P⟩ := hrel
    clear P3
    by_cases hlt : i < m
    · obtain ⟨j, rfl⟩ : ∃ j, i = j + 1 := ⟨i - 1, by omega⟩
      have RK := HR.out.next P.out.e
      obtain ⟨b, o, x, rfl, hBB, gx, cx⟩ := RK.int (show j < m by omega)
      obtain ⟨b', o', y, hA, hBB', gy, cy⟩ := RK.int hlt
      obtain ⟨rfl, rfl⟩ : b = b' ∧ o = o' := by injection hA with h; injection h with h1 h2 h3; exact ⟨h1, h2⟩
      have i0 : (0 : Int) ≤ ((j + 1 : Nat) : Int) := by omega
      have i1 : ((j + 1 : Nat) : Int) < (m : Int) := by omega
      have u2 : IntKind.i64.wrap (((j + 1 : Nat) : Int) - 1) = (j : Int) := by rw [IntWalk.i64_in _ (by omega)]; omega
      have j0 : (0 : Int) ≤ (j : Int) := by omega
      have j1 : (j : Int) < (m : Int) := by omega
      have Gx := Lib.hid gx
      have Gy := Lib.hid gy
      clear gx gy hA hBB' RK
      go_wp2_with fail
      go_region
      have P4 := Lib.hid (P.out.alloc (.cells #[.int .i64 x, .int .i64 y] 58)).drew
      have BX := Lib.hid (show Blk (wr.alloc (.cells #[.int .i64 x, .int .i64 y] 58)).drew wr.heap.size 58 #[.int .i64 x, .int .i64 y] from (Blk.new wr _ _).drew)
      have XM := P.out.m.lt
      have XT := P.out.t.lt
      generalize (wr.alloc (.cells #[.int .i64 x, .int .i64 y] 58)).drew = w4 at *
      generalize wr.heap.size = X at *
      have x0 : w4.cell? ⟨X, 0, none⟩ = some (.int .i64 x) := by rw [BX.out.cell 0]; rfl
      have x1 : w4.cell? ⟨X, 1, none⟩ = some (.int .i64 y) := by rw [BX.out.cell 1]; rfl
      clear P cx cy
      by_cases hsk : mget (x, y) tt = some (.int .i64 (j : Int))
      · have HS := Lib.hid (HI.out.skip Gx.out Gy.out hsk)
        have e1 := Lib.hid (show (mget (x, y) tt).getD (.int .i64 0) = .int .i64 (j : Int) by rw [hsk]; rfl)
        have e2 := Lib.hid (show (mget (x, y) tt).isSome = true by rw [hsk]; rfl)
        go_wp2_with
          (at_lookup
           refine wpList_lookOk rfl _ _ rfl pi_key Try.underlying96 (zero_int _) rfl (x, y) rfl P4.out.t ?_
           rw [e1.out, e2.out])
        go_roundw
        case rel => exact ⟨j + 2, D, false, mm, tt, by go_num, by omega, by omega, HS, HC, P4⟩
        case measure => simp [intOf]; omega
      · have HS := Lib.hid (HI.out.count Gx.out Gy.out hsk)
        have hD1 : D.length ≤ 100000 := by
          have h2 := congrArg List.length HI.out.eq
          have h3 := cps_len ks false
          rw [List.length_append] at h2
          omega
        obtain ⟨cn, hcn⟩ : ∃ cn : Nat, D.count (x, y) = cn := ⟨_, rfl⟩
        have hcn1 : cn ≤ 100000 := by
          have := List.count_le_length (a := (x, y)) (l := D)
          omega
        have uC : IntKind.i64.wrap ((cn : Int) + 1) = (cn : Int) + 1 := IntWalk.i64_in _ (by omega)
        have hgd := HC.out.getD (x, y)
        rw [hcn] at hgd
        have HC2 := HC.out.put (x, y)
        rw [hcn] at HC2
        have HC3 := Lib.hid HC2
        clear HC2
        have lkS := Lib.hid (fun (W : World) (h : MapS W M PIv mm) => show (Instr.lookup 96 (.map (some M)) (.agg #[.int .i64 x, .int .i64 y]) false).run Try.prog W = .ok (.int .i64 (cn : Int)) W from by
          have := h.is.look pi_key Try.underlying96 (zero_int W) (x, y)
          rw [hgd] at this; exact this)
        have lkT := Lib.hid (fun (W : World) (h : MapS W M PIv (mput (x, y) (.int .i64 (cn : Int)) mm)) => show (Instr.lookup 96 (.map (some M)) (.agg #[.int .i64 x, .int .i64 y]) false).run Try.prog W = .ok (.int .i64 (cn : Int)) W from by
          have := h.is.look pi_key Try.underlying96 (zero_int W) (x, y)
          rw [mget_mput, if_pos rfl] at this; exact this)
        obtain ⟨v0, st, w5, hme, m5, g5, hes⟩ := (P4.out.m.next (Below.refl _ _).drew).entry (w := w4.drew) pi_key Try.underlying96 zero_int (x, y)
        rw [hgd] at m5
        have hme' : (Instr.mapEntry 96 (.map (some M)) (.agg #[.int .i64 x, .int .i64 y])).run Try.prog w4.drew = .ok (.tuple #[v0, .int .i64 (st : Int)]) w5 := hme
        obtain ⟨w6, hes6, m6, g6⟩ := hes w5 (.int .i64 ((cn : Int) + 1)) rfl
        have hes' : (Instr.entryStore 96 (.map (some M)) (.int .i64 (st : Int)) (.int .i64 ((cn : Int) + 1))).run Try.prog w5 = .ok () w6 := hes6
        have P5 := Lib.hid ((P4.out.drew.putM m5 g5).putM m6 g6)
        have B5 := BX.out.drew.grown g5 (by intro e; injection e with e; omega)
        have B6 := Lib.hid (B5.grown g6 (by intro e; injection e with e; omega))
        have hS0 : (Instr.lookup 96 (.map (some M)) (.agg #[.int .i64 x, .int .i64 y]) false).run Try.prog w4.drew = .ok (.int .i64 (cn : Int)) w4.drew ∧ w4.drew.cell? ⟨X, 0, none⟩ = some (.int .i64 x) ∧ w4.drew.cell? ⟨X, 1, none⟩ = some (.int .i64 y) := ⟨lkS.out _ (P4.out.m.next (Below.refl _ _).drew), x0, x1⟩
        have hS5 : (Instr.lookup 96 (.map (some M)) (.agg #[.int .i64 x, .int .i64 y]) false).run Try.prog w5 = .ok (.int .i64 (cn : Int)) w5 ∧ w5.cell? ⟨X, 0, none⟩ = some (.int .i64 x) ∧ w5.cell? ⟨X, 1, none⟩ = some (.int .i64 y) := ⟨lkT.out _ m5, by rw [B5.cell 0]; rfl, by rw [B5.cell 1]; rfl⟩
        have y0 : w6.cell? ⟨X, 0, none⟩ = some (.int .i64 x) := by rw [B6.out.cell 0]; rfl
        have y1 : w6.cell? ⟨X, 1, none⟩ = some (.int .i64 y) := by rw [B6.out.cell 1]; rfl
        have HS5 := Lib.hid hS5
        have HS0 := Lib.hid hS0
        have HME := Lib.hid hme'
        have HES := Lib.hid hes'
        clear hme hes hme' hes' hes6 m5 g5 m6 g6 B5 hS5 hS0 hcn hgd lkS lkT
        rcases hg : mget (x, y) tt with _ | v
        case' none =>
          have e1 := Lib.hid (show (mget (x, y) tt).getD (.int .i64 0) = .int .i64 0 by rw [hg]; rfl)
          have e2 := Lib.hid (show (mget (x, y) tt).isSome = false by rw [hg]; rfl)
          go_wp2_with
            (at_lookup
             refine wpList_lookOk rfl _ _ rfl pi_key Try.underlying96 (zero_int _) rfl (x, y) rfl P4.out.t ?_
             rw [e1.out, e2.out])
        case' some =>
          obtain ⟨k, rfl, hk⟩ := HI.out.lt _ _ hg
          have hkj : k ≠ j := fun e => hsk (by rw [hg, e])
          have e1 := Lib.hid (show (mget (x, y) tt).getD (.int .i64 0) = .int .i64 (k : Int) by rw [hg]; rfl)
          have e2 := Lib.hid (show (mget (x, y) tt).isSome = true by rw [hg]; rfl)
          have kj : (k : Int) < (j : Int) := by omega
          go_wp2_with
            (at_lookup
             refine wpList_lookOk rfl _ _ rfl pi_key Try.underlying96 (zero_int _) rfl (x, y) rfl P4.out.t ?_
             rw [e1.out, e2.out])
        all_goals
        refine wp_region_N (fun W => (Instr.lookup 96 (.map (some M)) (.agg #[.int .i64 x, .int .i64 y]) false).run Try.prog W = .ok (.int .i64 (cn : Int)) W ∧ W.cell? ⟨X, 0, none⟩ = some (.int .i64 x) ∧ W.cell? ⟨X, 1, none⟩ = some (.int .i64 y)) [6] (by kernel_rfl) ?_
        have hS0 := HS0.out
        refine wpAnyN_take (i := 0) (v := ?_) rfl (by kernel_rfl) (fun _ _ _ h => h) (by rfl) (fun W hW => ?_) hS0 ?_
        rotate_left
        · obtain ⟨z0, z1, z2⟩ := hW
          go_simp
          try with_reducible rfl
        try simp only [List.getElem_toArray, List.getElem_cons_zero, List.getElem_cons_succ, Act.put, List.setIfInBounds_toArray, List.set_cons_zero, List.set_cons_succ]
        refine wpAnyN_take (i := 1) (v := ?_) rfl (by kernel_rfl) (fun _ _ _ h => h) (by rfl) (fun W hW => ?_) hS0 ?_
        rotate_left
        · obtain ⟨z0, z1, z2⟩ := hW
          go_simp
          try with_reducible rfl
        try simp only [List.getElem_toArray, List.getElem_cons_zero, List.getElem_cons_succ, Act.put, List.setIfInBounds_toArray, List.set_cons_zero, List.set_cons_succ]
        refine wpAnyN_take (i := 2) (v := ?_) rfl (by kernel_rfl) (fun _ _ _ h => h) (by rfl) (fun W hW => ?_) hS0 ?_
        rotate_left
        · obtain ⟨z0, z1, z2⟩ := hW
          go_simp
          try with_reducible rfl
        try simp only [List.getElem_toArray, List.getElem_cons_zero, List.getElem_cons_succ, Act.put, List.setIfInBounds_toArray, List.set_cons_zero, List.set_cons_succ]
        refine wpAnyN_take (i := 3) (v := ?_) rfl (by kernel_rfl) (fun _ _ _ h => h) (by rfl) (fun W hW => ?_) hS0 ?_
        rotate_left
        · obtain ⟨z0, z1, z2⟩ := hW
          go_simp
          try with_reducible rfl
        try simp only [List.getElem_toArray, List.getElem_cons_zero, List.getElem_cons_succ, Act.put, List.setIfInBounds_toArray, List.set_cons_zero, List.set_cons_succ]
        refine wpAnyN_next (i := 4) rfl (by kernel_rfl) (fun Kc hK => ?_)
        have hme' := HME.out
        go_simp
        refine hK.out _ _ (fun _ => HS5.out) ?_
        clear hK Kc hS0 hme'
        have hS0 := HS5.out
        try simp only [List.getElem_toArray, List.getElem_cons_zero, List.getElem_cons_succ, Act.put, List.setIfInBounds_toArray, List.set_cons_zero, List.set_cons_succ]
        refine wpAnyN_take (i := 5) (v := ?_) rfl (by kernel_rfl) (fun _ _ _ h => h) (by rfl) (fun W hW => ?_) hS0 ?_
        rotate_left
        · obtain ⟨z0, z1, z2⟩ := hW
          go_simp
          try with_reducible rfl
        try simp only [List.getElem_toArray, List.getElem_cons_zero, List.getElem_cons_succ, Act.put, List.setIfInBounds_toArray, List.set_cons_zero, List.set_cons_succ]
        refine wpAnyN_next (i := 6) rfl (by kernel_rfl) (fun Kc hK => ?_)
        have hes' := HES.out
        go_simp
        refine hK.out _ _ (fun h => absurd h (by decide)) ?_
        clear hK Kc hS0 hes'
        try simp only [List.getElem_toArray, List.getElem_cons_zero, List.getElem_cons_succ, Act.put, List.setIfInBounds_toArray, List.set_cons_zero, List.set_cons_succ]
        refine wpAnyN_done (by kernel_rfl) ?_ _
        go_wp2_with
          (at_mapUpdate
           refine wpList_put (w0 := w) rfl _ _ _ rfl pi_key Try.underlying96 rfl (x, y) (.int .i64 ((j + 1 : Nat) : Int)) rfl rfl P5.out.t w.heap.size rfl (by have := P5.out.hM; have := P5.out.hT; omega) P5.out.e ?_
           intro w9 ht9 hg9 hb9
           have P9 := Lib.hid (P5.out.putT ht9 hg9)
           clear ht9 hg9 hb9)
        go_roundw
        case rel => exact ⟨j + 2, _, _, _, _, by go_num, by omega, by omega, HS, HC3, P9⟩
        case measure => simp [intOf]; omega
    · have i1 : ¬ (i : Int) < (m : Int) := by omega
      have hDe := HI.out.last (by omega)
      subst hDe
      have HDl := Lib.hid (show (cps false ks).length ≤ 100000 by have := cps_len ks false; omega)
      clear HI HR
      generalize cps false ks = D at *
      have HBe : Blk wr w.heap.size 58 #[.int .i64 0, .int .i64 0] := P.out.o
      have mA := P.out.m.alloc (.cells #[.int .i64 0, .int .i64 0] 58)
      have XM := P.out.m.lt
      have XO := P.out.o.lt
      have hnd : (mm.map (·.1)).Nodup := by obtain ⟨_, _, _, _, _, h, _⟩ := P.out.m; exact h
      have HNd := Lib.hid hnd
      go_wp2_with
        (at_range
         refine wpList_rangeR rfl _ _ _ _ rfl Try.underlying96 rfl mA ?_
         intro c hrg
         have Rg := Lib.hid hrg
         clear hrg)
      have P5 := Lib.hid (show FqV w ((wr.alloc (.cells #[.int .i64 0, .int .i64 0] 58)).alloc (.mapIter (some M) c #[] c)) M wr.heap.size (wr.heap.size + 1) mm [] (0, 0) from
        ⟨(HBe.alloc _).alloc _, (Blk.new wr _ _).alloc _, by simpa using Rg.out, (P.out.e.alloc P.out.e.size _).alloc (by have := P.out.e.size; simp; omega) _, XO, by omega, by omega, by omega⟩)
      have HB0 := Lib.hid (show BstI D mm [] (0, 0) 0 from ⟨.inl ⟨rfl, rfl, rfl⟩, fun i hi => by cases hi⟩)
      clear Rg mA HBe hnd
      generalize (wr.alloc (.cells #[.int .i64 0, .int .i64 0] 58)).alloc (.mapIter (some M) c #[] c) = w5 at *
      generalize hRR : wr.heap.size + 1 = R at *
      generalize wr.heap.size = X at *
      go_loopw [11] (fun n_ w' => ∃ (n : Nat) (vs : List Nat) (p : PI), n_ = .int .i64 n ∧ Hid (BstI D mm vs p n) ∧ Hid (FqV w w' M X R mm vs p)) (fun _ w' => mm.length - (w'.iterSeen R).size)
      case atStart => exact ⟨0, [], (0, 0), rfl, HB0, P5⟩
      case round =>
        obtain ⟨n, vs, p, rfl, HB, V⟩ := hrel
        clear P5 HB0
        go_wp2_with
          (at_next
           refine wpList_nextR rfl _ rfl rfl V.out.g ?_ ?_)
        · intro hall
          have hb := Lib.hid (HB.out.done HC.out HNd.out hall)
          have c0 := V.out.b.cell 0
          have c1 := V.out.b.cell 1
          have d0 := V.out.o.cell 0
          have d1 := V.out.o.cell 1
          have f0 := V.out.o.frozen 0
          have f1 := V.out.o.frozen 1
          have c0' : wr.cell? ⟨X, 0, none⟩ = some (.int .i64 p.1) := c0
          have c1' : wr.cell? ⟨X, 1, none⟩ = some (.int .i64 p.2) := c1
          have d0' : wr.cell? ⟨w.heap.size, 0, none⟩ = some (.int .i64 0) := d0
          have d1' : wr.cell? ⟨w.heap.size, 1, none⟩ = some (.int .i64 0) := d1
          have B9 := (V.out.o.set_ 0 (.int .i64 p.1)).set_ 1 (.int .i64 p.2)
          have x0 : ((wr.setCell ⟨w.heap.size, 0, none⟩ (.int .i64 p.1)).setCell ⟨w.heap.size, 1, none⟩ (.int .i64 p.2)).cell? ⟨w.heap.size, 0, none⟩ = some (.int .i64 p.1) := by rw [B9.cell 0]; rfl
          have x1 : ((wr.setCell ⟨w.heap.size, 0, none⟩ (.int .i64 p.1)).setCell ⟨w.heap.size, 1, none⟩ (.int .i64 p.2)).cell? ⟨w.heap.size, 1, none⟩ = some (.int .i64 p.2) := by rw [B9.cell 1]; rfl
          have e9 := Lib.hid ((V.out.e.setCell (p := ⟨w.heap.size, 0, none⟩) (Nat.le_refl _) (.int .i64 p.1)).setCell (p := ⟨w.heap.size, 1, none⟩) (Nat.le_refl _) (.int .i64 p.2))
          clear c0 c1 d0 d1 B9
          go_wp2_with fail
          refine bodyPost_ret (v := .tuple #[.agg #[.int .i64 p.1, .int .i64 p.2], .int .i64 n]) (by simp [results, Try.results37, go_sem, x0, x1]) rfl ?_
          rw [hb.out]
          exact ⟨rfl, e9.out⟩
        · intro E
          obtain ⟨i2, qp, qv, w6, hi2, hnv, hrg, hg6, hs6, hen⟩ := E
          obtain ⟨rfl, hcp⟩ := HC.out.at_ HNd.out hi2
          have V6 := Lib.hid (V.out.step hg6 hrg)
          have hle := Lib.hid V6.out.g.le
          have hen' : (Instr.entry (.pointer (some ⟨R, 0, none⟩))).run Try.prog w6 = .ok (.tuple #[.agg #[.int .i64 qp.1, .int .i64 qp.2], .int .i64 ((D.count qp : Nat) : Int)]) w6 := hen
          have hcnt : D.count qp ≤ 100000 := by
            have := List.count_le_length (a := qp) (l := D)
            have := HDl.out
            omega
          have W7 := Lib.hid (V6.out.alloc (.cells #[.int .i64 qp.1, .int .i64 qp.2] 58))
          have E7 := Lib.hid (Blk.new w6 58 #[.int .i64 qp.1, .int .i64 qp.2])
          simp only [PIv]
          clear hen hs6 hg6 hrg
          have s0 := Lib.hid V.out.g.seen
          go_wp2_with fail
          have TK := Lib.hid (fun hc => HB.out.take hi2 hcp hc)
          have PS := Lib.hid (fun hc => HB.out.pass hi2 hcp hc)
          generalize (w6.alloc (.cells #[.int .i64 qp.1, .int .i64 qp.2] 58)) = w7 at *
          generalize w6.heap.size = G at *
          generalize D.count qp = cq at *
          clear hi2 hen' HB
          have up := fun (W : World) (h : Below w7.heap.size w7 W) => cmpP_any G X 2 2 qp p W (Nat.lt_of_lt_of_le E7.out.lt h.size) (Nat.lt_of_lt_of_le W7.out.b.lt h.size) (by rw [(E7.out.next h).cell 0]; rfl) (by rw [(E7.out.next h).cell 1]; rfl)
            (by rw [(W7.out.b.next h).cell 0]; rfl) (by rw [(W7.out.b.next h).cell 1]; rfl)
          have CT := Lib.hid up
          clear up
          by_cases hgt : n < cq
          · have g1 : (n : Int) < (cq : Int) := by omega
            have HT := Lib.hid (TK.out (.inl hgt))
            clear TK PS CT
            refine wp_region_up w7.heap.size (by kernel_rfl) (by kernel_rfl) ?_
            repeat (go_big_quiet_step (fail))
            refine wpQuiet_nil ?_
            intro w8 hup_w8
            have hb8 := up_of hup_w8
            have W8 := Lib.hid (W7.out.next hb8)
            have E8 := Lib.hid (E7.out.next hb8)
            have c0 : w8.cell? ⟨G, 0, none⟩ = some (.int .i64 qp.1) := by rw [E8.out.cell 0]; rfl
            have c1 : w8.cell? ⟨G, 1, none⟩ = some (.int .i64 qp.2) := by rw [E8.out.cell 1]; rfl
            have d0 : w8.cell? ⟨X, 0, none⟩ = some (.int .i64 p.1) := by rw [W8.out.b.cell 0]; rfl
            have d1 : w8.cell? ⟨X, 1, none⟩ = some (.int .i64 p.2) := by rw [W8.out.b.cell 1]; rfl
            have f0 := W8.out.b.frozen 0
            have f1 := W8.out.b.frozen 1
            have W9 := Lib.hid (W8.out.set_ qp)
            have s9 := Lib.hid W9.out.g.seen
            go_wp2_with fail
            go_roundw
            case rel => exact ⟨cq, i2 :: vs, qp, rfl, HT, W9⟩
            case measure => rw [s9.out, s0.out]; have := hle.out; simp only [List.length_cons] at this ⊢; omega
          · have g1 : ¬ (n : Int) < (cq : Int) := by omega
            by_cases heq : cq = n
            · subst heq
              have hcn := cmpP_neg (p := qp) (q := p)
              obtain ⟨z, hz⟩ : ∃ z, cmpP qp p = z := ⟨_, rfl⟩
              rw [hz] at hcn CT
              clear hz
              by_cases hlex : lexLE p qp
              · have g2 : ¬ z < 0 := fun h => hcn.1 h hlex
                have HT := Lib.hid (PS.out (by rintro (h | h); exact hgt h; exact h.2 hlex))
                clear TK PS hcn
                refine wp_region_up w7.heap.size (by kernel_rfl) (by kernel_rfl) ?_
                repeat (go_big_quiet_step ((go_at_call 61; exact Calls.up (Nat.le_refl _) (CT.out _ (Up.h _)))))
                refine wpQuiet_nil ?_
                intro w8 hup_w8
                have hb8 := up_of hup_w8
                have W8 := Lib.hid (W7.out.next hb8)
                have s9 := Lib.hid W8.out.g.seen
                go_wp2_with fail
                go_roundw
                case rel => exact ⟨cq, i2 :: vs, p, rfl, HT, W8⟩
                case measure => rw [s9.out, s0.out]; have := hle.out; simp only [List.length_cons] at this ⊢; omega
              · have g2 : z < 0 := hcn.2 hlex
                have HT := Lib.hid (TK.out (.inr ⟨rfl, hlex⟩))
                clear TK PS hcn
                refine wp_region_up w7.heap.size (by kernel_rfl) (by kernel_rfl) ?_
                repeat (go_big_quiet_step ((go_at_call 61; exact Calls.up (Nat.le_refl _) (CT.out _ (Up.h _)))))
                refine wpQuiet_nil ?_
                intro w8 hup_w8
                have hb8 := up_of hup_w8
                have W8 := Lib.hid (W7.out.next hb8)
                have E8 := Lib.hid (E7.out.next hb8)
                have c0 : w8.cell? ⟨G, 0, none⟩ = some (.int .i64 qp.1) := by rw [E8.out.cell 0]; rfl
                have c1 : w8.cell? ⟨G, 1, none⟩ = some (.int .i64 qp.2) := by rw [E8.out.cell 1]; rfl
                have d0 : w8.cell? ⟨X, 0, none⟩ = some (.int .i64 p.1) := by rw [W8.out.b.cell 0]; rfl
                have d1 : w8.cell? ⟨X, 1, none⟩ = some (.int .i64 p.2) := by rw [W8.out.b.cell 1]; rfl
                have f0 := W8.out.b.frozen 0
                have f1 := W8.out.b.frozen 1
                have W9 := Lib.hid (W8.out.set_ qp)
                have s9 := Lib.hid W9.out.g.seen
                go_wp2_with fail
                go_roundw
                case rel => exact ⟨cq, i2 :: vs, qp, rfl, HT, W9⟩
                case measure => rw [s9.out, s0.out]; have := hle.out; simp only [List.length_cons] at this ⊢; omega
            · have g2 : ¬ (cq : Int) = (n : Int) := by omega
              have g3 : ((cq : Int) == (n : Int)) = false := by rw [beq_eq_false_iff_ne]; exact g2
              have HT := Lib.hid (PS.out (by rintro (h | h); exact hgt h; exact heq h.1))
              clear TK PS CT
              refine wp_region_up w7.heap.size (by kernel_rfl) (by kernel_rfl) ?_
              repeat (go_big_quiet_step (fail))
              refine wpQuiet_nil ?_
              intro w8 hup_w8
              have hb8 := up_of hup_w8
              have W8 := Lib.hid (W7.out.next hb8)
              have s9 := Lib.hid W8.out.g.seen
              go_wp2_with fail
              go_roundw
              case rel => exact ⟨n, i2 :: vs, p, rfl, HT, W8⟩
              case measure => rw [s9.out, s0.out]; have := hle.out; simp only [List.length_cons] at this ⊢; omega
end Go.Proofs.Ytikhjoianbndhaa


/-
  A pair replaced in a list, in the reference.
-/
namespace Go.Proofs.Ytikhjoianbndhaa
open Go.RowKit

theorem repl_hit {p : PI} {k : Int} {l : List Int} {i : Nat} (h0 : l[i]? = some p.1) (h1 : l[i + 1]? = some p.2) : repl p k (l.drop i) = k :: repl p k (l.drop (i + 2)) := by
  rw [drop_cons h0, drop_cons h1, repl_two, if_pos ⟨rfl, rfl⟩]
theorem repl_miss {p : PI} {k x y : Int} {l : List Int} {i : Nat} (h0 : l[i]? = some x) (h1 : l[i + 1]? = some y) (hn : ¬ (x = p.1 ∧ y = p.2)) : repl p k (l.drop i) = x :: repl p k (l.drop (i + 1)) := by
  rw [drop_cons h0, drop_cons h1, repl_two, if_neg hn]
theorem repl_end {p : PI} {k x : Int} {l : List Int} {i : Nat} (h0 : l[i]? = some x) (h1 : l.length ≤ i + 1) : repl p k (l.drop i) = x :: repl p k (l.drop (i + 1)) := by
  rw [drop_cons h0, List.drop_of_length_le h1]; rfl
theorem repl_done {p : PI} {k : Int} {l : List Int} {i : Nat} (h1 : l.length ≤ i) : repl p k (l.drop i) = [] := by
  rw [List.drop_of_length_le h1]; rfl
set_option maxHeartbeats 1000000 in
set_option maxRecDepth 100000 in
theorem l06Replace_any (B : Option Addr) (m d : Nat) (ks : List Int) (x y k : Int) (w : World) (hm : m ≤ 100000) (hr : Rd w w.heap.size B m 1 intE ks) :
    Calls Try.prog 36 #[.slice B m d, .int .i64 x, .int .i64 y, .int .i64 k] w (RetNew w 2 1 intE (repl (x, y) k ks)) := by
  have hl := hr.len
  have HR := Lib.hid hr; clear hr
  go_enter Try.func36, Try.ntmps36
  go_wp2_with fail
  go_loopw [9, 10] (fun o_ i_ w' => ∃ (i n : Nat) (A : Option Addr) (c : Nat) (D : List Int), o_ = .slice A n c ∧ i_ = .int .i64 i ∧ i ≤ m ∧ n ≤ i ∧ Hid (D.length = n) ∧ Hid (D ++ repl (x, y) k (ks.drop i) = repl (x, y) k ks) ∧
    Hid (w'.ownsRow w.heap.size 2 1 (.slice A n c) n (D.flatMap intE)) ∧ Hid (Below w.heap.size w w')) (fun _ i_ _ => m - (intOf i_).toNat)
  case atStart => exact ⟨0, 0, some ⟨w.heap.size, 0, none⟩, 0, [], rfl, rfl, by omega, by omega, Lib.hid rfl, Lib.hid rfl, Lib.hid (World.ownsRow_made w #[] 0 (Nat.le_refl _) (by unfold maxLen; omega) rfl), Lib.hid (by (repeat first | exact Below.refl _ _ | assumption | refine Below.drew ?_ | refine Below.alloc ?_ (by first | exact Nat.le_refl _ | (simp; done) | omega | (simp; omega)) _ | refine Below.setCell ?_ (by first | exact Nat.le_refl _ | (simp; done) | omega | (simp; omega)) _))⟩
  case round =>
    obtain ⟨i, n, A, c, D, rfl, rfl, hi, hni, hD, HE, hown, HB⟩ := hrel
    have i0 : (0 : Int) ≤ (i : Int) := by omega
    by_cases hlt : i < m
    · have i1 : (i : Int) < (m : Int) := by omega
      have u1 : IntKind.i64.wrap ((i : Int) + 1) = (i : Int) + 1 := IntWalk.i64_in _ (by omega)
      have RK := HR.out.next HB.out
      obtain ⟨b, o, z, rfl, hB, gz, cz⟩ := RK.int hlt
      have P2 := Lib.hid (fun (v : Int) => (hown.out.alloc (.cells #[.int .i64 v] 2)))
      have E2 := Lib.hid (fun (v : Int) => (HB.out.alloc HB.out.size (.cells #[.int .i64 v] 2)))
      by_cases hlt2 : i + 1 < m
      · obtain ⟨b', o', z2, hA, hB', gz2, cz2⟩ := RK.int hlt2
        obtain ⟨rfl, rfl⟩ : b = b' ∧ o = o' := by injection hA with h; injection h with h1 h2 h3; exact ⟨h1, h2⟩
        have i2 : (i : Int) + 1 < (m : Int) := by omega
        have i3 : (0 : Int) ≤ (i : Int) + 1 := by omega
        have cz2' : wr.cell? ⟨b, o + i + 1, none⟩ = some (.int .i64 z2) := by rw [Nat.add_assoc]; exact cz2
        by_cases hh : z = x ∧ z2 = y
        · obtain ⟨rfl, rfl⟩ := hh
          have HS := Lib.hid (repl_hit (p := (z, z2)) (k := k) gz gz2)
          have HE2 := Lib.hid (show (D ++ [k]) ++ repl (z, z2) k (ks.drop (i + 2)) = repl (z, z2) k ks by rw [← HE.out, HS.out, List.append_assoc]; rfl)
          clear gz gz2 hA HE HS RK
          go_wp2_with
            (at_builtin
             refine wpList_push (w0 := w) rfl _ _ _ rfl w.heap.size 2 1 8 elem_int intE _ n c D rfl (P2.out k) wr.heap.size k #[.int .i64 k] 2 (0, 0) rfl (heap_alloc_new _ _) rfl rfl (by simp [intE, Value.oneCell']) (by omega) (by omega) (by unfold maxLen; omega) rfl (E2.out k) ?_
             intro A9 c9 w9 own9 hg9 hat9 hb9
             have P9 := Lib.hid own9
             have B9 := Lib.hid hb9
             clear own9 hg9 hat9 hb9)
          go_roundw
          case rel => exact ⟨i + 2, n + 1, A9, c9, D ++ [k], rfl, by go_num, by omega, by omega, Lib.hid (by rw [List.length_append, hD.out]; rfl), HE2, P9, B9⟩
          case measure => simp [intOf]; omega
        · have HS := Lib.hid (repl_miss (p := (x, y)) (k := k) gz gz2 hh)
          have HE2 := Lib.hid (show (D ++ [z]) ++ repl (x, y) k (ks.drop (i + 1)) = repl (x, y) k ks by rw [← HE.out, HS.out, List.append_assoc]; rfl)
          clear gz gz2 hA HE HS RK
          by_cases hz : z = x
          · subst hz
            have hy : ¬ z2 = y := fun e => hh ⟨rfl, e⟩
            clear hh
            go_wp2_with
              (at_builtin
               refine wpList_push (w0 := w) rfl _ _ _ rfl w.heap.size 2 1 8 elem_int intE _ n c D rfl (P2.out z) wr.heap.size z #[.int .i64 z] 2 (0, 0) rfl (heap_alloc_new _ _) rfl rfl (by simp [intE, Value.oneCell']) (by omega) (by omega) (by unfold maxLen; omega) rfl (E2.out z) ?_
               intro A9 c9 w9 own9 hg9 hat9 hb9
               have P9 := Lib.hid own9
               have B9 := Lib.hid hb9
               clear own9 hg9 hat9 hb9)
            go_roundw
            case rel => exact ⟨i + 1, n + 1, A9, c9, D ++ [z], rfl, by go_num, by omega, by omega, Lib.hid (by rw [List.length_append, hD.out]; rfl), HE2, P9, B9⟩
            case measure => simp [intOf]; omega
          · clear hh
            go_wp2_with
              (at_builtin
               refine wpList_push (w0 := w) rfl _ _ _ rfl w.heap.size 2 1 8 elem_int intE _ n c D rfl (P2.out z) wr.heap.size z #[.int .i64 z] 2 (0, 0) rfl (heap_alloc_new _ _) rfl rfl (by simp [intE, Value.oneCell']) (by omega) (by omega) (by unfold maxLen; omega) rfl (E2.out z) ?_
               intro A9 c9 w9 own9 hg9 hat9 hb9
               have P9 := Lib.hid own9
               have B9 := Lib.hid hb9
               clear own9 hg9 hat9 hb9)
            go_roundw
            case rel => exact ⟨i + 1, n + 1, A9, c9, D ++ [z], rfl, by go_num, by omega, by omega, Lib.hid (by rw [List.length_append, hD.out]; rfl), HE2, P9, B9⟩
            case measure => simp [intOf]; omega
      · have i2 : ¬ (i : Int) + 1 < (m : Int) := by omega
        have HS := Lib.hid (repl_end (p := (x, y)) (k := k) gz (by omega))
        have HE2 := Lib.hid (show (D ++ [z]) ++ repl (x, y) k (ks.drop (i + 1)) = repl (x, y) k ks by rw [← HE.out, HS.out, List.append_assoc]; rfl)
        clear gz HE HS RK
        go_wp2_with
          (at_builtin
           refine wpList_push (w0 := w) rfl _ _ _ rfl w.heap.size 2 1 8 elem_int intE _ n c D rfl (P2.out z) wr.heap.size z #[.int .i64 z] 2 (0, 0) rfl (heap_alloc_new _ _) rfl rfl (by simp [intE, Value.oneCell']) (by omega) (by omega) (by unfold maxLen; omega) rfl (E2.out z) ?_
           intro A9 c9 w9 own9 hg9 hat9 hb9
           have P9 := Lib.hid own9
           have B9 := Lib.hid hb9
           clear own9 hg9 hat9 hb9)
        go_roundw
        case rel => exact ⟨i + 1, n + 1, A9, c9, D ++ [z], rfl, by go_num, by omega, by omega, Lib.hid (by rw [List.length_append, hD.out]; rfl), HE2, P9, B9⟩
        case measure => simp [intOf]; omega
    · have i1 : ¬ (i : Int) < (m : Int) := by omega
      have HS := Lib.hid (show D = repl (x, y) k ks by rw [← HE.out, repl_done (by omega), List.append_nil])
      go_wp2_with fail
      go_ret
      have hDl : (repl (x, y) k ks).length = n := by rw [← HS.out]; exact hD.out
      refine ⟨A, c, ret_slice hDl.symm, ?_, HB.out⟩
      rw [hDl, ← HS.out]; exact hown.out
end Go.Proofs.Ytikhjoianbndhaa


/-
  The grammar of a plain word in the program: the small functions.
-/
namespace Go.Proofs.Ytikhjoianbndhaa
open Go.RowKit

theorem conv_letter (W : World) (g c : Nat) (b : UInt8) (h : W.cell? ⟨g, 0, none⟩ = some (.int .u8 (b.toNat : Int))) : (convert 87 9 (.slice (some ⟨g, 0, none⟩) 1 c)).run Try.prog W = .ok (.string ⟨#[b]⟩) W := by
  refine run_convert_bytes_back (P := Try.prog) W _ _ 5 ⟨g, 0, none⟩ c [b] Try.underlying87 Try.underlying5 Try.underlying9 fun j hj => ?_
  obtain rfl : j = 0 := by simpa using hj
  simp [Addr.add, h]
set_option maxHeartbeats 1000000 in
set_option maxRecDepth 100000 in
theorem letter_any (c : UInt8) (w : World) : Calls Try.prog 57 #[.int .u8 (c.toNat : Int)] w (Ret (Fac.val (ruleC c)) w) := by
  go_enter Try.func57, Try.ntmps57
  have hcv := conv_letter ((w.alloc (.cells #[.string ⟨#[]⟩, .int .i64 0, .int .i64 0] 44)).alloc (.cells #[.int .u8 (c.toNat : Int)] 5)) (w.heap.size + 1) 1 c (by simp)
  go_wp2_with fail
  refine bodyPost_ret (v := Fac.val (ruleC c)) (by simp [results, Try.results57, go_sem, Fac.val, ruleC]; try rfl) rfl ⟨rfl, ?_⟩
  (repeat first | exact Below.refl _ _ | assumption | refine Below.drew ?_ | refine Below.alloc ?_ (by first | exact Nat.le_refl _ | (simp; done) | omega | (simp; omega)) _ | refine Below.setCell ?_ (by first | exact Nat.le_refl _ | (simp; done) | omega | (simp; omega)) _)
theorem pairInt_any (a b : Int) (w : World) (ha : -9223372036854775808 ≤ a ∧ a ≤ 9223372036854775807) (hb : -9223372036854775808 ≤ b ∧ b ≤ 9223372036854775807) : Calls Try.prog 40 #[.int .i64 a, .int .i64 b] w (Ret (Fac.val ⟨⟨#[]⟩, a, b⟩) w) := by
  have u1 : IntKind.i64.wrap a = a := IntWalk.i64_in _ (by omega)
  have u2 : IntKind.i64.wrap b = b := IntWalk.i64_in _ (by omega)
  go_enter Try.func40, Try.ntmps40
  go_wp2
  refine bodyPost_ret (v := Fac.val ⟨⟨#[]⟩, a, b⟩) (by simp [results, Try.results40, go_sem, Fac.val]; try rfl) rfl ⟨rfl, ?_⟩
  (repeat first | exact Below.refl _ _ | assumption | refine Below.drew ?_ | refine Below.alloc ?_ (by first | exact Nat.le_refl _ | (simp; done) | omega | (simp; omega)) _ | refine Below.setCell ?_ (by first | exact Nat.le_refl _ | (simp; done) | omega | (simp; omega)) _)
set_option maxHeartbeats 1000000 in
set_option maxRecDepth 100000 in
theorem stringslite_any (s : ByteArray) (c : Int) (w : World) : Calls Try.prog 71 #[.string s, .int .u8 c] w fun e w' => e = .returned (.int .i64 (Lib.indexByte s.data.toList c.toNat.toUInt8)) ∧ w' = w := by
  go_enter Try.func71, Try.ntmps71
  go_wp2
  rw [run_callFunc_extern Try.func75 (by kernel_rfl) (by kernel_rfl) (by kernel_rfl) (e := Extern.BytealgIndexByte.indexByte) (by kernel_rfl), Lib.run_indexByteString]
  simp only [Result.andThen]
  rw [Oper.upon_value]
  go_wp2
  go_ret
  exact ⟨rfl, rfl⟩
theorem indexByte_any (s : ByteArray) (c : Int) (z : Int) (w : World) (hz : Lib.indexByte s.data.toList c.toNat.toUInt8 = z) : Calls Try.prog 56 #[.string s, .int .u8 c] w (Ret (.int .i64 z) w) := by
  have HZ := Lib.hid hz; clear hz
  go_enter Try.func56, Try.ntmps56
  go_wp2_with (go_at_call 71; refine (stringslite_any s c _).mono ?_; rintro e w' ⟨rfl, rfl⟩; rw [HZ.out])
  go_ret
  exact ⟨rfl, Below.refl _ _⟩
theorem indexByte_mem (l : List UInt8) (c : UInt8) : (0 ≤ Lib.indexByte l c) ↔ c ∈ l := by
  induction l with
  | nil => simp [Lib.indexByte]
  | cons b l ih =>
    unfold Lib.indexByte
    have := Lib.indexByte_ge l c
    by_cases hb : b = c
    · simp [hb]
    · have hb' : (b == c) = false := by simpa using hb
      rw [hb']
      simp only [Bool.false_eq_true, if_false, List.mem_cons, (Ne.symm hb : c ≠ b), false_or, ← ih]
      by_cases h1 : Lib.indexByte l c = -1
      · simp [h1]
      · have : (Lib.indexByte l c == -1) = false := by simpa using h1
        rw [this]; simp; omega
set_option maxHeartbeats 1000000 in
set_option maxRecDepth 100000 in
theorem indexR_any (A : Option Addr) (n c : Nat) (rs : List Fac) (f : Fac) (w : World) (hn : n ≤ 1048576) (hr : Rd w w.heap.size A n 3 Fac.cells rs) :
    Calls Try.prog 58 #[.slice A n c, .agg #[.string f.l, .int .i64 f.a, .int .i64 f.b]] w (Ret (.int .i64 (ixR f rs 0)) w) := by
  have hl := Lib.hid hr.len
  have HR := Lib.hid hr; clear hr
  go_enter Try.func58, Try.ntmps58
  go_wp2_with fail
  refine named fun w0 H0 => ?_
  have B0 := Lib.hid (show Blk w0 w.heap.size 44 #[.string f.l, .int .i64 f.a, .int .i64 f.b] by rw [H0.out]; exact Blk.new _ _ _)
  have hb0 : Below w.heap.size w w0 := by rw [H0.out]; (repeat first | exact Below.refl _ _ | assumption | refine Below.drew ?_ | refine Below.alloc ?_ (by first | exact Nat.le_refl _ | (simp; done) | omega | (simp; omega)) _ | refine Below.setCell ?_ (by first | exact Nat.le_refl _ | (simp; done) | omega | (simp; omega)) _)
  clear H0
  go_loopw [8] (fun i w' => ∃ k : Nat, i = .int .i64 k ∧ k ≤ n ∧ Below w0.heap.size w0 w' ∧ Hid (ixR f (rs.drop k) k = ixR f rs 0)) (fun i _ => n - (intOf i).toNat)
  case atStart => exact ⟨0, rfl, by omega, Below.refl _ _, Lib.hid rfl⟩
  case round =>
    obtain ⟨k, rfl, hk, hb, H⟩ := hrel
    have hbb := hb0.trans (hb.mono hb0.size)
    by_cases hlt : k < n
    · obtain ⟨b, o, x, rfl, hB, gx, c0, c1, c2⟩ := (HR.out.next hbb).fac hlt
      have H' := Lib.hid (show (if f = x then (k : Int) else ixR f (rs.drop (k + 1)) (k + 1)) = ixR f rs 0 by
        rw [← H.out, drop_cons gx]; rfl)
      clear gx H
      have B1 := B0.out.next hb
      obtain ⟨d0, d1, d2⟩ := B1.three
      have l1 := B1.lt
      have hup := upc wr.heap.size wr
      have i0 : (0 : Int) ≤ (k : Int) := by omega
      have i1 : (k : Int) < (n : Int) := by omega
      by_cases he : f = x
      · have he' := Lib.hid (show decide (f = x) = true by simpa using he)
        have hne := fun W => (eql_rule f x W).trans (by rw [he'.out])
        have e2 := Lib.hid (show ixR f rs 0 = (k : Int) by rw [← H'.out, if_pos he])
        clear he B1
        go_wp2_with fail
        refine wp_region_up wr.heap.size (by kernel_rfl) (by kernel_rfl) ?_
        repeat (go_big_quiet_step (fail))
        refine wpQuiet_nil ?_
        intro w2 hw2
        have hb2 := up_of hw2
        go_wp2
        go_ret
        exact ⟨ret_int e2.out.symm, hbb.trans (hb2.mono hbb.size)⟩
      · have he' := Lib.hid (show decide (f = x) = false by simpa using he)
        have hne := fun W => (eql_rule f x W).trans (by rw [he'.out])
        have e2 := Lib.hid (show ixR f (rs.drop (k + 1)) (k + 1) = ixR f rs 0 by rw [← H'.out, if_neg he])
        clear he B1
        go_wp2_with fail
        refine wp_region_up wr.heap.size (by kernel_rfl) (by kernel_rfl) ?_
        repeat (go_big_quiet_step (fail))
        refine wpQuiet_nil ?_
        intro w2 hw2
        have hb2 := up_of hw2
        go_wp2
        go_roundw
        case rel => exact ⟨k + 1, by go_num, by omega, hb.trans (hb2.mono hb.size), e2⟩
        case measure => simp [intOf]; omega
    · have e2 := Lib.hid (show ixR f rs 0 = -1 by rw [← H.out, List.drop_of_length_le (by rw [hl.out]; omega)]; rfl)
      go_wp2
      go_ret
      exact ⟨ret_int e2.out.symm, hbb⟩
end Go.Proofs.Ytikhjoianbndhaa


/-
  The grammar of a plain word in the program.
-/
namespace Go.Proofs.Ytikhjoianbndhaa
open Go.RowKit

/-- a slice of the call's own that is the beginning of one which is appended to -/
theorem own_prefix {W W' : World} {base E sz k n c0 c : Nat} {A0 A : Option Addr} {xs0 ys : List Value} (hsz : 0 < sz) (hL : W.ownsRow base E sz (.slice A0 k c0) k xs0) (hA : W.ownsRow base E sz (.slice A n c) n (xs0 ++ ys))
    (hA' : W'.ownsRow base E sz (.slice A n c) n (xs0 ++ ys)) (hg : W.grownBy W' (Value.slice A n c).ownBlock) : W'.ownsRow base E sz (.slice A0 k c0) k xs0 := by
  rcases hL.2 with ⟨hnil, hk⟩ | ⟨g0, cap0, cur0, hv0, hb0, hh0, hk0, hm0, hs0, ht0⟩
  · rw [hnil] at hL ⊢
    exact ⟨hL.1, .inl ⟨rfl, hk⟩⟩
  · by_cases hne : (Value.slice A n c).ownBlock = some g0
    · rcases hA'.2 with ⟨hnil, _⟩ | ⟨g1, cap1, cur1, hv1, hb1, hh1, hk1, hm1, hs1, ht1⟩
      · rw [hnil] at hne; cases hne
      · rcases hA.2 with ⟨hnil, _⟩ | ⟨g2, cap2, cur2, hv2, hb2, hh2, hk2, hm2, hs2, ht2⟩
        · rw [hnil] at hne; cases hne
        · rw [hv1] at hne
          have e1 : g1 = g0 := by simpa [Value.ownBlock] using hne
          have e2 : g1 = g2 ∧ cap1 = cap2 := by
            rw [hv1] at hv2; injection hv2 with q1 q2 q3; injection q1 with q1; injection q1 with q1; exact ⟨q1, q3⟩
          obtain ⟨e2, e3⟩ := e2
          subst e1 e2 e3
          have ec : cur0 = cur2 := by
            rw [hh0] at hh2; injection hh2 with q; injection q with q
          subst ec
          have ecap : cap0 = cap1 := by
            have := hs0.symm.trans hs2
            exact Nat.eq_of_mul_eq_mul_right hsz this
          subst ecap
          refine ⟨hL.1, .inr ⟨g1, cap0, cur1, hv0, hb0, hh1, hk0, hm0, hs1, ?_⟩⟩
          have hkn : k * sz ≤ n * sz := by
            have h1 := hA.1
            have h2 := hL.1
            rw [List.length_append] at h1; omega
          have e5 : cur1.toList.take (k * sz) = (cur1.toList.take (n * sz)).take (k * sz) := by rw [List.take_take, Nat.min_eq_left hkn]
          rw [e5, ht1, ← hL.1]
          exact List.take_left
    · refine hL.kept hg (.inr ?_)
      rw [hv0]
      intro e; exact hne e.symm

/-- the letters up to one -/
def ksT (w : List UInt8) (c : Int) : List UInt8 := [97, 98, 99, 100].filter (fun u => decide (u ∈ w) && decide ((u.toNat : Int) < c))
theorem ksT_first (w : List UInt8) : ksT w 97 = [] := by simp [ksT]
theorem ksT_last (w : List UInt8) : ksT w 101 = ksP w := by
  unfold ksT ksP
  apply List.filter_congr
  intro u hu
  have : (u.toNat : Int) < 101 := by
    simp only [List.mem_cons, List.not_mem_nil, or_false] at hu
    rcases hu with rfl | rfl | rfl | rfl <;> decide
  simp [this]
theorem ksT_step (w : List UInt8) (u : UInt8) (h : letB u = true) : ksT w ((u.toNat : Int) + 1) = if u ∈ w then ksT w u.toNat ++ [u] else ksT w u.toNat := by
  have h : (97 : Int) ≤ u.toNat ∧ (u.toNat : Int) ≤ 100 := by simpa [letB] using h
  have h4 : u = 97 ∨ u = 98 ∨ u = 99 ∨ u = 100 := by
    simp only [← UInt8.toNat_inj]
    have : u.toNat = 97 ∨ u.toNat = 98 ∨ u.toNat = 99 ∨ u.toNat = 100 := by omega
    exact this
  unfold ksT
  rcases h4 with rfl | rfl | rfl | rfl
  all_goals
    by_cases h1 : (97 : UInt8) ∈ w <;> by_cases h2 : (98 : UInt8) ∈ w <;> by_cases h3 : (99 : UInt8) ∈ w <;> by_cases h4 : (100 : UInt8) ∈ w <;> simp [h1, h2, h3, h4]
theorem ksT_le (w : List UInt8) (c : Int) : (ksT w c).length ≤ 4 := by
  unfold ksT; exact Nat.le_trans (List.length_filter_le _ _) (by simp)

theorem okW_at {s : ByteArray} (h : okW s = true) {i : Nat} (hi : i < s.size) : letB s[i] = true := by
  unfold okW at h
  simp only [Bool.and_eq_true, List.all_eq_true] at h
  exact h.2 _ (List.mem_of_getElem? (at_byte s i hi))
theorem okW_size {s : ByteArray} (h : okW s = true) : s.size ≤ 2000 := by
  unfold okW at h
  simp only [Bool.and_eq_true, decide_eq_true_eq] at h
  exact h.1
/-- 'plain' under way -/
structure PlW (w W : World) (s : ByteArray) (A : Option Addr) (n c : Nat) (rs : List Fac) : Prop where
  q : W.ownsRow w.heap.size 44 3 (.slice A n c) n (rs.flatMap Fac.cells)
  s : Blk W w.heap.size 9 #[.string s]
  o : Blk W (w.heap.size + 1) 24 #[.slice none 0 0]
  g : Blk W (w.heap.size + 2) 24 #[.slice A n c]
  e : Below w.heap.size w W
section
variable {w W W' : World} {s : ByteArray} {A : Option Addr} {n c : Nat} {rs : List Fac}
theorem PlW.next (h : PlW w W s A n c rs) (hb : Below W.heap.size W W') : PlW w W' s A n c rs :=
  ⟨own_next h.q hb, h.s.next hb, h.o.next hb, h.g.next hb, h.e.trans (hb.mono h.e.size)⟩
theorem PlW.alloc (h : PlW w W s A n c rs) (o : Obj) : PlW w (W.alloc o) s A n c rs := h.next ((Below.refl _ _).alloc (Nat.le_refl _) _)
theorem PlW.push {A8 : Option Addr} {k8 c8 : Nat} {rs' : List Fac} (h : PlW w W s A n c rs) (hq : W'.ownsRow w.heap.size 44 3 (.slice A8 k8 c8) k8 (rs'.flatMap Fac.cells)) (hg : W.grownBy W' (Value.slice A n c).ownBlock) :
    PlW w (W'.setCell ⟨w.heap.size + 2, 0, none⟩ (.slice A8 k8 c8)) s A8 k8 c8 rs' := by
  have hs' := h.s.grown hg (own_blk_ne h.q h.s (by decide))
  have ho' := h.o.grown hg (own_blk_ne h.q h.o (by decide))
  have hg' := h.g.grown hg (own_blk_ne h.q h.g (by decide))
  have he' := h.e.grown hg h.e.size (own_ge h.q)
  have hg2 := gb_set W' (w.heap.size + 2) 0 (.slice A8 k8 c8)
  exact ⟨own_kept' hq hg' (by decide) _, hs'.grown hg2 (by intro e; injection e with e; omega), ho'.grown hg2 (by intro e; injection e with e; omega), hg'.set_ 0 _, he'.setCell (by simp) _⟩
end
end Go.Proofs.Ytikhjoianbndhaa


/-
  The rules of a word's letters and the numbers of its letters, in the program.
-/
namespace Go.Proofs.Ytikhjoianbndhaa
open Go.RowKit

/-- rules and numbers, both in memory of the call's own -/
def RetLt (w0 : World) (rs : List Fac) (ks : List Int) (g : Option Addr → Nat → Nat → Value) (e : Ending) (w' : World) : Prop :=
  ∃ A c B d, e = .returned (.tuple #[g A rs.length c, .slice B ks.length d]) ∧ w'.ownsRow w0.heap.size 44 3 (.slice A rs.length c) rs.length (rs.flatMap Fac.cells) ∧
    w'.ownsRow w0.heap.size 2 1 (.slice B ks.length d) ks.length (ks.flatMap intE) ∧ Below w0.heap.size w0 w'
def gramV (A : Option Addr) (n c : Nat) : Value := .agg #[.slice A n c]
def sliceV (A : Option Addr) (n c : Nat) : Value := .slice A n c
def numsP (w : List UInt8) : List Int := w.map (atP w)

/-- 'letters' under way -/
structure LtW (w W : World) (A : Option Addr) (n c : Nat) (rs : List Fac) (B : Option Addr) (m d : Nat) (ks : List Int) : Prop where
  q : W.ownsRow w.heap.size 44 3 (.slice A n c) n (rs.flatMap Fac.cells)
  k : W.ownsRow w.heap.size 2 1 (.slice B m d) m (ks.flatMap intE)
  o : Blk W w.heap.size 24 #[.slice none 0 0]
  g : Blk W (w.heap.size + 2) 24 #[.slice A n c]
  e : Below w.heap.size w W
section
variable {w W W' : World} {A : Option Addr} {n c : Nat} {rs : List Fac} {B : Option Addr} {m d : Nat} {ks : List Int}
theorem LtW.next (h : LtW w W A n c rs B m d ks) (hb : Below W.heap.size W W') : LtW w W' A n c rs B m d ks :=
  ⟨own_next h.q hb, own_next h.k hb, h.o.next hb, h.g.next hb, h.e.trans (hb.mono h.e.size)⟩
theorem LtW.alloc (h : LtW w W A n c rs B m d ks) (o : Obj) : LtW w (W.alloc o) A n c rs B m d ks := h.next ((Below.refl _ _).alloc (Nat.le_refl _) _)
theorem LtW.push {A8 : Option Addr} {k8 c8 : Nat} {rs' : List Fac} (h : LtW w W A n c rs B m d ks) (hq : W'.ownsRow w.heap.size 44 3 (.slice A8 k8 c8) k8 (rs'.flatMap Fac.cells)) (hg : W.grownBy W' (Value.slice A n c).ownBlock) :
    LtW w (W'.setCell ⟨w.heap.size + 2, 0, none⟩ (.slice A8 k8 c8)) A8 k8 c8 rs' B m d ks := by
  have ho' := h.o.grown hg (own_blk_ne h.q h.o (by decide))
  have hg' := h.g.grown hg (own_blk_ne h.q h.g (by decide))
  have hk' := h.k.kept hg (own_ne h.k h.q (by decide))
  have he' := h.e.grown hg h.e.size (own_ge h.q)
  have hg2 := gb_set W' (w.heap.size + 2) 0 (.slice A8 k8 c8)
  exact ⟨own_kept' hq hg' (by decide) _, own_kept' hk' hg' (by decide) _, ho'.grown hg2 (by intro e; injection e with e; omega), hg'.set_ 0 _, he'.setCell (by simp) _⟩
theorem LtW.pushK {B8 : Option Addr} {k8 c8 : Nat} {ks' : List Int} (h : LtW w W A n c rs B m d ks) (hq : W'.ownsRow w.heap.size 2 1 (.slice B8 k8 c8) k8 (ks'.flatMap intE)) (hg : W.grownBy W' (Value.slice B m d).ownBlock) : LtW w W' A n c rs B8 k8 c8 ks' :=
  ⟨h.q.kept hg (own_ne h.q h.k (by decide)), hq, h.o.grown hg (own_blk_ne h.k h.o (by decide)), h.g.grown hg (own_blk_ne h.k h.g (by decide)), h.e.grown hg h.e.size (own_ge h.k)⟩
end
set_option maxHeartbeats 4000000 in
set_option maxRecDepth 100000 in
theorem letters_any (s : ByteArray) (w : World) (ho : okW s = true) : Calls Try.prog 27 #[.string s] w (RetLt w (lettersP s.data.toList) (numsP s.data.toList) gramV) := by
  have hs := okW_size ho
  have HL := Lib.hid (fun (i : Nat) (hi : i < s.size) => okW_at ho hi)
  clear ho
  go_enter Try.func27, Try.ntmps27
  go_wp2_with fail
  refine named fun w0 H0 => ?_
  have P0 := Lib.hid (show LtW w w0 none 0 0 [] (some ⟨w.heap.size + 1, 0, none⟩) 0 0 [] by
    rw [H0.out]
    refine ⟨World.ownsRow_nil _ _ _ _, ?_, ?_, ?_, by (repeat first | exact Below.refl _ _ | assumption | refine Below.drew ?_ | refine Below.alloc ?_ (by first | exact Nat.le_refl _ | (simp; done) | omega | (simp; omega)) _ | refine Below.setCell ?_ (by first | exact Nat.le_refl _ | (simp; done) | omega | (simp; omega)) _)⟩
    · have h := World.ownsRow_made (base := w.heap.size) (e := 2) (size := 1) (w.alloc (.cells #[.slice none 0 0] 24)) #[] 0 (by simp) (by unfold maxLen; omega) rfl
      rw [show (w.alloc (.cells #[.slice none 0 0] 24)).heap.size = w.heap.size + 1 by simp] at h
      exact h.alloc _
    · exact ((Blk.new w _ _).alloc _).alloc _
    · simpa using Blk.new ((w.alloc (.cells #[.slice none 0 0] 24)).alloc (.cells #[] 2)) 24 #[.slice none 0 0])
  clear H0
  go_loopw [6] (fun c_ w' => ∃ (c : Int) (A : Option Addr) (n cp : Nat), c_ = .int .u8 c ∧ 97 ≤ c ∧ c ≤ 101 ∧ n ≤ 4 ∧ Hid ((ksT s.data.toList c).length = n) ∧ Hid (LtW w w' A n cp ((ksT s.data.toList c).map ruleC) (some ⟨w.heap.size + 1, 0, none⟩) 0 0 [])) (fun c_ _ => (101 - intOf c_).toNat)
  case atStart => exact ⟨97, none, 0, 0, rfl, by omega, by omega, by omega, Lib.hid (by rw [ksT_first]; rfl), by rw [ksT_first]; exact P0⟩
  case round =>
    obtain ⟨c, A, n, cp, rfl, hc0, hc1, hn4, hnl, P1⟩ := hrel
    by_cases hlt : c ≤ 100
    · obtain ⟨u, hu⟩ : ∃ u : UInt8, (u.toNat : Int) = c := ⟨UInt8.ofNat c.toNat, by simp; omega⟩
      subst hu
      have hlb : letB u = true := by simp [letB]; omega
      have Hst := Lib.hid (ksT_step s.data.toList u hlb)
      obtain ⟨z, hz⟩ : ∃ z, Lib.indexByte s.data.toList ((u.toNat : Int)).toNat.toUInt8 = z := ⟨_, rfl⟩
      have hzm := indexByte_mem s.data.toList u
      rw [show ((u.toNat : Int)).toNat.toUInt8 = u by simp] at hz
      rw [hz] at hzm
      have HZ := Lib.hid (show Lib.indexByte s.data.toList ((u.toNat : Int)).toNat.toUInt8 = z by rw [show ((u.toNat : Int)).toNat.toUInt8 = u by simp]; exact hz)
      have HZM := Lib.hid hzm
      clear hz hzm hlb
      by_cases hzz : 0 ≤ z
      · have Hst2 := Lib.hid (show ksT s.data.toList ((u.toNat : Int) + 1) = ksT s.data.toList u.toNat ++ [u] by rw [Hst.out, if_pos (HZM.out.1 hzz)])
        go_upto_if 17 with (go_at_call 56; refine (indexByte_any s _ z _ HZ.out).mono ?_; rintro e w1 ⟨rfl, hb1⟩)
        have P2 := Lib.hid (P1.out.next hb1)
        have d0 := P2.out.g.cell 0
        have l0 := P2.out.g.lt
        have P3 := Lib.hid (P2.out.next (Below.refl _ _).drew)
        have lc := fun W => letter_any u W
        obtain ⟨y, hy⟩ : ∃ y, ruleC u = y := ⟨_, rfl⟩
        rw [hy] at lc
        have LC := Lib.hid lc
        have HY := Lib.hid hy
        clear lc hy
        have zk : (n + 1) * 32 ≤ 140737488355328 := by omega
        have zkm : n + 1 ≤ maxLen := by unfold maxLen; omega
        go_wp2_with fail
        go_region_law
          (first
            | (refine step_push (by rfl) _ _ _ (by rfl) w.heap.size 44 3 32 elem_rule Fac.cells A n cp ((ksT s.data.toList u.toNat).map ruleC) (by rfl) P6.out.q _ y #[.string y.l, .int .i64 y.a, .int .i64 y.b] 44 (0, 0) (by rfl) (heap_alloc_new _ _) rfl rfl (one_fac _) (by omega) zk zkm P6.out.e.size ?_
               intro A8 c8 w8 own8 hg8 old8
               have P5 := Lib.hid (P6.out.push own8 hg8)
               have B5 := P6.out.g.grown hg8 (own_blk_ne P6.out.q P6.out.g (by decide))
               have d5 := B5.cell 0
               have f5 := B5.frozen
               have l5 := B5.lt)
            | (go_simp
               go_wp2_with (go_at_call 57; refine (LC.out _).mono ?_; rintro e w4 ⟨rfl, hb4⟩)
               have P4 := Lib.hid (P3.out.next hb4)
               have P6 := Lib.hid (P4.out.alloc (.cells #[.string y.l, .int .i64 y.a, .int .i64 y.b] 44))
               have d4 := P4.out.g.cell 0
               have l4 := P4.out.g.lt))
        all_goals
          have e5 := Lib.hid (show (ksT s.data.toList u.toNat).map ruleC ++ [y] = (ksT s.data.toList ((u.toNat : Int) + 1)).map ruleC by rw [Hst2.out, List.map_append, ← HY.out]; rfl)
          have hn4' : n + 1 ≤ 4 := by
            have h1 := ksT_le s.data.toList ((u.toNat : Int) + 1)
            rw [Hst2.out, List.length_append, hnl.out] at h1; exact h1
          have hnl' := Lib.hid (show (ksT s.data.toList ((u.toNat : Int) + 1)).length = n + 1 by rw [Hst2.out, List.length_append, hnl.out]; rfl)
          go_wp2_with fail
          go_roundw
          case rel => exact ⟨(u.toNat : Int) + 1, A8, n + 1, c8, by go_num, by omega, by omega, hn4', hnl', by rw [← e5.out]; exact P5⟩
          case measure => simp [intOf]; omega
      · have Hst2 := Lib.hid (show ksT s.data.toList ((u.toNat : Int) + 1) = ksT s.data.toList u.toNat by rw [Hst.out, if_neg (fun h => hzz (HZM.out.2 h))])
        go_wp2_with (go_at_call 56; refine (indexByte_any s _ z _ HZ.out).mono ?_; rintro e w1 ⟨rfl, hb1⟩)
        have P2 := Lib.hid (P1.out.next hb1)
        go_roundw
        case rel => exact ⟨(u.toNat : Int) + 1, A, n, cp, by go_num, by omega, by omega, hn4, by rw [Hst2.out]; exact hnl, by rw [Hst2.out]; exact P2⟩
        case measure => simp [intOf]; omega
    · obtain rfl : c = 101 := by omega
      have hK := ksT_last s.data.toList
      rw [hK] at hnl P1
      clear hK
      have hll := Lib.hid (show (lettersP s.data.toList).length = n by rw [← hnl.out]; simp [lettersP])
      go_wp2_with fail
      go_loopw [5, 27] (fun l_ i_ w' => ∃ (i : Nat) (B : Option Addr) (d : Nat) (ks : List Int), l_ = .slice B i d ∧ i_ = .int .i64 i ∧ i ≤ s.size ∧ Hid (ks.length = i) ∧ Hid (ks ++ (s.data.toList.drop i).map (atP s.data.toList) = numsP s.data.toList) ∧
        Hid (LtW w w' A n cp (lettersP s.data.toList) B i d ks)) (fun _ i_ _ => s.size - (intOf i_).toNat)
      case atStart => exact ⟨0, _, 0, [], rfl, rfl, by omega, Lib.hid rfl, Lib.hid (by simp [numsP]), P1⟩
      case round =>
        obtain ⟨i, B, d, ks, rfl, rfl, hi, hkl, HE, PR⟩ := hrel
        by_cases hlt2 : i < s.size
        · have hmem : s[i] ∈ s.data.toList := List.mem_of_getElem? (at_byte s i hlt2)
          have HX := Lib.hid (atP_ix hmem (HL.out i hlt2))
          have HE2 := Lib.hid (show (ks ++ [atP s.data.toList s[i]]) ++ (s.data.toList.drop (i + 1)).map (atP s.data.toList) = numsP s.data.toList by
            rw [← HE.out, drop_cons (at_byte s i hlt2), List.append_assoc]; rfl)
          have P3 := Lib.hid (PR.out.next (Below.refl _ _).drew)
          have d0 := PR.out.g.cell 0
          have l0 := PR.out.g.lt
          have i0 : (0 : Int) ≤ (i : Int) := by omega
          have i1 : (i : Int) < (s.size : Int) := by omega
          have LC := Lib.hid (fun W => letter_any s[i] W)
          have IX := Lib.hid (fun W (h : Rd W W.heap.size A n 3 Fac.cells (lettersP s.data.toList)) => indexR_any A n cp (lettersP s.data.toList) (ruleC s[i]) W (by omega) h)
          rw [HX.out] at IX
          have zk : (i + 1) * 8 ≤ 140737488355328 := by omega
          have zkm : i + 1 ≤ maxLen := by unfold maxLen; omega
          generalize atP s.data.toList s[i] = v at *
          go_wp2_with fail
          go_region_law
            (first
              | (refine step_push (by rfl) _ _ _ (by rfl) w.heap.size 2 1 8 elem_int intE B i d ks (by rfl) P6.out.k _ v #[.int .i64 v] 2 (0, 0) (by rfl) (heap_alloc_new _ _) rfl rfl (by simp [intE, Value.oneCell']) (by omega) zk zkm P6.out.e.size ?_
                 intro A8 c8 w8 own8 hg8 old8
                 have P7 := Lib.hid (P6.out.pushK own8 hg8))
              | (go_simp
                 go_wp2_with (go_at_call 58; refine (IX.out _ (Rd.of_own (fun x _ => fac_len x) hll.out P4.out.q)).mono ?_; rintro e w5 ⟨rfl, hb5⟩)
                 have P5 := Lib.hid (P4.out.next hb5)
                 have P6 := Lib.hid (P5.out.alloc (.cells #[.int .i64 v] 2))
                 have d6 := P5.out.g.cell 0
                 have l6 := P5.out.g.lt)
              | (go_simp
                 go_wp2_with (go_at_call 57; refine (LC.out _).mono ?_; rintro e w4 ⟨rfl, hb4⟩)
                 have P4 := Lib.hid (P3.out.next hb4)
                 have d4 := P4.out.g.cell 0
                 have l4 := P4.out.g.lt))
          all_goals
            go_wp2_with fail
            go_roundw
            case rel => exact ⟨i + 1, A8, c8, ks ++ [v], rfl, by go_num, by omega, Lib.hid (by rw [List.length_append, hkl.out]; rfl), HE2, P7⟩
            case measure => simp [intOf]; omega
        · have e := Lib.hid (show numsP s.data.toList = ks by rw [← HE.out, List.drop_of_length_le (by rw [byte_len]; omega)]; simp)
          have g1 := PR.out.g.cell 0
          have g2 := PR.out.g.lt
          have o1 := PR.out.o.cell 0
          have o2 := PR.out.o.frozen
          have o3 := PR.out.o.lt
          go_wp2_with fail
          have hg := gb_set wr w.heap.size 0 (.slice A n cp)
          have x9 := PR.out.o.set_ 0 (.slice A n cp)
          have x10 : (wr.setCell ⟨w.heap.size, 0, none⟩ (.slice A n cp)).cell? ⟨w.heap.size, 0, none⟩ = some (.slice A n cp) := by rw [x9.cell 0]; rfl
          refine bodyPost_ret (v := .tuple #[.agg #[.slice A n cp], .slice B i d]) (by simp [results, Try.results27, go_sem, x10]) rfl ⟨A, cp, B, d, by rw [hll.out, e.out, hkl.out]; rfl, ?_, ?_, PR.out.e.grown hg PR.out.e.size (fun q hq => by injection hq with hq; omega)⟩
          · rw [hll.out]; exact PR.out.q.kept hg (.inr fun e => own_blk_ne PR.out.q PR.out.o (by decide) e.symm)
          · rw [e.out, hkl.out]; exact PR.out.k.kept hg (.inr fun e => own_blk_ne PR.out.k PR.out.o (by decide) e.symm)
end Go.Proofs.Ytikhjoianbndhaa


/-
  All places of a word at which another one begins, in the reference.
-/
namespace Go.Proofs.Ytikhjoianbndhaa
open Go.RowKit

/-- the places before one at which a word begins -/
def fndT (p s : ByteArray) (k : Nat) : List Int := ((List.range k).filter (fun i => decide (s.extract i (i + p.size) = p))).map (fun (i : Nat) => (i : Int))
def fndL (p s : ByteArray) : List Int := fndT p s (s.size + 1 - p.size)
theorem fndT_yes {p s : ByteArray} {k : Nat} (h : s.extract k (k + p.size) = p) : fndT p s (k + 1) = fndT p s k ++ [(k : Int)] := by
  simp [fndT, List.range_succ, h]
theorem fndT_no {p s : ByteArray} {k : Nat} (h : ¬ s.extract k (k + p.size) = p) : fndT p s (k + 1) = fndT p s k := by
  simp [fndT, List.range_succ, h]
theorem fndT_len (p s : ByteArray) (k : Nat) : (fndT p s k).length ≤ k := by
  unfold fndT
  rw [List.length_map]
  exact Nat.le_trans (List.length_filter_le _ _) (by simp)
end Go.Proofs.Ytikhjoianbndhaa


/-
  The grammar of a plain word in the reference.
-/
namespace Go.Proofs.Ytikhjoianbndhaa
open Go.RowKit

theorem fnd_one (u : UInt8) (s : ByteArray) : 0 < (fndL ⟨#[u]⟩ s).length ↔ u ∈ s.data.toList := by
  unfold fndL fndT
  rw [List.length_map, List.length_pos_iff_exists_mem]
  constructor
  · rintro ⟨i, hi⟩
    rw [List.mem_filter] at hi
    have h1 : i < s.size := by have := List.mem_range.1 hi.1; have : (⟨#[u]⟩ : ByteArray).size = 1 := rfl; omega
    have h2 : s.extract i (i + 1) = ⟨#[u]⟩ := of_decide_eq_true hi.2
    have h3 : (s.extract i (i + 1)).data.toList = [u] := by rw [h2]
    rw [ByteArray.data_extract, Array.toList_extract, List.extract_eq_take_drop, drop_cons (at_byte s i h1)] at h3
    simp only [Nat.add_sub_cancel_left, List.take_succ_cons, List.take_zero] at h3
    injection h3 with h4
    rw [← h4]; exact List.mem_of_getElem? (at_byte s i h1)
  · intro h
    obtain ⟨i, hi, he⟩ := List.mem_iff_getElem.1 h
    have hi' : i < s.size := by rw [byte_len] at hi; exact hi
    refine ⟨i, List.mem_filter.2 ⟨List.mem_range.2 ?_, decide_eq_true ?_⟩⟩
    · show i < s.size + 1 - 1; omega
    · show s.extract i (i + 1) = _
      apply ByteArray.ext
      rw [ByteArray.data_extract]
      apply Array.ext'
      rw [Array.toList_extract, List.extract_eq_take_drop, drop_cons (at_byte s i hi')]
      simp only [Nat.add_sub_cancel_left, List.take_succ_cons, List.take_zero]
      congr 1
theorem idx_ks (w : List UInt8) (u : UInt8) (h : letB u = true) (hm : u ∈ w) : (ksP w).idxOf u = (ksT w u.toNat).length := by
  have h : (97 : Int) ≤ u.toNat ∧ (u.toNat : Int) ≤ 100 := by simpa [letB] using h
  have h4 : u = 97 ∨ u = 98 ∨ u = 99 ∨ u = 100 := by
    simp only [← UInt8.toNat_inj]
    have : u.toNat = 97 ∨ u.toNat = 98 ∨ u.toNat = 99 ∨ u.toNat = 100 := by omega
    exact this
  unfold ksT ksP
  rcases h4 with rfl | rfl | rfl | rfl
  all_goals
    by_cases h1 : (97 : UInt8) ∈ w <;> by_cases h2 : (98 : UInt8) ∈ w <;> by_cases h3 : (99 : UInt8) ∈ w <;> by_cases h4 : (100 : UInt8) ∈ w <;> simp_all [List.idxOf_cons]

/-- 'l02Plain' under way -/
structure PsW (w W : World) (A : Option Addr) (n c : Nat) (rs : List Fac) (at_ : List Int) : Prop where
  q : W.ownsRow w.heap.size 44 3 (.slice A n c) n (rs.flatMap Fac.cells)
  o : Blk W w.heap.size 24 #[.slice none 0 0]
  g : Blk W (w.heap.size + 1) 24 #[.slice A n c]
  v : Blk W (w.heap.size + 2) 2 (intA at_)
  e : Below w.heap.size w W
section
variable {w W W' : World} {A : Option Addr} {n c : Nat} {rs : List Fac} {at_ : List Int}
theorem PsW.next (h : PsW w W A n c rs at_) (hb : Below W.heap.size W W') : PsW w W' A n c rs at_ :=
  ⟨own_next h.q hb, h.o.next hb, h.g.next hb, h.v.next hb, h.e.trans (hb.mono h.e.size)⟩
theorem PsW.alloc (h : PsW w W A n c rs at_) (o : Obj) : PsW w (W.alloc o) A n c rs at_ := h.next ((Below.refl _ _).alloc (Nat.le_refl _) _)
theorem PsW.push {A8 : Option Addr} {k8 c8 : Nat} {rs' : List Fac} (h : PsW w W A n c rs at_) (hq : W'.ownsRow w.heap.size 44 3 (.slice A8 k8 c8) k8 (rs'.flatMap Fac.cells)) (hg : W.grownBy W' (Value.slice A n c).ownBlock) :
    PsW w (W'.setCell ⟨w.heap.size + 1, 0, none⟩ (.slice A8 k8 c8)) A8 k8 c8 rs' at_ := by
  have ho' := h.o.grown hg (own_blk_ne h.q h.o (by decide))
  have hg' := h.g.grown hg (own_blk_ne h.q h.g (by decide))
  have hv' := h.v.grown hg (own_blk_ne h.q h.v (by decide))
  have he' := h.e.grown hg h.e.size (own_ge h.q)
  have hg2 := gb_set W' (w.heap.size + 1) 0 (.slice A8 k8 c8)
  exact ⟨own_kept' hq hg' (by decide) _, ho'.grown hg2 (by intro e; injection e with e; omega), hg'.set_ 0 _, hv'.grown hg2 (by intro e; injection e with e; omega), he'.setCell (by simp) _⟩
theorem PsW.tell (h : PsW w W A n c rs at_) (i : Nat) (z : Int) : PsW w (W.setCell ⟨w.heap.size + 2, i, none⟩ (.int .i64 z)) A n c rs (at_.set i z) := by
  have hg2 := gb_set W (w.heap.size + 2) i (.int .i64 z)
  have := h.v.set_ i (.int .i64 z)
  rw [intA_set] at this
  exact ⟨own_kept' h.q h.v (by decide) _, h.o.grown hg2 (by intro e; injection e with e; omega), h.g.grown hg2 (by intro e; injection e with e; omega), this, h.e.setCell (by simp) _⟩
end
end Go.Proofs.Ytikhjoianbndhaa


/-
  impl.folded at int64: what it makes of a grammar, by the contracts of the two functions that it is handed.
-/
namespace Go.Proofs.Ytikhjoianbndhaa
open Go.RowKit

theorem calls_arg {P : Program} {f : FuncId} {a b : Int} {cl : Array Value} {w : World} {Q : Ending → World → Prop} (h : a = b) (hc : Calls P f (#[.int .i64 b] ++ cl) w Q) : Calls P f (#[.int .i64 a] ++ cl) w Q := by rw [h]; exact hc
/-- a function of the program's own, that can be called by its value -/
def EnterOk (f : FuncId) : Prop := ∀ (args : Array Value) (w : World), Sem.run Try.prog (callFunc f args) w = .ok (.enter f args) w
theorem enterOk {f : FuncId} {fn : Func} (h : Try.prog.funcs[f]? = some fn) (h1 : (fn.name == "runtime.NumGoroutine") = false) (h2 : fn.body.isNone = false) : EnterOk f := by
  intro args w
  have h3 : ¬ fn.name = "runtime.NumGoroutine" := by simpa using h1
  have h4 : ¬ fn.body = none := by intro e; rw [e] at h2; cases h2
  simp [callFunc, h, h3, h4]

end Go.Proofs.Ytikhjoianbndhaa
