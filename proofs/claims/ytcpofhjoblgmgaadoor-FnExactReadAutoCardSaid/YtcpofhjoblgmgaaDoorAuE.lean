
/-
  Automata compared, marked, held.
-/
import Derived.Test.YtcpofhjoblgmgaaDoorTabG
import Derived.Test.YtcpofhjoblgmgaaDoorAuP
namespace Go.Proofs.YtcpofhjoblgmgaaDoor
open Go.RowKit

def tailAu (F : Option Addr) (nf cf : Nat) (A : Option Addr) (n c : Nat) (S q : Int) : Value := .agg #[.int .i64 S, .int .i64 q, .slice F nf cf, .slice A n c]
set_option maxHeartbeats 1000000 in
theorem eqAuto_any (S q : Int) (F G : Option Addr) (nf cf cg : Nat) (fin : List Int) (A B : Option Addr) (n c d : Nat) (hs gs : List RowH) (nx : List (List Int)) (w : World) (hnf : nf ≤ 1048576) (hn : n ≤ 1048576) (hF : Rd w w.heap.size F nf 1 intE fin) (hG : Rd w w.heap.size G nf 1 intE fin)
    (hA : RdT w w.heap.size A n intE hs nx) (hB : RdT w w.heap.size B n intE gs nx) (hz : ∀ x ∈ nx, x.length ≤ 1048576) :
    Calls Tryd.prog 6 #[.agg #[.int .i64 S, .int .i64 q, .slice F nf cf, .slice A n c], .agg #[.int .i64 S, .int .i64 q, .slice G nf cg, .slice B n d]] w (Ret (.bool true) w) := by
  have HF := Lib.hid hF
  have HG := Lib.hid hG
  have HA := Lib.hid hA
  have HB := Lib.hid hB
  have E1 := Lib.hid (fun W (h : Below w.heap.size w W) => show Calls Tryd.prog 17 #[.slice F nf cf, .slice G nf cg] W (Ret (.bool true) W) from by
    have h := eqInt64S_any F G nf cf nf cg fin fin W (by unfold maxLen; omega) (by unfold maxLen; omega) (HF.out.next h) (HG.out.next h)
    rw [decide_eq_true rfl] at h
    exact h)
  have E2 := Lib.hid (fun W (h : Below w.heap.size w W) => show Calls Tryd.prog 18 #[.slice A n c, .slice B n d] W (Ret (.bool true) W) from by
    have h := eqTI_any A B n c n d hs gs nx nx W hn hn (HA.out.next h) (HB.out.next h) hz hz
    rw [decide_eq_true rfl] at h
    exact h)
  have B0 := Lib.hid ((Blk.new w 25 #[.int .i64 S, .int .i64 q, .slice F nf cf, .slice A n c]).alloc (.cells #[.int .i64 S, .int .i64 q, .slice G nf cg, .slice B n d] 25))
  have B1 := Lib.hid (show Blk ((w.alloc (.cells #[.int .i64 S, .int .i64 q, .slice F nf cf, .slice A n c] 25)).alloc (.cells #[.int .i64 S, .int .i64 q, .slice G nf cg, .slice B n d] 25)) (w.heap.size + 1) 25 #[.int .i64 S, .int .i64 q, .slice G nf cg, .slice B n d] by
    simpa using Blk.new (w.alloc (.cells #[.int .i64 S, .int .i64 q, .slice F nf cf, .slice A n c] 25)) 25 #[.int .i64 S, .int .i64 q, .slice G nf cg, .slice B n d])
  have b0 := Lib.hid (show Below w.heap.size w ((w.alloc (.cells #[.int .i64 S, .int .i64 q, .slice F nf cf, .slice A n c] 25)).alloc (.cells #[.int .i64 S, .int .i64 q, .slice G nf cg, .slice B n d] 25)) from by (repeat first | exact Below.refl _ _ | assumption | refine Below.drew ?_ | refine Below.alloc ?_ (by first | exact Nat.le_refl _ | (simp; done) | omega | (simp; omega)) _ | refine Below.setCell ?_ (by first | exact Nat.le_refl _ | (simp; done) | omega | (simp; omega)) _))
  obtain ⟨x0, x1, x2, x3⟩ := B0.out.four
  obtain ⟨y0, y1, y2, y3⟩ := B1.out.four
  have xl := B0.out.lt
  have yl := B1.out.lt
  clear hF hG hA hB
  go_enter Tryd.func6, Tryd.ntmps6
  go_wp2_with fail
  refine (E1.out _ b0.out).mono ?_
  rintro e w2 ⟨rfl, hb2⟩
  have b2 := Lib.hid (b0.out.trans (hb2.mono b0.out.size))
  have X2 := Lib.hid (B0.out.next hb2)
  have Y2 := Lib.hid (B1.out.next hb2)
  clear x0 x1 x2 x3 y0 y1 y2 y3 xl yl hb2 B0 B1 b0
  obtain ⟨x0, x1, x2, x3⟩ := X2.out.four
  obtain ⟨y0, y1, y2, y3⟩ := Y2.out.four
  have xl := X2.out.lt
  have yl := Y2.out.lt
  go_wp2_with fail
  refine (E2.out _ b2.out).mono ?_
  rintro e w3 ⟨rfl, hb3⟩
  go_wp2_with fail
  go_ret
  exact ⟨rfl, b2.out.trans (hb3.mono b2.out.size)⟩
/-- a row and a table that lie apart -/
def ApartT (F : Option Addr) (nf cf : Nat) (hs : List RowH) : Prop := ∀ (i : Nat) (p : RowH) (g : Nat), hs[i]? = some p → (Value.slice p.A p.n p.c).ownBlock = some g → (Value.slice F nf cf).ownBlock ≠ some g
set_option maxHeartbeats 1000000 in
theorem markAuto_any (base : Nat) (S q : Int) (F : Option Addr) (nf cf : Nat) (fin : List Int) (A : Option Addr) (n c : Nat) (hs : List RowH) (nx : List (List Int)) (k : Nat) (w : World) (hnf : nf ≤ 1048576) (hn : n ≤ 1048576) (hk : k + nf + sumL nx ≤ 1048576) (hb : base ≤ w.heap.size)
    (hF : w.ownsRow base 2 1 (.slice F nf cf) nf (fin.flatMap intE)) (hA : TabR 22 2 intE w base A n c hs nx) (hd : ApartT F nf cf hs) :
    Calls Tryd.prog 7 #[.agg #[.int .i64 S, .int .i64 q, .slice F nf cf, .slice A n c], .int .i64 (k : Int)] w fun e w' => e = .returned (.int .i64 ((k + nf + sumL nx : Nat) : Int)) ∧
      w'.ownsRow base 2 1 (.slice F nf cf) nf ((marksI k nf).flatMap intE) ∧ TabR 22 2 intE w' base A n c hs (mksI (k + nf) nx) ∧ Below base w w' ∧ (∀ (g : Nat) (t : TypeId) (cs : Array Value), 2 ≠ t → Blk w g t cs → Blk w' g t cs) := by
  have o := Obj.cells #[.int .i64 S, .int .i64 q, .slice F nf cf, .slice A n c] 25
  have B0 := Lib.hid (Blk.new w 25 #[.int .i64 S, .int .i64 q, .slice F nf cf, .slice A n c])
  have b0 := Lib.hid (show Below base w (w.alloc (.cells #[.int .i64 S, .int .i64 q, .slice F nf cf, .slice A n c] 25)) from (Below.refl _ _).alloc hb _)
  have F0 := Lib.hid (hF.alloc (.cells #[.int .i64 S, .int .i64 q, .slice F nf cf, .slice A n c] 25))
  have A0 := Lib.hid (hA.alloc (.cells #[.int .i64 S, .int .i64 q, .slice F nf cf, .slice A n c] 25))
  have HD := Lib.hid hd
  have M1 := Lib.hid (markInt64S_any F nf cf base (fin.flatMap intE) k _ (by omega) (by omega) F0.out)
  obtain ⟨x0, x1, x2, x3⟩ := B0.out.four
  have xl := B0.out.lt
  clear hF hA o hd
  go_enter Tryd.func7, Tryd.ntmps7
  go_wp2_with fail
  refine M1.out.mono ?_
  rintro e w2 ⟨rfl, own2, hg2⟩
  have F2 := Lib.hid own2
  have A2 := Lib.hid (A0.out.kept hg2 (own_ne A0.out.o F0.out (by decide)) (fun i p hp => by
    cases hv : (Value.slice p.A p.n p.c).ownBlock with
    | none => exact .inl rfl
    | some g => exact .inr fun e => HD.out i p g hp hv e.symm))
  have B2 := Lib.hid (B0.out.grown hg2 (own_blk_ne F0.out B0.out (by decide)))
  have b2 := Lib.hid (b0.out.grown hg2 (Nat.le_trans hb b0.out.size) (own_ge F0.out))
  have K2 := Lib.hid (fun (g : Nat) (t : TypeId) (cs : Array Value) (ht : 2 ≠ t) (hB : Blk w g t cs) => (hB.alloc (.cells #[.int .i64 S, .int .i64 q, .slice F nf cf, .slice A n c] 25)).grown hg2 (own_blk_ne F0.out (hB.alloc (.cells #[.int .i64 S, .int .i64 q, .slice F nf cf, .slice A n c] 25)) ht))
  clear own2 hg2 F0 A0 B0 b0 x0 x1 x2 x3 xl
  obtain ⟨x0, x1, x2, x3⟩ := B2.out.four
  have xl := B2.out.lt
  have M2 := Lib.hid (markTI_any base A n c (k + nf) hs nx w2 hn hk A2.out)
  go_wp2_with fail
  refine M2.out.mono ?_
  rintro e w3 ⟨rfl, tab3, fr3⟩
  have F3 := fr3.own F2.out (fun i p g hp hv => HD.out i p g hp hv)
  have b3 := b2.out.trans (fr3.below (Nat.le_trans hb b2.out.size) (fun i p b hp hv => (A2.out.ge i p b hp hv).1))
  go_wp2_with fail
  go_ret
  refine ⟨rfl, F3, tab3, b3, fun g t cs ht hB => fr3.blk (K2.out g t cs ht hB) fun i p b hp hv e => ?_⟩
  subst e
  have hx : nx[i]? = some (nx[i]'(by rw [A2.out.lx, ← A2.out.lg]; exact (List.getElem?_eq_some_iff.1 hp).1)) := List.getElem?_eq_getElem _
  exact own_blk_ne (A2.out.r i p _ hp hx).2 (K2.out g t cs ht hB) ht hv.symm
set_option maxHeartbeats 1000000 in
theorem heldAuto_any (S q : Int) (F : Option Addr) (nf cf : Nat) (A : Option Addr) (n c : Nat) (hs : List RowH) (nx : List (List Int)) (k : Nat) (w : World) (hnf : nf ≤ 1048576) (hn : n ≤ 1048576) (hk : k + nf + sumL nx ≤ 1048576) (hl : nx.length = n)
    (hF : Rd w w.heap.size F nf 1 intE (marksI k nf)) (hA : RdT w w.heap.size A n intE hs (mksI (k + nf) nx)) :
    Calls Tryd.prog 8 #[.agg #[.int .i64 S, .int .i64 q, .slice F nf cf, .slice A n c], .int .i64 (k : Int)] w (Ret (.int .i64 ((k + nf + sumL nx : Nat) : Int)) w) := by
  have HF := Lib.hid hF
  have HA := Lib.hid hA
  have B0 := Lib.hid (Blk.new w 25 #[.int .i64 S, .int .i64 q, .slice F nf cf, .slice A n c])
  have b0 := Lib.hid (show Below w.heap.size w (w.alloc (.cells #[.int .i64 S, .int .i64 q, .slice F nf cf, .slice A n c] 25)) from by (repeat first | exact Below.refl _ _ | assumption | refine Below.drew ?_ | refine Below.alloc ?_ (by first | exact Nat.le_refl _ | (simp; done) | omega | (simp; omega)) _ | refine Below.setCell ?_ (by first | exact Nat.le_refl _ | (simp; done) | omega | (simp; omega)) _))
  have H1 := Lib.hid (heldInt64S_any F nf cf k _ (by omega) (by omega) (HF.out.next b0.out))
  have H2 := Lib.hid (fun W (h : Below w.heap.size w W) => heldTI_any A n c (k + nf) hs nx W hn hk hl (HA.out.next h))
  rw [Int.natCast_add] at H2
  obtain ⟨x0, x1, x2, x3⟩ := B0.out.four
  have xl := B0.out.lt
  have z1 : ¬ ((k : Int) + (nf : Int) < 0) := by omega
  have z2 : ¬ (((k + nf + sumL nx : Nat) : Int) < 0) := by omega
  generalize hT : ((k + nf + sumL nx : Nat) : Int) = T at *
  clear hF hA hT
  go_enter Tryd.func8, Tryd.ntmps8
  go_wp2_with fail
  refine H1.out.mono ?_
  rintro e w2 ⟨rfl, hb2⟩
  have B2 := Lib.hid (B0.out.next hb2)
  have b2 := Lib.hid (b0.out.trans (hb2.mono b0.out.size))
  clear hb2 x0 x1 x2 x3 xl B0 b0
  obtain ⟨x0, x1, x2, x3⟩ := B2.out.four
  have xl := B2.out.lt
  go_wp2_with fail
  refine (H2.out w2 b2.out).mono ?_
  rintro e w3 ⟨rfl, hb3⟩
  go_wp2_with fail
  go_ret
  exact ⟨rfl, b2.out.trans (hb3.mono b2.out.size)⟩
end Go.Proofs.YtcpofhjoblgmgaaDoor
