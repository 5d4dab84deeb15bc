/-
  PairCounts in the program and in the reference.
-/
import Derived.Test.YtlokofafojepdaaPairsS
import Derived.Test.YtlokofafojepdaaTabs
namespace Go.Proofs.Ytlokofafojepdaa
open Go.RowKit

def pairL (rs : List Fac) : List (List Int) := if (gOk rs).isSome = false then [] else (pcAll rs).map fun q => [q.a, q.b, q.c, q.d]
def pairC (rs : List Fac) : Int := if (gOk rs).isSome = false then 1 else 0
theorem pairL1 {rs : List Fac} (h : (gOk rs).isSome = false) : pairL rs = [] ∧ pairC rs = 1 := by unfold pairL pairC; rw [if_pos h, if_pos h]; exact ⟨rfl, rfl⟩
theorem pairL2 {rs : List Fac} (h : (gOk rs).isSome = true) : pairL rs = ((pcAll rs).map fun q => [q.a, q.b, q.c, q.d]) ∧ pairC rs = 0 := by
  unfold pairL pairC; rw [if_neg (by rw [h]; decide), if_neg (by rw [h]; decide)]; exact ⟨rfl, rfl⟩
theorem pairL_len (rs : List Fac) : (pairL rs).length ≤ 4 := by
  unfold pairL
  split
  · simp
  · rw [List.length_map, show (pcAll rs).length = 4 from pcT_len _ _]; omega
theorem tabJ_nil (w : World) (base m : Nat) (A : Option Addr) (c : Nat) (h : w.ownsRow base 25 1 (.slice A 0 c) 0 []) : TabJ w base A 0 c m [] [] :=
  ⟨by simpa using h, rfl, fun i g hg => by simp at hg, fun i hi => absurd hi (by omega), fun i j g hi => by simp at hi⟩
theorem tabJ_of {w : World} {base c : Nat} {A : Option Addr} {gs : List Nat} {qs : List Q4} (hq : qs.length = 4) (h : w.ownsRow base 25 1 (.slice A 4 c) 4 (gs.flatMap encG)) (hp : PTab w base gs qs) : TabJ w base A 4 c 4 gs (qs.map fun q => [q.a, q.b, q.c, q.d]) := by
  have e : ∀ i, i < 4 → (qs.map fun q => [q.a, q.b, q.c, q.d]).getD i [] = [(qs.getD i Q4.nil).a, (qs.getD i Q4.nil).b, (qs.getD i Q4.nil).c, (qs.getD i Q4.nil).d] := fun i hi => by
    have hx : qs[i]? = some (qs[i]'(by omega)) := List.getElem?_eq_getElem _
    rw [List.getD_eq_getElem?_getD, List.getElem?_map, List.getD_eq_getElem?_getD, hx]; rfl
  have hl : gs.length = 4 := hp.1.1.trans hq
  refine ⟨h, hl, fun i g hg => ?_, fun i hi => by rw [e i hi]; rfl, hp.2⟩
  have hi : i < 4 := by rw [← hl]; exact (List.getElem?_eq_some_iff.1 hg).1
  rw [e i hi]
  exact arrI_own (us := [(qs.getD i Q4.nil).a, (qs.getD i Q4.nil).b, (qs.getD i Q4.nil).c, (qs.getD i Q4.nil).d]) (hp.1.2 i g hg).2 (hp.1.2 i g hg).1 (by unfold maxLen; simp)
set_option maxHeartbeats 2000000 in
set_option maxRecDepth 100000 in
theorem implPairC_any (A : Option Addr) (n c : Nat) (rs : List Fac) (w : World) (hn : n ≤ 1048576) (hr : Rd w w.heap.size A n 3 Fac.cells rs) (hok : ∀ f ∈ rs, f.l.size ≤ maxLen) :
    Calls Try.prog 25 #[.agg #[.slice A n c]] w (RetTabC w (pairL rs).length 4 (pairL rs) (pairC rs)) := by
  have hl := Lib.hid hr.len
  have HR := Lib.hid hr; clear hr
  have HO := Lib.hid hok; clear hok
  rcases hg : (gOk rs).isSome with _ | _
  · have e := Lib.hid (pairL1 hg)
    have Hg := Lib.hid hg; clear hg
    go_enter Try.func25, Try.ntmps25
    go_wp2_with fail
    refine namedC fun w0 H0 => ?_
    have hb0 : Below w.heap.size w w0 := by rw [H0.out]; (repeat first | exact Below.refl _ _ | assumption | refine Below.drew ?_ | refine Below.alloc ?_ (by first | exact Nat.le_refl _ | (simp; done) | omega | (simp; omega)) _ | refine Below.setCell ?_ (by first | exact Nat.le_refl _ | (simp; done) | omega | (simp; omega)) _)
    clear H0
    refine (validG_any A n c rs w0 (by omega) (HR.out.next hb0) HO.out false Hg.out).mono ?_
    rintro e1 w1 ⟨rfl, hb1⟩
    go_wp2_with fail
    go_ret2
    rw [e.out.1, e.out.2]
    exact ⟨none, 0, [], rfl, tabJ_nil _ _ _ _ _ ⟨rfl, .inl ⟨rfl, rfl⟩⟩, hb0.trans (hb1.mono hb0.size)⟩
  have HG := Lib.hid hg
  have e := Lib.hid (pairL2 hg)
  obtain ⟨ls, hls⟩ := Option.isSome_iff_exists.1 hg
  have HL := Lib.hid (gOk_lens hls).1
  have Hll := Lib.hid (gOk_lens hls).2.2
  have hn4 : n ≤ 400 := by have := (gOk_lens hls).2.1; have := hl.out; omega
  clear hg hls
  go_enter Try.func25, Try.ntmps25
  go_wp2_with fail
  refine namedC fun w0 H0 => ?_
  have hb0 : Below w.heap.size w w0 := by rw [H0.out]; (repeat first | exact Below.refl _ _ | assumption | refine Below.drew ?_ | refine Below.alloc ?_ (by first | exact Nat.le_refl _ | (simp; done) | omega | (simp; omega)) _ | refine Below.setCell ?_ (by first | exact Nat.le_refl _ | (simp; done) | omega | (simp; omega)) _)
  have G0 := Lib.hid (show Blk w0 w.heap.size 31 #[.slice A n c] by rw [H0.out]; exact Blk.new _ _ _)
  clear H0
  refine (validG_any A n c rs w0 (by omega) (HR.out.next hb0) HO.out true HG.out).mono ?_
  rintro e1 w1 ⟨rfl, hb1⟩
  have b1 := Lib.hid (hb0.trans (hb1.mono hb0.size))
  have G1 := Lib.hid (G0.out.next hb1)
  have cg := G1.out.cell 0
  have lg := G1.out.lt
  clear hb0 hb1 G0
  go_wp2_with fail
  refine (implPairs_any A n c rs ls w1 (by omega) ((HR.out.below b1.out).more b1.out.size) HL.out Hll.out).mono ?_
  rintro e3 w2 ⟨A3, c3, gs, rfl, own3, row3, hb2⟩
  rw [show (pcAll rs).length = 4 from pcT_len _ _] at own3 ⊢
  have T := Lib.hid (tabJ_of (pcT_len _ _) (own3.mono b1.out.size) ⟨⟨row3.1.1, fun i g h => ⟨Nat.le_trans b1.out.size (row3.1.2 i g h).1, (row3.1.2 i g h).2⟩⟩, row3.2⟩)
  have b2 := Lib.hid (b1.out.trans (hb2.mono b1.out.size))
  clear own3 row3 hb2 cg lg
  go_wp2_with fail
  go_ret2
  rw [e.out.1, e.out.2, List.length_map, show (pcAll rs).length = 4 from pcT_len _ _]
  exact ⟨A3, c3, gs, rfl, T.out, b2.out⟩
set_option maxHeartbeats 2000000 in
set_option maxRecDepth 100000 in
theorem specPairC_any (A : Option Addr) (n c : Nat) (rs : List Fac) (w : World) (hn : n ≤ 1048576) (hr : Rd w w.heap.size A n 3 Fac.cells rs) (hok : ∀ f ∈ rs, f.l.size ≤ maxLen) :
    Calls Try.prog 24 #[.agg #[.slice A n c]] w (RetTabC w (pairL rs).length 4 (pairL rs) (pairC rs)) := by
  have hl := Lib.hid hr.len
  have HR := Lib.hid hr; clear hr
  have HO := Lib.hid hok; clear hok
  rcases hg : (gOk rs).isSome with _ | _
  · have e := Lib.hid (pairL1 hg)
    have Hg := Lib.hid hg; clear hg
    go_enter Try.func24, Try.ntmps24
    go_wp2_with fail
    refine namedC fun w0 H0 => ?_
    have hb0 : Below w.heap.size w w0 := by rw [H0.out]; (repeat first | exact Below.refl _ _ | assumption | refine Below.drew ?_ | refine Below.alloc ?_ (by first | exact Nat.le_refl _ | (simp; done) | omega | (simp; omega)) _ | refine Below.setCell ?_ (by first | exact Nat.le_refl _ | (simp; done) | omega | (simp; omega)) _)
    have G0 := Lib.hid (show Blk w0 w.heap.size 31 #[.slice A n c] by rw [H0.out]; exact Blk.new _ _ _)
    clear H0
    refine (l02Ok_any w.heap.size A n c rs w0 G0.out.lt (G0.out.cell 0) (by omega) (HR.out.next hb0) HO.out false Hg.out).mono ?_
    rintro e1 w1 ⟨rfl, hb1⟩
    have b1 := hb0.trans (hb1.mono hb0.size)
    have sz1 := b1.size
    go_wp2_with fail
    go_ret2
    rw [e.out.1, e.out.2]
    refine ⟨some ⟨w1.heap.size, 0, none⟩, 0, [], rfl, tabJ_nil _ _ _ _ _ ?_, by (repeat first | exact Below.refl _ _ | assumption | refine Below.drew ?_ | refine Below.alloc ?_ (by first | exact Nat.le_refl _ | (simp; done) | omega | (simp; omega)) _ | refine Below.setCell ?_ (by first | exact Nat.le_refl _ | (simp; done) | omega | (simp; omega)) _)⟩
    simpa using own_of_blk (base := w.heap.size) (n := 0) (sz := 1) (enc := encG) (xs := []) (Blk.new w1 25 #[]) sz1 rfl rfl (by unfold maxLen; omega) (fun _ _ => rfl) (fun k x hx => by simp at hx)
  have HG := Lib.hid hg
  have e := Lib.hid (pairL2 hg)
  obtain ⟨ls, hls⟩ := Option.isSome_iff_exists.1 hg
  have HL := Lib.hid (gOk_lens hls).1
  have Hll := Lib.hid (gOk_lens hls).2.2
  have hn4 : n ≤ 400 := by have := (gOk_lens hls).2.1; have := hl.out; omega
  clear hg hls
  go_enter Try.func24, Try.ntmps24
  go_wp2_with fail
  refine namedC fun w0 H0 => ?_
  have hb0 : Below w.heap.size w w0 := by rw [H0.out]; (repeat first | exact Below.refl _ _ | assumption | refine Below.drew ?_ | refine Below.alloc ?_ (by first | exact Nat.le_refl _ | (simp; done) | omega | (simp; omega)) _ | refine Below.setCell ?_ (by first | exact Nat.le_refl _ | (simp; done) | omega | (simp; omega)) _)
  have G0 := Lib.hid (show Blk w0 w.heap.size 31 #[.slice A n c] by rw [H0.out]; exact Blk.new _ _ _)
  clear H0
  refine (l02Ok_any w.heap.size A n c rs w0 G0.out.lt (G0.out.cell 0) (by omega) (HR.out.next hb0) HO.out true HG.out).mono ?_
  rintro e1 w1 ⟨rfl, hb1⟩
  have b1 := Lib.hid (hb0.trans (hb1.mono hb0.size))
  have G1 := Lib.hid (G0.out.next hb1)
  clear hb0 hb1 G0
  go_wp2_with fail
  refine (specPairs_any w.heap.size A n c rs ls w1 G1.out.lt (G1.out.cell 0) (by omega) ((HR.out.below b1.out).more b1.out.size) HL.out Hll.out).mono ?_
  rintro e3 w2 ⟨A3, c3, gs, rfl, own3, row3, hb2⟩
  rw [show (pcAll rs).length = 4 from pcT_len _ _] at own3 ⊢
  have T := Lib.hid (tabJ_of (pcT_len _ _) (own3.mono b1.out.size) ⟨⟨row3.1.1, fun i g h => ⟨Nat.le_trans b1.out.size (row3.1.2 i g h).1, (row3.1.2 i g h).2⟩⟩, row3.2⟩)
  have b2 := Lib.hid (b1.out.trans (hb2.mono b1.out.size))
  clear own3 row3 hb2
  go_wp2_with fail
  go_ret2
  rw [e.out.1, e.out.2, List.length_map, show (pcAll rs).length = 4 from pcT_len _ _]
  exact ⟨A3, c3, gs, rfl, T.out, b2.out⟩
end Go.Proofs.Ytlokofafojepdaa
