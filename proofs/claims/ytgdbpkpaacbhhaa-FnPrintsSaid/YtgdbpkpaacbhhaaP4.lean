/-
  Texts of this claim, merged: PairsS Runs WdU CtM InvM PrM CutS CutT Src Drawn Tail Stage Stage3 PlainI.
-/
import Derived.Test.YtgdbpkpaacbhhaaP3
import Derived.Deep.RegionHeld3
import Derived.Laws.BitsLemmas
import Derived.Laws.Bits64
import Derived.StillTail
import Derived.OrdersHeld
import Derived.Deep.RegionHeld
import Derived.Lib.Bytealg


/-
  How often letters come behind letters: in the reference.
-/
namespace Go.Proofs.Ytgdbpkpaacbhhaa
open Go.RowKit

/-- two lists of numbers that grow -/
structure Two (w : World) (A1 : Option Addr) (k1 c1 : Nat) (xs1 : List Int) (A2 : Option Addr) (k2 c2 : Nat) (xs2 : List Int) (w' : World) : Prop where
  hb : Below w.heap.size w w'
  o1 : w'.ownsRow w.heap.size 2 1 (.slice A1 k1 c1) k1 (xs1.flatMap intE)
  o2 : w'.ownsRow w.heap.size 2 1 (.slice A2 k2 c2) k2 (xs2.flatMap intE)
  ne : ∀ p, (Value.slice A1 k1 c1).ownBlock = some p → (Value.slice A2 k2 c2).ownBlock ≠ some p
theorem Two.next {w w1 w2 : World} {A1 A2 : Option Addr} {k1 c1 k2 c2 : Nat} {xs1 xs2 : List Int} (h : Two w A1 k1 c1 xs1 A2 k2 c2 xs2 w1) (hb : Below w1.heap.size w1 w2) : Two w A1 k1 c1 xs1 A2 k2 c2 xs2 w2 :=
  ⟨h.hb.trans (hb.mono h.hb.size), own_next h.o1 hb, own_next h.o2 hb, h.ne⟩
theorem Two.swap {w w1 : World} {A1 A2 : Option Addr} {k1 c1 k2 c2 : Nat} {xs1 xs2 : List Int} (h : Two w A1 k1 c1 xs1 A2 k2 c2 xs2 w1) : Two w A2 k2 c2 xs2 A1 k1 c1 xs1 w1 :=
  ⟨h.hb, h.o2, h.o1, fun p h2 h1 => h.ne p h1 h2⟩
theorem Two.push {w wr w9 : World} {A1 A2 A9 : Option Addr} {k1 c1 k2 c2 c9 : Nat} {xs1 xs2 : List Int} {o : Obj} {v : Int} (h : Two w A1 k1 c1 xs1 A2 k2 c2 xs2 wr)
    (own9 : w9.ownsRow w.heap.size 2 1 (.slice A9 (k1 + 1) c9) (k1 + 1) ((xs1 ++ [v]).flatMap intE))
    (hg9 : (wr.alloc o).grownBy w9 (Value.slice A1 k1 c1).ownBlock)
    (hat9 : (Value.slice A9 (k1 + 1) c9).ownBlock = (Value.slice A1 k1 c1).ownBlock ∨ (Value.slice A9 (k1 + 1) c9).ownBlock = some (wr.alloc o).heap.size) : Two w A9 (k1 + 1) c9 (xs1 ++ [v]) A2 k2 c2 xs2 w9 := by
  have b0 := h.hb.size
  refine ⟨(h.hb.alloc b0 _).grown hg9 (by simp; omega) (own_ge h.o1), own9, (h.o2.alloc _).kept hg9 ?_, fun p hp => ?_⟩
  · cases hv : (Value.slice A2 k2 c2).ownBlock with
    | none => exact .inl rfl
    | some q => exact .inr fun e => h.ne q e.symm hv
  · rcases hat9 with e | e
    · exact h.ne p (e.symm.trans hp)
    · intro e2
      rw [hp] at e
      have := (h.o2.lt p e2).2
      injection e with e
      simp at e
      omega
/-- what 'l05Edges' leaves -/
def RetTwo (w : World) (xs ys : List Int) (e : Ending) (w' : World) : Prop :=
  ∃ A1 c1 A2 c2, e = .returned (.tuple #[.slice A1 xs.length c1, .slice A2 ys.length c2]) ∧ w'.ownsRow w.heap.size 2 1 (.slice A1 xs.length c1) xs.length (xs.flatMap intE) ∧ w'.ownsRow w.heap.size 2 1 (.slice A2 ys.length c2) ys.length (ys.flatMap intE) ∧ Below w.heap.size w w'
/-- the table under way -/
structure PTin (w : World) (A' : Option Addr) (k c' : Nat) (gs : List Nat) (qs : List Q4) (w' : World) : Prop where
  hb : Below w.heap.size w w'
  o : w'.ownsRow w.heap.size 46 1 (.slice A' k c') k (gs.flatMap encG)
  q : PTab w' w.heap.size gs qs
  len : qs.length = k
theorem PTin.next {w w1 w2 : World} {A' : Option Addr} {k c' : Nat} {gs : List Nat} {qs : List Q4} (h : PTin w A' k c' gs qs w1) (hb : Below w1.heap.size w1 w2) : PTin w A' k c' gs qs w2 :=
  ⟨h.hb.trans (hb.mono h.hb.size), own_next h.o hb, h.q.next hb, h.len⟩
theorem PTin.set_ {w w1 : World} {A' : Option Addr} {k c' : Nat} {gs : List Nat} {qs : List Q4} (h : PTin w A' k c' gs qs w1) {i g l : Nat} (hg : gs[i]? = some g) (hl : l < 4) (v : Int) :
    PTin w A' k c' gs (addT qs i l v) (w1.setCell ⟨g, l, none⟩ (.int .i64 ((qs.getD i Q4.nil).at_ l + v))) := by
  have r := h.q.1.2 i g hg
  exact ⟨h.hb.setCell r.1 _, own_row_set h.o r.2 (by decide) _, h.q.set_ hg hl v, by unfold addT; rw [List.length_set]; exact h.len⟩
theorem PTin.push {w wr w9 : World} {A' A9 : Option Addr} {k c' c9 : Nat} {gs : List Nat} {qs : List Q4} {o : Obj} (h : PTin w A' k c' gs qs wr)
    (own9 : w9.ownsRow w.heap.size 46 1 (.slice A9 (k + 1) c9) (k + 1) ((gs ++ [wr.heap.size]).flatMap encG))
    (hg9 : ((wr.alloc (.cells (encQ4 Q4.nil).toArray 2)).alloc o).grownBy w9 (Value.slice A' k c').ownBlock) : PTin w A9 (k + 1) c9 (gs ++ [wr.heap.size]) (qs ++ [Q4.nil]) w9 := by
  have b0 := h.hb.size
  have hs : ((wr.alloc (.cells (encQ4 Q4.nil).toArray 2)).alloc o).heap.size = wr.heap.size + 2 := by simp
  refine ⟨((h.hb.alloc b0 _).alloc (by simp; omega) _).grown hg9 (by rw [hs]; omega) (own_ge h.o), own9, ?_, by rw [List.length_append]; simp [h.len]⟩
  exact PTab.push (w := wr.alloc (.cells (encQ4 Q4.nil).toArray 2)) (base := w.heap.size) (gs := gs) (qs := qs) ⟨⟨h.q.1.1, fun i g hg => ⟨(h.q.1.2 i g hg).1, (h.q.1.2 i g hg).2.alloc _⟩⟩, h.q.2⟩ h.len (h.o.alloc _) (Blk.new wr _ _) b0 h.q.lt o hg9
theorem PTin.ret {w w1 : World} {A' : Option Addr} {c' : Nat} {gs : List Nat} {rs : List Fac} (h : PTin w A' 4 c' gs (pcT rs rs.length) w1) : RetPT w (pcAll rs) (.returned (.slice A' 4 c')) w1 := by
  refine ⟨A', c', gs, ret_slice (pcT_len _ _).symm, ?_, h.q, h.hb⟩
  rw [pcT_len]; exact h.o
theorem own_cell {w : World} {base n c : Nat} {A : Option Addr} {xs : List Int} (h : w.ownsRow base 2 1 (.slice A n c) n (xs.flatMap intE)) (hl : xs.length = n) {i : Nat} (hi : i < n) :
    ∃ g, A = some ⟨g, 0, none⟩ ∧ base ≤ g ∧ g < w.heap.size ∧ w.cell? ⟨g, i, none⟩ = some (.int .i64 (xs.getD i 0)) := by
  obtain ⟨g, cp, hv, h1, h2⟩ := h.form (by omega)
  obtain rfl : A = some ⟨g, 0, none⟩ := by injection hv
  refine ⟨g, rfl, h1, h2, ?_⟩
  have := own_at (sz := 1) (enc := intE) (fun _ _ => rfl) h hl 0 i hi 0 (by omega)
  rw [Nat.mul_one, Nat.add_zero] at this; exact this
end Go.Proofs.Ytgdbpkpaacbhhaa


/-
  The number of runs: in the program and in the reference.
-/
namespace Go.Proofs.Ytgdbpkpaacbhhaa
open Go.RowKit

def offA (qs : List Q4) (k l : Nat) : Int := if k = l then 0 else (qs.getD k Q4.nil).at_ l
def rowOff (qs : List Q4) (k : Nat) : Int := sumTo (offA qs k) 4
def diagA (qs : List Q4) (k : Nat) : Int := (qs.getD k Q4.nil).at_ k
theorem off_diag (qs : List Q4) : sumTo (rowOff qs) 4 + sumTo (diagA qs) 4 = totT qs := by
  simp only [sumTo, rowOff, offA, diagA, totT, Q4.sum, Q4.at_, if_true, show ¬ (0 : Nat) = 1 by omega, show ¬ (0 : Nat) = 2 by omega, show ¬ (0 : Nat) = 3 by omega, show ¬ (1 : Nat) = 0 by omega, show ¬ (1 : Nat) = 2 by omega, show ¬ (1 : Nat) = 3 by omega,
    show ¬ (2 : Nat) = 0 by omega, show ¬ (2 : Nat) = 1 by omega, show ¬ (2 : Nat) = 3 by omega, show ¬ (3 : Nat) = 0 by omega, show ¬ (3 : Nat) = 1 by omega, show ¬ (3 : Nat) = 2 by omega, if_false]
  omega
def runsN (rs : List Fac) : Int := if rs.length = 0 then 0 else 1 + sumTo (rowOff (pcAll rs)) 4
theorem runs_spec {rs : List Fac} {ls : List Int} (hls : gLens rs [] = some ls) (hll : ls.length = rs.length) : lastI ls - sumTo (diagA (pcAll rs)) 4 = runsN rs := by
  unfold runsN
  split
  · rename_i h
    have h1 := List.eq_nil_of_length_eq_zero h
    subst h1
    have h2 := List.eq_nil_of_length_eq_zero hll
    subst h2
    rfl
  · have := off_diag (pcAll rs)
    rw [pc_total hls hll (by omega)] at this
    omega
def runsV (rs : List Fac) : Value := if (gOk rs).isSome = false then tup2 0 1 else tup2 (runsN rs) 0
theorem runsV_form (rs : List Fac) : ∃ b k, runsV rs = .tuple #[.int .i64 b, .int .i64 k] := by
  unfold runsV
  split
  · exact ⟨_, _, rfl⟩
  · exact ⟨_, _, rfl⟩
theorem runsV1 {rs : List Fac} (h : (gOk rs).isSome = false) : runsV rs = tup2 0 1 := by unfold runsV; rw [if_pos h]
theorem runsV2 {rs : List Fac} (h : (gOk rs).isSome = true) : runsV rs = tup2 (runsN rs) 0 := by unfold runsV; rw [if_neg (by rw [h]; decide)]
theorem offA_b {rs : List Fac} {ls : List Int} (hls : gLens rs [] = some ls) (hll : ls.length = rs.length) (hn : rs.length ≤ 400) (k l : Nat) : 0 ≤ ((pcAll rs).getD k Q4.nil).at_ l ∧ ((pcAll rs).getD k Q4.nil).at_ l ≤ 400000000000000000 := by
  have := pcT_bd hls hll rs.length (Nat.le_refl _) k l
  exact ⟨this.1, Int.le_trans this.2 (by omega)⟩
end Go.Proofs.Ytgdbpkpaacbhhaa


/-
  What rules add, each as often as it is met; the pairs of letters of a word.
-/
namespace Go.Proofs.Ytgdbpkpaacbhhaa

theorem sum_one (n a : Nat) (v : Int) (f : Nat → Int) (h : a < n) : sumTo (fun j => (if j = a then v else 0) * f j) n = v * f a := by
  rw [sumTo_upd (g := fun _ => 0) a h (fun j _ hne => by simp [hne]), sumTo_zero (fun _ _ => rfl)]
  simp
theorem use_go {rs : List Fac} (hwf : WF rs) (c dl : Nat → Int) (hp : ∀ (i : Nat) (r : Fac), rs[i]? = some r → r.l.size = 0 → c i = c r.a.toNat + c r.b.toNat + dl i)
    (hl : ∀ (i : Nat) (r : Fac), rs[i]? = some r → r.l.size ≠ 0 → c i = 0 ∧ dl i = 0) (T : Int) :
    ∀ (m : Nat) (us : List Int), m ≤ rs.length → us.length = rs.length → sumTo (fun j => us.getD j 0 * c j) m + (sumTo (fun j => us.getD j 0 * dl j) rs.length - sumTo (fun j => us.getD j 0 * dl j) m) = T →
      sumTo (fun j => (useGo rs m us).getD j 0 * dl j) rs.length = T
  | 0, us, _, _, h => by
    have e1 : sumTo (fun j => us.getD j 0 * c j) 0 = 0 := rfl
    have e2 : sumTo (fun j => us.getD j 0 * dl j) 0 = 0 := rfl
    show sumTo (fun j => us.getD j 0 * dl j) rs.length = T
    omega
  | i + 1, us, hm, hlen, h => by
    have hr : rs[i]? = some rs[i] := List.getElem?_eq_getElem (by omega)
    have e1 : sumTo (fun j => us.getD j 0 * c j) (i + 1) = sumTo (fun j => us.getD j 0 * c j) i + us.getD i 0 * c i := rfl
    have e2 : sumTo (fun j => us.getD j 0 * dl j) (i + 1) = sumTo (fun j => us.getD j 0 * dl j) i + us.getD i 0 * dl i := rfl
    show sumTo (fun j => (useGo rs i (usStep rs us i)).getD j 0 * dl j) rs.length = T
    unfold usStep
    rw [fac_getD hr]
    rcases hwf i _ hr with ⟨h0, a0, a1, b0, b1⟩ | ⟨u, _, hlu, _, _⟩
    · rw [if_pos h0]
      have hc := hp i _ hr h0
      refine use_go hwf c dl hp hl T i _ (by omega) (by rw [usePair_len]; exact hlen) ?_
      have hat := usePair_at (us := us) (a := rs[i].a.toNat) (b := rs[i].b.toNat) (i := i) (by omega) (by omega)
      have s1 : sumTo (fun j => (usePair us rs[i].a.toNat rs[i].b.toNat i).getD j 0 * c j) i = sumTo (fun j => us.getD j 0 * c j) i + us.getD i 0 * c rs[i].a.toNat + us.getD i 0 * c rs[i].b.toNat := by
        rw [sumTo_congr (g := fun j => (us.getD j 0 * c j + (if j = rs[i].a.toNat then us.getD i 0 else 0) * c j) + (if j = rs[i].b.toNat then us.getD i 0 else 0) * c j) (fun j _ => by rw [hat, Int.add_mul, Int.add_mul]), sumTo_add, sumTo_add, sum_one _ _ _ _ (by omega), sum_one _ _ _ _ (by omega)]
      have s2 : sumTo (fun j => (usePair us rs[i].a.toNat rs[i].b.toNat i).getD j 0 * dl j) rs.length - sumTo (fun j => (usePair us rs[i].a.toNat rs[i].b.toNat i).getD j 0 * dl j) i = sumTo (fun j => us.getD j 0 * dl j) rs.length - sumTo (fun j => us.getD j 0 * dl j) i :=
        sumTo_diff (by omega) (fun j h1 h2 => by rw [hat, if_neg (by omega), if_neg (by omega)]; simp)
      have s3 : us.getD i 0 * c i = us.getD i 0 * c rs[i].a.toNat + us.getD i 0 * c rs[i].b.toNat + us.getD i 0 * dl i := by rw [hc, Int.mul_add, Int.mul_add]
      omega
    · have hz : rs[i].l.size ≠ 0 := by rw [hlu]; show (1 : Nat) ≠ 0; omega
      rw [if_neg hz]
      obtain ⟨z1, z2⟩ := hl i _ hr hz
      refine use_go hwf c dl hp hl T i us (by omega) hlen ?_
      rw [z1] at e1
      rw [z2] at e2
      simp only [Int.mul_zero] at e1 e2
      omega
/-- what is added at each rule of a pair, over all places where it is met -/
theorem use_sum {rs : List Fac} (hwf : WF rs) (h0 : 0 < rs.length) (c dl : Nat → Int) (hp : ∀ (i : Nat) (r : Fac), rs[i]? = some r → r.l.size = 0 → c i = c r.a.toNat + c r.b.toNat + dl i)
    (hl : ∀ (i : Nat) (r : Fac), rs[i]? = some r → r.l.size ≠ 0 → c i = 0 ∧ dl i = 0) : sumTo (fun j => (usesOf rs).getD j 0 * dl j) rs.length = c (rs.length - 1) := by
  refine use_go hwf c dl hp hl _ rs.length (us0 rs.length) (Nat.le_refl _) (by simp [us0]) ?_
  have e : sumTo (fun j => (us0 rs.length).getD j 0 * c j) rs.length = c (rs.length - 1) := by
    rw [sumTo_congr (g := fun j => (if j = rs.length - 1 then 1 else 0) * c j) (fun j _ => by rw [use0_at _ _ h0]), sum_one _ _ _ _ (by omega)]
    simp
  omega
/-- how often a letter stands right behind one -/
def adj (k l : Nat) : List Nat → Int
  | [] => 0
  | x :: r => (if x = k ∧ r.head? = some l then 1 else 0) + adj k l r
theorem adj_app (k l : Nat) : ∀ (u v : List Nat), u ≠ [] → adj k l (u ++ v) = adj k l u + adj k l v + if u.getLast? = some k ∧ v.head? = some l then 1 else 0
  | [], _, h => absurd rfl h
  | [x], v, _ => by
    simp only [List.singleton_append, adj, List.head?_nil, List.getLast?_singleton, Option.some.injEq]
    simp; omega
  | x :: y :: r, v, _ => by
    have ih := adj_app k l (y :: r) v (by simp)
    have e : (y :: r ++ v).head? = some y := rfl
    show (if x = k ∧ (y :: r ++ v).head? = some l then 1 else 0) + adj k l (y :: r ++ v) = (if x = k ∧ (y :: r).head? = some l then 1 else 0) + adj k l (y :: r) + adj k l v + _
    rw [ih, e, List.head?_cons, List.getLast?_cons_cons]; omega
theorem edf_word {rs : List Fac} (hwf : WF rs) {k : Nat} (hk : k < rs.length) : (edf rs).getD k 0 = ((((wds rs).getD k []).head?.getD 0 : Nat) : Int) :=
  full_hom (d := (0 : Int)) (F := edF) (G := edGf) hwf (fun u => ((u.head?.getD 0 : Nat) : Int)) (fun k _ => rfl) (fun u v r hu _ _ _ => by
    obtain ⟨x, t, rfl⟩ := List.exists_cons_of_ne_nil hu; rfl) k hk
theorem edl_word {rs : List Fac} (hwf : WF rs) {k : Nat} (hk : k < rs.length) : (edl rs).getD k 0 = ((((wds rs).getD k []).getLast?.getD 0 : Nat) : Int) :=
  full_hom (d := (0 : Int)) (F := edF) (G := edGl) hwf (fun u => ((u.getLast?.getD 0 : Nat) : Int)) (fun k _ => rfl) (fun u v r _ hv _ _ => by
    simp only [edGl]
    rw [List.getLast?_append, List.getLast?_eq_some_getLast hv]; rfl) k hk
theorem Q4.plus_at (q : Q4) {l j : Nat} (hl : l < 4) (hj : j < 4) (v : Int) : (q.plus l v).at_ j = q.at_ j + if j = l then v else 0 := by
  match l, hl, j, hj with
  | 0, _, 0, _ => rfl
  | 0, _, 1, _ => simp [Q4.plus, Q4.at_]
  | 0, _, 2, _ => simp [Q4.plus, Q4.at_]
  | 0, _, 3, _ => simp [Q4.plus, Q4.at_]
  | 1, _, 0, _ => simp [Q4.plus, Q4.at_]
  | 1, _, 1, _ => rfl
  | 1, _, 2, _ => simp [Q4.plus, Q4.at_]
  | 1, _, 3, _ => simp [Q4.plus, Q4.at_]
  | 2, _, 0, _ => simp [Q4.plus, Q4.at_]
  | 2, _, 1, _ => simp [Q4.plus, Q4.at_]
  | 2, _, 2, _ => rfl
  | 2, _, 3, _ => simp [Q4.plus, Q4.at_]
  | 3, _, 0, _ => simp [Q4.plus, Q4.at_]
  | 3, _, 1, _ => simp [Q4.plus, Q4.at_]
  | 3, _, 2, _ => simp [Q4.plus, Q4.at_]
  | 3, _, 3, _ => rfl
theorem addT_at {qs : List Q4} (hq : qs.length = 4) {k l k' l' : Nat} (hk : k < 4) (hl : l < 4) (hl' : l' < 4) (v : Int) : ((addT qs k l v).getD k' Q4.nil).at_ l' = (qs.getD k' Q4.nil).at_ l' + if k' = k ∧ l' = l then v else 0 := by
  unfold addT
  rw [qgetD_set _ _ _ _ (by omega)]
  by_cases h : k' = k
  · rw [if_pos h, Q4.plus_at _ hl hl', h]
    simp
  · rw [if_neg h, if_neg (fun q => h q.1)]; omega
/-- what a pair's rule adds -/
def adD (rs : List Fac) (k l j : Nat) : Int := if (rs.getD j default).l.size = 0 then (if ((wds rs).getD (rs.getD j default).a.toNat []).getLast? = some k ∧ ((wds rs).getD (rs.getD j default).b.toNat []).head? = some l then 1 else 0) else 0
theorem pcT_word {rs : List Fac} (hwf : WF rs) {k l : Nat} (_hk : k < 4) (hl : l < 4) : ∀ i, i ≤ rs.length → ((pcT rs i).getD k Q4.nil).at_ l = sumTo (fun j => (usesOf rs).getD j 0 * adD rs k l j) i
  | 0, _ => by
    have e : sumTo (fun j => (usesOf rs).getD j 0 * adD rs k l j) 0 = 0 := rfl
    rw [e]
    unfold pcT
    match k, _hk with
    | 0, _ => match l, hl with | 0, _ => rfl | 1, _ => rfl | 2, _ => rfl | 3, _ => rfl
    | 1, _ => match l, hl with | 0, _ => rfl | 1, _ => rfl | 2, _ => rfl | 3, _ => rfl
    | 2, _ => match l, hl with | 0, _ => rfl | 1, _ => rfl | 2, _ => rfl | 3, _ => rfl
    | 3, _ => match l, hl with | 0, _ => rfl | 1, _ => rfl | 2, _ => rfl | 3, _ => rfl
  | i + 1, hi => by
    have ih := pcT_word hwf _hk hl i (by omega)
    have hr : rs[i]? = some rs[i] := List.getElem?_eq_getElem (by omega)
    have e : sumTo (fun j => (usesOf rs).getD j 0 * adD rs k l j) (i + 1) = sumTo (fun j => (usesOf rs).getD j 0 * adD rs k l j) i + (usesOf rs).getD i 0 * adD rs k l i := rfl
    rw [e, ← ih]
    rcases hwf i _ hr with ⟨h0, a0, a1, b0, b1⟩ | ⟨u, _, hlu, _, _⟩
    · rw [pcT_pair hr h0]
      unfold adD
      rw [fac_getD hr, if_pos h0]
      have la := edl_word hwf (k := rs[i].a.toNat) (by omega)
      have fb := edf_word hwf (k := rs[i].b.toNat) (by omega)
      obtain ⟨x, t, hx⟩ := List.exists_cons_of_ne_nil (wds_pos hwf (k := rs[i].b.toNat) (by omega))
      have hne := wds_pos hwf (k := rs[i].a.toNat) (by omega)
      have hla := List.getLast?_eq_some_getLast hne
      have b1' := wds_let hwf (k := rs[i].a.toNat) (by omega) _ (List.getLast_mem hne)
      have b2' := wds_let hwf (k := rs[i].b.toNat) (by omega) x (by rw [hx]; simp)
      rw [hla] at la ⊢
      rw [hx] at fb ⊢
      simp only [Option.getD_some, List.head?_cons] at la fb ⊢
      rw [la, fb, Int.toNat_natCast, Int.toNat_natCast, addT_at (pcT_len _ _) b1' b2' hl]
      simp only [Option.some.injEq]
      split
      · rename_i h; rw [if_pos ⟨h.1.symm, h.2.symm⟩]; simp
      · rename_i h; rw [if_neg (fun q => h ⟨q.1.symm, q.2.symm⟩)]; simp
    · have hz : rs[i].l.size ≠ 0 := by rw [hlu]; show (1 : Nat) ≠ 0; omega
      rw [pcT_let hr hz]
      unfold adD
      rw [fac_getD hr, if_neg hz]; simp
/-- the pairs of letters are those of the word -/
theorem pc_word {rs : List Fac} (hwf : WF rs) {k l : Nat} (hk : k < 4) (hl : l < 4) : ((pcAll rs).getD k Q4.nil).at_ l = adj k l (wdN rs) := by
  unfold pcAll
  rw [pcT_word hwf hk hl _ (Nat.le_refl _)]
  unfold wdN
  split
  · rename_i h; subst h; rfl
  · rename_i h
    have h0 : 0 < rs.length := List.length_pos_iff.2 h
    refine use_sum hwf h0 (fun j => adj k l ((wds rs).getD j [])) (adD rs k l) (fun i r hr hz => ?_) (fun i r hr hz => ?_)
    · have hi := (List.getElem?_eq_some_iff.1 hr).1
      rcases hwf i r hr with ⟨_, a0, a1, b0, b1⟩ | ⟨u, _, hlu, _, _⟩
      · unfold adD
        rw [fac_getD hr, if_pos hz]
        rw [show (wds rs).getD i [] = (wds rs).getD r.a.toNat [] ++ (wds rs).getD r.b.toNat [] from full_pair [] wdF wdG hwf hr hz, adj_app k l _ _ (wds_pos hwf (by omega))]
      · rw [hlu] at hz; exact absurd hz (show ¬ (1 : Nat) = 0 by omega)
    · unfold adD
      rw [fac_getD hr, if_neg hz]
      refine ⟨?_, rfl⟩
      rw [show (wds rs).getD i [] = [letN r.l] from full_let [] wdF wdG hr hz]
      simp [adj]
end Go.Proofs.Ytgdbpkpaacbhhaa


/-
  Counts, ranks and selections of letters, inversions and places: what they are for the word.
-/
namespace Go.Proofs.Ytgdbpkpaacbhhaa

def cn (l : Nat) (u : List Nat) : Int := (u.count l : Int)
theorem cn_app (l : Nat) (u v : List Nat) : cn l (u ++ v) = cn l u + cn l v := by simp [cn, List.count_append]
theorem cn_nil (l : Nat) : cn l [] = 0 := rfl
theorem cn_cons (l x : Nat) (u : List Nat) : cn l (x :: u) = (if x = l then 1 else 0) + cn l u := by
  unfold cn
  rw [List.count_cons]
  by_cases h : x = l
  · simp [h]; omega
  · simp [h]
theorem cn_rev (l : Nat) (u : List Nat) : cn l u.reverse = cn l u := by simp [cn]
theorem cn_nn (l : Nat) (u : List Nat) : 0 ≤ cn l u := by unfold cn; omega
theorem cn_le (l : Nat) (u : List Nat) : cn l u ≤ u.length := by unfold cn; exact Int.ofNat_le.2 List.count_le_length
/-- all counts of a word -/
def cq (u : List Nat) : Q4 := ⟨cn 0 u, cn 1 u, cn 2 u, cn 3 u⟩
theorem cq_at (u : List Nat) {l : Nat} (h : l < 4) : (cq u).at_ l = cn l u := by
  match l, h with
  | 0, _ => rfl
  | 1, _ => rfl
  | 2, _ => rfl
  | 3, _ => rfl
theorem cnts_word {rs : List Fac} (hwf : WF rs) {k : Nat} (hk : k < rs.length) : (cnts rs).getD k Q4.nil = cq ((wds rs).getD k []) := by
  refine full_hom (d := Q4.nil) (F := cntF) (G := cntG) hwf cq (fun l hl => ?_) (fun u v r _ _ _ _ => ?_) k hk
  · match l, hl with
    | 0, _ => rfl
    | 1, _ => rfl
    | 2, _ => rfl
    | 3, _ => rfl
  · simp only [cntG, cq, cn_app]
theorem topQ_word {rs : List Fac} (hwf : WF rs) : topQ rs = cq (wdN rs) := by
  unfold topQ wdN
  by_cases h : rs = []
  · subst h; rfl
  · have h0 : rs.length ≠ 0 := fun e => h (List.eq_nil_of_length_eq_zero e)
    rw [if_neg h0, if_neg h, cnts_word hwf (by omega)]
section
variable {rs : List Fac} {ls : List Int}
theorem wds_kids (hwf : WF rs) {r : Nat} {x : Fac} (hx : rs[r]? = some x) (h : ((wds rs).getD r []).length ≠ 1 ∨ x.l.size = 0) :
    x.l.size = 0 ∧ x.a.toNat < r ∧ x.b.toNat < r ∧ (wds rs).getD r [] = (wds rs).getD x.a.toNat [] ++ (wds rs).getD x.b.toNat [] := by
  rcases hwf r x hx with ⟨h0, a0, a1, b0, b1⟩ | ⟨c, hc, hl, _, _⟩
  · exact ⟨h0, by omega, by omega, full_pair [] wdF wdG hwf hx h0⟩
  · exfalso
    have e2 := full_let (d := []) (F := wdF) (G := wdG) hx (by rw [hl]; show (1 : Nat) ≠ 0; omega)
    rcases h with h | h
    · apply h; unfold wds; rw [e2]; rfl
    · rw [hl] at h; exact absurd h (show ¬ (1 : Nat) = 0 by omega)
theorem rk_word (hls : gLens rs [] = some ls) {l : Nat} (hl : l < 4) : ∀ (f r : Nat) (m : Int), r < f → r < rs.length → rk (rkV rs l) ls rs f r m = cn l (((wds rs).getD r []).take m.toNat)
  | 0, _, _, h, _ => by omega
  | f + 1, r, m, _, hr => by
    have hwf := wf_of hls
    have hlen := lens_word hls hr
    rw [rk]
    by_cases h0 : m ≤ 0
    · rw [if_pos h0, show m.toNat = 0 by omega]; rfl
    rw [if_neg h0]
    by_cases h1 : ls.getD r 0 ≤ m
    · rw [if_pos h1, List.take_of_length_le (by omega)]
      unfold rkV
      rw [cnts_word hwf hr, cq_at _ hl]
    rw [if_neg h1]
    have hx : rs[r]? = some (rs[r]'hr) := List.getElem?_eq_getElem _
    rw [hx]
    obtain ⟨h2, ha, hb, e⟩ := wds_kids hwf hx (.inl (by omega))
    show rk (rkV rs l) ls rs f _ m + rk (rkV rs l) ls rs f _ _ = _
    rw [rk_word hls hl f _ m (by omega) (by omega), rk_word hls hl f _ _ (by omega) (by omega), e, List.take_append, cn_app, lens_word hls (by omega)]
    congr 2
    congr 1
    omega
theorem rkT_word (hls : gLens rs [] = some ls) {l : Nat} (hl : l < 4) (m : Int) : rkT (rkV rs l) ls rs m = cn l ((wdN rs).take m.toNat) := by
  unfold rkT
  by_cases h : rs = []
  · subst h; simp [wdN, cn]
  · have h0 : rs.length ≠ 0 := fun e => h (List.eq_nil_of_length_eq_zero e)
    rw [if_neg h0, rk_word hls hl _ _ _ (by omega) (by omega)]
    unfold wdN; rw [if_neg h]
theorem selGo_word (hls : gLens rs [] = some ls) {l : Nat} (hl : l < 4) : ∀ (f r : Nat) (k n : Int), r < f → r < rs.length → 0 ≤ k → k < cn l ((wds rs).getD r []) →
    ∃ j : Nat, selGo (cnts rs) ls rs l f r k n = n + j ∧ ((wds rs).getD r [])[j]? = some l ∧ cn l (((wds rs).getD r []).take j) = k
  | 0, _, _, _, h, _, _, _ => by omega
  | f + 1, r, k, n, _, hr, k0, k1 => by
    have hwf := wf_of hls
    have hx : rs[r]? = some (rs[r]'hr) := List.getElem?_eq_getElem _
    by_cases h0 : (rs[r]'hr).l.size = 0
    · obtain ⟨h2, ha, hb, e⟩ := wds_kids hwf hx (.inr h0)
      rw [selGo_step (by omega) hx h0, cnts_word hwf (by omega), cq_at _ hl, Nat.add_sub_cancel]
      rw [e, cn_app] at k1
      by_cases hlt : k < cn l ((wds rs).getD (rs[r]'hr).a.toNat [])
      · rw [if_pos hlt]
        obtain ⟨j, e1, e2, e3⟩ := selGo_word hls hl f (rs[r]'hr).a.toNat k n (by omega) (by omega) k0 hlt
        have hj := (List.getElem?_eq_some_iff.1 e2).1
        refine ⟨j, e1, ?_, ?_⟩
        · rw [e, List.getElem?_append_left hj]; exact e2
        · rw [e, List.take_append_of_le_length (by omega)]; exact e3
      · rw [if_neg hlt]
        obtain ⟨j, e1, e2, e3⟩ := selGo_word hls hl f (rs[r]'hr).b.toNat (k - cn l ((wds rs).getD (rs[r]'hr).a.toNat [])) (n + ls.getD (rs[r]'hr).a.toNat 0) (by omega) (by omega) (by omega) (by omega)
        have hlw := lens_word hls (show (rs[r]'hr).a.toNat < rs.length by omega)
        refine ⟨((wds rs).getD (rs[r]'hr).a.toNat []).length + j, by rw [e1, hlw]; omega, ?_, ?_⟩
        · rw [e, List.getElem?_append_right (by omega), Nat.add_sub_cancel_left]; exact e2
        · rw [e, List.take_append, List.take_of_length_le (by omega), cn_app, Nat.add_sub_cancel_left, e3]; omega
    · rw [selGo_stop (by omega) hx h0]
      have e2 := full_let (d := []) (F := wdF) (G := wdG) hx h0
      have e3 : (wds rs).getD r [] = [letN (rs[r]'hr).l] := e2
      rw [e3] at k1 ⊢
      rw [cn_cons, cn_nil] at k1
      by_cases hll : letN (rs[r]'hr).l = l
      · refine ⟨0, by omega, by rw [hll]; rfl, ?_⟩
        rw [if_pos hll] at k1
        show cn l [] = k
        rw [cn_nil]; omega
      · rw [if_neg hll] at k1; omega
theorem sel_word (hls : gLens rs [] = some ls) {l : Nat} (hl : l < 4) {k : Int} (k0 : 0 ≤ k) (k1 : k < cn l (wdN rs)) :
    ∃ j : Nat, selGo (cnts rs) ls rs l rs.length (rs.length - 1) k 0 = j ∧ (wdN rs)[j]? = some l ∧ cn l ((wdN rs).take j) = k := by
  by_cases h : rs = []
  · subst h; rw [show wdN [] = [] from rfl, cn_nil] at k1; omega
  · have h0 : 0 < rs.length := List.length_pos_iff.2 h
    have e : wdN rs = (wds rs).getD (rs.length - 1) [] := by unfold wdN; rw [if_neg h]
    rw [e] at k1 ⊢
    obtain ⟨j, e1, e2, e3⟩ := selGo_word hls hl rs.length (rs.length - 1) k 0 (by omega) (by omega) k0 k1
    exact ⟨j, by omega, e2, e3⟩
end
theorem use_goG {rs : List Fac} (hwf : WF rs) (c dl : Nat → Int) (hp : ∀ (i : Nat) (r : Fac), rs[i]? = some r → r.l.size = 0 → c i = c r.a.toNat + c r.b.toNat + dl i)
    (hl : ∀ (i : Nat) (r : Fac), rs[i]? = some r → r.l.size ≠ 0 → c i = dl i) (T : Int) :
    ∀ (m : Nat) (us : List Int), m ≤ rs.length → us.length = rs.length → sumTo (fun j => us.getD j 0 * c j) m + (sumTo (fun j => us.getD j 0 * dl j) rs.length - sumTo (fun j => us.getD j 0 * dl j) m) = T →
      sumTo (fun j => (useGo rs m us).getD j 0 * dl j) rs.length = T
  | 0, us, _, _, h => by
    have e1 : sumTo (fun j => us.getD j 0 * c j) 0 = 0 := rfl
    have e2 : sumTo (fun j => us.getD j 0 * dl j) 0 = 0 := rfl
    show sumTo (fun j => us.getD j 0 * dl j) rs.length = T
    omega
  | i + 1, us, hm, hlen, h => by
    have hr : rs[i]? = some rs[i] := List.getElem?_eq_getElem (by omega)
    have e1 : sumTo (fun j => us.getD j 0 * c j) (i + 1) = sumTo (fun j => us.getD j 0 * c j) i + us.getD i 0 * c i := rfl
    have e2 : sumTo (fun j => us.getD j 0 * dl j) (i + 1) = sumTo (fun j => us.getD j 0 * dl j) i + us.getD i 0 * dl i := rfl
    show sumTo (fun j => (useGo rs i (usStep rs us i)).getD j 0 * dl j) rs.length = T
    unfold usStep
    rw [fac_getD hr]
    rcases hwf i _ hr with ⟨h0, a0, a1, b0, b1⟩ | ⟨u, _, hlu, _, _⟩
    · rw [if_pos h0]
      have hc := hp i _ hr h0
      refine use_goG hwf c dl hp hl T i _ (by omega) (by rw [usePair_len]; exact hlen) ?_
      have hat := usePair_at (us := us) (a := rs[i].a.toNat) (b := rs[i].b.toNat) (i := i) (by omega) (by omega)
      have s1 : sumTo (fun j => (usePair us rs[i].a.toNat rs[i].b.toNat i).getD j 0 * c j) i = sumTo (fun j => us.getD j 0 * c j) i + us.getD i 0 * c rs[i].a.toNat + us.getD i 0 * c rs[i].b.toNat := by
        rw [sumTo_congr (g := fun j => (us.getD j 0 * c j + (if j = rs[i].a.toNat then us.getD i 0 else 0) * c j) + (if j = rs[i].b.toNat then us.getD i 0 else 0) * c j) (fun j _ => by rw [hat, Int.add_mul, Int.add_mul]), sumTo_add, sumTo_add, sum_one _ _ _ _ (by omega), sum_one _ _ _ _ (by omega)]
      have s2 : sumTo (fun j => (usePair us rs[i].a.toNat rs[i].b.toNat i).getD j 0 * dl j) rs.length - sumTo (fun j => (usePair us rs[i].a.toNat rs[i].b.toNat i).getD j 0 * dl j) i = sumTo (fun j => us.getD j 0 * dl j) rs.length - sumTo (fun j => us.getD j 0 * dl j) i :=
        sumTo_diff (by omega) (fun j h1 h2 => by rw [hat, if_neg (by omega), if_neg (by omega)]; simp)
      have s3 : us.getD i 0 * c i = us.getD i 0 * c rs[i].a.toNat + us.getD i 0 * c rs[i].b.toNat + us.getD i 0 * dl i := by rw [hc, Int.mul_add, Int.mul_add]
      omega
    · have hz : rs[i].l.size ≠ 0 := by rw [hlu]; show (1 : Nat) ≠ 0; omega
      rw [if_neg hz]
      have z1 := hl i _ hr hz
      refine use_goG hwf c dl hp hl T i us (by omega) hlen ?_
      rw [z1] at e1
      omega
theorem use_sumG {rs : List Fac} (hwf : WF rs) (h0 : 0 < rs.length) (c dl : Nat → Int) (hp : ∀ (i : Nat) (r : Fac), rs[i]? = some r → r.l.size = 0 → c i = c r.a.toNat + c r.b.toNat + dl i)
    (hl : ∀ (i : Nat) (r : Fac), rs[i]? = some r → r.l.size ≠ 0 → c i = dl i) : sumTo (fun j => (usesOf rs).getD j 0 * dl j) rs.length = c (rs.length - 1) := by
  refine use_goG hwf c dl hp hl _ rs.length (us0 rs.length) (Nat.le_refl _) (by simp [us0]) ?_
  have e : sumTo (fun j => (us0 rs.length).getD j 0 * c j) rs.length = c (rs.length - 1) := by
    rw [sumTo_congr (g := fun j => (if j = rs.length - 1 then 1 else 0) * c j) (fun j _ => by rw [use0_at _ _ h0]), sum_one _ _ _ _ (by omega)]
    simp
  omega
/-- whether a rule is some letter -/
def lcD (rs : List Fac) (l j : Nat) : Int := if (rs.getD j default).l.size = 0 then 0 else if letN (rs.getD j default).l = l then 1 else 0
/-- the counts over the first rules -/
def lcL (rs : List Fac) (i : Nat) : List Int := (List.range 4).map fun l => sumTo (fun j => (usesOf rs).getD j 0 * lcD rs l j) i
theorem lcL_all {rs : List Fac} (hwf : WF rs) : lcL rs rs.length = (List.range 4).map fun l => cn l (wdN rs) := by
  unfold lcL
  refine List.map_congr_left fun l _ => ?_
  unfold wdN
  by_cases h : rs = []
  · subst h; rfl
  · have h0 : 0 < rs.length := List.length_pos_iff.2 h
    rw [if_neg h]
    refine use_sumG hwf h0 (fun j => cn l ((wds rs).getD j [])) (lcD rs l) (fun i r hr hz => ?_) (fun i r hr hz => ?_)
    · unfold lcD
      rw [fac_getD hr, if_pos hz, show (wds rs).getD i [] = (wds rs).getD r.a.toNat [] ++ (wds rs).getD r.b.toNat [] from full_pair [] wdF wdG hwf hr hz, cn_app]; omega
    · unfold lcD
      rw [fac_getD hr, if_neg hz, show (wds rs).getD i [] = [letN r.l] from full_let (d := []) (F := wdF) (G := wdG) hr hz, cn_cons, cn_nil]; omega
end Go.Proofs.Ytgdbpkpaacbhhaa


/-
  Inversions and sums of places: what they are for the word.
-/
namespace Go.Proofs.Ytgdbpkpaacbhhaa

/-- how many are less, how many are greater -/
def ltC (x : Nat) (u : List Nat) : Int := (u.countP (fun y => decide (y < x)) : Int)
def gtC (x : Nat) (u : List Nat) : Int := (u.countP (fun y => decide (x < y)) : Int)
theorem ltC_app (x : Nat) (u v : List Nat) : ltC x (u ++ v) = ltC x u + ltC x v := by simp [ltC]
theorem ltC_cons (x y : Nat) (u : List Nat) : ltC x (y :: u) = (if y < x then 1 else 0) + ltC x u := by
  unfold ltC
  rw [List.countP_cons]
  by_cases h : y < x
  · simp [h]; omega
  · simp [h]
theorem gtC_app (x : Nat) (u v : List Nat) : gtC x (u ++ v) = gtC x u + gtC x v := by simp [gtC]
theorem gtC_cons (x y : Nat) (u : List Nat) : gtC x (y :: u) = (if x < y then 1 else 0) + gtC x u := by
  unfold gtC
  rw [List.countP_cons]
  by_cases h : x < y
  · simp [h]; omega
  · simp [h]
theorem gtC_rev (x : Nat) (u : List Nat) : gtC x u.reverse = gtC x u := by simp [gtC]
/-- the sum of the counts of lesser letters -/
def lsT (q : Q4) (k : Nat) : Nat → Int
  | 0 => 0
  | l + 1 => lsT q k l + (if l < k then q.at_ l else 0)
theorem lsT_add (p q : Q4) (k : Nat) : ∀ l, lsT (cntG p q default) k l = lsT p k l + lsT q k l
  | 0 => rfl
  | l + 1 => by
    unfold lsT
    rw [lsT_add p q k l, cntG_at]
    split <;> omega
theorem ltC_q (x : Nat) (hx : x < 4) : ∀ {v : List Nat}, (∀ y ∈ v, y < 4) → ltC x v = lsT (cq v) x 4
  | [], _ => by
    have : cq [] = Q4.nil := rfl
    rw [this]
    match x, hx with
    | 0, _ => rfl
    | 1, _ => rfl
    | 2, _ => rfl
    | 3, _ => rfl
  | y :: v, h => by
    have e : cq (y :: v) = cntG (cq [y]) (cq v) default := by
      simp only [cq, cntG, cn_cons, cn_nil, Int.add_zero]
    rw [e, lsT_add, ltC_cons, ltC_q x hx (fun z hz => h z (by simp [hz]))]
    have hy : y < 4 := h y (by simp)
    congr 1
    match x, hx, y, hy with
    | 0, _, 0, _ => rfl
    | 0, _, 1, _ => rfl
    | 0, _, 2, _ => rfl
    | 0, _, 3, _ => rfl
    | 1, _, 0, _ => rfl
    | 1, _, 1, _ => rfl
    | 1, _, 2, _ => rfl
    | 1, _, 3, _ => rfl
    | 2, _, 0, _ => rfl
    | 2, _, 1, _ => rfl
    | 2, _, 2, _ => rfl
    | 2, _, 3, _ => rfl
    | 3, _, 0, _ => rfl
    | 3, _, 1, _ => rfl
    | 3, _, 2, _ => rfl
    | 3, _, 3, _ => rfl
/-- inversions between two words -/
def crs (u v : List Nat) : Int := match u with
  | [] => 0
  | x :: r => ltC x v + crs r v
/-- inversions -/
def ivN : List Nat → Int
  | [] => 0
  | x :: r => ltC x r + ivN r
theorem ivN_app : ∀ u v : List Nat, ivN (u ++ v) = ivN u + ivN v + crs u v
  | [], v => by simp [ivN, crs]
  | x :: r, v => by
    show ltC x (r ++ v) + ivN (r ++ v) = ltC x r + ivN r + ivN v + (ltC x v + crs r v)
    rw [ltC_app, ivN_app r v]; omega
theorem crs_one : ∀ (u : List Nat) (x : Nat), crs u [x] = gtC x u
  | [], _ => rfl
  | y :: r, x => by
    show ltC y [x] + crs r [x] = _
    rw [gtC_cons, crs_one r x, ltC_cons]
    show _ + (0 : Int) + _ = _
    omega
theorem ivN_snoc (u : List Nat) (x : Nat) : ivN (u ++ [x]) = ivN u + gtC x u := by
  rw [ivN_app, crs_one]
  have : ivN [x] = 0 := rfl
  omega
theorem ivN_nn : ∀ u : List Nat, 0 ≤ ivN u
  | [] => by simp [ivN]
  | x :: r => by
    have := ivN_nn r
    show 0 ≤ ltC x r + ivN r
    unfold ltC; omega
/-- products of counts -/
def crT (p q : Q4) (k : Nat) : Nat → Int
  | 0 => 0
  | l + 1 => crT p q k l + (if l < k then p.at_ k * q.at_ l else 0)
def crS (p q : Q4) : Nat → Int
  | 0 => 0
  | k + 1 => crS p q k + crT p q k 4
theorem crT_ls (p q : Q4) (k : Nat) : ∀ l, crT p q k l = p.at_ k * lsT q k l
  | 0 => by simp [crT, lsT]
  | l + 1 => by
    unfold crT lsT
    rw [crT_ls p q k l, Int.mul_add]
    split <;> simp
theorem crS_nil (q : Q4) : crS Q4.nil q 4 = 0 := by
  have h : ∀ k, crT Q4.nil q k 4 = 0 := fun k => by
    rw [crT_ls]
    have : Q4.nil.at_ k = 0 := by
      match k with
      | 0 => rfl
      | 1 => rfl
      | 2 => rfl
      | n + 3 => rfl
    rw [this]; simp
  simp [crS, h]
theorem crS_add (p p' q : Q4) : ∀ k, crS (cntG p p' default) q k = crS p q k + crS p' q k
  | 0 => rfl
  | k + 1 => by
    unfold crS
    rw [crS_add p p' q k, crT_ls, crT_ls, crT_ls, cntG_at, Int.add_mul]; omega
theorem crS_one (q : Q4) {x : Nat} (hx : x < 4) : crS (cq [x]) q 4 = lsT q x 4 := by
  have h : ∀ k, crT (cq [x]) q k 4 = (cq [x]).at_ k * lsT q k 4 := fun k => crT_ls _ _ _ _
  simp only [crS, h]
  match x, hx with
  | 0, _ => show (0 : Int) + 1 * _ + 0 * _ + 0 * _ + 0 * _ = _; simp
  | 1, _ => show (0 : Int) + 0 * _ + 1 * _ + 0 * _ + 0 * _ = _; simp
  | 2, _ => show (0 : Int) + 0 * _ + 0 * _ + 1 * _ + 0 * _ = _; simp
  | 3, _ => show (0 : Int) + 0 * _ + 0 * _ + 0 * _ + 1 * _ = _; simp
theorem crs_q : ∀ {u v : List Nat}, (∀ x ∈ u, x < 4) → (∀ x ∈ v, x < 4) → crs u v = crS (cq u) (cq v) 4
  | [], v, _, _ => by
    have : cq [] = Q4.nil := rfl
    rw [this, crS_nil]; rfl
  | x :: r, v, hu, hv => by
    have e : cq (x :: r) = cntG (cq [x]) (cq r) default := by
      simp only [cq, cntG, cn_cons, cn_nil, Int.add_zero]
    show ltC x v + crs r v = _
    rw [e, crS_add, crS_one _ (hu x (by simp)), ltC_q x (hu x (by simp)) hv, crs_q (fun z hz => hu z (by simp [hz])) hv]
/-- the inversions of a word and of its turned word -/
theorem iv_turn : ∀ {u : List Nat}, (∀ x ∈ u, x < 4) → ivN u + ivN u.reverse = crS (cq u) (cq u) 4
  | [], _ => by
    have : cq [] = Q4.nil := rfl
    rw [this, crS_nil]; rfl
  | x :: r, h => by
    have ih := iv_turn (u := r) (fun z hz => h z (by simp [hz]))
    have hx : x < 4 := h x (by simp)
    have hr : ∀ z ∈ r, z < 4 := fun z hz => h z (by simp [hz])
    rw [List.reverse_cons, ivN_snoc, gtC_rev]
    have e : cq (x :: r) = cntG (cq [x]) (cq r) default := by
      simp only [cq, cntG, cn_cons, cn_nil, Int.add_zero]
    have e1 : ∀ k, crT (cntG (cq [x]) (cq r) default) (cntG (cq [x]) (cq r) default) k 4 = ((cq [x]).at_ k + (cq r).at_ k) * (lsT (cq [x]) k 4 + lsT (cq r) k 4) := fun k => by rw [crT_ls, cntG_at, lsT_add]
    have e2 : ∀ k, crT (cq r) (cq r) k 4 = (cq r).at_ k * lsT (cq r) k 4 := fun k => crT_ls _ _ _ _
    have g1 : gtC x r = (cq r).at_ 1 * lsT (cq [x]) 1 4 + (cq r).at_ 2 * lsT (cq [x]) 2 4 + (cq r).at_ 3 * lsT (cq [x]) 3 4 := by
      rw [← crs_one, crs_q hr (fun z hz => by simp at hz; omega)]
      simp only [crS, crT_ls]
      have : lsT (cq [x]) 0 4 = 0 := rfl
      rw [this]; simp
    have l1 : ltC x r = (cq [x]).at_ 0 * lsT (cq r) 0 4 + (cq [x]).at_ 1 * lsT (cq r) 1 4 + (cq [x]).at_ 2 * lsT (cq r) 2 4 + (cq [x]).at_ 3 * lsT (cq r) 3 4 := by
      rw [ltC_q x hx hr, ← crS_one _ hx]
      simp only [crS, crT_ls]; omega
    have z : ∀ k, k < 4 → (cq [x]).at_ k * lsT (cq [x]) k 4 = 0 := fun k hk => by
      match x, hx, k, hk with
      | 0, _, 0, _ => rfl
      | 0, _, 1, _ => rfl
      | 0, _, 2, _ => rfl
      | 0, _, 3, _ => rfl
      | 1, _, 0, _ => rfl
      | 1, _, 1, _ => rfl
      | 1, _, 2, _ => rfl
      | 1, _, 3, _ => rfl
      | 2, _, 0, _ => rfl
      | 2, _, 1, _ => rfl
      | 2, _, 2, _ => rfl
      | 2, _, 3, _ => rfl
      | 3, _, 0, _ => rfl
      | 3, _, 1, _ => rfl
      | 3, _, 2, _ => rfl
      | 3, _, 3, _ => rfl
    have t0 := z 0 (by omega)
    have t1 := z 1 (by omega)
    have t2 := z 2 (by omega)
    have t3 := z 3 (by omega)
    have t4 : lsT (cq [x]) 0 4 = 0 := rfl
    rw [e]
    show ltC x r + ivN r + (ivN r.reverse + gtC x r) = _
    simp only [crS, e1, e2, Int.add_mul, Int.mul_add, t4, Int.mul_zero] at ih ⊢
    omega
/-- the value modulo -/
theorem md_add {a b m : Int} {a' b' : Int} (h1 : a % m = a' % m) (h2 : b % m = b' % m) : (a + b) % m = (a' + b') % m := by
  rw [Int.add_emod, h1, h2, ← Int.add_emod]
theorem md_mul {a b m : Int} {a' b' : Int} (h1 : a % m = a' % m) (h2 : b % m = b' % m) : (a * b) % m = (a' * b') % m := by
  rw [Int.mul_emod, h1, h2, ← Int.mul_emod]
theorem invT_md (p q : Q4) (m : Int) (k : Nat) : ∀ l, invT p q m k l % m = crT p q k l % m
  | 0 => rfl
  | l + 1 => by
    unfold invT crT
    refine md_add (invT_md p q m k l) ?_
    split
    · unfold invP
      rw [Int.emod_emod]
      exact md_mul (Int.emod_emod _ _) (Int.emod_emod _ _)
    · rfl
theorem invS_md (p q : Q4) (m : Int) : ∀ k, invS p q m k % m = crS p q k % m
  | 0 => rfl
  | k + 1 => by
    unfold invS crS
    exact md_add (invS_md p q m k) (invT_md p q m k 4)
section
variable {rs : List Fac} {ls : List Int}
/-- a fold whose value is that of the word, where the rules of a pair are asked for their words -/
theorem full_word {α : Type} {d : α} {F : Nat → α} {G : α → α → Fac → α} (hwf : WF rs) (h : List Nat → α) (hF : ∀ k, k < 4 → F k = h [k])
    (hG : ∀ r : Fac, r.a.toNat < rs.length → r.b.toNat < rs.length → G (h ((wds rs).getD r.a.toNat [])) (h ((wds rs).getD r.b.toNat [])) r = h ((wds rs).getD r.a.toNat [] ++ (wds rs).getD r.b.toNat [])) :
    ∀ k, k < rs.length → (full d F G rs).getD k d = h ((wds rs).getD k []) := by
  intro k
  induction k using Nat.strongRecOn with
  | ind k ih =>
    intro hk
    have hr : rs[k]? = some rs[k] := List.getElem?_eq_getElem hk
    rcases hwf k _ hr with ⟨h0, ha0, ha1, hb0, hb1⟩ | ⟨c, hc, hl, _, _⟩
    · have e1 := full_pair (d := d) (F := F) (G := G) hwf hr h0
      have e2 := full_pair (d := []) (F := wdF) (G := wdG) hwf hr h0
      rw [e1, ih rs[k].a.toNat (by omega) (by omega), ih rs[k].b.toNat (by omega) (by omega), hG _ (by omega) (by omega)]
      unfold wds at *
      rw [e2]; rfl
    · have hz : rs[k].l.size ≠ 0 := by rw [hl]; show (1 : Nat) ≠ 0; omega
      have e1 := full_let (d := d) (F := F) (G := G) hr hz
      have e2 := full_let (d := []) (F := wdF) (G := wdG) hr hz
      have h4 : letN rs[k].l < 4 := by
        rw [hl, letN_one]
        have := letB_num hc
        omega
      rw [e1, hF _ h4]
      unfold wds
      rw [e2]; rfl
theorem inv_word (hwf : WF rs) {m : Int} (hm : 1 ≤ m) {k : Nat} (hk : k < rs.length) : (full 0 plF (invG (cnts rs) m) rs).getD k 0 = ivN ((wds rs).getD k []) % m := by
  refine full_word hwf (fun u => ivN u % m) (fun k _ => ?_) (fun r ha hb => ?_) k hk
  · show (0 : Int) = 0 % m
    simp
  · show (ivN _ % m + ivN _ % m + invS ((cnts rs).getD r.a.toNat Q4.nil) ((cnts rs).getD r.b.toNat Q4.nil) m 4) % m = _
    rw [cnts_word hwf ha, cnts_word hwf hb, ivN_app, crs_q (wds_let hwf ha) (wds_let hwf hb)]
    exact md_add (md_add (Int.emod_emod _ _) (Int.emod_emod _ _)) (invS_md _ _ _ _)
theorem invTop_word (hwf : WF rs) {m : Int} (hm : 1 ≤ m) : topI plF (invG (cnts rs) m) rs = ivN (wdN rs) % m := by
  unfold topI wdN
  by_cases h : rs = []
  · subst h; simp [ivN]
  · have h0 : rs.length ≠ 0 := fun e => h (List.eq_nil_of_length_eq_zero e)
    rw [if_neg h0, if_neg h, inv_word hwf hm (by omega)]
end
/-- the sum of the places of a letter -/
def plN (l : Nat) : List Nat → Int
  | [] => 0
  | _ :: r => plN l r + cn l r
theorem plN_app (l : Nat) : ∀ u v : List Nat, plN l (u ++ v) = plN l u + plN l v + u.length * cn l v
  | [], v => by simp [plN]
  | x :: r, v => by
    show plN l (r ++ v) + cn l (r ++ v) = plN l r + cn l r + plN l v + ((r.length + 1 : Nat) : Int) * cn l v
    rw [plN_app l r v, cn_app, show ((r.length + 1 : Nat) : Int) = (r.length : Int) + 1 by omega, Int.add_mul]; omega
theorem plN_snoc (l x : Nat) (u : List Nat) : plN l (u ++ [x]) = plN l u + if x = l then (u.length : Int) else 0 := by
  rw [plN_app, cn_cons, cn_nil]
  have : plN l [x] = 0 := rfl
  rw [this]
  split <;> simp
theorem plN_nn (l : Nat) : ∀ u : List Nat, 0 ≤ plN l u
  | [] => by simp [plN]
  | x :: r => by have := plN_nn l r; have := cn_nn l r; show 0 ≤ plN l r + cn l r; omega
theorem pl_turn (l : Nat) : ∀ u : List Nat, plN l u + plN l u.reverse = ((u.length : Int) - 1) * cn l u
  | [] => by simp [plN, cn_nil]
  | x :: r => by
    have ih := pl_turn l r
    rw [List.reverse_cons, plN_snoc, List.length_reverse, cn_cons, List.length_cons]
    show plN l r + cn l r + _ = _
    rw [show ((r.length + 1 : Nat) : Int) - 1 = (r.length : Int) by omega, Int.mul_add]
    rw [Int.sub_mul] at ih
    by_cases h : x = l
    · rw [if_pos h, if_pos h]; omega
    · rw [if_neg h, if_neg h]; omega
section
variable {rs : List Fac} {ls : List Int}
theorem pl_word (hls : gLens rs [] = some ls) {l : Nat} (hl : l < 4) {m : Int} (hm : 1 ≤ m) {k : Nat} (hk : k < rs.length) : (full 0 plF (plG ls (cnts rs) l m) rs).getD k 0 = plN l ((wds rs).getD k []) % m := by
  have hwf := wf_of hls
  refine full_word hwf (fun u => plN l u % m) (fun k _ => ?_) (fun r ha hb => ?_) k hk
  · show (0 : Int) = 0 % m
    simp
  · show (plN l _ % m + plN l _ % m + (ls.getD r.a.toNat 0) % m * (((cnts rs).getD r.b.toNat Q4.nil).at_ l % m)) % m = _
    rw [cnts_word hwf hb, cq_at _ hl, lens_word hls ha, plN_app]
    exact md_add (md_add (Int.emod_emod _ _) (Int.emod_emod _ _)) (md_mul (Int.emod_emod _ _) (Int.emod_emod _ _))
theorem plTop_word (hls : gLens rs [] = some ls) {l : Nat} (hl : l < 4) {m : Int} (hm : 1 ≤ m) : topI plF (plG ls (cnts rs) l m) rs = plN l (wdN rs) % m := by
  unfold topI wdN
  by_cases h : rs = []
  · subst h; simp [plN]
  · have h0 : rs.length ≠ 0 := fun e => h (List.eq_nil_of_length_eq_zero e)
    rw [if_neg h0, if_neg h, pl_word hls hl hm (by omega)]
end
end Go.Proofs.Ytgdbpkpaacbhhaa


/-
  Prints: what they are for the word.
-/
namespace Go.Proofs.Ytgdbpkpaacbhhaa

/-- the print of a word -/
def prW (b m : Int) : List Nat → Int
  | [] => 0
  | x :: r => ((x : Int) + 1 + b * prW b m r) % m
theorem prW_in {b m : Int} (h : 1 ≤ m) : ∀ u, 0 ≤ prW b m u ∧ prW b m u < m
  | [] => ⟨Int.le_refl _, by show (0 : Int) < m; omega⟩
  | _ :: _ => emod_in h
theorem prW_app {b m : Int} (h : 1 ≤ m) : ∀ u v, prW b m (u ++ v) = (prW b m u + pw b m u.length * prW b m v) % m
  | [], v => by
    have := prW_in (b := b) h v
    show prW b m v = (0 + 1 % m * prW b m v) % m
    rw [Int.zero_add, emodL, Int.one_mul, emod_id this.1 this.2]
  | x :: r, v => by
    show ((x : Int) + 1 + b * prW b m (r ++ v)) % m = (((x : Int) + 1 + b * prW b m r) % m + pw b m r.length * b % m * prW b m v) % m
    rw [prW_app h r v]
    have e1 : (b * ((prW b m r + pw b m r.length * prW b m v) % m)) % m = (b * prW b m r + pw b m r.length * b * prW b m v) % m := by
      rw [emodR, Int.mul_add, ← Int.mul_assoc, Int.mul_comm b (pw b m r.length)]
    have e2 : (((x : Int) + 1 + b * prW b m r) % m + pw b m r.length * b % m * prW b m v) % m = ((x : Int) + 1 + b * prW b m r + pw b m r.length * b * prW b m v) % m :=
      md_add (Int.emod_emod _ _) (emodL _ _ _)
    rw [e2, Int.add_emod, e1, ← Int.add_emod, Int.add_assoc, Int.add_assoc, Int.add_assoc]
/-- letter by letter, with the power -/
theorem prW_snoc {b m : Int} (h : 1 ≤ m) (u : List Nat) (x : Nat) : prW b m (u ++ [x]) = (prW b m u + ((x : Int) + 1) * pw b m u.length) % m := by
  rw [prW_app h]
  have e : prW b m [x] = ((x : Int) + 1) % m := by show ((x : Int) + 1 + b * 0) % m = _; simp
  rw [e]
  exact md_add rfl (by rw [emodR, Int.mul_comm])
def mkW (b m : Int) (u : List Nat) : Mk := ⟨prW b m u, pw b m u.length⟩
section
variable {rs : List Fac} {ls : List Int} {b m : Int}
theorem mk_word (hls : gLens rs [] = some ls) (hm : 1 ≤ m) (h0 : 0 ≤ b) (h1 : b < m) {k : Nat} (hk : k < rs.length) : (mkAll b m rs).getD k Mk.nil = mkW b m ((wds rs).getD k []) := by
  refine full_word (d := Mk.nil) (F := mkF b m) (G := mkG m) (wf_of hls) (mkW b m) (fun l _ => ?_) (fun r ha hb => ?_) k hk
  · unfold mkF mkW
    have e : prW b m [l] = ((l : Int) + 1) % m := by show ((l : Int) + 1 + b * 0) % m = _; simp
    rw [e, show ([l] : List Nat).length = 1 from rfl, pw_one h0 h1]
  · unfold mkG mkW
    rw [prW_app hm, List.length_append, pw_add b m hm]
theorem partMk_word (hls : gLens rs [] = some ls) (hm : 1 ≤ m) (h0 : 0 ≤ b) (h1 : b < m) : ∀ (l : List Nat) (u : List Nat), (∀ k ∈ l, k < rs.length) → l.foldl (fun s k => mkG m s ((mkAll b m rs).getD k Mk.nil) default) (mkW b m u) = mkW b m (u ++ cat rs l)
  | [], u, _ => by simp [cat]
  | k :: l, u, h => by
    have e : mkG m (mkW b m u) (mkW b m ((wds rs).getD k [])) default = mkW b m (u ++ (wds rs).getD k []) := by
      unfold mkG mkW
      rw [prW_app hm, List.length_append, pw_add b m hm]
    rw [List.foldl_cons, mk_word hls hm h0 h1 (h k (by simp)), e, partMk_word hls hm h0 h1 l _ (fun x hx => h x (by simp [hx])), List.append_assoc]
    rfl
theorem printpV_word (hg : (gOk rs).isSome = true) (hm : 1 ≤ m) (hm2 : m ≤ 1000000000) (h0 : 0 ≤ b) (h1 : b < m) {i j : Int} (hi : 0 ≤ i) (hij : i ≤ j) (hj : j ≤ (wdN rs).length) : printpV rs i j b m = tup2 (prW b m (((wdN rs).take j.toNat).drop i.toNat)) 0 := by
  obtain ⟨ls, hls⟩ := Option.isSome_iff_exists.1 hg
  obtain ⟨hls', hlen, hll⟩ := gOk_lens hls
  have hlast := last_word hls'
  rw [printpV5 hls (by unfold inB; simp; omega) (by unfold inB; simp; omega) (by unfold inB; simp; omega) (by omega)]
  by_cases h : i < j
  · obtain ⟨hp, k1, _⟩ := covT_ok hls' hll hi h (by omega)
    rw [covT_pcs hls' hll hi h (by omega)]
    unfold partMk
    have e := partMk_word hls' hm h0 h1 (covT ls rs i j) [] k1
    rw [List.nil_append, covT_word hls' hll hi h (by omega)] at e
    show tup2 (((covT ls rs i j).foldl (fun s k => mkG m s ((mkAll b m rs).getD k Mk.nil) default) (mkW b m [])).p) 0 = _
    rw [e]; rfl
  · unfold pcsT
    rw [if_neg (fun q => h q.2), List.drop_of_length_le (by rw [List.length_take]; omega)]; rfl
theorem printV_word (hg : (gOk rs).isSome = true) (hm : 1 ≤ m) (hm2 : m ≤ 1000000000) (h0 : 0 ≤ b) (h1 : b < m) : printV rs b m = tup2 (prW b m (wdN rs)) 0 := by
  obtain ⟨ls, hls⟩ := Option.isSome_iff_exists.1 hg
  have hlast := last_word (gOk_lens hls).1
  unfold printV
  rw [hls]
  show printpV rs 0 (lastI ls) b m = _
  rw [printpV_word hg hm hm2 h0 h1 (Int.le_refl _) (by omega) (by omega), hlast, Int.toNat_natCast, List.take_length]; rfl
end
end Go.Proofs.Ytgdbpkpaacbhhaa


/-
  A part of a word in the reference: its cover.
-/
namespace Go.Proofs.Ytgdbpkpaacbhhaa
open Go.RowKit

def covI (ls : List Int) (rs : List Fac) (f r : Nat) (i j : Int) : List Int := (cov ls rs f r i j).map fun (k : Nat) => (k : Int)
theorem covI_len (ls : List Int) (rs : List Fac) (f r : Nat) (i j : Int) : (covI ls rs f r i j).length = (cov ls rs f r i j).length := by unfold covI; simp
/-- a list, behind one that grows -/
def CovPost (base : Nat) (w : World) (ys : List Int) (e : Ending) (w' : World) : Prop :=
  ∃ A c, e = .returned (.slice A ys.length c) ∧ w'.ownsRow base 2 1 (.slice A ys.length c) ys.length (ys.flatMap intE) ∧ Below base w w'
set_option maxHeartbeats 4000000 in
set_option maxRecDepth 100000 in
theorem l02Cover_any (gb : Nat) (A : Option Addr) (n c : Nat) (rs : List Fac) (D : Option Addr) (d : Nat) (ls : List Int) (base : Nat) (hgb : gb < base) (hn : n ≤ 1048576) (hls : gLens rs [] = some ls) :
    ∀ (r f : Nat) (i j : Int) (E : Option Addr) (k e : Nat) (xs : List Int) (w : World), r < f → r < n → base ≤ w.heap.size → w.cell? ⟨gb, 0, none⟩ = some (.slice A n c) → Rd w base A n 3 Fac.cells rs → Rd w base D n 1 intE ls →
      xs.length = k → w.ownsRow base 2 1 (.slice E k e) k (xs.flatMap intE) → k + (cov ls rs f r i j).length ≤ 4000000 → 0 ≤ i → i ≤ 1000000000000000 → j ≤ ls.getD r 0 → -1000000000000000 ≤ j →
      Calls Try.prog 83 #[.pointer (some ⟨gb, 0, none⟩), .slice D n d, .int .i64 (r : Int), .int .i64 i, .int .i64 j, .slice E k e] w (CovPost base w (xs ++ covI ls rs f r i j)) := by
  intro r
  induction r using Nat.strongRecOn with
  | ind r ih =>
    intro f i j E k e xs w hrf hr hbs hc hA hD hxk hown hk hi0 hi1 hj1 hj0
    have IH := Lib.hid ih; clear ih
    have HL := Lib.hid hls
    have hl := Lib.hid hA.len
    have HA := Lib.hid hA
    have HD := Lib.hid hD
    have HO := Lib.hid hown
    have HX := Lib.hid hxk
    have hgw : gb < w.heap.size := by omega
    obtain ⟨p2, o2, rfl, hB2, c2'⟩ := hD.i64 (k := r) hr
    obtain ⟨b, o, x, rfl, hB1, gx, c00, c01, c02⟩ := hA.fac hr
    have lb := lens_bound HL.out (i := r) (by rw [hl.out]; exact hr)
    have Gx := Lib.hid gx
    clear gx hown hA hD
    obtain ⟨lb0, lb1⟩ := lb
    have i1 : (0 : Int) ≤ (r : Int) := by omega
    have i2 : (r : Int) < n := by omega
    by_cases h1 : j ≤ i
    · have e1 := Lib.hid (show xs ++ covI ls rs f r i j = xs by unfold covI; rw [cov_no h1]; simp)
      clear lb0 lb1 hj1 hk
      go_enter Try.func83, Try.ntmps83
      go_wp2_with fail
      go_ret
      refine ⟨E, e, ret_slice (by rw [e1.out, HX.out]), ?_, Below.refl _ _⟩
      rw [e1.out, HX.out]; exact HO.out
    by_cases h2 : i = 0 ∧ j = ls.getD r 0
    · have e0 : cov ls rs f r i j = [r] := cov_one hrf h1 h2
      have e1 := Lib.hid (show xs ++ covI ls rs f r i j = xs ++ [(r : Int)] by unfold covI; rw [e0]; rfl)
      rw [e0] at hk
      simp only [List.length_singleton] at hk
      clear e0
      obtain ⟨h20, h21⟩ := h2
      generalize ls.getD r 0 = lr at *
      subst h20 h21
      go_enter Try.func83, Try.ntmps83
      go_wp2_with
        (at_builtin
         refine wpList_pushG rfl _ _ _ rfl base 2 1 8 elem_int intE E k e xs rfl (HO.out.alloc _) w.heap.size (r : Int) #[.int .i64 (r : Int)] 2 (0, 0) rfl (heap_alloc_new _ _) rfl rfl (by simp [intE, Value.oneCell']) (by omega) (by omega) (by unfold maxLen; omega) (Nat.le_trans hbs (by simp)) ?_
         intro A9 c9 w9 own9 hg9 hat9
         have O9 := Lib.hid own9
         have hb9 := (Below.refl base w).alloc hbs (.cells #[.int .i64 (r : Int)] 2)
         have B9 := Lib.hid (hb9.grown hg9 (Nat.le_trans hbs (by simp)) (fun q hq => (HO.out.lt q hq).1))
         clear hb9
         clear own9)
      go_ret
      refine ⟨A9, c9, ret_slice (by rw [e1.out, List.length_append, HX.out]; rfl), ?_, B9.out⟩
      rw [e1.out, List.length_append, HX.out]; exact O9.out
    · have e0 := cov_go hrf h1 h2 Gx.out
      rcases wf_of HL.out r x Gx.out with ⟨h0, ha0, ha1, hb0', hb1'⟩ | ⟨cc, _, hxl, _⟩
      case inr =>
        exfalso
        have h0 : x.l.size ≠ 0 := by rw [hxl]; show (1 : Nat) ≠ 0; omega
        have := lens_let HL.out Gx.out h0
        apply h2
        omega
      have lp := lens_pair HL.out Gx.out h0
      have lb2 := lens_bound HL.out (i := x.a.toNat) (by rw [hl.out]; omega)
      have lb3 := lens_bound HL.out (i := x.b.toNat) (by rw [hl.out]; omega)
      obtain ⟨p9, o9, hA9, hB9, c9⟩ := HD.out.i64 (k := x.a.toNat) (by omega)
      obtain ⟨rfl, rfl⟩ : p2 = p9 ∧ o2 = o9 := by injection hA9 with hA9; injection hA9 with h1 h2; exact ⟨h1, h2⟩
      have e1 := Lib.hid (show xs ++ covI ls rs f r i j = (xs ++ covI ls rs (f - 1) x.a.toNat i (min j (ls.getD x.a.toNat 0))) ++ covI ls rs (f - 1) x.b.toNat (max (i - ls.getD x.a.toNat 0) 0) (j - ls.getD x.a.toNat 0) by
        unfold covI; rw [e0, List.map_append, List.append_assoc])
      have hk1 : k + (cov ls rs (f - 1) x.a.toNat i (min j (ls.getD x.a.toNat 0))).length ≤ 4000000 := by rw [e0, List.length_append] at hk; omega
      have hk2 : (xs ++ covI ls rs (f - 1) x.a.toNat i (min j (ls.getD x.a.toNat 0))).length + (cov ls rs (f - 1) x.b.toNat (max (i - ls.getD x.a.toNat 0) 0) (j - ls.getD x.a.toNat 0)).length ≤ 4000000 := by
        rw [e0, List.length_append] at hk; rw [List.length_append, covI_len, HX.out]; omega
      have hx0 := Lib.hid (fun (w1 : World) (h : Below w.heap.size w w1) => IH.out x.a.toNat (by omega) (f - 1) i (min j (ls.getD x.a.toNat 0)) E k e xs w1 (by omega) (by omega) (by have := h.size; omega) ((h.cell (p := ⟨gb, 0, none⟩) hgw).trans hc) (HA.out.next' hbs h) (HD.out.next' hbs h) HX.out (own_next HO.out h) hk1 hi0 hi1 (by omega) (by omega))
      rw [show ((x.a.toNat : Nat) : Int) = x.a by omega] at hx0
      have hx1 := Lib.hid (fun (w1 : World) (A5 : Option Addr) (c5 : Nat) (h : Below base w w1) (ho : w1.ownsRow base 2 1 (.slice A5 (xs ++ covI ls rs (f - 1) x.a.toNat i (min j (ls.getD x.a.toNat 0))).length c5) (xs ++ covI ls rs (f - 1) x.a.toNat i (min j (ls.getD x.a.toNat 0))).length ((xs ++ covI ls rs (f - 1) x.a.toNat i (min j (ls.getD x.a.toNat 0))).flatMap intE)) =>
        IH.out x.b.toNat (by omega) (f - 1) (max (i - ls.getD x.a.toNat 0) 0) (j - ls.getD x.a.toNat 0) A5 _ c5 _ w1 (by omega) (by omega) (by have := h.size; omega) ((h.cell (p := ⟨gb, 0, none⟩) hgb).trans hc) (HA.out.below h) (HD.out.below h) rfl ho hk2 (by omega) (by omega) (by omega) (by omega))
      rw [show ((x.b.toNat : Nat) : Int) = x.b by omega] at hx1
      generalize xs ++ covI ls rs (f - 1) x.a.toNat i (min j (ls.getD x.a.toNat 0)) = ys at *
      generalize covI ls rs (f - 1) x.b.toNat (max (i - ls.getD x.a.toNat 0) 0) (j - ls.getD x.a.toNat 0) = zs at *
      generalize ls.getD x.a.toNat 0 = y at *
      have hnot : i = 0 → (j != ls.getD r 0) = true := fun h4 => by simpa using fun h5 => h2 ⟨h4, h5⟩
      generalize ls.getD r 0 = lr at *
      have u1 : IntKind.i64.wrap (i - y) = i - y := IntWalk.i64_in _ (by omega)
      have u2 : IntKind.i64.wrap (j - y) = j - y := IntWalk.i64_in _ (by clear u1; omega)
      have i5 : x.a < (n : Int) := by omega
      by_cases h4 : i = 0
      all_goals
        try have h5 := hnot h4
        try (subst h4; simp only [Int.zero_sub] at hx1 u1)
        try have h6 : ¬ j = lr := by simpa using h5
        clear hnot h2 lp lb2 lb3 lb0 lb1 e0 hk hk1 hk2 IH HA HD HO HX
        go_enter Try.func83, Try.ntmps83
        go_wp2_with fail
        go_region_held3 (fun w' => w'.cell? ⟨b, o + r * 3 + 1, none⟩ = some (.int .i64 x.a))
          (first | exact s2 | exact s1 | exact c01 | go_keep)
          (first
            | (go_at_call 55
               refine (l00Min_any j y w.drew).mono ?_
               rintro e9 w1 ⟨rfl, hb1⟩
               have b1 : Below w.heap.size w w1 := (Below.refl _ _).drew.trans hb1
               have s1 : w1.cell? ⟨b, o + r * 3 + 1, none⟩ = some (.int .i64 x.a) := (b1.cell (p := ⟨b, o + r * 3 + 1, none⟩) (by show b < _; omega)).trans c01)
            | (go_at_call 83
               refine (hx0.out w1 b1).mono ?_
               rintro e9 w2 ⟨A5, c5, rfl, own5, hb5⟩
               have b2 : Below base w w2 := (b1.mono hbs).trans hb5
               have O5 := Lib.hid own5
               have s2 : w2.cell? ⟨b, o + r * 3 + 1, none⟩ = some (.int .i64 x.a) := (b2.cell (p := ⟨b, o + r * 3 + 1, none⟩) hB1).trans c01
               clear own5)
            | fail)
        have hgb2 := (b2.cell (p := ⟨gb, 0, none⟩) hgb).trans hc
        have c92 := (b2.cell (p := ⟨b, o + r * 3 + 2, none⟩) hB1).trans c02
        have z2 := b2.size
        clear c00 c01 c02 c2' c9 hx0 hc b1 hb1 s1 hb5
        go_wp2_with fail
        go_region_held3 (fun w' => w'.cell? ⟨b, o + r * 3 + 2, none⟩ = some (.int .i64 x.b))
          (first | exact s4 | exact s3 | exact c92 | go_keep)
          (first
            | (go_at_call 99
               refine (l00Max_any _ 0 w2.drew).mono ?_
               rintro e9 w3 ⟨rfl, hb3⟩
               have b3 : Below w2.heap.size w2 w3 := (Below.refl _ _).drew.trans hb3
               have s3 : w3.cell? ⟨b, o + r * 3 + 2, none⟩ = some (.int .i64 x.b) := (b3.cell (p := ⟨b, o + r * 3 + 2, none⟩) (by show b < _; omega)).trans c92)
            | (go_at_call 83
               refine (hx1.out w3 A5 c5 (b2.trans (b3.mono (Nat.le_trans hbs z2))) (own_next O5.out b3)).mono ?_
               rintro e9 w4 ⟨A6, c6, rfl, own6, hb6⟩
               have b4 : Below base w w4 := (b2.trans (b3.mono (Nat.le_trans hbs z2))).trans hb6
               have O6 := Lib.hid own6
               have s4 : w4.cell? ⟨b, o + r * 3 + 2, none⟩ = some (.int .i64 x.b) := (hb6.cell (p := ⟨b, o + r * 3 + 2, none⟩) hB1).trans s3
               clear own6)
            | fail)
        go_wp2_with fail
        go_ret
        refine ⟨A6, c6, ret_slice (by rw [e1.out, List.length_append]), ?_, b4⟩
        rw [e1.out]; exact O6.out
end Go.Proofs.Ytgdbpkpaacbhhaa


/-
  A part of a word in the reference: its rules.
-/
namespace Go.Proofs.Ytgdbpkpaacbhhaa
open Go.RowKit

theorem Rd.take {α : Type} {w : World} {B n sz : Nat} {A : Option Addr} {enc : α → List Value} {xs : List α} (h : Rd w B A n sz enc xs) {k : Nat} (hk : k ≤ n) : Rd w B A k sz enc (xs.take k) := by
  refine ⟨by rw [List.length_take, h.1]; omega, fun hp => ?_⟩
  obtain ⟨b, o, hA, hb, hc⟩ := h.2 (by omega)
  refine ⟨b, o, hA, hb, fun i x hx j v hv => hc i x ?_ j v hv⟩
  rw [List.getElem?_take] at hx
  split at hx
  · exact hx
  · cases hx
theorem own_cap {w : World} {base e sz n c : Nat} {A : Option Addr} {xs : List Value} (h : w.ownsRow base e sz (.slice A n c) n xs) : n ≤ c := by
  rcases h.2 with ⟨_, h0⟩ | ⟨g, cap, cur, hv, _, _, hnc, _⟩
  · omega
  · injection hv with _ _ hc; omega
theorem own_more {w : World} {b b' e sz n : Nat} {v : Value} {xs : List Value} (h : w.ownsRow b e sz v n xs) (hb : b' ≤ b) : w.ownsRow b' e sz v n xs := by
  refine ⟨h.1, ?_⟩
  rcases h.2 with hn | ⟨g, cap, cur, hv, hg, r⟩
  · exact .inl hn
  · exact .inr ⟨g, cap, cur, hv, Nat.le_trans hb hg, r⟩
set_option maxHeartbeats 2000000 in
set_option maxRecDepth 100000 in
theorem l02Cut_any (gb : Nat) (A : Option Addr) (n c : Nat) (rs : List Fac) (i j : Int) (ls : List Int) (w : World) (hg : gb < w.heap.size) (hc : w.cell? ⟨gb, 0, none⟩ = some (.slice A n c)) (hr : Rd w w.heap.size A n 3 Fac.cells rs) (hok : ∀ f ∈ rs, f.l.size ≤ maxLen) (hcap : n ≤ c)
    (hgo : gOk rs = some ls) (hi : 0 ≤ i) (hij : i < j) (hj : j ≤ lastI ls) :
    Calls Try.prog 43 #[.pointer (some ⟨gb, 0, none⟩), .int .i64 i, .int .i64 j] w (RetG w (cutL rs (covT ls rs i j))) := by
  have hl := Lib.hid hr.len
  have HR := Lib.hid hr
  have HO := Lib.hid hok
  have HG := Lib.hid hgo
  have HL := Lib.hid (gOk_lens hgo).1
  have hll := Lib.hid (gOk_lens hgo).2.2
  have hn4 : n ≤ 400 := by have := (gOk_lens hgo).2.1; have := hl.out; omega
  obtain ⟨k0, k1, k2, k3, k4⟩ := covT_ok HL.out hll.out hi hij hj
  have K1 := Lib.hid k1
  have hn0 : 0 < n := by have := hl.out; omega
  have hlt := lens_bound HL.out (i := n - 1) (by have := hl.out; omega)
  have hjl : j ≤ ls.getD (n - 1) 0 := by unfold lastI at hj; rw [hll.out, hl.out] at hj; exact hj
  have hcv := Lib.hid (show covI ls rs n (n - 1) i j = (covT ls rs i j).map (fun (k : Nat) => (k : Int)) by unfold covI covT; rw [hl.out])
  have hcl : (cov ls rs n (n - 1) i j).length ≤ 4000000 := by have : (cov ls rs n (n - 1) i j).length = (covT ls rs i j).length := by { unfold covT; rw [hl.out] }; have := hl.out; omega
  have hij' : (i == j) = false := by simp; omega
  have u0 : IntKind.i64.wrap ((n : Int) - 1) = (n : Int) - 1 := IntWalk.i64_in _ (by omega)
  have HCV := Lib.hid (fun (W : World) (A2 : Option Addr) (c2 base : Nat) (h1 : gb < base) (h2 : base ≤ W.heap.size) (h3 : W.cell? ⟨gb, 0, none⟩ = some (.slice A n c)) (h4 : Rd W base A n 3 Fac.cells rs) (h5 : Rd W base A2 n 1 intE ls) (E : Option Addr) (h6 : W.ownsRow base 2 1 (.slice E 0 0) 0 (([] : List Int).flatMap intE)) =>
    l02Cover_any gb A n c rs A2 c2 ls base h1 (by omega) HL.out (n - 1) n i j E 0 0 [] W (by omega) (by omega) h2 h3 h4 h5 rfl h6 (by omega) hi (by omega) hjl (by omega))
  rw [show ((n - 1 : Nat) : Int) = (n : Int) - 1 by omega, hcv.out, List.nil_append] at HCV
  have hb0 : Below w.heap.size w (w.alloc (.cells #[.slice none 0 0] 26)) := by (repeat first | exact Below.refl _ _ | assumption | refine Below.drew ?_ | refine Below.alloc ?_ (by first | exact Nat.le_refl _ | (simp; done) | omega | (simp; omega)) _ | refine Below.setCell ?_ (by first | exact Nat.le_refl _ | (simp; done) | omega | (simp; omega)) _)
  have BX := Lib.hid (Blk.new w 26 #[.slice none 0 0])
  have HC := Lib.hid hc
  generalize covT ls rs i j = cv at *
  clear hr hok hgo hj hjl hlt hcl hc
  go_enter Try.func43, Try.ntmps43
  go_wp2_with fail
  refine (l02Lengths_any gb A n c rs _ (by simp; omega) ((hb0.cell (p := ⟨gb, 0, none⟩) hg).trans HC.out) (by omega) (HR.out.next hb0) HO.out).mono ?_
  rintro e1 w2 ⟨hb2, ⟨ls', A2, c2, hg2, rfl, hown2⟩ | ⟨hg2, _⟩⟩
  case inr => exact absurd (hg2.symm.trans HG.out) (by simp)
  obtain rfl : ls' = ls := Option.some.inj (hg2.symm.trans HG.out)
  have b2 := hb0.trans (hb2.mono hb0.size)
  have B2 := Lib.hid (BX.out.next hb2)
  have r2 := Lib.hid (Rd.of_own (enc := intE) (fun _ _ => rfl) rfl hown2)
  have z2 := b2.size
  have c22 := (b2.cell (p := ⟨gb, 0, none⟩) hg).trans HC.out
  have lg2 : gb < w2.heap.size := by omega
  have hs := hll.out.trans hl.out
  rw [hs] at r2 ⊢
  clear hown2 hg2 hb0 hs
  go_wp2_with fail
  have b23 : Below w2.heap.size w2 (w2.alloc (.cells #[] 2)) := by (repeat first | exact Below.refl _ _ | assumption | refine Below.drew ?_ | refine Below.alloc ?_ (by first | exact Nat.le_refl _ | (simp; done) | omega | (simp; omega)) _ | refine Below.setCell ?_ (by first | exact Nat.le_refl _ | (simp; done) | omega | (simp; omega)) _)
  refine (HCV.out _ A2 c2 w2.heap.size lg2 (by simp) ((b23.cell (p := ⟨gb, 0, none⟩) lg2).trans c22) ((HR.out.next b2).below b23) (r2.out.below b23) _ (by simpa using World.ownsRow_made (base := w2.heap.size) (e := 2) (size := 1) w2 #[] 0 (Nat.le_refl _) (by unfold maxLen; omega) rfl)).mono ?_
  rintro e1 w4 ⟨A4, c4, rfl, own4, hb4⟩
  have b4 := b23.trans (hb4.mono (Nat.le_refl _))
  have z4 := b4.size
  have bb4 := b2.trans (b4.mono z2)
  have O4 := Lib.hid own4
  have r4 := Lib.hid (Rd.of_own (enc := intE) (fun _ _ => rfl) rfl own4)
  have B4 := Lib.hid (B2.out.next b4)
  have hlen : (cv.map fun (k : Nat) => (k : Int)).length = cv.length := by simp
  rw [hlen] at r4 ⊢
  have c24 := (bb4.cell (p := ⟨gb, 0, none⟩) hg).trans HC.out
  have lg4 : gb < w4.heap.size := by omega
  have HR4 := Lib.hid (HR.out.next bb4)
  clear own4 hb4 b23 HCV b2 hb2 c22 b4 r2 O4 lg2 hlen u0
  have q0 : ∀ k, k < cv.length → 0 ≤ cv.getD k 0 ∧ cv.getD k 0 < n := fun k hk => by
    have := K1.out (cv.getD k 0) (by rw [List.getD_eq_getElem?_getD, List.getElem?_eq_getElem hk]; simp)
    have := hl.out
    omega
  have gq : ∀ k, k < cv.length → (cv.map fun (k : Nat) => (k : Int)).getD k 0 = ((cv.getD k 0 : Nat) : Int) := fun k hk => by
    rw [List.getD_eq_getElem?_getD, List.getElem?_map, List.getD_eq_getElem?_getD, List.getElem?_eq_getElem hk]; simp
  obtain ⟨p4, o4, rfl, hB4, c04⟩ := r4.out.i64 (k := 0) k4
  rw [gq 0 k4, Nat.add_zero] at c04
  obtain ⟨q01, q02⟩ := q0 0 k4
  by_cases h1 : cv.length = 1
  · obtain ⟨x, rfl⟩ := List.length_eq_one_iff.1 h1
    simp only [List.getD_cons_zero] at c04 q02
    have e1 := Lib.hid (show cutL rs [x] = rs.take (x + 1) from rfl)
    have ht := Lib.hid (HR4.out.take (k := x + 1) (by omega))
    obtain ⟨b, o, rfl, hb, hnews⟩ := ht.out.news (fun y _ => fac_len y) (by omega)
    have HN := Lib.hid hnews
    have u1 : IntKind.i64.wrap ((x : Int) + 1) = (x : Int) + 1 := IntWalk.i64_in _ (by omega)
    have j0 : (0 : Int) ≤ (x : Int) + 1 := by omega
    have hym : (rs.take (x + 1)).length = x + 1 := by rw [List.length_take, hl.out]; omega
    have j1 : (x : Int) + 1 ≤ (c : Int) := by omega
    have bda := Lib.hid (((Below.refl w4.heap.size w4).alloc (Nat.le_refl _) (.cells #[] 82)).drew)
    have own0' : (w4.alloc (.cells #[] 82)).ownsRow w4.heap.size 82 3 (.slice (some ⟨w4.heap.size, 0, none⟩) 0 0) 0 (([] : List Fac).flatMap Fac.cells) := by
      simpa using World.ownsRow_made (base := w4.heap.size) (e := 82) (size := 3) w4 #[] 0 (by simp) (by unfold maxLen; omega) rfl
    have own0 := Lib.hid own0'.drew
    clear own0'
    have bx4 := B4.out
    have nx : w.heap.size < w4.heap.size := bx4.lt
    clear hnews h1 r4 ht bx4
    go_wp2_with fail
    go_region_law
      (refine step_app (by rfl) _ _ _ (by rfl) w4.heap.size 82 3 32 elem_rule Fac.cells (some ⟨w4.heap.size, 0, none⟩) 0 0 [] (by rfl) own0.out ⟨b, o, none⟩ (x + 1) c (rs.take (x + 1)) (by rfl) hym (by omega) (fun q u hq => (bda.out.cell (p := (⟨b, o, none⟩ : Addr).add q) (by simpa [Addr.add_lit] using hb)).trans (HN.out q u hq)) (fun y _ => fac_len y) (fun y _ => one_fac y) (by omega) (by omega) (by unfold maxLen; omega) (by simp) ?_
       rw [Nat.zero_add, List.nil_append]
       intro A9 c9 w9 own9 hg9
       have O9 := Lib.hid own9
       have B9 := Lib.hid (bda.out.grown hg9 (by simp) (fun k hk => (own0.out.lt k hk).1))
       have X9 := B4.out.next B9.out
       have X9' := Lib.hid X9
       have f9 := X9.frozen
       have d9 := X9.cell 0
       have l9 := X9.lt
       clear own9 X9)
    all_goals
      have X10 := X9'.out.set_ 0 (.slice A9 (x + 1) c9)
      have x10 : (w9.setCell ⟨w.heap.size, 0, none⟩ (.slice A9 (x + 1) c9)).cell? ⟨w.heap.size, 0, none⟩ = some (.slice A9 (x + 1) c9) := by rw [X10.cell 0]; rfl
      go_wp2_with fail
      refine bodyPost_ret (v := .agg #[.slice A9 (x + 1) c9]) (by simp [results, Try.results43, go_sem, x10]) rfl ⟨A9, c9, by rw [e1.out, hym], ?_, ?_⟩
      · rw [e1.out, hym]
        exact own_more (own_kept' O9.out X9'.out (by decide) _) (Nat.le_of_lt nx)
      · exact (bb4.trans (B9.out.mono (Nat.le_of_lt nx))).setCell (Nat.le_refl _) _
  · have c2' : 2 ≤ cv.length := by omega
    have hne : (((cv.length : Nat) : Int) == 1) = false := by simp; omega
    obtain ⟨x0, rest, hcv0⟩ : ∃ x0 rest, cv = x0 :: rest := by
      cases cv with
      | nil => simp at c2'
      | cons x r => exact ⟨x, r, rfl⟩
    obtain ⟨x1, rest1, hcv1⟩ : ∃ x1 r, rest = x1 :: r := by
      cases rest with
      | nil => subst hcv0; simp at c2'
      | cons x r => exact ⟨x, r, rfl⟩
    have e0 : cv.getD 0 0 = x0 := by rw [hcv0]; rfl
    have he := Lib.hid (show cutL rs cv = rs ++ chain n x0 (cv.drop 1) by rw [hcv0, hcv1]; show rs ++ chain rs.length x0 (x1 :: rest1) = _; rw [hl.out]; rfl)
    have HQ := Lib.hid q0
    have GQ := Lib.hid gq
    rw [e0] at c04 q02
    generalize cutL rs cv = target at *
    generalize hL : cv.length = L at *
    have hL4 : L ≤ 800 := by have := hl.out; omega
    clear h1 hcv0 hcv1 e0 q0 gq q01
    have bx4 := B4.out
    have nx : w.heap.size < w4.heap.size := bx4.lt
    clear bx4
    go_wp2_with fail
    refine (l02Own_any gb A n c rs w4 lg4 c24 (by omega) hn0 HR4.out).mono ?_
    rintro e2 w5 ⟨A5, c5, rfl, own5, hb5⟩
    rw [hl.out] at own5 ⊢
    have O5 := Lib.hid own5
    have z5 := hb5.size
    have R5 := Lib.hid (r4.out.below hb5)
    have B5 := Lib.hid (B4.out.below hb5 nx)
    have c05 := (hb5.cell (p := ⟨p4, o4, none⟩) hB4).trans c04
    have l05 : p4 < w5.heap.size := by omega
    clear own5 c04 c24
    go_wp2_with fail
    go_loopw [11, 12] (fun l_ k_ w' => ∃ (k last m : Nat) (A' : Option Addr) (c' : Nat) (cur : List Fac), k_ = .int .i64 k ∧ l_ = .int .i64 last ∧ 1 ≤ k ∧ k ≤ L ∧ Hid (m + 1 = n + k) ∧ Hid (cur.length = m) ∧
        Hid (Blk w' w5.heap.size 26 #[.slice A' m c']) ∧ Hid (w'.ownsRow w4.heap.size 82 3 (.slice A' m c') m (cur.flatMap Fac.cells)) ∧ Hid (Below w4.heap.size w5 w') ∧ Hid (cur ++ chain m last (cv.drop k) = target)) (fun _ k_ _ => L - (intOf k_).toNat)
    case atStart =>
      refine ⟨1, x0, n, A5, c5, rs, rfl, rfl, by omega, by omega, Lib.hid (by omega), hl, Lib.hid ?_, Lib.hid ?_, Lib.hid ?_, Lib.hid he.out.symm⟩
      · exact Blk.new w5 _ _
      · exact O5.out.alloc _
      · exact (Below.refl _ _).alloc z5 _
    case round =>
      obtain ⟨k, last, m, A', c', cur, rfl, rfl, hk1, hkL, hm, hcl, hB, hown, hb, H⟩ := hrel
      have l5 := hB.out.lt
      have fB := hB.out.frozen
      have dB := hB.out.cell 0
      have dB' : wr.cell? ⟨w5.heap.size, 0, none⟩ = some (.slice A' m c') := dB
      clear dB
      by_cases hlt : k < L
      · obtain ⟨p9, o9, hA9, hB9, c9⟩ := (R5.out.below hb.out).i64 (k := k) (by omega)
        obtain ⟨rfl, rfl⟩ : p4 = p9 ∧ o4 = o9 := by injection hA9 with hA9; injection hA9 with h1 h2; exact ⟨h1, h2⟩
        rw [GQ.out k (by omega)] at c9
        have q1 := HQ.out k (by omega)
        have Hd := Lib.hid (show cv.drop k = cv.getD k 0 :: cv.drop (k + 1) by
          rw [List.drop_eq_getElem_cons (by omega)]; congr 1; rw [List.getD_eq_getElem?_getD, List.getElem?_eq_getElem (by omega)]; rfl)
        generalize cv.getD k 0 = x at *
        have i0 : (0 : Int) ≤ (k : Int) := by omega
        have i1 : (k : Int) < (L : Int) := by omega
        have hm2 : (m + 1) * 32 ≤ 140737488355328 := by have := hm.out; omega
        have hm3 : m + 1 ≤ maxLen := by have := hm.out; unfold maxLen; omega
        have BDA := Lib.hid ((hb.out.alloc (Nat.le_trans z5 hb.out.size) (.cells #[.string .empty, .int .i64 (last : Int), .int .i64 (x : Int)] 82)).drew)
        have OW := Lib.hid ((hown.out.alloc (.cells #[.string .empty, .int .i64 (last : Int), .int .i64 (x : Int)] 82)).drew)
        have zz : w4.heap.size ≤ (wr.alloc (.cells #[.string .empty, .int .i64 (last : Int), .int .i64 (x : Int)] 82)).drew.heap.size := Nat.le_trans z5 BDA.out.size
        go_wp2_with fail
        go_region_law
          (refine step_push (by rfl) _ _ _ (by rfl) w4.heap.size 82 3 32 elem_rule Fac.cells A' m c' cur (by rfl) OW.out _ ⟨⟨#[]⟩, (last : Int), (x : Int)⟩ #[.string .empty, .int .i64 (last : Int), .int .i64 (x : Int)] 82 (0, 0) (by rfl) (heap_alloc_new _ _) rfl rfl (one_fac _) (by omega) hm2 hm3 zz ?_
           intro A9 c9 w9 own9 hg9 old9
           have O9 := Lib.hid own9
           have B9 := Lib.hid (BDA.out.grown hg9 zz (fun k hk => (OW.out.lt k hk).1))
           have X9 := ((hB.out.alloc _).drew).grown hg9 (own_blk_ne OW.out ((hB.out.alloc _).drew) (by decide))
           have X9' := Lib.hid X9
           have f9 := X9.frozen
           have d9 := X9.cell 0
           have l9 := X9.lt
           clear own9 X9 old9 hg9)
        all_goals
          have X10 := X9'.out.set_ 0 (.slice A9 (m + 1) c9)
          have B10 := Lib.hid (B9.out.setCell (p := ⟨w5.heap.size, 0, none⟩) z5 (.slice A9 (m + 1) c9))
          have O10 := Lib.hid (own_kept' (i := 0) O9.out X9'.out (by decide) (.slice A9 (m + 1) c9))
          have d10 : (w9.setCell ⟨w5.heap.size, 0, none⟩ (.slice A9 (m + 1) c9)).cell? ⟨w5.heap.size, 0, none⟩ = some (.slice A9 (m + 1) c9) := by rw [X10.cell 0]; rfl
          have l10 := X10.lt
          have X10' := Lib.hid (show Blk (w9.setCell ⟨w5.heap.size, 0, none⟩ (.slice A9 (m + 1) c9)) w5.heap.size 26 #[.slice A9 (m + 1) c9] from X10)
          have um : IntKind.i64.wrap (((m + 1 : Nat) : Int) - 1) = (m : Int) := by rw [IntWalk.i64_in _ (by omega)]; omega
          clear X10 f9 d9 l9 fB dB' l5
          generalize w9.setCell ⟨w5.heap.size, 0, none⟩ (.slice A9 (m + 1) c9) = w10 at *
          go_wp2_with fail
          go_roundw
          case rel =>
            refine ⟨k + 1, m, m + 1, A9, c9, cur ++ [⟨⟨#[]⟩, (last : Int), (x : Int)⟩], by go_num, by go_num, by omega, by omega, Lib.hid (by have := hm.out; omega), Lib.hid (by rw [List.length_append, hcl.out]; rfl), X10', O10, B10, Lib.hid ?_⟩
            rw [← H.out, Hd.out, List.append_assoc]; rfl
          case measure => simp [intOf]; omega
      · have hkL' : k = L := by omega
        have ef := Lib.hid (show cur = target by rw [← H.out, List.drop_of_length_le (by omega)]; simp [chain])
        have Bw := (B5.out.below hb.out (by omega : w.heap.size < w4.heap.size))
        have fw := Bw.frozen
        have dw := Bw.cell 0
        have lw := Bw.lt
        have Bw' := Lib.hid Bw
        have Y := Lib.hid (Bw.set_ 0 (.slice A' m c'))
        have y10 : (wr.setCell ⟨w.heap.size, 0, none⟩ (.slice A' m c')).cell? ⟨w.heap.size, 0, none⟩ = some (.slice A' m c') := by rw [Y.out.cell 0]; rfl
        clear Bw
        go_wp2_with fail
        refine bodyPost_ret (v := .agg #[.slice A' m c']) (by simp [results, Try.results43, go_sem, y10]) rfl ⟨A', c', by rw [← ef.out, hcl.out], ?_, ?_⟩
        · rw [← ef.out, hcl.out]
          exact own_more (own_kept' hown.out Bw'.out (by decide) _) (Nat.le_of_lt nx)
        · exact (bb4.trans ((hb5.trans (hb.out.mono (Nat.le_refl _))).mono (Nat.le_of_lt nx))).setCell (Nat.le_refl _) _
end Go.Proofs.Ytgdbpkpaacbhhaa


/-
  The reader of choices: what it hands back lies within bounds.
-/
namespace Go.Proofs.Ytgdbpkpaacbhhaa
open Go.RowKit

def byteE (b : UInt8) : List Value := [.int .u8 (b.toNat : Int)]
def U64 (z : Int) : Prop := 0 ≤ z ∧ z < 18446744073709551616
/-- block g is a reader that has read at most K bytes -/
def Src (w : World) (g K : Nat) : Prop := ∃ (A : Option Addr) (n c k : Nat) (bs : List UInt8) (z : Int), k ≤ K ∧ n ≤ 4096 ∧ U64 z ∧ Blk w g 109 #[.slice A n c, .int .i64 k, .int .u64 z] ∧ Rd w g A n 1 byteE bs
/-- what a draw below m leaves -/
def Draw (w : World) (g K : Nat) (m : Int) (e : Ending) (w' : World) : Prop := ∃ v : Int, e = .returned (.int .i64 v) ∧ 0 ≤ v ∧ v < m ∧ Src w' g K ∧ w.grownBy w' (some g)
theorem Rd.byte {w : World} {B n : Nat} {A : Option Addr} {xs : List UInt8} {k : Nat} (h : Rd w B A n 1 byteE xs) (hk : k < n) :
    ∃ b o x, A = some ⟨b, o, none⟩ ∧ b < B ∧ xs[k]? = some x ∧ w.cell? ⟨b, o + k, none⟩ = some (.int .u8 (x.toNat : Int)) := by
  obtain ⟨b, o, hA, hb, x, hx, hc⟩ := h.at_ hk
  exact ⟨b, o, x, hA, hb, hx, by simpa using hc 0 _ rfl⟩
theorem Src.keep {w w' : World} {g K : Nat} (h : Src w g K) (hb : w'.heap[g]? = w.heap[g]?) (hr : ∀ p : Addr, p.block < g → w'.cell? p = w.cell? p) : Src w' g K := by
  obtain ⟨A, n, c, k, bs, z, h1, h2, h3, h4, h5⟩ := h
  exact ⟨A, n, c, k, bs, z, h1, h2, h3, hb.trans h4, h5.keep hr⟩

theorem wraps_63 (n : Int) (h₀ : 0 ≤ n) (h₁ : n < 2 ^ 63) : IntKind.u64.wrap n = n := by rw [IntKind.wrap_u64]; omega
theorem and_255 (z : Int) (h0 : 0 ≤ z) (h1 : z < 18446744073709551616) : 0 ≤ wrap64 (bits .and .u64 (z / 1099511627776) 255) ∧ wrap64 (bits .and .u64 (z / 1099511627776) 255) < 256 := by
  have h := bits_mask .u64 63 (by decide) wraps_63 8 (by decide) (z / 1099511627776) (by omega) (by omega)
  have e : ((2 : Int) ^ 8 - 1) = 255 := by decide
  have e2 : ((2 : Int) ^ 8) = 256 := by decide
  rw [e, e2] at h
  rw [h, IntWalk.wrap64_in _ (by omega)]
  omega
theorem u64_of (z : Int) : U64 (IntKind.u64.wrap z) := by
  unfold U64; rw [IntKind.wrap_u64]; omega
set_option maxHeartbeats 1000000 in
theorem next_any (g K : Nat) (w : World) (h : Src w g K) (hK : K ≤ 1000000000) :
    Calls Try.prog 81 #[.pointer (some ⟨g, 0, none⟩)] w (Draw w g (K + 1) 256) := by
  obtain ⟨A, n, c, k, bs, z, hk, hn, hz, hB, hr⟩ := h
  have hg := hB.lt
  obtain ⟨c0, c1, c2⟩ := hB.three
  have hup := upc w.heap.size w
  by_cases hlt : k < n
  · obtain ⟨b, o, x, rfl, hb, gx, cx⟩ := hr.byte hlt
    have hxx : (x.toNat : Int) < 256 := by have := x.toNat_lt; omega
    have i1 : (0 : Int) ≤ k := by omega
    have i2 : (k : Int) < n := by omega
    have i3 : (k : Int) + 1 ≤ n := by omega
    go_enter Try.func81, Try.ntmps81
    go_wp2_with fail
    refine wp_region_up w.heap.size (by kernel_rfl) (by kernel_rfl) ?_
    repeat (go_big_quiet_step (fail))
    refine wpQuiet_nil ?_
    intro w2 hup_w2
    have hb2 := up_of hup_w2
    have hB2 := hB.next hb2
    have hg2 := hB2.lt
    have hbb2 : b < w2.heap.size := by omega
    obtain ⟨d0, d1, d2⟩ := hB2.three
    have hu2 := upc w2.heap.size w2
    have cx2 := (hb2.cell (p := ⟨b, o + k, none⟩) (by show b < _; omega)).trans cx
    go_wp2_with fail
    refine wp_region_up w2.heap.size (by kernel_rfl) (by kernel_rfl) ?_
    repeat (go_big_quiet_step (fail))
    refine wpQuiet_nil ?_
    intro w3 hup_w3
    have hb3 := up_of hup_w3
    have hB3 := hB2.next hb3
    have hg3 := hB3.lt
    obtain ⟨e0, e1, e2⟩ := hB3.three
    have f3 := hB3.frozen
    go_wp2_with fail
    refine named fun w4 H4 => ?_
    obtain ⟨z', hz', hB4⟩ : ∃ z', U64 z' ∧ Blk w4 g 109 #[.slice (some ⟨b, o, none⟩) n c, .int .i64 ((k + 1 : Nat) : Int), .int .u64 z'] := by
      rw [H4.out]; exact ⟨_, u64_of _, (hB3.set_ 1 _).set_ 2 _⟩
    have hg4 := hB4.lt
    obtain ⟨x0, x1, x2⟩ := hB4.three
    have hu4 := upc w4.heap.size w4
    have hz0 := hz'.1; have hz1 := hz'.2
    clear hu2 hup
    refine wp_region_up w4.heap.size (by kernel_rfl) (by kernel_rfl) ?_
    repeat (go_big_quiet_step (fail))
    refine wpQuiet_nil ?_
    intro w5 hup_w5
    have hb5 := up_of hup_w5
    go_wp2_with fail
    go_ret
    refine ⟨_, rfl, by omega, hxx, ⟨_, n, c, k + 1, bs, z', by omega, hn, hz', hB4.next hb5, ?_⟩, ?_⟩
    · have g4 : w3.grownBy w4 (some g) := by rw [H4.out]; exact gb_setCell (gb_set _ _ _ _) _ _
      exact ((((hr.keep fun p hp => hb2.cell (by omega)).keep fun p hp => hb3.cell (by omega)).grown (by omega) g4 (fun k e => by injection e; omega)).keep fun p hp => hb5.cell (by omega))
    · have g4 : w3.grownBy w4 (some g) := by rw [H4.out]; exact gb_setCell (gb_set _ _ _ _) _ _
      exact gb_next (gb_trans (gb_next (gb_below hb2) hb3) g4) hb5
  · have i2 : (n : Int) ≤ k := by omega
    go_enter Try.func81, Try.ntmps81
    go_wp2_with fail
    refine wp_region_up w.heap.size (by kernel_rfl) (by kernel_rfl) ?_
    repeat (go_big_quiet_step (fail))
    refine wpQuiet_nil ?_
    intro w3 hup_w3
    have hb3 := up_of hup_w3
    have hB3 := hB.next hb3
    have hg3 := hB3.lt
    obtain ⟨e0, e1, e2⟩ := hB3.three
    have f3 := hB3.frozen
    go_wp2_with fail
    refine named fun w4 H4 => ?_
    obtain ⟨z', hz', hB4⟩ : ∃ z', U64 z' ∧ Blk w4 g 109 #[.slice A n c, .int .i64 ((k + 1 : Nat) : Int), .int .u64 z'] := by
      rw [H4.out]; exact ⟨_, u64_of _, (hB3.set_ 1 _).set_ 2 _⟩
    have hg4 := hB4.lt
    obtain ⟨x0, x1, x2⟩ := hB4.three
    have hu4 := upc w4.heap.size w4
    have hz0 := hz'.1; have hz1 := hz'.2
    clear hup
    refine wp_region_up w4.heap.size (by kernel_rfl) (by kernel_rfl) ?_
    repeat (go_big_quiet_step (fail))
    refine wpQuiet_nil ?_
    intro w5 hup_w5
    have hb5 := up_of hup_w5
    have hB5 := hB4.next hb5
    obtain ⟨y0, y1, y2⟩ := hB5.three
    go_wp2_with fail
    go_ret
    have hand := and_255 z' hz0 hz1
    have g4 : w3.grownBy w4 (some g) := by rw [H4.out]; exact gb_setCell (gb_set _ _ _ _) _ _
    exact ⟨_, rfl, hand.1, hand.2, ⟨_, n, c, k + 1, bs, z', by omega, hn, hz', hB5,
      (((hr.keep fun p hp => hb3.cell (by omega)).grown (by omega) g4 (fun k e => by injection e; omega)).keep fun p hp => hb5.cell (by omega))⟩, gb_next (gb_trans (gb_below hb3) g4) hb5⟩
theorem Src.mono {w : World} {g K K' : Nat} (h : Src w g K) (hK : K ≤ K') : Src w g K' := by
  obtain ⟨A, n, c, k, bs, z, h1, h2⟩ := h
  exact ⟨A, n, c, k, bs, z, by omega, h2⟩
theorem Src.next {w w' : World} {g K : Nat} (h : Src w g K) (hb : Below w.heap.size w w') : Src w' g K := by
  obtain ⟨A, n, c, k, bs, z, h1, h2, h3, h4, h5⟩ := h
  have := h4.lt
  exact ⟨A, n, c, k, bs, z, h1, h2, h3, h4.next hb, h5.keep fun p hp => hb.cell (by omega)⟩
theorem Src.lt {w : World} {g K : Nat} (h : Src w g K) : g < w.heap.size := by
  obtain ⟨A, n, c, k, bs, z, h1, h2, h3, h4, h5⟩ := h
  exact h4.lt
/-- a write to another block that lies behind -/
theorem Src.grown {w w' : World} {g K : Nat} {r : Option Nat} (h : Src w g K) (hg : w.grownBy w' r) (hr : ∀ k, r = some k → g < k) : Src w' g K := by
  obtain ⟨A, n, c, k, bs, z, h1, h2, h3, h4, h5⟩ := h
  have := h4.lt
  exact ⟨A, n, c, k, bs, z, h1, h2, h3, h4.grown hg (fun e => by have := hr _ e.symm; omega), h5.grown (by omega) hg (fun k e => by have := hr _ e; omega)⟩

set_option maxHeartbeats 400000 in
theorem pick_any (g K : Nat) (n m : Int) (w : World) (h : Src w g K) (hK : K ≤ 100000000) (hn : n ≤ m) (hm : 1 ≤ m) :
    Calls Try.prog 36 #[.pointer (some ⟨g, 0, none⟩), .int .i64 n] w (Draw w g (K + 2) m) := by
  by_cases h1 : n ≤ 1
  · go_enter Try.func36, Try.ntmps36
    go_wp2_with fail
    go_ret
    exact ⟨0, rfl, by omega, by omega, h.mono (by omega), World.grownBy.refl _ _⟩
  by_cases h2 : n ≤ 200
  · go_enter Try.func36, Try.ntmps36
    go_wp2_with fail
    refine (next_any g K _ h (by omega)).mono ?_
    rintro e w1 ⟨v, rfl, v0, v1, s1, g1⟩
    go_wp2_with fail
    go_ret
    exact ⟨_, rfl, Int.emod_nonneg _ (by omega), by have := Int.emod_lt_of_pos v (show 0 < n by omega); omega, s1.mono (by omega), g1⟩
  · go_enter Try.func36, Try.ntmps36
    go_wp2_with fail
    refine (next_any g K _ h (by omega)).mono ?_
    rintro e w1 ⟨v, rfl, v0, v1, s1, g1⟩
    go_wp2_with fail
    refine (next_any g (K + 1) _ s1 (by omega)).mono ?_
    rintro e w2 ⟨v', rfl, v0', v1', s2, g2⟩
    go_wp2_with fail
    go_ret
    exact ⟨_, rfl, Int.emod_nonneg _ (by omega), by have := Int.emod_lt_of_pos (v * 256 + v') (show 0 < n by omega); omega, s2, gb_trans g1 g2⟩
def DrawB (w : World) (g K : Nat) (e : Ending) (w' : World) : Prop := ∃ b : Bool, e = .returned (.bool b) ∧ Src w' g K ∧ w.grownBy w' (some g)
theorem one_any (g K : Nat) (n : Int) (w : World) (h : Src w g K) (hK : K ≤ 100000000) (hn : n ≤ 1000) :
    Calls Try.prog 58 #[.pointer (some ⟨g, 0, none⟩), .int .i64 n] w (DrawB w g (K + 2)) := by
  go_enter Try.func58, Try.ntmps58
  go_wp2_with fail
  refine (pick_any g K n 1000 _ h hK hn (by omega)).mono ?_
  rintro e w1 ⟨v, rfl, v0, v1, s1, g1⟩
  go_wp2_with fail
  go_ret
  exact ⟨_, rfl, s1, g1⟩
end Go.Proofs.Ytgdbpkpaacbhhaa


/-
  The draw of a plain word: its letters are right, and it is not too long.
-/
namespace Go.Proofs.Ytgdbpkpaacbhhaa
open Go.RowKit

theorem elem_byte : Elem Try.prog 22 5 1 1 := Elem.mk' (z := .int .u8 0) Try.underlying22 (by kernel_rfl) rfl
/-- what the draw of a word leaves -/
def StrDraw (w : World) (g K : Nat) (most : Int) (e : Ending) (w' : World) : Prop :=
  ∃ s : ByteArray, e = .returned (.string s) ∧ (s.size : Int) ≤ most ∧ s.data.toList.all letB = true ∧ Src w' g K ∧ w.grownBy w' (some g)
theorem byteE_of {v : Int} (h0 : 0 ≤ v) (h1 : v < 4) : #[Value.int .u8 (97 + v)].toList = byteE (UInt8.ofNat (97 + v.toNat)) ∧ letB (UInt8.ofNat (97 + v.toNat)) = true := by
  obtain ⟨j, rfl⟩ := Int.eq_ofNat_of_zero_le h0
  have e : (UInt8.ofNat (97 + j)).toNat = 97 + j := by rw [UInt8.toNat_ofNat']; omega
  constructor
  · simp only [byteE, Int.toNat_natCast, e]; simp
  · simp only [letB, Int.toNat_natCast, e]; simp; omega

theorem conv_own {w : World} {base n c : Nat} {A : Option Addr} {bs : List UInt8} (h : w.ownsRow base 5 1 (.slice A n c) n (bs.flatMap byteE)) (hl : bs.length = n) :
    (convert 22 9 (.slice A n c)).run Try.prog w = .ok (.string ⟨bs.toArray⟩) w := by
  subst hl
  cases A with
  | some a =>
    refine run_convert_bytes_back (P := Try.prog) w _ _ 5 a c bs Try.underlying22 Try.underlying5 Try.underlying9 fun j hj => ?_
    obtain ⟨g, cap, hv, _, _⟩ := h.form (by omega)
    obtain rfl := Option.some.inj (show some a = some ⟨g, 0, none⟩ from by injection hv)
    have := h.cells (g := g) rfl j _ (by
      have := flat_at (enc := byteE) (sz := 1) bs (fun _ _ => rfl) j _ (List.getElem?_eq_getElem hj) 0 (by omega)
      rw [Nat.mul_one, Nat.add_zero] at this
      rw [this]; rfl)
    simpa using this
  | none =>
    rcases h.2 with ⟨h1, h2⟩ | ⟨g, cap, cur, hv, _⟩
    · obtain rfl : bs = [] := List.eq_nil_of_length_eq_zero (by omega)
      rw [run_convert_bytes_string w _ _ 5 none _ c Try.underlying22 Try.underlying5 Try.underlying9]
      simp [Conv.bytesToString, go_sem]
      rfl
    · cases hv
theorem ext_let {s : ByteArray} (h : s.data.toList.all letB = true) (i j : Nat) : (s.extract i j).data.toList.all letB = true := by
  rw [ByteArray.data_extract, Array.toList_extract]
  rw [List.all_eq_true] at *
  intro x hx
  exact h x (List.mem_of_mem_drop (List.mem_of_mem_take hx))
end Go.Proofs.Ytgdbpkpaacbhhaa


/-
  A region that draws its order: quiet operations ahead, in an order of ours, and a tail that waits for all of them.
-/
namespace Go.Proofs.Ytgdbpkpaacbhhaa
open Go

section
variable {P : Program} {ops : Array Oper} {md : Region.Mode} {C : World → Prop}

/-- what an operation waits for -/
def depsT (md : Region.Mode) (ops : Array Oper) (j : Nat) : List Nat :=
  match ops[j]? with
  | some o => (o.after.toList.filter fun e => Region.binds md e).map (·.on)
  | none => []
def reachT (md : Region.Mode) (ops : Array Oper) : Nat → List Nat → List Nat
  | 0, s => s
  | k + 1, s => reachT md ops k (s ++ (s.flatMap (depsT md ops)).filter fun x => !s.contains x).eraseDups
/-- every operation that is not ahead waits for all that are -/
def waitB (md : Region.Mode) (ops : Array Oper) (hd : List Nat) : Bool :=
  (List.range ops.size).all fun t => hd.contains t || hd.all fun i => (reachT md ops ops.size [t]).contains i
def seqT (md : Region.Mode) (ops : Array Oper) : List Nat → Array Bool → Bool
  | [], listed => (Region.ready md ops listed).isEmpty
  | t :: tl, listed => decide (Region.ready md ops listed = [t]) && seqT md ops tl (listed.setIfInBounds t true)
def headT (md : Region.Mode) (ops : Array Oper) (tl : List Nat) : List Nat → Array Bool → Bool
  | [], listed => seqT md ops tl listed
  | i :: hd, listed => (Region.ready md ops listed).contains i && Region.free md ops listed i && headT md ops tl hd (listed.setIfInBounds i true)
def tailB (md : Region.Mode) (ops : Array Oper) (hd tl : List Nat) : Bool :=
  Region.noSelect ops && waitB md ops hd && headT md ops tl hd (Array.replicate ops.size false) && decide (hd.length + tl.length = ops.size)

structure InvT (md : Region.Mode) (ops : Array Oper) (listed : Array Bool) : Prop where
  size : listed.size = ops.size
  closed : ∀ j oj, ops[j]? = some oj → listed.getD j false = true → ∀ e ∈ oj.after, Region.binds md e = true → listed.getD e.on false = true
theorem InvT.set {i : Nat} {listed : Array Bool} (inv : InvT md ops listed) (hi : i ∈ Region.ready md ops listed) : InvT md ops (listed.setIfInBounds i true) := by
  obtain ⟨_, oi, hoi, hall⟩ := mem_ready.1 hi
  refine ⟨by simp [inv.size], fun j oj hj hl e he hb => ?_⟩
  by_cases hij : i = j
  · subst hij
    have : oj = oi := Option.some.inj (hj.symm.trans hoi)
    subst this
    exact getD_set_true (hall e he hb)
  · rw [getD_set_ne false hij] at hl
    exact getD_set_true (inv.closed j oj hj hl e he hb)
theorem reachT_in {listed : Array Bool} (inv : InvT md ops listed) {t : Nat} (hr : t ∈ Region.ready md ops listed) : ∀ (k : Nat) (s : List Nat), (∀ x ∈ s, x = t ∨ listed.getD x false = true) → ∀ x ∈ reachT md ops k s, x = t ∨ listed.getD x false = true
  | 0, s, h => h
  | k + 1, s, h => by
    refine reachT_in inv hr k _ fun x hx => ?_
    rw [List.mem_eraseDups] at hx
    rcases List.mem_append.1 hx with hx | hx
    · exact h x hx
    · have hx := (List.mem_filter.1 hx).1
      obtain ⟨y, hy, hxy⟩ := List.mem_flatMap.1 hx
      unfold depsT at hxy
      split at hxy
      · rename_i o ho
        obtain ⟨e, he, rfl⟩ := List.mem_map.1 hxy
        rw [List.mem_filter] at he
        have he1 : e ∈ o.after := by simpa using he.1
        rcases h y hy with rfl | hl
        · obtain ⟨_, ot, hot, hall⟩ := mem_ready.1 hr
          have : o = ot := Option.some.inj (ho.symm.trans hot)
          subst this
          exact .inr (hall e he1 he.2)
        · exact .inr (inv.closed y o ho hl e he1 he.2)
      · simp at hxy
theorem waitT {hd : List Nat} {listed : Array Bool} (hw : waitB md ops hd = true) (inv : InvT md ops listed) {i t : Nat} (hi : i ∈ hd) (hun : listed.getD i true = false) (ht : t ∈ Region.ready md ops listed) : t ∈ hd := by
  obtain ⟨_, ot, hot, _⟩ := mem_ready.1 ht
  have htlt : t < ops.size := (Array.getElem?_eq_some_iff.1 hot).1
  have h1 := List.all_eq_true.1 hw t (List.mem_range.2 htlt)
  simp only [Bool.or_eq_true, List.contains_iff_mem] at h1
  rcases h1 with h1 | h1
  · exact h1
  · have h2 := List.all_eq_true.1 h1 i hi
    have h3 : i ∈ reachT md ops ops.size [t] := by simpa using h2
    rcases reachT_in inv ht _ [t] (fun x hx => .inl (by simpa using hx)) i h3 with rfl | h4
    · exact hi
    · rw [getD_both hun] at h4; cases h4

/-- Whatever order is picked: the operations ahead come first. -/
def wpAnyT (P : Program) (md : Region.Mode) (ops : Array Oper) (C : World → Prop) (hd : List Nat) (L : Array Bool → Act → Prop) : Nat → Array Bool → Act → Prop
  | 0, listed, a => L listed a
  | f + 1, listed, a => Region.ready md ops listed ≠ [] ∧ ∀ i ∈ Region.ready md ops listed, i ∈ hd ∧ qOp P ops C i (wpAnyT P md ops C hd L f (listed.setIfInBounds i true)) a
theorem wpAny_of_headT {hd : List Nat} {g : Nat} {L : Array Bool → Act → Prop} {Q' : Exit → Act → World → Prop} (hL : ∀ listed a w, C w → L listed a → wpAny P md ops Q' g listed a w) :
    ∀ (f : Nat) (listed : Array Bool) (a : Act) (w : World), C w → wpAnyT P md ops C hd L f listed a → wpAny P md ops Q' (f + g) listed a w
  | 0, listed, a, w, hw, h => by rw [Nat.zero_add]; exact hL _ _ _ hw h
  | f + 1, listed, a, w, hw, h => by
    rw [show f + 1 + g = (f + g) + 1 by omega]
    exact ⟨fun h0 => absurd h0 h.1, fun i hi => wpOp_of_qOp hw (fun a' w' hw' => wpAny_of_headT hL f _ a' w' hw') (h.2 i hi).2⟩
theorem wpAnyT_first {hd : List Nat} {i : Nat} {oi : Oper} {v : Value} {L : Array Bool → Act → Prop} (hi : ops[i]? = some oi) (hsel : ∀ (j : Nat) (o : Oper) cs b, ops[j]? = some o → o.op ≠ .select cs b)
    (hw : waitB md ops hd = true) (hin : i ∈ hd) (hdone : ∀ listed a, L listed a → ∀ j ∈ Region.ready md ops listed, j ∉ hd) :
    ∀ (f : Nat) (listed : Array Bool) (a : Act), InvT md ops listed →
      (∀ j oj, ops[j]? = some oj → j ≠ i → listed.getD j true = false → (∀ e ∈ oj.after, Region.binds md e = true → e.on ≠ i) → oi.apart ops oj = true) →
      i ∈ Region.ready md ops listed → YieldsIn P ops C oi v a →
      wpAnyT P md ops C hd L f (listed.setIfInBounds i true) (a.put oi.dst v) → wpAnyT P md ops C hd L (f + 1) listed a := by
  intro f
  induction f with
  | zero =>
    intro listed a inv _ hr hy H
    have hun := (mem_ready.1 hr).1
    refine ⟨fun h => (by rw [h] at hr; cases hr), fun j hj => ?_⟩
    have hjn := waitT hw inv hin hun hj
    refine ⟨hjn, ?_⟩
    by_cases hji : j = i
    · subst hji; exact hy.qOp hi H
    · exact absurd hjn (hdone _ _ H j (ready_mono hj hji))
  | succ f ih =>
    intro listed a inv hfree hr hy H
    have hun := (mem_ready.1 hr).1
    refine ⟨fun h => (by rw [h] at hr; cases hr), fun j hj => ?_⟩
    have hjn := waitT hw inv hin hun hj
    refine ⟨hjn, ?_⟩
    by_cases hji : j = i
    · subst hji; exact hy.qOp hi H
    · have h1 := (H.2 j (ready_mono hj hji)).2
      obtain ⟨hjun, oj, hoj, hall⟩ := mem_ready.1 hj
      have hnot : ∀ e ∈ oj.after, Region.binds md e = true → e.on ≠ i := fun e he hb heq => by
        have h1 := hall e he hb
        rw [heq, getD_both hun] at h1
        cases h1
      have h2 := qOp_put hoj (hfree j oj hoj hji hjun hnot) (fun cs b => hsel i oi cs b hi) (fun cs b => hsel j oj cs b hoj) hy h1
      have hfree' : ∀ k ok, ops[k]? = some ok → k ≠ i → (listed.setIfInBounds j true).getD k true = false →
          (∀ e ∈ ok.after, Region.binds md e = true → e.on ≠ i) → oi.apart ops ok = true := fun k ok hk hki hun hno => by
        refine hfree k ok hk hki ?_ hno
        by_cases hjk : j = k
        · subst hjk; exact hjun
        · rw [getD_set_ne true hjk] at hun; exact hun
      refine qOp_mono (fun a' h3 => ih (listed.setIfInBounds j true) a' (inv.set hj) hfree' (ready_mono hr (Ne.symm hji)) h3.1 ?_) h2
      rw [Array.setIfInBounds_comm _ _ hji]
      exact h3.2
theorem seqT_ready {tl : List Nat} {listed : Array Bool} (h : seqT md ops tl listed = true) : ∀ j ∈ Region.ready md ops listed, j ∈ tl := by
  cases tl with
  | nil => intro j hj; simp only [seqT, List.isEmpty_iff] at h; rw [h] at hj; cases hj
  | cons t tl =>
    intro j hj
    simp only [seqT, Bool.and_eq_true, decide_eq_true_eq] at h
    rw [h.1] at hj
    have : j = t := by simpa using hj
    simp [this]
theorem wpAny_of_seqT {Q' : Exit → Act → World → Prop} : ∀ (tl : List Nat) (l : List Oper) (listed : Array Bool) (a : Act) (w : World), tl.map (fun i => ops[i]?) = l.map some →
    seqT md ops tl listed = true → wpList P ops Q' l a w → wpAny P md ops Q' tl.length listed a w
  | [], [], _, _, _, _, hB, h => ⟨by simpa [seqT] using hB, h⟩
  | [], _ :: _, _, _, _, hl, _, _ => by simp at hl
  | _ :: _, [], _, _, _, hl, _, _ => by simp at hl
  | t :: tl, o :: l, listed, a, w, hl, hB, h => by
    simp only [List.map_cons, List.cons.injEq] at hl
    simp only [List.length_cons, seqT, Bool.and_eq_true, decide_eq_true_eq] at hB ⊢
    refine ⟨fun h1 => (by rw [hB.1] at h1; cases h1), fun i hi => ?_⟩
    rw [hB.1] at hi
    have hik : i = t := by simpa using hi
    subst hik
    have hw : wpOp P ops Q' i (wpList P ops Q' l) a w := by unfold wpOp; simp only [hl.1]; exact h
    exact wpOp_mono (fun a' w' h' => wpAny_of_seqT tl l _ a' w' hl.2 hB.2 h') hw
theorem wpAnyT_lex {hd0 tl : List Nat} {Lq : Act → Prop} (hsel : Region.noSelect ops = true) (hw : waitB md ops hd0 = true) (hdj : ∀ j ∈ tl, j ∉ hd0) :
    ∀ (hd : List Nat) (l : List Oper) (listed : Array Bool) (a : Act), hd.map (fun i => ops[i]?) = l.map some → (∀ i ∈ hd, i ∈ hd0) → InvT md ops listed →
    headT md ops tl hd listed = true → wpQuiet P ops C Lq l a →
    wpAnyT P md ops C hd0 (fun listed' a' => seqT md ops tl listed' = true ∧ Lq a') hd.length listed a
  | [], [], listed, a, _, _, _, hB, h => ⟨by simpa [headT] using hB, h⟩
  | [], _ :: _, _, _, hl, _, _, _, _ => by simp at hl
  | _ :: _, [], _, _, hl, _, _, _, _ => by simp at hl
  | i :: hd, o :: l, listed, a, hl, hin, inv, hB, h => by
    simp only [List.map_cons, List.cons.injEq] at hl
    simp only [headT, Bool.and_eq_true] at hB
    obtain ⟨⟨hr, hf⟩, hB'⟩ := hB
    have hr' : i ∈ Region.ready md ops listed := by simpa using hr
    have hst : qOp P ops C i (wpQuiet P ops C Lq l) a := by unfold qOp; simp only [hl.1]; exact h
    obtain ⟨v, hy, hK⟩ := yieldsIn_of_qOp hl.1 hst
    exact wpAnyT_first hl.1 (Region.noSelect_spec hsel) hw (hin i (by simp)) (fun listed' a' hL j hj => hdj j (seqT_ready hL.1 j hj)) hd.length listed a inv (Region.free_spec hl.1 hf) hr' hy
      (wpAnyT_lex hsel hw hdj hd l _ _ hl.2 (fun j hj => hin j (by simp [hj])) (inv.set hr') hB' hK)
/-- the operations with these numbers -/
def pickT (l : List Oper) : List Nat → List Oper
  | [] => []
  | i :: is => (l.drop i).take 1 ++ pickT l is
theorem pickT_map {l : List Oper} : ∀ {is : List Nat}, (∀ i ∈ is, i < l.length) → is.map (fun i => l.toArray[i]?) = (pickT l is).map some
  | [], _ => rfl
  | i :: is, h => by
    have hi := h i (by simp)
    have e : (l.drop i).take 1 = [l[i]] := by rw [List.drop_eq_getElem_cons hi]; rfl
    have ih := pickT_map (l := l) (is := is) (fun j hj => h j (by simp [hj]))
    rw [List.map_cons, ih]
    show _ = ((l.drop i).take 1 ++ pickT l is).map some
    rw [e]
    simp [hi]
/-- **Quiet operations ahead in the order 'hd', then the tail in the order 'tl'.** -/
theorem wp_region_tail {id : Nat} {Q : Exit → Act → World → Prop} {a : Act} {w : World} {l : List Oper} (C : World → Prop) (hd tl : List Nat) (hm : P.follows .mixedOrders = true)
    (hB : (tailB .any l.toArray hd tl && (hd.all fun i => decide (i < l.length)) && (tl.all fun i => decide (i < l.length)) && (tl.all fun j => !hd.contains j)) = true) (hC : C { w with drawn := w.drawn + 1 })
    (h : wpQuiet P l.toArray C (fun a' => ∀ w', C w' → wpList P l.toArray Q (pickT l tl) a' w') (pickT l hd) a) : (Code.region id l.toArray true).wp P Q a w := by
  simp only [tailB, Bool.and_eq_true, decide_eq_true_eq, List.all_eq_true] at hB
  obtain ⟨⟨⟨⟨⟨⟨hsel, hw⟩, hlex⟩, hlen⟩, hh⟩, ht⟩, hdj⟩ := hB
  have inv0 : InvT .any l.toArray (Array.replicate l.toArray.size false) := ⟨by simp, fun j oj _ hl => (by rw [getD_replicate_false] at hl; cases hl)⟩
  have H := wpAnyT_lex (md := .any) hsel hw (fun j hj => by have := hdj j hj; simpa using this) hd (pickT l hd) _ a (pickT_map hh) (fun _ h => h) inv0 hlex h
  refine wp_region_any hm ?_
  have := wpAny_of_headT (Q' := Q) (g := tl.length) (fun listed a' w' hw' hL => wpAny_of_seqT tl (pickT l tl) listed a' w' (pickT_map ht) hL.1 (hL.2 w' hw')) _ _ _ _ hC H
  rw [hlen] at this
  exact this
end
end Go.Proofs.Ytgdbpkpaacbhhaa


/-
  A region that draws its order: loads are taken first where nobody writes their cells before them.
-/
namespace Go.Proofs.Ytgdbpkpaacbhhaa
open Go

section
variable {P : Program} {ops : Array Oper} {Q : Exit → Act → World → Prop} {md : Region.Mode} {S : World → Prop} {N : List Nat}

def invB (md : Region.Mode) (ops : Array Oper) (listed : Array Bool) : Bool :=
  decide (listed.size = ops.size) && (List.range ops.size).all fun j => !listed.getD j false || (depsT md ops j).all fun i => listed.getD i false
theorem invB_spec {listed : Array Bool} (h : invB md ops listed = true) : InvT md ops listed := by
  simp only [invB, Bool.and_eq_true, decide_eq_true_eq] at h
  refine ⟨h.1, fun j oj hj hl e he hb => ?_⟩
  have hlt : j < ops.size := (Array.getElem?_eq_some_iff.1 hj).1
  have h1 := List.all_eq_true.1 h.2 j (List.mem_range.2 hlt)
  rw [hl] at h1
  simp only [Bool.not_true, Bool.false_or] at h1
  refine List.all_eq_true.1 h1 e.on ?_
  unfold depsT
  rw [hj]
  exact List.mem_map.2 ⟨e, List.mem_filter.2 ⟨by simpa using he, hb⟩, rfl⟩
/-- each operation that waits for 'i' apart, all keep what the load reads -/
def nB (md : Region.Mode) (ops : Array Oper) (N : List Nat) (i : Nat) : Bool :=
  (List.range ops.size).all fun j => decide (j = i) || !N.contains j || (reachT md ops ops.size [j]).contains i
/-- Whatever order is picked from here on; S holds behind each operation that is carried out, those of N apart. -/
def wpAnyN (P : Program) (md : Region.Mode) (ops : Array Oper) (Q : Exit → Act → World → Prop) (S : World → Prop) (N : List Nat) : Nat → Array Bool → Act → World → Prop
  | 0, listed, a, w => Region.ready md ops listed = [] ∧ Q .normal a w
  | fuel + 1, listed, a, w =>
    (Region.ready md ops listed = [] → Q .normal a w) ∧
    ∀ i ∈ Region.ready md ops listed, wpOp P ops Q i (fun a' w' => (N.contains i = false → S w') ∧ wpAnyN P md ops Q S N fuel (listed.setIfInBounds i true) a' w') a w
theorem wpAny_of_N : ∀ (fuel : Nat) (listed : Array Bool) (a : Act) (w : World), wpAnyN P md ops Q S N fuel listed a w → wpAny P md ops Q fuel listed a w
  | 0, _, _, _, h => h
  | fuel + 1, _, _, _, h => ⟨h.1, fun i hi => wpOp_mono (fun a' w' h' => wpAny_of_N fuel _ a' w' h'.2) (h.2 i hi)⟩
theorem wpAnyN_first {i : Nat} {oi : Oper} {v : Value} (hi : ops[i]? = some oi) (hsel : ∀ (j : Nat) (o : Oper) cs b, ops[j]? = some o → o.op ≠ .select cs b)
    (hQ : ∀ c a w, Q (.panic c) (a.put oi.dst v) w → Q (.panic c) a w) (hn : nB md ops N i = true) :
    ∀ (fuel : Nat) (listed : Array Bool) (a : Act) (w : World), InvT md ops listed →
      (∀ j oj, ops[j]? = some oj → j ≠ i → listed.getD j true = false → (∀ e ∈ oj.after, Region.binds md e = true → e.on ≠ i) → oi.apart ops oj = true) →
      i ∈ Region.ready md ops listed → YieldsIf P ops S oi v a → S w →
      wpAnyN P md ops Q S N fuel (listed.setIfInBounds i true) (a.put oi.dst v) w → wpAnyN P md ops Q S N (fuel + 1) listed a w := by
  intro fuel
  induction fuel with
  | zero =>
    intro listed a w _ _ hr hy hS H
    refine ⟨fun h => (by rw [h] at hr; cases hr), fun j hj => ?_⟩
    by_cases hji : j = i
    · subst hji; exact hy.wpOp hi hS ⟨fun _ => hS, H⟩
    · have := ready_mono hj hji
      rw [H.1] at this
      cases this
  | succ fuel ih =>
    intro listed a w inv hfree hr hy hS H
    refine ⟨fun h => (by rw [h] at hr; cases hr), fun j hj => ?_⟩
    by_cases hji : j = i
    · subst hji; exact hy.wpOp hi hS ⟨fun _ => hS, H⟩
    · have h1 := H.2 j (ready_mono hj hji)
      obtain ⟨hjun, oj, hoj, hall⟩ := mem_ready.1 hj
      have hun := (mem_ready.1 hr).1
      have hnot : ∀ e ∈ oj.after, Region.binds md e = true → e.on ≠ i := fun e he hb heq => by
        have h1 := hall e he hb
        rw [heq, getD_both hun] at h1
        cases h1
      have hNj : N.contains j = false := by
        have h2 := List.all_eq_true.1 hn j (List.mem_range.2 (Array.getElem?_eq_some_iff.1 hoj).1)
        simp only [Bool.or_eq_true, decide_eq_true_eq, Bool.not_eq_true'] at h2
        rcases h2 with (h2 | h2) | h2
        · exact absurd h2 hji
        · exact h2
        · have h3 : i ∈ reachT md ops ops.size [j] := by simpa using h2
          rcases reachT_in inv hj _ [j] (fun x hx => .inl (by simpa using hx)) i h3 with h4 | h4
          · exact absurd h4.symm hji
          · rw [getD_both hun] at h4; cases h4
      have h2 := wpOp_putIf hoj (hfree j oj hoj hji hjun hnot) (fun cs b => hsel i oi cs b hi) (fun cs b => hsel j oj cs b hoj) hQ hy h1
      have hfree' : ∀ k ok, ops[k]? = some ok → k ≠ i → (listed.setIfInBounds j true).getD k true = false →
          (∀ e ∈ ok.after, Region.binds md e = true → e.on ≠ i) → oi.apart ops ok = true := fun k ok hk hki hun hno => by
        refine hfree k ok hk hki ?_ hno
        by_cases hjk : j = k
        · subst hjk; exact hjun
        · rw [getD_set_ne true hjk] at hun; exact hun
      refine wpOp_mono (fun a' w' h3 => ⟨h3.2.1, ih (listed.setIfInBounds j true) a' w' (inv.set hj) hfree' (ready_mono hr (Ne.symm hji)) h3.1 (h3.2.1 hNj) ?_⟩) h2
      rw [Array.setIfInBounds_comm _ _ hji]
      exact h3.2.2
def takeB (md : Region.Mode) (ops : Array Oper) (N : List Nat) (listed : Array Bool) (i : Nat) : Bool :=
  Region.noSelect ops && (Region.free md ops listed i && ((Region.ready md ops listed).contains i && (nB md ops N i && invB md ops listed)))
/-- Take number 'i' first. -/
theorem wpAnyN_take {i : Nat} {oi : Oper} {v : Value} {fuel : Nat} {listed : Array Bool} {a : Act} {w : World} (hi : ops[i]? = some oi) (hB : takeB md ops N listed i = true)
    (hQ : ∀ c a w, Q (.panic c) (a.put oi.dst v) w → Q (.panic c) a w) (hw : Region.wanted oi (yielded ops a.tmps) = true) (hy : ∀ w, S w → (execOp a.eval oi).run P w = .ok (.value v) w) (hS : S w)
    (h : wpAnyN P md ops Q S N fuel (listed.setIfInBounds i true) (a.put oi.dst v) w) : wpAnyN P md ops Q S N (fuel + 1) listed a w := by
  simp only [takeB, Bool.and_eq_true] at hB
  obtain ⟨h1, h2, h3, h4, h5⟩ := hB
  exact wpAnyN_first hi (Region.noSelect_spec h1) hQ h4 fuel listed a w (invB_spec h5) (Region.free_spec hi h2) (by simpa using h3) (.inl ⟨hw, hy⟩) hS h
/-- The one that comes up. -/
theorem wpAnyN_next {i : Nat} {o : Oper} {fuel : Nat} {listed : Array Bool} {a : Act} {w : World} (ho : ops[i]? = some o) (hr : Region.ready md ops listed = [i])
    (h : ∀ K' : Act → World → Prop, Shut (∀ a w, (N.contains i = false → S w) → wpAnyN P md ops Q S N fuel (listed.setIfInBounds i true) a w → K' a w) → if Region.wanted o (yielded ops a.tmps) = true then Oper.wp P o a w K' Q else K' (a.put o.dst undef) w) :
    wpAnyN P md ops Q S N (fuel + 1) listed a w := by
  refine ⟨fun h0 => (by rw [h0] at hr; cases hr), fun j hj => ?_⟩
  rw [hr] at hj
  obtain rfl : j = i := by simpa using hj
  exact wpOp_step ho (fun K' hK => h K' (fun a w hS hW => hK a w ⟨hS, hW⟩))
theorem wpAnyN_done {listed : Array Bool} {a : Act} {w : World} (hr : Region.ready md ops listed = []) (h : Q .normal a w) : ∀ fuel, wpAnyN P md ops Q S N fuel listed a w
  | 0 => ⟨hr, h⟩
  | _ + 1 => ⟨fun _ => h, by rw [hr]; simp⟩
theorem wp_region_N {id : Nat} {a : Act} {w : World} (S : World → Prop) (N : List Nat) (hm : P.follows .mixedOrders = true)
    (h : wpAnyN P .any ops Q S N ops.size (Array.replicate ops.size false) a w.drew) : (Code.region id ops true).wp P Q a w :=
  wp_region_any hm (wpAny_of_N _ _ _ _ h)
end
end Go.Proofs.Ytgdbpkpaacbhhaa


/-
  A region that draws its order, in which two or three operations that write may come up; a copy into a new row.
-/
namespace Go.Proofs.Ytgdbpkpaacbhhaa
open Go.RowKit

section
variable {P : Program} {ops : Array Oper} {Q : Exit → Act → World → Prop} {md : Region.Mode} {S : World → Prop} {N : List Nat}
/-- what is to be shown of one that comes up -/
def UpN (P : Program) (ops : Array Oper) (Q : Exit → Act → World → Prop) (md : Region.Mode) (S : World → Prop) (N : List Nat) (fuel : Nat) (listed : Array Bool) (a : Act) (w : World) (i : Nat) (o : Oper) : Prop :=
  ∀ K' : Act → World → Prop, Shut (∀ a w, (N.contains i = false → S w) → wpAnyN P md ops Q S N fuel (listed.setIfInBounds i true) a w → K' a w) → if Region.wanted o (yielded ops a.tmps) = true then Oper.wp P o a w K' Q else K' (a.put o.dst undef) w
theorem wpAnyN_2 {i j : Nat} {o o' : Oper} {fuel : Nat} {listed : Array Bool} {a : Act} {w : World} (ho : ops[i]? = some o) (ho' : ops[j]? = some o') (hr : Region.ready md ops listed = [i, j])
    (h : UpN P ops Q md S N fuel listed a w i o) (h' : UpN P ops Q md S N fuel listed a w j o') : wpAnyN P md ops Q S N (fuel + 1) listed a w := by
  refine ⟨fun h0 => (by rw [h0] at hr; cases hr), fun k hk => ?_⟩
  rw [hr] at hk
  rcases List.mem_cons.1 hk with rfl | hk
  · exact wpOp_step ho (fun K' hK => h K' (fun a w hS hW => hK a w ⟨hS, hW⟩))
  · obtain rfl : k = j := by simpa using hk
    exact wpOp_step ho' (fun K' hK => h' K' (fun a w hS hW => hK a w ⟨hS, hW⟩))
theorem wpAnyN_3 {i j l : Nat} {o o' o'' : Oper} {fuel : Nat} {listed : Array Bool} {a : Act} {w : World} (ho : ops[i]? = some o) (ho' : ops[j]? = some o') (ho'' : ops[l]? = some o'') (hr : Region.ready md ops listed = [i, j, l])
    (h : UpN P ops Q md S N fuel listed a w i o) (h' : UpN P ops Q md S N fuel listed a w j o') (h'' : UpN P ops Q md S N fuel listed a w l o'') : wpAnyN P md ops Q S N (fuel + 1) listed a w := by
  refine ⟨fun h0 => (by rw [h0] at hr; cases hr), fun k hk => ?_⟩
  rw [hr] at hk
  rcases List.mem_cons.1 hk with rfl | hk
  · exact wpOp_step ho (fun K' hK => h K' (fun a w hS hW => hK a w ⟨hS, hW⟩))
  · rcases List.mem_cons.1 hk with rfl | hk
    · exact wpOp_step ho' (fun K' hK => h' K' (fun a w hS hW => hK a w ⟨hS, hW⟩))
    · obtain rfl : k = l := by simpa using hk
      exact wpOp_step ho'' (fun K' hK => h'' K' (fun a w hS hW => hK a w ⟨hS, hW⟩))
end
section
variable {α : Type} {P : Program} {w : World} {ops : Array Oper} {o : Oper} {a : Act} {K : Act → World → Prop} {Q : Exit → Act → World → Prop} {E : Prop}
/-- all elements into a new row, as a step of a region that draws its order; where the row lies then -/
theorem step_copyL (hgd : o.guard = none) (s x : Operand) (t : TypeId) (ho : o.op = .call { callee := .builtin .append, args := #[s, x], argTypes := #[t, t] })
    (base : Nat) (e : TypeId) (sz bytes : Nat) (EI : Elem P t e sz bytes) (enc : α → List Value) (e0 : Nat) (hs : a.eval s = .slice (some ⟨e0, 0, none⟩) 0 0)
    (hown : w.ownsRow base e sz (.slice (some ⟨e0, 0, none⟩) 0 0) 0 []) (ad : Addr) (m cc : Nat) (ys : List α) (hx : a.eval x = .slice (some ad) m cc) (hym : ys.length = m) (hm0 : 0 < m) (hnews : ∀ j u, (ys.flatMap enc)[j]? = some u → w.cell? (ad.add j) = some u)
    (hlen : ∀ y ∈ ys, (enc y).length = sz) (hone : ∀ y ∈ ys, ∀ u ∈ enc y, u.oneCell' = true) (hsz : 0 < sz) (hbytes : m * bytes ≤ 140737488355328) (hm : m ≤ maxLen) (hsize : base ≤ w.heap.size)
    (h : ∀ A' c' w', w'.ownsRow base e sz (.slice A' m c') m (ys.flatMap enc) → w.grownBy w' (some e0) → ((Value.slice A' m c').ownBlock = some e0 ∨ (Value.slice A' m c').ownBlock = some w.heap.size) → K (a.put o.dst (.slice A' m c')) w') :
    if Region.wanted o (yielded ops a.tmps) = true then Oper.wp P o a w K Q else E := by
  obtain ⟨ht, i, z, hi, hz, h1, h2, hzs⟩ := EI
  obtain ⟨v', w', hr, r2, r3, _, r5⟩ := run_append_own_at (P := P) w base t o.type e i z sz bytes ht hi hz h1 h2 hzs hsz _ 0 _ hown ad m cc (ys.flatMap enc) (by rw [flat_len ys hlen, hym]) hnews
    (fun u hu => by obtain ⟨y, hy, hu⟩ := List.mem_flatMap.1 hu; exact hone y hy u hu) (by omega) (by rw [Nat.zero_add]; exact hbytes) hsize
  rw [Nat.zero_add, List.nil_append] at r2
  obtain ⟨g', cap, rfl, _, _⟩ := r2.form (by omega)
  have hw : Region.wanted o (yielded ops a.tmps) = true := by simp [Region.wanted, hgd]
  rw [if_pos hw]
  unfold Oper.wp execOp
  simp only [ho, resolve, invoke, builtin, Sem.run_bind, Sem.run_pure, Result.andThen_ok, List.map_toArray, List.map_cons, List.map_nil, hs, hx, hr]
  exact h _ _ w' r2 r3 r5
end
end Go.Proofs.Ytgdbpkpaacbhhaa


/-
  The grammar of a plain word in the program: the small functions.
-/
namespace Go.Proofs.Ytgdbpkpaacbhhaa
open Go.RowKit

theorem conv_letter (W : World) (g c : Nat) (b : UInt8) (h : W.cell? ⟨g, 0, none⟩ = some (.int .u8 (b.toNat : Int))) : (convert 22 9 (.slice (some ⟨g, 0, none⟩) 1 c)).run Try.prog W = .ok (.string ⟨#[b]⟩) W := by
  refine run_convert_bytes_back (P := Try.prog) W _ _ 5 ⟨g, 0, none⟩ c [b] Try.underlying22 Try.underlying5 Try.underlying9 fun j hj => ?_
  obtain rfl : j = 0 := by simpa using hj
  simp [Addr.add, h]
theorem indexByte_mem (l : List UInt8) (c : UInt8) : (0 ≤ Lib.indexByte l c) ↔ c ∈ l := by
  induction l with
  | nil => simp [Lib.indexByte]
  | cons b l ih =>
    unfold Lib.indexByte
    have := Lib.indexByte_ge l c
    by_cases hb : b = c
    · simp [hb]
    · have hb' : (b == c) = false := by simpa using hb
      rw [hb']
      simp only [Bool.false_eq_true, if_false, List.mem_cons, (Ne.symm hb : c ≠ b), false_or, ← ih]
      by_cases h1 : Lib.indexByte l c = -1
      · simp [h1]
      · have : (Lib.indexByte l c == -1) = false := by simpa using h1
        rw [this]; simp; omega
end Go.Proofs.Ytgdbpkpaacbhhaa
