/-
  Texts of this claim, merged: Runs WdU CtM InvM PlainM TrimM MapM TrimV Stop RuleP RuleK TrimO TrimI TrimS.
-/
import Derived.Test.YtgdbpkpaacbhhaaP2
import Derived.Deep.RegionLaw
import Derived.Maps.OwnOps
import Derived.Deep.RegionHeld3
import Derived.Deep.RegionWith
import Derived.Deep.DeepCutAuto
import Derived.Deep.CutBlock


/-
  The number of runs: in the program and in the reference.
-/
namespace Go.Proofs.Ytgdbpkpaacbhhaa
open Go.RowKit

def offA (qs : List Q4) (k l : Nat) : Int := if k = l then 0 else (qs.getD k Q4.nil).at_ l
def rowOff (qs : List Q4) (k : Nat) : Int := sumTo (offA qs k) 4
def diagA (qs : List Q4) (k : Nat) : Int := (qs.getD k Q4.nil).at_ k
theorem off_diag (qs : List Q4) : sumTo (rowOff qs) 4 + sumTo (diagA qs) 4 = totT qs := by
  simp only [sumTo, rowOff, offA, diagA, totT, Q4.sum, Q4.at_, if_true, show ¬ (0 : Nat) = 1 by omega, show ¬ (0 : Nat) = 2 by omega, show ¬ (0 : Nat) = 3 by omega, show ¬ (1 : Nat) = 0 by omega, show ¬ (1 : Nat) = 2 by omega, show ¬ (1 : Nat) = 3 by omega,
    show ¬ (2 : Nat) = 0 by omega, show ¬ (2 : Nat) = 1 by omega, show ¬ (2 : Nat) = 3 by omega, show ¬ (3 : Nat) = 0 by omega, show ¬ (3 : Nat) = 1 by omega, show ¬ (3 : Nat) = 2 by omega, if_false]
  omega
def runsN (rs : List Fac) : Int := if rs.length = 0 then 0 else 1 + sumTo (rowOff (pcAll rs)) 4
theorem runs_spec {rs : List Fac} {ls : List Int} (hls : gLens rs [] = some ls) (hll : ls.length = rs.length) : lastI ls - sumTo (diagA (pcAll rs)) 4 = runsN rs := by
  unfold runsN
  split
  · rename_i h
    have h1 := List.eq_nil_of_length_eq_zero h
    subst h1
    have h2 := List.eq_nil_of_length_eq_zero hll
    subst h2
    rfl
  · have := off_diag (pcAll rs)
    rw [pc_total hls hll (by omega)] at this
    omega
def runsV (rs : List Fac) : Value := if (gOk rs).isSome = false then tup2 0 1 else tup2 (runsN rs) 0
theorem runsV_form (rs : List Fac) : ∃ b k, runsV rs = .tuple #[.int .i64 b, .int .i64 k] := by
  unfold runsV
  split
  · exact ⟨_, _, rfl⟩
  · exact ⟨_, _, rfl⟩
theorem runsV1 {rs : List Fac} (h : (gOk rs).isSome = false) : runsV rs = tup2 0 1 := by unfold runsV; rw [if_pos h]
theorem runsV2 {rs : List Fac} (h : (gOk rs).isSome = true) : runsV rs = tup2 (runsN rs) 0 := by unfold runsV; rw [if_neg (by rw [h]; decide)]
theorem offA_b {rs : List Fac} {ls : List Int} (hls : gLens rs [] = some ls) (hll : ls.length = rs.length) (hn : rs.length ≤ 400) (k l : Nat) : 0 ≤ ((pcAll rs).getD k Q4.nil).at_ l ∧ ((pcAll rs).getD k Q4.nil).at_ l ≤ 400000000000000000 := by
  have := pcT_bd hls hll rs.length (Nat.le_refl _) k l
  exact ⟨this.1, Int.le_trans this.2 (by omega)⟩
end Go.Proofs.Ytgdbpkpaacbhhaa


/-
  What rules add, each as often as it is met; the pairs of letters of a word.
-/
namespace Go.Proofs.Ytgdbpkpaacbhhaa

theorem sum_one (n a : Nat) (v : Int) (f : Nat → Int) (h : a < n) : sumTo (fun j => (if j = a then v else 0) * f j) n = v * f a := by
  rw [sumTo_upd (g := fun _ => 0) a h (fun j _ hne => by simp [hne]), sumTo_zero (fun _ _ => rfl)]
  simp
theorem use_go {rs : List Fac} (hwf : WF rs) (c dl : Nat → Int) (hp : ∀ (i : Nat) (r : Fac), rs[i]? = some r → r.l.size = 0 → c i = c r.a.toNat + c r.b.toNat + dl i)
    (hl : ∀ (i : Nat) (r : Fac), rs[i]? = some r → r.l.size ≠ 0 → c i = 0 ∧ dl i = 0) (T : Int) :
    ∀ (m : Nat) (us : List Int), m ≤ rs.length → us.length = rs.length → sumTo (fun j => us.getD j 0 * c j) m + (sumTo (fun j => us.getD j 0 * dl j) rs.length - sumTo (fun j => us.getD j 0 * dl j) m) = T →
      sumTo (fun j => (useGo rs m us).getD j 0 * dl j) rs.length = T
  | 0, us, _, _, h => by
    have e1 : sumTo (fun j => us.getD j 0 * c j) 0 = 0 := rfl
    have e2 : sumTo (fun j => us.getD j 0 * dl j) 0 = 0 := rfl
    show sumTo (fun j => us.getD j 0 * dl j) rs.length = T
    omega
  | i + 1, us, hm, hlen, h => by
    have hr : rs[i]? = some rs[i] := List.getElem?_eq_getElem (by omega)
    have e1 : sumTo (fun j => us.getD j 0 * c j) (i + 1) = sumTo (fun j => us.getD j 0 * c j) i + us.getD i 0 * c i := rfl
    have e2 : sumTo (fun j => us.getD j 0 * dl j) (i + 1) = sumTo (fun j => us.getD j 0 * dl j) i + us.getD i 0 * dl i := rfl
    show sumTo (fun j => (useGo rs i (usStep rs us i)).getD j 0 * dl j) rs.length = T
    unfold usStep
    rw [fac_getD hr]
    rcases hwf i _ hr with ⟨h0, a0, a1, b0, b1⟩ | ⟨u, _, hlu, _, _⟩
    · rw [if_pos h0]
      have hc := hp i _ hr h0
      refine use_go hwf c dl hp hl T i _ (by omega) (by rw [usePair_len]; exact hlen) ?_
      have hat := usePair_at (us := us) (a := rs[i].a.toNat) (b := rs[i].b.toNat) (i := i) (by omega) (by omega)
      have s1 : sumTo (fun j => (usePair us rs[i].a.toNat rs[i].b.toNat i).getD j 0 * c j) i = sumTo (fun j => us.getD j 0 * c j) i + us.getD i 0 * c rs[i].a.toNat + us.getD i 0 * c rs[i].b.toNat := by
        rw [sumTo_congr (g := fun j => (us.getD j 0 * c j + (if j = rs[i].a.toNat then us.getD i 0 else 0) * c j) + (if j = rs[i].b.toNat then us.getD i 0 else 0) * c j) (fun j _ => by rw [hat, Int.add_mul, Int.add_mul]), sumTo_add, sumTo_add, sum_one _ _ _ _ (by omega), sum_one _ _ _ _ (by omega)]
      have s2 : sumTo (fun j => (usePair us rs[i].a.toNat rs[i].b.toNat i).getD j 0 * dl j) rs.length - sumTo (fun j => (usePair us rs[i].a.toNat rs[i].b.toNat i).getD j 0 * dl j) i = sumTo (fun j => us.getD j 0 * dl j) rs.length - sumTo (fun j => us.getD j 0 * dl j) i :=
        sumTo_diff (by omega) (fun j h1 h2 => by rw [hat, if_neg (by omega), if_neg (by omega)]; simp)
      have s3 : us.getD i 0 * c i = us.getD i 0 * c rs[i].a.toNat + us.getD i 0 * c rs[i].b.toNat + us.getD i 0 * dl i := by rw [hc, Int.mul_add, Int.mul_add]
      omega
    · have hz : rs[i].l.size ≠ 0 := by rw [hlu]; show (1 : Nat) ≠ 0; omega
      rw [if_neg hz]
      obtain ⟨z1, z2⟩ := hl i _ hr hz
      refine use_go hwf c dl hp hl T i us (by omega) hlen ?_
      rw [z1] at e1
      rw [z2] at e2
      simp only [Int.mul_zero] at e1 e2
      omega
/-- what is added at each rule of a pair, over all places where it is met -/
theorem use_sum {rs : List Fac} (hwf : WF rs) (h0 : 0 < rs.length) (c dl : Nat → Int) (hp : ∀ (i : Nat) (r : Fac), rs[i]? = some r → r.l.size = 0 → c i = c r.a.toNat + c r.b.toNat + dl i)
    (hl : ∀ (i : Nat) (r : Fac), rs[i]? = some r → r.l.size ≠ 0 → c i = 0 ∧ dl i = 0) : sumTo (fun j => (usesOf rs).getD j 0 * dl j) rs.length = c (rs.length - 1) := by
  refine use_go hwf c dl hp hl _ rs.length (us0 rs.length) (Nat.le_refl _) (by simp [us0]) ?_
  have e : sumTo (fun j => (us0 rs.length).getD j 0 * c j) rs.length = c (rs.length - 1) := by
    rw [sumTo_congr (g := fun j => (if j = rs.length - 1 then 1 else 0) * c j) (fun j _ => by rw [use0_at _ _ h0]), sum_one _ _ _ _ (by omega)]
    simp
  omega
/-- how often a letter stands right behind one -/
def adj (k l : Nat) : List Nat → Int
  | [] => 0
  | x :: r => (if x = k ∧ r.head? = some l then 1 else 0) + adj k l r
theorem adj_app (k l : Nat) : ∀ (u v : List Nat), u ≠ [] → adj k l (u ++ v) = adj k l u + adj k l v + if u.getLast? = some k ∧ v.head? = some l then 1 else 0
  | [], _, h => absurd rfl h
  | [x], v, _ => by
    simp only [List.singleton_append, adj, List.head?_nil, List.getLast?_singleton, Option.some.injEq]
    simp; omega
  | x :: y :: r, v, _ => by
    have ih := adj_app k l (y :: r) v (by simp)
    have e : (y :: r ++ v).head? = some y := rfl
    show (if x = k ∧ (y :: r ++ v).head? = some l then 1 else 0) + adj k l (y :: r ++ v) = (if x = k ∧ (y :: r).head? = some l then 1 else 0) + adj k l (y :: r) + adj k l v + _
    rw [ih, e, List.head?_cons, List.getLast?_cons_cons]; omega
theorem edf_word {rs : List Fac} (hwf : WF rs) {k : Nat} (hk : k < rs.length) : (edf rs).getD k 0 = ((((wds rs).getD k []).head?.getD 0 : Nat) : Int) :=
  full_hom (d := (0 : Int)) (F := edF) (G := edGf) hwf (fun u => ((u.head?.getD 0 : Nat) : Int)) (fun k _ => rfl) (fun u v r hu _ _ _ => by
    obtain ⟨x, t, rfl⟩ := List.exists_cons_of_ne_nil hu; rfl) k hk
theorem edl_word {rs : List Fac} (hwf : WF rs) {k : Nat} (hk : k < rs.length) : (edl rs).getD k 0 = ((((wds rs).getD k []).getLast?.getD 0 : Nat) : Int) :=
  full_hom (d := (0 : Int)) (F := edF) (G := edGl) hwf (fun u => ((u.getLast?.getD 0 : Nat) : Int)) (fun k _ => rfl) (fun u v r _ hv _ _ => by
    simp only [edGl]
    rw [List.getLast?_append, List.getLast?_eq_some_getLast hv]; rfl) k hk
theorem Q4.plus_at (q : Q4) {l j : Nat} (hl : l < 4) (hj : j < 4) (v : Int) : (q.plus l v).at_ j = q.at_ j + if j = l then v else 0 := by
  match l, hl, j, hj with
  | 0, _, 0, _ => rfl
  | 0, _, 1, _ => simp [Q4.plus, Q4.at_]
  | 0, _, 2, _ => simp [Q4.plus, Q4.at_]
  | 0, _, 3, _ => simp [Q4.plus, Q4.at_]
  | 1, _, 0, _ => simp [Q4.plus, Q4.at_]
  | 1, _, 1, _ => rfl
  | 1, _, 2, _ => simp [Q4.plus, Q4.at_]
  | 1, _, 3, _ => simp [Q4.plus, Q4.at_]
  | 2, _, 0, _ => simp [Q4.plus, Q4.at_]
  | 2, _, 1, _ => simp [Q4.plus, Q4.at_]
  | 2, _, 2, _ => rfl
  | 2, _, 3, _ => simp [Q4.plus, Q4.at_]
  | 3, _, 0, _ => simp [Q4.plus, Q4.at_]
  | 3, _, 1, _ => simp [Q4.plus, Q4.at_]
  | 3, _, 2, _ => simp [Q4.plus, Q4.at_]
  | 3, _, 3, _ => rfl
theorem addT_at {qs : List Q4} (hq : qs.length = 4) {k l k' l' : Nat} (hk : k < 4) (hl : l < 4) (hl' : l' < 4) (v : Int) : ((addT qs k l v).getD k' Q4.nil).at_ l' = (qs.getD k' Q4.nil).at_ l' + if k' = k ∧ l' = l then v else 0 := by
  unfold addT
  rw [qgetD_set _ _ _ _ (by omega)]
  by_cases h : k' = k
  · rw [if_pos h, Q4.plus_at _ hl hl', h]
    simp
  · rw [if_neg h, if_neg (fun q => h q.1)]; omega
/-- what a pair's rule adds -/
def adD (rs : List Fac) (k l j : Nat) : Int := if (rs.getD j default).l.size = 0 then (if ((wds rs).getD (rs.getD j default).a.toNat []).getLast? = some k ∧ ((wds rs).getD (rs.getD j default).b.toNat []).head? = some l then 1 else 0) else 0
theorem pcT_word {rs : List Fac} (hwf : WF rs) {k l : Nat} (_hk : k < 4) (hl : l < 4) : ∀ i, i ≤ rs.length → ((pcT rs i).getD k Q4.nil).at_ l = sumTo (fun j => (usesOf rs).getD j 0 * adD rs k l j) i
  | 0, _ => by
    have e : sumTo (fun j => (usesOf rs).getD j 0 * adD rs k l j) 0 = 0 := rfl
    rw [e]
    unfold pcT
    match k, _hk with
    | 0, _ => match l, hl with | 0, _ => rfl | 1, _ => rfl | 2, _ => rfl | 3, _ => rfl
    | 1, _ => match l, hl with | 0, _ => rfl | 1, _ => rfl | 2, _ => rfl | 3, _ => rfl
    | 2, _ => match l, hl with | 0, _ => rfl | 1, _ => rfl | 2, _ => rfl | 3, _ => rfl
    | 3, _ => match l, hl with | 0, _ => rfl | 1, _ => rfl | 2, _ => rfl | 3, _ => rfl
  | i + 1, hi => by
    have ih := pcT_word hwf _hk hl i (by omega)
    have hr : rs[i]? = some rs[i] := List.getElem?_eq_getElem (by omega)
    have e : sumTo (fun j => (usesOf rs).getD j 0 * adD rs k l j) (i + 1) = sumTo (fun j => (usesOf rs).getD j 0 * adD rs k l j) i + (usesOf rs).getD i 0 * adD rs k l i := rfl
    rw [e, ← ih]
    rcases hwf i _ hr with ⟨h0, a0, a1, b0, b1⟩ | ⟨u, _, hlu, _, _⟩
    · rw [pcT_pair hr h0]
      unfold adD
      rw [fac_getD hr, if_pos h0]
      have la := edl_word hwf (k := rs[i].a.toNat) (by omega)
      have fb := edf_word hwf (k := rs[i].b.toNat) (by omega)
      obtain ⟨x, t, hx⟩ := List.exists_cons_of_ne_nil (wds_pos hwf (k := rs[i].b.toNat) (by omega))
      have hne := wds_pos hwf (k := rs[i].a.toNat) (by omega)
      have hla := List.getLast?_eq_some_getLast hne
      have b1' := wds_let hwf (k := rs[i].a.toNat) (by omega) _ (List.getLast_mem hne)
      have b2' := wds_let hwf (k := rs[i].b.toNat) (by omega) x (by rw [hx]; simp)
      rw [hla] at la ⊢
      rw [hx] at fb ⊢
      simp only [Option.getD_some, List.head?_cons] at la fb ⊢
      rw [la, fb, Int.toNat_natCast, Int.toNat_natCast, addT_at (pcT_len _ _) b1' b2' hl]
      simp only [Option.some.injEq]
      split
      · rename_i h; rw [if_pos ⟨h.1.symm, h.2.symm⟩]; simp
      · rename_i h; rw [if_neg (fun q => h ⟨q.1.symm, q.2.symm⟩)]; simp
    · have hz : rs[i].l.size ≠ 0 := by rw [hlu]; show (1 : Nat) ≠ 0; omega
      rw [pcT_let hr hz]
      unfold adD
      rw [fac_getD hr, if_neg hz]; simp
/-- the pairs of letters are those of the word -/
theorem pc_word {rs : List Fac} (hwf : WF rs) {k l : Nat} (hk : k < 4) (hl : l < 4) : ((pcAll rs).getD k Q4.nil).at_ l = adj k l (wdN rs) := by
  unfold pcAll
  rw [pcT_word hwf hk hl _ (Nat.le_refl _)]
  unfold wdN
  split
  · rename_i h; subst h; rfl
  · rename_i h
    have h0 : 0 < rs.length := List.length_pos_iff.2 h
    refine use_sum hwf h0 (fun j => adj k l ((wds rs).getD j [])) (adD rs k l) (fun i r hr hz => ?_) (fun i r hr hz => ?_)
    · have hi := (List.getElem?_eq_some_iff.1 hr).1
      rcases hwf i r hr with ⟨_, a0, a1, b0, b1⟩ | ⟨u, _, hlu, _, _⟩
      · unfold adD
        rw [fac_getD hr, if_pos hz]
        rw [show (wds rs).getD i [] = (wds rs).getD r.a.toNat [] ++ (wds rs).getD r.b.toNat [] from full_pair [] wdF wdG hwf hr hz, adj_app k l _ _ (wds_pos hwf (by omega))]
      · rw [hlu] at hz; exact absurd hz (show ¬ (1 : Nat) = 0 by omega)
    · unfold adD
      rw [fac_getD hr, if_neg hz]
      refine ⟨?_, rfl⟩
      rw [show (wds rs).getD i [] = [letN r.l] from full_let [] wdF wdG hr hz]
      simp [adj]
end Go.Proofs.Ytgdbpkpaacbhhaa


/-
  Counts, ranks and selections of letters, inversions and places: what they are for the word.
-/
namespace Go.Proofs.Ytgdbpkpaacbhhaa

def cn (l : Nat) (u : List Nat) : Int := (u.count l : Int)
theorem cn_app (l : Nat) (u v : List Nat) : cn l (u ++ v) = cn l u + cn l v := by simp [cn, List.count_append]
theorem cn_nil (l : Nat) : cn l [] = 0 := rfl
theorem cn_cons (l x : Nat) (u : List Nat) : cn l (x :: u) = (if x = l then 1 else 0) + cn l u := by
  unfold cn
  rw [List.count_cons]
  by_cases h : x = l
  · simp [h]; omega
  · simp [h]
theorem cn_rev (l : Nat) (u : List Nat) : cn l u.reverse = cn l u := by simp [cn]
theorem cn_nn (l : Nat) (u : List Nat) : 0 ≤ cn l u := by unfold cn; omega
theorem cn_le (l : Nat) (u : List Nat) : cn l u ≤ u.length := by unfold cn; exact Int.ofNat_le.2 List.count_le_length
/-- all counts of a word -/
def cq (u : List Nat) : Q4 := ⟨cn 0 u, cn 1 u, cn 2 u, cn 3 u⟩
theorem cq_at (u : List Nat) {l : Nat} (h : l < 4) : (cq u).at_ l = cn l u := by
  match l, h with
  | 0, _ => rfl
  | 1, _ => rfl
  | 2, _ => rfl
  | 3, _ => rfl
theorem cnts_word {rs : List Fac} (hwf : WF rs) {k : Nat} (hk : k < rs.length) : (cnts rs).getD k Q4.nil = cq ((wds rs).getD k []) := by
  refine full_hom (d := Q4.nil) (F := cntF) (G := cntG) hwf cq (fun l hl => ?_) (fun u v r _ _ _ _ => ?_) k hk
  · match l, hl with
    | 0, _ => rfl
    | 1, _ => rfl
    | 2, _ => rfl
    | 3, _ => rfl
  · simp only [cntG, cq, cn_app]
theorem topQ_word {rs : List Fac} (hwf : WF rs) : topQ rs = cq (wdN rs) := by
  unfold topQ wdN
  by_cases h : rs = []
  · subst h; rfl
  · have h0 : rs.length ≠ 0 := fun e => h (List.eq_nil_of_length_eq_zero e)
    rw [if_neg h0, if_neg h, cnts_word hwf (by omega)]
section
variable {rs : List Fac} {ls : List Int}
theorem wds_kids (hwf : WF rs) {r : Nat} {x : Fac} (hx : rs[r]? = some x) (h : ((wds rs).getD r []).length ≠ 1 ∨ x.l.size = 0) :
    x.l.size = 0 ∧ x.a.toNat < r ∧ x.b.toNat < r ∧ (wds rs).getD r [] = (wds rs).getD x.a.toNat [] ++ (wds rs).getD x.b.toNat [] := by
  rcases hwf r x hx with ⟨h0, a0, a1, b0, b1⟩ | ⟨c, hc, hl, _, _⟩
  · exact ⟨h0, by omega, by omega, full_pair [] wdF wdG hwf hx h0⟩
  · exfalso
    have e2 := full_let (d := []) (F := wdF) (G := wdG) hx (by rw [hl]; show (1 : Nat) ≠ 0; omega)
    rcases h with h | h
    · apply h; unfold wds; rw [e2]; rfl
    · rw [hl] at h; exact absurd h (show ¬ (1 : Nat) = 0 by omega)
theorem rk_word (hls : gLens rs [] = some ls) {l : Nat} (hl : l < 4) : ∀ (f r : Nat) (m : Int), r < f → r < rs.length → rk (rkV rs l) ls rs f r m = cn l (((wds rs).getD r []).take m.toNat)
  | 0, _, _, h, _ => by omega
  | f + 1, r, m, _, hr => by
    have hwf := wf_of hls
    have hlen := lens_word hls hr
    rw [rk]
    by_cases h0 : m ≤ 0
    · rw [if_pos h0, show m.toNat = 0 by omega]; rfl
    rw [if_neg h0]
    by_cases h1 : ls.getD r 0 ≤ m
    · rw [if_pos h1, List.take_of_length_le (by omega)]
      unfold rkV
      rw [cnts_word hwf hr, cq_at _ hl]
    rw [if_neg h1]
    have hx : rs[r]? = some (rs[r]'hr) := List.getElem?_eq_getElem _
    rw [hx]
    obtain ⟨h2, ha, hb, e⟩ := wds_kids hwf hx (.inl (by omega))
    show rk (rkV rs l) ls rs f _ m + rk (rkV rs l) ls rs f _ _ = _
    rw [rk_word hls hl f _ m (by omega) (by omega), rk_word hls hl f _ _ (by omega) (by omega), e, List.take_append, cn_app, lens_word hls (by omega)]
    congr 2
    congr 1
    omega
theorem rkT_word (hls : gLens rs [] = some ls) {l : Nat} (hl : l < 4) (m : Int) : rkT (rkV rs l) ls rs m = cn l ((wdN rs).take m.toNat) := by
  unfold rkT
  by_cases h : rs = []
  · subst h; simp [wdN, cn]
  · have h0 : rs.length ≠ 0 := fun e => h (List.eq_nil_of_length_eq_zero e)
    rw [if_neg h0, rk_word hls hl _ _ _ (by omega) (by omega)]
    unfold wdN; rw [if_neg h]
theorem selGo_word (hls : gLens rs [] = some ls) {l : Nat} (hl : l < 4) : ∀ (f r : Nat) (k n : Int), r < f → r < rs.length → 0 ≤ k → k < cn l ((wds rs).getD r []) →
    ∃ j : Nat, selGo (cnts rs) ls rs l f r k n = n + j ∧ ((wds rs).getD r [])[j]? = some l ∧ cn l (((wds rs).getD r []).take j) = k
  | 0, _, _, _, h, _, _, _ => by omega
  | f + 1, r, k, n, _, hr, k0, k1 => by
    have hwf := wf_of hls
    have hx : rs[r]? = some (rs[r]'hr) := List.getElem?_eq_getElem _
    by_cases h0 : (rs[r]'hr).l.size = 0
    · obtain ⟨h2, ha, hb, e⟩ := wds_kids hwf hx (.inr h0)
      rw [selGo_step (by omega) hx h0, cnts_word hwf (by omega), cq_at _ hl, Nat.add_sub_cancel]
      rw [e, cn_app] at k1
      by_cases hlt : k < cn l ((wds rs).getD (rs[r]'hr).a.toNat [])
      · rw [if_pos hlt]
        obtain ⟨j, e1, e2, e3⟩ := selGo_word hls hl f (rs[r]'hr).a.toNat k n (by omega) (by omega) k0 hlt
        have hj := (List.getElem?_eq_some_iff.1 e2).1
        refine ⟨j, e1, ?_, ?_⟩
        · rw [e, List.getElem?_append_left hj]; exact e2
        · rw [e, List.take_append_of_le_length (by omega)]; exact e3
      · rw [if_neg hlt]
        obtain ⟨j, e1, e2, e3⟩ := selGo_word hls hl f (rs[r]'hr).b.toNat (k - cn l ((wds rs).getD (rs[r]'hr).a.toNat [])) (n + ls.getD (rs[r]'hr).a.toNat 0) (by omega) (by omega) (by omega) (by omega)
        have hlw := lens_word hls (show (rs[r]'hr).a.toNat < rs.length by omega)
        refine ⟨((wds rs).getD (rs[r]'hr).a.toNat []).length + j, by rw [e1, hlw]; omega, ?_, ?_⟩
        · rw [e, List.getElem?_append_right (by omega), Nat.add_sub_cancel_left]; exact e2
        · rw [e, List.take_append, List.take_of_length_le (by omega), cn_app, Nat.add_sub_cancel_left, e3]; omega
    · rw [selGo_stop (by omega) hx h0]
      have e2 := full_let (d := []) (F := wdF) (G := wdG) hx h0
      have e3 : (wds rs).getD r [] = [letN (rs[r]'hr).l] := e2
      rw [e3] at k1 ⊢
      rw [cn_cons, cn_nil] at k1
      by_cases hll : letN (rs[r]'hr).l = l
      · refine ⟨0, by omega, by rw [hll]; rfl, ?_⟩
        rw [if_pos hll] at k1
        show cn l [] = k
        rw [cn_nil]; omega
      · rw [if_neg hll] at k1; omega
theorem sel_word (hls : gLens rs [] = some ls) {l : Nat} (hl : l < 4) {k : Int} (k0 : 0 ≤ k) (k1 : k < cn l (wdN rs)) :
    ∃ j : Nat, selGo (cnts rs) ls rs l rs.length (rs.length - 1) k 0 = j ∧ (wdN rs)[j]? = some l ∧ cn l ((wdN rs).take j) = k := by
  by_cases h : rs = []
  · subst h; rw [show wdN [] = [] from rfl, cn_nil] at k1; omega
  · have h0 : 0 < rs.length := List.length_pos_iff.2 h
    have e : wdN rs = (wds rs).getD (rs.length - 1) [] := by unfold wdN; rw [if_neg h]
    rw [e] at k1 ⊢
    obtain ⟨j, e1, e2, e3⟩ := selGo_word hls hl rs.length (rs.length - 1) k 0 (by omega) (by omega) k0 k1
    exact ⟨j, by omega, e2, e3⟩
end
theorem use_goG {rs : List Fac} (hwf : WF rs) (c dl : Nat → Int) (hp : ∀ (i : Nat) (r : Fac), rs[i]? = some r → r.l.size = 0 → c i = c r.a.toNat + c r.b.toNat + dl i)
    (hl : ∀ (i : Nat) (r : Fac), rs[i]? = some r → r.l.size ≠ 0 → c i = dl i) (T : Int) :
    ∀ (m : Nat) (us : List Int), m ≤ rs.length → us.length = rs.length → sumTo (fun j => us.getD j 0 * c j) m + (sumTo (fun j => us.getD j 0 * dl j) rs.length - sumTo (fun j => us.getD j 0 * dl j) m) = T →
      sumTo (fun j => (useGo rs m us).getD j 0 * dl j) rs.length = T
  | 0, us, _, _, h => by
    have e1 : sumTo (fun j => us.getD j 0 * c j) 0 = 0 := rfl
    have e2 : sumTo (fun j => us.getD j 0 * dl j) 0 = 0 := rfl
    show sumTo (fun j => us.getD j 0 * dl j) rs.length = T
    omega
  | i + 1, us, hm, hlen, h => by
    have hr : rs[i]? = some rs[i] := List.getElem?_eq_getElem (by omega)
    have e1 : sumTo (fun j => us.getD j 0 * c j) (i + 1) = sumTo (fun j => us.getD j 0 * c j) i + us.getD i 0 * c i := rfl
    have e2 : sumTo (fun j => us.getD j 0 * dl j) (i + 1) = sumTo (fun j => us.getD j 0 * dl j) i + us.getD i 0 * dl i := rfl
    show sumTo (fun j => (useGo rs i (usStep rs us i)).getD j 0 * dl j) rs.length = T
    unfold usStep
    rw [fac_getD hr]
    rcases hwf i _ hr with ⟨h0, a0, a1, b0, b1⟩ | ⟨u, _, hlu, _, _⟩
    · rw [if_pos h0]
      have hc := hp i _ hr h0
      refine use_goG hwf c dl hp hl T i _ (by omega) (by rw [usePair_len]; exact hlen) ?_
      have hat := usePair_at (us := us) (a := rs[i].a.toNat) (b := rs[i].b.toNat) (i := i) (by omega) (by omega)
      have s1 : sumTo (fun j => (usePair us rs[i].a.toNat rs[i].b.toNat i).getD j 0 * c j) i = sumTo (fun j => us.getD j 0 * c j) i + us.getD i 0 * c rs[i].a.toNat + us.getD i 0 * c rs[i].b.toNat := by
        rw [sumTo_congr (g := fun j => (us.getD j 0 * c j + (if j = rs[i].a.toNat then us.getD i 0 else 0) * c j) + (if j = rs[i].b.toNat then us.getD i 0 else 0) * c j) (fun j _ => by rw [hat, Int.add_mul, Int.add_mul]), sumTo_add, sumTo_add, sum_one _ _ _ _ (by omega), sum_one _ _ _ _ (by omega)]
      have s2 : sumTo (fun j => (usePair us rs[i].a.toNat rs[i].b.toNat i).getD j 0 * dl j) rs.length - sumTo (fun j => (usePair us rs[i].a.toNat rs[i].b.toNat i).getD j 0 * dl j) i = sumTo (fun j => us.getD j 0 * dl j) rs.length - sumTo (fun j => us.getD j 0 * dl j) i :=
        sumTo_diff (by omega) (fun j h1 h2 => by rw [hat, if_neg (by omega), if_neg (by omega)]; simp)
      have s3 : us.getD i 0 * c i = us.getD i 0 * c rs[i].a.toNat + us.getD i 0 * c rs[i].b.toNat + us.getD i 0 * dl i := by rw [hc, Int.mul_add, Int.mul_add]
      omega
    · have hz : rs[i].l.size ≠ 0 := by rw [hlu]; show (1 : Nat) ≠ 0; omega
      rw [if_neg hz]
      have z1 := hl i _ hr hz
      refine use_goG hwf c dl hp hl T i us (by omega) hlen ?_
      rw [z1] at e1
      omega
theorem use_sumG {rs : List Fac} (hwf : WF rs) (h0 : 0 < rs.length) (c dl : Nat → Int) (hp : ∀ (i : Nat) (r : Fac), rs[i]? = some r → r.l.size = 0 → c i = c r.a.toNat + c r.b.toNat + dl i)
    (hl : ∀ (i : Nat) (r : Fac), rs[i]? = some r → r.l.size ≠ 0 → c i = dl i) : sumTo (fun j => (usesOf rs).getD j 0 * dl j) rs.length = c (rs.length - 1) := by
  refine use_goG hwf c dl hp hl _ rs.length (us0 rs.length) (Nat.le_refl _) (by simp [us0]) ?_
  have e : sumTo (fun j => (us0 rs.length).getD j 0 * c j) rs.length = c (rs.length - 1) := by
    rw [sumTo_congr (g := fun j => (if j = rs.length - 1 then 1 else 0) * c j) (fun j _ => by rw [use0_at _ _ h0]), sum_one _ _ _ _ (by omega)]
    simp
  omega
/-- whether a rule is some letter -/
def lcD (rs : List Fac) (l j : Nat) : Int := if (rs.getD j default).l.size = 0 then 0 else if letN (rs.getD j default).l = l then 1 else 0
/-- the counts over the first rules -/
def lcL (rs : List Fac) (i : Nat) : List Int := (List.range 4).map fun l => sumTo (fun j => (usesOf rs).getD j 0 * lcD rs l j) i
theorem lcL_all {rs : List Fac} (hwf : WF rs) : lcL rs rs.length = (List.range 4).map fun l => cn l (wdN rs) := by
  unfold lcL
  refine List.map_congr_left fun l _ => ?_
  unfold wdN
  by_cases h : rs = []
  · subst h; rfl
  · have h0 : 0 < rs.length := List.length_pos_iff.2 h
    rw [if_neg h]
    refine use_sumG hwf h0 (fun j => cn l ((wds rs).getD j [])) (lcD rs l) (fun i r hr hz => ?_) (fun i r hr hz => ?_)
    · unfold lcD
      rw [fac_getD hr, if_pos hz, show (wds rs).getD i [] = (wds rs).getD r.a.toNat [] ++ (wds rs).getD r.b.toNat [] from full_pair [] wdF wdG hwf hr hz, cn_app]; omega
    · unfold lcD
      rw [fac_getD hr, if_neg hz, show (wds rs).getD i [] = [letN r.l] from full_let (d := []) (F := wdF) (G := wdG) hr hz, cn_cons, cn_nil]; omega
end Go.Proofs.Ytgdbpkpaacbhhaa


/-
  Inversions and sums of places: what they are for the word.
-/
namespace Go.Proofs.Ytgdbpkpaacbhhaa

/-- how many are less, how many are greater -/
def ltC (x : Nat) (u : List Nat) : Int := (u.countP (fun y => decide (y < x)) : Int)
def gtC (x : Nat) (u : List Nat) : Int := (u.countP (fun y => decide (x < y)) : Int)
theorem ltC_app (x : Nat) (u v : List Nat) : ltC x (u ++ v) = ltC x u + ltC x v := by simp [ltC]
theorem ltC_cons (x y : Nat) (u : List Nat) : ltC x (y :: u) = (if y < x then 1 else 0) + ltC x u := by
  unfold ltC
  rw [List.countP_cons]
  by_cases h : y < x
  · simp [h]; omega
  · simp [h]
theorem gtC_app (x : Nat) (u v : List Nat) : gtC x (u ++ v) = gtC x u + gtC x v := by simp [gtC]
theorem gtC_cons (x y : Nat) (u : List Nat) : gtC x (y :: u) = (if x < y then 1 else 0) + gtC x u := by
  unfold gtC
  rw [List.countP_cons]
  by_cases h : x < y
  · simp [h]; omega
  · simp [h]
theorem gtC_rev (x : Nat) (u : List Nat) : gtC x u.reverse = gtC x u := by simp [gtC]
/-- the sum of the counts of lesser letters -/
def lsT (q : Q4) (k : Nat) : Nat → Int
  | 0 => 0
  | l + 1 => lsT q k l + (if l < k then q.at_ l else 0)
theorem lsT_add (p q : Q4) (k : Nat) : ∀ l, lsT (cntG p q default) k l = lsT p k l + lsT q k l
  | 0 => rfl
  | l + 1 => by
    unfold lsT
    rw [lsT_add p q k l, cntG_at]
    split <;> omega
theorem ltC_q (x : Nat) (hx : x < 4) : ∀ {v : List Nat}, (∀ y ∈ v, y < 4) → ltC x v = lsT (cq v) x 4
  | [], _ => by
    have : cq [] = Q4.nil := rfl
    rw [this]
    match x, hx with
    | 0, _ => rfl
    | 1, _ => rfl
    | 2, _ => rfl
    | 3, _ => rfl
  | y :: v, h => by
    have e : cq (y :: v) = cntG (cq [y]) (cq v) default := by
      simp only [cq, cntG, cn_cons, cn_nil, Int.add_zero]
    rw [e, lsT_add, ltC_cons, ltC_q x hx (fun z hz => h z (by simp [hz]))]
    have hy : y < 4 := h y (by simp)
    congr 1
    match x, hx, y, hy with
    | 0, _, 0, _ => rfl
    | 0, _, 1, _ => rfl
    | 0, _, 2, _ => rfl
    | 0, _, 3, _ => rfl
    | 1, _, 0, _ => rfl
    | 1, _, 1, _ => rfl
    | 1, _, 2, _ => rfl
    | 1, _, 3, _ => rfl
    | 2, _, 0, _ => rfl
    | 2, _, 1, _ => rfl
    | 2, _, 2, _ => rfl
    | 2, _, 3, _ => rfl
    | 3, _, 0, _ => rfl
    | 3, _, 1, _ => rfl
    | 3, _, 2, _ => rfl
    | 3, _, 3, _ => rfl
/-- inversions between two words -/
def crs (u v : List Nat) : Int := match u with
  | [] => 0
  | x :: r => ltC x v + crs r v
/-- inversions -/
def ivN : List Nat → Int
  | [] => 0
  | x :: r => ltC x r + ivN r
theorem ivN_app : ∀ u v : List Nat, ivN (u ++ v) = ivN u + ivN v + crs u v
  | [], v => by simp [ivN, crs]
  | x :: r, v => by
    show ltC x (r ++ v) + ivN (r ++ v) = ltC x r + ivN r + ivN v + (ltC x v + crs r v)
    rw [ltC_app, ivN_app r v]; omega
theorem crs_one : ∀ (u : List Nat) (x : Nat), crs u [x] = gtC x u
  | [], _ => rfl
  | y :: r, x => by
    show ltC y [x] + crs r [x] = _
    rw [gtC_cons, crs_one r x, ltC_cons]
    show _ + (0 : Int) + _ = _
    omega
theorem ivN_snoc (u : List Nat) (x : Nat) : ivN (u ++ [x]) = ivN u + gtC x u := by
  rw [ivN_app, crs_one]
  have : ivN [x] = 0 := rfl
  omega
theorem ivN_nn : ∀ u : List Nat, 0 ≤ ivN u
  | [] => by simp [ivN]
  | x :: r => by
    have := ivN_nn r
    show 0 ≤ ltC x r + ivN r
    unfold ltC; omega
/-- products of counts -/
def crT (p q : Q4) (k : Nat) : Nat → Int
  | 0 => 0
  | l + 1 => crT p q k l + (if l < k then p.at_ k * q.at_ l else 0)
def crS (p q : Q4) : Nat → Int
  | 0 => 0
  | k + 1 => crS p q k + crT p q k 4
theorem crT_ls (p q : Q4) (k : Nat) : ∀ l, crT p q k l = p.at_ k * lsT q k l
  | 0 => by simp [crT, lsT]
  | l + 1 => by
    unfold crT lsT
    rw [crT_ls p q k l, Int.mul_add]
    split <;> simp
theorem crS_nil (q : Q4) : crS Q4.nil q 4 = 0 := by
  have h : ∀ k, crT Q4.nil q k 4 = 0 := fun k => by
    rw [crT_ls]
    have : Q4.nil.at_ k = 0 := by
      match k with
      | 0 => rfl
      | 1 => rfl
      | 2 => rfl
      | n + 3 => rfl
    rw [this]; simp
  simp [crS, h]
theorem crS_add (p p' q : Q4) : ∀ k, crS (cntG p p' default) q k = crS p q k + crS p' q k
  | 0 => rfl
  | k + 1 => by
    unfold crS
    rw [crS_add p p' q k, crT_ls, crT_ls, crT_ls, cntG_at, Int.add_mul]; omega
theorem crS_one (q : Q4) {x : Nat} (hx : x < 4) : crS (cq [x]) q 4 = lsT q x 4 := by
  have h : ∀ k, crT (cq [x]) q k 4 = (cq [x]).at_ k * lsT q k 4 := fun k => crT_ls _ _ _ _
  simp only [crS, h]
  match x, hx with
  | 0, _ => show (0 : Int) + 1 * _ + 0 * _ + 0 * _ + 0 * _ = _; simp
  | 1, _ => show (0 : Int) + 0 * _ + 1 * _ + 0 * _ + 0 * _ = _; simp
  | 2, _ => show (0 : Int) + 0 * _ + 0 * _ + 1 * _ + 0 * _ = _; simp
  | 3, _ => show (0 : Int) + 0 * _ + 0 * _ + 0 * _ + 1 * _ = _; simp
theorem crs_q : ∀ {u v : List Nat}, (∀ x ∈ u, x < 4) → (∀ x ∈ v, x < 4) → crs u v = crS (cq u) (cq v) 4
  | [], v, _, _ => by
    have : cq [] = Q4.nil := rfl
    rw [this, crS_nil]; rfl
  | x :: r, v, hu, hv => by
    have e : cq (x :: r) = cntG (cq [x]) (cq r) default := by
      simp only [cq, cntG, cn_cons, cn_nil, Int.add_zero]
    show ltC x v + crs r v = _
    rw [e, crS_add, crS_one _ (hu x (by simp)), ltC_q x (hu x (by simp)) hv, crs_q (fun z hz => hu z (by simp [hz])) hv]
/-- the inversions of a word and of its turned word -/
theorem iv_turn : ∀ {u : List Nat}, (∀ x ∈ u, x < 4) → ivN u + ivN u.reverse = crS (cq u) (cq u) 4
  | [], _ => by
    have : cq [] = Q4.nil := rfl
    rw [this, crS_nil]; rfl
  | x :: r, h => by
    have ih := iv_turn (u := r) (fun z hz => h z (by simp [hz]))
    have hx : x < 4 := h x (by simp)
    have hr : ∀ z ∈ r, z < 4 := fun z hz => h z (by simp [hz])
    rw [List.reverse_cons, ivN_snoc, gtC_rev]
    have e : cq (x :: r) = cntG (cq [x]) (cq r) default := by
      simp only [cq, cntG, cn_cons, cn_nil, Int.add_zero]
    have e1 : ∀ k, crT (cntG (cq [x]) (cq r) default) (cntG (cq [x]) (cq r) default) k 4 = ((cq [x]).at_ k + (cq r).at_ k) * (lsT (cq [x]) k 4 + lsT (cq r) k 4) := fun k => by rw [crT_ls, cntG_at, lsT_add]
    have e2 : ∀ k, crT (cq r) (cq r) k 4 = (cq r).at_ k * lsT (cq r) k 4 := fun k => crT_ls _ _ _ _
    have g1 : gtC x r = (cq r).at_ 1 * lsT (cq [x]) 1 4 + (cq r).at_ 2 * lsT (cq [x]) 2 4 + (cq r).at_ 3 * lsT (cq [x]) 3 4 := by
      rw [← crs_one, crs_q hr (fun z hz => by simp at hz; omega)]
      simp only [crS, crT_ls]
      have : lsT (cq [x]) 0 4 = 0 := rfl
      rw [this]; simp
    have l1 : ltC x r = (cq [x]).at_ 0 * lsT (cq r) 0 4 + (cq [x]).at_ 1 * lsT (cq r) 1 4 + (cq [x]).at_ 2 * lsT (cq r) 2 4 + (cq [x]).at_ 3 * lsT (cq r) 3 4 := by
      rw [ltC_q x hx hr, ← crS_one _ hx]
      simp only [crS, crT_ls]; omega
    have z : ∀ k, k < 4 → (cq [x]).at_ k * lsT (cq [x]) k 4 = 0 := fun k hk => by
      match x, hx, k, hk with
      | 0, _, 0, _ => rfl
      | 0, _, 1, _ => rfl
      | 0, _, 2, _ => rfl
      | 0, _, 3, _ => rfl
      | 1, _, 0, _ => rfl
      | 1, _, 1, _ => rfl
      | 1, _, 2, _ => rfl
      | 1, _, 3, _ => rfl
      | 2, _, 0, _ => rfl
      | 2, _, 1, _ => rfl
      | 2, _, 2, _ => rfl
      | 2, _, 3, _ => rfl
      | 3, _, 0, _ => rfl
      | 3, _, 1, _ => rfl
      | 3, _, 2, _ => rfl
      | 3, _, 3, _ => rfl
    have t0 := z 0 (by omega)
    have t1 := z 1 (by omega)
    have t2 := z 2 (by omega)
    have t3 := z 3 (by omega)
    have t4 : lsT (cq [x]) 0 4 = 0 := rfl
    rw [e]
    show ltC x r + ivN r + (ivN r.reverse + gtC x r) = _
    simp only [crS, e1, e2, Int.add_mul, Int.mul_add, t4, Int.mul_zero] at ih ⊢
    omega
/-- the value modulo -/
theorem md_add {a b m : Int} {a' b' : Int} (h1 : a % m = a' % m) (h2 : b % m = b' % m) : (a + b) % m = (a' + b') % m := by
  rw [Int.add_emod, h1, h2, ← Int.add_emod]
theorem md_mul {a b m : Int} {a' b' : Int} (h1 : a % m = a' % m) (h2 : b % m = b' % m) : (a * b) % m = (a' * b') % m := by
  rw [Int.mul_emod, h1, h2, ← Int.mul_emod]
theorem invT_md (p q : Q4) (m : Int) (k : Nat) : ∀ l, invT p q m k l % m = crT p q k l % m
  | 0 => rfl
  | l + 1 => by
    unfold invT crT
    refine md_add (invT_md p q m k l) ?_
    split
    · unfold invP
      rw [Int.emod_emod]
      exact md_mul (Int.emod_emod _ _) (Int.emod_emod _ _)
    · rfl
theorem invS_md (p q : Q4) (m : Int) : ∀ k, invS p q m k % m = crS p q k % m
  | 0 => rfl
  | k + 1 => by
    unfold invS crS
    exact md_add (invS_md p q m k) (invT_md p q m k 4)
section
variable {rs : List Fac} {ls : List Int}
/-- a fold whose value is that of the word, where the rules of a pair are asked for their words -/
theorem full_word {α : Type} {d : α} {F : Nat → α} {G : α → α → Fac → α} (hwf : WF rs) (h : List Nat → α) (hF : ∀ k, k < 4 → F k = h [k])
    (hG : ∀ r : Fac, r.a.toNat < rs.length → r.b.toNat < rs.length → G (h ((wds rs).getD r.a.toNat [])) (h ((wds rs).getD r.b.toNat [])) r = h ((wds rs).getD r.a.toNat [] ++ (wds rs).getD r.b.toNat [])) :
    ∀ k, k < rs.length → (full d F G rs).getD k d = h ((wds rs).getD k []) := by
  intro k
  induction k using Nat.strongRecOn with
  | ind k ih =>
    intro hk
    have hr : rs[k]? = some rs[k] := List.getElem?_eq_getElem hk
    rcases hwf k _ hr with ⟨h0, ha0, ha1, hb0, hb1⟩ | ⟨c, hc, hl, _, _⟩
    · have e1 := full_pair (d := d) (F := F) (G := G) hwf hr h0
      have e2 := full_pair (d := []) (F := wdF) (G := wdG) hwf hr h0
      rw [e1, ih rs[k].a.toNat (by omega) (by omega), ih rs[k].b.toNat (by omega) (by omega), hG _ (by omega) (by omega)]
      unfold wds at *
      rw [e2]; rfl
    · have hz : rs[k].l.size ≠ 0 := by rw [hl]; show (1 : Nat) ≠ 0; omega
      have e1 := full_let (d := d) (F := F) (G := G) hr hz
      have e2 := full_let (d := []) (F := wdF) (G := wdG) hr hz
      have h4 : letN rs[k].l < 4 := by
        rw [hl, letN_one]
        have := letB_num hc
        omega
      rw [e1, hF _ h4]
      unfold wds
      rw [e2]; rfl
theorem inv_word (hwf : WF rs) {m : Int} (hm : 1 ≤ m) {k : Nat} (hk : k < rs.length) : (full 0 plF (invG (cnts rs) m) rs).getD k 0 = ivN ((wds rs).getD k []) % m := by
  refine full_word hwf (fun u => ivN u % m) (fun k _ => ?_) (fun r ha hb => ?_) k hk
  · show (0 : Int) = 0 % m
    simp
  · show (ivN _ % m + ivN _ % m + invS ((cnts rs).getD r.a.toNat Q4.nil) ((cnts rs).getD r.b.toNat Q4.nil) m 4) % m = _
    rw [cnts_word hwf ha, cnts_word hwf hb, ivN_app, crs_q (wds_let hwf ha) (wds_let hwf hb)]
    exact md_add (md_add (Int.emod_emod _ _) (Int.emod_emod _ _)) (invS_md _ _ _ _)
theorem invTop_word (hwf : WF rs) {m : Int} (hm : 1 ≤ m) : topI plF (invG (cnts rs) m) rs = ivN (wdN rs) % m := by
  unfold topI wdN
  by_cases h : rs = []
  · subst h; simp [ivN]
  · have h0 : rs.length ≠ 0 := fun e => h (List.eq_nil_of_length_eq_zero e)
    rw [if_neg h0, if_neg h, inv_word hwf hm (by omega)]
end
/-- the sum of the places of a letter -/
def plN (l : Nat) : List Nat → Int
  | [] => 0
  | _ :: r => plN l r + cn l r
theorem plN_app (l : Nat) : ∀ u v : List Nat, plN l (u ++ v) = plN l u + plN l v + u.length * cn l v
  | [], v => by simp [plN]
  | x :: r, v => by
    show plN l (r ++ v) + cn l (r ++ v) = plN l r + cn l r + plN l v + ((r.length + 1 : Nat) : Int) * cn l v
    rw [plN_app l r v, cn_app, show ((r.length + 1 : Nat) : Int) = (r.length : Int) + 1 by omega, Int.add_mul]; omega
theorem plN_snoc (l x : Nat) (u : List Nat) : plN l (u ++ [x]) = plN l u + if x = l then (u.length : Int) else 0 := by
  rw [plN_app, cn_cons, cn_nil]
  have : plN l [x] = 0 := rfl
  rw [this]
  split <;> simp
theorem plN_nn (l : Nat) : ∀ u : List Nat, 0 ≤ plN l u
  | [] => by simp [plN]
  | x :: r => by have := plN_nn l r; have := cn_nn l r; show 0 ≤ plN l r + cn l r; omega
theorem pl_turn (l : Nat) : ∀ u : List Nat, plN l u + plN l u.reverse = ((u.length : Int) - 1) * cn l u
  | [] => by simp [plN, cn_nil]
  | x :: r => by
    have ih := pl_turn l r
    rw [List.reverse_cons, plN_snoc, List.length_reverse, cn_cons, List.length_cons]
    show plN l r + cn l r + _ = _
    rw [show ((r.length + 1 : Nat) : Int) - 1 = (r.length : Int) by omega, Int.mul_add]
    rw [Int.sub_mul] at ih
    by_cases h : x = l
    · rw [if_pos h, if_pos h]; omega
    · rw [if_neg h, if_neg h]; omega
section
variable {rs : List Fac} {ls : List Int}
theorem pl_word (hls : gLens rs [] = some ls) {l : Nat} (hl : l < 4) {m : Int} (hm : 1 ≤ m) {k : Nat} (hk : k < rs.length) : (full 0 plF (plG ls (cnts rs) l m) rs).getD k 0 = plN l ((wds rs).getD k []) % m := by
  have hwf := wf_of hls
  refine full_word hwf (fun u => plN l u % m) (fun k _ => ?_) (fun r ha hb => ?_) k hk
  · show (0 : Int) = 0 % m
    simp
  · show (plN l _ % m + plN l _ % m + (ls.getD r.a.toNat 0) % m * (((cnts rs).getD r.b.toNat Q4.nil).at_ l % m)) % m = _
    rw [cnts_word hwf hb, cq_at _ hl, lens_word hls ha, plN_app]
    exact md_add (md_add (Int.emod_emod _ _) (Int.emod_emod _ _)) (md_mul (Int.emod_emod _ _) (Int.emod_emod _ _))
theorem plTop_word (hls : gLens rs [] = some ls) {l : Nat} (hl : l < 4) {m : Int} (hm : 1 ≤ m) : topI plF (plG ls (cnts rs) l m) rs = plN l (wdN rs) % m := by
  unfold topI wdN
  by_cases h : rs = []
  · subst h; simp [plN]
  · have h0 : rs.length ≠ 0 := fun e => h (List.eq_nil_of_length_eq_zero e)
    rw [if_neg h0, if_neg h, pl_word hls hl hm (by omega)]
end
end Go.Proofs.Ytgdbpkpaacbhhaa


/-
  The grammar of a plain word: the plain part.
-/
namespace Go.Proofs.Ytgdbpkpaacbhhaa

/-- the letters that a word has, in order -/
def ksP (w : List UInt8) : List UInt8 := [97, 98, 99, 100].filter (fun c => decide (c ∈ w))
def ruleC (c : UInt8) : Fac := ⟨⟨#[c]⟩, 0, 0⟩
def lettersP (w : List UInt8) : List Fac := (ksP w).map ruleC
/-- the place of a letter's rule -/
def atP (w : List UInt8) (c : UInt8) : Int := (((ksP w).idxOf c : Nat) : Int)
/-- the rules for the letters from the second on -/
def pairsP (w : List UInt8) : List UInt8 → Int → Nat → List Fac
  | [], _, _ => []
  | c :: cs, before, len => ⟨⟨#[]⟩, before, atP w c⟩ :: pairsP w cs (len : Int) (len + 1)
def plainL (w : List UInt8) : List Fac :=
  match w with
  | [] => []
  | c :: cs => lettersP w ++ pairsP w cs (atP w c) (ksP w).length
theorem pairsP_len (w : List UInt8) : ∀ (cs : List UInt8) (b : Int) (n : Nat), (pairsP w cs b n).length = cs.length
  | [], _, _ => rfl
  | _ :: cs, b, n => by simp [pairsP, pairsP_len w cs]
theorem ksP_len (w : List UInt8) : (ksP w).length ≤ 4 := by
  unfold ksP; exact Nat.le_trans (List.length_filter_le _ _) (by simp)
theorem plainL_len (w : List UInt8) : (plainL w).length ≤ w.length + 4 := by
  unfold plainL
  split
  · simp
  · rename_i c cs
    rw [List.length_append, pairsP_len]
    have := ksP_len (c :: cs)
    simp only [lettersP, List.length_map, List.length_cons]; omega
/-- the place of a rule in a list, or -1 -/
def ixR (f : Fac) : List Fac → Int → Int
  | [], _ => -1
  | x :: r, i => if f = x then i else ixR f r (i + 1)
theorem ixR_idx (f : Fac) : ∀ (xs : List Fac) (i : Int), f ∈ xs → ixR f xs i = i + (xs.idxOf f : Nat)
  | [], _, h => by simp at h
  | x :: r, i, h => by
    unfold ixR
    by_cases hx : f = x
    · subst hx; simp
    · have hx' : (x == f) = false := by simp; exact fun e => hx e.symm
      rw [if_neg hx, ixR_idx f r (i + 1) (by simpa [hx] using h), List.idxOf_cons, hx']
      simp; omega
theorem ruleC_inj {a b : UInt8} : ruleC a = ruleC b ↔ a = b := by simp [ruleC]
theorem idx_map (c : UInt8) : ∀ ks : List UInt8, (ks.map ruleC).idxOf (ruleC c) = ks.idxOf c
  | [] => rfl
  | k :: ks => by
    rw [List.map_cons, List.idxOf_cons, List.idxOf_cons, idx_map c ks]
    by_cases h : k = c
    · simp [h]
    · have h1 : (k == c) = false := by simpa using h
      have h2 : (ruleC k == ruleC c) = false := by simpa [ruleC_inj] using h
      rw [h1, h2]
theorem mem_ks {w : List UInt8} {c : UInt8} (hc : c ∈ w) (hl : letB c = true) : c ∈ ksP w := by
  unfold ksP
  rw [List.mem_filter]
  refine ⟨?_, by simpa using hc⟩
  have h : (97 : Int) ≤ c.toNat ∧ (c.toNat : Int) ≤ 100 := by simpa [letB] using hl
  have h4 : c.toNat = 97 ∨ c.toNat = 98 ∨ c.toNat = 99 ∨ c.toNat = 100 := by omega
  simp only [List.mem_cons, List.not_mem_nil, or_false, ← UInt8.toNat_inj]
  exact h4
theorem atP_ix {w : List UInt8} {c : UInt8} (hc : c ∈ w) (hl : letB c = true) : ixR (ruleC c) (lettersP w) 0 = atP w c := by
  have hm : ruleC c ∈ lettersP w := List.mem_map.2 ⟨c, mem_ks hc hl, rfl⟩
  rw [ixR_idx _ _ _ hm]
  unfold lettersP atP
  rw [idx_map]; simp
theorem atP_lt {w : List UInt8} {c : UInt8} (hc : c ∈ w) (hl : letB c = true) : 0 ≤ atP w c ∧ atP w c < ((ksP w).length : Int) := by
  have := List.idxOf_lt_length_of_mem (mem_ks hc hl)
  unfold atP; omega
end Go.Proofs.Ytgdbpkpaacbhhaa


/-
  A grammar trimmed: the plain part.
-/
namespace Go.Proofs.Ytgdbpkpaacbhhaa

/-- a rule with the numbers that stand for its parts -/
def trR (same : List Int) (r : Fac) : Fac := if r.l.size = 0 then ⟨⟨#[]⟩, same.getD r.a.toNat 0, same.getD r.b.toNat 0⟩ else r
/-- the rules, told by the first equal ones; the first equal one of each rule -/
def trK : List Fac → List Fac → List Int → List Fac × List Int
  | [], kept, same => (kept, same)
  | r :: rs, kept, same => trK rs (kept ++ [trR same r]) (same ++ [((kept.idxOf (trR same r) : Nat) : Int)])
/-- which rules the last one is made of -/
def useStep (kept : List Fac) (i : Nat) (u : List Bool) : List Bool := if u.getD i false = true ∧ (kept.getD i default).l.size = 0 then (u.set (kept.getD i default).a.toNat true).set (kept.getD i default).b.toNat true else u
def useT (kept : List Fac) : Nat → List Bool → List Bool
  | 0, u => u
  | i + 1, u => useT kept i (useStep kept i u)
def use0 (n : Nat) (same : List Int) : List Bool := (List.replicate n false).set (same.getD (n - 1) 0).toNat true
/-- the rules that are left -/
def outT (used : List Bool) : Nat → List Fac → List Fac → List Int → List Fac
  | _, [], out, _ => out
  | i, r :: ks, out, at_ => if used.getD i false = true then outT used (i + 1) ks (out ++ [trR at_ r]) (at_.set i (out.length : Int)) else outT used (i + 1) ks out at_
def trimL (rs : List Fac) : List Fac :=
  if rs.length = 0 then [] else outT (useT (trK rs [] []).1 rs.length (use0 rs.length (trK rs [] []).2)) 0 (trK rs [] []).1 [] (List.replicate rs.length 0)

/-- what holds of the rules that are told by the first equal ones -/
structure TrI (kept : List Fac) (same : List Int) : Prop where
  len : same.length = kept.length
  s : ∀ j, j < kept.length → 0 ≤ same.getD j 0 ∧ same.getD j 0 ≤ (j : Int)
  k : ∀ (j : Nat) (r : Fac), kept[j]? = some r → (r.l.size = 0 ∧ 0 ≤ r.a ∧ r.a < (j : Int) ∧ 0 ≤ r.b ∧ r.b < (j : Int)) ∨ (∃ c, letB c = true ∧ r.l = ⟨#[c]⟩ ∧ r.a = 0 ∧ r.b = 0)
theorem TrI.nil : TrI [] [] := ⟨rfl, fun j h => absurd h (by simp), fun j r h => by simp at h⟩
theorem TrI.step {rs kept : List Fac} {same : List Int} (h : TrI kept same) (hwf : WF rs) {r : Fac} (hr : rs[kept.length]? = some r) : TrI (kept ++ [trR same r]) (same ++ [((kept.idxOf (trR same r) : Nat) : Int)]) := by
  have hl := h.len
  refine ⟨by simp [hl], fun j hj => ?_, fun j x hx => ?_⟩
  · simp only [List.length_append, List.length_singleton] at hj
    by_cases e : j < kept.length
    · rw [List.getD_eq_getElem?_getD, List.getElem?_append_left (by omega), ← List.getD_eq_getElem?_getD]; exact h.s j e
    · obtain rfl : j = kept.length := by omega
      rw [List.getD_eq_getElem?_getD, List.getElem?_append_right (by omega), hl, Nat.sub_self]
      simp only [List.getElem?_cons_zero, Option.getD_some]
      have := List.idxOf_le_length (a := trR same r) (l := kept)
      omega
  · by_cases e : j < kept.length
    · rw [List.getElem?_append_left e] at hx; exact h.k j x hx
    · have hj2 := (List.getElem?_eq_some_iff.1 hx).1
      simp only [List.length_append, List.length_singleton] at hj2
      obtain rfl : j = kept.length := by omega
      rw [List.getElem?_append_right (Nat.le_refl _), Nat.sub_self] at hx
      obtain rfl : trR same r = x := by simpa using hx
      rcases hwf _ r hr with ⟨h0, a0, a1, b0, b1⟩ | ⟨c, hc, hxl, ha, hb⟩
      · left
        unfold trR
        rw [if_pos h0]
        have s1 := h.s r.a.toNat (by omega)
        have s2 := h.s r.b.toNat (by omega)
        exact ⟨rfl, s1.1, by simp only; omega, s2.1, by simp only; omega⟩
      · right
        have h0 : r.l.size ≠ 0 := by rw [hxl]; show (1 : Nat) ≠ 0; omega
        unfold trR
        rw [if_neg h0]
        exact ⟨c, hc, hxl, ha, hb⟩
/-- the rules told, step by step -/
theorem trK_take (rs : List Fac) {k : Nat} {kept : List Fac} {same : List Int} {r : Fac} (hr : rs[k]? = some r) (H : trK (rs.drop k) kept same = trK rs [] []) : trK (rs.drop (k + 1)) (kept ++ [trR same r]) (same ++ [((kept.idxOf (trR same r) : Nat) : Int)]) = trK rs [] [] := by
  rw [← H, drop_cons hr]; rfl
theorem trK_all {rs : List Fac} {kept : List Fac} {same : List Int} {k : Nat} (hk : rs.length ≤ k) (H : trK (rs.drop k) kept same = trK rs [] []) : (kept, same) = trK rs [] [] := by
  rw [← H, List.drop_of_length_le hk]; rfl
theorem trK_I {rs : List Fac} (hwf : WF rs) : ∀ (k : Nat) (kept : List Fac) (same : List Int), TrI kept same → kept.length = k → k ≤ rs.length → TrI (trK (rs.drop k) kept same).1 (trK (rs.drop k) kept same).2 ∧ (trK (rs.drop k) kept same).1.length = rs.length := by
  intro k
  induction hd : rs.length - k generalizing k with
  | zero =>
    intro kept same h hk hle
    rw [List.drop_of_length_le (by omega)]
    exact ⟨h, by show kept.length = _; omega⟩
  | succ d ih =>
    intro kept same h hk hle
    have hr : rs[k]? = some (rs[k]'(by omega)) := List.getElem?_eq_getElem _
    rw [drop_cons hr]
    exact ih (k + 1) (by omega) _ _ (h.step hwf (by rw [hk]; exact hr)) (by simp [hk]) (by omega)
theorem idxOf_le {α : Type} [DecidableEq α] {x : α} : ∀ {l : List α} {j : Nat}, l[j]? = some x → l.idxOf x ≤ j
  | [], j, h => by simp at h
  | y :: l, 0, h => by
    obtain rfl : y = x := by simpa using h
    simp
  | y :: l, j + 1, h => by
    rw [List.idxOf_cons]
    by_cases e : y = x
    · subst e; simp
    · have := idxOf_le (l := l) (j := j) (x := x) (by simpa using h)
      rw [show (y == x) = false by simpa using e]
      show (bif false then 0 else l.idxOf x + 1) ≤ j + 1
      simp only [cond_false]
      omega
/-- the least number of an equal rule, looked for among those that are first ones -/
theorem first_eq {kept : List Fac} {same : List Int} (hs : ∀ (j : Nat) (x : Fac), kept[j]? = some x → same.getD j 0 = ((kept.idxOf x : Nat) : Int)) {j : Nat} {x : Fac} (hj : kept[j]? = some x) (h0 : ∀ i, i < j → kept[i]? ≠ some x) : same.getD j 0 = (j : Int) := by
  rw [hs j x hj]
  have hlt := (List.getElem?_eq_some_iff.1 hj).1
  have hm : x ∈ kept := List.mem_of_getElem? hj
  have h1 : kept.idxOf x < kept.length := List.idxOf_lt_length_iff.2 hm
  have h2 : kept[kept.idxOf x]? = some x := by rw [List.getElem?_eq_getElem h1, List.getElem_idxOf]
  rcases Nat.lt_trichotomy (kept.idxOf x) j with h | h | h
  · exact absurd h2 (h0 _ h)
  · rw [h]
  · exfalso
    have := idxOf_le hj
    omega
theorem idx_app1 {f y : Fac} {kept : List Fac} (h : f ∈ kept) : (kept ++ [y]).idxOf f = kept.idxOf f := by rw [List.idxOf_append, if_pos h]
theorem idx_app2 (y : Fac) (kept : List Fac) : (kept ++ [y]).idxOf y = kept.idxOf y := by
  rw [List.idxOf_append]
  by_cases h : y ∈ kept
  · rw [if_pos h]
  · rw [if_neg h, List.idxOf_eq_length h]; simp
/-- the map behind a rule that was known -/
theorem map_known {g : Fac → Option Value} {y : Fac} {kept : List Fac} (h : ∀ f, g f = if f ∈ kept then some (.int .i64 ((kept.idxOf f : Nat) : Int)) else none) (hy : y ∈ kept) (f : Fac) : g f = if f ∈ kept ++ [y] then some (.int .i64 (((kept ++ [y]).idxOf f : Nat) : Int)) else none := by
  rw [h f]
  by_cases hf : f ∈ kept
  · rw [if_pos hf, if_pos (List.mem_append_left _ hf), idx_app1 hf]
  · rw [if_neg hf, if_neg (by
      intro e
      rcases List.mem_append.1 e with e | e
      · exact hf e
      · rw [List.mem_singleton.1 e] at hf; exact hf hy)]
/-- and behind one that was not -/
theorem map_new {g : Fac → Option Value} {y : Fac} {kept : List Fac} (h : ∀ f, g f = if f ∈ kept then some (.int .i64 ((kept.idxOf f : Nat) : Int)) else none) (hy : y ∉ kept) (f : Fac) : (if f = y then some (.int .i64 (kept.length : Int)) else g f) = if f ∈ kept ++ [y] then some (.int .i64 (((kept ++ [y]).idxOf f : Nat) : Int)) else none := by
  by_cases hf : f = y
  · subst hf
    rw [if_pos rfl, if_pos (by simp), idx_app2, List.idxOf_eq_length hy]
  · rw [if_neg hf, h f]
    by_cases hk : f ∈ kept
    · rw [if_pos hk, if_pos (List.mem_append_left _ hk), idx_app1 hk]
    · rw [if_neg hk, if_neg (by
        intro e
        rcases List.mem_append.1 e with e | e
        · exact hk e
        · exact hf (List.mem_singleton.1 e))]
end Go.Proofs.Ytgdbpkpaacbhhaa


/-
  The letters of a grammar replaced: the plain part.
-/
namespace Go.Proofs.Ytgdbpkpaacbhhaa

/-- a rule with its numbers raised -/
def rsF (by_ : Int) (r : Fac) : Fac := if r.l.size = 0 then ⟨r.l, r.a + by_, r.b + by_⟩ else r
def raiseL (by_ : Int) (rs : List Fac) : List Fac := rs.map (rsF by_)
theorem raiseL_len (b : Int) (rs : List Fac) : (raiseL b rs).length = rs.length := by simp [raiseL]
/-- is a letter a rule? -/
def usedL (rs : List Fac) (u : UInt8) : Bool := rs.any fun r => decide (r.l = ⟨#[u]⟩)
theorem usedL_mem {rs : List Fac} (hwf : WF rs) (u : UInt8) : usedL rs u = decide (ruleC u ∈ rs) := by
  rw [Bool.eq_iff_iff]
  unfold usedL
  simp only [List.any_eq_true, decide_eq_true_eq]
  constructor
  · rintro ⟨r, hr, h⟩
    obtain ⟨k, hk⟩ := List.mem_iff_getElem?.1 hr
    rcases hwf k r hk with ⟨h0, _⟩ | ⟨c, _, hl, ha, hb⟩
    · rw [h] at h0; exact absurd h0 (show ¬ (1 : Nat) = 0 by omega)
    · have : r = ruleC u := by
        cases r; simp only at h ha hb; subst h ha hb; rfl
      rw [← this]; exact hr
  · intro h; exact ⟨_, h, rfl⟩
def lb (k : Nat) : UInt8 := UInt8.ofNat (97 + k)
theorem lb_num {k : Nat} (h : k < 4) : ((lb k).toNat : Int) = 97 + k := by unfold lb; simp; omega
def mlStep (rs : List Fac) (k : Nat) (w : ByteArray) (s : List Fac × List Int) : List Fac × List Int :=
  if w.size ≠ 0 ∧ usedL rs (lb k) = true then (s.1 ++ raiseL s.1.length (plainL w.data.toList), s.2.set k (((s.1.length + (plainL w.data.toList).length : Nat) : Int) - 1)) else s
def mlGo (rs : List Fac) : Nat → List ByteArray → List Fac × List Int → List Fac × List Int
  | _, [], s => s
  | k, w :: ws, s => mlGo rs (k + 1) ws (mlStep rs k w s)
def mrStep (st : List Int) (r : Fac) (s : List Fac × List Int) : List Fac × List Int :=
  if r.l.size = 0 then
    (if s.2.getD r.a.toNat 0 < 0 then (s.1, s.2 ++ [s.2.getD r.b.toNat 0])
     else if s.2.getD r.b.toNat 0 < 0 then (s.1, s.2 ++ [s.2.getD r.a.toNat 0])
     else (s.1 ++ [⟨⟨#[]⟩, s.2.getD r.a.toNat 0, s.2.getD r.b.toNat 0⟩], s.2 ++ [(s.1.length : Int)]))
  else (s.1, s.2 ++ [st.getD (letN r.l) 0])
def mrGo (st : List Int) : List Fac → List Fac × List Int → List Fac × List Int
  | [], s => s
  | r :: rs, s => mrGo st rs (mrStep st r s)
def mapS1 (rs : List Fac) (ws : List ByteArray) : List Fac × List Int := mlGo rs 0 ws ([], [-1, -1, -1, -1])
def mapS2 (rs : List Fac) (ws : List ByteArray) : List Fac × List Int := mrGo (mapS1 rs ws).2 rs ((mapS1 rs ws).1, [])

theorem wf_nil : WF [] := fun k r h => by simp at h
theorem wf_snoc {rs : List Fac} (h : WF rs) {a b : Int} (ha : 0 ≤ a ∧ a < rs.length) (hb : 0 ≤ b ∧ b < rs.length) : WF (rs ++ [⟨⟨#[]⟩, a, b⟩]) := by
  intro k r hr
  by_cases hk : k < rs.length
  · rw [List.getElem?_append_left hk] at hr; exact h k r hr
  · rw [List.getElem?_append_right (by omega)] at hr
    have hk' : k = rs.length := by
      have := (List.getElem?_eq_some_iff.1 hr).1
      simp only [List.length_cons, List.length_nil] at this; omega
    subst hk'
    simp at hr
    subst hr
    exact .inl ⟨rfl, ha.1, ha.2, hb.1, hb.2⟩
theorem wf_take {rs : List Fac} (h : WF rs) (n : Nat) : WF (rs.take n) := fun k r hr => by
  rw [List.getElem?_take] at hr
  split at hr
  · exact h k r hr
  · cases hr
theorem wf_raise {xs ys : List Fac} (hx : WF xs) (hy : WF ys) : WF (xs ++ raiseL xs.length ys) := by
  intro k r hr
  by_cases hk : k < xs.length
  · rw [List.getElem?_append_left hk] at hr; exact hx k r hr
  · rw [List.getElem?_append_right (by omega)] at hr
    unfold raiseL at hr
    rw [List.getElem?_map] at hr
    obtain ⟨y, hy1, rfl⟩ := Option.map_eq_some_iff.1 hr
    rcases hy _ y hy1 with ⟨h0, a0, a1, b0, b1⟩ | ⟨c, hc, hl, ha, hb⟩
    · unfold rsF
      rw [if_pos h0]
      exact .inl ⟨h0, by show 0 ≤ y.a + _; omega, by show y.a + _ < _; omega, by show 0 ≤ y.b + _; omega, by show y.b + _ < _; omega⟩
    · unfold rsF
      rw [if_neg (by rw [hl]; show ¬ (1 : Nat) = 0; omega)]
      exact .inr ⟨c, hc, hl, ha, hb⟩
theorem wf_letters (ks : List UInt8) (h : ∀ c ∈ ks, letB c = true) : WF (ks.map ruleC) := fun k r hr => by
  rw [List.getElem?_map] at hr
  obtain ⟨c, hc, rfl⟩ := Option.map_eq_some_iff.1 hr
  exact .inr ⟨c, h c (List.mem_of_getElem? hc), rfl, rfl, rfl⟩
theorem ks_letB {w : List UInt8} {c : UInt8} (h : c ∈ ksP w) : letB c = true := by
  unfold ksP at h
  have := (List.mem_filter.1 h).1
  simp only [List.mem_cons, List.not_mem_nil, or_false] at this
  rcases this with rfl | rfl | rfl | rfl <;> rfl
theorem wf_pairs (w : List UInt8) : ∀ (cs : List UInt8) (b : Int) (xs : List Fac), WF xs → (∀ c ∈ cs, 0 ≤ atP w c ∧ atP w c < xs.length) → 0 ≤ b → b < xs.length → WF (xs ++ pairsP w cs b xs.length)
  | [], b, xs, h, _, _, _ => by simpa [pairsP] using h
  | c :: cs, b, xs, h, hc, hb0, hb1 => by
    have h1 := hc c (by simp)
    have h2 := wf_snoc h ⟨hb0, hb1⟩ h1
    have h3 := wf_pairs w cs (xs.length : Int) (xs ++ [⟨⟨#[]⟩, b, atP w c⟩]) h2 (fun c' hc' => by have := hc c' (by simp [hc']); simp only [List.length_append, List.length_singleton]; omega) (by omega) (by simp only [List.length_append, List.length_singleton]; omega)
    simp only [List.length_append, List.length_singleton, List.append_assoc] at h3
    exact h3
theorem wf_plain {w : List UInt8} (hl : w.all letB = true) : WF (plainL w) := by
  unfold plainL
  split
  · exact wf_nil
  · rename_i c cs
    have hm : ∀ c' ∈ c :: cs, letB c' = true := by simpa using hl
    have hlen : (lettersP (c :: cs)).length = (ksP (c :: cs)).length := by simp [lettersP]
    rw [← hlen]
    have := atP_lt (w := c :: cs) (c := c) (by simp) (hm c (by simp))
    exact wf_pairs _ cs _ _ (wf_letters _ fun _ h => ks_letB h) (fun c' hc' => by rw [hlen]; exact atP_lt (by simp [hc']) (hm c' (by simp [hc']))) this.1 (by rw [hlen]; exact this.2)
theorem plainL_pos {w : List UInt8} (h : w ≠ []) (hl : w.all letB = true) : 0 < (plainL w).length := by
  unfold plainL
  split
  · exact absurd rfl h
  · rename_i c cs
    have hc : letB c = true := by simp at hl; exact hl.1
    have : 0 < (lettersP (c :: cs)).length := by
      rw [List.length_pos_iff_exists_mem]
      exact ⟨ruleC c, List.mem_map.2 ⟨c, mem_ks (by simp) hc, rfl⟩⟩
    simp only [List.length_append]; omega
/-- what holds of the letters' rules and numbers -/
structure MlI (s : List Fac × List Int) (k : Nat) : Prop where
  wf : WF s.1
  st : s.2.length = 4
  b : ∀ i, i < 4 → -1 ≤ s.2.getD i 0 ∧ s.2.getD i 0 < s.1.length
  n : s.1.length ≤ 2004 * k
theorem okW_let {s : ByteArray} (h : okW s = true) : s.data.toList.all letB = true ∧ s.size ≤ 2000 := by
  unfold okW at h; simpa [and_comm] using h
theorem MlI.step {rs : List Fac} {s : List Fac × List Int} {k : Nat} (h : MlI s k) (hk : k < 4) {w : ByteArray} (hw : okW w = true) : MlI (mlStep rs k w s) (k + 1) := by
  unfold mlStep
  split
  · rename_i hc
    obtain ⟨hl, hsz⟩ := okW_let hw
    have h1 := plainL_len w.data.toList
    have h2 := plainL_pos (w := w.data.toList) (fun e => hc.1 (by rw [← byte_len, e]; rfl)) hl
    rw [byte_len] at h1
    refine ⟨wf_raise h.wf (wf_plain hl), by simpa using h.st, fun i hi => ?_, ?_⟩
    · have := h.b i hi
      simp only [List.length_append, raiseL_len]
      rw [List.getD_eq_getElem?_getD, List.getElem?_set]
      split
      · rw [if_pos (by rw [h.st]; omega)]; simp only [Option.getD_some]; omega
      · rw [← List.getD_eq_getElem?_getD]; omega
    · have := h.n
      simp only [List.length_append, raiseL_len]; omega
  · exact ⟨h.wf, h.st, h.b, by have := h.n; omega⟩
theorem MlI.nil : MlI ([], [-1, -1, -1, -1]) 0 := ⟨wf_nil, rfl, fun i hi => by
  rcases i with _ | _ | _ | _ | i
  · decide
  · decide
  · decide
  · decide
  · omega, by simp⟩
theorem MlI.go {rs : List Fac} : ∀ (ws : List ByteArray) (k : Nat) (s : List Fac × List Int), MlI s k → k + ws.length ≤ 4 → (∀ w ∈ ws, okW w = true) → MlI (mlGo rs k ws s) (k + ws.length)
  | [], _, _, h, _, _ => h
  | w :: ws, k, s, h, hk, hw => by
    simp only [List.length_cons] at hk ⊢
    have := MlI.go (rs := rs) ws (k + 1) (mlStep rs k w s) (h.step (by omega) (hw w (by simp))) (by omega) (fun x hx => hw x (by simp [hx]))
    rw [show k + (ws.length + 1) = k + 1 + ws.length by omega]
    exact this
/-- what holds of the rules that stand for others -/
structure MrI (s : List Fac × List Int) (n k : Nat) : Prop where
  wf : WF s.1
  st : s.2.length = k
  b : ∀ i, i < k → -1 ≤ s.2.getD i 0 ∧ s.2.getD i 0 < s.1.length
  n : s.1.length ≤ n + k
theorem getD_snoc (xs : List Int) (x : Int) (i : Nat) : (xs ++ [x]).getD i 0 = if i < xs.length then xs.getD i 0 else if i = xs.length then x else 0 := by
  rw [List.getD_eq_getElem?_getD]
  split
  · rw [List.getElem?_append_left (by omega), ← List.getD_eq_getElem?_getD]
  · split
    · rename_i h; subst h; simp
    · rw [List.getElem?_eq_none (by simp; omega)]; rfl
theorem MrI.step {st : List Int} {s : List Fac × List Int} {n k : Nat} (h : MrI s n k) (hst : ∀ i, i < 4 → -1 ≤ st.getD i 0 ∧ st.getD i 0 < s.1.length) {r : Fac}
    (hr : (r.l.size = 0 ∧ 0 ≤ r.a ∧ r.a < k ∧ 0 ≤ r.b ∧ r.b < k) ∨ (∃ c, letB c = true ∧ r.l = ⟨#[c]⟩ ∧ r.a = 0 ∧ r.b = 0)) : MrI (mrStep st r s) n (k + 1) ∧ s.1.length ≤ (mrStep st r s).1.length := by
  have snoc : ∀ (out : List Fac) (x : Int), s.1.length ≤ out.length → -1 ≤ x ∧ x < out.length → ∀ i, i < k + 1 → -1 ≤ (s.2 ++ [x]).getD i 0 ∧ (s.2 ++ [x]).getD i 0 < out.length := by
    intro out x hle hx i hi
    rw [getD_snoc, h.st]
    split
    · have := h.b i (by assumption); omega
    · split
      · exact hx
      · omega
  unfold mrStep
  rcases hr with ⟨h0, a0, a1, b0, b1⟩ | ⟨c, hc, hl, ha, hb⟩
  · rw [if_pos h0]
    have hA := h.b r.a.toNat (by omega)
    have hB := h.b r.b.toNat (by omega)
    split
    · exact ⟨⟨h.wf, by simp [h.st], snoc _ _ (Nat.le_refl _) hB, Nat.le_trans h.n (by omega)⟩, Nat.le_refl _⟩
    · split
      · exact ⟨⟨h.wf, by simp [h.st], snoc _ _ (Nat.le_refl _) hA, Nat.le_trans h.n (by omega)⟩, Nat.le_refl _⟩
      · refine ⟨⟨wf_snoc h.wf ⟨by omega, hA.2⟩ ⟨by omega, hB.2⟩, by simp [h.st], snoc _ _ (by simp) (by simp; omega), by have := h.n; simp; omega⟩, by simp⟩
  · rw [if_neg (by rw [hl]; show ¬ (1 : Nat) = 0; omega)]
    have hq : letN r.l < 4 := by rw [hl]; exact letN_lt (s := ⟨#[c]⟩) hc
    exact ⟨⟨h.wf, by simp [h.st], snoc _ _ (Nat.le_refl _) (hst _ hq), Nat.le_trans h.n (by omega)⟩, Nat.le_refl _⟩
theorem mrGo_snoc (st : List Int) : ∀ (rs : List Fac) (r : Fac) (s : List Fac × List Int), mrGo st (rs ++ [r]) s = mrStep st r (mrGo st rs s)
  | [], _, _ => rfl
  | x :: rs, r, s => mrGo_snoc st rs r (mrStep st x s)
theorem take_succ_at {α : Type} {rs : List α} {k : Nat} {r : α} (h : rs[k]? = some r) : rs.take (k + 1) = rs.take k ++ [r] := by
  rw [List.take_add_one, h]; rfl
/-- the rules up to one -/
theorem mapS2_I {rs : List Fac} (hwf : WF rs) {s : List Fac × List Int} {n : Nat} (h : MrI (s.1, []) n 0) (hst : ∀ i, i < 4 → -1 ≤ s.2.getD i 0 ∧ s.2.getD i 0 < s.1.length) :
    ∀ k, k ≤ rs.length → MrI (mrGo s.2 (rs.take k) (s.1, [])) n k ∧ s.1.length ≤ (mrGo s.2 (rs.take k) (s.1, [])).1.length
  | 0, _ => ⟨h, Nat.le_refl _⟩
  | k + 1, hk => by
    have ⟨h1, h2⟩ := mapS2_I hwf h hst k (by omega)
    have hr : rs[k]? = some rs[k] := List.getElem?_eq_getElem (by omega)
    rw [take_succ_at hr, mrGo_snoc]
    have ⟨h3, h4⟩ := h1.step (st := s.2) (fun i hi => by have := hst i hi; omega) (hwf k _ hr)
    exact ⟨h3, by omega⟩
end Go.Proofs.Ytgdbpkpaacbhhaa


/-
  A grammar trimmed: it is valid where the grammar was, and its word is the grammar's.
-/
namespace Go.Proofs.Ytgdbpkpaacbhhaa

section
variable {α : Type} (d : α) (F : Nat → α) (G : α → α → Fac → α)
theorem full_snoc (xs : List Fac) (y : Fac) : full d F G (xs ++ [y]) = full d F G xs ++ [fStep d F G (full d F G xs) y] := foldG_snoc d F G xs y []
theorem full_old (xs : List Fac) (y : Fac) {p : Nat} (h : p < xs.length) : (full d F G (xs ++ [y])).getD p d = (full d F G xs).getD p d := by
  rw [full_snoc, List.getD_eq_getElem?_getD, List.getElem?_append_left (by rw [full_len]; exact h), ← List.getD_eq_getElem?_getD]
theorem full_new (xs : List Fac) (y : Fac) : (full d F G (xs ++ [y])).getD xs.length d = fStep d F G (full d F G xs) y := by
  rw [full_snoc, List.getD_eq_getElem?_getD, List.getElem?_append_right (by rw [full_len]; exact Nat.le_refl _), full_len, Nat.sub_self]; rfl
/-- equal rules have equal values -/
theorem full_same {rs : List Fac} (hwf : WF rs) {i j : Nat} {y : Fac} (hi : rs[i]? = some y) (hj : rs[j]? = some y) : (full d F G rs).getD i d = (full d F G rs).getD j d := by
  by_cases h0 : y.l.size = 0
  · rw [full_pair d F G hwf hi h0, full_pair d F G hwf hj h0]
  · rw [full_let d F G hi h0, full_let d F G hj h0]
end

/-- what the first round leaves -/
structure TkI (rs kept : List Fac) (same : List Int) (k : Nat) : Prop where
  lk : kept.length = k
  ls : same.length = k
  r : ∀ (i : Nat) (r : Fac), i < k → rs[i]? = some r → kept[i]? = some (trR same r)
  s : ∀ i, i < k → ∃ s : Nat, same.getD i 0 = (s : Int) ∧ s ≤ i ∧ kept[s]? = kept[i]?
theorem trR_more {same : List Int} (x : Int) {r : Fac} {i : Nat} (hr : (r.l.size = 0 ∧ 0 ≤ r.a ∧ r.a < (i : Int) ∧ 0 ≤ r.b ∧ r.b < (i : Int)) ∨ (∃ c, letB c = true ∧ r.l = ⟨#[c]⟩ ∧ r.a = 0 ∧ r.b = 0)) (hi : i ≤ same.length) : trR (same ++ [x]) r = trR same r := by
  unfold trR
  rcases hr with ⟨h0, a0, a1, b0, b1⟩ | ⟨c, _, hl, _⟩
  · rw [if_pos h0, if_pos h0, getD_snoc, if_pos (by omega), getD_snoc, if_pos (by omega)]
  · rw [if_neg (by rw [hl]; show ¬ (1 : Nat) = 0; omega), if_neg (by rw [hl]; show ¬ (1 : Nat) = 0; omega)]
theorem TkI.step {rs kept : List Fac} {same : List Int} {k : Nat} (h : TkI rs kept same k) (hwf : WF rs) {r : Fac} (hr : rs[k]? = some r) : TkI rs (kept ++ [trR same r]) (same ++ [((kept.idxOf (trR same r) : Nat) : Int)]) (k + 1) := by
  have hlk := h.lk
  have hls := h.ls
  refine ⟨by simp [hlk], by simp [hls], fun i x hi hx => ?_, fun i hi => ?_⟩
  · by_cases e : i < k
    · rw [List.getElem?_append_left (by omega), h.r i x e hx, trR_more _ (hwf i x hx) (by omega)]
    · obtain rfl : i = k := by omega
      obtain rfl : r = x := by rw [hr] at hx; exact Option.some.inj hx
      rw [List.getElem?_append_right (by omega), hlk, Nat.sub_self, trR_more _ (hwf i r hr) (by omega)]; rfl
  · by_cases e : i < k
    · obtain ⟨s, h1, h2, h3⟩ := h.s i e
      refine ⟨s, ?_, h2, ?_⟩
      · rw [getD_snoc, if_pos (by omega)]; exact h1
      · rw [List.getElem?_append_left (by omega), List.getElem?_append_left (by omega)]; exact h3
    · obtain rfl : i = k := by omega
      have hle := List.idxOf_le_length (a := trR same r) (l := kept)
      refine ⟨kept.idxOf (trR same r), ?_, by omega, ?_⟩
      · rw [getD_snoc, if_neg (by omega), if_pos (by omega)]
      · by_cases e2 : kept.idxOf (trR same r) < kept.length
        · rw [List.getElem?_append_left e2, List.getElem?_append_right (by omega), hlk, Nat.sub_self, List.getElem?_eq_getElem e2, List.getElem_idxOf]; rfl
        · rw [show kept.idxOf (trR same r) = i by omega]
theorem trK_tk {rs : List Fac} (hwf : WF rs) : ∀ (n k : Nat) (kept : List Fac) (same : List Int), TkI rs kept same k → k + n = rs.length → TkI rs (trK (rs.drop k) kept same).1 (trK (rs.drop k) kept same).2 rs.length
  | 0, k, kept, same, h, hk => by
    rw [List.drop_of_length_le (by omega)]
    have : k = rs.length := by omega
    rw [← this]; exact h
  | n + 1, k, kept, same, h, hk => by
    have hr : rs[k]? = some (rs[k]'(by omega)) := List.getElem?_eq_getElem _
    rw [drop_cons hr]
    exact trK_tk hwf n (k + 1) _ _ (h.step hwf hr) (by omega)
theorem tk_all {rs : List Fac} (hwf : WF rs) : TkI rs (trK rs [] []).1 (trK rs [] []).2 rs.length ∧ WF (trK rs [] []).1 := by
  refine ⟨trK_tk hwf rs.length 0 [] [] ⟨rfl, rfl, fun i r h => absurd h (by omega), fun i h => absurd h (by omega)⟩ (by omega), ?_⟩
  exact (trK_I hwf 0 [] [] TrI.nil rfl (by omega)).1.k
section
variable {α : Type} (d : α) (F : Nat → α) (G : α → α → Fac → α) (hG : ∀ a b r r', G a b r = G a b r')
include hG
/-- the rules told by the first equal ones have the same values -/
theorem kept_val {rs kept : List Fac} {same : List Int} (hwf : WF rs) (h : TkI rs kept same rs.length) (hwk : WF kept) : ∀ i, i < rs.length → (full d F G kept).getD i d = (full d F G rs).getD i d := by
  intro i
  induction i using Nat.strongRecOn with
  | ind i ih =>
    intro hi
    have hr : rs[i]? = some (rs[i]'hi) := List.getElem?_eq_getElem _
    have hk := h.r i _ hi hr
    have val : ∀ j, j < i → (full d F G kept).getD (same.getD j 0).toNat d = (full d F G rs).getD j d := fun j hj => by
      obtain ⟨s, h1, h2, h3⟩ := h.s j (by omega)
      rw [h1, Int.toNat_natCast, ← ih j hj (by omega)]
      have hj' : kept[j]? = some (kept[j]'(by rw [h.lk]; omega)) := List.getElem?_eq_getElem _
      exact full_same d F G hwk (h3.trans hj') hj'
    rcases hwf i _ hr with ⟨h0, a0, a1, b0, b1⟩ | ⟨c, hc, hl, _⟩
    · unfold trR at hk
      rw [if_pos h0] at hk
      rw [full_pair d F G hwk hk rfl, full_pair d F G hwf hr h0]
      show G ((full d F G kept).getD (same.getD _ 0).toNat d) ((full d F G kept).getD (same.getD _ 0).toNat d) _ = _
      rw [val _ (by omega), val _ (by omega)]
      exact hG _ _ _ _
    · have h0 : (rs[i]'hi).l.size ≠ 0 := by rw [hl]; show (1 : Nat) ≠ 0; omega
      unfold trR at hk
      rw [if_neg h0] at hk
      rw [full_let d F G hk h0, full_let d F G hr h0]
end

/-- which rules are used -/
theorem useStep_len (kept : List Fac) (i : Nat) (u : List Bool) : (useStep kept i u).length = u.length := by unfold useStep; split <;> simp
theorem set_getD {u : List Bool} {i j : Nat} (hi : i < u.length) : (u.set i true).getD j false = if i = j then true else u.getD j false := by
  rw [List.getD_eq_getElem?_getD, List.getElem?_set]
  split
  · rename_i h; subst h; simp [hi]
  · rw [← List.getD_eq_getElem?_getD]
theorem useT_I {kept : List Fac} (hwk : WF kept) : ∀ (k : Nat) (u : List Bool), k ≤ kept.length → u.length = kept.length →
    (useT kept k u).length = kept.length ∧ (∀ j, k ≤ j → (useT kept k u).getD j false = u.getD j false) ∧ (∀ j, u.getD j false = true → (useT kept k u).getD j false = true) ∧
    (∀ (i : Nat) (r : Fac), i < k → kept[i]? = some r → r.l.size = 0 → (useT kept k u).getD i false = true → (useT kept k u).getD r.a.toNat false = true ∧ (useT kept k u).getD r.b.toNat false = true) ∧
    (∀ s, (∀ j, s < j → u.getD j false = false) → ∀ j, s < j → (useT kept k u).getD j false = false)
  | 0, u, _, hl => ⟨hl, fun _ _ => rfl, fun _ h => h, fun i r h => absurd h (by omega), fun s h => h⟩
  | k + 1, u, hk, hl => by
    have hr : kept[k]? = some (kept[k]'(by omega)) := List.getElem?_eq_getElem _
    have hd : kept.getD k default = kept[k]'(by omega) := by rw [List.getD_eq_getElem?_getD, hr]; rfl
    obtain ⟨i1, i2, i3, i4, i5⟩ := useT_I hwk k (useStep kept k u) (by omega) (by rw [useStep_len, hl])
    have hst : ∀ j, (useStep kept k u).getD j false = if (u.getD k false = true ∧ (kept[k]'(by omega)).l.size = 0) ∧ (j = (kept[k]'(by omega)).a.toNat ∨ j = (kept[k]'(by omega)).b.toNat) then true else u.getD j false := by
      intro j
      unfold useStep
      rw [hd]
      by_cases hc : u.getD k false = true ∧ (kept[k]'(by omega)).l.size = 0
      · rw [if_pos hc]
        rcases hwk k _ hr with ⟨_, a0, a1, b0, b1⟩ | ⟨c, _, hl', _⟩
        · rw [set_getD (by simp; omega), set_getD (by omega)]
          by_cases h1 : j = (kept[k]'(by omega)).b.toNat
          · rw [if_pos h1.symm, if_pos ⟨hc, .inr h1⟩]
          · rw [if_neg (fun e => h1 e.symm)]
            by_cases h2 : j = (kept[k]'(by omega)).a.toNat
            · rw [if_pos h2.symm, if_pos ⟨hc, .inl h2⟩]
            · rw [if_neg (fun e => h2 e.symm), if_neg (fun e => by rcases e.2 with e | e; exact h2 e; exact h1 e)]
        · have := hc.2; rw [hl'] at this; exact absurd this (show ¬ (1 : Nat) = 0 by omega)
      · rw [if_neg hc, if_neg (fun e => hc e.1)]
    have hab : (u.getD k false = true ∧ (kept[k]'(by omega)).l.size = 0) → (kept[k]'(by omega)).a.toNat < k ∧ (kept[k]'(by omega)).b.toNat < k := fun hc => by
      rcases hwk k _ hr with ⟨_, a0, a1, b0, b1⟩ | ⟨c, _, hl', _⟩
      · omega
      · have := hc.2; rw [hl'] at this; exact absurd this (show ¬ (1 : Nat) = 0 by omega)
    have keep : ∀ j, k ≤ j → (useStep kept k u).getD j false = u.getD j false := fun j hj => by
      rw [hst j, if_neg]
      rintro ⟨hc, h | h⟩
      · have := (hab hc).1; omega
      · have := (hab hc).2; omega
    refine ⟨i1, fun j hj => (i2 j (by omega)).trans (keep j (by omega)), fun j hj => i3 j (by rw [hst j]; split; rfl; exact hj), fun i r hi hir h0 hu => ?_, fun s hs j hj => ?_⟩
    · by_cases e : i < k
      · exact i4 i r e hir h0 hu
      · obtain rfl : i = k := by omega
        have hxr : kept[i]'(by omega) = r := by rw [hr] at hir; exact Option.some.inj hir
        rw [← hxr] at h0 ⊢
        have h1 : u.getD i false = true := by
          have := hu
          show _
          rw [show useT kept (i + 1) u = useT kept i (useStep kept i u) from rfl, i2 i (Nat.le_refl _), keep i (Nat.le_refl _)] at this
          exact this
        exact ⟨i3 _ (by rw [hst _, if_pos ⟨⟨h1, h0⟩, .inl rfl⟩]), i3 _ (by rw [hst _, if_pos ⟨⟨h1, h0⟩, .inr rfl⟩])⟩
    · refine i5 s (fun j' hj' => ?_) j hj
      rw [hst j']
      split
      · rename_i hc
        exfalso
        have h1 := hab hc.1
        have h2 : ¬ s < k := fun h => by have := hs k h; rw [hc.1.1] at this; cases this
        rcases hc.2 with h | h <;> omega
      · exact hs j' hj'

section
variable {α : Type} (d : α) (F : Nat → α) (G : α → α → Fac → α) (hG : ∀ a b r r', G a b r = G a b r')
/-- the rules that are left, under way -/
structure OutI (kept : List Fac) (used : List Bool) (i : Nat) (out : List Fac) (at_ : List Int) : Prop where
  wf : WF out
  la : at_.length = kept.length
  v : ∀ j, j < i → used.getD j false = true → ∃ p : Nat, at_.getD j 0 = (p : Int) ∧ p < out.length ∧ (full d F G out).getD p d = (full d F G kept).getD j d
  p : ∀ p, p < out.length → ∃ j, j < kept.length ∧ (full d F G out).getD p d = (full d F G kept).getD j d
  z : ∀ s, s < i → used.getD s false = true → (∀ j, s < j → used.getD j false = false) → 0 < out.length ∧ at_.getD s 0 = (out.length : Int) - 1
include hG
theorem outT_I {kept : List Fac} {used : List Bool} (hwk : WF kept) (hu : ∀ (i : Nat) (r : Fac), kept[i]? = some r → r.l.size = 0 → used.getD i false = true → used.getD r.a.toNat false = true ∧ used.getD r.b.toNat false = true) :
    ∀ (n i : Nat) (out : List Fac) (at_ : List Int), i + n = kept.length → OutI d F G kept used i out at_ → ∃ at2, OutI d F G kept used kept.length (outT used i (kept.drop i) out at_) at2
  | 0, i, out, at_, hi, h => by
    rw [List.drop_of_length_le (by omega)]
    have : i = kept.length := by omega
    subst this
    exact ⟨at_, h⟩
  | n + 1, i, out, at_, hi, h => by
    have hr : kept[i]? = some (kept[i]'(by omega)) := List.getElem?_eq_getElem _
    rw [drop_cons hr, outT]
    by_cases hui : used.getD i false = true
    · rw [if_pos hui]
      refine outT_I hwk hu n (i + 1) _ _ (by omega) ?_
      have hval : WF (out ++ [trR at_ (kept[i]'(by omega))]) ∧ fStep d F G (full d F G out) (trR at_ (kept[i]'(by omega))) = (full d F G kept).getD i d := by
        rcases hwk i _ hr with ⟨h0, a0, a1, b0, b1⟩ | ⟨c, hc, hl, ha, hb⟩
        · obtain ⟨ua, ub⟩ := hu i _ hr h0 hui
          obtain ⟨p, p1, p2, p3⟩ := h.v _ (by omega) ua
          obtain ⟨q, q1, q2, q3⟩ := h.v _ (by omega) ub
          have e : trR at_ (kept[i]'(by omega)) = ⟨⟨#[]⟩, (p : Int), (q : Int)⟩ := by unfold trR; rw [if_pos h0, p1, q1]
          rw [e]
          refine ⟨wf_snoc h.wf ⟨by omega, by omega⟩ ⟨by omega, by omega⟩, ?_⟩
          rw [full_pair d F G hwk hr h0, ← p3, ← q3]
          show (if (0 : Nat) = 0 then G ((full d F G out).getD (p : Int).toNat d) ((full d F G out).getD (q : Int).toNat d) _ else _) = _
          rw [if_pos rfl, Int.toNat_natCast, Int.toNat_natCast]
          exact hG _ _ _ _
        · have h0 : (kept[i]'(by omega)).l.size ≠ 0 := by rw [hl]; show (1 : Nat) ≠ 0; omega
          have e : trR at_ (kept[i]'(by omega)) = kept[i]'(by omega) := by unfold trR; rw [if_neg h0]
          rw [e, full_let d F G hr h0]
          refine ⟨fun k r hk => ?_, by unfold fStep; rw [if_neg h0]⟩
          by_cases hlt : k < out.length
          · rw [List.getElem?_append_left hlt] at hk; exact h.wf k r hk
          · rw [List.getElem?_append_right (by omega)] at hk
            have : r = kept[i]'(by omega) := by
              have h2 := (List.getElem?_eq_some_iff.1 hk).1
              simp only [List.length_cons, List.length_nil] at h2
              rw [show k - out.length = 0 by omega] at hk
              exact (Option.some.inj hk).symm
            subst this
            exact .inr ⟨c, hc, hl, ha, hb⟩
      refine ⟨hval.1, by simp [h.la], fun j hj hj2 => ?_, fun p hp => ?_, fun s hs hs2 hs3 => ?_⟩
      · by_cases e : j = i
        · subst e
          refine ⟨out.length, ?_, by simp, ?_⟩
          · rw [List.getD_eq_getElem?_getD, List.getElem?_set_self (by rw [h.la]; omega)]; rfl
          · rw [full_new, hval.2]
        · obtain ⟨p, p1, p2, p3⟩ := h.v j (by omega) hj2
          refine ⟨p, ?_, by simp; omega, ?_⟩
          · rw [List.getD_eq_getElem?_getD, List.getElem?_set_ne (fun e' => e e'.symm), ← List.getD_eq_getElem?_getD]; exact p1
          · rw [full_old d F G _ _ p2]; exact p3
      · simp only [List.length_append, List.length_singleton] at hp
        by_cases e : p < out.length
        · obtain ⟨j, j1, j2⟩ := h.p p e
          exact ⟨j, j1, by rw [full_old d F G _ _ e]; exact j2⟩
        · obtain rfl : p = out.length := by omega
          exact ⟨i, by omega, by rw [full_new, hval.2]⟩
      · by_cases e : s = i
        · subst e
          refine ⟨by simp, ?_⟩
          rw [List.getD_eq_getElem?_getD, List.getElem?_set_self (by rw [h.la]; omega)]
          simp
        · exfalso
          have := hs3 i (by omega)
          rw [hui] at this; cases this
    · rw [if_neg hui]
      refine outT_I hwk hu n (i + 1) _ _ (by omega) ⟨h.wf, h.la, fun j hj hj2 => ?_, h.p, fun s hs hs2 hs3 => ?_⟩
      · by_cases e : j = i
        · subst e; exact absurd hj2 hui
        · exact h.v j (by omega) hj2
      · by_cases e : s = i
        · subst e; exact absurd hs2 hui
        · exact h.z s (by omega) hs2 hs3
/-- the last value, and where each value comes from -/
theorem trim_val {rs : List Fac} (hwf : WF rs) (h0 : 0 < rs.length) : WF (trimL rs) ∧ 0 < (trimL rs).length ∧ (full d F G (trimL rs)).getD ((trimL rs).length - 1) d = (full d F G rs).getD (rs.length - 1) d ∧
    ∀ p, p < (trimL rs).length → ∃ j, j < rs.length ∧ (full d F G (trimL rs)).getD p d = (full d F G rs).getD j d := by
  obtain ⟨hT, hwk⟩ := tk_all hwf
  have hkv := kept_val d F G hG hwf hT hwk
  have htr : trimL rs = outT (useT (trK rs [] []).1 rs.length (use0 rs.length (trK rs [] []).2)) 0 (trK rs [] []).1 [] (List.replicate rs.length 0) := by unfold trimL; rw [if_neg (by omega)]
  rw [htr]
  generalize (trK rs [] []).1 = kept at *
  generalize (trK rs [] []).2 = same at *
  obtain ⟨s, h1, h2, h3⟩ := hT.s (rs.length - 1) (by omega)
  have hlk := hT.lk
  have hu0 : ∀ j, (use0 rs.length same).getD j false = decide (j = s) := fun j => by
    unfold use0
    rw [h1, Int.toNat_natCast, set_getD (by simp; omega)]
    by_cases e : s = j
    · rw [if_pos e]; simp [e]
    · rw [if_neg e, List.getD_eq_getElem?_getD, List.getElem?_replicate]
      have : decide (j = s) = false := by simp; exact fun h => e h.symm
      rw [this]; split <;> rfl
  obtain ⟨u1, u2, u3, u4, u5⟩ := useT_I hwk rs.length (use0 rs.length same) (by omega) (by unfold use0; simp [hlk])
  have hus : (useT kept rs.length (use0 rs.length same)).getD s false = true := u3 s (by rw [hu0]; simp)
  have hul : ∀ j, s < j → (useT kept rs.length (use0 rs.length same)).getD j false = false := u5 s (fun j hj => by rw [hu0]; simp; omega)
  obtain ⟨at2, hO⟩ := outT_I d F G hG hwk (fun i r hi h0 hu => u4 i r (by have := (List.getElem?_eq_some_iff.1 hi).1; omega) hi h0 hu) kept.length 0 [] (List.replicate rs.length 0) (by omega)
    ⟨wf_nil, by simp [hlk], fun j hj => absurd hj (by omega), fun p hp => absurd hp (by simp), fun s hs => absurd hs (by omega)⟩
  rw [List.drop_zero] at hO
  obtain ⟨z1, z2⟩ := hO.z s (by omega) hus hul
  obtain ⟨p, p1, p2, p3⟩ := hO.v s (by omega) hus
  refine ⟨hO.wf, z1, ?_, fun p hp => ?_⟩
  · have : p = (outT (useT kept rs.length (use0 rs.length same)) 0 kept [] (List.replicate rs.length 0)).length - 1 := by omega
    rw [← this, p3, hkv s (by omega), ← hkv (rs.length - 1) (by omega), ← hkv s (by omega)]
    have hj' : kept[rs.length - 1]? = some (kept[rs.length - 1]'(by omega)) := List.getElem?_eq_getElem _
    exact full_same d F G hwk (h3.trans hj') hj'
  · obtain ⟨j, j1, j2⟩ := hO.p p hp
    exact ⟨j, by omega, by rw [j2]; exact hkv j (by omega)⟩
end

/-- a grammar whose lengths are not too great is valid -/
theorem gLens_of {rs : List Fac} (hwf : WF rs) (hb : ∀ k, k < rs.length → (full 0 lenF lenG rs).getD k 0 ≤ 1000000000000000) : ∀ (n k : Nat), k + n = rs.length → (gLens (rs.drop k) (outs 0 lenF lenG rs k)).isSome = true
  | 0, k, hk => by rw [List.drop_of_length_le (by omega)]; rfl
  | n + 1, k, hk => by
    have hr : rs[k]? = some (rs[k]'(by omega)) := List.getElem?_eq_getElem _
    rw [drop_cons hr]
    have hol : (outs 0 lenF lenG rs k).length = k := outs_len 0 lenF lenG rs k (by omega)
    have hst : gStep (outs 0 lenF lenG rs k) (rs[k]'(by omega)) = some (fStep 0 lenF lenG (outs 0 lenF lenG rs k) (rs[k]'(by omega))) := by
      have hv := hb k (by omega)
      rw [full_at 0 lenF lenG hr] at hv
      unfold gStep
      unfold fStep at hv ⊢
      rcases hwf k _ hr with ⟨h0, a0, a1, b0, b1⟩ | ⟨c, hc, hl, ha, hb'⟩
      · rw [if_pos h0] at hv ⊢
        rw [if_pos h0, if_pos ⟨a0, by omega, b0, by omega, hv⟩]; rfl
      · have h0 : (rs[k]'(by omega)).l.size ≠ 0 := by rw [hl]; show (1 : Nat) ≠ 0; omega
        rw [if_neg h0, if_neg h0, if_pos ⟨by rw [hl]; exact hc, ha, hb'⟩]; rfl
    unfold gLens
    rw [hst]
    show (gLens (rs.drop (k + 1)) (outs 0 lenF lenG rs k ++ [fStep 0 lenF lenG (outs 0 lenF lenG rs k) (rs[k]'(by omega))])).isSome = true
    rw [← outs_step 0 lenF lenG hr]
    exact gLens_of hwf hb n (k + 1) (by omega)
/-- a trimmed grammar is valid, if it has not too many rules -/
theorem trim_ok {rs : List Fac} (hwf : WF rs) (hb : ∀ k, k < rs.length → (full 0 lenF lenG rs).getD k 0 ≤ 1000000000000000) (hn : (trimL rs).length ≤ 400) : (gOk (trimL rs)).isSome = true := by
  unfold gOk
  rw [if_neg (by omega)]
  by_cases h0 : rs.length = 0
  · have : trimL rs = [] := by unfold trimL; rw [if_pos h0]
    rw [this]; rfl
  · obtain ⟨h1, h2, _, h4⟩ := trim_val 0 lenF lenG (fun _ _ _ _ => rfl) hwf (by omega)
    have := gLens_of h1 (fun k hk => by obtain ⟨j, j1, j2⟩ := h4 k hk; rw [j2]; exact hb j j1) (trimL rs).length 0 (by omega)
    simpa [outs, foldG] using this
end Go.Proofs.Ytgdbpkpaacbhhaa


/-
  The walk made to stand ahead of an operation, so that a law can be laid there.
-/
namespace Go.Proofs.Ytgdbpkpaacbhhaa
open Go.RowKit

/-! ### the walk made to stand ahead of an operation -/
def Stop (p : Prop) : Prop := p
theorem stopW {P : Program} {ops : Array Oper} {Q : Exit → Act → World → Prop} {a : Act} {W : World} {l : List Oper} (h : Stop (wpList P ops Q l a W)) : wpList P ops Q l a W := h
theorem stop_named {P : Program} {ops : Array Oper} {Q : Exit → Act → World → Prop} {a : Act} {W : World} {l : List Oper} (h : ∀ w, Hid (w = W) → Stop (wpList P ops Q l a w)) : Stop (wpList P ops Q l a W) := h W (Lib.hid rfl)
end Go.Proofs.Ytgdbpkpaacbhhaa


/-
  Lists of rules that a call makes: what is appended, copied.
-/
namespace Go.Proofs.Ytgdbpkpaacbhhaa
open Go.RowKit

theorem elem_rule : Elem Try.prog 24 82 3 32 := Elem.mk' (z := .agg #[.string .empty, .int .i64 0, .int .i64 0]) Try.underlying24 (by kernel_rfl) rfl
theorem one_fac (f : Fac) : ∀ u ∈ Fac.cells f, u.oneCell' = true := by simp [Fac.cells, Value.oneCell']
/-- what lies behind a list, cell for cell -/
theorem Rd.news {α : Type} {w : World} {B n sz : Nat} {A : Option Addr} {enc : α → List Value} {xs : List α} (h : Rd w B A n sz enc xs) (hl : ∀ x ∈ xs, (enc x).length = sz) (hn : 0 < n) :
    ∃ b o, A = some ⟨b, o, none⟩ ∧ b < B ∧ ∀ j u, (xs.flatMap enc)[j]? = some u → w.cell? ((⟨b, o, none⟩ : Addr).add j) = some u := by
  obtain ⟨b, o, hA, hb, hc⟩ := h.2 hn
  refine ⟨b, o, hA, hb, fun j u hj => ?_⟩
  have hlt := (List.getElem?_eq_some_iff.1 hj).1
  rw [flat_len xs hl] at hlt
  have hsz : 0 < sz := by
    rcases Nat.eq_zero_or_pos sz with h | h
    · subst h; simp at hlt
    · exact h
  have hk : j / sz < xs.length := Nat.div_lt_of_lt_mul (by rw [Nat.mul_comm]; exact hlt)
  have he : j / sz * sz + j % sz = j := by rw [Nat.mul_comm]; exact Nat.div_add_mod j sz
  have hx : xs[j / sz]? = some (xs[j / sz]'hk) := List.getElem?_eq_getElem _
  have h2 := flat_at xs hl _ _ hx (j % sz) (Nat.mod_lt _ hsz)
  rw [he, hj] at h2
  have h3 := hc _ _ hx (j % sz) u h2.symm
  rw [Nat.add_assoc, he] at h3
  simpa [Addr.add_lit] using h3
/-- a row of the call's own, behind a store into a block of another type -/
theorem own_kept' {w : World} {base g : Nat} {e t : TypeId} {sz n : Nat} {v : Value} {xs : List Value} {cs : Array Value} (h : w.ownsRow base e sz v n xs) (hB : Blk w g t cs) (ht : e ≠ t) (u : Value) {i : Nat} : (w.setCell ⟨g, i, none⟩ u).ownsRow base e sz v n xs := by
  refine h.kept (gb_set w g i u) ?_
  cases hv : v.ownBlock with
  | none => exact .inl rfl
  | some k => exact .inr fun e => own_blk_ne h hB ht (by rw [hv]; exact e.symm)
section
variable {α : Type} {P : Program} {w : World} {ops : Array Oper} {o : Oper} {a : Act} {rest : List Oper}
/-- a list appended to a slice of the call's own -/
theorem wpList_app {Q : Exit → Act → World → Prop} (hgd : o.guard = none) (s x : Operand) (t : TypeId) (ho : o.op = .call { callee := .builtin .append, args := #[s, x], argTypes := #[t, t] })
    (base : Nat) (e : TypeId) (sz bytes : Nat) (EI : Elem P t e sz bytes) (enc : α → List Value) (A : Option Addr) (n c : Nat) (xs : List α) (hs : a.eval s = .slice A n c)
    (hown : w.ownsRow base e sz (.slice A n c) n (xs.flatMap enc)) (ad : Addr) (m cc : Nat) (ys : List α) (hx : a.eval x = .slice (some ad) m cc) (hym : ys.length = m) (hm0 : 0 < m) (hnews : ∀ j u, (ys.flatMap enc)[j]? = some u → w.cell? (ad.add j) = some u)
    (hlen : ∀ y ∈ ys, (enc y).length = sz) (hone : ∀ y ∈ ys, ∀ u ∈ enc y, u.oneCell' = true) (hsz : 0 < sz) (hbytes : (n + m) * bytes ≤ 140737488355328) (hm : n + m ≤ maxLen) (hsize : base ≤ w.heap.size)
    (h : ∀ A' c' w', w'.ownsRow base e sz (.slice A' (n + m) c') (n + m) ((xs ++ ys).flatMap enc) → w.grownBy w' (Value.slice A n c).ownBlock →
      ((Value.slice A' (n + m) c').ownBlock = (Value.slice A n c).ownBlock ∨ (Value.slice A' (n + m) c').ownBlock = some w.heap.size) → wpList P ops Q rest (a.put o.dst (.slice A' (n + m) c')) w') : wpList P ops Q (o :: rest) a w := by
  obtain ⟨ht, i, z, hi, hz, h1, h2, hzs⟩ := EI
  refine wpList_plain hgd fun _ hK => ?_
  obtain ⟨v', w', hr, r2, r3, _, r5⟩ := run_append_own_at (P := P) w base t o.type e i z sz bytes ht hi hz h1 h2 hzs hsz _ n _ hown ad m cc (ys.flatMap enc) (by rw [flat_len ys hlen, hym]) hnews
    (fun u hu => by obtain ⟨y, hy, hu⟩ := List.mem_flatMap.1 hu; exact hone y hy u hu) hm hbytes hsize
  obtain ⟨g', cap, rfl, _, _⟩ := r2.form (by omega)
  unfold Oper.wp execOp
  simp only [ho, resolve, invoke, builtin, Sem.run_bind, Sem.run_pure, Result.andThen_ok, List.map_toArray, List.map_cons, List.map_nil, hs, hx, hr]
  exact hK _ _ (h _ _ w' (by rw [List.flatMap_append]; exact r2) r3 r5)
/-- the same, as a step of a region that draws its order -/
theorem step_app {K : Act → World → Prop} {Q : Exit → Act → World → Prop} {E : Prop} (hgd : o.guard = none) (s x : Operand) (t : TypeId) (ho : o.op = .call { callee := .builtin .append, args := #[s, x], argTypes := #[t, t] })
    (base : Nat) (e : TypeId) (sz bytes : Nat) (EI : Elem P t e sz bytes) (enc : α → List Value) (A : Option Addr) (n c : Nat) (xs : List α) (hs : a.eval s = .slice A n c)
    (hown : w.ownsRow base e sz (.slice A n c) n (xs.flatMap enc)) (ad : Addr) (m cc : Nat) (ys : List α) (hx : a.eval x = .slice (some ad) m cc) (hym : ys.length = m) (hm0 : 0 < m) (hnews : ∀ j u, (ys.flatMap enc)[j]? = some u → w.cell? (ad.add j) = some u)
    (hlen : ∀ y ∈ ys, (enc y).length = sz) (hone : ∀ y ∈ ys, ∀ u ∈ enc y, u.oneCell' = true) (hsz : 0 < sz) (hbytes : (n + m) * bytes ≤ 140737488355328) (hm : n + m ≤ maxLen) (hsize : base ≤ w.heap.size)
    (h : ∀ A' c' w', w'.ownsRow base e sz (.slice A' (n + m) c') (n + m) ((xs ++ ys).flatMap enc) → w.grownBy w' (Value.slice A n c).ownBlock → K (a.put o.dst (.slice A' (n + m) c')) w') :
    if Region.wanted o (yielded ops a.tmps) = true then Oper.wp P o a w K Q else E := by
  obtain ⟨ht, i, z, hi, hz, h1, h2, hzs⟩ := EI
  obtain ⟨v', w', hr, r2, r3, _, r5⟩ := run_append_own_at (P := P) w base t o.type e i z sz bytes ht hi hz h1 h2 hzs hsz _ n _ hown ad m cc (ys.flatMap enc) (by rw [flat_len ys hlen, hym]) hnews
    (fun u hu => by obtain ⟨y, hy, hu⟩ := List.mem_flatMap.1 hu; exact hone y hy u hu) hm hbytes hsize
  obtain ⟨g', cap, rfl, _, _⟩ := r2.form (by omega)
  have hw : Region.wanted o (yielded ops a.tmps) = true := by simp [Region.wanted, hgd]
  rw [if_pos hw]
  unfold Oper.wp execOp
  simp only [ho, resolve, invoke, builtin, Sem.run_bind, Sem.run_pure, Result.andThen_ok, List.map_toArray, List.map_cons, List.map_nil, hs, hx, hr]
  exact h _ _ w' (by rw [List.flatMap_append]; exact r2) r3
end
set_option maxHeartbeats 2000000 in
set_option maxRecDepth 100000 in
theorem l02Own_any (gb : Nat) (A : Option Addr) (n c : Nat) (rs : List Fac) (w : World) (hg : gb < w.heap.size) (hc : w.cell? ⟨gb, 0, none⟩ = some (.slice A n c)) (hn : n ≤ 1048576) (hn0 : 0 < n) (hr : Rd w w.heap.size A n 3 Fac.cells rs) :
    Calls Try.prog 66 #[.pointer (some ⟨gb, 0, none⟩)] w (RetG w rs) := by
  have hl := Lib.hid hr.len
  obtain ⟨b, o, rfl, hb, hnews⟩ := hr.news (fun x _ => fac_len x) hn0
  have HN := Lib.hid hnews; clear hnews hr
  have hh := Lib.hid (fun (W : World) (h : Below w.heap.size w W) j u (hj : (rs.flatMap Fac.cells)[j]? = some u) => ((h.cell (p := (⟨b, o, none⟩ : Addr).add j) (by simpa [Addr.add_lit] using hb)).trans (HN.out j u hj)))
  have h2 : Below w.heap.size w ((w.alloc (.cells #[.slice none 0 0] 26)).alloc (.cells #[] 82)) := by (repeat first | exact Below.refl _ _ | assumption | refine Below.drew ?_ | refine Below.alloc ?_ (by first | exact Nat.le_refl _ | (simp; done) | omega | (simp; omega)) _ | refine Below.setCell ?_ (by first | exact Nat.le_refl _ | (simp; done) | omega | (simp; omega)) _)
  have ow : ((w.alloc (.cells #[.slice none 0 0] 26)).alloc (.cells #[] 82)).ownsRow w.heap.size 82 3 (.slice (some ⟨w.heap.size + 1, 0, none⟩) 0 0) 0 (([] : List Fac).flatMap Fac.cells) := by
    simpa using World.ownsRow_made (base := w.heap.size) (e := 82) (size := 3) (w.alloc (.cells #[.slice none 0 0] 26)) #[] 0 (by simp) (by unfold maxLen; omega) rfl
  have bx := (Blk.new w 26 #[.slice none 0 0]).alloc (.cells #[] 82)
  have H2 := Lib.hid h2; have OW := Lib.hid ow; have BX := Lib.hid bx
  clear h2 ow bx
  go_enter Try.func66, Try.ntmps66
  go_wp2_with
    (at_builtin
     refine wpList_app rfl _ _ _ rfl w.heap.size 82 3 32 elem_rule Fac.cells (some ⟨w.heap.size + 1, 0, none⟩) 0 0 [] rfl OW.out ⟨b, o, none⟩ n c rs rfl hl.out hn0 (fun j u hj => hh.out _ H2.out j u hj) (fun x _ => fac_len x) (fun x _ => one_fac x) (by omega) (by omega) (by unfold maxLen; omega) (by simp; omega) ?_
     rw [Nat.zero_add, List.nil_append]
     intro A9 c9 w9 own9 hg9 hat9
     have O9 := Lib.hid own9
     have B9 := Lib.hid (H2.out.grown hg9 (by simp; omega) (fun k hk => (OW.out.lt k hk).1))
     have X9 := BX.out.grown hg9 (by simp [Value.ownBlock])
     have X9' := Lib.hid X9
     have f9 := X9.frozen
     have d9 := X9.cell 0
     have l9 := X9.lt
     clear own9 X9)
  have X10 := X9'.out.set_ 0 (.slice A9 n c9)
  have x10 : (w9.setCell ⟨w.heap.size, 0, none⟩ (.slice A9 n c9)).cell? ⟨w.heap.size, 0, none⟩ = some (.slice A9 n c9) := by rw [X10.cell 0]; rfl
  refine bodyPost_ret (v := .agg #[.slice A9 n c9]) (by simp [results, Try.results66, go_sem, x10]) rfl ⟨A9, c9, by rw [hl.out], ?_, B9.out.setCell (Nat.le_refl _) _⟩
  rw [hl.out]
  exact own_kept' O9.out X9'.out (by decide) _
end Go.Proofs.Ytgdbpkpaacbhhaa


/-
  A map whose keys are rules.
-/
namespace Go.Proofs.Ytgdbpkpaacbhhaa
open Go.RowKit Go.MapKept

section
variable {α : Type} [DecidableEq α] {P : Program} {w : World} {ops : Array Oper} {rest : List Oper} {o : Oper} {a : Act} {b : Nat} {K : α → Value} {mm : List (α × Value)} {kt t e : TypeId} {z : Value}
/-- a look-up in a map of the call's own, with the word whether there is an entry -/
theorem wpList_lookOk {Q : Exit → Act → World → Prop} (hgd : o.guard = none) (m x : Operand) (ho : o.op = .lookup t m x true) (KO : KeyOk P kt K) (ht : P.underlying t = some (.map kt e)) (hz : (zeroValue e).run P w = .ok z w) (hm : a.eval m = .map (some b)) (y : α) (hx : a.eval x = K y)
    (h : MapIs w b K mm) (hK : wpList P ops Q rest (a.put o.dst (.tuple #[(mget y mm).getD z, .bool (mget y mm).isSome])) w) : wpList P ops Q (o :: rest) a w := by
  refine wpList_plain hgd fun _ hK' => ?_
  unfold Oper.wp execOp
  simp only [ho, hm, hx, Sem.run_bind, h.lookOk KO ht hz y, Result.andThen_ok, Sem.run_pure]
  exact hK' _ _ hK
end
theorem zero_i64 (w : World) : (zeroValue 2).run Try.prog w = .ok (.int .i64 0) w := by kernel_rfl
theorem eql_rule (f g : Fac) (W : World) : (binOp .eql 82 (.agg #[.string f.l, .int .i64 f.a, .int .i64 f.b]) (.agg #[.string g.l, .int .i64 g.a, .int .i64 g.b])).run Try.prog W = .ok (.bool (decide (f = g))) W := by
  rw [eq_fac]
  simp [go_sem, tl_inj]
  try (by_cases h1 : f.l = g.l <;> by_cases h2 : f.a = g.a <;> by_cases h3 : f.b = g.b <;> simp [h1, h2, h3])
theorem equal_rule (f g : Fac) (W : World) : (Op.equal 82 f.val g.val).run Try.prog W = .ok (decide (f = g)) W := by
  have h := eql_rule f g W
  unfold binOp at h
  simp only [Sem.run_bind] at h
  unfold Fac.val
  generalize hr : Sem.run Try.prog (Op.equal 82 (.agg #[.string f.l, .int .i64 f.a, .int .i64 f.b]) (.agg #[.string g.l, .int .i64 g.a, .int .i64 g.b])) W = r at h ⊢
  cases r with
  | ok b w' =>
    simp [Result.andThen] at h
    rw [h.1, h.2]
  | _ => simp [Result.andThen] at h
theorem rule_key : KeyOk Try.prog 82 Fac.val := by
  refine ⟨fun e a w => ?_, fun a m es w he => ?_, fun a w => ?_⟩
  · have hs : ∀ n v, (Instr.checkKey e (n + 1) 9 (.string v)).run Try.prog w = .ok () w := fun n v => run_checkKey Try.underlying9 (by simp [IsKey]) e n
    have hi : ∀ n v, (Instr.checkKey e (n + 1) 2 (.int .i64 v)).run Try.prog w = .ok () w := fun n v => run_checkKey Try.underlying2 (by simp [IsKey]) e n
    unfold Fac.val
    show (Instr.checkKey e (9999 + 1) 82 _).run _ _ = _
    unfold Instr.checkKey
    simp only [Sem.run_bind, run_underlying Try.underlying82]
    have hs' := hs 9998
    have hi' := hi 9998
    simp [go_sem, hs', hi']
  · have ask : ∀ (m : List (Fac × Value)) (es : List MapEntry) (i : Nat), es.map (fun e => (e.key, e.val)) = m.map (fun p => (Fac.val p.1, p.2)) → (Instr.findAsking 82 (Fac.val a) es i).run Try.prog w = .ok (midx a m i) w := by
      intro m
      induction m with
      | nil => intro es i he; cases es with | nil => rfl | cons _ _ => simp at he
      | cons p r ih =>
        intro es i he
        cases es with
        | nil => simp at he
        | cons e es =>
          simp at he
          obtain ⟨⟨h1, h2⟩, h3⟩ := he
          unfold Instr.findAsking
          rw [h1, midx_cons]
          simp only [Sem.run_bind, equal_rule, Result.andThen_ok]
          by_cases hap : a = p.1
          · simp [hap, h2]
          · simp only [hap, decide_false, if_false, Bool.false_eq_true]
            exact ih es (i + 1) h3
    cases es with
    | nil =>
      cases m with
      | nil => simp [Instr.findKey, run_underlying Try.underlying82, Instr.findNow, midx]
      | cons _ _ => simp at he
    | cons e es =>
      have hn : Instr.findNow (TypeDesc.struct #[]) (Fac.val a) (e :: es) 0 = none := by unfold Instr.findNow Instr.sameNow; rfl
      have := ask m (e :: es) 0 he
      simp [Instr.findKey, run_underlying Try.underlying82, Instr.findNow, Instr.sameNow, Fac.val] at this ⊢
      exact this
  · have : Instr.sameBits 10000 a.val a.val = true := by
      show Instr.sameBits (9999 + 1) (.agg _) (.agg _) = true
      unfold Instr.sameBits
      simp [Instr.sameBits, beq_toListBytes, tl_beq]
    simp [Instr.keyThatStays, this]
end Go.Proofs.Ytgdbpkpaacbhhaa


/-
  A grammar trimmed: the rules that are left, written down.
-/
namespace Go.Proofs.Ytgdbpkpaacbhhaa
open Go.RowKit

theorem info_bool : (Try.prog.info? 4).map (fun i => (i.zero, i.size, i.bytes)) = some (some (.bool false), 1, 1) := by kernel_rfl
def boolA (u : List Bool) : Array Value := (u.map Value.bool).toArray
theorem boolA_made (n : Nat) : madeCells (Value.bool false).cells (n * 1) = boolA (List.replicate n false) := by
  apply Array.ext
  · simp [size_madeCells, boolA]
  · intro i h1 h2
    simp [madeCells, Value.cells, boolA, Nat.mod_one]
theorem boolA_set (u : List Bool) (i : Nat) (b : Bool) : (boolA u).setIfInBounds i (.bool b) = boolA (u.set i b) := by
  unfold boolA
  apply Array.ext'
  simp [List.map_set]
theorem boolA_at (u : List Bool) {i : Nat} (h : i < u.length) : (boolA u)[i]? = some (.bool (u.getD i false)) := by
  simp [boolA, List.getD_eq_getElem?_getD, List.getElem?_eq_getElem h]
theorem makeB (n : Nat) (W : World) (hn : n ≤ 1048576) : (Instr.makeSlice 114 (.int .i64 (n : Int)) (.int .i64 (n : Int))).run Try.prog W = .ok (.slice (some ⟨W.heap.size, 0, none⟩) n n) (W.alloc (.cells (boolA (List.replicate n false)) 4)) := by
  obtain ⟨i0, hi, hz0, hz1, hz2⟩ := info_parts info_bool
  have hmk := run_make_rowN (P := Try.prog) 114 4 i0 _ Try.underlying114 hi hz0 .i64 .i64 n n (Nat.le_refl _) (by rw [hz2]; omega) (by omega) W
  rw [hz1, boolA_made] at hmk
  exact hmk
def intA (u : List Int) : Array Value := (u.map (Value.int .i64)).toArray
theorem intA_made (n : Nat) : madeCells (Value.int .i64 0).cells (n * 1) = intA (List.replicate n 0) := by
  apply Array.ext
  · simp [size_madeCells, intA]
  · intro i h1 h2
    simp [madeCells, Value.cells, intA, Nat.mod_one]
theorem intA_set (u : List Int) (i : Nat) (b : Int) : (intA u).setIfInBounds i (.int .i64 b) = intA (u.set i b) := by
  unfold intA
  apply Array.ext'
  simp [List.map_set]
theorem intA_at (u : List Int) {i : Nat} (h : i < u.length) : (intA u)[i]? = some (.int .i64 (u.getD i 0)) := by
  simp [intA, List.getD_eq_getElem?_getD, List.getElem?_eq_getElem h]
theorem info_i64' : (Try.prog.info? 2).map (fun i => (i.zero, i.size, i.bytes)) = some (some (.int .i64 0), 1, 8) := by kernel_rfl
theorem makeN (n : Nat) (W : World) (hn : n ≤ 1048576) : (Instr.makeSlice 46 (.int .i64 (n : Int)) (.int .i64 (n : Int))).run Try.prog W = .ok (.slice (some ⟨W.heap.size, 0, none⟩) n n) (W.alloc (.cells (intA (List.replicate n 0)) 2)) := by
  obtain ⟨i0, hi, hz0, hz1, hz2⟩ := info_parts info_i64'
  have hmk := run_make_rowN (P := Try.prog) 46 2 i0 _ Try.underlying46 hi hz0 .i64 .i64 n n (Nat.le_refl _) (by rw [hz2]; omega) (by omega) W
  rw [hz1, intA_made] at hmk
  exact hmk
theorem news1 {W : World} {g : Nat} {t : TypeId} {y : Fac} (h : Blk W g t #[.string y.l, .int .i64 y.a, .int .i64 y.b]) : ∀ j u, ([y].flatMap Fac.cells)[j]? = some u → W.cell? ((⟨g, 0, none⟩ : Addr).add j) = some u := by
  intro j u hj
  have e : ((⟨g, 0, none⟩ : Addr).add j) = ⟨g, j, none⟩ := by
    simp only [Addr.add, Nat.zero_add]
    by_cases h0 : j = 0
    · subst h0; rfl
    · simp [h0]
  rw [e, h.cell j]
  simpa [Fac.cells] using hj
/-- the last round of 'trimmed' under way -/
structure OutW (O : Nat) (w W : World) (A4 : Option Addr) (c4 k : Nat) (kept : List Fac) (X U : Nat) (u : List Bool) (V : Nat) (at_ : List Int) (B : Nat) (A7 : Option Addr) (nn c7 : Nat) (out : List Fac) : Prop where
  r : W.ownsRow w.heap.size 82 3 (.slice A4 k c4) k (kept.flatMap Fac.cells)
  u : Blk W U 4 (boolA u)
  v : Blk W V 2 (intA at_)
  b : Blk W B 26 #[.slice A7 nn c7]
  o : Blk W O 26 #[.slice none 0 0]
  q : W.ownsRow X 82 3 (.slice A7 nn c7) nn (out.flatMap Fac.cells)
  e : Below w.heap.size w W
  n0 : w.heap.size ≤ O
  n1 : O < B
  n2 : B < X
  n3 : w.heap.size ≤ U
  n4 : w.heap.size ≤ V
  n5 : X ≤ W.heap.size
  n6 : ∀ q, (Value.slice A4 k c4).ownBlock = some q → q < X
section
variable {O : Nat} {w W W' : World} {A4 : Option Addr} {c4 k : Nat} {kept : List Fac} {X U : Nat} {u : List Bool} {V : Nat} {at_ : List Int} {B : Nat} {A7 : Option Addr} {nn c7 : Nat} {out : List Fac}
theorem OutW.next (h : OutW O w W A4 c4 k kept X U u V at_ B A7 nn c7 out) (hb : Below W.heap.size W W') : OutW O w W' A4 c4 k kept X U u V at_ B A7 nn c7 out :=
  ⟨own_next h.r hb, h.u.next hb, h.v.next hb, h.b.next hb, h.o.next hb, own_next h.q hb, h.e.trans (hb.mono h.e.size), h.n0, h.n1, h.n2, h.n3, h.n4, Nat.le_trans h.n5 hb.size, h.n6⟩
theorem OutW.alloc (h : OutW O w W A4 c4 k kept X U u V at_ B A7 nn c7 out) (o : Obj) : OutW O w (W.alloc o) A4 c4 k kept X U u V at_ B A7 nn c7 out := h.next ((Below.refl _ _).alloc (Nat.le_refl _) _)
theorem OutW.drew (h : OutW O w W A4 c4 k kept X U u V at_ B A7 nn c7 out) : OutW O w W.drew A4 c4 k kept X U u V at_ B A7 nn c7 out := h.next (Below.refl _ _).drew
/-- the cells of a block made later put -/
theorem OutW.far {Z : Nat} (h : OutW O w W A4 c4 k kept X U u V at_ B A7 nn c7 out) (hg : W.grownBy W' (some Z)) (h1 : some Z ≠ (Value.slice A4 k c4).ownBlock) (h2 : some Z ≠ (Value.slice A7 nn c7).ownBlock) (h3 : Z ≠ U) (h4 : Z ≠ V) (h5 : Z ≠ B) (h6 : O < Z) :
    OutW O w W' A4 c4 k kept X U u V at_ B A7 nn c7 out := by
  have t : ∀ g : Nat, Z ≠ g → some g ≠ some Z := fun g hne e => hne (by injection e with e; exact e.symm)
  exact ⟨h.r.kept hg (.inr fun e => h1 e.symm), h.u.grown hg (t _ h3), h.v.grown hg (t _ h4), h.b.grown hg (t _ h5), h.o.grown hg (t _ (by omega)), h.q.kept hg (.inr fun e => h2 e.symm),
    h.e.grown hg h.e.size (fun q hq => by injection hq with hq; have := h.n0; omega), h.n0, h.n1, h.n2, h.n3, h.n4, Nat.le_trans h.n5 hg.size, h.n6⟩
/-- a number told -/
theorem OutW.tell (h : OutW O w W A4 c4 k kept X U u V at_ B A7 nn c7 out) (i : Nat) (z : Int) : OutW O w (W.setCell ⟨V, i, none⟩ (.int .i64 z)) A4 c4 k kept X U u V (at_.set i z) B A7 nn c7 out := by
  have hg := gb_set W V i (.int .i64 z)
  have nt : ∀ {g : Nat} {t : TypeId} {cs : Array Value}, Blk W g t cs → t ≠ 2 → some g ≠ some V := fun hB hne e => by
    injection e with e; subst e
    have := hB.symm.trans h.v
    injection this with this; injection this with _ this; exact hne this
  refine ⟨h.r.kept hg (.inr fun e => own_blk_ne h.r h.v (by decide) e.symm), h.u.grown hg (nt h.u (by decide)), ?_, h.b.grown hg (nt h.b (by decide)), h.o.grown hg (nt h.o (by decide)), h.q.kept hg (.inr fun e => own_blk_ne h.q h.v (by decide) e.symm),
    h.e.grown hg h.e.size (fun q hq => by injection hq with hq; have := h.n4; omega), h.n0, h.n1, h.n2, h.n3, h.n4, Nat.le_trans h.n5 hg.size, h.n6⟩
  have := h.v.set_ i (.int .i64 z)
  rw [intA_set] at this; exact this
/-- one rule more, told to the box as well -/
theorem OutW.push {A8 : Option Addr} {k8 c8 : Nat} {out' : List Fac} (h : OutW O w W A4 c4 k kept X U u V at_ B A7 nn c7 out) (hq : W'.ownsRow X 82 3 (.slice A8 k8 c8) k8 (out'.flatMap Fac.cells)) (hg : W.grownBy W' (Value.slice A7 nn c7).ownBlock) :
    OutW O w (W'.setCell ⟨B, 0, none⟩ (.slice A8 k8 c8)) A4 c4 k kept X U u V at_ B A8 k8 c8 out' := by
  have hb' : Blk W' B 26 #[.slice A7 nn c7] := h.b.grown hg (own_blk_ne h.q h.b (by decide))
  have hu' := h.u.grown hg (own_blk_ne h.q h.u (by decide))
  have hv' := h.v.grown hg (own_blk_ne h.q h.v (by decide))
  have ho' := h.o.grown hg (own_blk_ne h.q h.o (by decide))
  have hr' : W'.ownsRow w.heap.size 82 3 (.slice A4 k c4) k (kept.flatMap Fac.cells) := h.r.kept hg (by
    cases hv : (Value.slice A4 k c4).ownBlock with
    | none => exact .inl rfl
    | some q => exact .inr fun e => by have h1 := h.n6 q hv; have h2 := own_ge h.q q e.symm; omega)
  have he' := h.e.grown hg h.e.size (fun q hq' => by have := own_ge h.q q hq'; have := h.n0; have := h.n2; have := h.n1; omega)
  have hg2 := gb_set W' B 0 (.slice A8 k8 c8)
  have nt : ∀ {g : Nat} {t : TypeId} {cs : Array Value}, Blk W' g t cs → t ≠ 26 → some g ≠ some B := fun hB hne e => by
    injection e with e; subst e
    have := hB.symm.trans hb'
    injection this with this; injection this with _ this; exact hne this
  refine ⟨hr'.kept hg2 (.inr fun e => own_blk_ne hr' hb' (by decide) e.symm), hu'.grown hg2 (nt hu' (by decide)), hv'.grown hg2 (nt hv' (by decide)), ?_, ho'.grown hg2 (by intro e; injection e with e; have := h.n0; have := h.n1; omega), hq.kept hg2 (.inr fun e => own_blk_ne hq hb' (by decide) e.symm),
    he'.grown hg2 he'.size (fun q hq => by injection hq with hq; have := h.n0; have := h.n1; omega), h.n0, h.n1, h.n2, h.n3, h.n4, Nat.le_trans (Nat.le_trans h.n5 hg.size) hg2.size, h.n6⟩
  exact hb'.set_ 0 _
end
end Go.Proofs.Ytgdbpkpaacbhhaa


/-
  A grammar trimmed by the program.
-/
namespace Go.Proofs.Ytgdbpkpaacbhhaa
open Go.RowKit

/-- the first round of 'trimmed' under way: what the call has made -/
structure TrW (w W : World) (A : Option Addr) (n c k : Nat) (A4 : Option Addr) (c4 k6 : Nat) (A6 : Option Addr) (c6 : Nat) (kept : List Fac) (same : List Int) (m : List (Fac × Value)) : Prop where
  r : W.ownsRow w.heap.size 82 3 (.slice A4 k c4) k (kept.flatMap Fac.cells)
  s : W.ownsRow w.heap.size 2 1 (.slice A6 k6 c6) k6 (same.flatMap intE)
  m : MapIs W (w.heap.size + 3) Fac.val m
  g : Blk W w.heap.size 26 #[.slice A n c]
  o : Blk W (w.heap.size + 1) 26 #[.slice none 0 0]
  e : Below w.heap.size w W
section
variable {w W W' : World} {A : Option Addr} {n c k k6 : Nat} {A4 : Option Addr} {c4 : Nat} {A6 : Option Addr} {c6 : Nat} {kept : List Fac} {same : List Int} {m : List (Fac × Value)}
theorem TrW.next (h : TrW w W A n c k A4 c4 k6 A6 c6 kept same m) (hb : Below W.heap.size W W') : TrW w W' A n c k A4 c4 k6 A6 c6 kept same m :=
  ⟨own_next h.r hb, own_next h.s hb, h.m.next hb, h.g.next hb, h.o.next hb, h.e.trans (hb.mono h.e.size)⟩
theorem TrW.alloc (h : TrW w W A n c k A4 c4 k6 A6 c6 kept same m) (o : Obj) : TrW w (W.alloc o) A n c k A4 c4 k6 A6 c6 kept same m := h.next ((Below.refl _ _).alloc (Nat.le_refl _) _)
theorem TrW.drew (h : TrW w W A n c k A4 c4 k6 A6 c6 kept same m) : TrW w W.drew A n c k A4 c4 k6 A6 c6 kept same m := h.next (Below.refl _ _).drew
/-- all that the call has made so far lies below a block that it makes next -/
theorem TrW.bnd (h : TrW w W A n c k A4 c4 k6 A6 c6 kept same m) : (∀ q, (Value.slice A4 k c4).ownBlock = some q → q < W.heap.size) ∧ (∀ q, (Value.slice A6 k6 c6).ownBlock = some q → q < W.heap.size) ∧ w.heap.size + 3 < W.heap.size :=
  ⟨fun q hq => (h.r.lt q hq).2, fun q hq => (h.s.lt q hq).2, h.m.lt⟩
/-- an entry put into the map -/
theorem TrW.put {m' : List (Fac × Value)} (h : TrW w W A n c k A4 c4 k6 A6 c6 kept same m) (hm : MapIs W' (w.heap.size + 3) Fac.val m') (hg : W.grownBy W' (some (w.heap.size + 3))) (hb : Below w.heap.size w W') : TrW w W' A n c k A4 c4 k6 A6 c6 kept same m' :=
  have ne : ∀ {e sz n : Nat} {v : Value} {xs : List Value}, W.ownsRow w.heap.size e sz v n xs → v.ownBlock = none ∨ v.ownBlock ≠ some (w.heap.size + 3) := fun ho => by
    have := h.m.ne_own ho
    exact .inr fun e => this e.symm
  ⟨h.r.kept hg (ne h.r), h.s.kept hg (ne h.s), hm, h.g.grown hg (by intro e; injection e with e; omega), h.o.grown hg (by intro e; injection e with e; omega), hb⟩
/-- one rule more -/
theorem TrW.pushR {A8 : Option Addr} {k8 c8 : Nat} {kept' : List Fac} (h : TrW w W A n c k A4 c4 k6 A6 c6 kept same m) (ho : W'.ownsRow w.heap.size 82 3 (.slice A8 k8 c8) k8 (kept'.flatMap Fac.cells)) (hg : W.grownBy W' (Value.slice A4 k c4).ownBlock) :
    TrW w W' A n c k8 A8 c8 k6 A6 c6 kept' same m :=
  ⟨ho, h.s.kept hg (own_ne h.s h.r (by decide)), h.m.grown hg (h.m.ne_own h.r), h.g.grown hg (own_blk_ne h.r h.g (by decide)), h.o.grown hg (own_blk_ne h.r h.o (by decide)), h.e.grown hg h.e.size (own_ge h.r)⟩
/-- one number more -/
theorem TrW.pushS {A8 : Option Addr} {k8 c8 : Nat} {same' : List Int} (h : TrW w W A n c k A4 c4 k6 A6 c6 kept same m) (ho : W'.ownsRow w.heap.size 2 1 (.slice A8 k8 c8) k8 (same'.flatMap intE)) (hg : W.grownBy W' (Value.slice A6 k6 c6).ownBlock) :
    TrW w W' A n c k A4 c4 k8 A8 c8 kept same' m :=
  ⟨h.r.kept hg (own_ne h.r h.s (by decide)), ho, h.m.grown hg (h.m.ne_own h.s), h.g.grown hg (own_blk_ne h.s h.g (by decide)), h.o.grown hg (own_blk_ne h.s h.o (by decide)), h.e.grown hg h.e.size (own_ge h.s)⟩
/-- three cells of a block of another kind put -/
theorem TrW.box3 {B : Nat} (h : TrW w W A n c k A4 c4 k6 A6 c6 kept same m) (hB : w.heap.size ≤ B) (hb : (∀ q, (Value.slice A4 k c4).ownBlock = some q → q < B) ∧ (∀ q, (Value.slice A6 k6 c6).ownBlock = some q → q < B) ∧ w.heap.size + 3 < B) (x y z : Value) :
    TrW w (((W.setCell ⟨B, 0, none⟩ x).setCell ⟨B, 1, none⟩ y).setCell ⟨B, 2, none⟩ z) A n c k A4 c4 k6 A6 c6 kept same m := by
  obtain ⟨h4, h6, hm⟩ := hb
  have hg : W.grownBy (((W.setCell ⟨B, 0, none⟩ x).setCell ⟨B, 1, none⟩ y).setCell ⟨B, 2, none⟩ z) (some B) := gb_setCell (gb_setCell (gb_set W B 0 x) 1 y) 2 z
  have ne : ∀ (v : Value), (∀ q, v.ownBlock = some q → q < B) → v.ownBlock = none ∨ v.ownBlock ≠ some B := fun v hv => by
    cases hq : v.ownBlock with
    | none => exact .inl rfl
    | some q => exact .inr fun e => by have := hv q hq; injection e with e; omega
  exact ⟨h.r.kept hg (ne _ h4), h.s.kept hg (ne _ h6), h.m.grown hg (by intro e; injection e with e; omega), h.g.grown hg (by intro e; injection e with e; omega), h.o.grown hg (by intro e; injection e with e; omega),
    h.e.grown hg h.e.size (fun q hq => by injection hq with hq; omega)⟩
/-- a cell of a block made later put -/
theorem TrW.set1 {B : Nat} (h : TrW w W A n c k A4 c4 k6 A6 c6 kept same m) (hB : w.heap.size ≤ B) (hb : (∀ q, (Value.slice A4 k c4).ownBlock = some q → q < B) ∧ (∀ q, (Value.slice A6 k6 c6).ownBlock = some q → q < B) ∧ w.heap.size + 3 < B) (i : Nat) (x : Value) :
    TrW w (W.setCell ⟨B, i, none⟩ x) A n c k A4 c4 k6 A6 c6 kept same m := by
  obtain ⟨h4, h6, hm⟩ := hb
  have hg : W.grownBy (W.setCell ⟨B, i, none⟩ x) (some B) := gb_set W B i x
  have ne : ∀ (v : Value), (∀ q, v.ownBlock = some q → q < B) → v.ownBlock = none ∨ v.ownBlock ≠ some B := fun v hv => by
    cases hq : v.ownBlock with
    | none => exact .inl rfl
    | some q => exact .inr fun e => by have := hv q hq; injection e with e; omega
  exact ⟨h.r.kept hg (ne _ h4), h.s.kept hg (ne _ h6), h.m.grown hg (by intro e; injection e with e; omega), h.g.grown hg (by intro e; injection e with e; omega), h.o.grown hg (by intro e; injection e with e; omega),
    h.e.grown hg h.e.size (fun q hq => by injection hq with hq; omega)⟩
end
end Go.Proofs.Ytgdbpkpaacbhhaa


/-
  A grammar trimmed by the reference.
-/
namespace Go.Proofs.Ytgdbpkpaacbhhaa
open Go.RowKit

/-- the reference's first round under way: what the call has made -/
structure TsW (w W : World) (k : Nat) (A5 : Option Addr) (c5 k6 : Nat) (A4 : Option Addr) (c4 : Nat) (kept : List Fac) (same : List Int) : Prop where
  r : W.ownsRow w.heap.size 82 3 (.slice A5 k c5) k (kept.flatMap Fac.cells)
  s : W.ownsRow w.heap.size 2 1 (.slice A4 k6 c4) k6 (same.flatMap intE)
  o : Blk W w.heap.size 26 #[.slice none 0 0]
  e : Below w.heap.size w W
section
variable {w W W' : World} {k k6 : Nat} {A5 : Option Addr} {c5 : Nat} {A4 : Option Addr} {c4 : Nat} {kept : List Fac} {same : List Int}
theorem TsW.next (h : TsW w W k A5 c5 k6 A4 c4 kept same) (hb : Below W.heap.size W W') : TsW w W' k A5 c5 k6 A4 c4 kept same :=
  ⟨own_next h.r hb, own_next h.s hb, h.o.next hb, h.e.trans (hb.mono h.e.size)⟩
theorem TsW.alloc (h : TsW w W k A5 c5 k6 A4 c4 kept same) (o : Obj) : TsW w (W.alloc o) k A5 c5 k6 A4 c4 kept same := h.next ((Below.refl _ _).alloc (Nat.le_refl _) _)
theorem TsW.drew (h : TsW w W k A5 c5 k6 A4 c4 kept same) : TsW w W.drew k A5 c5 k6 A4 c4 kept same := h.next (Below.refl _ _).drew
theorem TsW.pushR {A8 : Option Addr} {k8 c8 : Nat} {kept' : List Fac} (h : TsW w W k A5 c5 k6 A4 c4 kept same) (ho : W'.ownsRow w.heap.size 82 3 (.slice A8 k8 c8) k8 (kept'.flatMap Fac.cells)) (hg : W.grownBy W' (Value.slice A5 k c5).ownBlock) :
    TsW w W' k8 A8 c8 k6 A4 c4 kept' same :=
  ⟨ho, h.s.kept hg (own_ne h.s h.r (by decide)), h.o.grown hg (own_blk_ne h.r h.o (by decide)), h.e.grown hg h.e.size (own_ge h.r)⟩
theorem TsW.pushS {A8 : Option Addr} {k8 c8 : Nat} {same' : List Int} (h : TsW w W k A5 c5 k6 A4 c4 kept same) (ho : W'.ownsRow w.heap.size 2 1 (.slice A8 k8 c8) k8 (same'.flatMap intE)) (hg : W.grownBy W' (Value.slice A4 k6 c4).ownBlock) :
    TsW w W' k A5 c5 k8 A8 c8 kept same' :=
  ⟨h.r.kept hg (own_ne h.r h.s (by decide)), ho, h.o.grown hg (own_blk_ne h.s h.o (by decide)), h.e.grown hg h.e.size (own_ge h.s)⟩
/-- a block made later put -/
theorem TsW.far {Z : Nat} (h : TsW w W k A5 c5 k6 A4 c4 kept same) (hg : W.grownBy W' (some Z)) (h1 : some Z ≠ (Value.slice A5 k c5).ownBlock) (h2 : some Z ≠ (Value.slice A4 k6 c4).ownBlock) (h3 : w.heap.size < Z) : TsW w W' k A5 c5 k6 A4 c4 kept same :=
  ⟨h.r.kept hg (.inr fun e => h1 e.symm), h.s.kept hg (.inr fun e => h2 e.symm), h.o.grown hg (by intro e; injection e with e; omega), h.e.grown hg h.e.size (fun q hq => by injection hq with hq; omega)⟩
theorem TsW.bnd (h : TsW w W k A5 c5 k6 A4 c4 kept same) : (∀ q, (Value.slice A5 k c5).ownBlock = some q → q < W.heap.size) ∧ (∀ q, (Value.slice A4 k6 c4).ownBlock = some q → q < W.heap.size) ∧ w.heap.size < W.heap.size :=
  ⟨fun q hq => (h.r.lt q hq).2, fun q hq => (h.s.lt q hq).2, h.o.lt⟩
end
theorem trR_set {at_ : List Int} {x : Fac} {i : Nat} {z : Int} (h : x.l.size = 0 → 0 ≤ x.a ∧ x.a < (i : Int) ∧ 0 ≤ x.b ∧ x.b < (i : Int)) : trR (at_.set i z) x = trR at_ x := by
  unfold trR
  by_cases h0 : x.l.size = 0
  · obtain ⟨a0, a1, b0, b1⟩ := h h0
    rw [if_pos h0, if_pos h0]
    simp only [List.getD_eq_getElem?_getD]
    rw [List.getElem?_set_ne (by omega), List.getElem?_set_ne (by omega)]
  · rw [if_neg h0, if_neg h0]
theorem fac_ext {f g : Fac} (h1 : f.l.toList = g.l.toList) (h2 : f.a = g.a) (h3 : f.b = g.b) : f = g := by
  cases f; cases g
  simp only at h1 h2 h3
  rw [tl_inj.1 h1, h2, h3]
theorem news1i {W : World} {g : Nat} {t : TypeId} {v : Int} (h : Blk W g t #[.int .i64 v]) : ∀ j u, ([v].flatMap intE)[j]? = some u → W.cell? ((⟨g, 0, none⟩ : Addr).add j) = some u := by
  intro j u hj
  have e : ((⟨g, 0, none⟩ : Addr).add j) = ⟨g, j, none⟩ := by
    simp only [Addr.add, Nat.zero_add]
    by_cases h0 : j = 0
    · subst h0; rfl
    · simp [h0]
  rw [e, h.cell j]
  simpa [intE] using hj
theorem hs_step {kept : List Fac} {same : List Int} (h : ∀ (j : Nat) (x : Fac), kept[j]? = some x → same.getD j 0 = ((kept.idxOf x : Nat) : Int)) (hl : same.length = kept.length) (y : Fac) :
    ∀ (j : Nat) (x : Fac), (kept ++ [y])[j]? = some x → (same ++ [((kept.idxOf y : Nat) : Int)]).getD j 0 = (((kept ++ [y]).idxOf x : Nat) : Int) := by
  intro j x hx
  by_cases e : j < kept.length
  · rw [List.getElem?_append_left e] at hx
    rw [List.getD_eq_getElem?_getD, List.getElem?_append_left (by omega), ← List.getD_eq_getElem?_getD, h j x hx, idx_app1 (List.mem_of_getElem? hx)]
  · have hj2 := (List.getElem?_eq_some_iff.1 hx).1
    simp only [List.length_append, List.length_singleton] at hj2
    obtain rfl : j = kept.length := by omega
    rw [List.getElem?_append_right (Nat.le_refl _), Nat.sub_self] at hx
    obtain rfl : y = x := by simpa using hx
    rw [List.getD_eq_getElem?_getD, List.getElem?_append_right (by omega), hl, Nat.sub_self, idx_app2]
    rfl
set_option maxHeartbeats 4000000 in
set_option maxRecDepth 100000 in
theorem l02Trim_any (gb : Nat) (A : Option Addr) (n c : Nat) (rs : List Fac) (w : World) (hg : gb < w.heap.size) (hc : w.cell? ⟨gb, 0, none⟩ = some (.slice A n c)) (hn : n ≤ 1048576) (hr : Rd w w.heap.size A n 3 Fac.cells rs) (hwf : WF rs) :
    Calls Try.prog 44 #[.pointer (some ⟨gb, 0, none⟩)] w (RetG w (trimL rs)) := by
  have hl := Lib.hid hr.len
  have HR := Lib.hid hr; clear hr
  have HWF := Lib.hid hwf; clear hwf
  have HC := Lib.hid (fun (W : World) (h : Below w.heap.size w W) => (h.cell (p := ⟨gb, 0, none⟩) hg).trans hc)
  go_enter Try.func44, Try.ntmps44
  go_wp2_with fail
  refine named fun w0 H0 => ?_
  have T0 : TsW w w0 0 (some ⟨w.heap.size + 1 + 1, 0, none⟩) 0 0 (some ⟨w.heap.size + 1, 0, none⟩) 0 [] [] := by
    rw [H0.out]
    refine ⟨?_, ?_, ?_, by (repeat first | exact Below.refl _ _ | assumption | refine Below.drew ?_ | refine Below.alloc ?_ (by first | exact Nat.le_refl _ | (simp; done) | omega | (simp; omega)) _ | refine Below.setCell ?_ (by first | exact Nat.le_refl _ | (simp; done) | omega | (simp; omega)) _)⟩
    · have h := World.ownsRow_made (base := w.heap.size) (e := 82) (size := 3) ((w.alloc (.cells #[.slice none 0 0] 26)).alloc (.cells #[] 2)) #[] 0 (by simp; omega) (by unfold maxLen; omega) rfl
      simpa using h
    · have h := World.ownsRow_made (base := w.heap.size) (e := 2) (size := 1) (w.alloc (.cells #[.slice none 0 0] 26)) #[] 0 (by simp) (by unfold maxLen; omega) rfl
      simpa using h.alloc _
    · exact ((Blk.new w _ _).alloc _).alloc _
  have T0' := Lib.hid T0
  clear T0 H0
  go_loopw [4, 5, 6] (fun s_ r_ i_ w' => ∃ (k : Nat) (A4 : Option Addr) (c4 : Nat) (A5 : Option Addr) (c5 : Nat) (kept : List Fac) (same : List Int), i_ = .int .i64 k ∧ s_ = .slice A4 k c4 ∧ r_ = .slice A5 k c5 ∧ k ≤ n ∧ Hid (TsW w w' k A5 c5 k A4 c4 kept same) ∧
      Hid (∀ (j : Nat) (x : Fac), kept[j]? = some x → same.getD j 0 = ((kept.idxOf x : Nat) : Int)) ∧ Hid (TrI kept same) ∧ Hid (kept.length = k) ∧ Hid (trK (rs.drop k) kept same = trK rs [] [])) (fun _ _ i_ _ => n - (intOf i_).toNat)
  case atStart => exact ⟨0, _, 0, _, 0, [], [], rfl, rfl, rfl, by omega, T0', Lib.hid (fun j x h => by simp at h), Lib.hid TrI.nil, Lib.hid rfl, Lib.hid rfl⟩
  case round =>
    obtain ⟨k, A4, c4, A5, c5, kept, same, rfl, rfl, rfl, hk, TR, HS, HI, hkl, HK⟩ := hrel
    have cg := HC.out wr TR.out.e
    by_cases hlt : k < n
    · obtain ⟨b, o, x, rfl, hB, gx, c0, c1, c2⟩ := (HR.out.below TR.out.e).fac hlt
      have hBr : b < wr.heap.size := by have := TR.out.e.size; omega
      have Hstep := Lib.hid (trK_take rs gx HK.out)
      have HI2 := Lib.hid (HI.out.step HWF.out (by rw [hkl.out]; exact gx))
      have hsl := Lib.hid (HI.out.len.trans hkl.out)
      have Gx := Lib.hid gx
      clear gx
      go_upto_if 37 with fail
      refine named fun w1 H1 => ?_
      have BX1 := Lib.hid (show Blk w1 wr.heap.size 82 #[.string x.l, .int .i64 x.a, .int .i64 x.b] by rw [H1.out]; exact Blk.new wr _ _)
      have TR1 := Lib.hid (show TsW w w1 k A5 c5 k A4 c4 kept same by rw [H1.out]; exact TR.out.alloc _)
      have nbR := Lib.hid (show some wr.heap.size ≠ (Value.slice A5 k c5).ownBlock from fun e => by have := TR.out.bnd.1 _ e.symm; omega)
      have nbS := Lib.hid (show some wr.heap.size ≠ (Value.slice A4 k c4).ownBlock from fun e => by have := TR.out.bnd.2.1 _ e.symm; omega)
      have zZ := TR.out.bnd.2.2
      have cgb : gb < wr.heap.size := by omega
      clear H1 c0 c1 c2
      generalize wr.heap.size = Z at *
      go_cut [] (fun wx => Hid (TsW w wx k A5 c5 k A4 c4 kept same) ∧ Hid (Blk wx Z 82 #[.string (trR same x).l, .int .i64 (trR same x).a, .int .i64 (trR same x).b]))
      case first =>
        rcases HWF.out k x Gx.out with ⟨h0, ha0, ha1, hb0, hb1⟩ | ⟨cc, hcc, hxl, hxa, hxb⟩
        · have e0 := size0 h0
          have he : x.l.toList.isEmpty = true := by rw [size0 h0]; rfl
          have Hy := Lib.hid (show trR same x = ⟨⟨#[]⟩, same.getD x.a.toNat 0, same.getD x.b.toNat 0⟩ by unfold trR; rw [if_pos h0])
          obtain ⟨g4, cp4, hv4, hg40, hg41⟩ := TR1.out.s.form (by omega)
          obtain rfl : A4 = some ⟨g4, 0, none⟩ := by injection hv4
          have va : w1.cell? ⟨g4, x.a.toNat, none⟩ = some (.int .i64 (same.getD x.a.toNat 0)) := by
            have := own_at (sz := 1) (enc := intE) (fun _ _ => rfl) TR1.out.s hsl.out 0 x.a.toNat (by omega) 0 (by omega)
            rw [Nat.mul_one, Nat.add_zero] at this; exact this
          have vb : w1.cell? ⟨g4, x.b.toNat, none⟩ = some (.int .i64 (same.getD x.b.toNat 0)) := by
            have := own_at (sz := 1) (enc := intE) (fun _ _ => rfl) TR1.out.s hsl.out 0 x.b.toNat (by omega) 0 (by omega)
            rw [Nat.mul_one, Nat.add_zero] at this; exact this
          generalize same.getD x.a.toNat 0 = sa at *
          generalize same.getD x.b.toNat 0 = sb at *
          obtain ⟨d0, d1, d2⟩ := BX1.out.three
          have lx := BX1.out.lt
          have fx := BX1.out.frozen
          have i1 : x.a < (k : Int) := ha1
          have i2 : x.b < (k : Int) := hb1
          clear hv4
          simp only [he]
          clear he e0
          go_wp2_with fail
          go_region
          all_goals
            go_wp2_with fail
            go_meet
            have BY := ((BX1.out.set_ 0 (.string .empty)).set_ 1 (.int .i64 sa)).set_ 2 (.int .i64 sb)
            have hgm := gb_setCell (gb_setCell (gb_set w1 Z 0 (.string .empty)) 1 (.int .i64 sa)) 2 (.int .i64 sb)
            refine ⟨Lib.hid (TR1.out.far hgm nbR.out nbS.out (by omega)).drew, Lib.hid ?_⟩
            rw [Hy.out]; exact BY.drew
        · have e0 : x.l.toList ≠ [] := size1 (by rw [hxl]; show (1 : Nat) ≠ 0; omega)
          have he : x.l.toList.isEmpty = false := by rw [List.isEmpty_eq_false_iff]; exact e0
          have Hy := Lib.hid (show trR same x = x by unfold trR; rw [if_neg (by rw [hxl]; show (1 : Nat) ≠ 0; omega)])
          clear hxl hxa hxb
          simp only [he]
          clear he e0
          go_wp2_with fail
          go_meet
          exact ⟨TR1, by rw [Hy.out]; exact BX1⟩
      case rest =>
        obtain ⟨TR2, BX2⟩ := hcut
        clear TR1 BX1
        generalize trR same x = y at *
        have hik : kept.idxOf y ≤ k := by have := List.idxOf_le_length (a := y) (l := kept); have := hkl.out; omega
        go_upto_block 2 with fail
        refine named fun w2 H2 => ?_
        have TR3 := Lib.hid (show TsW w w2 k A5 c5 k A4 c4 kept same by rw [H2.out]; exact TR2.out)
        have BX3 := Lib.hid (show Blk w2 Z 82 #[.string y.l, .int .i64 y.a, .int .i64 y.b] by rw [H2.out]; exact BX2.out)
        clear H2 TR2 BX2
        go_cut [8] (fun o_ wx => o_ = .int .i64 ((kept.idxOf y : Nat) : Int) ∧ Hid (TsW w wx k A5 c5 k A4 c4 kept same) ∧ Hid (Blk wx Z 82 #[.string y.l, .int .i64 y.a, .int .i64 y.b]))
        case first =>
          go_wp2_with fail
          go_loopw [8, 9] (fun o_ j_ w' => ∃ (own j : Nat), o_ = .int .i64 own ∧ j_ = .int .i64 j ∧ j ≤ k ∧ own ≤ k ∧ Hid (TsW w w' k A5 c5 k A4 c4 kept same) ∧ Hid (Blk w' Z 82 #[.string y.l, .int .i64 y.a, .int .i64 y.b]) ∧
            Hid ((own = k ∧ ∀ q, q < j → ¬ (same.getD q 0 = (q : Int) ∧ kept[q]? = some y)) ∨ (own < k ∧ kept[own]? = some y ∧ same.getD own 0 = (own : Int)))) (fun _ j_ _ => k - (intOf j_).toNat)
          case atStart => exact ⟨k, 0, rfl, rfl, by omega, by omega, TR3, BX3, Lib.hid (.inl ⟨rfl, fun q hq => absurd hq (by omega)⟩)⟩
          case round =>
            obtain ⟨own, j, rfl, rfl, hj, how, T4, B4, HQ⟩ := hrel
            by_cases hlt2 : j < k
            · rcases HQ.out with ⟨hok, hno⟩ | ⟨hok, hfo, hsf⟩
              · obtain rfl : k = own := hok.symm
                have HN := Lib.hid hno
                clear hno HQ
                obtain ⟨g4, cp4, hv4, hg40, hg41⟩ := T4.out.s.form (by omega)
                obtain rfl : A4 = some ⟨g4, 0, none⟩ := by injection hv4
                obtain ⟨g5, cp5, hv5, hg50, hg51⟩ := T4.out.r.form (by omega)
                obtain rfl : A5 = some ⟨g5, 0, none⟩ := by injection hv5
                have va : wr.cell? ⟨g4, j, none⟩ = some (.int .i64 (same.getD j 0)) := by
                  have := own_at (sz := 1) (enc := intE) (fun _ _ => rfl) T4.out.s hsl.out 0 j (by omega) 0 (by omega)
                  rw [Nat.mul_one, Nat.add_zero] at this; exact this
                obtain ⟨x', hx'⟩ : ∃ x', kept[j]? = some x' := ⟨_, List.getElem?_eq_getElem (by have := hkl.out; omega)⟩
                have hxd : kept.getD j default = x' := by rw [List.getD_eq_getElem?_getD, hx']; rfl
                have cel := fun (q : Nat) (hq : q < 3) => own_at (sz := 3) (enc := Fac.cells) (fun _ _ => rfl) T4.out.r hkl.out default j (by omega) q hq
                rw [hxd] at cel
                have c0 : wr.cell? ⟨g5, j * 3, none⟩ = some (.string x'.l) := cel 0 (by omega)
                have c1 : wr.cell? ⟨g5, j * 3 + 1, none⟩ = some (.int .i64 x'.a) := cel 1 (by omega)
                have c2 : wr.cell? ⟨g5, j * 3 + 2, none⟩ = some (.int .i64 x'.b) := cel 2 (by omega)
                have HX := Lib.hid hx'
                obtain ⟨e0, e1, e2⟩ := B4.out.three
                clear cel hxd hx' hv4 hv5
                obtain ⟨sj, hsj⟩ : ∃ sj, same.getD j 0 = sj := ⟨_, rfl⟩
                rw [hsj] at va
                have HSJ := Lib.hid hsj
                clear hsj
                by_cases hss : sj = (j : Int)
                · subst hss
                  by_cases hxy : x' = y
                  · subst hxy
                    go_wp2_with fail
                    go_region
                    all_goals
                      go_wp2_with fail
                      go_roundw
                      case rel => exact ⟨j, j + 1, rfl, by go_num, by omega, by omega, Lib.hid T4.out.drew, Lib.hid B4.out.drew, Lib.hid (.inr ⟨hlt2, HX.out, HSJ.out⟩)⟩
                      case measure => first | (simp [intOf]; done) | (simp [intOf]; omega)
                  · have hcase : x'.l.toList ≠ y.l.toList ∨ (x'.l.toList = y.l.toList ∧ x'.a ≠ y.a) ∨ (x'.l.toList = y.l.toList ∧ x'.a = y.a ∧ x'.b ≠ y.b) := by
                      by_cases h1 : x'.l.toList = y.l.toList
                      · by_cases h2 : x'.a = y.a
                        · by_cases h3 : x'.b = y.b
                          · exact absurd (fac_ext h1 h2 h3) hxy
                          · exact .inr (.inr ⟨h1, h2, h3⟩)
                        · exact .inr (.inl ⟨h1, h2⟩)
                      · exact .inl h1
                    have HXY := Lib.hid hxy
                    clear hxy
                    rcases hcase with h1 | ⟨h1, h2⟩ | ⟨h1, h2, h3⟩
                    all_goals
                      go_wp2_with fail
                      go_region
                      all_goals
                        go_wp2_with fail
                        go_roundw
                        case rel =>
                          refine ⟨k, j + 1, rfl, by go_num, by omega, by omega, Lib.hid T4.out.drew, Lib.hid B4.out.drew, Lib.hid (.inl ⟨rfl, fun q hq => ?_⟩)⟩
                          rcases Nat.lt_or_ge q j with h | h
                          · exact HN.out q h
                          · obtain rfl : q = j := by omega
                            rintro ⟨-, hh⟩
                            exact HXY.out (by have := HX.out.symm.trans hh; injection this)
                        case measure => first | (simp [intOf]; done) | (simp [intOf]; omega)
                · have hne : (sj == (j : Int)) = false := by simpa using hss
                  go_wp2_with fail
                  go_region
                  all_goals
                    go_wp2_with fail
                    go_roundw
                    case rel =>
                      refine ⟨k, j + 1, rfl, by go_num, by omega, by omega, Lib.hid T4.out.drew, Lib.hid B4.out.drew, Lib.hid (.inl ⟨rfl, fun q hq => ?_⟩)⟩
                      rcases Nat.lt_or_ge q j with h | h
                      · exact HN.out q h
                      · obtain rfl : q = j := by omega
                        rintro ⟨h1, -⟩
                        exact hss (HSJ.out.symm.trans h1)
                    case measure => first | (simp [intOf]; done) | (simp [intOf]; omega)
              · have hne : ((own : Int) == (k : Int)) = false := by simp; omega
                have hid := HS.out own y hfo
                rw [hsf] at hid
                have HID := Lib.hid hid
                clear hid hfo hsf
                go_wp2_with fail
                go_meet
                exact ⟨by rw [HID.out], T4, B4⟩
            · obtain rfl : k = j := by omega
              rcases HQ.out with ⟨hok, hno⟩ | ⟨hok, hfo, hsf⟩
              · obtain rfl : k = own := hok.symm
                have hnm : y ∉ kept := fun hm => by
                  have h1 : kept.idxOf y < kept.length := List.idxOf_lt_length_iff.2 hm
                  have h2 : kept[kept.idxOf y]? = some y := by rw [List.getElem?_eq_getElem h1, List.getElem_idxOf]
                  exact hno _ (by rw [hkl.out] at h1; exact h1) ⟨HS.out _ _ h2, h2⟩
                have HID := Lib.hid (show kept.idxOf y = k by rw [List.idxOf_eq_length hnm, hkl.out])
                clear hno hnm HQ
                go_wp2_with fail
                go_meet
                exact ⟨by rw [HID.out], T4, B4⟩
              · have hid := HS.out own y hfo
                rw [hsf] at hid
                have HID := Lib.hid hid
                clear hid hfo hsf HQ
                go_wp2_with fail
                go_meet
                exact ⟨by rw [HID.out], T4, B4⟩
        case rest =>
          obtain ⟨rfl, TR2, BX2⟩ := hcut
          have HS2 := Lib.hid (hs_step HS.out HI.out.len y)
          generalize hvz : ((kept.idxOf y : Nat) : Int) = v at *
          have TA := Lib.hid (TR2.out.alloc (.cells #[.int .i64 v] 2))
          have BA := Lib.hid (BX2.out.alloc (.cells #[.int .i64 v] 2))
          go_wp2_with
            (first
              | (at_builtin
                 refine wpList_app rfl _ _ _ rfl w.heap.size 2 1 8 elem_int intE A4 k c4 same rfl TA.out.s ⟨wc.heap.size, 0, none⟩ 1 1 [v] rfl rfl (by omega) (news1i (Blk.new wc 2 #[.int .i64 v])) (fun _ _ => rfl) (by simp [intE, Value.oneCell']) (by omega) (by omega) (by unfold maxLen; omega) TA.out.e.size ?_
                 intro A8 c8 w8 own8 hg8 hat8
                 have TB := Lib.hid (TA.out.pushS own8 hg8)
                 have BB := Lib.hid (BA.out.grown hg8 nbS.out)
                 obtain ⟨d0, d1, d2⟩ := BB.out.three
                 have lx := BB.out.lt
                 have TC := Lib.hid (TB.out.alloc (.cells #[.string y.l, .int .i64 y.a, .int .i64 y.b] 82))
                 clear own8 hg8 hat8)
              | (at_builtin
                 refine wpList_app rfl _ _ _ rfl w.heap.size 82 3 32 elem_rule Fac.cells A5 k c5 kept rfl TC.out.r ⟨w8.heap.size, 0, none⟩ 1 1 [y] rfl rfl (by omega) (news1 (Blk.new w8 82 #[.string y.l, .int .i64 y.a, .int .i64 y.b])) (fun x _ => fac_len x) (fun x _ => one_fac x) (by omega) (by omega) (by unfold maxLen; omega) TC.out.e.size ?_
                 intro A9 c9 w9 own9 hg9 hat9
                 have TD := Lib.hid (TC.out.pushR own9 hg9)
                 clear own9 hg9 hat9))
          go_roundw
          case rel => exact ⟨k + 1, A8, c8, A9, c9, kept ++ [y], same ++ [v], by go_num, rfl, rfl, by omega, TD, HS2, HI2, Lib.hid (by rw [List.length_append, hkl.out]; rfl), Hstep⟩
          case measure => first | (simp [intOf]; done) | (simp [intOf]; omega)
    · obtain rfl : k = n := by omega
      have HA := Lib.hid (trK_all (by rw [hl.out]; omega) HK.out)
      have mkB := fun W => makeB k W (by omega)
      go_upto_if 86 with fail
      refine named fun w2 H2 => ?_
      have TU := Lib.hid (show TsW w w2 k A5 c5 k A4 c4 kept same by rw [H2.out]; exact TR.out.alloc _)
      have BU := Lib.hid (show Blk w2 wr.heap.size 4 (boolA (List.replicate k false)) by rw [H2.out]; exact Blk.new wr _ _)
      have hbd := Lib.hid TR.out.bnd
      clear H2 TR mkB
      generalize wr.heap.size = U at *
      go_cut [] (fun wx => ∃ u, Hid (TsW w wx k A5 c5 k A4 c4 kept same) ∧ Hid (Blk wx U 4 (boolA u)) ∧ Hid (u.length = k) ∧ Hid (trimL rs = outT (useT kept k u) 0 kept [] (List.replicate k 0)))
      case first =>
        rcases Nat.eq_zero_or_pos k with hk0 | hk0
        · have hkey := Lib.hid (show trimL rs = outT (useT kept k (List.replicate k false)) 0 kept [] (List.replicate k 0) by
            unfold trimL
            rw [if_pos (by rw [hl.out]; exact hk0), List.eq_nil_of_length_eq_zero (hkl.out.trans hk0)]
            rfl)
          have hlt0 : ¬ (0 : Int) < (k : Int) := by omega
          clear hk0
          go_wp2_with fail
          go_meet
          exact ⟨_, TU, BU, Lib.hid (by simp), hkey⟩
        · have hI := HI.out
          have sv := hI.s (k - 1) (by have := hkl.out; omega)
          obtain ⟨g4, cp4, hv4, hg40, hg41⟩ := TU.out.s.form (by omega)
          obtain rfl : A4 = some ⟨g4, 0, none⟩ := by injection hv4
          have cs : w2.cell? ⟨g4, k - 1, none⟩ = some (.int .i64 (same.getD (k - 1) 0)) := by
            have := own_at (sz := 1) (enc := intE) (fun _ _ => rfl) TU.out.s (hI.len.trans hkl.out) 0 (k - 1) (by omega) 0 (by omega)
            rw [Nat.mul_one, Nat.add_zero] at this; exact this
          have hkey := Lib.hid (show trimL rs = outT (useT kept k ((List.replicate k false).set (same.getD (k - 1) 0).toNat true)) 0 kept [] (List.replicate k 0) by
            unfold trimL
            rw [← HA.out, hl.out, if_neg (by omega)]
            rfl)
          generalize same.getD (k - 1) 0 = z at *
          obtain ⟨z0, z1⟩ := sv
          have u1 : IntKind.i64.wrap ((k : Int) - 1) = (k : Int) - 1 := IntWalk.i64_in _ (by omega)
          have z2 : z < (k : Int) := by omega
          have j0 : (0 : Int) ≤ (k : Int) - 1 := by omega
          have j1 : (k : Int) - 1 < (k : Int) := by omega
          have jn : ((k : Int) - 1).toNat = k - 1 := by omega
          have bz := BU.out.cell z.toNat
          rw [boolA_at _ (by rw [List.length_replicate]; omega)] at bz
          have fz := BU.out.frozen
          have zk : z.toNat < k := by omega
          have hk1 : (0 : Int) < (k : Int) := by omega
          clear hv4 hI
          go_wp2_with fail
          go_meet
          have B6 := BU.out.set_ z.toNat (.bool true)
          rw [boolA_set] at B6
          refine ⟨(List.replicate k false).set z.toNat true, ?_, Lib.hid B6, Lib.hid (by simp), hkey⟩
          exact (Lib.hid (TU.out.far (gb_set w2 U _ _) (fun e => by have := hbd.out.1 _ e.symm; omega) (fun e => by have := hbd.out.2.1 _ e.symm; omega) hbd.out.2.2))
      case rest =>
        obtain ⟨u0, TV, BV, hu0, key0⟩ := hcut
        clear TU BU
        have u1 : IntKind.i64.wrap ((k : Int) - 1) = (k : Int) - 1 := IntWalk.i64_in _ (by omega)
        go_wp2_with fail
        refine named fun w3 H3 => ?_
        have TW := Lib.hid (show TsW w w3 k A5 c5 k A4 c4 kept same by rw [H3.out]; exact TV.out)
        have BW := Lib.hid (show Blk w3 U 4 (boolA u0) by rw [H3.out]; exact BV.out)
        clear H3 TV BV
        go_loopw [11] (fun j_ w' => ∃ (j : Nat) (u : List Bool) (y : Int), j_ = .int .i64 y ∧ y + 1 = (j : Int) ∧ j ≤ k ∧ Hid (TsW w w' k A5 c5 k A4 c4 kept same) ∧ Hid (Blk w' U 4 (boolA u)) ∧ Hid (u.length = k) ∧
          Hid (useT kept j u = useT kept k u0)) (fun j_ _ => (intOf j_ + 1).toNat)
        case atStart => exact ⟨k, _, _, rfl, by omega, Nat.le_refl _, TW, BW, hu0, Lib.hid rfl⟩
        case round =>
          obtain ⟨j, u, y, rfl, hy, hj, T2, B2, hu, HU⟩ := hrel
          rcases j with _ | i
          · obtain rfl : y = -1 := by omega
            have e := HU.out
            rw [show useT kept 0 u = u from rfl] at e
            have key := Lib.hid (show trimL rs = outT u 0 kept [] (List.replicate k 0) by rw [key0.out, ← e])
            have ulen := hu
            clear e HU hy hj key0
            have mkN := fun W => makeN k W (by omega)
            go_wp2_with fail
            refine named fun w4 H4 => ?_
            have lo := T2.out.o.lt
            have lu := B2.out.lt
            have n6 := T2.out.bnd.1
            have O1 : OutW w.heap.size w w4 A5 c5 k kept (wr.heap.size + 2) U u wr.heap.size (List.replicate k 0) (wr.heap.size + 1) none 0 0 [] := by
              rw [H4.out]
              have hb : Below wr.heap.size wr ((wr.alloc (.cells (intA (List.replicate k 0)) 2)).alloc (.cells #[.slice none 0 0] 26)) := ((Below.refl _ _).alloc (Nat.le_refl _) _).alloc (by simp) _
              have T5 := T2.out.next hb
              refine ⟨T5.r, B2.out.next hb, (Blk.new wr _ _).alloc _, ?_, T5.o, World.ownsRow_nil _ _ _ _, T5.e, Nat.le_refl _, by omega, by omega, by have := T2.out.e.size; have := hbd.out.2.2; omega, by omega, by simp, fun q hq => by have := n6 q hq; omega⟩
              have h := Blk.new (wr.alloc (.cells (intA (List.replicate k 0)) 2)) 26 #[.slice none 0 0]
              rw [show (wr.alloc (.cells (intA (List.replicate k 0)) 2)).heap.size = wr.heap.size + 1 by simp] at h
              exact h
            have O1' := Lib.hid O1
            clear O1 H4 T2 B2 n6 lo lu mkN hbd
            generalize hB : wr.heap.size + 1 = B at *
            have hB' := Lib.hid hB
            clear hB
            generalize wr.heap.size = V at *
            generalize V + 2 = X at *
            go_loopw [14] (fun i_ w' => ∃ (i nn : Nat) (A7 : Option Addr) (c7 : Nat) (out : List Fac) (at_ : List Int), i_ = .int .i64 i ∧ i ≤ k ∧ nn ≤ i ∧ Hid (OutW w.heap.size w w' A5 c5 k kept X U u V at_ B A7 nn c7 out) ∧ Hid (out.length = nn) ∧ Hid (at_.length = k) ∧
              Hid (outT u i (kept.drop i) out at_ = outT u 0 kept [] (List.replicate k 0))) (fun i_ _ => k - (intOf i_).toNat)
            case atStart =>
              exact ⟨0, 0, none, 0, [], _, rfl, by omega, by omega, O1', Lib.hid rfl, Lib.hid (by simp), Lib.hid rfl⟩
            case round =>
              obtain ⟨i, nn, A7, c7, out, at_, rfl, hi, hnn, O2, hol, hal, HO⟩ := hrel
              by_cases hlt : i < k
              · obtain ⟨g5, cp5, hv5, hg50, hg51⟩ := O2.out.r.form (by omega)
                obtain rfl : A5 = some ⟨g5, 0, none⟩ := by injection hv5
                obtain ⟨x, hx⟩ : ∃ x, kept[i]? = some x := ⟨_, List.getElem?_eq_getElem (by have := hkl.out; omega)⟩
                have hxd : kept.getD i default = x := by rw [List.getD_eq_getElem?_getD, hx]; rfl
                have cel := fun (q : Nat) (hq : q < 3) => own_at (sz := 3) (enc := Fac.cells) (fun _ _ => rfl) O2.out.r hkl.out default i (by omega) q hq
                rw [hxd] at cel
                have c0 : wr.cell? ⟨g5, i * 3, none⟩ = some (.string x.l) := cel 0 (by omega)
                have c1 : wr.cell? ⟨g5, i * 3 + 1, none⟩ = some (.int .i64 x.a) := cel 1 (by omega)
                have c2 : wr.cell? ⟨g5, i * 3 + 2, none⟩ = some (.int .i64 x.b) := cel 2 (by omega)
                have nV : V ≠ g5 := fun e => own_blk_ne O2.out.r O2.out.v (by decide) (by rw [e]; rfl)
                have nBV : B ≠ V := by have := hB'.out; omega
                clear cel hxd hv5
                have bu := O2.out.u.cell i
                rw [boolA_at u (i := i) (by have := ulen.out; omega)] at bu
                have ho := HO.out
                rw [drop_cons hx] at ho
                have HX := Lib.hid hx
                obtain ⟨ub, hub⟩ : ∃ ub, u.getD i false = ub := ⟨_, rfl⟩
                rw [hub] at bu
                have Hub := Lib.hid hub
                clear hub hx
                cases ub
                · have e : outT u (i + 1) (kept.drop (i + 1)) out at_ = outT u 0 kept [] (List.replicate k 0) := by
                    rw [← ho, outT, if_neg (by rw [Hub.out]; simp)]
                  have E := Lib.hid e
                  clear e ho
                  go_wp2_with fail
                  go_roundw
                  case rel => exact ⟨i + 1, nn, A7, c7, out, at_, by go_num, by omega, by omega, O2, hol, hal, E⟩
                  case measure => first | (simp [intOf]; done) | (simp [intOf]; omega)
                · have e : outT u (i + 1) (kept.drop (i + 1)) (out ++ [trR at_ x]) (at_.set i (nn : Int)) = outT u 0 kept [] (List.replicate k 0) := by
                    rw [← ho, outT, if_pos Hub.out, hol.out]
                  have E := Lib.hid e
                  clear e ho
                  have Hset := Lib.hid (show trR (at_.set i (nn : Int)) x = trR at_ x from trR_set (fun h0 => by
                    rcases HI.out.k i x HX.out with ⟨_, ha0, ha1, hb0, hb1⟩ | ⟨cc, hcc, hxl, hxa, hxb⟩
                    · exact ⟨ha0, ha1, hb0, hb1⟩
                    · rw [hxl] at h0; exact absurd h0 (show (1 : Nat) ≠ 0 by omega)))
                  have f5 := O2.out.v.frozen
                  have v5 := O2.out.v.cell i
                  rw [intA_at at_ (by have := hal.out; omega)] at v5
                  have b5 := O2.out.b.cell 0
                  go_upto_if 151 with fail
                  refine named fun w1 H1 => ?_
                  have O3 := Lib.hid (show OutW w.heap.size w w1 (some ⟨g5, 0, none⟩) c5 k kept X U u V (at_.set i (nn : Int)) B A7 nn c7 out by rw [H1.out]; exact (O2.out.tell i (nn : Int)).alloc _)
                  have BX1 := Lib.hid (show Blk w1 wr.heap.size 82 #[.string x.l, .int .i64 x.a, .int .i64 x.b] by
                    rw [H1.out]
                    have h := Blk.new (wr.setCell ⟨V, i, none⟩ (.int .i64 (nn : Int))) 82 #[.string x.l, .int .i64 x.a, .int .i64 x.b]
                    rw [show (wr.setCell ⟨V, i, none⟩ (.int .i64 (nn : Int))).heap.size = wr.heap.size by simp] at h
                    exact h)
                  have q1 : some wr.heap.size ≠ (Value.slice (some ⟨g5, 0, none⟩) k c5).ownBlock := fun e => by have := (O2.out.r.lt _ e.symm).2; omega
                  have q2 : some wr.heap.size ≠ (Value.slice A7 nn c7).ownBlock := fun e => by have := (O2.out.q.lt _ e.symm).2; omega
                  have q3 := O2.out.u.lt
                  have q4 := O2.out.v.lt
                  have q5 := O2.out.b.lt
                  have q6 := O2.out.o.lt
                  have Q1 := Lib.hid q1
                  have Q2 := Lib.hid q2
                  clear q1 q2 H1 c0 c1 c2 bu v5 f5 b5
                  generalize wr.heap.size = Z at *
                  go_cut [] (fun wx => Hid (OutW w.heap.size w wx (some ⟨g5, 0, none⟩) c5 k kept X U u V (at_.set i (nn : Int)) B A7 nn c7 out) ∧ Hid (Blk wx Z 82 #[.string (trR at_ x).l, .int .i64 (trR at_ x).a, .int .i64 (trR at_ x).b]))
                  case first =>
                    rcases HI.out.k i x HX.out with ⟨h0, ha0, ha1, hb0, hb1⟩ | ⟨cc, hcc, hxl, hxa, hxb⟩
                    · have e0 := size0 h0
                      have he : x.l.toList.isEmpty = true := by rw [e0]; rfl
                      have Hy := Lib.hid (show trR at_ x = ⟨⟨#[]⟩, (at_.set i (nn : Int)).getD x.a.toNat 0, (at_.set i (nn : Int)).getD x.b.toNat 0⟩ by rw [← Hset.out]; unfold trR; rw [if_pos h0])
                      have va := O3.out.v.cell x.a.toNat
                      rw [intA_at _ (by rw [List.length_set]; have := hal.out; omega)] at va
                      have vb := O3.out.v.cell x.b.toNat
                      rw [intA_at _ (by rw [List.length_set]; have := hal.out; omega)] at vb
                      obtain ⟨sa, hsa⟩ : ∃ sa, (at_.set i (nn : Int)).getD x.a.toNat 0 = sa := ⟨_, rfl⟩
                      obtain ⟨sb, hsb⟩ : ∃ sb, (at_.set i (nn : Int)).getD x.b.toNat 0 = sb := ⟨_, rfl⟩
                      rw [hsa] at va
                      rw [hsb] at vb
                      have Hy2 := Lib.hid (show trR at_ x = ⟨⟨#[]⟩, sa, sb⟩ by rw [Hy.out, hsa, hsb])
                      obtain ⟨d0, d1, d2⟩ := BX1.out.three
                      have lx := BX1.out.lt
                      have fx := BX1.out.frozen
                      have i1 : x.a < (k : Int) := by omega
                      have i2 : x.b < (k : Int) := by omega
                      clear hsa hsb Hy
                      simp only [he]
                      clear he e0
                      go_wp2_with fail
                      go_region
                      all_goals
                        go_wp2_with fail
                        go_meet
                        have BY := ((BX1.out.set_ 0 (.string .empty)).set_ 1 (.int .i64 sa)).set_ 2 (.int .i64 sb)
                        have hgm := gb_setCell (gb_setCell (gb_set w1 Z 0 (.string .empty)) 1 (.int .i64 sa)) 2 (.int .i64 sb)
                        refine ⟨Lib.hid (O3.out.far hgm Q1.out Q2.out (by omega) (by omega) (by omega) (by omega)).drew, Lib.hid ?_⟩
                        rw [Hy2.out]; exact BY.drew
                    · have e0 : x.l.toList ≠ [] := size1 (by rw [hxl]; show (1 : Nat) ≠ 0; omega)
                      have he : x.l.toList.isEmpty = false := by rw [List.isEmpty_eq_false_iff]; exact e0
                      have Hy := Lib.hid (show trR at_ x = x by unfold trR; rw [if_neg (by rw [hxl]; show (1 : Nat) ≠ 0; omega)])
                      clear hxl hxa hxb
                      simp only [he]
                      clear he e0
                      go_wp2_with fail
                      go_meet
                      exact ⟨O3, by rw [Hy.out]; exact BX1⟩
                  case rest =>
                    obtain ⟨O5, BX5⟩ := hcut
                    clear O3 BX1
                    generalize trR at_ x = y at *
                    have b5 := O5.out.b.cell 0
                    obtain ⟨e0, e1, e2⟩ := BX5.out.three
                    have O7 := Lib.hid (O5.out.alloc (.cells #[.string y.l, .int .i64 y.a, .int .i64 y.b] 82))
                    have BN := Lib.hid (Blk.new wc 82 #[.string y.l, .int .i64 y.a, .int .i64 y.b])
                    go_wp2_with
                      (at_builtin
                       refine wpList_app rfl _ _ _ rfl X 82 3 32 elem_rule Fac.cells A7 nn c7 out rfl O7.out.q ⟨wc.heap.size, 0, none⟩ 1 1 [y] rfl rfl (by omega) (news1 BN.out) (fun x _ => fac_len x) (fun x _ => one_fac x) (by omega) (by omega) (by unfold maxLen; omega) O7.out.n5 ?_
                       intro A9 c9 w9 own9 hg9 hat9
                       have O8 := Lib.hid (O7.out.push own9 hg9)
                       have B9 := O7.out.b.grown hg9 (own_blk_ne O7.out.q O7.out.b (by decide))
                       have f9 := B9.frozen
                       have d9 := B9.cell 0
                       have l9 := B9.lt
                       clear own9 B9)
                    go_roundw
                    case rel => exact ⟨i + 1, nn + 1, A9, c9, out ++ [y], at_.set i (nn : Int), by go_num, by omega, by omega, O8, Lib.hid (by simp [hol.out]), Lib.hid (by simp [hal.out]), E⟩
                    case measure => first | (simp [intOf]; done) | (simp [intOf]; omega)
              · obtain rfl : k = i := by omega
                have hk2 := Lib.hid (show trimL rs = out by
                  rw [key.out, ← HO.out, List.drop_of_length_le (by rw [hkl.out]; exact Nat.le_refl _)]; rfl)
                have b0 := O2.out.b.cell 0
                have o0 := O2.out.o.cell 0
                have fo := O2.out.o.frozen
                go_wp2_with fail
                have hg := gb_set wr w.heap.size 0 (.slice A7 nn c7)
                have x9 := O2.out.o.set_ 0 (.slice A7 nn c7)
                have x10 : (wr.setCell ⟨w.heap.size, 0, none⟩ (.slice A7 nn c7)).cell? ⟨w.heap.size, 0, none⟩ = some (.slice A7 nn c7) := by rw [x9.cell 0]; rfl
                refine bodyPost_ret (v := .agg #[.slice A7 nn c7]) (by simp [results, Try.results44, go_sem, x10]) rfl ⟨A7, c7, by rw [hk2.out, hol.out], ?_, O2.out.e.grown hg O2.out.e.size (fun q hq => by injection hq with hq; omega)⟩
                rw [hk2.out, hol.out]
                exact (O2.out.q.kept hg (.inr fun e => own_blk_ne O2.out.q O2.out.o (by decide) e.symm)).mono (by have := O2.out.n1; have := O2.out.n2; omega)
          · obtain rfl : y = (i : Int) := by omega
            obtain ⟨g5, cp5, hv5, hg50, hg51⟩ := T2.out.r.form (by omega)
            obtain rfl : A5 = some ⟨g5, 0, none⟩ := by injection hv5
            obtain ⟨x, hx⟩ : ∃ x, kept[i]? = some x := ⟨_, List.getElem?_eq_getElem (by have := hkl.out; omega)⟩
            have hxd : kept.getD i default = x := by rw [List.getD_eq_getElem?_getD, hx]; rfl
            have cel := fun (q : Nat) (hq : q < 3) => own_at (sz := 3) (enc := Fac.cells) (fun _ _ => rfl) T2.out.r hkl.out default i (by omega) q hq
            rw [hxd] at cel
            have c0 : wr.cell? ⟨g5, i * 3, none⟩ = some (.string x.l) := cel 0 (by omega)
            have c1 : wr.cell? ⟨g5, i * 3 + 1, none⟩ = some (.int .i64 x.a) := cel 1 (by omega)
            have c2 : wr.cell? ⟨g5, i * 3 + 2, none⟩ = some (.int .i64 x.b) := cel 2 (by omega)
            clear cel hv5
            have bu := B2.out.cell i
            rw [boolA_at u (i := i) (by have := hu.out; omega)] at bu
            have Hus := Lib.hid (show useStep kept i u = if u.getD i false = true ∧ x.l.size = 0 then (u.set x.a.toNat true).set x.b.toNat true else u by unfold useStep; rw [hxd])
            have HU' := Lib.hid (show useT kept i (useStep kept i u) = useT kept k u0 from HU.out)
            have HX := Lib.hid hx
            clear HU hx hxd
            obtain ⟨ub, hub⟩ : ∃ ub, u.getD i false = ub := ⟨_, rfl⟩
            rw [hub] at bu
            have Hub := Lib.hid hub
            clear hub
            have u2 : IntKind.i64.wrap ((i : Int) - 1) = (i : Int) - 1 := IntWalk.i64_in _ (by omega)
            cases ub
            · have e := Hus.out
              rw [Hub.out, if_neg (by simp)] at e
              have E := Lib.hid e
              clear e
              go_wp2_with fail
              go_roundw
              case rel => exact ⟨i, u, _, rfl, by omega, by omega, T2, B2, hu, by rw [E.out] at HU'; exact HU'⟩
              case measure => first | (simp [intOf]; done) | (simp [intOf]; omega)
            · rcases HI.out.k i x HX.out with ⟨h0, ha0, ha1, hb0, hb1⟩ | ⟨cc, hcc, hxl, hxa, hxb⟩
              · have e := Hus.out
                rw [Hub.out, if_pos ⟨rfl, h0⟩] at e
                have E := Lib.hid e
                clear e
                have e0 := size0 h0
                have he : x.l.toList.isEmpty = true := by rw [e0]; rfl
                have nU : U ≠ g5 := fun e => by have := hbd.out.1 g5 rfl; omega
                have fU := B2.out.frozen
                have da := B2.out.cell x.a.toNat
                rw [boolA_at u (by have := hu.out; omega)] at da
                have B5 := B2.out.set_ x.a.toNat (.bool true)
                rw [boolA_set] at B5
                have db2 := B5.cell x.b.toNat
                rw [boolA_at _ (by have := hu.out; rw [List.length_set]; omega)] at db2
                have fU5 := B5.frozen
                clear B5
                have ab : x.a < (k : Int) := by omega
                have bb : x.b < (k : Int) := by omega
                go_wp2_with fail
                go_roundw
                case rel =>
                  have B6 := (B2.out.set_ x.a.toNat (.bool true)).set_ x.b.toNat (.bool true)
                  rw [boolA_set, boolA_set, ← E.out] at B6
                  exact ⟨i, useStep kept i u, _, rfl, by omega, by omega, Lib.hid (T2.out.far (gb_setCell (gb_set wr U _ _) _ _) (fun e => by have := hbd.out.1 _ e.symm; omega) (fun e => by have := hbd.out.2.1 _ e.symm; omega) hbd.out.2.2), Lib.hid B6, Lib.hid (by rw [E.out]; simp [hu.out]), HU'⟩
                case measure => first | (simp [intOf]; done) | (simp [intOf]; omega)
              · have e := Hus.out
                rw [if_neg (by rw [hxl]; rintro ⟨-, h⟩; exact absurd h (show (1 : Nat) ≠ 0 by omega))] at e
                have E := Lib.hid e
                have e0 : x.l.toList ≠ [] := size1 (by rw [hxl]; show (1 : Nat) ≠ 0; omega)
                have he : x.l.toList.isEmpty = false := by rw [List.isEmpty_eq_false_iff]; exact e0
                clear e hxl hxa hxb
                go_wp2_with fail
                go_roundw
                case rel => exact ⟨i, u, _, rfl, by omega, by omega, T2, B2, hu, by rw [E.out] at HU'; exact HU'⟩
                case measure => first | (simp [intOf]; done) | (simp [intOf]; omega)
end Go.Proofs.Ytgdbpkpaacbhhaa
